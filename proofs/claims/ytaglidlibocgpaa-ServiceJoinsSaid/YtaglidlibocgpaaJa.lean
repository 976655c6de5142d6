/-
  The plain law of ServiceJoins: what a client and a server hold while every request is that of a call of the client.
-/
import Derived.Test.YtaglidlibocgpaaX
import Derived.Test.YtaglidlibocgpaaOa
namespace Go.Proofs.Ytaglidlibocgpaa
open Go.RowKit

/-- The reply to a text. -/
def repS (t : ByteArray) : ByteArray := clipS (answerS t)
theorem repS_size (t : ByteArray) : (repS t).size ≤ 4000 := by
  unfold repS clipS
  split
  · exact Nat.zero_le _
  · omega

/-- The client has asked the texts T; what is answered has the reply to its text. -/
structure JC (C : Cl) (T : List ByteArray) : Prop where
  id : C.id = 3
  ok : ClOk C
  len : C.calls.length = T.length
  call : ∀ i (h : i < C.calls.length) (h' : i < T.length), C.calls[i].text = T[i] ∧ (C.calls[i].state = 0 ∨ (C.calls[i].state = 1 ∧ C.calls[i].reply = repS T[i]))
  small : ∀ t ∈ T, t.size ≤ 100

theorem jc_start : JC ⟨3, 10, 5, []⟩ [] :=
  ⟨rfl, ⟨by decide, by decide, by decide, by decide, by decide, fun x hx => by simp at hx, by simp⟩, rfl, fun i h => by simp at h, fun t h => by simp at h⟩

theorem JC.ask {C : Cl} {T : List ByteArray} (J : JC C T) (hl : T.length ≤ 12) {s : ByteArray} (hs : s.size ≤ 100) : ∃ C', askC C 0 s = (C', (T.length : Int) + 1, 0) ∧ JC C' (T ++ [s]) := by
  have h0 := openN_le C.calls
  have hlen := J.len
  have e : askC C 0 s = ({ C with calls := C.calls ++ [⟨s, 0, 0, 0, ⟨#[]⟩⟩] }, (C.calls.length : Int) + 1, 0) := by
    unfold askC
    rw [if_neg (by omega), if_neg (by omega), if_neg (by omega)]
  have hok := askC_ok J.ok 0 s (by omega)
  rw [e] at hok
  rw [hlen] at e
  refine ⟨_, e, J.id, hok, by simp [hlen], fun i h h' => ?_, fun t ht => ?_⟩
  · dsimp only at h ⊢
    rcases Nat.lt_or_ge i C.calls.length with h1 | h1
    · rw [List.getElem_append_left h1, List.getElem_append_left (by omega)]
      exact J.call i h1 (by omega)
    · have hi : i = C.calls.length := by simp at h; omega
      subst hi
      rw [List.getElem_append_right (Nat.le_refl _), List.getElem_append_right (by omega)]
      simp [hlen]
  · rcases List.mem_append.1 ht with h | h
    · exact J.small t h
    · simp only [List.mem_singleton] at h
      rw [h]
      exact hs

theorem mem_pollOut {id retry tries t : Int} {y : Rq} : ∀ {l : List Asked} {i : Nat}, y ∈ pollOut id retry tries t i l → ∃ j, ∃ h : j < l.length, y = ⟨id, ((i + j : Nat) : Int) + 1, l[j].text⟩
  | [], i, h => by simp [pollOut] at h
  | x :: l, i, h => by
    unfold pollOut at h
    rcases List.mem_append.1 h with h | h
    · split at h
      · simp only [List.mem_singleton] at h
        exact ⟨0, by simp, by simpa using h⟩
      · simp at h
    · obtain ⟨j, hj, e⟩ := mem_pollOut h
      refine ⟨j + 1, by simpa using hj, ?_⟩
      rw [e, show i + 1 + j = i + (j + 1) by omega]
      rfl

/-- A request of a call. -/
def OfCall (T : List ByteArray) (y : Rq) : Prop := ∃ j, ∃ h : j < T.length, y = ⟨3, (j : Int) + 1, T[j]⟩

theorem JC.poll {C : Cl} {T : List ByteArray} (J : JC C T) (t : Int) : ∃ C' l, pollC C t = (C', l) ∧ JC C' T ∧ l.length ≤ T.length ∧ ∀ y ∈ l, OfCall T y := by
  refine ⟨_, _, rfl, ⟨J.id, pollC_ok J.ok t, (pollC_len C t).trans J.len, fun i h h' => ?_, J.small⟩, ?_, fun y hy => ?_⟩
  · have hi : i < C.calls.length := by rw [J.len]; exact h'
    have := J.call i hi h'
    simp only [List.getElem_map]
    unfold pollOne
    split <;> exact this
  · have := pollOut_length C.id C.retry C.tries t C.calls 0
    rw [J.len] at this
    exact this
  · obtain ⟨j, hj, e⟩ := mem_pollOut hy
    have hj' : j < T.length := by rw [← J.len]; exact hj
    exact ⟨j, hj', by rw [e, J.id, (J.call j hj hj').1, Nat.zero_add]⟩

theorem JC.reply {C : Cl} {T : List ByteArray} (J : JC C T) {j : Nat} (hj : j < T.length) : JC (replyC C ⟨3, (j : Int) + 1, repS T[j]⟩).1 T := by
  have hok := replyC_ok J.ok ⟨3, (j : Int) + 1, repS T[j]⟩
  have hln := replyC_len C ⟨3, (j : Int) + 1, repS T[j]⟩
  have hlen := J.len
  have hjc : j < C.calls.length := by omega
  have hs := repS_size T[j]
  have hk : (((j : Int) + 1) - 1).toNat = j := by omega
  by_cases h0 : C.calls[j].state = 0
  · have e : replyC C ⟨3, (j : Int) + 1, repS T[j]⟩ = ({ C with calls := C.calls.set j { C.calls[j] with state := 1, reply := repS T[j] } }, true, 0) := by
      unfold replyC
      dsimp only
      rw [dif_pos ⟨by omega, by omega, J.id.symm⟩, if_neg (by omega)]
      simp only [hk]
      rw [if_pos h0]
    rw [e] at hok hln ⊢
    refine ⟨J.id, hok, by rw [hln, hlen], fun i h h' => ?_, J.small⟩
    have hic : i < C.calls.length := by simpa using h
    dsimp only
    by_cases hij : j = i
    · subst hij
      rw [List.getElem_set_self]
      exact ⟨(J.call j hjc hj).1, .inr ⟨rfl, rfl⟩⟩
    · rw [List.getElem_set_ne hij]
      exact J.call i hic h'
  · have e : replyC C ⟨3, (j : Int) + 1, repS T[j]⟩ = (C, false, 0) := by
      unfold replyC
      dsimp only
      rw [dif_pos ⟨by omega, by omega, J.id.symm⟩, if_neg (by omega)]
      simp only [hk]
      rw [if_neg h0]
    rw [e]
    exact J

theorem JC.result {C : Cl} {T : List ByteArray} (J : JC C T) {j : Nat} (hj : j < T.length) : resultC C ((j : Int) + 1) = (⟨#[]⟩, 10) ∨ resultC C ((j : Int) + 1) = (repS T[j], 0) := by
  have hlen := J.len
  have hjc : j < C.calls.length := by omega
  have hk : (((j : Int) + 1) - 1).toNat = j := by omega
  unfold resultC
  rw [dif_pos ⟨by omega, by omega⟩]
  simp only [hk]
  rcases (J.call j hjc hj).2 with h | ⟨h, h2⟩
  · rw [if_pos h]
    exact .inl rfl
  · rw [if_neg (by omega), if_neg (by omega), h2]
    exact .inr rfl

/-- Numbers that ascend from 1 to n are at most n. -/
theorem asc_ge {l : List Rq} (h : Asc l) : ∀ i (hi : i < l.length), (i : Int) + 1 ≤ l[i].number
  | 0, hi => by have := h.one l[0] (List.getElem_mem _); omega
  | i + 1, hi => by
    have h1 := asc_ge h i (by omega)
    have h2 := h.lt i (i + 1) hi (by omega)
    omega
theorem asc_length {l : List Rq} (h : Asc l) {n : Nat} (hn : ∀ y ∈ l, y.number ≤ n) : l.length ≤ n := by
  rcases Nat.eq_zero_or_pos l.length with h0 | h0
  · omega
  · have h1 := asc_ge h (l.length - 1) (by omega)
    have h2 := hn _ (List.getElem_mem (show l.length - 1 < l.length by omega))
    omega

/-- The server keeps replies to calls of the client, each with the reply to its text, and has done the work once for each. -/
structure JS (S : Sv) (T : List ByteArray) : Prop where
  ok : SvOk S
  keep : S.keep = 12
  kept : ∀ y ∈ S.kept 3, ∃ j, ∃ h : j < T.length, y = ⟨3, (j : Int) + 1, repS T[j]⟩
  done : S.done = (S.kept 3).length

theorem js_start (T : List ByteArray) : JS ⟨12, 0, fun _ => []⟩ T := ⟨sv_ok 12 (by decide) (by decide), rfl, fun y h => by simp at h, rfl⟩

theorem JS.number {S : Sv} {T : List ByteArray} (J : JS S T) : ∀ y ∈ S.kept 3, y.number ≤ (T.length : Nat) := by
  intro y hy
  obtain ⟨j, hj, rfl⟩ := J.kept y hy
  dsimp only
  omega
theorem JS.few {S : Sv} {T : List ByteArray} (J : JS S T) : 0 ≤ S.done ∧ S.done ≤ T.length := by
  have := asc_length (J.ok.asc 3) J.number
  have := J.done
  omega

theorem JS.again {S : Sv} {T : List ByteArray} (J : JS S T) (hs : ∀ t ∈ T, t.size ≤ 100) {j : Nat} (hj : j < T.length) (hm : ∃ y ∈ S.kept 3, y.number = (j : Int) + 1) : handleS S ⟨3, (j : Int) + 1, T[j]⟩ (some answerS) = (S, ⟨3, (j : Int) + 1, repS T[j]⟩, false, 0) := by
  obtain ⟨y, hy, hyn⟩ := hm
  have hsz := hs T[j] (List.getElem_mem _)
  obtain ⟨k, hk, rfl⟩ := List.getElem_of_mem hy
  have hf := found_of_mem (J.ok.asc 3) hk hyn
  obtain ⟨i, hi, e⟩ := J.kept _ (List.getElem_mem hk)
  have hij : i = j := by rw [e] at hyn; dsimp only at hyn; omega
  subst hij
  unfold handleS
  dsimp only
  rw [if_neg (by omega), if_neg (by omega), if_pos hf.2, hf.1, List.getD_eq_getElem?_getD, List.getElem?_eq_getElem hk, e]
  rfl

theorem JS.handle {S : Sv} {T : List ByteArray} (J : JS S T) (hT : T.length ≤ 12) (hs : ∀ t ∈ T, t.size ≤ 100) {j : Nat} (hj : j < T.length) :
    ∃ S' b, handleS S ⟨3, (j : Int) + 1, T[j]⟩ (some answerS) = (S', ⟨3, (j : Int) + 1, repS T[j]⟩, b, 0) ∧ JS S' T ∧ handleS S' ⟨3, (j : Int) + 1, T[j]⟩ (some answerS) = (S', ⟨3, (j : Int) + 1, repS T[j]⟩, false, 0) := by
  by_cases hm : ∃ y ∈ S.kept 3, y.number = (j : Int) + 1
  · exact ⟨S, false, J.again hs hj hm, J, J.again hs hj hm⟩
  · have hsz := hs T[j] (List.getElem_mem _)
    have hp := posOf_spec (J.ok.asc 3) ((j : Int) + 1)
    have hf : foundAt (S.kept 3) ((j : Int) + 1) (posOf (S.kept 3) ((j : Int) + 1)) = false := by
      rcases hb : foundAt (S.kept 3) ((j : Int) + 1) (posOf (S.kept 3) ((j : Int) + 1)) with _ | _
      · rfl
      · obtain ⟨hlt, hn⟩ := found_get hb
        exact absurd ⟨_, List.getElem_mem hlt, hn⟩ hm
    obtain ⟨q, hq⟩ : ∃ q, q = (S.kept 3).take (posOf (S.kept 3) ((j : Int) + 1)) ++ (⟨3, (j : Int) + 1, repS T[j]⟩ : Rq) :: (S.kept 3).drop (posOf (S.kept 3) ((j : Int) + 1)) := ⟨_, rfl⟩
    have hqa : Asc q := by rw [hq]; exact asc_insert (r := ⟨3, (j : Int) + 1, repS T[j]⟩) (J.ok.asc 3) hp hf (by dsimp only; omega) (by dsimp only; omega)
    have hqm : ∀ y ∈ q, y = ⟨3, (j : Int) + 1, repS T[j]⟩ ∨ y ∈ S.kept 3 := by
      intro y hy
      rw [hq] at hy
      rcases List.mem_append.1 hy with h | h
      · exact .inr (List.mem_of_mem_take h)
      · rcases List.mem_cons.1 h with h | h
        · exact .inl h
        · exact .inr (List.mem_of_mem_drop h)
    have hql : q.length = (S.kept 3).length + 1 := by rw [hq]; have := hp.le; simp; omega
    have hqn := asc_length hqa (n := T.length) (fun y hy => by
      rcases hqm y hy with rfl | h
      · dsimp only; omega
      · exact J.number y h)
    have e : handleS S ⟨3, (j : Int) + 1, T[j]⟩ (some answerS) = (servedS S ⟨3, (j : Int) + 1, T[j]⟩ (repS T[j]), ⟨3, (j : Int) + 1, repS T[j]⟩, true, 0) := by
      have hkp := J.keep
      unfold handleS
      dsimp only
      rw [if_neg (by omega), if_neg (by omega), if_neg (by rw [hf]; decide), if_neg (by omega)]
      rfl
    have hok := handleS_ok J.ok ⟨3, (j : Int) + 1, T[j]⟩ (some answerS) (by dsimp only; omega)
    rw [e] at hok
    have hk3 : (servedS S ⟨3, (j : Int) + 1, T[j]⟩ (repS T[j])).kept 3 = q := by
      have hkp := J.keep
      unfold servedS
      dsimp only
      rw [if_pos rfl, hkp, show (S.kept 3).length + 1 - (12 : Int).toNat = 0 by have : (12 : Int).toNat = 12 := rfl; omega, List.drop_zero, hq]
    have hJ : JS (servedS S ⟨3, (j : Int) + 1, T[j]⟩ (repS T[j])) T := by
      refine ⟨hok, J.keep, fun y hy => ?_, ?_⟩
      · rw [hk3] at hy
        rcases hqm y hy with h | h
        · exact ⟨j, hj, h⟩
        · exact J.kept y h
      · rw [hk3, hql]
        have := J.done
        unfold servedS
        dsimp only
        omega
    refine ⟨_, true, e, hJ, hJ.again hs hj ⟨⟨3, (j : Int) + 1, repS T[j]⟩, ?_, rfl⟩⟩
    rw [hk3, hq]
    simp

end Go.Proofs.Ytaglidlibocgpaa
