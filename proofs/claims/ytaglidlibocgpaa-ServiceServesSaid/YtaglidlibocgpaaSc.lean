/-
  The plain law of ServiceServes: behind the work both keep the same again.
-/
import Derived.Test.YtaglidlibocgpaaSb
namespace Go.Proofs.Ytaglidlibocgpaa
open Go.RowKit

theorem mem_eraseIdx_nodup {l : List Rq} (h : l.Nodup) {j : Nat} (hj : j < l.length) (y : Rq) : y ∈ l.eraseIdx j ↔ y ∈ l ∧ y ≠ l[j] := by
  rw [List.mem_eraseIdx_iff_getElem]
  have hp := List.pairwise_iff_getElem.1 (List.nodup_iff_pairwise_ne.1 h)
  constructor
  · rintro ⟨i, hi, hij, rfl⟩
    refine ⟨List.getElem_mem hi, fun e => ?_⟩
    rcases Nat.lt_trichotomy i j with h1 | h1 | h1
    · exact hp i j hi hj h1 e
    · exact hij h1
    · exact hp j i hj hi h1 e.symm
  · rintro ⟨h1, h2⟩
    obtain ⟨i, hi, rfl⟩ := List.getElem_of_mem h1
    exact ⟨i, hi, fun e => h2 (by subst e; rfl), rfl⟩
theorem mem_drop_one {l : List Rq} (h : l.Nodup) (hl : 0 < l.length) (y : Rq) : y ∈ l.drop 1 ↔ y ∈ l ∧ y ≠ l[0] := by
  rw [← mem_eraseIdx_nodup h hl]
  cases l with
  | nil => simp at hl
  | cons a l => simp

/-- The reference's list behind the work. -/
def refKept (K : List Rq) (keep : Int) (x : Rq) (m : Int) (cnt : Nat) : List Rq := if keep < (cnt : Int) then (K ++ [x]).eraseIdx m.toNat else K ++ [x]

theorem Eqv.served {S : Sv} {K : List Rq} (E : Eqv S K) (ok : SvOk S) {r : Rq} {T : ByteArray} {m : Int} {cnt : Nat} (hn1 : 1 ≤ r.number) (hn2 : r.number ≤ 9223372036854775807) (hno : ∀ x ∈ K, ¬ (x.client = r.client ∧ x.number = r.number))
    (hf : foundAt (S.kept r.client) r.number (posOf (S.kept r.client) r.number) = false) (L : LeastAt (K ++ [(⟨r.client, r.number, T⟩ : Rq)]) r.client (K ++ [(⟨r.client, r.number, T⟩ : Rq)]).length m cnt) :
    Eqv (servedS S r T) (refKept K S.keep ⟨r.client, r.number, T⟩ m cnt) := by
  obtain ⟨x, hx⟩ : ∃ x : Rq, x = ⟨r.client, r.number, T⟩ := ⟨_, rfl⟩
  have hxc : x.client = r.client := by rw [hx]
  have hxn : x.number = r.number := by rw [hx]
  rw [← hx] at L ⊢
  obtain ⟨l, hl⟩ : ∃ l, l = S.kept r.client := ⟨_, rfl⟩
  obtain ⟨i, hi⟩ : ∃ i, i = posOf (S.kept r.client) r.number := ⟨_, rfl⟩
  have hp := posOf_spec (ok.asc r.client) r.number
  have ha := ok.asc r.client
  have hlen := ok.len r.client
  have hk1 := ok.keep1
  have hcount := E.count ok r.client
  rw [← hi] at hp hf
  rw [← hl] at hp ha hlen hf hcount
  obtain ⟨q, hq⟩ : ∃ q, q = l.take i ++ x :: l.drop i := ⟨_, rfl⟩
  have hqa : Asc q := by rw [hq, hx]; exact asc_insert (r := ⟨r.client, r.number, T⟩) ha hp hf hn1 hn2
  have hql : q.length = l.length + 1 := by rw [hq]; have := hp.le; simp; omega
  have hqn := asc_nodup hqa
  obtain ⟨d, hd⟩ : ∃ d, d = l.length + 1 - S.keep.toNat := ⟨_, rfl⟩
  have hk : ∀ c, (servedS S r T).kept c = if c = r.client then q.drop d else S.kept c := by
    intro c
    rw [hq, hd, hi, hl, hx]
    rfl
  have hqm : ∀ y, y ∈ q ↔ y ∈ l ∨ y = x := by
    intro y
    rw [hq, List.mem_append, List.mem_cons]
    constructor
    · rintro (hy | rfl | hy)
      · exact .inl (List.mem_of_mem_take hy)
      · exact .inr rfl
      · exact .inl (List.mem_of_mem_drop hy)
    · rintro (hy | rfl)
      · rw [← List.take_append_drop i l, List.mem_append] at hy
        exact hy.elim .inl (fun h => .inr (.inr h))
      · exact .inr (.inl rfl)
  have hK1 : ∀ y, y ∈ K ++ [x] ↔ y ∈ K ∨ y = x := by intro y; simp
  have hxK : x ∉ K := fun h => hno x h ⟨hxc, hxn⟩
  have hnd : (K ++ [x]).Nodup := by
    rw [List.nodup_append]
    exact ⟨E.nodup, by simp, fun a ha b hb => by simp only [List.mem_singleton] at hb; subst hb; intro e; subst e; exact hxK ha⟩
  have hcnt : cnt = l.length + 1 := by
    have := L.1
    rw [List.take_length, List.filter_append, List.length_append, hcount] at this
    rw [this]
    simp [hxc]
  -- the entries of the client in the reference's list are those of q
  have hmq : ∀ y : Rq, y.client = r.client → (y ∈ K ++ [x] ↔ y ∈ q) := by
    intro y hy
    rw [hK1, hqm, E.mem, hy, hl]
  have hown : ∀ y ∈ q, y.client = r.client := by
    intro y hy
    rcases (hqm y).1 hy with h | rfl
    · exact E.own _ _ (hl ▸ h)
    · exact hxc
  unfold refKept
  by_cases hbig : S.keep < (cnt : Int)
  · rw [if_pos hbig]
    have hd1 : d = 1 := by omega
    have hq0 : 0 < q.length := by omega
    rcases L.2 with ⟨_, h0⟩ | ⟨j, hj, _, rfl, hjc, hmin⟩
    · omega
    · have hj0 : (K ++ [x])[j] = q[0] := by
        have h1 := (hmq _ hjc).1 (List.getElem_mem hj)
        obtain ⟨t, ht, e⟩ := List.getElem_of_mem h1
        have h2 := (hmq _ (hown _ (List.getElem_mem hq0))).2 (List.getElem_mem hq0)
        obtain ⟨s, hs, e2⟩ := List.getElem_of_mem h2
        have h3 := hmin s hs hs (by rw [e2]; exact hown _ (List.getElem_mem hq0))
        rw [e2, ← e] at h3
        rcases Nat.eq_zero_or_pos t with h4 | h4
        · subst h4
          exact e.symm
        · have := hqa.lt 0 t ht h4
          omega
      rw [show ((j : Nat) : Int).toNat = j by simp]
      refine ⟨fun c y hy => ?_, fun y => ?_, (List.eraseIdx_sublist _ _).nodup hnd⟩
      · rw [hk] at hy
        by_cases hc : c = r.client
        · rw [if_pos hc] at hy
          rw [hc]
          exact hown y (List.mem_of_mem_drop hy)
        · rw [if_neg hc] at hy
          exact E.own c y hy
      · rw [hk, mem_eraseIdx_nodup hnd hj, hj0]
        by_cases hc : y.client = r.client
        · rw [if_pos hc, hd1, mem_drop_one hqn hq0, hmq y hc]
        · rw [if_neg hc, hK1]
          have h1 : y ≠ x := fun e => hc (e ▸ hxc)
          have h2 : y ≠ q[0] := fun e => hc (e ▸ hown _ (List.getElem_mem hq0))
          rw [← E.mem]
          simp [h1, h2]
  · rw [if_neg hbig]
    have hd0 : d = 0 := by omega
    refine ⟨fun c y hy => ?_, fun y => ?_, hnd⟩
    · rw [hk] at hy
      by_cases hc : c = r.client
      · rw [if_pos hc, hd0, List.drop_zero] at hy
        rw [hc]
        exact hown y hy
      · rw [if_neg hc] at hy
        exact E.own c y hy
    · rw [hk]
      by_cases hc : y.client = r.client
      · rw [if_pos hc, hd0, List.drop_zero, hmq y hc]
      · rw [if_neg hc, hK1, ← E.mem]
        have h1 : y ≠ x := fun e => hc (e ▸ hxc)
        simp [h1]

end Go.Proofs.Ytaglidlibocgpaa
