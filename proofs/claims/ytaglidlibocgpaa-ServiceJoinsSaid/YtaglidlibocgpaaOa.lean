/-
  The plain law of ServiceOnce: what was answered is kept, or so old that it is refused; so the work is done once.
-/
import Derived.Test.YtaglidlibocgpaaL
namespace Go.Proofs.Ytaglidlibocgpaa
open Go.RowKit

/-- What a server with work does with a request: an error, a kept reply, or the work. -/
theorem handleS_ways (S : Sv) (r : Rq) (f : ByteArray → ByteArray) :
    (∃ e, e ≠ 0 ∧ handleS S r (some f) = (S, zeroR, false, e)) ∨
    (1 ≤ r.client ∧ 1 ≤ r.number ∧ foundAt (S.kept r.client) r.number (posOf (S.kept r.client) r.number) = true ∧ handleS S r (some f) = (S, (S.kept r.client).getD (posOf (S.kept r.client) r.number) zeroR, false, 0)) ∨
    (1 ≤ r.client ∧ 1 ≤ r.number ∧ foundAt (S.kept r.client) r.number (posOf (S.kept r.client) r.number) = false ∧ ¬ (posOf (S.kept r.client) r.number = 0 ∧ S.keep ≤ (S.kept r.client).length) ∧
      handleS S r (some f) = (servedS S r (clipS (f r.text)), ⟨r.client, r.number, clipS (f r.text)⟩, true, 0)) := by
  unfold handleS
  by_cases h1 : r.client < 1 ∨ r.number < 1
  · rw [if_pos h1]
    exact .inl ⟨4, by decide, rfl⟩
  · rw [if_neg h1]
    by_cases h2 : 4000 < r.text.size
    · rw [if_pos h2]
      exact .inl ⟨3, by decide, rfl⟩
    · rw [if_neg h2]
      by_cases h3 : foundAt (S.kept r.client) r.number (posOf (S.kept r.client) r.number) = true
      · rw [if_pos h3]
        exact .inr (.inl ⟨by omega, by omega, h3, rfl⟩)
      · rw [if_neg h3]
        by_cases h4 : posOf (S.kept r.client) r.number = 0 ∧ S.keep ≤ (S.kept r.client).length
        · rw [if_pos h4]
          exact .inl ⟨10, by decide, rfl⟩
        · rw [if_neg h4]
          exact .inr (.inr ⟨by omega, by omega, by simpa using h3, h4, rfl⟩)

/-- Where a number is kept, it is at its place. -/
theorem found_of_mem {l : List Rq} (ha : Asc l) {n : Int} {j : Nat} (hj : j < l.length) (hn : l[j].number = n) : posOf l n = j ∧ foundAt l n (posOf l n) = true := by
  have hp := posOf_spec ha n
  have h1 : ¬ j < posOf l n := fun h => by have := hp.lo j hj h; omega
  have h2 : ¬ posOf l n < j := fun h => by
    have h3 := hp.hi (posOf l n) (by omega) (Nat.le_refl _)
    have h4 := ha.lt (posOf l n) j hj h
    omega
  have h3 : posOf l n = j := by omega
  refine ⟨h3, ?_⟩
  rw [h3]
  unfold foundAt
  rw [List.getElem?_eq_getElem hj]
  simp [hn]
theorem found_get {l : List Rq} {n : Int} (h : foundAt l n (posOf l n) = true) : ∃ hlt : posOf l n < l.length, (l[posOf l n]'hlt).number = n := by
  rcases Nat.lt_or_ge (posOf l n) l.length with hlt | hge
  · refine ⟨hlt, ?_⟩
    unfold foundAt at h
    rw [List.getElem?_eq_getElem hlt] at h
    simpa using h
  · unfold foundAt at h
    rw [List.getElem?_eq_none hge] at h
    cases h

/-- All replies so far (R): each is kept, or older than all that is kept; and what is kept was replied. -/
structure HistOk (S : Sv) (R : List Rq) : Prop where
  fwd : ∀ h ∈ R, 1 ≤ h.client → h ∈ S.kept h.client ∨ (S.keep ≤ (S.kept h.client).length ∧ ∀ y ∈ S.kept h.client, h.number < y.number)
  bwd : ∀ c, ∀ y ∈ S.kept c, y.client = c ∧ 1 ≤ c ∧ y ∈ R

theorem HistOk.found {S : Sv} {R : List Rq} (H : HistOk S R) (ok : SvOk S) {r : Rq} (h : foundAt (S.kept r.client) r.number (posOf (S.kept r.client) r.number) = true) :
    ∃ x, (S.kept r.client).getD (posOf (S.kept r.client) r.number) zeroR = x ∧ x.client = r.client ∧ x.number = r.number ∧ x ∈ R ∧ ∀ y ∈ R, y.client = x.client → y.number = x.number → y = x := by
  obtain ⟨hlt, hnum⟩ := found_get h
  have hx := List.getElem_mem hlt
  obtain ⟨b1, b2, b3⟩ := H.bwd _ _ hx
  refine ⟨(S.kept r.client)[posOf (S.kept r.client) r.number], by rw [List.getD_eq_getElem?_getD, List.getElem?_eq_getElem hlt]; rfl, b1, hnum, b3, fun y hy hc hn => ?_⟩
  rw [b1] at hc
  rw [hnum] at hn
  rcases H.fwd y hy (by omega) with h1 | ⟨_, h1⟩
  · rw [hc] at h1
    obtain ⟨j, hj, rfl⟩ := List.getElem_of_mem h1
    have := (found_of_mem (ok.asc _) hj hn).1
    simp only [this]
  · rw [hc] at h1
    have := h1 _ hx
    omega

theorem HistOk.fresh {S : Sv} {R : List Rq} (H : HistOk S R) (ok : SvOk S) {r : Rq} (h1 : 1 ≤ r.client) (h : foundAt (S.kept r.client) r.number (posOf (S.kept r.client) r.number) = false) (h0 : ¬ (posOf (S.kept r.client) r.number = 0 ∧ S.keep ≤ (S.kept r.client).length)) :
    ∀ y ∈ R, ¬ (y.client = r.client ∧ y.number = r.number) := by
  intro y hy ⟨hc, hn⟩
  rcases H.fwd y hy (by omega) with h2 | ⟨h2, h3⟩
  · rw [hc] at h2
    obtain ⟨j, hj, rfl⟩ := List.getElem_of_mem h2
    rw [(found_of_mem (ok.asc _) hj hn).2] at h
    cases h
  · rw [hc] at h2 h3
    refine h0 ⟨?_, h2⟩
    have hp := posOf_spec (ok.asc r.client) r.number
    rcases Nat.eq_zero_or_pos (posOf (S.kept r.client) r.number) with e | e
    · exact e
    · have hl : 0 < (S.kept r.client).length := Nat.lt_of_lt_of_le e hp.le
      have := hp.lo 0 hl e
      have := h3 _ (List.getElem_mem hl)
      omega

/-- More of the same list. -/
theorem HistOk.more {S : Sv} {R R' : List Rq} (H : HistOk S R) (h1 : ∀ y ∈ R', 1 ≤ y.client → y ∈ R) (h2 : ∀ y ∈ R, 1 ≤ y.client → y ∈ R') : HistOk S R' :=
  ⟨fun y hy hc => H.fwd y (h1 y hy hc) hc, fun c y hy => by
    obtain ⟨b1, b2, b3⟩ := H.bwd c y hy
    exact ⟨b1, b2, h2 y b3 (by omega)⟩⟩

theorem HistOk.served {S : Sv} {R R' : List Rq} (H : HistOk S R) (ok : SvOk S) {r : Rq} {T : ByteArray} (h1 : 1 ≤ r.client) (hn1 : 1 ≤ r.number) (hn2 : r.number ≤ 9223372036854775807) (h : foundAt (S.kept r.client) r.number (posOf (S.kept r.client) r.number) = false)
    (h0 : ¬ (posOf (S.kept r.client) r.number = 0 ∧ S.keep ≤ (S.kept r.client).length)) (hR1 : ∀ y ∈ R', 1 ≤ y.client → y ∈ R ∨ y = ⟨r.client, r.number, T⟩) (hR2 : ∀ y ∈ R, 1 ≤ y.client → y ∈ R') (hR3 : (⟨r.client, r.number, T⟩ : Rq) ∈ R') :
    HistOk (servedS S r T) R' := by
  obtain ⟨l, hl⟩ : ∃ l, l = S.kept r.client := ⟨_, rfl⟩
  obtain ⟨i, hi⟩ : ∃ i, i = posOf (S.kept r.client) r.number := ⟨_, rfl⟩
  have hp := posOf_spec (ok.asc r.client) r.number
  have ha := ok.asc r.client
  have hlen := ok.len r.client
  have hk1 := ok.keep1
  have hbw := H.bwd r.client
  rw [← hi] at hp h h0
  rw [← hl] at hp ha hlen h h0 hbw
  obtain ⟨m, hm⟩ : ∃ m, m = l.take i ++ (⟨r.client, r.number, T⟩ : Rq) :: l.drop i := ⟨_, rfl⟩
  have hma : Asc m := by rw [hm]; exact asc_insert (r := ⟨r.client, r.number, T⟩) ha hp h hn1 hn2
  have hile := hp.le
  have hml : m.length = l.length + 1 := by rw [hm]; simp; omega
  obtain ⟨d, hd⟩ : ∃ d, d = l.length + 1 - S.keep.toNat := ⟨_, rfl⟩
  have hk : ∀ c, (servedS S r T).kept c = if c = r.client then m.drop d else S.kept c := by
    intro c
    rw [hm, hd, hi, hl]
    rfl
  have hkk : (servedS S r T).keep = S.keep := rfl
  have hmem : ∀ y, y ∈ m ↔ y ∈ l ∨ y = ⟨r.client, r.number, T⟩ := by
    intro y
    rw [hm, List.mem_append, List.mem_cons]
    constructor
    · rintro (hy | rfl | hy)
      · exact .inl (List.mem_of_mem_take hy)
      · exact .inr rfl
      · exact .inl (List.mem_of_mem_drop hy)
    · rintro (hy | rfl)
      · rw [← List.take_append_drop i l, List.mem_append] at hy
        exact hy.elim .inl (fun h => .inr (.inr h))
      · exact .inr (.inl rfl)
  -- an entry of m is in what is kept, or before all of it
  have hsplit : ∀ j (hj : j < m.length), m[j] ∈ m.drop d ∨ (S.keep ≤ (m.drop d).length ∧ ∀ y ∈ m.drop d, (m[j]).number < y.number) := by
    intro j hj
    rcases Nat.lt_or_ge j d with hjd | hjd
    · refine .inr ⟨by rw [List.length_drop]; omega, fun y hy => ?_⟩
      obtain ⟨k, hk', rfl⟩ := List.getElem_of_mem hy
      rw [List.getElem_drop]
      exact hma.lt j (d + k) (by rw [List.length_drop] at hk'; omega) (by omega)
    · refine .inl ?_
      rw [List.mem_iff_getElem]
      refine ⟨j - d, by rw [List.length_drop]; omega, ?_⟩
      rw [List.getElem_drop]
      congr 1
      omega
  refine ⟨fun y hy hc => ?_, fun c y hy => ?_⟩
  · rw [hk, hkk]
    by_cases he : y.client = r.client
    · rw [if_pos he]
      have hcase : y ∈ m ∨ (S.keep ≤ l.length ∧ ∀ z ∈ l, y.number < z.number) := by
        rcases hR1 y hy hc with hy | rfl
        · rcases H.fwd y hy hc with h2 | h2
          · rw [he, ← hl] at h2
            exact .inl ((hmem y).2 (.inl h2))
          · rw [he, ← hl] at h2
            exact .inr h2
        · exact .inl ((hmem _).2 (.inr rfl))
      rcases hcase with hy' | ⟨h2, h3⟩
      · obtain ⟨j, hj, rfl⟩ := List.getElem_of_mem hy'
        exact hsplit j hj
      · refine .inr ⟨by rw [List.length_drop]; omega, fun z hz => ?_⟩
        rcases (hmem z).1 (List.mem_of_mem_drop hz) with h4 | rfl
        · exact h3 z h4
        · have hi0 : 0 < i := by
            rcases Nat.eq_zero_or_pos i with e | e
            · exact absurd ⟨e, h2⟩ h0
            · exact e
          have hl0 : 0 < l.length := by omega
          have h5 := h3 _ (List.getElem_mem hl0)
          have h6 := hp.lo 0 hl0 hi0
          show y.number < r.number
          omega
    · rw [if_neg he]
      rcases hR1 y hy hc with hy | rfl
      · exact H.fwd y hy hc
      · exact absurd rfl he
  · rw [hk] at hy
    by_cases he : c = r.client
    · rw [if_pos he] at hy
      rcases (hmem y).1 (List.mem_of_mem_drop hy) with h4 | rfl
      · obtain ⟨b1, b2, b3⟩ := hbw y h4
        exact ⟨b1.trans he.symm, by omega, hR2 y b3 (by omega)⟩
      · exact ⟨he.symm, by omega, hR3⟩
    · rw [if_neg he] at hy
      obtain ⟨b1, b2, b3⟩ := H.bwd c y hy
      exact ⟨b1, b2, hR2 y b3 (by omega)⟩

end Go.Proofs.Ytaglidlibocgpaa
