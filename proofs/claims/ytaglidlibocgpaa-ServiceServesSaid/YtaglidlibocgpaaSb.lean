/-
  The plain law of ServiceServes: the reference's list of kept replies and the server's lists hold the same, so both answer alike.
-/
import Derived.Test.YtaglidlibocgpaaSa
namespace Go.Proofs.Ytaglidlibocgpaa
open Go.RowKit

/-- The reference's list K holds what the server S keeps. -/
structure Eqv (S : Sv) (K : List Rq) : Prop where
  own : ∀ c, ∀ y ∈ S.kept c, y.client = c
  mem : ∀ y, y ∈ K ↔ y ∈ S.kept y.client
  nodup : K.Nodup

theorem asc_nodup {l : List Rq} (h : Asc l) : l.Nodup := by
  rw [List.nodup_iff_pairwise_ne, List.pairwise_iff_getElem]
  intro i j hi hj hij e
  have := h.lt i j hj hij
  rw [e] at this
  exact Int.lt_irrefl _ this

theorem Eqv.count {S : Sv} {K : List Rq} (E : Eqv S K) (ok : SvOk S) (c : Int) : (K.filter fun x => x.client == c).length = (S.kept c).length := by
  apply List.Perm.length_eq
  rw [List.perm_ext_iff_of_nodup (E.nodup.filter _) (asc_nodup (ok.asc c))]
  intro y
  rw [List.mem_filter, E.mem]
  constructor
  · rintro ⟨h1, h2⟩
    have : y.client = c := by simpa using h2
    rwa [this] at h1
  · intro h
    have := E.own c y h
    exact ⟨by rw [this]; exact h, by simpa using this⟩

theorem Eqv.found {S : Sv} {K : List Rq} (E : Eqv S K) (ok : SvOk S) {r : Rq} {k : Nat} (hk : k < K.length) (h1 : K[k].client = r.client) (h2 : K[k].number = r.number) :
    foundAt (S.kept r.client) r.number (posOf (S.kept r.client) r.number) = true ∧ (S.kept r.client).getD (posOf (S.kept r.client) r.number) zeroR = K[k] := by
  have hm := (E.mem K[k]).1 (List.getElem_mem hk)
  rw [h1] at hm
  obtain ⟨j, hj, e⟩ := List.getElem_of_mem hm
  have hf := found_of_mem (ok.asc r.client) hj (e ▸ h2)
  refine ⟨hf.2, ?_⟩
  rw [hf.1, List.getD_eq_getElem?_getD, List.getElem?_eq_getElem hj, e]
  rfl
theorem Eqv.lost {S : Sv} {K : List Rq} (E : Eqv S K) {r : Rq} (h : ∀ x ∈ K, ¬ (x.client = r.client ∧ x.number = r.number)) : foundAt (S.kept r.client) r.number (posOf (S.kept r.client) r.number) = false := by
  rcases hb : foundAt (S.kept r.client) r.number (posOf (S.kept r.client) r.number) with _ | _
  · rfl
  · obtain ⟨hlt, hn⟩ := found_get hb
    have hm := List.getElem_mem hlt
    have hc := E.own _ _ hm
    exact absurd ⟨hc, hn⟩ (h _ ((E.mem _).2 (by rw [hc]; exact hm)))

/-- All the server's numbers are greater just when the reference's least is. -/
theorem Eqv.first {S : Sv} {K : List Rq} (E : Eqv S K) (ok : SvOk S) {r : Rq} {m : Int} {cnt : Nat} (h : ∀ x ∈ K, ¬ (x.client = r.client ∧ x.number = r.number)) (L : LeastAt K r.client K.length m cnt) :
    (posOf (S.kept r.client) r.number = 0 ∧ S.keep ≤ (S.kept r.client).length) ↔ (S.keep ≤ cnt ∧ ∃ j : Nat, ∃ h : j < K.length, m = j ∧ r.number < K[j].number) := by
  have hcnt : cnt = (S.kept r.client).length := by
    have := L.1
    rw [List.take_length] at this
    rw [this, E.count ok]
  have hp := posOf_spec (ok.asc r.client) r.number
  have hk1 := ok.keep1
  rw [hcnt]
  constructor
  · rintro ⟨h1, h2⟩
    refine ⟨h2, ?_⟩
    rcases L.2 with ⟨_, h3⟩ | ⟨j, hj, _, hm, hc, _⟩
    · omega
    · refine ⟨j, hj, hm, ?_⟩
      have hmem := (E.mem K[j]).1 (List.getElem_mem hj)
      rw [hc] at hmem
      obtain ⟨i, hi, e⟩ := List.getElem_of_mem hmem
      have h4 := hp.hi i hi (by omega)
      rw [e] at h4
      have h5 : K[j].number ≠ r.number := fun e => h _ (List.getElem_mem hj) ⟨hc, e⟩
      omega
  · rintro ⟨h1, j, hj, hm, hlt⟩
    refine ⟨?_, h1⟩
    rcases L.2 with ⟨h2, _⟩ | ⟨j', hj', _, hm', hc, hmin⟩
    · omega
    · have : j' = j := by omega
      subst this
      rcases Nat.eq_zero_or_pos (posOf (S.kept r.client) r.number) with h2 | h2
      · exact h2
      · have hl : 0 < (S.kept r.client).length := Nat.lt_of_lt_of_le h2 hp.le
        have h3 := hp.lo 0 hl h2
        have hmem := List.getElem_mem hl
        have hc0 := E.own _ _ hmem
        have hK := (E.mem _).2 (by rw [hc0]; exact hmem)
        obtain ⟨t, ht, e⟩ := List.getElem_of_mem hK
        have h4 := hmin t ht ht (by rw [e]; exact hc0)
        rw [e] at h4
        omega

/-- The server answers as the reference's Old says. -/
theorem Eqv.old {S : Sv} {K : List Rq} (E : Eqv S K) (ok : SvOk S) {r : Rq} {b : Bool} {er : Int} {f : ByteArray → ByteArray} (h : OldWay K S.keep r b er) :
    (er ≠ 0 ∧ b = false ∧ handleS S r (some f) = (S, zeroR, false, er)) ∨
    (er = 0 ∧ b = true ∧ (∃ k : Nat, ∃ h : k < K.length, K[k].client = r.client ∧ K[k].number = r.number) ∧ ∀ k (hk : k < K.length), K[k].client = r.client → K[k].number = r.number → handleS S r (some f) = (S, K[k], false, 0)) ∨
    (er = 0 ∧ b = false ∧ 1 ≤ r.client ∧ 1 ≤ r.number ∧ (∀ x ∈ K, ¬ (x.client = r.client ∧ x.number = r.number)) ∧ foundAt (S.kept r.client) r.number (posOf (S.kept r.client) r.number) = false ∧
      ¬ (posOf (S.kept r.client) r.number = 0 ∧ S.keep ≤ (S.kept r.client).length) ∧ handleS S r (some f) = (servedS S r (clipS (f r.text)), ⟨r.client, r.number, clipS (f r.text)⟩, true, 0)) := by
  rcases h with ⟨h1, rfl, rfl⟩ | ⟨h1, h2, rfl, rfl⟩ | ⟨h1, h2, h3, rfl, rfl⟩ | ⟨h1, h2, h3, rfl, m, cnt, L, h4⟩
  · exact .inl ⟨by decide, rfl, by unfold handleS; rw [if_pos h1]⟩
  · exact .inl ⟨by decide, rfl, by unfold handleS; rw [if_neg h1, if_pos h2]⟩
  · refine .inr (.inl ⟨rfl, rfl, h3, fun k hk hc hn => ?_⟩)
    obtain ⟨e1, e2⟩ := E.found ok hk hc hn
    unfold handleS
    rw [if_neg h1, if_neg h2, if_pos e1, e2]
  · have hf := E.lost h3
    have hiff := E.first ok h3 L
    rcases h4 with ⟨rfl, h5, h6⟩ | ⟨rfl, h5⟩
    · refine .inl ⟨by decide, rfl, ?_⟩
      unfold handleS
      rw [if_neg h1, if_neg h2, if_neg (by rw [hf]; decide), if_pos (hiff.2 ⟨h5, h6⟩)]
    · have hno := fun h => h5 (hiff.1 h)
      refine .inr (.inr ⟨rfl, rfl, by omega, by omega, h3, hf, hno, ?_⟩)
      unfold handleS
      rw [if_neg h1, if_neg h2, if_neg (by rw [hf]; decide), if_neg hno]

end Go.Proofs.Ytaglidlibocgpaa
