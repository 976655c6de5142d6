/-
  The reference's find, least and Old: contracts.
-/
import Derived.Test.YtaglidlibocgpaaOc
namespace Go.Proofs.Ytaglidlibocgpaa
open Go.RowKit

/-- The reference's find. -/
def FindEnds (K : List Rq) (c n : Int) (w : World) (e : Ending) (w' : World) : Prop :=
  Below w.heap.size w w' ∧ ((∃ k : Nat, ∃ h : k < K.length, e = .returned (.int .i64 k) ∧ K[k].client = c ∧ K[k].number = n) ∨ (e = .returned (.int .i64 (-1)) ∧ ∀ x ∈ K, ¬ (x.client = c ∧ x.number = n)))

set_option maxRecDepth 100000 in
set_option maxHeartbeats 1000000 in
theorem rfind_any (K : List Rq) (keep done c n : Int) (v : Value) (w : World) (hr : Reads w v K.length 3 (rqs K)) (hl : K.length ≤ 1000) :
    Calls Try.prog 31 #[.agg #[.int .i64 keep, v, .int .i64 done], .int .i64 c, .int .i64 n] w (FindEnds K c n w) := by
  obtain ⟨a, cap, rfl, hc, hm⟩ := hr.shape
  have HR := hid hr
  clear hr
  go_enter Try.func31, Try.ntmps31
  go_upto_region 1 with fail
  obtain ⟨w1, hw1⟩ : ∃ w1, w1 = w.alloc (.cells #[.int .i64 keep, .slice a K.length cap, .int .i64 done] 31) := ⟨_, rfl⟩
  have hb1 : Below w.heap.size w w1 := by rw [hw1]; exact (Below.refl _ _).alloc (Nat.le_refl _) _
  have b1 : w1.cell? ⟨w.heap.size, 1, none⟩ = some (.slice a K.length cap) := by rw [hw1]; simp
  have lb : w.heap.size < w1.heap.size := World.block_lt_of_cell? w1 _ b1
  have HR1 := hid (HR.out.below hb1)
  have HB1 := hid hb1
  rw [← hw1]
  clear hw1 hb1
  go_wp2_with fail
  go_loopg [7] (K.length + 1) (fun g i wr => ∃ k : Nat, i = .int .i64 k ∧ k ≤ K.length ∧ K.length - k < g ∧ Below w1.heap.size w1 wr ∧ ∀ j (h : j < K.length), j < k → ¬ (K[j].client = c ∧ K[j].number = n))
  case atStart => exact ⟨0, rfl, by omega, by omega, Below.refl _ _, fun j _ h => by omega⟩
  case round =>
    obtain ⟨k, rfl, hk, hg, hb, hno⟩ := hrel
    have cb : wr.cell? ⟨w.heap.size, 1, none⟩ = some (.slice a K.length cap) := (hb.cell (p := ⟨w.heap.size, 1, none⟩) lb).trans b1
    have HNO := hid hno
    clear hno
    by_cases hlt : k < K.length
    · obtain ⟨b, o, rfl⟩ := HR1.out.addr (by omega)
      obtain ⟨g0, g1, g2⟩ := rqs_get K k hlt
      have hrk := HR1.out.below hb
      have c0 := hrk.cell g0
      have c1 := hrk.cell g1
      rw [← Nat.add_assoc] at c1
      obtain ⟨x, hx⟩ : ∃ x, x = K[k] := ⟨_, rfl⟩
      rw [← hx] at c0 c1
      have HX := hid hx
      have HB := hid hb
      clear hx g0 g1 g2 hrk hb b1
      by_cases h1 : x.client = c
      · have e1 : (x.client == c) = true := by simpa using h1
        by_cases h2 : x.number = n
        · have e2 : (x.number == n) = true := by simpa using h2
          have H1 := hid h1
          have H2 := hid h2
          clear h1 h2
          go_wp2_with fail
          go_ret
          exact ⟨HB1.out.trans (HB.out.mono HB1.out.size), .inl ⟨k, hlt, rfl, HX.out ▸ H1.out, HX.out ▸ H2.out⟩⟩
        · have e2 : (x.number == n) = false := by simpa using h2
          have H2 := hid h2
          clear h1 h2
          go_wp2_with fail
          go_roundg (gk - 1)
          case measure => omega
          case rel => exact ⟨k + 1, by go_num, by omega, by omega, HB.out, once_next HNO.out (fun hjj => by rw [← HX.out]; exact fun hh => H2.out hh.2)⟩
      · have e1 : (x.client == c) = false := by simpa using h1
        have H1 := hid h1
        clear h1
        go_wp2_with fail
        go_roundg (gk - 1)
        case measure => omega
        case rel => exact ⟨k + 1, by go_num, by omega, by omega, HB.out, once_next HNO.out (fun hjj => by rw [← HX.out]; exact fun hh => H1.out hh.1)⟩
    · have HB := hid hb
      clear hb
      go_wp2_with fail
      go_ret
      refine ⟨HB1.out.trans (HB.out.mono HB1.out.size), .inr ⟨rfl, fun x hx => ?_⟩⟩
      obtain ⟨j, hj, rfl⟩ := List.getElem_of_mem hx
      exact HNO.out j hj (by omega)

/-- The entries of a client among the first k, and the least of them (m; -1: none). -/
def LeastAt (K : List Rq) (c : Int) (k : Nat) (m : Int) (cnt : Nat) : Prop :=
  cnt = ((K.take k).filter fun x => x.client == c).length ∧ ((m = -1 ∧ cnt = 0) ∨ ∃ j : Nat, ∃ h : j < K.length, j < k ∧ m = j ∧ K[j].client = c ∧ ∀ t (ht : t < K.length), t < k → K[t].client = c → K[j].number ≤ K[t].number)

theorem least_skip {K : List Rq} {c : Int} {k : Nat} {m : Int} {cnt : Nat} (L : LeastAt K c k m cnt) (hk : k < K.length) (h : K[k].client ≠ c) : LeastAt K c (k + 1) m cnt := by
  obtain ⟨h1, h2⟩ := L
  refine ⟨?_, ?_⟩
  · rw [List.take_succ_eq_append_getElem hk, List.filter_append, List.length_append, ← h1]
    simp [h]
  · rcases h2 with h2 | ⟨j, hj, hjk, hm, hc, hmin⟩
    · exact .inl h2
    · refine .inr ⟨j, hj, by omega, hm, hc, fun t ht htk htc => ?_⟩
      rcases Nat.lt_or_ge t k with h3 | h3
      · exact hmin t ht h3 htc
      · have : t = k := by omega
        subst this
        exact absurd htc h
theorem least_first {K : List Rq} {c : Int} {k : Nat} {cnt : Nat} (L : LeastAt K c k (-1) cnt) (hk : k < K.length) (h : K[k].client = c) : LeastAt K c (k + 1) k (cnt + 1) := by
  obtain ⟨h1, h2⟩ := L
  have h0 : cnt = 0 := by
    rcases h2 with h2 | ⟨j, hj, hjk, hm, _⟩
    · exact h2.2
    · omega
  refine ⟨?_, .inr ⟨k, hk, by omega, rfl, h, fun t ht htk htc => ?_⟩⟩
  · rw [List.take_succ_eq_append_getElem hk, List.filter_append, List.length_append, ← h1]
    simp [h]
  · rcases Nat.lt_or_ge t k with h3 | h3
    · have hmem : K[t] ∈ (K.take k).filter fun x => x.client == c := by
        rw [List.mem_filter]
        exact ⟨List.mem_take_iff_getElem.2 ⟨t, by omega, rfl⟩, by simpa using htc⟩
      rw [List.length_eq_zero_iff.1 (h1.symm.trans h0)] at hmem
      cases hmem
    · have : t = k := by omega
      subst this
      exact Int.le_refl _
theorem least_more {K : List Rq} {c : Int} {k j : Nat} {cnt : Nat} (L : LeastAt K c k j cnt) (hk : k < K.length) (h : K[k].client = c) (hj : j < K.length) (hle : K[j].number ≤ K[k].number) : LeastAt K c (k + 1) j (cnt + 1) := by
  obtain ⟨h1, h2⟩ := L
  refine ⟨?_, ?_⟩
  · rw [List.take_succ_eq_append_getElem hk, List.filter_append, List.length_append, ← h1]
    simp [h]
  · rcases h2 with h2 | ⟨j', hj', hjk, hm, hc, hmin⟩
    · omega
    · have : j' = j := by omega
      subst this
      refine .inr ⟨j', hj', by omega, rfl, hc, fun t ht htk htc => ?_⟩
      rcases Nat.lt_or_ge t k with h3 | h3
      · exact hmin t ht h3 htc
      · have : t = k := by omega
        subst this
        exact hle
theorem least_less {K : List Rq} {c : Int} {k j : Nat} {cnt : Nat} (L : LeastAt K c k j cnt) (hk : k < K.length) (h : K[k].client = c) (hj : j < K.length) (hlt : K[k].number < K[j].number) : LeastAt K c (k + 1) k (cnt + 1) := by
  obtain ⟨h1, h2⟩ := L
  refine ⟨?_, ?_⟩
  · rw [List.take_succ_eq_append_getElem hk, List.filter_append, List.length_append, ← h1]
    simp [h]
  · rcases h2 with h2 | ⟨j', hj', hjk, hm, hc, hmin⟩
    · omega
    · have : j' = j := by omega
      subst this
      refine .inr ⟨k, hk, by omega, rfl, h, fun t ht htk htc => ?_⟩
      rcases Nat.lt_or_ge t k with h3 | h3
      · have := hmin t ht h3 htc
        omega
      · have : t = k := by omega
        subst this
        exact Int.le_refl _

/-- The reference's least. -/
def LeastEnds (K : List Rq) (c : Int) (w : World) (e : Ending) (w' : World) : Prop := Below w.heap.size w w' ∧ ∃ m cnt, e = .returned (.tuple #[.int .i64 m, .int .i64 (cnt : Nat)]) ∧ LeastAt K c K.length m cnt

theorem LeastAt.le {K : List Rq} {c : Int} {k : Nat} {m : Int} {cnt : Nat} (L : LeastAt K c k m cnt) : cnt ≤ k := by
  have := L.1
  have h1 := List.length_filter_le (fun x : Rq => x.client == c) (K.take k)
  rw [List.length_take] at h1
  omega

set_option maxRecDepth 100000 in
set_option maxHeartbeats 1000000 in
theorem rleast_any (K : List Rq) (keep done c : Int) (v : Value) (w : World) (hr : Reads w v K.length 3 (rqs K)) (hl : K.length ≤ 1000) :
    Calls Try.prog 32 #[.agg #[.int .i64 keep, v, .int .i64 done], .int .i64 c] w (LeastEnds K c w) := by
  obtain ⟨a, cap, rfl, hc, hm⟩ := hr.shape
  have HR := hid hr
  clear hr
  go_enter Try.func32, Try.ntmps32
  go_upto_region 1 with fail
  obtain ⟨w1, hw1⟩ : ∃ w1, w1 = w.alloc (.cells #[.int .i64 keep, .slice a K.length cap, .int .i64 done] 31) := ⟨_, rfl⟩
  have hb1 : Below w.heap.size w w1 := by rw [hw1]; exact (Below.refl _ _).alloc (Nat.le_refl _) _
  have b1 : w1.cell? ⟨w.heap.size, 1, none⟩ = some (.slice a K.length cap) := by rw [hw1]; simp
  have lb : w.heap.size < w1.heap.size := World.block_lt_of_cell? w1 _ b1
  have HR1 := hid (HR.out.below hb1)
  have HB1 := hid hb1
  rw [← hw1]
  clear hw1 hb1
  go_wp2_with fail
  go_loopg [6, 7, 8] (K.length + 1) (fun g vm vc i wr => ∃ (k : Nat) (m : Int) (cnt : Nat), i = .int .i64 k ∧ vm = .int .i64 m ∧ vc = .int .i64 cnt ∧ k ≤ K.length ∧ K.length - k < g ∧ Below w1.heap.size w1 wr ∧ LeastAt K c k m cnt)
  case atStart => exact ⟨0, -1, 0, rfl, rfl, rfl, by omega, by omega, Below.refl _ _, by simp, .inl ⟨rfl, rfl⟩⟩
  case round =>
    obtain ⟨k, m, cnt, rfl, rfl, rfl, hk, hg, hb, hL⟩ := hrel
    have cb : wr.cell? ⟨w.heap.size, 1, none⟩ = some (.slice a K.length cap) := (hb.cell (p := ⟨w.heap.size, 1, none⟩) lb).trans b1
    have hcnt := hL.le
    by_cases hlt : k < K.length
    · obtain ⟨b, o, rfl⟩ := HR1.out.addr (by omega)
      obtain ⟨g0, g1, g2⟩ := rqs_get K k hlt
      have hrk := HR1.out.below hb
      have c0 := hrk.cell g0
      have c1 := hrk.cell g1
      rw [← Nat.add_assoc] at c1
      obtain ⟨x, hx⟩ : ∃ x, x = K[k] := ⟨_, rfl⟩
      rw [← hx] at c0 c1
      have HX := hid hx
      have HRK := hid hrk
      have HB := hid hb
      have HL := hid hL
      clear hx g0 g1 g2 hrk hb b1 hL
      by_cases h1 : x.client = c
      · have e1 : (x.client != c) = false := by simpa using h1
        have H1 := hid h1
        clear h1
        rcases HL.out.2 with ⟨rfl, _⟩ | ⟨j, hj, hjk, rfl, _, _⟩
        · go_wp2_with fail
          go_quiet (fail)
          go_wp2_with fail
          go_roundg (gk - 1)
          case measure => omega
          case rel => exact ⟨k + 1, k, cnt + 1, by go_num, rfl, by go_num, by omega, by omega, HB.out.trans ⟨rfl, rfl, rfl, Nat.le_refl _, fun _ _ => rfl⟩, least_first HL.out hlt (HX.out ▸ H1.out)⟩
        · obtain ⟨g0, g1, g2⟩ := rqs_get K j hj
          have d1 := HRK.out.cell g1
          rw [← Nat.add_assoc] at d1
          obtain ⟨y, hy⟩ : ∃ y, y = K[j] := ⟨_, rfl⟩
          rw [← hy] at d1
          have HY := hid hy
          have hj0 : decide ((j : Int) < 0) = false := by simp
          have hji : (j : Int) < (K.length : Int) := by omega
          clear g0 g1 g2 hy
          by_cases h2 : x.number < y.number
          · have e2 : decide (x.number < y.number) = true := by simpa using h2
            have H2 := hid h2
            clear h2
            go_wp2_with fail
            go_quiet (fail)
            go_wp2_with fail
            go_roundg (gk - 1)
            case measure => omega
            case rel => exact ⟨k + 1, k, cnt + 1, by go_num, rfl, by go_num, by omega, by omega, HB.out.trans ⟨rfl, rfl, rfl, Nat.le_refl _, fun _ _ => rfl⟩, least_less HL.out hlt (HX.out ▸ H1.out) hj (by rw [← HX.out, ← HY.out]; exact H2.out)⟩
          · have e2 : decide (x.number < y.number) = false := by simpa using h2
            have H2 := hid h2
            clear h2
            go_wp2_with fail
            go_quiet (fail)
            go_wp2_with fail
            go_roundg (gk - 1)
            case measure => omega
            case rel => exact ⟨k + 1, j, cnt + 1, by go_num, rfl, by go_num, by omega, by omega, HB.out.trans ⟨rfl, rfl, rfl, Nat.le_refl _, fun _ _ => rfl⟩, least_more HL.out hlt (HX.out ▸ H1.out) hj (by rw [← HX.out, ← HY.out]; have := H2.out; omega)⟩
      · have e1 : (x.client != c) = true := by simpa using h1
        have H1 := hid h1
        clear h1
        go_wp2_with fail
        go_roundg (gk - 1)
        case measure => omega
        case rel => exact ⟨k + 1, m, cnt, by go_num, rfl, rfl, by omega, by omega, HB.out, least_skip HL.out hlt (HX.out ▸ H1.out)⟩
    · have hk' : k = K.length := by omega
      subst hk'
      have HB := hid hb
      have HL := hid hL
      clear hb hL
      go_wp2_with fail
      go_ret2
      exact ⟨HB1.out.trans (HB.out.mono HB1.out.size), m, cnt, rfl, HL.out⟩

/-- What the reference's Old says of a request. -/
def OldWay (K : List Rq) (keep : Int) (r : Rq) (b : Bool) (er : Int) : Prop :=
  ((r.client < 1 ∨ r.number < 1) ∧ b = false ∧ er = 4) ∨
  (¬ (r.client < 1 ∨ r.number < 1) ∧ 4000 < r.text.size ∧ b = false ∧ er = 3) ∨
  (¬ (r.client < 1 ∨ r.number < 1) ∧ ¬ 4000 < r.text.size ∧ (∃ k : Nat, ∃ h : k < K.length, K[k].client = r.client ∧ K[k].number = r.number) ∧ b = true ∧ er = 0) ∨
  (¬ (r.client < 1 ∨ r.number < 1) ∧ ¬ 4000 < r.text.size ∧ (∀ x ∈ K, ¬ (x.client = r.client ∧ x.number = r.number)) ∧ b = false ∧ ∃ m cnt, LeastAt K r.client K.length m cnt ∧
    ((er = 10 ∧ keep ≤ cnt ∧ ∃ j : Nat, ∃ h : j < K.length, m = j ∧ r.number < K[j].number) ∨ (er = 0 ∧ ¬ (keep ≤ cnt ∧ ∃ j : Nat, ∃ h : j < K.length, m = j ∧ r.number < K[j].number))))

def OldEnds (K : List Rq) (keep : Int) (r : Rq) (w : World) (e : Ending) (w' : World) : Prop := Below w.heap.size w w' ∧ ∃ b er, e = .returned (.tuple #[.bool b, .int .i64 er]) ∧ OldWay K keep r b er

set_option maxRecDepth 100000 in
set_option maxHeartbeats 1000000 in
theorem rold_any (K : List Rq) (keep done : Int) (r : Rq) (v : Value) (w : World) (hr : Reads w v K.length 3 (rqs K)) (hl : K.length ≤ 1000) (hk : 1 ≤ keep) (hs : r.text.size ≤ 4100) :
    Calls Try.prog 30 #[.agg #[.int .i64 keep, v, .int .i64 done], .agg #[.int .i64 r.client, .int .i64 r.number, .string r.text]] w (OldEnds K keep r w) := by
  obtain ⟨a, cap, rfl, hc, hm⟩ := hr.shape
  obtain ⟨w1, hw1⟩ : ∃ w1, w1 = w.alloc (.cells #[.int .i64 keep, .slice a K.length cap, .int .i64 done] 31) := ⟨_, rfl⟩
  obtain ⟨w2, hw2⟩ : ∃ w2, w2 = w1.alloc (.cells #[.int .i64 r.client, .int .i64 r.number, .string r.text] 41) := ⟨_, rfl⟩
  have hb1 : Below w.heap.size w w1 := by rw [hw1]; exact (Below.refl _ _).alloc (Nat.le_refl _) _
  have hb2 : Below w1.heap.size w1 w2 := by rw [hw2]; exact (Below.refl _ _).alloc (Nat.le_refl _) _
  have hB : Below w.heap.size w w2 := hb1.trans (hb2.mono hb1.size)
  have hs1 : w1.heap.size = w.heap.size + 1 := by rw [hw1]; simp
  have x0 : w2.cell? ⟨w.heap.size, 0, none⟩ = some (.int .i64 keep) := (hb2.cell (p := ⟨w.heap.size, 0, none⟩) (by simp only; omega)).trans (by rw [hw1]; simp)
  have x1 : w2.cell? ⟨w.heap.size, 1, none⟩ = some (.slice a K.length cap) := (hb2.cell (p := ⟨w.heap.size, 1, none⟩) (by simp only; omega)).trans (by rw [hw1]; simp)
  have x2 : w2.cell? ⟨w.heap.size, 2, none⟩ = some (.int .i64 done) := (hb2.cell (p := ⟨w.heap.size, 2, none⟩) (by simp only; omega)).trans (by rw [hw1]; simp)
  have y0 : w2.cell? ⟨w.heap.size + 1, 0, none⟩ = some (.int .i64 r.client) := by rw [hw2, ← hs1]; simp
  have y1 : w2.cell? ⟨w.heap.size + 1, 1, none⟩ = some (.int .i64 r.number) := by rw [hw2, ← hs1]; simp
  have y2 : w2.cell? ⟨w.heap.size + 1, 2, none⟩ = some (.string r.text) := by rw [hw2, ← hs1]; simp
  have lx := World.block_lt_of_cell? w2 _ x0
  have ly := World.block_lt_of_cell? w2 _ y0
  have HR2 := hid (hr.below hB)
  have HB := hid hB
  have HW : Hid (w2 = (w.alloc (.cells #[.int .i64 keep, .slice a K.length cap, .int .i64 done] 31)).alloc (.cells #[.int .i64 r.client, .int .i64 r.number, .string r.text] 41)) := by rw [hw2, hw1]; exact rfl
  clear hr hb1 hb2 hB hw1 hw2 hs1
  go_enter Try.func30, Try.ntmps30
  go_upto_region 1 with fail
  rw [← HW.out]
  clear HW
  by_cases h1 : r.client < 1 ∨ r.number < 1
  · have H1 := hid h1
    by_cases hc1 : r.client < 1
    · clear h1
      go_wp2_with fail
      go_ret2
      exact ⟨HB.out, false, 4, rfl, .inl ⟨H1.out, rfl, rfl⟩⟩
    · have hn1 : r.number < 1 := by omega
      clear h1
      go_wp2_with fail
      go_ret2
      exact ⟨HB.out, false, 4, rfl, .inl ⟨H1.out, rfl, rfl⟩⟩
  · have H1 := hid h1
    have hc1 : 1 ≤ r.client := by omega
    have hn1 : 1 ≤ r.number := by omega
    clear h1
    by_cases h2 : 4000 < r.text.size
    · go_wp2_with fail
      go_ret2
      exact ⟨HB.out, false, 3, rfl, .inr (.inl ⟨H1.out, h2, rfl, rfl⟩)⟩
    · have h2' : ¬ 4000 < r.text.size := h2
      have H2 := hid h2'
      clear h2'
      go_wp2_with fail
      refine (rfind_any K keep done r.client r.number _ w2 HR2.out hl).mono ?_
      rintro e w3 ⟨hb3, hcase⟩
      rcases hcase with ⟨k, hkl, rfl, hh⟩ | ⟨rfl, hno⟩
      · have HH := hid hh
        have HB3 := hid hb3
        clear hh hb3
        go_wp2_with fail
        go_ret2
        exact ⟨HB.out.trans (HB3.out.mono HB.out.size), true, 0, rfl, .inr (.inr (.inl ⟨H1.out, H2.out, ⟨k, hkl, HH.out⟩, rfl, rfl⟩))⟩
      · have HNO := hid hno
        have u0 := (hb3.cell (p := ⟨w.heap.size, 0, none⟩) lx).trans x0
        have u1 := (hb3.cell (p := ⟨w.heap.size, 1, none⟩) lx).trans x1
        have u2 := (hb3.cell (p := ⟨w.heap.size, 2, none⟩) lx).trans x2
        have v0 := (hb3.cell (p := ⟨w.heap.size + 1, 0, none⟩) ly).trans y0
        have v1 := (hb3.cell (p := ⟨w.heap.size + 1, 1, none⟩) ly).trans y1
        have lx3 := World.block_lt_of_cell? w3 _ u0
        have ly3 := World.block_lt_of_cell? w3 _ v0
        have HR3 := hid (HR2.out.below hb3)
        have HB3 := hid (HB.out.trans (hb3.mono HB.out.size))
        clear hno hb3 x0 x1 x2 y0 y1 y2 lx ly
        go_wp2_with fail
        refine (rleast_any K keep done r.client _ w3 HR3.out hl).mono ?_
        rintro e w4 ⟨hb4, m, cnt, rfl, hL⟩
        have x0 := (hb4.cell (p := ⟨w.heap.size, 0, none⟩) lx3).trans u0
        have x1 := (hb4.cell (p := ⟨w.heap.size, 1, none⟩) lx3).trans u1
        have y1 := (hb4.cell (p := ⟨w.heap.size + 1, 1, none⟩) ly3).trans v1
        have HR4 := hid (HR3.out.below hb4)
        have HB4 := hid (HB3.out.trans (hb4.mono HB3.out.size))
        have HL := hid hL
        clear hb4 hL u0 u1 u2 v0 v1 lx3 ly3
        by_cases hkc : keep ≤ (cnt : Int)
        · rcases HL.out.2 with ⟨rfl, h0⟩ | ⟨j, hj, _, rfl, hjc, _⟩
          · exfalso; omega
          · have e1 : decide (keep ≤ (cnt : Int)) = true := by simpa using hkc
            obtain ⟨b, o, rfl⟩ := HR4.out.addr (by omega)
            obtain ⟨g0, g1, g2⟩ := rqs_get K j hj
            have d1 := HR4.out.cell g1
            rw [← Nat.add_assoc] at d1
            obtain ⟨y, hy⟩ : ∃ y, y = K[j] := ⟨_, rfl⟩
            rw [← hy] at d1
            have HY := hid hy
            have HKC := hid hkc
            have hji : (j : Int) < (K.length : Int) := by omega
            clear g0 g1 g2 hy hjc hkc
            by_cases h3 : r.number < y.number
            · have e2 : decide (r.number < y.number) = true := by simpa using h3
              have H3 := hid h3
              clear h3
              go_wp2_with fail
              go_quiet (fail)
              go_wp2_with fail
              go_ret2
              exact ⟨HB4.out.trans ⟨rfl, rfl, rfl, Nat.le_refl _, fun _ _ => rfl⟩, false, 10, rfl, .inr (.inr (.inr ⟨H1.out, H2.out, HNO.out, rfl, _, _, HL.out, .inl ⟨rfl, HKC.out, j, hj, rfl, HY.out ▸ H3.out⟩⟩))⟩
            · have e2 : decide (r.number < y.number) = false := by simpa using h3
              have H3 := hid h3
              clear h3
              go_wp2_with fail
              go_quiet (fail)
              go_wp2_with fail
              go_ret2
              exact ⟨HB4.out.trans ⟨rfl, rfl, rfl, Nat.le_refl _, fun _ _ => rfl⟩, false, 0, rfl, .inr (.inr (.inr ⟨H1.out, H2.out, HNO.out, rfl, _, _, HL.out, .inr ⟨rfl, fun ⟨_, j', hj', e, hlt⟩ => by
                have : j' = j := by omega
                subst this
                rw [← HY.out] at hlt
                have := H3.out
                omega⟩⟩))⟩
        · have e1 : decide (keep ≤ (cnt : Int)) = false := by simpa using hkc
          have HKC := hid hkc
          clear hkc
          go_wp2_with fail
          go_quiet (fail)
          go_wp2_with fail
          go_ret2
          exact ⟨HB4.out.trans ⟨rfl, rfl, rfl, Nat.le_refl _, fun _ _ => rfl⟩, false, 0, rfl, .inr (.inr (.inr ⟨H1.out, H2.out, HNO.out, rfl, _, _, HL.out, .inr ⟨rfl, fun h => by have := HKC.out; have := h.1; omega⟩⟩))⟩

end Go.Proofs.Ytaglidlibocgpaa
