/-
  The binary search over kept replies: it returns the place of a number in an ascending list, and whether it is there.
-/
import Derived.Test.YtaglidlibocgpaaA
import Derived.Deep.LoopGhost
namespace Go.Proofs.Ytaglidlibocgpaa
open Go.RowKit

/-- The numbers before place i are less than n, the others are not. -/
structure IsPos (l : List Rq) (n : Int) (i : Nat) : Prop where
  le : i ≤ l.length
  lo : ∀ k (h : k < l.length), k < i → l[k].number < n
  hi : ∀ k (h : k < l.length), i ≤ k → n ≤ l[k].number

/-- Ascending numbers, all from 1 on. -/
structure Asc (l : List Rq) : Prop where
  lt : ∀ i j (h : j < l.length) (hij : i < j), l[i].number < l[j].number
  one : ∀ x ∈ l, 1 ≤ x.number
  max : ∀ x ∈ l, x.number ≤ 9223372036854775807

/-- Whether the number at place i is n. -/
def foundAt (l : List Rq) (n : Int) (i : Nat) : Bool := match l[i]? with | some x => x.number == n | none => false

theorem IsPos.unique {l : List Rq} {n : Int} {i j : Nat} (h : IsPos l n i) (k : IsPos l n j) : i = j := by
  rcases Nat.lt_trichotomy i j with h1 | h1 | h1
  · have := k.lo i (by have := k.le; omega) h1
    have := h.hi i (by have := k.le; omega) (Nat.le_refl _)
    omega
  · exact h1
  · have := h.lo j (by have := h.le; omega) h1
    have := k.hi j (by have := h.le; omega) (Nat.le_refl _)
    omega

def Searched (l : List Rq) (n : Int) (w : World) (e : Ending) (w' : World) : Prop :=
  ∃ i : Nat, IsPos l n i ∧ e = .returned (.tuple #[.int .i64 i, .bool (foundAt l n i)]) ∧ Below w.heap.size w w'

set_option maxRecDepth 100000 in
set_option maxHeartbeats 1000000 in
theorem bsearch_any (l : List Rq) (n : Int) (a : Option Addr) (cap : Nat) (w : World) (hr : Reads w (.slice a l.length cap) l.length 3 (rqs l)) (ha : Asc l) (h1 : 1 ≤ n) (h2 : n ≤ 9223372036854775807) (hlen : l.length ≤ 1000) :
    Calls Try.prog 37 #[.slice a l.length cap, .int .i64 n, .func (.func 38) #[] #[]] w (Searched l n w) := by
  go_enter Try.func37, Try.ntmps37
  go_wp2_with fail
  go_loopg [9, 10] l.length (fun g i j wr => ∃ p q : Nat, i = .int .i64 p ∧ j = .int .i64 q ∧ p ≤ q ∧ q ≤ l.length ∧ q - p ≤ g ∧ (∀ k (h : k < l.length), k < p → l[k].number < n) ∧ (∀ k (h : k < l.length), q ≤ k → n ≤ l[k].number) ∧ Below w.heap.size w wr)
  case atStart => exact ⟨0, l.length, rfl, rfl, by omega, by omega, by omega, fun k h hk => by omega, fun k h hk => by omega, Below.refl _ _⟩
  case round =>
    obtain ⟨p, q, rfl, rfl, hpq, hql, hg, hlo, hhi, hb⟩ := hrel
    have HLO := hid hlo
    have HHI := hid hhi
    clear hlo hhi
    by_cases hlt : p < q
    · obtain ⟨b, o, rfl⟩ := hr.addr (by omega)
      have hm : (p + q) / 2 < l.length := by omega
      obtain ⟨g0, g1, g2⟩ := rqs_get l ((p + q) / 2) hm
      have hrw := hr.below hb
      obtain ⟨x, hx⟩ : ∃ x, l[(p + q) / 2] = x := ⟨_, rfl⟩
      rw [hx] at g0 g1 g2
      have c0 := hrw.cell g0
      have c1 := hrw.cell g1
      have c2 := hrw.cell g2
      rw [← Nat.add_assoc] at c1 c2
      have hx1 : 1 ≤ x.number := ha.one x (hx ▸ List.getElem_mem _)
      have hx2 : x.number ≤ 9223372036854775807 := ha.max x (hx ▸ List.getElem_mem _)
      have HX := hid hx
      clear hx hr hrw g0 g1 g2
      by_cases hlo : x.number < n
      · go_wp2_with (go_at_call 38; refine (cmp_any _ _ _ _ _ (by omega) (by omega)).mono ?_; rintro e w1 ⟨rfl, hb1⟩)
        go_roundg (q - ((p + q) / 2 + 1))
        case measure => omega
        case rel =>
          refine ⟨(p + q) / 2 + 1, q, by go_num, rfl, by omega, hql, by omega, fun k h hk => ?_, HHI.out, hb.trans (hb1.mono hb.size)⟩
          by_cases hkm : k = (p + q) / 2
          · subst hkm; rw [HX.out]; exact hlo
          · have := ha.lt k ((p + q) / 2) hm (by omega)
            rw [HX.out] at this; omega
      · go_wp2_with (go_at_call 38; refine (cmp_any _ _ _ _ _ (by omega) (by omega)).mono ?_; rintro e w1 ⟨rfl, hb1⟩)
        go_roundg ((p + q) / 2 - p)
        case measure => omega
        case rel =>
          refine ⟨p, (p + q) / 2, rfl, by go_num, by omega, by omega, by omega, HLO.out, fun k h hk => ?_, hb.trans (hb1.mono hb.size)⟩
          by_cases hkm : k = (p + q) / 2
          · subst hkm; rw [HX.out]; omega
          · have := ha.lt ((p + q) / 2) k h (by omega)
            rw [HX.out] at this; omega
    · have hpq' : p = q := by omega
      have hpos : IsPos l n p := ⟨by omega, HLO.out, fun k h hk => HHI.out k h (by omega)⟩
      clear hpq'
      by_cases hp : p < l.length
      · obtain ⟨b, o, rfl⟩ := hr.addr (by omega)
        obtain ⟨g0, g1, g2⟩ := rqs_get l p hp
        have hrw := hr.below hb
        obtain ⟨x, hx⟩ : ∃ x, l[p] = x := ⟨_, rfl⟩
        rw [hx] at g0 g1 g2
        have c0 := hrw.cell g0
        have c1 := hrw.cell g1
        have c2 := hrw.cell g2
        rw [← Nat.add_assoc] at c1 c2
        have hx1 : 1 ≤ x.number := ha.one x (hx ▸ List.getElem_mem _)
        have hx2 : x.number ≤ 9223372036854775807 := ha.max x (hx ▸ List.getElem_mem _)
        have HX := hid hx
        clear hx hr hrw g0 g1 g2
        go_wp2_with (go_at_call 38; refine (cmp_any _ _ _ _ _ (by omega) (by omega)).mono ?_; rintro e w1 ⟨rfl, hb1⟩)
        go_ret2
        have hf : foundAt l n p = (x.number - n == 0) := by
          unfold foundAt
          rw [List.getElem?_eq_getElem hp, HX.out]
          show (x.number == n) = _
          rw [Bool.eq_iff_iff, beq_iff_eq, beq_iff_eq]
          omega
        exact ⟨p, hpos, by rw [hf]; rfl, hb.trans (hb1.mono hb.size)⟩
      · have hf : foundAt l n p = false := by simp [foundAt, show l.length ≤ p by omega]
        have HF := hid hf
        clear hf
        go_wp2_with fail
        go_ret2
        exact ⟨p, hpos, by rw [HF.out]; rfl, hb⟩

end Go.Proofs.Ytaglidlibocgpaa
