/-
  The memory of the law ServiceOnce: a server, a row of replies and a row of marks, apart.
-/
import Derived.Test.YtaglidlibocgpaaOa
import Derived.Test.YtaglidlibocgpaaFb
import Derived.Test.YtaglidlibocgpaaY
namespace Go.Proofs.Ytaglidlibocgpaa
open Go.RowKit

def bools (l : List Bool) : List Value := l.map fun b => .bool b
theorem bools_get (l : List Bool) (k : Nat) (h : k < l.length) : (bools l)[k]? = some (.bool l[k]) := by simp [bools, h]
theorem bools_set (l : List Bool) (k : Nat) (b : Bool) : (bools l).set k (.bool b) = bools (l.set k b) := by simp [bools, List.map_set]

structure Onc (w0 w : World) (G : Nat → Prop) (sb : Nat) (S : Sv) (gR gW : Nat) (R : List Rq) (W : List Bool) : Prop where
  old : Below w0.heap.size w0 w
  sv : SvAt w G sb S
  newG : ∀ k, G k → w0.heap.size ≤ k
  rr : w.ownsRow w0.heap.size 37 3 (.slice (some ⟨gR, 0, none⟩) R.length R.length) R.length (rqs R)
  rw : w.ownsRow w0.heap.size 4 1 (.slice (some ⟨gW, 0, none⟩) W.length W.length) W.length (bools W)
  apR : ¬ G gR
  apW : ¬ G gW
  apRW : gR ≠ gW

variable {w0 w w' : World} {G : Nat → Prop} {sb gR gW : Nat} {S S' : Sv} {R : List Rq} {W : List Bool}

theorem Onc.below (D : Onc w0 w G sb S gR gW R W) (hb : Below w.heap.size w w') : Onc w0 w' G sb S gR gW R W :=
  ⟨Upd.onto D.old (Upd.of_new (F := fun _ => False) hb) (fun _ h => h.elim), D.sv.below hb, D.newG, owns_below D.rr hb, owns_below D.rw hb, D.apR, D.apW, D.apRW⟩
theorem Onc.handle (D : Onc w0 w G sb S gR gW R W) (h : ∃ G', SvAt w' G' sb S' ∧ Upd G w w' ∧ ∀ k, G' k → G k ∨ w.heap.size ≤ k) : ∃ G', Onc w0 w' G' sb S' gR gW R W := by
  obtain ⟨G', h1, h2, h3⟩ := h
  refine ⟨G', Upd.onto D.old h2 D.newG, h1, fun k hf => ?_, owns_upd D.rr h2 (fun b hb => by cases hb; exact D.apR), owns_upd D.rw h2 (fun b hb => by cases hb; exact D.apW), fun hg => ?_, fun hg => ?_, D.apRW⟩
  · rcases h3 k hf with h | h
    · exact D.newG k h
    · have := D.old.size
      omega
  · rcases h3 _ hg with h | h
    · exact D.apR h
    · have := (D.rr.lt gR rfl).2
      omega
  · rcases h3 _ hg with h | h
    · exact D.apW h
    · have := (D.rw.lt gW rfl).2
      omega
theorem Onc.setW {k : Nat} {b : Bool} (D : Onc w0 w G sb S gR gW R W) : Onc w0 (w.setCell ⟨gW, k, none⟩ (.bool b)) G sb S gR gW R (W.set k b) := by
  have hu : Upd (fun b => b = gW) w (w.setCell ⟨gW, k, none⟩ (.bool b)) := (Upd.refl (fun b => b = gW) w).setCell (p := ⟨gW, k, none⟩) (.inl rfl) _
  refine ⟨Upd.onto D.old hu (fun b hb => hb ▸ (D.rw.lt gW rfl).1), D.sv.upd hu (fun b hf hb => D.apW (hb ▸ hf)), D.newG, owns_upd D.rr hu (fun b hb hk => by cases hb; exact D.apRW hk), ?_, D.apR, D.apW, D.apRW⟩
  have := (D.rw.stored k (.bool b)).1
  rw [bools_set] at this
  simpa using this

theorem made_rqs (n : Nat) : (madeCells #[.int .i64 0, .int .i64 0, .string ⟨#[]⟩] (n * 3)).toList = rqs (List.replicate n zeroR) := by
  apply List.ext_getElem?
  intro j
  by_cases hj : j < n * 3
  · have hi : j / 3 < (List.replicate n zeroR).length := by simp; omega
    obtain ⟨g0, g1, g2⟩ := rqs_get (List.replicate n zeroR) (j / 3) hi
    have hk : j % 3 = 0 ∨ j % 3 = 1 ∨ j % 3 = 2 := by omega
    have ej : j = j / 3 * 3 + j % 3 := by omega
    have hm : (madeCells #[.int .i64 0, .int .i64 0, .string ⟨#[]⟩] (n * 3)).toList[j]? = some ((#[.int .i64 0, .int .i64 0, .string ⟨#[]⟩] : Array Value)[j % 3]!) := by simp [madeCells, hj]
    rw [hm]
    rcases hk with e | e | e <;> rw [e] at ej ⊢ <;> rw [ej]
    · rw [Nat.add_zero, g0]
      simp [zeroR]
    · rw [g1]
      simp [zeroR]
    · rw [g2]
      simp [zeroR]
  · rw [List.getElem?_eq_none (by simp [madeCells]; omega), List.getElem?_eq_none (by rw [rqs_length]; simp; omega)]
theorem made_bools (n : Nat) : (madeCells #[.bool false] n).toList = bools (List.replicate n false) := by
  rw [toList_madeCells_one]
  simp [bools]

end Go.Proofs.Ytaglidlibocgpaa
