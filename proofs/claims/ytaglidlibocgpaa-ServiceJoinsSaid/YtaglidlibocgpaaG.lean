/-
  slices.Clone and slices.Insert at lists of calls: what they return, over what memory.
-/
import Derived.Test.YtaglidlibocgpaaF
import Derived.Laws.CopyOwn
namespace Go.Proofs.Ytaglidlibocgpaa
open Go.RowKit

theorem Try.info37 : (Try.prog.info? 37).map (fun i => (i.zero, i.size, i.bytes)) = some (some (.agg #[.int .i64 0, .int .i64 0, .string ⟨#[]⟩]), 3, 32) := by kernel_rfl

set_option maxRecDepth 100000 in
set_option maxHeartbeats 400000 in
theorem clone_nil (w : World) : Calls Try.prog 28 #[.slice none 0 0] w fun e w' => e = .returned (.slice none 0 0) ∧ w = w' := by
  have hne := fun w : World => Lib.run_eql_slice_nil (P := Try.prog) w 47 37 none 0 0 0 0 Try.underlying47
  go_enter Try.func28, Try.ntmps28
  go_wp2
  go_ret
  exact ⟨rfl, rfl⟩

/-- A new row that holds the calls l. -/
def Made (B : Nat) (l : List Rq) (w : World) (e : Ending) (w' : World) : Prop :=
  ∃ g cap, e = .returned (.slice (some ⟨g, 0, none⟩) l.length cap) ∧ w'.ownsRow B 37 3 (.slice (some ⟨g, 0, none⟩) l.length cap) l.length (rqs l) ∧ Below B w w'

set_option maxRecDepth 100000 in
set_option maxHeartbeats 400000 in
theorem clone_some (l : List Rq) (b o cap : Nat) (w : World) (hr : Reads w (.slice (some ⟨b, o, none⟩) l.length cap) l.length 3 (rqs l)) (hl : l.length ≤ 1000) :
    Calls Try.prog 28 #[.slice (some ⟨b, o, none⟩) l.length cap] w (Made w.heap.size l w) := by
  obtain ⟨i0, hi, hz0, hz1, hz2⟩ := info_parts Try.info37
  have hne := fun w : World => Lib.run_eql_slice_nil (P := Try.prog) w 47 37 (some ⟨b, o, none⟩) l.length cap 0 0 Try.underlying47
  have hl3 := rqs_length l
  have hcells : ∀ j u, (rqs l)[j]? = some u → (w.alloc (.cells #[] 37)).cell? ((⟨b, o, none⟩ : Addr).add j) = some u := by
    intro j u hj
    have hc := hr.cell hj
    have hlt := World.block_lt_of_cell? w _ hc
    rw [show (⟨b, o, none⟩ : Addr).add j = ⟨b, o + j, none⟩ by unfold Addr.add; split <;> simp_all, World.cell?_alloc_lt _ _ _ hlt]
    exact hc
  have HC := hid hcells
  have HR := hid hr
  clear hr hcells
  have h0 : (w.alloc (.cells #[] 37)).ownsRow w.heap.size 37 3 (.slice (some ⟨w.heap.size, 0, none⟩) 0 0) 0 [] := World.ownsRow_lit w #[] 0 (Nat.le_refl _) (Nat.zero_le _) rfl
  have H0 := hid h0
  clear h0
  go_enter Try.func28, Try.ntmps28
  go_wp2_with (at_builtin; refine wpList_append_own _ rfl (.tmp 5) (.tmp 6) 47 rfl w.heap.size 37 i0 _ 3 32 Try.underlying47 hi hz0 hz1 hz2 rfl (by decide) (.slice (some ⟨w.heap.size, 0, none⟩) 0 0) 0 [] rfl H0.out ⟨b, o, none⟩ l.length cap (rqs l) rfl hl3 HC.out (rqs_one l) (by unfold maxLen; omega) (by omega) (by simp) ?_; intro v' w1 hown hgrow hnil)
  go_ret
  rw [Nat.zero_add, List.nil_append] at hown
  obtain ⟨g, cap', rfl, hg⟩ := owns_some hown (fun e => by have := hnil.1 e; simp at this)
  exact ⟨g, cap', rfl, hown, ((Below.refl _ _).alloc (Nat.le_refl _) _).grown hgrow (by simp) (by simp [Value.ownBlock])⟩

/-- A row of the call's own that holds the calls l, or nil where there are none. -/
def Cloned (l : List Rq) (w : World) (e : Ending) (w' : World) : Prop :=
  ∃ a cap, e = .returned (.slice a l.length cap) ∧ w'.ownsRow w.heap.size 37 3 (.slice a l.length cap) l.length (rqs l) ∧ Below w.heap.size w w'

theorem clone_any (l : List Rq) (a : Option Addr) (cap : Nat) (w : World) (hr : Reads w (.slice a l.length cap) l.length 3 (rqs l)) (hl : l.length ≤ 1000) :
    Calls Try.prog 28 #[.slice a l.length cap] w (Cloned l w) := by
  rcases a with _ | ⟨b, o, sp⟩
  · obtain ⟨_, a', cap', e, hc, hm, h0, hx⟩ := hr
    simp only [Value.slice.injEq, true_and] at e
    obtain ⟨rfl, rfl⟩ := e
    have hz := h0 rfl
    subst hz
    have hl0 : l = [] := List.eq_nil_of_length_eq_zero (by omega)
    subst hl0
    refine (clone_nil w).mono ?_
    rintro e w' ⟨rfl, rfl⟩
    exact ⟨none, 0, rfl, World.ownsRow_nil w _ _ _, Below.refl _ _⟩
  · have hsp : sp = none := by
      obtain ⟨_, a', cap', e, hc, hm, h0, hx⟩ := hr
      simp only [Value.slice.injEq, true_and] at e
      obtain ⟨rfl, rfl⟩ := e
      exact (hx _ rfl).1
    subst hsp
    refine (clone_some l b o cap w hr hl).mono ?_
    rintro e w' ⟨g, c', rfl, h1, h2⟩
    exact ⟨_, c', rfl, h1, h2⟩

end Go.Proofs.Ytaglidlibocgpaa
