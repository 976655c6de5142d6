/-
  An argument of the laws, a slice of steps, opened: its cells are the cells of a list of steps.
-/
import Derived.Test.YtaglidlibocgpaaF
import Derived.ProofKit
import Derived.Carry
import Derived.Deep.Slices
namespace Go.Proofs.Ytaglidlibocgpaa
open Go.ChangeShapes Go.WideShapes Go.ChangeAt Go.RowKit

theorem Try.laidOut : laidOutB Try.prog = true := by kernel_rfl
theorem Try.own : ownKnob Try.prog.godebug = none := by kernel_rfl
theorem Try.cells35 : Try.prog.cellsOf 35 = 5 := by kernel_rfl
theorem Try.cells3 : Try.prog.cellsOf 3 = 1 := by kernel_rfl
theorem Try.cells9 : Try.prog.cellsOf 9 = 1 := by kernel_rfl

instance : Inhabited Step := ⟨⟨0, 0, 0, 0, ⟨#[]⟩⟩⟩
/-- A step as an argument bears it. -/
def StepOk (x : Step) : Prop := x.time ≤ 9223372036854775807 ∧ x.number ≤ 9223372036854775807 ∧ x.text.size ≤ maxLen

theorem wf_max {n : Int} (h : (Lit.int .i64 n).wf = true) : n ≤ 9223372036854775807 := by
  simp only [Lit.wf, Bool.and_eq_true, decide_eq_true_eq] at h
  have := h.2
  simp [IntKind.max, IntKind.bits, IntKind.signed] at this
  omega

theorem open_step {H : Type} {enc : TypeId × Value → H} {W : World} {fuel : Nat} {cs : List Value} {x : DataW H × List MemPlace} {sp : Nat → Bool} {held : Bool} (h : DataW.trod enc Try.prog W 0 sp held fuel 35 cs = some x) : ∃ s : Step, cs = s.cells ∧ StepOk s := by
  obtain ⟨xs, n, _, _, hl, hxs, hf⟩ := DataW.trod_struct Try.underlying35 h
  rw [Try.cells35] at hl
  obtain ⟨a, b, c, d, e, rfl⟩ : ∃ a b c d e, cs = [a, b, c, d, e] := by
    match cs, hl with
    | [a, b, c, d, e], _ => exact ⟨a, b, c, d, e, rfl⟩
  have hs : xs.length = 5 := hxs
  have f0 : DataW.trod enc Try.prog W 0 sp held n 3 (([a, b, c, d, e].drop 0).take (Try.prog.cellsOf 3)) = xs[0]? := hf 0 _ rfl
  have f1 : DataW.trod enc Try.prog W 0 sp held n 3 (([a, b, c, d, e].drop 1).take (Try.prog.cellsOf 3)) = xs[1]? := hf 1 _ rfl
  have f2 : DataW.trod enc Try.prog W 0 sp held n 3 (([a, b, c, d, e].drop 2).take (Try.prog.cellsOf 3)) = xs[2]? := hf 2 _ rfl
  have f3 : DataW.trod enc Try.prog W 0 sp held n 3 (([a, b, c, d, e].drop 3).take (Try.prog.cellsOf 3)) = xs[3]? := hf 3 _ rfl
  have f4 : DataW.trod enc Try.prog W 0 sp held n 9 (([a, b, c, d, e].drop 4).take (Try.prog.cellsOf 9)) = xs[4]? := hf 4 _ rfl
  rw [Try.cells3] at f0 f1 f2 f3
  rw [Try.cells9] at f4
  simp only [List.drop_zero, List.drop_succ_cons, List.take_succ_cons, List.take_zero] at f0 f1 f2 f3 f4
  rw [List.getElem?_eq_getElem (by omega)] at f0 f1 f2 f3 f4
  obtain ⟨n0, e0, _, _⟩ := DataW.trod_int Try.underlying3 f0
  obtain ⟨n1, e1, _, w1⟩ := DataW.trod_int Try.underlying3 f1
  obtain ⟨n2, e2, _, _⟩ := DataW.trod_int Try.underlying3 f2
  obtain ⟨n3, e3, _, w3⟩ := DataW.trod_int Try.underlying3 f3
  obtain ⟨s, e4, _, ws⟩ := DataW.trod_string Try.underlying9 f4
  simp only [List.cons.injEq, and_true] at e0 e1 e2 e3 e4
  subst e0 e1 e2 e3 e4
  exact ⟨⟨n0, n1, n2, n3, s⟩, rfl, wf_max w1, wf_max w3, ws⟩

theorem steps_at (l : List Step) (j : Nat) (u : Value) (h : (steps l)[j]? = some u) : ∃ i, ∃ hi : i < l.length, ∃ k, k < 5 ∧ j = i * 5 + k ∧ l[i].cells[k]? = some u := by
  have hj : j < l.length * 5 := by
    have := (List.getElem?_eq_some_iff.1 h).1
    rwa [steps_length] at this
  have hi : j / 5 < l.length := by omega
  refine ⟨j / 5, hi, j % 5, by omega, by omega, ?_⟩
  obtain ⟨g0, g1, g2, g3, g4⟩ := steps_get l (j / 5) hi
  have hk : j % 5 = 0 ∨ j % 5 = 1 ∨ j % 5 = 2 ∨ j % 5 = 3 ∨ j % 5 = 4 := by omega
  have ej : j = j / 5 * 5 + j % 5 := by omega
  rcases hk with e | e | e | e | e <;> rw [e] at ej ⊢ <;> rw [ej] at h
  · rw [Nat.add_zero, g0] at h
    exact h
  · rw [g1] at h
    exact h
  · rw [g2] at h
    exact h
  · rw [g3] at h
    exact h
  · rw [g4] at h
    exact h

theorem open_steps {H : Type} {enc : TypeId × Value → H} {W : World} {base : Nat} {v : Value} {d : DataW H} {p : List MemPlace} (hval : Value.okWide Try.prog W .any base 22 v) (hd : DataW.Trod enc Try.prog W 0 (fun _ => true) true 22 v d p) :
    ∃ (l : List Step) (a : Option Addr) (cap : Nat), v = .slice a l.length cap ∧ Reads W (.slice a l.length cap) l.length 5 (steps l) ∧ ∀ x ∈ l, StepOk x := by
  obtain ⟨fuel, hf⟩ := hd
  obtain ⟨a, len, cap, rfl⟩ := okWide_slice Try.underlying22 hval
  rcases Go.Deep.open_slice Try.underlying22 hf with ⟨hc, _⟩ | ⟨a', len', cap', m, n, D, Pl, hc, _, hl, hm, hmm, _, hx⟩
  · simp only [Value.cells, List.cons.injEq, and_true] at hc
    simp at hc
    obtain ⟨rfl, rfl, rfl⟩ := hc
    exact ⟨[], none, 0, rfl, Reads.nil _ _, by simp⟩
  · have hc' : Value.slice a len cap = .slice (some a') len' cap' := by simpa [Value.cells] using hc
    simp only [Value.slice.injEq] at hc'
    obtain ⟨rfl, rfl, rfl⟩ := hc'
    have hspot : a'.spot = none := by
      have h1 : Cell.okWide Try.prog W .any base 22 (.slice (some a') len cap) := by
        unfold Value.okWide at hval
        rw [Try.underlying22] at hval
        exact hval
      unfold Cell.okWide at h1
      rw [Try.underlying22] at h1
      have h2 : Cell.ok Try.prog W .any base 22 (.slice (some a') len cap) := h1
      unfold Cell.ok at h2
      rw [Try.underlying22] at h2
      exact h2.2.2.2.1
    have hmc : m = cap := by rw [hmm]; rfl
    obtain ⟨S, hS⟩ := Go.Deep.choose_lt (α := Step) (n := len) (p := fun i s => W.cells? 0 (a'.add (i * 5)) 5 = some s.cells ∧ StepOk s) (fun i hi => by
      obtain ⟨cs', h1, h2⟩ := hx i (by omega)
      rw [Try.cells35] at h1
      obtain ⟨s, rfl, hs⟩ := open_step h2
      exact ⟨s, h1, hs⟩)
    refine ⟨(List.range len).map S, some a', cap, by simp, ⟨by rw [steps_length], some a', cap, rfl, by simpa using hl, hm, by simp, fun g hg => ?_⟩, fun x hx => ?_⟩
    · cases hg
      refine ⟨hspot, fun j u hj => ?_⟩
      obtain ⟨i, hi, k, hk, rfl, hu⟩ := steps_at _ j u hj
      have hil : i < len := by simpa using hi
      obtain ⟨_, _, hcell⟩ := World.cells?_some (hS i hil).1
      have := hcell k hk
      have e : (a'.add (i * 5)).add k = ⟨a'.block, a'.off + (i * 5 + k), none⟩ := by
        rw [Go.Deep.add_add]
        obtain ⟨b, o, s⟩ := a'
        dsimp only at hspot
        subst hspot
        rw [Addr.add_lit]
      rw [e] at this
      rw [this]
      simpa using hu
    · simp only [List.mem_map, List.mem_range] at hx
      obtain ⟨i, hi, rfl⟩ := hx
      exact (hS i hi).2

end Go.Proofs.Ytaglidlibocgpaa
