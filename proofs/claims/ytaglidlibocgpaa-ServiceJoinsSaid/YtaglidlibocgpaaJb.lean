/-
  The arguments of ServiceJoins opened: a slice of strings, a slice of bytes.
-/
import Derived.Test.YtaglidlibocgpaaOp
namespace Go.Proofs.Ytaglidlibocgpaa
open Go.ChangeShapes Go.WideShapes Go.ChangeAt Go.RowKit

theorem open_ones {α : Type} [Inhabited α] {H : Type} {enc : TypeId × Value → H} {W : World} {base : Nat} {v : Value} {d : DataW H} {p : List MemPlace} (F : α → Value) (P : α → Prop) {t e : TypeId} (hu : Try.prog.underlying t = some (.slice e)) (he : Try.prog.cellsOf e = 1)
    (hel : ∀ fuel cs x, DataW.trod enc Try.prog W 0 (fun _ => true) true fuel e cs = some x → ∃ a, cs = [F a] ∧ P a) (hval : Value.okWide Try.prog W .any base t v) (hd : DataW.Trod enc Try.prog W 0 (fun _ => true) true t v d p) :
    ∃ (l : List α) (a : Option Addr) (cap : Nat), v = .slice a l.length cap ∧ Reads W (.slice a l.length cap) l.length 1 (l.map F) ∧ ∀ x ∈ l, P x := by
  obtain ⟨fuel, hf⟩ := hd
  obtain ⟨a, len, cap, rfl⟩ := okWide_slice hu hval
  rcases Go.Deep.open_slice hu hf with ⟨hc, _⟩ | ⟨a', len', cap', m, n, D, Pl, hc, _, hl, hm, hmm, _, hx⟩
  · simp only [Value.cells, List.cons.injEq, and_true] at hc
    simp at hc
    obtain ⟨rfl, rfl, rfl⟩ := hc
    exact ⟨[], none, 0, rfl, Reads.nil _ _, by simp⟩
  · have hc' : Value.slice a len cap = .slice (some a') len' cap' := by simpa [Value.cells] using hc
    simp only [Value.slice.injEq] at hc'
    obtain ⟨rfl, rfl, rfl⟩ := hc'
    have hspot : a'.spot = none := by
      have h1 : Cell.okWide Try.prog W .any base t (.slice (some a') len cap) := by
        unfold Value.okWide at hval
        rw [hu] at hval
        exact hval
      unfold Cell.okWide at h1
      rw [hu] at h1
      have h2 : Cell.ok Try.prog W .any base t (.slice (some a') len cap) := h1
      unfold Cell.ok at h2
      rw [hu] at h2
      exact h2.2.2.2.1
    have hmc : m = cap := by rw [hmm]; rfl
    obtain ⟨S, hS⟩ := Go.Deep.choose_lt (α := α) (n := len) (p := fun i s => W.cells? 0 (a'.add (i * 1)) 1 = some [F s] ∧ P s) (fun i hi => by
      obtain ⟨cs', h1, h2⟩ := hx i (by omega)
      rw [he] at h1
      obtain ⟨s, rfl, hs⟩ := hel _ _ _ h2
      exact ⟨s, h1, hs⟩)
    refine ⟨(List.range len).map S, some a', cap, by simp, ⟨by simp, some a', cap, rfl, by simpa using hl, hm, by simp, fun g hg => ?_⟩, fun x hx => ?_⟩
    · cases hg
      refine ⟨hspot, fun j u hj => ?_⟩
      have hjl : j < len := by
        have := (List.getElem?_eq_some_iff.1 hj).1
        simpa using this
      obtain ⟨_, _, hcell⟩ := World.cells?_some (hS j hjl).1
      have := hcell 0 (by omega)
      have e : (a'.add (j * 1)).add 0 = ⟨a'.block, a'.off + j, none⟩ := by
        rw [Go.Deep.add_add]
        obtain ⟨b, o, s⟩ := a'
        dsimp only at hspot
        subst hspot
        rw [Addr.add_lit]
        simp
      rw [e] at this
      rw [this]
      simp [hjl] at hj
      simp [hj]
    · simp only [List.mem_map, List.mem_range] at hx
      obtain ⟨i, hi, rfl⟩ := hx
      exact (hS i hi).2

instance : Inhabited ByteArray := ⟨⟨#[]⟩⟩

theorem Try.cells5 : Try.prog.cellsOf 5 = 1 := by kernel_rfl

theorem wf_u8 {n : Int} (h : (Lit.int .u8 n).wf = true) : 0 ≤ n ∧ n ≤ 255 := by
  simp only [Lit.wf, Bool.and_eq_true, decide_eq_true_eq] at h
  have h1 := h.1
  have h2 := h.2
  simp [IntKind.max, IntKind.min, IntKind.bits, IntKind.signed] at h1 h2
  omega

theorem open_texts {H : Type} {enc : TypeId × Value → H} {W : World} {base : Nat} {v : Value} {d : DataW H} {p : List MemPlace} (hval : Value.okWide Try.prog W .any base 52 v) (hd : DataW.Trod enc Try.prog W 0 (fun _ => true) true 52 v d p) :
    ∃ (l : List ByteArray) (a : Option Addr) (cap : Nat), v = .slice a l.length cap ∧ Reads W (.slice a l.length cap) l.length 1 (l.map Value.string) ∧ ∀ x ∈ l, x.size ≤ maxLen :=
  open_ones Value.string (fun s => s.size ≤ maxLen) Try.underlying52 Try.cells9 (fun fuel cs x h => by
    obtain ⟨s, e, _, ws⟩ := DataW.trod_string Try.underlying9 h
    exact ⟨s, e, ws⟩) hval hd

theorem open_fates {H : Type} {enc : TypeId × Value → H} {W : World} {base : Nat} {v : Value} {d : DataW H} {p : List MemPlace} (hval : Value.okWide Try.prog W .any base 63 v) (hd : DataW.Trod enc Try.prog W 0 (fun _ => true) true 63 v d p) :
    ∃ (l : List Int) (a : Option Addr) (cap : Nat), v = .slice a l.length cap ∧ Reads W (.slice a l.length cap) l.length 1 (l.map (Value.int .u8)) ∧ ∀ x ∈ l, 0 ≤ x ∧ x ≤ 255 :=
  open_ones (Value.int .u8) (fun n => 0 ≤ n ∧ n ≤ 255) Try.underlying63 Try.cells5 (fun fuel cs x h => by
    obtain ⟨n, e, _, w⟩ := DataW.trod_int Try.underlying5 h
    exact ⟨n, e, wf_u8 w⟩) hval hd

end Go.Proofs.Ytaglidlibocgpaa
