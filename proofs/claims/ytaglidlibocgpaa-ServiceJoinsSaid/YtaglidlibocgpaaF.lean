/-
  The test of the steps' number and of their texts' lengths.
-/
import Derived.Test.YtaglidlibocgpaaE
namespace Go.Proofs.Ytaglidlibocgpaa
open Go.RowKit

/-- A step of a statement's input. -/
structure Step where
  kind : Int
  time : Int
  client : Int
  number : Int
  text : ByteArray

def Step.cells (x : Step) : List Value := [.int .i64 x.kind, .int .i64 x.time, .int .i64 x.client, .int .i64 x.number, .string x.text]
def steps (l : List Step) : List Value := l.flatMap Step.cells
theorem steps_cons (r : Step) (l : List Step) : steps (r :: l) = r.cells ++ steps l := rfl
theorem steps_append (a b : List Step) : steps (a ++ b) = steps a ++ steps b := by simp [steps]
theorem steps_length (l : List Step) : (steps l).length = l.length * 5 := by
  induction l with
  | nil => rfl
  | cons r l ih => simp [steps_cons, Step.cells, ih]; omega
theorem steps_get (l : List Step) (i : Nat) (h : i < l.length) :
    (steps l)[i * 5]? = some (.int .i64 l[i].kind) ∧ (steps l)[i * 5 + 1]? = some (.int .i64 l[i].time) ∧ (steps l)[i * 5 + 2]? = some (.int .i64 l[i].client) ∧
    (steps l)[i * 5 + 3]? = some (.int .i64 l[i].number) ∧ (steps l)[i * 5 + 4]? = some (.string l[i].text) := by
  have e : steps l = steps (l.take i) ++ (l[i].cells ++ steps (l.drop (i + 1))) := by
    rw [← steps_cons, ← steps_append, List.getElem_cons_drop, List.take_append_drop]
  have hl : (steps (l.take i)).length = i * 5 := by rw [steps_length, List.length_take, Nat.min_eq_left (by omega)]
  rw [e]
  refine ⟨?_, ?_, ?_, ?_, ?_⟩ <;> (rw [List.getElem?_append_right (by omega), hl]; simp [Step.cells])

/-- The steps are few, and their texts are short. -/
def Few (l : List Step) : Prop := l.length ≤ 60 ∧ ∀ x ∈ l, x.text.size ≤ 4100
instance (l : List Step) : Decidable (Few l) := by unfold Few; infer_instance

def FewEnds (l : List Step) (w : World) (e : Ending) (w' : World) : Prop := e = .returned (.bool (decide (Few l))) ∧ w = w'

set_option maxRecDepth 100000 in
set_option maxHeartbeats 1000000 in
theorem few_any (l : List Step) (a : Option Addr) (cap : Nat) (w : World) (hr : Reads w (.slice a l.length cap) l.length 5 (steps l)) :
    Calls Try.prog 8 #[.slice a l.length cap] w (FewEnds l w) := by
  obtain ⟨_, _, e, hc, hm⟩ := hr.shape
  cases e
  unfold maxLen at hm
  go_enter Try.func8, Try.ntmps8
  go_wp2_with fail
  go_loopg [3] (l.length + 1) (fun g i wr => ∃ p : Nat, i = .int .i64 p ∧ p ≤ l.length ∧ l.length - p < g ∧ (∀ k (h : k < l.length), k < p → l[k].text.size ≤ 4100) ∧ w = wr)
  case atStart => exact ⟨0, rfl, by omega, by omega, fun k h hk => by omega, rfl⟩
  case round =>
    obtain ⟨p, rfl, hp, hg, hlo, rfl⟩ := hrel
    have HLO := hid hlo
    clear hlo
    by_cases hlt : p < l.length
    · obtain ⟨b, o, rfl⟩ := hr.addr (by omega)
      obtain ⟨_, _, _, _, g4⟩ := steps_get l p hlt
      obtain ⟨x, hx⟩ : ∃ x, l[p] = x := ⟨_, rfl⟩
      rw [hx] at g4
      have c4 := hr.cell g4
      rw [← Nat.add_assoc] at c4
      have HX := hid hx
      have HR := hid hr
      clear hx hr g4
      by_cases h4 : x.text.size ≤ 4100
      · go_wp2_with fail
        go_roundg (gk - 1)
        case measure => omega
        case rel =>
          refine ⟨p + 1, by go_num, by omega, by omega, fun k h hk => ?_, rfl⟩
          by_cases hkp : k = p
          · subst hkp; rw [HX.out]; exact h4
          · exact HLO.out k h (by omega)
      · have hnf : decide (Few l) = false := by
          rw [decide_eq_false_iff_not]
          intro hf
          exact h4 (hf.2 x (HX.out ▸ List.getElem_mem _))
        have HF := hid hnf
        clear hnf
        go_wp2_with fail
        go_ret
        exact ⟨by rw [HF.out]; rfl, rfl⟩
    · have hall : ∀ x ∈ l, x.text.size ≤ 4100 := by
        intro x hx
        obtain ⟨k, hk, rfl⟩ := List.getElem_of_mem hx
        exact HLO.out k hk (by omega)
      have hd : decide (Few l) = decide ((l.length : Int) ≤ 60) := by
        rw [decide_eq_decide]
        exact ⟨fun h => by have := h.1; omega, fun h => ⟨by omega, hall⟩⟩
      have HD := hid hd
      clear hall hd
      go_wp2_with fail
      go_ret
      exact ⟨by rw [HD.out]; rfl, rfl⟩

end Go.Proofs.Ytaglidlibocgpaa
