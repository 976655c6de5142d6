/-
  No cell of these rows narrows 'for every input' (looked for: loops, veiled, ifaces, maps, wideKeys, modest, calm, conditions, laid).
  DERIVED. THE GIVEN ROWS OF THIS SEAT. 5 by the template 'for every input the law returns true; each argument reads behind the call as it read before'; 0 by the template 'total and deterministic' (their statements: YtaglidlibocgpaaTotals.lean).
  GIVEN WITH THE SEED: the statements are not yours to turn. If you find one false, say at which input.
  Laid BY PROGRAM, IN A SANDBOX (cutbox-rows.mjs): the forced cells as the released guide's own fill.sh prints them over the translation 6a602e3ea22982bc… (all of the seat's roots in one cut). By AI agents, Wed Nov 11 2026. No macro, syntax, notation, axiom, sorry.
-/
import Derived.Test.YtaglidlibocgpaaChecked
import GoSem.Claim
import GoSem.ClaimJoined
import GoSem.ClaimMapViews
import Derived.JoinedTies
import Derived.KernelRfl
namespace Go.Proofs.Ytaglidlibocgpaa
/- THE CELL 'sum', in the pinned program and in every row, IS THE sha256 OF THE DUMP (.gsa) THAT YtaglidlibocgpaaProg.lean LOADS. Nothing in Lean hashes anything: it is a label: what it is worth is what the hold of that sum in a sandbox is worth. -/
noncomputable def Try.pinned : Pinned := { name := "ytaglidlibocgpaa", sum := "6a602e3ea22982bce44b79a793e6b0bae2b81fc62d4e350a938f483181740c04", checked := Try.checked }
namespace Rows
def none {H : Type} : Left H := { results := [], args := [] }

/-- 'roboticslaw32.ServiceServes': WHATEVER THE INPUT: true; the input reads as it did. -/
def serviceServesSpec : ChangeSpec := { name := "serviceServes", fn := fun _ => fun
  | [d1, d2] => { results := [.lit (.bool true)], args := [d1, d2] }
  | _ => none }
def serviceServesRow : OpenClaim := { program := "ytaglidlibocgpaa", sum := "6a602e3ea22982bce44b79a793e6b0bae2b81fc62d4e350a938f483181740c04", func := "robotics/roboticslaw32.ServiceServes", spec := "serviceServes", inPlace := ["slices.overlaps[robotics/service.Call]"], unfollowed := true, recurses := true, apart := false }
def ServiceServesSaid : Prop := serviceServesRow.holds Try.pinned (OpenSpec.ofChange serviceServesSpec)

/-- ITS FALSE NEIGHBOUR: 'it returns false'. Refute it at one input. -/
def serviceServesWrong : ChangeSpec := { name := "serviceServes", fn := fun _ => fun
  | [d1, d2] => { results := [.lit (.bool false)], args := [d1, d2] }
  | _ => none }
def ServiceServesWrongFalsely : Prop := serviceServesRow.holds Try.pinned (OpenSpec.ofChange serviceServesWrong)

/-- 'roboticslaw32.ServiceOnce': WHATEVER THE INPUT: true; the input reads as it did. -/
def serviceOnceSpec : ChangeSpec := { name := "serviceOnce", fn := fun _ => fun
  | [d1, d2] => { results := [.lit (.bool true)], args := [d1, d2] }
  | _ => none }
def serviceOnceRow : OpenClaim := { program := "ytaglidlibocgpaa", sum := "6a602e3ea22982bce44b79a793e6b0bae2b81fc62d4e350a938f483181740c04", func := "robotics/roboticslaw32.ServiceOnce", spec := "serviceOnce", inPlace := ["slices.overlaps[robotics/service.Call]"], unfollowed := true, recurses := true, apart := false }
def ServiceOnceSaid : Prop := serviceOnceRow.holds Try.pinned (OpenSpec.ofChange serviceOnceSpec)

/-- ITS FALSE NEIGHBOUR: 'it returns false'. Refute it at one input. -/
def serviceOnceWrong : ChangeSpec := { name := "serviceOnce", fn := fun _ => fun
  | [d1, d2] => { results := [.lit (.bool false)], args := [d1, d2] }
  | _ => none }
def ServiceOnceWrongFalsely : Prop := serviceOnceRow.holds Try.pinned (OpenSpec.ofChange serviceOnceWrong)

/-- 'roboticslaw32.ServiceFinal': WHATEVER THE INPUT: true; the input reads as it did. -/
def serviceFinalSpec : ChangeSpec := { name := "serviceFinal", fn := fun _ => fun
  | [d] => { results := [.lit (.bool true)], args := [d] }
  | _ => none }
def serviceFinalRow : OpenClaim := { program := "ytaglidlibocgpaa", sum := "6a602e3ea22982bce44b79a793e6b0bae2b81fc62d4e350a938f483181740c04", func := "robotics/roboticslaw32.ServiceFinal", spec := "serviceFinal", inPlace := ["slices.overlaps[robotics/service.Call]"], unfollowed := true, recurses := true, apart := false }
def ServiceFinalSaid : Prop := serviceFinalRow.holds Try.pinned (OpenSpec.ofChange serviceFinalSpec)

/-- ITS FALSE NEIGHBOUR: 'it returns false'. Refute it at one input. -/
def serviceFinalWrong : ChangeSpec := { name := "serviceFinal", fn := fun _ => fun
  | [d] => { results := [.lit (.bool false)], args := [d] }
  | _ => none }
def ServiceFinalWrongFalsely : Prop := serviceFinalRow.holds Try.pinned (OpenSpec.ofChange serviceFinalWrong)

/-- 'roboticslaw32.ServiceJoins': WHATEVER THE INPUT: true; the input reads as it did. -/
def serviceJoinsSpec : ChangeSpec := { name := "serviceJoins", fn := fun _ => fun
  | [d1, d2] => { results := [.lit (.bool true)], args := [d1, d2] }
  | _ => none }
def serviceJoinsRow : OpenClaim := { program := "ytaglidlibocgpaa", sum := "6a602e3ea22982bce44b79a793e6b0bae2b81fc62d4e350a938f483181740c04", func := "robotics/roboticslaw32.ServiceJoins", spec := "serviceJoins", inPlace := ["slices.overlaps[robotics/service.Call]"], unfollowed := true, recurses := true, apart := false }
def ServiceJoinsSaid : Prop := serviceJoinsRow.holds Try.pinned (OpenSpec.ofChange serviceJoinsSpec)

/-- ITS FALSE NEIGHBOUR: 'it returns false'. Refute it at one input. -/
def serviceJoinsWrong : ChangeSpec := { name := "serviceJoins", fn := fun _ => fun
  | [d1, d2] => { results := [.lit (.bool false)], args := [d1, d2] }
  | _ => none }
def ServiceJoinsWrongFalsely : Prop := serviceJoinsRow.holds Try.pinned (OpenSpec.ofChange serviceJoinsWrong)

/-- 'roboticslaw32.ServiceNobody': WHATEVER THE INPUT: true; the input reads as it did. -/
def serviceNobodySpec : ChangeSpec := { name := "serviceNobody", fn := fun _ => fun
  | [d1, d2, d3] => { results := [.lit (.bool true)], args := [d1, d2, d3] }
  | _ => none }
def serviceNobodyRow : OpenClaim := { program := "ytaglidlibocgpaa", sum := "6a602e3ea22982bce44b79a793e6b0bae2b81fc62d4e350a938f483181740c04", func := "robotics/roboticslaw32.ServiceNobody", spec := "serviceNobody", inPlace := ["slices.overlaps[robotics/service.Call]"], unfollowed := true, recurses := true, apart := false }
def ServiceNobodySaid : Prop := serviceNobodyRow.holds Try.pinned (OpenSpec.ofChange serviceNobodySpec)

/-- ITS FALSE NEIGHBOUR: 'it returns false'. Refute it at one input. -/
def serviceNobodyWrong : ChangeSpec := { name := "serviceNobody", fn := fun _ => fun
  | [d1, d2, d3] => { results := [.lit (.bool false)], args := [d1, d2, d3] }
  | _ => none }
def ServiceNobodyWrongFalsely : Prop := serviceNobodyRow.holds Try.pinned (OpenSpec.ofChange serviceNobodyWrong)

/- THE SECOND FORM. 'bulk': how many values and letters a reading holds, each counted each time it is reached (what is shared counts as often as it is met; a slice's spare places count too). A statement '..UptoSaid' is the law's where the arguments, and the package variables that the reading takes, are together of bulk at most 1048576: NARROWER than '..Said'. Prove '..Said' where nothing that the law and all that it calls make is longer than what came in: it says more and counts as full. Else prove '..UptoSaid'. A law counts once. -/
mutual
def uptoBulk {H : Type} : DataW H → Nat
  | .lit (.string bytes) => bytes.length + 1
  | .lit _ => 1
  | .nil => 1
  | .ptr d => uptoBulk d + 1
  | .slice elems spare => uptoBulkAll elems + uptoBulkAll spare + 1
  | .agg parts => uptoBulkAll parts + 1
  | .iface _ d => uptoBulk d + 1
  | .map entries => uptoBulkEntries entries + 1
  | .held _ => 1
def uptoBulkAll {H : Type} : List (DataW H) → Nat
  | [] => 0
  | d :: r => uptoBulk d + uptoBulkAll r
def uptoBulkEntries {H : Type} : List (Lit × DataW H) → Nat
  | [] => 0
  | x :: r => uptoBulkEntry x + uptoBulkEntries r
def uptoBulkEntry {H : Type} : Lit × DataW H → Nat
  | (.string bytes, d) => bytes.length + uptoBulk d + 1
  | (_, d) => uptoBulk d + 1
 end
def uptoSmall : (H : Type) → List (DataW H) → Bool := fun _ ds => decide (uptoBulkAll ds ≤ 1048576)
def OpenSpec.upto (s : _root_.Go.ChangeSpec) : _root_.Go.OpenSpec := { _root_.Go.OpenSpec.ofChange s with cond := some uptoSmall }

/-- 'roboticslaw32.ServiceServes', WHERE WHAT IT READS IS OF BULK AT MOST 1048576: true; the input reads as it did. -/
def serviceServesUptoRow : OpenClaim := { program := "ytaglidlibocgpaa", sum := "6a602e3ea22982bce44b79a793e6b0bae2b81fc62d4e350a938f483181740c04", func := "robotics/roboticslaw32.ServiceServes", spec := "serviceServes", inPlace := ["slices.overlaps[robotics/service.Call]"], unfollowed := true, recurses := true, apart := false, narrowed := true }
def ServiceServesUptoSaid : Prop := serviceServesUptoRow.holds Try.pinned (OpenSpec.upto serviceServesSpec)

/-- 'roboticslaw32.ServiceOnce', WHERE WHAT IT READS IS OF BULK AT MOST 1048576: true; the input reads as it did. -/
def serviceOnceUptoRow : OpenClaim := { program := "ytaglidlibocgpaa", sum := "6a602e3ea22982bce44b79a793e6b0bae2b81fc62d4e350a938f483181740c04", func := "robotics/roboticslaw32.ServiceOnce", spec := "serviceOnce", inPlace := ["slices.overlaps[robotics/service.Call]"], unfollowed := true, recurses := true, apart := false, narrowed := true }
def ServiceOnceUptoSaid : Prop := serviceOnceUptoRow.holds Try.pinned (OpenSpec.upto serviceOnceSpec)

/-- 'roboticslaw32.ServiceFinal', WHERE WHAT IT READS IS OF BULK AT MOST 1048576: true; the input reads as it did. -/
def serviceFinalUptoRow : OpenClaim := { program := "ytaglidlibocgpaa", sum := "6a602e3ea22982bce44b79a793e6b0bae2b81fc62d4e350a938f483181740c04", func := "robotics/roboticslaw32.ServiceFinal", spec := "serviceFinal", inPlace := ["slices.overlaps[robotics/service.Call]"], unfollowed := true, recurses := true, apart := false, narrowed := true }
def ServiceFinalUptoSaid : Prop := serviceFinalUptoRow.holds Try.pinned (OpenSpec.upto serviceFinalSpec)

/-- 'roboticslaw32.ServiceJoins', WHERE WHAT IT READS IS OF BULK AT MOST 1048576: true; the input reads as it did. -/
def serviceJoinsUptoRow : OpenClaim := { program := "ytaglidlibocgpaa", sum := "6a602e3ea22982bce44b79a793e6b0bae2b81fc62d4e350a938f483181740c04", func := "robotics/roboticslaw32.ServiceJoins", spec := "serviceJoins", inPlace := ["slices.overlaps[robotics/service.Call]"], unfollowed := true, recurses := true, apart := false, narrowed := true }
def ServiceJoinsUptoSaid : Prop := serviceJoinsUptoRow.holds Try.pinned (OpenSpec.upto serviceJoinsSpec)

/-- 'roboticslaw32.ServiceNobody', WHERE WHAT IT READS IS OF BULK AT MOST 1048576: true; the input reads as it did. -/
def serviceNobodyUptoRow : OpenClaim := { program := "ytaglidlibocgpaa", sum := "6a602e3ea22982bce44b79a793e6b0bae2b81fc62d4e350a938f483181740c04", func := "robotics/roboticslaw32.ServiceNobody", spec := "serviceNobody", inPlace := ["slices.overlaps[robotics/service.Call]"], unfollowed := true, recurses := true, apart := false, narrowed := true }
def ServiceNobodyUptoSaid : Prop := serviceNobodyUptoRow.holds Try.pinned (OpenSpec.upto serviceNobodySpec)

end Rows
end Go.Proofs.Ytaglidlibocgpaa
