/-
  NARROWER THAN 'FOR EVERY INPUT', by the rows' own cells (each row's printed sentence says how): CycPlains: laid · FlyLittles: laid · FlyMirror: laid · FlyScaled: laid.
  DERIVED. THE GIVEN ROWS OF THIS SEAT. 4 by the template 'for every input the law returns true; each argument reads behind the call as it read before'; 0 by the template 'total and deterministic' (their statements: YtbakldcbaikgpaaGreatDoorTotals.lean).
  GIVEN WITH THE SEED: the statements are not yours to turn. If you find one false, say at which input.
  Laid BY PROGRAM, IN A SANDBOX (cutbox-rows.mjs): the forced cells as the released guide's own fill.sh prints them over the translation c4f08ee78da1f63b… (all of the seat's roots in one cut). By AI agents, Wed Nov 11 2026. No macro, syntax, notation, axiom, sorry.
-/
import Derived.Test.YtbakldcbaikgpaaGreatDoorChecked
import GoSem.Claim
import GoSem.ClaimJoined
import GoSem.ClaimMapViews
import Derived.JoinedTies
import Derived.KernelRfl
namespace Go.Proofs.YtbakldcbaikgpaaGreatDoor
/- THE CELL 'sum', in the pinned program and in every row, IS THE sha256 OF THE DUMP (.gsa) THAT YtbakldcbaikgpaaGreatDoorProg.lean LOADS. Nothing in Lean hashes anything: it is a label: what it is worth is what the hold of that sum in a sandbox is worth. -/
noncomputable def Tryz.pinned : Pinned := { name := "ytbakldcbaikgpaagreatdoor", sum := "c4f08ee78da1f63b605e174ab666b207447f93c33ce2f961d686b29501465c97", checked := Tryz.checked }
namespace Rows
def none {H : Type} : Left H := { results := [], args := [] }

/- WHAT THE LISTED PACKAGE-LEVEL VARIABLES READ AS WHEN THE CALL BEGINS. Each datum BY PROGRAM (the guide's laid-datum.mjs) off the statement by which the dump's own 'gosem.cut.vars' lays the variable. In a bare row this is a premise. The card (YtbakldcbaikgpaaGreatDoorCards.lean) ties it to the program's text. -/
def laid_errors_errorType {H : Type} : DataW H := .iface "internal/reflectlite.rtype" (.agg [.ptr (.lit (.string [101, 114, 114, 111, 114]))])

/-- 'tillerlaw25.CycPlains': WHATEVER THE INPUT: true; the input reads as it did. -/
def cycPlainsSpec : ChangeSpec := { name := "cycPlains", fn := fun _ => fun
  | [d1, d2] => { results := [.lit (.bool true)], args := [d1, d2] }
  | _ => none }
def cycPlainsRow : OpenClaim := { program := "ytbakldcbaikgpaagreatdoor", sum := "c4f08ee78da1f63b605e174ab666b207447f93c33ce2f961d686b29501465c97", func := "tiller/tillerlaw25.CycPlains", spec := "cycPlains", inPlace := ["math/bits.Add64", "math/bits.Sub64", "internal/reflectlite.ValueOf", "(internal/reflectlite.Value).Type", "(internal/reflectlite.Value).IsNil", "internal/reflectlite.TypeOf", "(internal/reflectlite.Value).Elem", "(internal/reflectlite.Value).Set"], unfollowed := true, recurses := true, named := ["errors.errorType"], apart := false, laid := [("errors.errorType", laid_errors_errorType)] }
def CycPlainsSaid : Prop := cycPlainsRow.holds Tryz.pinned (OpenSpec.ofChange cycPlainsSpec)

/-- ITS FALSE NEIGHBOUR: 'it returns false'. Refute it at one input. -/
def cycPlainsWrong : ChangeSpec := { name := "cycPlains", fn := fun _ => fun
  | [d1, d2] => { results := [.lit (.bool false)], args := [d1, d2] }
  | _ => none }
def CycPlainsWrongFalsely : Prop := cycPlainsRow.holds Tryz.pinned (OpenSpec.ofChange cycPlainsWrong)

/-- 'tillerlaw18.FlyLittles': WHATEVER THE INPUT: true; the input reads as it did. -/
def flyLittlesSpec : ChangeSpec := { name := "flyLittles", fn := fun _ => fun
  | [d1, d2] => { results := [.lit (.bool true)], args := [d1, d2] }
  | _ => none }
def flyLittlesRow : OpenClaim := { program := "ytbakldcbaikgpaagreatdoor", sum := "c4f08ee78da1f63b605e174ab666b207447f93c33ce2f961d686b29501465c97", func := "tiller/tillerlaw18.FlyLittles", spec := "flyLittles", inPlace := ["math/bits.Add64", "math/bits.Sub64", "internal/reflectlite.ValueOf", "(internal/reflectlite.Value).Type", "(internal/reflectlite.Value).IsNil", "internal/reflectlite.TypeOf", "(internal/reflectlite.Value).Elem", "(internal/reflectlite.Value).Set"], unfollowed := true, recurses := true, named := ["errors.errorType"], apart := false, laid := [("errors.errorType", laid_errors_errorType)] }
def FlyLittlesSaid : Prop := flyLittlesRow.holds Tryz.pinned (OpenSpec.ofChange flyLittlesSpec)

/-- ITS FALSE NEIGHBOUR: 'it returns false'. Refute it at one input. -/
def flyLittlesWrong : ChangeSpec := { name := "flyLittles", fn := fun _ => fun
  | [d1, d2] => { results := [.lit (.bool false)], args := [d1, d2] }
  | _ => none }
def FlyLittlesWrongFalsely : Prop := flyLittlesRow.holds Tryz.pinned (OpenSpec.ofChange flyLittlesWrong)

/-- 'tillerlaw18.FlyMirror': WHATEVER THE INPUT: true; the input reads as it did. -/
def flyMirrorSpec : ChangeSpec := { name := "flyMirror", fn := fun _ => fun
  | [d] => { results := [.lit (.bool true)], args := [d] }
  | _ => none }
def flyMirrorRow : OpenClaim := { program := "ytbakldcbaikgpaagreatdoor", sum := "c4f08ee78da1f63b605e174ab666b207447f93c33ce2f961d686b29501465c97", func := "tiller/tillerlaw18.FlyMirror", spec := "flyMirror", inPlace := ["math/bits.Add64", "math/bits.Sub64", "internal/reflectlite.ValueOf", "(internal/reflectlite.Value).Type", "(internal/reflectlite.Value).IsNil", "internal/reflectlite.TypeOf", "(internal/reflectlite.Value).Elem", "(internal/reflectlite.Value).Set"], unfollowed := true, recurses := true, named := ["errors.errorType"], apart := false, laid := [("errors.errorType", laid_errors_errorType)] }
def FlyMirrorSaid : Prop := flyMirrorRow.holds Tryz.pinned (OpenSpec.ofChange flyMirrorSpec)

/-- ITS FALSE NEIGHBOUR: 'it returns false'. Refute it at one input. -/
def flyMirrorWrong : ChangeSpec := { name := "flyMirror", fn := fun _ => fun
  | [d] => { results := [.lit (.bool false)], args := [d] }
  | _ => none }
def FlyMirrorWrongFalsely : Prop := flyMirrorRow.holds Tryz.pinned (OpenSpec.ofChange flyMirrorWrong)

/-- 'tillerlaw18.FlyScaled': WHATEVER THE INPUT: true; the input reads as it did. -/
def flyScaledSpec : ChangeSpec := { name := "flyScaled", fn := fun _ => fun
  | [d1, d2] => { results := [.lit (.bool true)], args := [d1, d2] }
  | _ => none }
def flyScaledRow : OpenClaim := { program := "ytbakldcbaikgpaagreatdoor", sum := "c4f08ee78da1f63b605e174ab666b207447f93c33ce2f961d686b29501465c97", func := "tiller/tillerlaw18.FlyScaled", spec := "flyScaled", inPlace := ["math/bits.Add64", "math/bits.Sub64", "internal/reflectlite.ValueOf", "(internal/reflectlite.Value).Type", "(internal/reflectlite.Value).IsNil", "internal/reflectlite.TypeOf", "(internal/reflectlite.Value).Elem", "(internal/reflectlite.Value).Set"], unfollowed := true, recurses := true, named := ["errors.errorType"], apart := false, laid := [("errors.errorType", laid_errors_errorType)] }
def FlyScaledSaid : Prop := flyScaledRow.holds Tryz.pinned (OpenSpec.ofChange flyScaledSpec)

/-- ITS FALSE NEIGHBOUR: 'it returns false'. Refute it at one input. -/
def flyScaledWrong : ChangeSpec := { name := "flyScaled", fn := fun _ => fun
  | [d1, d2] => { results := [.lit (.bool false)], args := [d1, d2] }
  | _ => none }
def FlyScaledWrongFalsely : Prop := flyScaledRow.holds Tryz.pinned (OpenSpec.ofChange flyScaledWrong)

/- THE SECOND FORM. 'bulk': how many values and letters a reading holds, each counted each time it is reached (what is shared counts as often as it is met; a slice's spare places count too). A statement '..UptoSaid' is the law's where the arguments, and the package variables that the reading takes, are together of bulk at most 1048576: NARROWER than '..Said'. Prove '..Said' where nothing that the law and all that it calls make is longer than what came in: it says more and counts as full. Else prove '..UptoSaid'. A law counts once. -/
mutual
def uptoBulk {H : Type} : DataW H → Nat
  | .lit (.string bytes) => bytes.length + 1
  | .lit _ => 1
  | .nil => 1
  | .ptr d => uptoBulk d + 1
  | .slice elems spare => uptoBulkAll elems + uptoBulkAll spare + 1
  | .agg parts => uptoBulkAll parts + 1
  | .iface _ d => uptoBulk d + 1
  | .map entries => uptoBulkEntries entries + 1
  | .held _ => 1
def uptoBulkAll {H : Type} : List (DataW H) → Nat
  | [] => 0
  | d :: r => uptoBulk d + uptoBulkAll r
def uptoBulkEntries {H : Type} : List (Lit × DataW H) → Nat
  | [] => 0
  | x :: r => uptoBulkEntry x + uptoBulkEntries r
def uptoBulkEntry {H : Type} : Lit × DataW H → Nat
  | (.string bytes, d) => bytes.length + uptoBulk d + 1
  | (_, d) => uptoBulk d + 1
 end
def uptoSmall : (H : Type) → List (DataW H) → Bool := fun _ ds => decide (uptoBulkAll ds ≤ 1048576)
def OpenSpec.upto (s : _root_.Go.ChangeSpec) : _root_.Go.OpenSpec := { _root_.Go.OpenSpec.ofChange s with cond := some uptoSmall }

/-- 'tillerlaw25.CycPlains', WHERE WHAT IT READS IS OF BULK AT MOST 1048576: true; the input reads as it did. -/
def cycPlainsUptoRow : OpenClaim := { program := "ytbakldcbaikgpaagreatdoor", sum := "c4f08ee78da1f63b605e174ab666b207447f93c33ce2f961d686b29501465c97", func := "tiller/tillerlaw25.CycPlains", spec := "cycPlains", inPlace := ["math/bits.Add64", "math/bits.Sub64", "internal/reflectlite.ValueOf", "(internal/reflectlite.Value).Type", "(internal/reflectlite.Value).IsNil", "internal/reflectlite.TypeOf", "(internal/reflectlite.Value).Elem", "(internal/reflectlite.Value).Set"], unfollowed := true, recurses := true, named := ["errors.errorType"], apart := false, laid := [("errors.errorType", laid_errors_errorType)], narrowed := true }
def CycPlainsUptoSaid : Prop := cycPlainsUptoRow.holds Tryz.pinned (OpenSpec.upto cycPlainsSpec)

/-- 'tillerlaw18.FlyLittles', WHERE WHAT IT READS IS OF BULK AT MOST 1048576: true; the input reads as it did. -/
def flyLittlesUptoRow : OpenClaim := { program := "ytbakldcbaikgpaagreatdoor", sum := "c4f08ee78da1f63b605e174ab666b207447f93c33ce2f961d686b29501465c97", func := "tiller/tillerlaw18.FlyLittles", spec := "flyLittles", inPlace := ["math/bits.Add64", "math/bits.Sub64", "internal/reflectlite.ValueOf", "(internal/reflectlite.Value).Type", "(internal/reflectlite.Value).IsNil", "internal/reflectlite.TypeOf", "(internal/reflectlite.Value).Elem", "(internal/reflectlite.Value).Set"], unfollowed := true, recurses := true, named := ["errors.errorType"], apart := false, laid := [("errors.errorType", laid_errors_errorType)], narrowed := true }
def FlyLittlesUptoSaid : Prop := flyLittlesUptoRow.holds Tryz.pinned (OpenSpec.upto flyLittlesSpec)

/-- 'tillerlaw18.FlyMirror', WHERE WHAT IT READS IS OF BULK AT MOST 1048576: true; the input reads as it did. -/
def flyMirrorUptoRow : OpenClaim := { program := "ytbakldcbaikgpaagreatdoor", sum := "c4f08ee78da1f63b605e174ab666b207447f93c33ce2f961d686b29501465c97", func := "tiller/tillerlaw18.FlyMirror", spec := "flyMirror", inPlace := ["math/bits.Add64", "math/bits.Sub64", "internal/reflectlite.ValueOf", "(internal/reflectlite.Value).Type", "(internal/reflectlite.Value).IsNil", "internal/reflectlite.TypeOf", "(internal/reflectlite.Value).Elem", "(internal/reflectlite.Value).Set"], unfollowed := true, recurses := true, named := ["errors.errorType"], apart := false, laid := [("errors.errorType", laid_errors_errorType)], narrowed := true }
def FlyMirrorUptoSaid : Prop := flyMirrorUptoRow.holds Tryz.pinned (OpenSpec.upto flyMirrorSpec)

/-- 'tillerlaw18.FlyScaled', WHERE WHAT IT READS IS OF BULK AT MOST 1048576: true; the input reads as it did. -/
def flyScaledUptoRow : OpenClaim := { program := "ytbakldcbaikgpaagreatdoor", sum := "c4f08ee78da1f63b605e174ab666b207447f93c33ce2f961d686b29501465c97", func := "tiller/tillerlaw18.FlyScaled", spec := "flyScaled", inPlace := ["math/bits.Add64", "math/bits.Sub64", "internal/reflectlite.ValueOf", "(internal/reflectlite.Value).Type", "(internal/reflectlite.Value).IsNil", "internal/reflectlite.TypeOf", "(internal/reflectlite.Value).Elem", "(internal/reflectlite.Value).Set"], unfollowed := true, recurses := true, named := ["errors.errorType"], apart := false, laid := [("errors.errorType", laid_errors_errorType)], narrowed := true }
def FlyScaledUptoSaid : Prop := flyScaledUptoRow.holds Tryz.pinned (OpenSpec.upto flyScaledSpec)

end Rows
end Go.Proofs.YtbakldcbaikgpaaGreatDoor
