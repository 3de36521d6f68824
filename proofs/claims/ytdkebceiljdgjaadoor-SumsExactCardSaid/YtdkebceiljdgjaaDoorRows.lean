/-
  NARROWER THAN 'FOR EVERY INPUT', by the rows' own cells (each row's printed sentence says how): CycWholes: laid · RndOf: laid · RndAgain: laid · SumsExact: laid.
  DERIVED. THE GIVEN ROWS OF THIS SEAT. 4 by the template 'for every input the law returns true; each argument reads behind the call as it read before'; 0 by the template 'total and deterministic' (their statements: YtdkebceiljdgjaaDoorTotals.lean).
  GIVEN WITH THE SEED: the statements are not yours to turn. If you find one false, say at which input.
  Laid BY PROGRAM, IN A SANDBOX (cutbox-rows.mjs): the forced cells as the released guide's own fill.sh prints them over the translation d1e636af8b9caa2b… (all of the seat's roots in one cut). By AI agents, Wed Nov 11 2026. No macro, syntax, notation, axiom, sorry.
-/
import Derived.Test.YtdkebceiljdgjaaDoorChecked
import GoSem.Claim
import GoSem.ClaimJoined
import GoSem.ClaimMapViews
import Derived.JoinedTies
import Derived.KernelRfl
namespace Go.Proofs.YtdkebceiljdgjaaDoor
/- THE CELL 'sum', in the pinned program and in every row, IS THE sha256 OF THE DUMP (.gsa) THAT YtdkebceiljdgjaaDoorProg.lean LOADS. Nothing in Lean hashes anything: it is a label: what it is worth is what the hold of that sum in a sandbox is worth. -/
noncomputable def Tryd.pinned : Pinned := { name := "ytdkebceiljdgjaadoor", sum := "d1e636af8b9caa2be44eab3d95992283742a580f8ae12a98e2932bb49dbecd11", checked := Tryd.checked }
namespace Rows
def none {H : Type} : Left H := { results := [], args := [] }

/- WHAT THE LISTED PACKAGE-LEVEL VARIABLES READ AS WHEN THE CALL BEGINS. Each datum BY PROGRAM (the guide's laid-datum.mjs) off the statement by which the dump's own 'gosem.cut.vars' lays the variable. In a bare row this is a premise. The card (YtdkebceiljdgjaaDoorCards.lean) ties it to the program's text. -/
def laid_errors_errorType {H : Type} : DataW H := .iface "internal/reflectlite.rtype" (.agg [.ptr (.lit (.string [101, 114, 114, 111, 114]))])

/-- 'tillerlaw25.CycWholes': WHATEVER THE INPUT: true; the input reads as it did. -/
def cycWholesSpec : ChangeSpec := { name := "cycWholes", fn := fun _ => fun
  | [d1, d2] => { results := [.lit (.bool true)], args := [d1, d2] }
  | _ => none }
def cycWholesRow : OpenClaim := { program := "ytdkebceiljdgjaadoor", sum := "d1e636af8b9caa2be44eab3d95992283742a580f8ae12a98e2932bb49dbecd11", func := "tiller/tillerlaw25.CycWholes", spec := "cycWholes", inPlace := ["internal/reflectlite.ValueOf", "(internal/reflectlite.Value).Type", "(internal/reflectlite.Value).IsNil", "internal/reflectlite.TypeOf", "(internal/reflectlite.Value).Elem", "(internal/reflectlite.Value).Set"], unfollowed := true, recurses := true, named := ["errors.errorType"], apart := false, laid := [("errors.errorType", laid_errors_errorType)] }
def CycWholesSaid : Prop := cycWholesRow.holds Tryd.pinned (OpenSpec.ofChange cycWholesSpec)

/-- ITS FALSE NEIGHBOUR: 'it returns false'. Refute it at one input. -/
def cycWholesWrong : ChangeSpec := { name := "cycWholes", fn := fun _ => fun
  | [d1, d2] => { results := [.lit (.bool false)], args := [d1, d2] }
  | _ => none }
def CycWholesWrongFalsely : Prop := cycWholesRow.holds Tryd.pinned (OpenSpec.ofChange cycWholesWrong)

/-- 'tillerlaw04.RndOf': WHATEVER THE INPUT: true; the input reads as it did. -/
def rndOfSpec : ChangeSpec := { name := "rndOf", fn := fun _ => fun
  | [d1, d2] => { results := [.lit (.bool true)], args := [d1, d2] }
  | _ => none }
def rndOfRow : OpenClaim := { program := "ytdkebceiljdgjaadoor", sum := "d1e636af8b9caa2be44eab3d95992283742a580f8ae12a98e2932bb49dbecd11", func := "tiller/tillerlaw04.RndOf", spec := "rndOf", inPlace := ["internal/reflectlite.ValueOf", "(internal/reflectlite.Value).Type", "(internal/reflectlite.Value).IsNil", "internal/reflectlite.TypeOf", "(internal/reflectlite.Value).Elem", "(internal/reflectlite.Value).Set", "math/bits.Add64", "math/bits.Sub64"], unfollowed := true, recurses := true, named := ["errors.errorType"], apart := false, laid := [("errors.errorType", laid_errors_errorType)] }
def RndOfSaid : Prop := rndOfRow.holds Tryd.pinned (OpenSpec.ofChange rndOfSpec)

/-- ITS FALSE NEIGHBOUR: 'it returns false'. Refute it at one input. -/
def rndOfWrong : ChangeSpec := { name := "rndOf", fn := fun _ => fun
  | [d1, d2] => { results := [.lit (.bool false)], args := [d1, d2] }
  | _ => none }
def RndOfWrongFalsely : Prop := rndOfRow.holds Tryd.pinned (OpenSpec.ofChange rndOfWrong)

/-- 'tillerlaw04.RndAgain': WHATEVER THE INPUT: true; the input reads as it did. -/
def rndAgainSpec : ChangeSpec := { name := "rndAgain", fn := fun _ => fun
  | [d1, d2, d3] => { results := [.lit (.bool true)], args := [d1, d2, d3] }
  | _ => none }
def rndAgainRow : OpenClaim := { program := "ytdkebceiljdgjaadoor", sum := "d1e636af8b9caa2be44eab3d95992283742a580f8ae12a98e2932bb49dbecd11", func := "tiller/tillerlaw04.RndAgain", spec := "rndAgain", inPlace := ["math/bits.Add64", "math/bits.Sub64", "internal/reflectlite.ValueOf", "(internal/reflectlite.Value).Type", "(internal/reflectlite.Value).IsNil", "internal/reflectlite.TypeOf", "(internal/reflectlite.Value).Elem", "(internal/reflectlite.Value).Set"], unfollowed := true, recurses := true, named := ["errors.errorType"], apart := false, laid := [("errors.errorType", laid_errors_errorType)] }
def RndAgainSaid : Prop := rndAgainRow.holds Tryd.pinned (OpenSpec.ofChange rndAgainSpec)

/-- ITS FALSE NEIGHBOUR: 'it returns false'. Refute it at one input. -/
def rndAgainWrong : ChangeSpec := { name := "rndAgain", fn := fun _ => fun
  | [d1, d2, d3] => { results := [.lit (.bool false)], args := [d1, d2, d3] }
  | _ => none }
def RndAgainWrongFalsely : Prop := rndAgainRow.holds Tryd.pinned (OpenSpec.ofChange rndAgainWrong)

/-- 'tillerlaw05.SumsExact': WHATEVER THE INPUT: true; the input reads as it did. -/
def sumsExactSpec : ChangeSpec := { name := "sumsExact", fn := fun _ => fun
  | [d1, d2, d3] => { results := [.lit (.bool true)], args := [d1, d2, d3] }
  | _ => none }
def sumsExactRow : OpenClaim := { program := "ytdkebceiljdgjaadoor", sum := "d1e636af8b9caa2be44eab3d95992283742a580f8ae12a98e2932bb49dbecd11", func := "tiller/tillerlaw05.SumsExact", spec := "sumsExact", inPlace := ["math/bits.Add64", "math/bits.Sub64", "internal/reflectlite.ValueOf", "(internal/reflectlite.Value).Type", "(internal/reflectlite.Value).IsNil", "internal/reflectlite.TypeOf", "(internal/reflectlite.Value).Elem", "(internal/reflectlite.Value).Set"], unfollowed := true, recurses := true, named := ["errors.errorType"], apart := false, laid := [("errors.errorType", laid_errors_errorType)] }
def SumsExactSaid : Prop := sumsExactRow.holds Tryd.pinned (OpenSpec.ofChange sumsExactSpec)

/-- ITS FALSE NEIGHBOUR: 'it returns false'. Refute it at one input. -/
def sumsExactWrong : ChangeSpec := { name := "sumsExact", fn := fun _ => fun
  | [d1, d2, d3] => { results := [.lit (.bool false)], args := [d1, d2, d3] }
  | _ => none }
def SumsExactWrongFalsely : Prop := sumsExactRow.holds Tryd.pinned (OpenSpec.ofChange sumsExactWrong)

/- THE SECOND FORM. 'bulk': how many values and letters a reading holds, each counted each time it is reached (what is shared counts as often as it is met; a slice's spare places count too). A statement '..UptoSaid' is the law's where the arguments, and the package variables that the reading takes, are together of bulk at most 1048576: NARROWER than '..Said'. Prove '..Said' where nothing that the law and all that it calls make is longer than what came in: it says more and counts as full. Else prove '..UptoSaid'. A law counts once. -/
mutual
def uptoBulk {H : Type} : DataW H → Nat
  | .lit (.string bytes) => bytes.length + 1
  | .lit _ => 1
  | .nil => 1
  | .ptr d => uptoBulk d + 1
  | .slice elems spare => uptoBulkAll elems + uptoBulkAll spare + 1
  | .agg parts => uptoBulkAll parts + 1
  | .iface _ d => uptoBulk d + 1
  | .map entries => uptoBulkEntries entries + 1
  | .held _ => 1
def uptoBulkAll {H : Type} : List (DataW H) → Nat
  | [] => 0
  | d :: r => uptoBulk d + uptoBulkAll r
def uptoBulkEntries {H : Type} : List (Lit × DataW H) → Nat
  | [] => 0
  | x :: r => uptoBulkEntry x + uptoBulkEntries r
def uptoBulkEntry {H : Type} : Lit × DataW H → Nat
  | (.string bytes, d) => bytes.length + uptoBulk d + 1
  | (_, d) => uptoBulk d + 1
 end
def uptoSmall : (H : Type) → List (DataW H) → Bool := fun _ ds => decide (uptoBulkAll ds ≤ 1048576)
def OpenSpec.upto (s : _root_.Go.ChangeSpec) : _root_.Go.OpenSpec := { _root_.Go.OpenSpec.ofChange s with cond := some uptoSmall }

/-- 'tillerlaw25.CycWholes', WHERE WHAT IT READS IS OF BULK AT MOST 1048576: true; the input reads as it did. -/
def cycWholesUptoRow : OpenClaim := { program := "ytdkebceiljdgjaadoor", sum := "d1e636af8b9caa2be44eab3d95992283742a580f8ae12a98e2932bb49dbecd11", func := "tiller/tillerlaw25.CycWholes", spec := "cycWholes", inPlace := ["internal/reflectlite.ValueOf", "(internal/reflectlite.Value).Type", "(internal/reflectlite.Value).IsNil", "internal/reflectlite.TypeOf", "(internal/reflectlite.Value).Elem", "(internal/reflectlite.Value).Set"], unfollowed := true, recurses := true, named := ["errors.errorType"], apart := false, laid := [("errors.errorType", laid_errors_errorType)], narrowed := true }
def CycWholesUptoSaid : Prop := cycWholesUptoRow.holds Tryd.pinned (OpenSpec.upto cycWholesSpec)

/-- 'tillerlaw04.RndOf', WHERE WHAT IT READS IS OF BULK AT MOST 1048576: true; the input reads as it did. -/
def rndOfUptoRow : OpenClaim := { program := "ytdkebceiljdgjaadoor", sum := "d1e636af8b9caa2be44eab3d95992283742a580f8ae12a98e2932bb49dbecd11", func := "tiller/tillerlaw04.RndOf", spec := "rndOf", inPlace := ["internal/reflectlite.ValueOf", "(internal/reflectlite.Value).Type", "(internal/reflectlite.Value).IsNil", "internal/reflectlite.TypeOf", "(internal/reflectlite.Value).Elem", "(internal/reflectlite.Value).Set", "math/bits.Add64", "math/bits.Sub64"], unfollowed := true, recurses := true, named := ["errors.errorType"], apart := false, laid := [("errors.errorType", laid_errors_errorType)], narrowed := true }
def RndOfUptoSaid : Prop := rndOfUptoRow.holds Tryd.pinned (OpenSpec.upto rndOfSpec)

/-- 'tillerlaw04.RndAgain', WHERE WHAT IT READS IS OF BULK AT MOST 1048576: true; the input reads as it did. -/
def rndAgainUptoRow : OpenClaim := { program := "ytdkebceiljdgjaadoor", sum := "d1e636af8b9caa2be44eab3d95992283742a580f8ae12a98e2932bb49dbecd11", func := "tiller/tillerlaw04.RndAgain", spec := "rndAgain", inPlace := ["math/bits.Add64", "math/bits.Sub64", "internal/reflectlite.ValueOf", "(internal/reflectlite.Value).Type", "(internal/reflectlite.Value).IsNil", "internal/reflectlite.TypeOf", "(internal/reflectlite.Value).Elem", "(internal/reflectlite.Value).Set"], unfollowed := true, recurses := true, named := ["errors.errorType"], apart := false, laid := [("errors.errorType", laid_errors_errorType)], narrowed := true }
def RndAgainUptoSaid : Prop := rndAgainUptoRow.holds Tryd.pinned (OpenSpec.upto rndAgainSpec)

/-- 'tillerlaw05.SumsExact', WHERE WHAT IT READS IS OF BULK AT MOST 1048576: true; the input reads as it did. -/
def sumsExactUptoRow : OpenClaim := { program := "ytdkebceiljdgjaadoor", sum := "d1e636af8b9caa2be44eab3d95992283742a580f8ae12a98e2932bb49dbecd11", func := "tiller/tillerlaw05.SumsExact", spec := "sumsExact", inPlace := ["math/bits.Add64", "math/bits.Sub64", "internal/reflectlite.ValueOf", "(internal/reflectlite.Value).Type", "(internal/reflectlite.Value).IsNil", "internal/reflectlite.TypeOf", "(internal/reflectlite.Value).Elem", "(internal/reflectlite.Value).Set"], unfollowed := true, recurses := true, named := ["errors.errorType"], apart := false, laid := [("errors.errorType", laid_errors_errorType)], narrowed := true }
def SumsExactUptoSaid : Prop := sumsExactUptoRow.holds Tryd.pinned (OpenSpec.upto sumsExactSpec)

end Rows
end Go.Proofs.YtdkebceiljdgjaaDoor
