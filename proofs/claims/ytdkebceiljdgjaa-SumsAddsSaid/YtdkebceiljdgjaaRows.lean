/-
  No cell of these rows narrows 'for every input' (looked for: loops, veiled, ifaces, maps, wideKeys, modest, calm, conditions, laid).
  DERIVED. THE GIVEN ROWS OF THIS SEAT. 16 by the template 'for every input the law returns true; each argument reads behind the call as it read before'; 0 by the template 'total and deterministic' (their statements: YtdkebceiljdgjaaTotals.lean).
  GIVEN WITH THE SEED: the statements are not yours to turn. If you find one false, say at which input.
  Laid BY PROGRAM, IN A SANDBOX (cutbox-rows.mjs): the forced cells as the released guide's own fill.sh prints them over the translation e131f614e6f3ed62… (all of the seat's roots in one cut). By AI agents, Wed Nov 11 2026. No macro, syntax, notation, axiom, sorry.
-/
import Derived.Test.YtdkebceiljdgjaaChecked
import GoSem.Claim
import GoSem.ClaimJoined
import GoSem.ClaimMapViews
import Derived.JoinedTies
import Derived.KernelRfl
namespace Go.Proofs.Ytdkebceiljdgjaa
/- THE CELL 'sum', in the pinned program and in every row, IS THE sha256 OF THE DUMP (.gsa) THAT YtdkebceiljdgjaaProg.lean LOADS. Nothing in Lean hashes anything: it is a label: what it is worth is what the hold of that sum in a sandbox is worth. -/
noncomputable def Try.pinned : Pinned := { name := "ytdkebceiljdgjaa", sum := "e131f614e6f3ed6211ce529c5dc6c7f811514cc1faff2b4291bad0977e1fafa3", checked := Try.checked }
namespace Rows
def none {H : Type} : Left H := { results := [], args := [] }

/-- 'tillerlaw25.CycOnes': WHATEVER THE INPUT: true; the input reads as it did. -/
def cycOnesSpec : ChangeSpec := { name := "cycOnes", fn := fun _ => fun
  | [d1, d2] => { results := [.lit (.bool true)], args := [d1, d2] }
  | _ => none }
def cycOnesRow : OpenClaim := { program := "ytdkebceiljdgjaa", sum := "e131f614e6f3ed6211ce529c5dc6c7f811514cc1faff2b4291bad0977e1fafa3", func := "tiller/tillerlaw25.CycOnes", spec := "cycOnes", unfollowed := true, recurses := true, apart := false }
def CycOnesSaid : Prop := cycOnesRow.holds Try.pinned (OpenSpec.ofChange cycOnesSpec)

/-- ITS FALSE NEIGHBOUR: 'it returns false'. Refute it at one input. -/
def cycOnesWrong : ChangeSpec := { name := "cycOnes", fn := fun _ => fun
  | [d1, d2] => { results := [.lit (.bool false)], args := [d1, d2] }
  | _ => none }
def CycOnesWrongFalsely : Prop := cycOnesRow.holds Try.pinned (OpenSpec.ofChange cycOnesWrong)

/-- 'tillerlaw04.RndRounds': WHATEVER THE INPUT: true; the input reads as it did. -/
def rndRoundsSpec : ChangeSpec := { name := "rndRounds", fn := fun _ => fun
  | [d1, d2] => { results := [.lit (.bool true)], args := [d1, d2] }
  | _ => none }
def rndRoundsRow : OpenClaim := { program := "ytdkebceiljdgjaa", sum := "e131f614e6f3ed6211ce529c5dc6c7f811514cc1faff2b4291bad0977e1fafa3", func := "tiller/tillerlaw04.RndRounds", spec := "rndRounds", inPlace := ["math/bits.Add64", "math/bits.Sub64"], apart := false }
def RndRoundsSaid : Prop := rndRoundsRow.holds Try.pinned (OpenSpec.ofChange rndRoundsSpec)

/-- ITS FALSE NEIGHBOUR: 'it returns false'. Refute it at one input. -/
def rndRoundsWrong : ChangeSpec := { name := "rndRounds", fn := fun _ => fun
  | [d1, d2] => { results := [.lit (.bool false)], args := [d1, d2] }
  | _ => none }
def RndRoundsWrongFalsely : Prop := rndRoundsRow.holds Try.pinned (OpenSpec.ofChange rndRoundsWrong)

/-- 'tillerlaw04.RndOrder': WHATEVER THE INPUT: true; the input reads as it did. -/
def rndOrderSpec : ChangeSpec := { name := "rndOrder", fn := fun _ => fun
  | [d1, d2, d3] => { results := [.lit (.bool true)], args := [d1, d2, d3] }
  | _ => none }
def rndOrderRow : OpenClaim := { program := "ytdkebceiljdgjaa", sum := "e131f614e6f3ed6211ce529c5dc6c7f811514cc1faff2b4291bad0977e1fafa3", func := "tiller/tillerlaw04.RndOrder", spec := "rndOrder", inPlace := ["math/bits.Add64", "math/bits.Sub64"], apart := false }
def RndOrderSaid : Prop := rndOrderRow.holds Try.pinned (OpenSpec.ofChange rndOrderSpec)

/-- ITS FALSE NEIGHBOUR: 'it returns false'. Refute it at one input. -/
def rndOrderWrong : ChangeSpec := { name := "rndOrder", fn := fun _ => fun
  | [d1, d2, d3] => { results := [.lit (.bool false)], args := [d1, d2, d3] }
  | _ => none }
def RndOrderWrongFalsely : Prop := rndOrderRow.holds Try.pinned (OpenSpec.ofChange rndOrderWrong)

/-- 'tillerlaw04.RndBetween': WHATEVER THE INPUT: true; the input reads as it did. -/
def rndBetweenSpec : ChangeSpec := { name := "rndBetween", fn := fun _ => fun
  | [d1, d2] => { results := [.lit (.bool true)], args := [d1, d2] }
  | _ => none }
def rndBetweenRow : OpenClaim := { program := "ytdkebceiljdgjaa", sum := "e131f614e6f3ed6211ce529c5dc6c7f811514cc1faff2b4291bad0977e1fafa3", func := "tiller/tillerlaw04.RndBetween", spec := "rndBetween", inPlace := ["math/bits.Add64", "math/bits.Sub64"], apart := false }
def RndBetweenSaid : Prop := rndBetweenRow.holds Try.pinned (OpenSpec.ofChange rndBetweenSpec)

/-- ITS FALSE NEIGHBOUR: 'it returns false'. Refute it at one input. -/
def rndBetweenWrong : ChangeSpec := { name := "rndBetween", fn := fun _ => fun
  | [d1, d2] => { results := [.lit (.bool false)], args := [d1, d2] }
  | _ => none }
def RndBetweenWrongFalsely : Prop := rndBetweenRow.holds Try.pinned (OpenSpec.ofChange rndBetweenWrong)

/-- 'tillerlaw04.RndSigns': WHATEVER THE INPUT: true; the input reads as it did. -/
def rndSignsSpec : ChangeSpec := { name := "rndSigns", fn := fun _ => fun
  | [d1, d2] => { results := [.lit (.bool true)], args := [d1, d2] }
  | _ => none }
def rndSignsRow : OpenClaim := { program := "ytdkebceiljdgjaa", sum := "e131f614e6f3ed6211ce529c5dc6c7f811514cc1faff2b4291bad0977e1fafa3", func := "tiller/tillerlaw04.RndSigns", spec := "rndSigns", inPlace := ["math/bits.Add64", "math/bits.Sub64"], apart := false }
def RndSignsSaid : Prop := rndSignsRow.holds Try.pinned (OpenSpec.ofChange rndSignsSpec)

/-- ITS FALSE NEIGHBOUR: 'it returns false'. Refute it at one input. -/
def rndSignsWrong : ChangeSpec := { name := "rndSigns", fn := fun _ => fun
  | [d1, d2] => { results := [.lit (.bool false)], args := [d1, d2] }
  | _ => none }
def RndSignsWrongFalsely : Prop := rndSignsRow.holds Try.pinned (OpenSpec.ofChange rndSignsWrong)

/-- 'tillerlaw04.RndWholes': WHATEVER THE INPUT: true; the input reads as it did. -/
def rndWholesSpec : ChangeSpec := { name := "rndWholes", fn := fun _ => fun
  | [d1, d2] => { results := [.lit (.bool true)], args := [d1, d2] }
  | _ => none }
def rndWholesRow : OpenClaim := { program := "ytdkebceiljdgjaa", sum := "e131f614e6f3ed6211ce529c5dc6c7f811514cc1faff2b4291bad0977e1fafa3", func := "tiller/tillerlaw04.RndWholes", spec := "rndWholes", inPlace := ["math/bits.Add64", "math/bits.Sub64"], apart := false }
def RndWholesSaid : Prop := rndWholesRow.holds Try.pinned (OpenSpec.ofChange rndWholesSpec)

/-- ITS FALSE NEIGHBOUR: 'it returns false'. Refute it at one input. -/
def rndWholesWrong : ChangeSpec := { name := "rndWholes", fn := fun _ => fun
  | [d1, d2] => { results := [.lit (.bool false)], args := [d1, d2] }
  | _ => none }
def RndWholesWrongFalsely : Prop := rndWholesRow.holds Try.pinned (OpenSpec.ofChange rndWholesWrong)

/-- 'tillerlaw09.ScaleNexts': WHATEVER THE INPUT: true; the input reads as it did. -/
def scaleNextsSpec : ChangeSpec := { name := "scaleNexts", fn := fun _ => fun
  | [d] => { results := [.lit (.bool true)], args := [d] }
  | _ => none }
def scaleNextsRow : OpenClaim := { program := "ytdkebceiljdgjaa", sum := "e131f614e6f3ed6211ce529c5dc6c7f811514cc1faff2b4291bad0977e1fafa3", func := "tiller/tillerlaw09.ScaleNexts", spec := "scaleNexts", inPlace := ["math/bits.Add64", "math/bits.Sub64"], apart := false }
def ScaleNextsSaid : Prop := scaleNextsRow.holds Try.pinned (OpenSpec.ofChange scaleNextsSpec)

/-- ITS FALSE NEIGHBOUR: 'it returns false'. Refute it at one input. -/
def scaleNextsWrong : ChangeSpec := { name := "scaleNexts", fn := fun _ => fun
  | [d] => { results := [.lit (.bool false)], args := [d] }
  | _ => none }
def ScaleNextsWrongFalsely : Prop := scaleNextsRow.holds Try.pinned (OpenSpec.ofChange scaleNextsWrong)

/-- 'tillerlaw09.ScaleLogs': WHATEVER THE INPUT: true; the input reads as it did. -/
def scaleLogsSpec : ChangeSpec := { name := "scaleLogs", fn := fun _ => fun
  | [d] => { results := [.lit (.bool true)], args := [d] }
  | _ => none }
def scaleLogsRow : OpenClaim := { program := "ytdkebceiljdgjaa", sum := "e131f614e6f3ed6211ce529c5dc6c7f811514cc1faff2b4291bad0977e1fafa3", func := "tiller/tillerlaw09.ScaleLogs", spec := "scaleLogs", inPlace := ["math/bits.Add64", "math/bits.Sub64"], apart := false }
def ScaleLogsSaid : Prop := scaleLogsRow.holds Try.pinned (OpenSpec.ofChange scaleLogsSpec)

/-- ITS FALSE NEIGHBOUR: 'it returns false'. Refute it at one input. -/
def scaleLogsWrong : ChangeSpec := { name := "scaleLogs", fn := fun _ => fun
  | [d] => { results := [.lit (.bool false)], args := [d] }
  | _ => none }
def ScaleLogsWrongFalsely : Prop := scaleLogsRow.holds Try.pinned (OpenSpec.ofChange scaleLogsWrong)

/-- 'tillerlaw09.ScaleScales': WHATEVER THE INPUT: true; the input reads as it did. -/
def scaleScalesSpec : ChangeSpec := { name := "scaleScales", fn := fun _ => fun
  | [d1, d2, d3] => { results := [.lit (.bool true)], args := [d1, d2, d3] }
  | _ => none }
def scaleScalesRow : OpenClaim := { program := "ytdkebceiljdgjaa", sum := "e131f614e6f3ed6211ce529c5dc6c7f811514cc1faff2b4291bad0977e1fafa3", func := "tiller/tillerlaw09.ScaleScales", spec := "scaleScales", inPlace := ["math/bits.Add64", "math/bits.Sub64"], apart := false }
def ScaleScalesSaid : Prop := scaleScalesRow.holds Try.pinned (OpenSpec.ofChange scaleScalesSpec)

/-- ITS FALSE NEIGHBOUR: 'it returns false'. Refute it at one input. -/
def scaleScalesWrong : ChangeSpec := { name := "scaleScales", fn := fun _ => fun
  | [d1, d2, d3] => { results := [.lit (.bool false)], args := [d1, d2, d3] }
  | _ => none }
def ScaleScalesWrongFalsely : Prop := scaleScalesRow.holds Try.pinned (OpenSpec.ofChange scaleScalesWrong)

/-- 'tillerlaw09.ScaleBack': WHATEVER THE INPUT: true; the input reads as it did. -/
def scaleBackSpec : ChangeSpec := { name := "scaleBack", fn := fun _ => fun
  | [d1, d2] => { results := [.lit (.bool true)], args := [d1, d2] }
  | _ => none }
def scaleBackRow : OpenClaim := { program := "ytdkebceiljdgjaa", sum := "e131f614e6f3ed6211ce529c5dc6c7f811514cc1faff2b4291bad0977e1fafa3", func := "tiller/tillerlaw09.ScaleBack", spec := "scaleBack", inPlace := ["math/bits.Add64", "math/bits.Sub64"], apart := false }
def ScaleBackSaid : Prop := scaleBackRow.holds Try.pinned (OpenSpec.ofChange scaleBackSpec)

/-- ITS FALSE NEIGHBOUR: 'it returns false'. Refute it at one input. -/
def scaleBackWrong : ChangeSpec := { name := "scaleBack", fn := fun _ => fun
  | [d1, d2] => { results := [.lit (.bool false)], args := [d1, d2] }
  | _ => none }
def ScaleBackWrongFalsely : Prop := scaleBackRow.holds Try.pinned (OpenSpec.ofChange scaleBackWrong)

/-- 'tillerlaw05.SumsAdds': WHATEVER THE INPUT: true; the input reads as it did. -/
def sumsAddsSpec : ChangeSpec := { name := "sumsAdds", fn := fun _ => fun
  | [d1, d2, d3] => { results := [.lit (.bool true)], args := [d1, d2, d3] }
  | _ => none }
def sumsAddsRow : OpenClaim := { program := "ytdkebceiljdgjaa", sum := "e131f614e6f3ed6211ce529c5dc6c7f811514cc1faff2b4291bad0977e1fafa3", func := "tiller/tillerlaw05.SumsAdds", spec := "sumsAdds", inPlace := ["math/bits.Add64", "math/bits.Sub64"], apart := false }
def SumsAddsSaid : Prop := sumsAddsRow.holds Try.pinned (OpenSpec.ofChange sumsAddsSpec)

/-- ITS FALSE NEIGHBOUR: 'it returns false'. Refute it at one input. -/
def sumsAddsWrong : ChangeSpec := { name := "sumsAdds", fn := fun _ => fun
  | [d1, d2, d3] => { results := [.lit (.bool false)], args := [d1, d2, d3] }
  | _ => none }
def SumsAddsWrongFalsely : Prop := sumsAddsRow.holds Try.pinned (OpenSpec.ofChange sumsAddsWrong)

/-- 'tillerlaw05.SumsSigns': WHATEVER THE INPUT: true; the input reads as it did. -/
def sumsSignsSpec : ChangeSpec := { name := "sumsSigns", fn := fun _ => fun
  | [d1, d2, d3] => { results := [.lit (.bool true)], args := [d1, d2, d3] }
  | _ => none }
def sumsSignsRow : OpenClaim := { program := "ytdkebceiljdgjaa", sum := "e131f614e6f3ed6211ce529c5dc6c7f811514cc1faff2b4291bad0977e1fafa3", func := "tiller/tillerlaw05.SumsSigns", spec := "sumsSigns", inPlace := ["math/bits.Add64", "math/bits.Sub64"], apart := false }
def SumsSignsSaid : Prop := sumsSignsRow.holds Try.pinned (OpenSpec.ofChange sumsSignsSpec)

/-- ITS FALSE NEIGHBOUR: 'it returns false'. Refute it at one input. -/
def sumsSignsWrong : ChangeSpec := { name := "sumsSigns", fn := fun _ => fun
  | [d1, d2, d3] => { results := [.lit (.bool false)], args := [d1, d2, d3] }
  | _ => none }
def SumsSignsWrongFalsely : Prop := sumsSignsRow.holds Try.pinned (OpenSpec.ofChange sumsSignsWrong)

/-- 'tillerlaw05.SumsSubs': WHATEVER THE INPUT: true; the input reads as it did. -/
def sumsSubsSpec : ChangeSpec := { name := "sumsSubs", fn := fun _ => fun
  | [d1, d2, d3] => { results := [.lit (.bool true)], args := [d1, d2, d3] }
  | _ => none }
def sumsSubsRow : OpenClaim := { program := "ytdkebceiljdgjaa", sum := "e131f614e6f3ed6211ce529c5dc6c7f811514cc1faff2b4291bad0977e1fafa3", func := "tiller/tillerlaw05.SumsSubs", spec := "sumsSubs", inPlace := ["math/bits.Add64", "math/bits.Sub64"], apart := false }
def SumsSubsSaid : Prop := sumsSubsRow.holds Try.pinned (OpenSpec.ofChange sumsSubsSpec)

/-- ITS FALSE NEIGHBOUR: 'it returns false'. Refute it at one input. -/
def sumsSubsWrong : ChangeSpec := { name := "sumsSubs", fn := fun _ => fun
  | [d1, d2, d3] => { results := [.lit (.bool false)], args := [d1, d2, d3] }
  | _ => none }
def SumsSubsWrongFalsely : Prop := sumsSubsRow.holds Try.pinned (OpenSpec.ofChange sumsSubsWrong)

/-- 'tillerlaw05.SumsBack': WHATEVER THE INPUT: true; the input reads as it did. -/
def sumsBackSpec : ChangeSpec := { name := "sumsBack", fn := fun _ => fun
  | [d1, d2, d3] => { results := [.lit (.bool true)], args := [d1, d2, d3] }
  | _ => none }
def sumsBackRow : OpenClaim := { program := "ytdkebceiljdgjaa", sum := "e131f614e6f3ed6211ce529c5dc6c7f811514cc1faff2b4291bad0977e1fafa3", func := "tiller/tillerlaw05.SumsBack", spec := "sumsBack", inPlace := ["math/bits.Add64", "math/bits.Sub64"], apart := false }
def SumsBackSaid : Prop := sumsBackRow.holds Try.pinned (OpenSpec.ofChange sumsBackSpec)

/-- ITS FALSE NEIGHBOUR: 'it returns false'. Refute it at one input. -/
def sumsBackWrong : ChangeSpec := { name := "sumsBack", fn := fun _ => fun
  | [d1, d2, d3] => { results := [.lit (.bool false)], args := [d1, d2, d3] }
  | _ => none }
def SumsBackWrongFalsely : Prop := sumsBackRow.holds Try.pinned (OpenSpec.ofChange sumsBackWrong)

/-- 'tillerlaw05.SumsTwo': WHATEVER THE INPUT: true; the input reads as it did. -/
def sumsTwoSpec : ChangeSpec := { name := "sumsTwo", fn := fun _ => fun
  | [d1, d2] => { results := [.lit (.bool true)], args := [d1, d2] }
  | _ => none }
def sumsTwoRow : OpenClaim := { program := "ytdkebceiljdgjaa", sum := "e131f614e6f3ed6211ce529c5dc6c7f811514cc1faff2b4291bad0977e1fafa3", func := "tiller/tillerlaw05.SumsTwo", spec := "sumsTwo", inPlace := ["math/bits.Add64", "math/bits.Sub64"], apart := false }
def SumsTwoSaid : Prop := sumsTwoRow.holds Try.pinned (OpenSpec.ofChange sumsTwoSpec)

/-- ITS FALSE NEIGHBOUR: 'it returns false'. Refute it at one input. -/
def sumsTwoWrong : ChangeSpec := { name := "sumsTwo", fn := fun _ => fun
  | [d1, d2] => { results := [.lit (.bool false)], args := [d1, d2] }
  | _ => none }
def SumsTwoWrongFalsely : Prop := sumsTwoRow.holds Try.pinned (OpenSpec.ofChange sumsTwoWrong)

/-- 'tillerlaw09.ScaleSteps': WHATEVER THE INPUT: true; the input reads as it did. -/
def scaleStepsSpec : ChangeSpec := { name := "scaleSteps", fn := fun _ => fun
  | [d] => { results := [.lit (.bool true)], args := [d] }
  | _ => none }
def scaleStepsRow : OpenClaim := { program := "ytdkebceiljdgjaa", sum := "e131f614e6f3ed6211ce529c5dc6c7f811514cc1faff2b4291bad0977e1fafa3", func := "tiller/tillerlaw09.ScaleSteps", spec := "scaleSteps", inPlace := ["math/bits.Add64", "math/bits.Sub64"], apart := false }
def ScaleStepsSaid : Prop := scaleStepsRow.holds Try.pinned (OpenSpec.ofChange scaleStepsSpec)

/-- ITS FALSE NEIGHBOUR: 'it returns false'. Refute it at one input. -/
def scaleStepsWrong : ChangeSpec := { name := "scaleSteps", fn := fun _ => fun
  | [d] => { results := [.lit (.bool false)], args := [d] }
  | _ => none }
def ScaleStepsWrongFalsely : Prop := scaleStepsRow.holds Try.pinned (OpenSpec.ofChange scaleStepsWrong)

/- THE SECOND FORM. 'bulk': how many values and letters a reading holds, each counted each time it is reached (what is shared counts as often as it is met; a slice's spare places count too). A statement '..UptoSaid' is the law's where the arguments, and the package variables that the reading takes, are together of bulk at most 1048576: NARROWER than '..Said'. Prove '..Said' where nothing that the law and all that it calls make is longer than what came in: it says more and counts as full. Else prove '..UptoSaid'. A law counts once. -/
mutual
def uptoBulk {H : Type} : DataW H → Nat
  | .lit (.string bytes) => bytes.length + 1
  | .lit _ => 1
  | .nil => 1
  | .ptr d => uptoBulk d + 1
  | .slice elems spare => uptoBulkAll elems + uptoBulkAll spare + 1
  | .agg parts => uptoBulkAll parts + 1
  | .iface _ d => uptoBulk d + 1
  | .map entries => uptoBulkEntries entries + 1
  | .held _ => 1
def uptoBulkAll {H : Type} : List (DataW H) → Nat
  | [] => 0
  | d :: r => uptoBulk d + uptoBulkAll r
def uptoBulkEntries {H : Type} : List (Lit × DataW H) → Nat
  | [] => 0
  | x :: r => uptoBulkEntry x + uptoBulkEntries r
def uptoBulkEntry {H : Type} : Lit × DataW H → Nat
  | (.string bytes, d) => bytes.length + uptoBulk d + 1
  | (_, d) => uptoBulk d + 1
 end
def uptoSmall : (H : Type) → List (DataW H) → Bool := fun _ ds => decide (uptoBulkAll ds ≤ 1048576)
def OpenSpec.upto (s : _root_.Go.ChangeSpec) : _root_.Go.OpenSpec := { _root_.Go.OpenSpec.ofChange s with cond := some uptoSmall }

/-- 'tillerlaw25.CycOnes', WHERE WHAT IT READS IS OF BULK AT MOST 1048576: true; the input reads as it did. -/
def cycOnesUptoRow : OpenClaim := { program := "ytdkebceiljdgjaa", sum := "e131f614e6f3ed6211ce529c5dc6c7f811514cc1faff2b4291bad0977e1fafa3", func := "tiller/tillerlaw25.CycOnes", spec := "cycOnes", unfollowed := true, recurses := true, apart := false, narrowed := true }
def CycOnesUptoSaid : Prop := cycOnesUptoRow.holds Try.pinned (OpenSpec.upto cycOnesSpec)

/-- 'tillerlaw04.RndRounds', WHERE WHAT IT READS IS OF BULK AT MOST 1048576: true; the input reads as it did. -/
def rndRoundsUptoRow : OpenClaim := { program := "ytdkebceiljdgjaa", sum := "e131f614e6f3ed6211ce529c5dc6c7f811514cc1faff2b4291bad0977e1fafa3", func := "tiller/tillerlaw04.RndRounds", spec := "rndRounds", inPlace := ["math/bits.Add64", "math/bits.Sub64"], apart := false, narrowed := true }
def RndRoundsUptoSaid : Prop := rndRoundsUptoRow.holds Try.pinned (OpenSpec.upto rndRoundsSpec)

/-- 'tillerlaw04.RndOrder', WHERE WHAT IT READS IS OF BULK AT MOST 1048576: true; the input reads as it did. -/
def rndOrderUptoRow : OpenClaim := { program := "ytdkebceiljdgjaa", sum := "e131f614e6f3ed6211ce529c5dc6c7f811514cc1faff2b4291bad0977e1fafa3", func := "tiller/tillerlaw04.RndOrder", spec := "rndOrder", inPlace := ["math/bits.Add64", "math/bits.Sub64"], apart := false, narrowed := true }
def RndOrderUptoSaid : Prop := rndOrderUptoRow.holds Try.pinned (OpenSpec.upto rndOrderSpec)

/-- 'tillerlaw04.RndBetween', WHERE WHAT IT READS IS OF BULK AT MOST 1048576: true; the input reads as it did. -/
def rndBetweenUptoRow : OpenClaim := { program := "ytdkebceiljdgjaa", sum := "e131f614e6f3ed6211ce529c5dc6c7f811514cc1faff2b4291bad0977e1fafa3", func := "tiller/tillerlaw04.RndBetween", spec := "rndBetween", inPlace := ["math/bits.Add64", "math/bits.Sub64"], apart := false, narrowed := true }
def RndBetweenUptoSaid : Prop := rndBetweenUptoRow.holds Try.pinned (OpenSpec.upto rndBetweenSpec)

/-- 'tillerlaw04.RndSigns', WHERE WHAT IT READS IS OF BULK AT MOST 1048576: true; the input reads as it did. -/
def rndSignsUptoRow : OpenClaim := { program := "ytdkebceiljdgjaa", sum := "e131f614e6f3ed6211ce529c5dc6c7f811514cc1faff2b4291bad0977e1fafa3", func := "tiller/tillerlaw04.RndSigns", spec := "rndSigns", inPlace := ["math/bits.Add64", "math/bits.Sub64"], apart := false, narrowed := true }
def RndSignsUptoSaid : Prop := rndSignsUptoRow.holds Try.pinned (OpenSpec.upto rndSignsSpec)

/-- 'tillerlaw04.RndWholes', WHERE WHAT IT READS IS OF BULK AT MOST 1048576: true; the input reads as it did. -/
def rndWholesUptoRow : OpenClaim := { program := "ytdkebceiljdgjaa", sum := "e131f614e6f3ed6211ce529c5dc6c7f811514cc1faff2b4291bad0977e1fafa3", func := "tiller/tillerlaw04.RndWholes", spec := "rndWholes", inPlace := ["math/bits.Add64", "math/bits.Sub64"], apart := false, narrowed := true }
def RndWholesUptoSaid : Prop := rndWholesUptoRow.holds Try.pinned (OpenSpec.upto rndWholesSpec)

/-- 'tillerlaw09.ScaleNexts', WHERE WHAT IT READS IS OF BULK AT MOST 1048576: true; the input reads as it did. -/
def scaleNextsUptoRow : OpenClaim := { program := "ytdkebceiljdgjaa", sum := "e131f614e6f3ed6211ce529c5dc6c7f811514cc1faff2b4291bad0977e1fafa3", func := "tiller/tillerlaw09.ScaleNexts", spec := "scaleNexts", inPlace := ["math/bits.Add64", "math/bits.Sub64"], apart := false, narrowed := true }
def ScaleNextsUptoSaid : Prop := scaleNextsUptoRow.holds Try.pinned (OpenSpec.upto scaleNextsSpec)

/-- 'tillerlaw09.ScaleLogs', WHERE WHAT IT READS IS OF BULK AT MOST 1048576: true; the input reads as it did. -/
def scaleLogsUptoRow : OpenClaim := { program := "ytdkebceiljdgjaa", sum := "e131f614e6f3ed6211ce529c5dc6c7f811514cc1faff2b4291bad0977e1fafa3", func := "tiller/tillerlaw09.ScaleLogs", spec := "scaleLogs", inPlace := ["math/bits.Add64", "math/bits.Sub64"], apart := false, narrowed := true }
def ScaleLogsUptoSaid : Prop := scaleLogsUptoRow.holds Try.pinned (OpenSpec.upto scaleLogsSpec)

/-- 'tillerlaw09.ScaleScales', WHERE WHAT IT READS IS OF BULK AT MOST 1048576: true; the input reads as it did. -/
def scaleScalesUptoRow : OpenClaim := { program := "ytdkebceiljdgjaa", sum := "e131f614e6f3ed6211ce529c5dc6c7f811514cc1faff2b4291bad0977e1fafa3", func := "tiller/tillerlaw09.ScaleScales", spec := "scaleScales", inPlace := ["math/bits.Add64", "math/bits.Sub64"], apart := false, narrowed := true }
def ScaleScalesUptoSaid : Prop := scaleScalesUptoRow.holds Try.pinned (OpenSpec.upto scaleScalesSpec)

/-- 'tillerlaw09.ScaleBack', WHERE WHAT IT READS IS OF BULK AT MOST 1048576: true; the input reads as it did. -/
def scaleBackUptoRow : OpenClaim := { program := "ytdkebceiljdgjaa", sum := "e131f614e6f3ed6211ce529c5dc6c7f811514cc1faff2b4291bad0977e1fafa3", func := "tiller/tillerlaw09.ScaleBack", spec := "scaleBack", inPlace := ["math/bits.Add64", "math/bits.Sub64"], apart := false, narrowed := true }
def ScaleBackUptoSaid : Prop := scaleBackUptoRow.holds Try.pinned (OpenSpec.upto scaleBackSpec)

/-- 'tillerlaw05.SumsAdds', WHERE WHAT IT READS IS OF BULK AT MOST 1048576: true; the input reads as it did. -/
def sumsAddsUptoRow : OpenClaim := { program := "ytdkebceiljdgjaa", sum := "e131f614e6f3ed6211ce529c5dc6c7f811514cc1faff2b4291bad0977e1fafa3", func := "tiller/tillerlaw05.SumsAdds", spec := "sumsAdds", inPlace := ["math/bits.Add64", "math/bits.Sub64"], apart := false, narrowed := true }
def SumsAddsUptoSaid : Prop := sumsAddsUptoRow.holds Try.pinned (OpenSpec.upto sumsAddsSpec)

/-- 'tillerlaw05.SumsSigns', WHERE WHAT IT READS IS OF BULK AT MOST 1048576: true; the input reads as it did. -/
def sumsSignsUptoRow : OpenClaim := { program := "ytdkebceiljdgjaa", sum := "e131f614e6f3ed6211ce529c5dc6c7f811514cc1faff2b4291bad0977e1fafa3", func := "tiller/tillerlaw05.SumsSigns", spec := "sumsSigns", inPlace := ["math/bits.Add64", "math/bits.Sub64"], apart := false, narrowed := true }
def SumsSignsUptoSaid : Prop := sumsSignsUptoRow.holds Try.pinned (OpenSpec.upto sumsSignsSpec)

/-- 'tillerlaw05.SumsSubs', WHERE WHAT IT READS IS OF BULK AT MOST 1048576: true; the input reads as it did. -/
def sumsSubsUptoRow : OpenClaim := { program := "ytdkebceiljdgjaa", sum := "e131f614e6f3ed6211ce529c5dc6c7f811514cc1faff2b4291bad0977e1fafa3", func := "tiller/tillerlaw05.SumsSubs", spec := "sumsSubs", inPlace := ["math/bits.Add64", "math/bits.Sub64"], apart := false, narrowed := true }
def SumsSubsUptoSaid : Prop := sumsSubsUptoRow.holds Try.pinned (OpenSpec.upto sumsSubsSpec)

/-- 'tillerlaw05.SumsBack', WHERE WHAT IT READS IS OF BULK AT MOST 1048576: true; the input reads as it did. -/
def sumsBackUptoRow : OpenClaim := { program := "ytdkebceiljdgjaa", sum := "e131f614e6f3ed6211ce529c5dc6c7f811514cc1faff2b4291bad0977e1fafa3", func := "tiller/tillerlaw05.SumsBack", spec := "sumsBack", inPlace := ["math/bits.Add64", "math/bits.Sub64"], apart := false, narrowed := true }
def SumsBackUptoSaid : Prop := sumsBackUptoRow.holds Try.pinned (OpenSpec.upto sumsBackSpec)

/-- 'tillerlaw05.SumsTwo', WHERE WHAT IT READS IS OF BULK AT MOST 1048576: true; the input reads as it did. -/
def sumsTwoUptoRow : OpenClaim := { program := "ytdkebceiljdgjaa", sum := "e131f614e6f3ed6211ce529c5dc6c7f811514cc1faff2b4291bad0977e1fafa3", func := "tiller/tillerlaw05.SumsTwo", spec := "sumsTwo", inPlace := ["math/bits.Add64", "math/bits.Sub64"], apart := false, narrowed := true }
def SumsTwoUptoSaid : Prop := sumsTwoUptoRow.holds Try.pinned (OpenSpec.upto sumsTwoSpec)

/-- 'tillerlaw09.ScaleSteps', WHERE WHAT IT READS IS OF BULK AT MOST 1048576: true; the input reads as it did. -/
def scaleStepsUptoRow : OpenClaim := { program := "ytdkebceiljdgjaa", sum := "e131f614e6f3ed6211ce529c5dc6c7f811514cc1faff2b4291bad0977e1fafa3", func := "tiller/tillerlaw09.ScaleSteps", spec := "scaleSteps", inPlace := ["math/bits.Add64", "math/bits.Sub64"], apart := false, narrowed := true }
def ScaleStepsUptoSaid : Prop := scaleStepsUptoRow.holds Try.pinned (OpenSpec.upto scaleStepsSpec)

end Rows
end Go.Proofs.Ytdkebceiljdgjaa
