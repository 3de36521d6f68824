/-
  No cell of these rows narrows 'for every input' (looked for: loops, veiled, ifaces, maps, wideKeys, modest, calm, conditions, laid).
  DERIVED. THE GIVEN ROWS OF THIS SEAT. 4 by the template 'for every input the law returns true; each argument reads behind the call as it read before'; 0 by the template 'total and deterministic' (their statements: YtbakldcbaikgpaaTotals.lean).
  GIVEN WITH THE SEED: the statements are not yours to turn. If you find one false, say at which input.
  Laid BY PROGRAM, IN A SANDBOX (cutbox-rows.mjs): the forced cells as the released guide's own fill.sh prints them over the translation 92f8a47664a5fe61… (all of the seat's roots in one cut). By AI agents, Wed Nov 11 2026. No macro, syntax, notation, axiom, sorry.
-/
import Derived.Test.YtbakldcbaikgpaaChecked
import GoSem.Claim
import GoSem.ClaimJoined
import GoSem.ClaimMapViews
import Derived.JoinedTies
import Derived.KernelRfl
namespace Go.Proofs.Ytbakldcbaikgpaa
/- THE CELL 'sum', in the pinned program and in every row, IS THE sha256 OF THE DUMP (.gsa) THAT YtbakldcbaikgpaaProg.lean LOADS. Nothing in Lean hashes anything: it is a label: what it is worth is what the hold of that sum in a sandbox is worth. -/
noncomputable def Try.pinned : Pinned := { name := "ytbakldcbaikgpaa", sum := "92f8a47664a5fe61c801a14e61aea13109bab01e6ed4aa2728fea2d822dd271f", checked := Try.checked }
namespace Rows
def none {H : Type} : Left H := { results := [], args := [] }

/-- 'tillerlaw16.TurnSame': WHATEVER THE INPUT: true; the input reads as it did. -/
def turnSameSpec : ChangeSpec := { name := "turnSame", fn := fun _ => fun
  | [d1, d2] => { results := [.lit (.bool true)], args := [d1, d2] }
  | _ => none }
def turnSameRow : OpenClaim := { program := "ytbakldcbaikgpaa", sum := "92f8a47664a5fe61c801a14e61aea13109bab01e6ed4aa2728fea2d822dd271f", func := "tiller/tillerlaw16.TurnSame", spec := "turnSame", inPlace := ["math/bits.Sub64", "math/bits.Add64"], plainKeys := false, apart := false }
def TurnSameSaid : Prop := turnSameRow.holds Try.pinned (OpenSpec.ofChange turnSameSpec)

/-- ITS FALSE NEIGHBOUR: 'it returns false'. Refute it at one input. -/
def turnSameWrong : ChangeSpec := { name := "turnSame", fn := fun _ => fun
  | [d1, d2] => { results := [.lit (.bool false)], args := [d1, d2] }
  | _ => none }
def TurnSameWrongFalsely : Prop := turnSameRow.holds Try.pinned (OpenSpec.ofChange turnSameWrong)

/-- 'tillerlaw16.TurnLowest': WHATEVER THE INPUT: true; the input reads as it did. -/
def turnLowestSpec : ChangeSpec := { name := "turnLowest", fn := fun _ => fun
  | [d1, d2, d3] => { results := [.lit (.bool true)], args := [d1, d2, d3] }
  | _ => none }
def turnLowestRow : OpenClaim := { program := "ytbakldcbaikgpaa", sum := "92f8a47664a5fe61c801a14e61aea13109bab01e6ed4aa2728fea2d822dd271f", func := "tiller/tillerlaw16.TurnLowest", spec := "turnLowest", inPlace := ["math/bits.Sub64", "math/bits.Add64"], plainKeys := false, apart := false }
def TurnLowestSaid : Prop := turnLowestRow.holds Try.pinned (OpenSpec.ofChange turnLowestSpec)

/-- ITS FALSE NEIGHBOUR: 'it returns false'. Refute it at one input. -/
def turnLowestWrong : ChangeSpec := { name := "turnLowest", fn := fun _ => fun
  | [d1, d2, d3] => { results := [.lit (.bool false)], args := [d1, d2, d3] }
  | _ => none }
def TurnLowestWrongFalsely : Prop := turnLowestRow.holds Try.pinned (OpenSpec.ofChange turnLowestWrong)

/-- 'tillerlaw18.FlyOnes': WHATEVER THE INPUT: true; the input reads as it did. -/
def flyOnesSpec : ChangeSpec := { name := "flyOnes", fn := fun _ => fun
  | [d] => { results := [.lit (.bool true)], args := [d] }
  | _ => none }
def flyOnesRow : OpenClaim := { program := "ytbakldcbaikgpaa", sum := "92f8a47664a5fe61c801a14e61aea13109bab01e6ed4aa2728fea2d822dd271f", func := "tiller/tillerlaw18.FlyOnes", spec := "flyOnes", inPlace := ["math/bits.Add64", "math/bits.Sub64"], unfollowed := true, recurses := true, plainKeys := false, apart := false }
def FlyOnesSaid : Prop := flyOnesRow.holds Try.pinned (OpenSpec.ofChange flyOnesSpec)

/-- ITS FALSE NEIGHBOUR: 'it returns false'. Refute it at one input. -/
def flyOnesWrong : ChangeSpec := { name := "flyOnes", fn := fun _ => fun
  | [d] => { results := [.lit (.bool false)], args := [d] }
  | _ => none }
def FlyOnesWrongFalsely : Prop := flyOnesRow.holds Try.pinned (OpenSpec.ofChange flyOnesWrong)

/-- 'tillerlaw20.MixOnes': WHATEVER THE INPUT: true; the input reads as it did. -/
def mixOnesSpec : ChangeSpec := { name := "mixOnes", fn := fun _ => fun
  | [d1, d2] => { results := [.lit (.bool true)], args := [d1, d2] }
  | _ => none }
def mixOnesRow : OpenClaim := { program := "ytbakldcbaikgpaa", sum := "92f8a47664a5fe61c801a14e61aea13109bab01e6ed4aa2728fea2d822dd271f", func := "tiller/tillerlaw20.MixOnes", spec := "mixOnes", inPlace := ["math/bits.Sub64", "math/bits.Add64"], unfollowed := true, recurses := true, plainKeys := false, apart := false }
def MixOnesSaid : Prop := mixOnesRow.holds Try.pinned (OpenSpec.ofChange mixOnesSpec)

/-- ITS FALSE NEIGHBOUR: 'it returns false'. Refute it at one input. -/
def mixOnesWrong : ChangeSpec := { name := "mixOnes", fn := fun _ => fun
  | [d1, d2] => { results := [.lit (.bool false)], args := [d1, d2] }
  | _ => none }
def MixOnesWrongFalsely : Prop := mixOnesRow.holds Try.pinned (OpenSpec.ofChange mixOnesWrong)

/- THE SECOND FORM. 'bulk': how many values and letters a reading holds, each counted each time it is reached (what is shared counts as often as it is met; a slice's spare places count too). A statement '..UptoSaid' is the law's where the arguments, and the package variables that the reading takes, are together of bulk at most 1048576: NARROWER than '..Said'. Prove '..Said' where nothing that the law and all that it calls make is longer than what came in: it says more and counts as full. Else prove '..UptoSaid'. A law counts once. -/
mutual
def uptoBulk {H : Type} : DataW H → Nat
  | .lit (.string bytes) => bytes.length + 1
  | .lit _ => 1
  | .nil => 1
  | .ptr d => uptoBulk d + 1
  | .slice elems spare => uptoBulkAll elems + uptoBulkAll spare + 1
  | .agg parts => uptoBulkAll parts + 1
  | .iface _ d => uptoBulk d + 1
  | .map entries => uptoBulkEntries entries + 1
  | .held _ => 1
def uptoBulkAll {H : Type} : List (DataW H) → Nat
  | [] => 0
  | d :: r => uptoBulk d + uptoBulkAll r
def uptoBulkEntries {H : Type} : List (Lit × DataW H) → Nat
  | [] => 0
  | x :: r => uptoBulkEntry x + uptoBulkEntries r
def uptoBulkEntry {H : Type} : Lit × DataW H → Nat
  | (.string bytes, d) => bytes.length + uptoBulk d + 1
  | (_, d) => uptoBulk d + 1
 end
def uptoSmall : (H : Type) → List (DataW H) → Bool := fun _ ds => decide (uptoBulkAll ds ≤ 1048576)
def OpenSpec.upto (s : _root_.Go.ChangeSpec) : _root_.Go.OpenSpec := { _root_.Go.OpenSpec.ofChange s with cond := some uptoSmall }

/-- 'tillerlaw16.TurnSame', WHERE WHAT IT READS IS OF BULK AT MOST 1048576: true; the input reads as it did. -/
def turnSameUptoRow : OpenClaim := { program := "ytbakldcbaikgpaa", sum := "92f8a47664a5fe61c801a14e61aea13109bab01e6ed4aa2728fea2d822dd271f", func := "tiller/tillerlaw16.TurnSame", spec := "turnSame", inPlace := ["math/bits.Sub64", "math/bits.Add64"], plainKeys := false, apart := false, narrowed := true }
def TurnSameUptoSaid : Prop := turnSameUptoRow.holds Try.pinned (OpenSpec.upto turnSameSpec)

/-- 'tillerlaw16.TurnLowest', WHERE WHAT IT READS IS OF BULK AT MOST 1048576: true; the input reads as it did. -/
def turnLowestUptoRow : OpenClaim := { program := "ytbakldcbaikgpaa", sum := "92f8a47664a5fe61c801a14e61aea13109bab01e6ed4aa2728fea2d822dd271f", func := "tiller/tillerlaw16.TurnLowest", spec := "turnLowest", inPlace := ["math/bits.Sub64", "math/bits.Add64"], plainKeys := false, apart := false, narrowed := true }
def TurnLowestUptoSaid : Prop := turnLowestUptoRow.holds Try.pinned (OpenSpec.upto turnLowestSpec)

/-- 'tillerlaw18.FlyOnes', WHERE WHAT IT READS IS OF BULK AT MOST 1048576: true; the input reads as it did. -/
def flyOnesUptoRow : OpenClaim := { program := "ytbakldcbaikgpaa", sum := "92f8a47664a5fe61c801a14e61aea13109bab01e6ed4aa2728fea2d822dd271f", func := "tiller/tillerlaw18.FlyOnes", spec := "flyOnes", inPlace := ["math/bits.Add64", "math/bits.Sub64"], unfollowed := true, recurses := true, plainKeys := false, apart := false, narrowed := true }
def FlyOnesUptoSaid : Prop := flyOnesUptoRow.holds Try.pinned (OpenSpec.upto flyOnesSpec)

/-- 'tillerlaw20.MixOnes', WHERE WHAT IT READS IS OF BULK AT MOST 1048576: true; the input reads as it did. -/
def mixOnesUptoRow : OpenClaim := { program := "ytbakldcbaikgpaa", sum := "92f8a47664a5fe61c801a14e61aea13109bab01e6ed4aa2728fea2d822dd271f", func := "tiller/tillerlaw20.MixOnes", spec := "mixOnes", inPlace := ["math/bits.Sub64", "math/bits.Add64"], unfollowed := true, recurses := true, plainKeys := false, apart := false, narrowed := true }
def MixOnesUptoSaid : Prop := mixOnesUptoRow.holds Try.pinned (OpenSpec.upto mixOnesSpec)

end Rows
end Go.Proofs.Ytbakldcbaikgpaa
