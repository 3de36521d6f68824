/- Arguments of the laws: numbers and structs that came in. Own work. -/
import Derived.Test.YtbakldcbaikgpaaGreatDoorRow
import Derived.Test.YtbakldcbaikgpaaGreatDoorWideA
namespace Go.Proofs.YtbakldcbaikgpaaGreatDoor
open Go.ChangeShapes Go.WideShapes Go.ChangeAt Go.RowKit
set_option maxRecDepth 100000
theorem wf_u {n : Int} (h : (Lit.int .u64 n).wf = true) : inU n = true := by
  rw [inU_iff]
  simp [Lit.wf, IntKind.min, IntKind.max, IntKind.bits, IntKind.signed] at h
  omega
end Go.Proofs.YtbakldcbaikgpaaGreatDoor
