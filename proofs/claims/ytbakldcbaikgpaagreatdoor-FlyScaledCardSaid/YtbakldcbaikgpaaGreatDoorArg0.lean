/- Arguments of the laws: numbers and structs that came in. Own work. -/
import Derived.Test.YtbakldcbaikgpaaGreatDoorRow
import Derived.Test.YtbakldcbaikgpaaGreatDoorWideA
namespace Go.Proofs.YtbakldcbaikgpaaGreatDoor
open Go.ChangeShapes Go.WideShapes Go.ChangeAt Go.RowKit
set_option maxRecDepth 100000

theorem cell_bool {P : Program} {w : World} {r : Reach} {b : Nat} {t : TypeId} {v : Value} (ht : P.underlying t = some .bool) (h : Cell.okWide P w r b t v) : ∃ x, v = .bool x := by
  cases v <;> simp [Cell.okWide, Cell.ok, ht] at h ⊢
theorem cell_int {P : Program} {w : World} {r : Reach} {b : Nat} {t : TypeId} {k : IntKind} {v : Value} (ht : P.underlying t = some (.int k)) (h : Cell.okWide P w r b t v) : ∃ n, v = .int k n ∧ k.has n := by
  cases v <;> simp [Cell.okWide, Cell.ok, ht] at h ⊢
  obtain ⟨rfl, h⟩ := h
  exact ⟨_, ⟨rfl, rfl⟩, h⟩

theorem has_u64 {n : Int} (h : IntKind.u64.has n) : inU n = true := by
  rw [inU_iff]
  simp [IntKind.has, IntKind.min, IntKind.max, IntKind.bits, IntKind.signed] at h
  omega

theorem wf_u {n : Int} (h : (Lit.int .u64 n).wf = true) : inU n = true := by
  rw [inU_iff]
  simp [Lit.wf, IntKind.min, IntKind.max, IntKind.bits, IntKind.signed] at h
  omega

end Go.Proofs.YtbakldcbaikgpaaGreatDoor
