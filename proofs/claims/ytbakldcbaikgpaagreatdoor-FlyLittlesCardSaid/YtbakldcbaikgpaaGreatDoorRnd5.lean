/- RndOrder. Own work. -/
import Derived.Test.YtbakldcbaikgpaaGreatDoorDig6
namespace Go.Proofs.YtbakldcbaikgpaaGreatDoor
set_option maxRecDepth 100000
noncomputable section
theorem dgl_zero (v : Nat) : (((dgl v : Nat) : Int) == 0) = decide (v = 0) ∧ decide (((dgl v : Nat) : Int) > 0) = decide (v ≠ 0) := by
  have : (digN v).length = 0 ↔ v = 0 := by
    have := len_dig 0 v
    rw [Nat.pow_zero] at this
    omega
  unfold dgl
  rw [stk_eq]
  refine ⟨?_, decide_eq_decide.2 (by omega)⟩
  have e := eqN (digN v).length 0
  rw [show ((0 : Nat) : Int) = 0 from rfl] at e
  rw [e]
  exact decide_eq_decide.2 this
end
end Go.Proofs.YtbakldcbaikgpaaGreatDoor
