/- Little transforms forth and back. Plain Lean. Own work. -/
import Derived.Test.YtbakldcbaikgpaaGreatDoorFlyA
namespace Go.Proofs.YtbakldcbaikgpaaGreatDoor
set_option maxRecDepth 100000
noncomputable section
/-! ### Flags -/
theorem or8 (x y : Int) : orI .u8 x y = ((BitVec.ofInt 8 x ||| BitVec.ofInt 8 y).toNat : Int) := by
  have h : (BitVec.ofInt 8 x ||| BitVec.ofInt 8 y).toNat < 256 := (BitVec.ofInt 8 x ||| BitVec.ofInt 8 y).isLt
  show IntKind.u8.wrap ((BitVec.ofInt 8 x ||| BitVec.ofInt 8 y).toNat : Int) = _
  rw [IntKind.wrap_u8]
  exact Int.emod_eq_of_lt (by omega) (by omega)
theorem ofInt8 (v : BitVec 8) : BitVec.ofInt 8 ((v.toNat : Nat) : Int) = v := by
  rw [BitVec.ofInt_natCast, BitVec.ofNat_toNat, BitVec.setWidth_eq]
/-! ### Signs -/
/-! ### odd -/
theorem gp_ne {L : List PZ} {i j : Nat} (h : i ≠ j) (x : PZ) : gp (L.set i x) j = gp L j := by
  unfold gp
  rw [List.getD_eq_getElem?_getD, List.getD_eq_getElem?_getD, List.getElem?_set_ne h]
end
end Go.Proofs.YtbakldcbaikgpaaGreatDoor
