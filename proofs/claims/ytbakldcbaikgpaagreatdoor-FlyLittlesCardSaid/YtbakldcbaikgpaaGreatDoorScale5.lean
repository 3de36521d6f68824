/- tillerref04.Pattern; tillerref09: Scale, Step, power, Log; ScaleScales, ScaleLogs. Own work. -/
import Derived.Test.YtbakldcbaikgpaaGreatDoorRef5
import Derived.Test.YtbakldcbaikgpaaGreatDoorPatB
namespace Go.Proofs.YtbakldcbaikgpaaGreatDoor
set_option maxRecDepth 100000
noncomputable section
/-! ### Pattern -/
def sp_pattern : List AV → Option (Bool × AV)
  | [.int .u64 p] => some (inU p, .st [.bool (tM p.toNat), .int .i64 (tX p.toNat), .sl (.ints (dgl (tS p.toNat)) .u32 (dg (tS p.toNat)))])
  | _ => none
def orcPattern : List (FuncId × Ent) := [(119, entS false sp_take), (96, entS true sp_dOf)]
theorem run_pattern (p : Int) : callA (env Tryz.f86.ntmps orcPattern []) (bodyC Tryz.f86) Tryz.f86.results.toList (slots 0 [.int .u64 p]) some =
    chk (inU p) (chk (inU ((tS p.toNat : Nat) : Int)) (some (.st [.bool (tM p.toNat), .int .i64 (tX p.toNat), .sl (.ints (dgl ((tS p.toNat : Nat) : Int).toNat) .u32 (dg ((tS p.toNat : Nat) : Int).toNat))]))) := by kernel_rfl
theorem ok_pattern : EntOk Tryz.prog 86 (entS true sp_pattern) := by
  refine contractS (orc := orcPattern) (lo := []) Tryz.func86 (orc_cons ok_rTake (orc_cons ok_dOf orc_nil)) (by kernel_rfl) (by kernel_rfl) (by kernel_rfl) (loops_none (by kernel_rfl)) fun args r h => ?_
  unfold sp_pattern at h
  split at h
  · rename_i p
    simp only [Option.some.injEq, Prod.mk.injEq] at h
    obtain ⟨hp, rfl⟩ := h
    refine ⟨by kernel_rfl, .inl rfl, (run_pattern p).trans ?_⟩
    have hs : inU ((tS p.toNat : Nat) : Int) = true := by unfold tS; rw [stk_eq]; exact inU_sig _
    rw [hp, hs, Int.toNat_natCast]
    rfl
  · cases h
/-! ### Scale -/
/-! ### ScaleScales -/
/-! ### Step -/
/-! ### power -/
/-! ### Log -/
/-! ### ScaleLogs -/
end
end Go.Proofs.YtbakldcbaikgpaaGreatDoor
