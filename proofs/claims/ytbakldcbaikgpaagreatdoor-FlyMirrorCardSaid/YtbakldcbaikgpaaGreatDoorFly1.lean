/- fly: did, add, sub, four. Own work. -/
import Derived.Test.YtbakldcbaikgpaaGreatDoorCplx
namespace Go.Proofs.YtbakldcbaikgpaaGreatDoor
set_option maxRecDepth 100000
noncomputable section

def wkA (f : Int) : AV := .rf 64 (.st [.int .u8 f])
def prA (x : PZ) : AV := .st [.int .u64 x.1, .int .u64 x.2]
def sp_did : List AV → Option (Bool × AV × List AV)
  | [.rf 64 (.st [.int .u8 f]), .st [.int .u64 a, .int .u64 b], .int .u8 g] => some (true, .st [.int .u64 a, .int .u64 b], [.rf 64 (.st [.int .u8 (orI .u8 f g)])])
  | _ => none
theorem run_did (f a b g : Int) : callM (env Tryz.f57.ntmps [] []) (bodyC Tryz.f57) Tryz.f57.results.toList [.rf 64 (.st [.int .u8 f]), .st [.int .u64 a, .int .u64 b], .int .u8 g] some =
    some (.mt (.st [.int .u64 a, .int .u64 b]) [.rf 64 (.st [.int .u8 (orI .u8 f g)])]) := by kernel_rfl
theorem ok_did : EntOk Tryz.prog 57 (entM false sp_did) := by
  refine contractMS (orc := []) (lo := []) Tryz.func57 orc_nil (by kernel_rfl) (by kernel_rfl) (by kernel_rfl) (loops_none (by kernel_rfl)) fun args r cs h => ?_
  unfold sp_did at h
  split at h
  · rename_i f a b g
    simp only [Option.some.injEq, Prod.mk.injEq] at h
    obtain ⟨-, rfl, rfl⟩ := h
    exact ⟨by kernel_rfl, .inr rfl, run_did f a b g⟩
  · cases h

def sp_fAdd : List AV → Option (Bool × AV × List AV)
  | [.rf 64 (.st [.int .u8 f]), .st [.int .u64 a, .int .u64 b], .st [.int .u64 c, .int .u64 d]] => some (okPr (a, b) && okPr (c, d), .st [.int .u64 (cAdd (a, b) (c, d)).1, .int .u64 (cAdd (a, b) (c, d)).2], [.rf 64 (.st [.int .u8 (orI .u8 f (cAddF (a, b) (c, d)))])])
  | _ => none
def sp_fSub : List AV → Option (Bool × AV × List AV)
  | [.rf 64 (.st [.int .u8 f]), .st [.int .u64 a, .int .u64 b], .st [.int .u64 c, .int .u64 d]] => some (okPr (a, b) && okPr (c, d), .st [.int .u64 (cSub (a, b) (c, d)).1, .int .u64 (cSub (a, b) (c, d)).2], [.rf 64 (.st [.int .u8 (orI .u8 f (cSubF (a, b) (c, d)))])])
  | _ => none
def orcFly : List (FuncId × Ent) := [(29, entS false sp_cAdd), (58, entS false sp_cSub), (57, entM false sp_did)]
theorem run_fAdd (f a b c d : Int) : callM (env Tryz.f34.ntmps orcFly []) (bodyC Tryz.f34) Tryz.f34.results.toList [.rf 64 (.st [.int .u8 f]), .st [.int .u64 a, .int .u64 b], .st [.int .u64 c, .int .u64 d]] some =
    chk (okPr (a, b) && okPr (c, d)) (some (.mt (.st [.int .u64 (cAdd (a, b) (c, d)).1, .int .u64 (cAdd (a, b) (c, d)).2]) [.rf 64 (.st [.int .u8 (orI .u8 f (cAddF (a, b) (c, d)))])])) := by kernel_rfl
theorem run_fSub (f a b c d : Int) : callM (env Tryz.f35.ntmps orcFly []) (bodyC Tryz.f35) Tryz.f35.results.toList [.rf 64 (.st [.int .u8 f]), .st [.int .u64 a, .int .u64 b], .st [.int .u64 c, .int .u64 d]] some =
    chk (okPr (a, b) && okPr (c, d)) (some (.mt (.st [.int .u64 (cSub (a, b) (c, d)).1, .int .u64 (cSub (a, b) (c, d)).2]) [.rf 64 (.st [.int .u8 (orI .u8 f (cSubF (a, b) (c, d)))])])) := by kernel_rfl
theorem ok_fAdd : EntOk Tryz.prog 34 (entM false sp_fAdd) := by
  refine contractMS (orc := orcFly) (lo := []) Tryz.func34 (orc_cons ok_cAdd (orc_cons ok_cSub (orc_cons ok_did orc_nil))) (by kernel_rfl) (by kernel_rfl) (by kernel_rfl) (loops_none (by kernel_rfl)) fun args r cs h => ?_
  unfold sp_fAdd at h
  split at h
  · rename_i f a b c d
    simp only [Option.some.injEq, Prod.mk.injEq] at h
    obtain ⟨hx, rfl, rfl⟩ := h
    refine ⟨by kernel_rfl, .inr rfl, (run_fAdd f a b c d).trans ?_⟩
    rw [hx]; rfl
  · cases h
theorem ok_fSub : EntOk Tryz.prog 35 (entM false sp_fSub) := by
  refine contractMS (orc := orcFly) (lo := []) Tryz.func35 (orc_cons ok_cAdd (orc_cons ok_cSub (orc_cons ok_did orc_nil))) (by kernel_rfl) (by kernel_rfl) (by kernel_rfl) (loops_none (by kernel_rfl)) fun args r cs h => ?_
  unfold sp_fSub at h
  split at h
  · rename_i f a b c d
    simp only [Option.some.injEq, Prod.mk.injEq] at h
    obtain ⟨hx, rfl, rfl⟩ := h
    refine ⟨by kernel_rfl, .inr rfl, (run_fSub f a b c d).trans ?_⟩
    rw [hx]; rfl
  · cases h
end
end Go.Proofs.YtbakldcbaikgpaaGreatDoor
