/- tillerlaw18: sure, FlyOnes. Own work. -/
import Derived.Test.YtbakldcbaikgpaaGreatDoorFlyA
namespace Go.Proofs.YtbakldcbaikgpaaGreatDoor
set_option maxRecDepth 100000
noncomputable section
/-! ### sure -/
def sureX : List PZ := [(4607182418800017408, 0), (4611686018427387904, 0)]
def sure18T (M : List PZ) (f : Int) : Option AV :=
  bif f == 0 then chk (inX 0 2) (bif ((gp M 0).1 == 4613937818241073152 && ((gp M 0).2 == 0 && true)) then chk (inX 1 2) (some (.bool ((gp M 1).1 == 13830554455654793216))) else some (.bool false)) else some (.bool false)
theorem run_lsure18 : callA (env Tryz.f18.ntmps [(13, entB false sp_lit)] []) (bodyC Tryz.f18) Tryz.f18.results.toList (slots 0 []) some =
    chk (fitX 2 sureX) (bif !(canK 2) then some (.bool false) else sure18T (litK sureX false 2).2 (litK sureX false 2).1) := by kernel_rfl
def sureB18 : Bool := (litP sureX false 2).1 == 0 && (gp (litP sureX false 2).2 0).1 == 4613937818241073152 && (gp (litP sureX false 2).2 0).2 == 0 && (gp (litP sureX false 2).2 1).1 == 13830554455654793216
theorem sureB18_t : sureB18 = true := by decide +kernel
def isU (x : PZ) : Bool := decide (0 ≤ x.1) && decide (x.1 < 18446744073709551616) && decide (0 ≤ x.2) && decide (x.2 < 18446744073709551616)
theorem fitX_all {n : Nat} {X : List PZ} (hl : X.length = n) (h : ∀ x ∈ X, isU x = true) : fitX n X = true := by
  have h2 : okL X = true := okL_iff.2 fun x hx => by
    have := h x hx
    unfold isU at this
    simp only [Bool.and_eq_true, decide_eq_true_eq] at this
    obtain ⟨⟨⟨h1, h2⟩, h3⟩, h4⟩ := this
    exact okPr_iff.2 ⟨inU_iff.2 ⟨h1, h2⟩, inU_iff.2 ⟨h3, h4⟩⟩
  unfold fitX
  rw [stk_eq, decide_eq_true hl, h2]
  rfl
theorem sureX_u : ∀ x ∈ sureX, isU x = true := List.all_eq_true.1 (show sureX.all isU = true by decide +kernel)
theorem litK_p (X : List PZ) (bk : Bool) (n : Nat) : litK X bk n = litP X bk n := by unfold litK; rw [stk_eq, litR_p]
def sp_tt : List AV → Option (Bool × AV)
  | [] => some (true, .bool true)
  | _ => none
theorem ok_lsure18 : EntOk Tryz.prog 18 (entS false sp_tt) := by
  refine contractS (orc := [(13, entB false sp_lit)]) (lo := []) Tryz.func18 (orc_cons ok_lit orc_nil) (by kernel_rfl) (by kernel_rfl) (by kernel_rfl) (loops_none (by kernel_rfl)) fun args r h => ?_
  unfold sp_tt at h
  split at h
  · simp only [Option.some.injEq, Prod.mk.injEq] at h
    obtain ⟨hg, rfl⟩ := h
    refine ⟨by kernel_rfl, .inr rfl, run_lsure18.trans ?_⟩
    have hs := sureB18_t
    unfold sureB18 at hs
    simp only [Bool.and_eq_true] at hs
    obtain ⟨⟨⟨h1, h2⟩, h3⟩, h4⟩ := hs
    have hc : canK 2 = true := by unfold canK; rw [stk_eq]; rfl
    rw [fitX_all (X := sureX) (n := 2) rfl sureX_u, hc, litK_p]
    unfold sure18T
    rw [h1, h2, h3, h4]
    rfl
  · cases h
/-! ### FlyOnes: what a single one gives -/
/-! ### FlyOnes: what ones give -/
/-! ### FlyOnes -/
end
end Go.Proofs.YtbakldcbaikgpaaGreatDoor
