/-
  The statement 'Rows.RndWholesSaid' ('RndWholes') is proved, for every input that its row lets in: the law returns true.
-/
import Derived.Test.YtdkebceiljdgjaaRows
import Derived.Test.YtdkebceiljdgjaaRnd6
import Derived.Test.YtdkebceiljdgjaaArg
import Derived.WalkKit
import Derived.ProofKit
import Derived.OpenShut
import Derived.ShutString
import Derived.ChangeOld
import Derived.Below
namespace Go.Proofs.Ytdkebceiljdgjaa.rndWholes
open Go.ChangeShapes Go.WideShapes Go.ChangeAt Go.RowKit
set_option linter.unusedVariables false
set_option maxRecDepth 100000

theorem own : ownKnob Try.prog.godebug = none := by kernel_rfl
theorem laidOut : laidOutB Try.prog = true := by kernel_rfl

theorem walk (m0 : Bool) (e0 a0 b0 c0 d0 : Int) (r0 : Bool) (a1 : Int) (w : World) (w0 : okW [a0, b0, c0, d0] = true) (w1 : (Lit.int .i64 a1).wf = true) :
    Calls Try.prog 8 #[.agg #[.bool m0, .int .i64 e0, .int .u64 a0, .int .u64 b0, .int .u64 c0, .int .u64 d0, .bool r0], .int .i64 a1] w fun e w' => e = .returned (.bool true) ∧ Below w.heap.size w w' := by
  refine calls_true (vs := [.agg #[.bool m0, .int .i64 e0, .int .u64 a0, .int .u64 b0, .int .u64 c0, .int .u64 d0, .bool r0], .int .i64 a1]) (args := [.st [.bool m0, .int .i64 e0, .ints 4 .u64 [a0, b0, c0, d0], .bool r0], .int .i64 a1]) Try.func8 (by kernel_rfl) (c := bodyC Try.f8) (by kernel_rfl) ok_wholes4 ?_ ?_
  · simp only [entS, sp_law]
    simp only [w0, chk, cond_true]
  · simp only [VRs]
    exact ⟨_, _, vr_number m0 e0 a0 b0 c0 d0 r0, ⟨_, _, by simp only [VR], rfl, rfl⟩, rfl⟩

theorem lifted (os : Os) (started : os.Started) (H : Type) (enc : TypeId × Value → H) :
    ReturnsInHanded {} Try.checked os 8 .any (Rows.rndWholesSpec.pre6 enc Try.prog Try.f8 Rows.rndWholesRow.domain false) (Rows.rndWholesSpec.post enc Try.prog Try.f8 false true false false) := by
  refine returnsInHanded_of_change (C := Try.checked) own started (by kernel_rfl) Try.func8
    (ChangeSpec.witness6 (enc := enc) (C := Try.checked) false ⟨#[], #[.agg #[.bool false, .int .i64 0, .int .u64 0, .int .u64 0, .int .u64 0, .int .u64 0, .bool false], .int .i64 0], []⟩ 8 (by kernel_rfl) (by kernel_rfl) (by kernel_rfl) (by kernel_rfl)) ?_
  intro W base args ds gs before hval0 hW hcnd _
  have hval : ∀ (j : Nat) t v, Try.f8.params[j]? = some t → args[j]? = some v → Value.okWide Try.prog W .any base t v := hval0
  have hW' := hW
  obtain ⟨p, q, hA0, hV, rfl, hfz, hnd⟩ := hW
  have hA : DataW.TrodAll enc Try.prog W 0 (fun _ => true) true Try.f8.params.toList args.toList ds p := hA0
  rw [Try.params8] at hA hval
  obtain ⟨v0, vs0, d0, ds0, p0, q0, hargs, rfl, rfl, h0, r0⟩ := trodAll_cons hA
  obtain ⟨v1, vs1, d1, ds1, p1, q1, rfl, rfl, rfl, h1, r1⟩ := trodAll_cons r0
  obtain ⟨rfl, rfl, rfl⟩ := trodAll_nil r1
  obtain rfl : args = #[v0, v1] := by cases args; simp_all
  obtain ⟨rfl, rfl⟩ := trodVars_none hV
  obtain ⟨m0, e0, a0, b0, c0, d0', r0', rfl, w0⟩ := okWide_number (hval 0 34 v0 rfl rfl)
  have k0 := h0
  have lt0 : ∀ x ∈ p0, x.block < W.heap.size := by obtain ⟨m, hm⟩ := k0; exact DataW.trod_lt m _ _ _ hm
  obtain ⟨a1, rfl, rfl, rfl, w1⟩ := open_int Try.underlying3 (hval 1 3 v1 rfl rfl) h1
  clear hA0 hval0
  refine (walk m0 e0 a0 b0 c0 d0' r0' a1 W w0 w1).mono fun e W' ⟨he, bel⟩ => ?_
  subst he
  exact ⟨_, rfl, _, _, _, [], _, [], hW', trodAll_mk1 (shut_bool Try.underlying4 _), (trodAll_cons_mk (Below.trod laidOut (by kernel_rfl) (of_decide_eq_true (by kernel_rfl)) k0 bel lt0) (trodAll_cons_mk (shut_int Try.underlying3 w1) trodAll_mk0)), rfl, bel.frame _, fun h => by cases h⟩

theorem over : Rows.rndWholesRow.holds Try.pinned (OpenSpec.ofChange Rows.rndWholesSpec) :=
  OpenClaim.holds_of_wide 8 Try.f8 rfl rfl rfl rfl rfl rfl rfl ⟨rfl, rfl, rfl, rfl, rfl⟩ rfl rfl rfl rfl rfl (by kernel_rfl) Try.func8 (by kernel_rfl)
    (of_decide_eq_true (by kernel_rfl)) (by unfold Func.isWrapper; first | (rw [if_pos (by decide +kernel)]; kernel_rfl) | (rw [if_neg (by decide +kernel)]; exact ⟨rfl, rfl⟩))
    (fun os started H enc _ => lifted os started H enc)

/-- The statement. -/
theorem proved : Rows.RndWholesSaid := over
#print axioms proved
end Go.Proofs.Ytdkebceiljdgjaa.rndWholes
