/-
  The statement 'Rows.SumsExactCardSaid' ('SumsExact') is proved, for every input that its row lets in, where errors.errorType starts as the program's text lays it: the law returns true.
-/
import Derived.Test.YtdkebceiljdgjaaDoorRows
import Derived.Test.YtdkebceiljdgjaaDoorTie
import Derived.Test.YtdkebceiljdgjaaDoorCards
import Derived.Test.YtdkebceiljdgjaaDoorDoor2
import Derived.Test.YtdkebceiljdgjaaDoorArg5
import Derived.Test.YtdkebceiljdgjaaDoorErr3
import Derived.WalkKit
import Derived.ProofKit
import Derived.OpenShut
import Derived.ShutString
import Derived.ChangeOld
import Derived.Below
import Derived.SevenTiedAt
namespace Go.Proofs.YtdkebceiljdgjaaDoor.sumsExact
open Go.ChangeShapes Go.WideShapes Go.ChangeAt Go.RowKit
set_option linter.unusedVariables false
set_option maxRecDepth 100000

theorem own : ownKnob Tryd.prog.godebug = none := by kernel_rfl
theorem laidOut : laidOutB Tryd.prog = true := by kernel_rfl

theorem walk (m0 : Bool) (e0 a0 b0 c0 d0 : Int) (r0 : Bool) (m1 : Bool) (e1 a1 b1 c1 d1 : Int) (r1 : Bool) (a2 : Int) (w : World) (w0 : okW [a0, b0, c0, d0] = true) (w1 : okW [a1, b1, c1, d1] = true) (w2 : (Lit.int .i64 a2).wf = true) (hG : Glob Tryd.prog w) :
    Calls Tryd.prog 6 #[.agg #[.bool m0, .int .i64 e0, .int .u64 a0, .int .u64 b0, .int .u64 c0, .int .u64 d0, .bool r0], .agg #[.bool m1, .int .i64 e1, .int .u64 a1, .int .u64 b1, .int .u64 c1, .int .u64 d1, .bool r1], .int .i64 a2] w fun e w' => e = .returned (.bool true) ∧ Below w.heap.size w w' := by
  refine calls_true (vs := [.agg #[.bool m0, .int .i64 e0, .int .u64 a0, .int .u64 b0, .int .u64 c0, .int .u64 d0, .bool r0], .agg #[.bool m1, .int .i64 e1, .int .u64 a1, .int .u64 b1, .int .u64 c1, .int .u64 d1, .bool r1], .int .i64 a2]) (args := [.st [.bool m0, .int .i64 e0, .ints 4 .u64 [a0, b0, c0, d0], .bool r0], .st [.bool m1, .int .i64 e1, .ints 4 .u64 [a1, b1, c1, d1], .bool r1], .int .i64 a2]) Tryd.func6 (by kernel_rfl) (c := bodyC Tryd.f6) (by kernel_rfl) ok_lawExact ?_ ?_ hG
  · simp only [entS, sp_seLaw]
    simp only [w0, w1, Bool.and_self, chk, cond_true]
  · simp only [VRs]
    exact ⟨_, _, vr_number m0 e0 a0 b0 c0 d0 r0, ⟨_, _, vr_number m1 e1 a1 b1 c1 d1 r1, ⟨_, _, by simp only [VR], rfl, rfl⟩, rfl⟩, rfl⟩

theorem lifted (os : Os) (started : os.Started) (H : Type) (enc : TypeId × Value → H) :
    ReturnsInHanded {} Tryd.checked os 6 .any (fun w args => (Rows.sumsExactSpec.pre enc Tryd.prog Tryd.f6 [] false w args ∧ laidMetH Tryd.prog [("errors.errorType", Rows.laid_errors_errorType)] w) ∧ sizedMet enc Tryd.prog Tryd.f6 (OpenSpec.ofChange Rows.sumsExactSpec) false w args)
      (Rows.sumsExactSpec.post enc Tryd.prog Tryd.f6 false true false false) := by
  refine returnsInHanded_of_change_and (C := Tryd.checked) (X := fun w _ => laidMetH Tryd.prog [("errors.errorType", Rows.laid_errors_errorType)] w) (fun _ _ _ hh h => h.of_heap hh) own started (by kernel_rfl) Tryd.func6
    (ChangeSpec.witness_at (enc := enc) (C := Tryd.checked) (os := os) (X := fun w _ => laidMetH Tryd.prog [("errors.errorType", Rows.laid_errors_errorType)] w) false (laidWorld os) #[.agg #[.bool false, .int .i64 0, .int .u64 0, .int .u64 0, .int .u64 0, .int .u64 0, .bool false], .agg #[.bool false, .int .i64 0, .int .u64 0, .int .u64 0, .int .u64 0, .int .u64 0, .bool false], .int .i64 0] 8 rfl (by kernel_rfl) (by kernel_rfl) (by kernel_rfl) (by kernel_rfl) (by kernel_rfl) (laidWorld_met os _)) ?_
  intro W base args ds gs before hval0 hW _ _ hL _
  have hval : ∀ (j : Nat) t v, Tryd.f6.params[j]? = some t → args[j]? = some v → Value.okWide Tryd.prog W .any base t v := hval0
  have hG := glob_of_laid hL
  have hW' := hW
  obtain ⟨p, q, hA0, hV, rfl, hfz, hnd⟩ := hW
  have hA : DataW.TrodAll enc Tryd.prog W 0 (fun _ => true) true Tryd.f6.params.toList args.toList ds p := hA0
  rw [Tryd.params6] at hA hval
  obtain ⟨v0, vs0, d0, ds0, p0, q0, hargs, rfl, rfl, h0, r0⟩ := trodAll_cons hA
  obtain ⟨v1, vs1, d1, ds1, p1, q1, rfl, rfl, rfl, h1, r1⟩ := trodAll_cons r0
  obtain ⟨v2, vs2, d2, ds2, p2, q2, rfl, rfl, rfl, h2, r2⟩ := trodAll_cons r1
  obtain ⟨rfl, rfl, rfl⟩ := trodAll_nil r2
  obtain rfl : args = #[v0, v1, v2] := by cases args; simp_all
  obtain ⟨rfl, rfl⟩ := trodVars_none hV
  obtain ⟨m0, e0, a0, b0, c0, d0', r0', rfl, w0⟩ := okWide_number5 (hval 0 53 v0 rfl rfl)
  have k0 := h0
  have lt0 : ∀ x ∈ p0, x.block < W.heap.size := by obtain ⟨m, hm⟩ := k0; exact DataW.trod_lt m _ _ _ hm
  obtain ⟨m1, e1, a1, b1, c1, d1', r1', rfl, w1⟩ := okWide_number5 (hval 1 53 v1 rfl rfl)
  have k1 := h1
  have lt1 : ∀ x ∈ p1, x.block < W.heap.size := by obtain ⟨m, hm⟩ := k1; exact DataW.trod_lt m _ _ _ hm
  obtain ⟨a2, rfl, rfl, rfl, w2⟩ := open_int Tryd.underlying3 (hval 2 3 v2 rfl rfl) h2
  clear hA0 hval0
  refine (walk m0 e0 a0 b0 c0 d0' r0' m1 e1 a1 b1 c1 d1' r1' a2 W w0 w1 w2 hG).mono fun e W' ⟨he, bel⟩ => ?_
  subst he
  exact ⟨_, rfl, _, _, _, [], _, [], hW', trodAll_mk1 (shut_bool Tryd.underlying4 _), (trodAll_cons_mk (Below.trod laidOut (by kernel_rfl) (of_decide_eq_true (by kernel_rfl)) k0 bel lt0) (trodAll_cons_mk (Below.trod laidOut (by kernel_rfl) (of_decide_eq_true (by kernel_rfl)) k1 bel lt1) (trodAll_cons_mk (shut_int Tryd.underlying3 w2) trodAll_mk0))), rfl, bel.frame _, fun h => by cases h⟩

theorem over : Rows.sumsExactRow.holds Tryd.pinned (OpenSpec.ofChange Rows.sumsExactSpec) :=
  OpenClaim.holds_of_wide 6 Tryd.f6 rfl rfl rfl rfl rfl rfl rfl ⟨rfl, rfl, rfl, rfl, rfl⟩ rfl rfl rfl rfl rfl (by kernel_rfl) Tryd.func6 (by kernel_rfl)
    (of_decide_eq_true (by kernel_rfl)) (by unfold Func.isWrapper; first | (rw [if_pos (by decide +kernel)]; kernel_rfl) | (rw [if_neg (by decide +kernel)]; exact ⟨rfl, rfl⟩))
    (fun os started H enc _ => lifted os started H enc)

/-- The statement. -/
theorem proved : Rows.SumsExactCardSaid :=
  Claim7.holds_tied_plain_at .later [] [.handle] true (true, "6b6d9e7892815a8030f374b71020810e0520c272b17b222c51e8cca6d6a5265d") true
    over (fun _ h => by cases h) (by kernel_rfl) (fun _ h => by cases h) sumsExact_row_tie rfl ⟨rfl, rfl⟩ (by kernel_rfl) rfl
    (fun f fn hf hfn => by
      obtain rfl : f = 6 := Option.some.inj ((show Tryd.prog.funcNamed Rows.sumsExactRow.func = some 6 by kernel_rfl).symm.trans hf) |>.symm
      obtain rfl : fn = Tryd.f6 := (Option.some.inj (Tryd.func6.symm.trans hfn)).symm
      refine ⟨by kernel_rfl, fun j t ht => ?_⟩
      rw [Tryd.params6] at ht
      rcases j with _ | _ | _ | j
      · obtain rfl : t = 53 := by simpa using ht.symm
        exact (show Tryd.prog.wantsStandIn 53 = false by kernel_rfl)
      · obtain rfl : t = 53 := by simpa using ht.symm
        exact (show Tryd.prog.wantsStandIn 53 = false by kernel_rfl)
      · obtain rfl : t = 3 := by simpa using ht.symm
        exact (show Tryd.prog.wantsStandIn 3 = false by kernel_rfl)
      · simp at ht)
    (by kernel_rfl)
#print axioms proved
end Go.Proofs.YtdkebceiljdgjaaDoor.sumsExact
