/-
  The statement 'Rows.FlyLittlesCardSaid' ('FlyLittles') is proved, for every input that its row lets in, where errors.errorType starts as the program's text lays it: the law returns true.
-/
import Derived.Test.YtbakldcbaikgpaaGreatDoorRows
import Derived.Test.YtbakldcbaikgpaaGreatDoorTie
import Derived.Test.YtbakldcbaikgpaaGreatDoorCards
import Derived.Test.YtbakldcbaikgpaaGreatDoorLitA
import Derived.Test.YtbakldcbaikgpaaGreatDoorArgP
import Derived.Test.YtbakldcbaikgpaaGreatDoorErr3
import Derived.WalkKit
import Derived.ProofKit
import Derived.OpenShut
import Derived.ShutString
import Derived.ChangeOld
import Derived.Below
import Derived.SevenTiedAt
namespace Go.Proofs.YtbakldcbaikgpaaGreatDoor.flyLittles
open Go.ChangeShapes Go.WideShapes Go.ChangeAt Go.RowKit
set_option linter.unusedVariables false
set_option maxRecDepth 100000

theorem own : ownKnob Tryz.prog.godebug = none := by kernel_rfl
theorem laidOut : laidOutB Tryz.prog = true := by kernel_rfl

theorem walk (s0 : Value) (n0 : Nat) (l0 : List PZ) (a1 : Bool) (w : World) (w0 : (fitG n0 l0 && fitX n0 l0) = true) (x0 : VR (Live w) w ρ0 (.sl (.prs n0 .u64 l0)) s0) (hG : Glob Tryz.prog (Live w) w) :
    Calls Tryz.prog 4 #[s0, .bool a1] w fun e w' => e = .returned (.bool true) ∧ Below w.heap.size w w' := by
  refine calls_true (vs := [s0, .bool a1]) (args := [.sl (.prs n0 .u64 l0), .bool a1]) Tryz.func4 (by kernel_rfl) (c := bodyC Tryz.f4) (by kernel_rfl) ok_fl ?_ ?_ hG
  · simp only [entS, sp_fl]
    simp only [w0, chk, cond_true]
  · simp only [VRs]
    exact ⟨_, _, x0, ⟨_, _, by simp only [VR], rfl, rfl⟩, rfl⟩

theorem lifted (os : Os) (started : os.Started) (H : Type) (enc : TypeId × Value → H) :
    ReturnsInHanded {} Tryz.checked os 4 .any (fun w args => (Rows.flyLittlesSpec.pre enc Tryz.prog Tryz.f4 [] false w args ∧ laidMetH Tryz.prog [("errors.errorType", Rows.laid_errors_errorType)] w) ∧ sizedMet enc Tryz.prog Tryz.f4 (OpenSpec.ofChange Rows.flyLittlesSpec) false w args)
      (Rows.flyLittlesSpec.post enc Tryz.prog Tryz.f4 false true false false) := by
  refine returnsInHanded_of_change_and (C := Tryz.checked) (X := fun w _ => laidMetH Tryz.prog [("errors.errorType", Rows.laid_errors_errorType)] w) (fun _ _ _ hh h => h.of_heap hh) own started (by kernel_rfl) Tryz.func4
    (ChangeSpec.witness_at (enc := enc) (C := Tryz.checked) (os := os) (X := fun w _ => laidMetH Tryz.prog [("errors.errorType", Rows.laid_errors_errorType)] w) false (laidWorld os) #[.slice none 0 0, .bool false] 8 rfl (by kernel_rfl) (by kernel_rfl) (by kernel_rfl) (by kernel_rfl) (by kernel_rfl) (laidWorld_met os _)) ?_
  intro W base args ds gs before hval0 hW _ hsz hL _
  have hval : ∀ (j : Nat) t v, Tryz.f4.params[j]? = some t → args[j]? = some v → Value.okWide Tryz.prog W .any base t v := hval0
  have hG := glob_of_laid hL
  have hW' := hW
  obtain ⟨p, q, hA0, hV, rfl, hfz, hnd⟩ := hW
  have hA : DataW.TrodAll enc Tryz.prog W 0 (fun _ => true) true Tryz.f4.params.toList args.toList ds p := hA0
  rw [Tryz.params4] at hA hval
  obtain ⟨v0, vs0, d0, ds0, p0, q0, hargs, rfl, rfl, h0, r0⟩ := trodAll_cons hA
  obtain ⟨v1, vs1, d1, ds1, p1, q1, rfl, rfl, rfl, h1, r1⟩ := trodAll_cons r0
  obtain ⟨rfl, rfl, rfl⟩ := trodAll_nil r1
  obtain rfl : args = #[v0, v1] := by cases args; simp_all
  obtain ⟨rfl, rfl⟩ := trodVars_none hV
  obtain ⟨ad0, n0, cap0, rfl⟩ := okWide_slice Tryz.underlying22 (hval 0 22 v0 rfl rfl)
  have k0 := h0
  have lt0 : ∀ x ∈ p0, x.block < W.heap.size := by obtain ⟨m, hm⟩ := k0; exact DataW.trod_lt m _ _ _ hm
  obtain ⟨l0, w0, x0⟩ : ∃ l : List PZ, (fitG n0 l && fitX n0 l) = true ∧ VR (Live W) W ρ0 (.sl (.prs n0 .u64 l)) (.slice ad0 n0 cap0) := by
    obtain ⟨fuel, hf⟩ := h0
    obtain ⟨X, e1, e2, e3, e4⟩ := vr_pairs Tryz.underlying22 Tryz.underlying55 Tryz.underlying42 rfl rfl rfl rfl (by kernel_rfl) (by kernel_rfl) hf
    have hb : Tryz.prog.bytesOf 55 = 16 := by kernel_rfl
    have hn : n0 * 16 ≤ 140737488355328 := by
      rcases e4 with h0 | ⟨elems, rest, hx, hl⟩
      · omega
      · have hx' : d0 = .slice elems rest := hx
        have h2 : (elems.length + rest.length) * Tryz.prog.bytesOf 55 ≤ reachBytes := sized_slice hsz (j := 0) (t := 22) (by kernel_rfl) (by rw [hx']; rfl) Tryz.underlying22
        rw [hb, hl] at h2
        have h3 := reachBytes_lt
        have h4 : (2 : Nat) ^ 47 = 140737488355328 := by decide
        omega
    exact ⟨X, fit_pairs e1 hn e2, e3⟩
  obtain ⟨a1, rfl, rfl, rfl⟩ := open_bool Tryz.underlying4 (hval 1 4 v1 rfl rfl) h1
  clear hA0 hval0
  refine (walk _ _ l0 a1 W w0 x0 hG).mono fun e W' ⟨he, bel⟩ => ?_
  subst he
  exact ⟨_, rfl, _, _, _, [], _, [], hW', trodAll_mk1 (shut_bool Tryz.underlying4 _), (trodAll_cons_mk (Below.trod laidOut (by kernel_rfl) (of_decide_eq_true (by kernel_rfl)) k0 bel lt0) (trodAll_cons_mk (shut_bool Tryz.underlying4 _) trodAll_mk0)), rfl, bel.frame _, fun h => by cases h⟩

theorem over : Rows.flyLittlesRow.holds Tryz.pinned (OpenSpec.ofChange Rows.flyLittlesSpec) :=
  OpenClaim.holds_of_wide 4 Tryz.f4 rfl rfl rfl rfl rfl rfl rfl ⟨rfl, rfl, rfl, rfl, rfl⟩ rfl rfl rfl rfl rfl (by kernel_rfl) Tryz.func4 (by kernel_rfl)
    (of_decide_eq_true (by kernel_rfl)) (by unfold Func.isWrapper; first | (rw [if_pos (by decide +kernel)]; kernel_rfl) | (rw [if_neg (by decide +kernel)]; exact ⟨rfl, rfl⟩))
    (fun os started H enc _ => lifted os started H enc)

/-- The statement. -/
theorem proved : Rows.FlyLittlesCardSaid :=
  Claim7.holds_tied_plain_at .later [] [.handle] true (true, "0502f1664d35a77f8354b8974b63e6e0d5091e28b2e33bc17eeea8b6d71eb835") true
    over (fun _ h => by cases h) (by kernel_rfl) (fun _ h => by cases h) flyLittles_row_tie rfl ⟨rfl, rfl⟩ (by kernel_rfl) rfl
    (fun f fn hf hfn => by
      obtain rfl : f = 4 := Option.some.inj ((show Tryz.prog.funcNamed Rows.flyLittlesRow.func = some 4 by kernel_rfl).symm.trans hf) |>.symm
      obtain rfl : fn = Tryz.f4 := (Option.some.inj (Tryz.func4.symm.trans hfn)).symm
      refine ⟨by kernel_rfl, fun j t ht => ?_⟩
      rw [Tryz.params4] at ht
      rcases j with _ | _ | j
      · obtain rfl : t = 22 := by simpa using ht.symm
        exact (show Tryz.prog.wantsStandIn 22 = false by kernel_rfl)
      · obtain rfl : t = 4 := by simpa using ht.symm
        exact (show Tryz.prog.wantsStandIn 4 = false by kernel_rfl)
      · simp at ht)
    (by kernel_rfl)
#print axioms proved
end Go.Proofs.YtbakldcbaikgpaaGreatDoor.flyLittles
