/-
  The statement 'Rows.MixOnesSaid' ('MixOnes') is proved, for every input that its row lets in: the law returns true.
-/
import Derived.Test.YtbakldcbaikgpaaRows
import Derived.Test.YtbakldcbaikgpaaMix17
import Derived.Test.YtbakldcbaikgpaaArg0
import Derived.WalkKit
import Derived.ProofKit
import Derived.OpenShut
import Derived.ShutString
import Derived.ChangeOld
import Derived.Below
namespace Go.Proofs.Ytbakldcbaikgpaa.mixOnes
open Go.ChangeShapes Go.WideShapes Go.ChangeAt Go.RowKit
set_option linter.unusedVariables false
set_option maxRecDepth 100000

theorem own : ownKnob Try.prog.godebug = none := by kernel_rfl
theorem laidOut : laidOutB Try.prog = true := by kernel_rfl

theorem walk (s0 : Value) (n0 : Nat) (l0 : List Int) (a1 : Bool) (w : World) (w0 : fitR n0 l0 = true) (x0 : VR (Live w) w ρ0 (.sl (.ints n0 .i64 l0)) s0) :
    Calls Try.prog 6 #[s0, .bool a1] w fun e w' => e = .returned (.bool true) ∧ Below w.heap.size w w' := by
  refine calls_true (vs := [s0, .bool a1]) (args := [.sl (.ints n0 .i64 l0), .bool a1]) Try.func6 (by kernel_rfl) (c := bodyC Try.f6) (by kernel_rfl) ok_lMixOnes ?_ ?_ (glob_none (by kernel_rfl) rfl _ w)
  · simp only [entS, sp_lMixOnes]
    simp only [w0, chk, cond_true]
  · simp only [VRs]
    exact ⟨_, _, x0, ⟨_, _, by simp only [VR], rfl, rfl⟩, rfl⟩

theorem lifted (os : Os) (started : os.Started) (H : Type) (enc : TypeId × Value → H) :
    ReturnsInHanded {} Try.checked os 6 .any (Rows.mixOnesSpec.pre6 enc Try.prog Try.f6 Rows.mixOnesRow.domain false) (Rows.mixOnesSpec.post enc Try.prog Try.f6 false true false false) := by
  refine returnsInHanded_of_change (C := Try.checked) own started (by kernel_rfl) Try.func6
    (ChangeSpec.witness6 (enc := enc) (C := Try.checked) false ⟨#[], #[.slice none 0 0, .bool false], []⟩ 8 (by kernel_rfl) (by kernel_rfl) (by kernel_rfl) (by kernel_rfl)) ?_
  intro W base args ds gs before hval0 hW hcnd _
  have hval : ∀ (j : Nat) t v, Try.f6.params[j]? = some t → args[j]? = some v → Value.okWide Try.prog W .any base t v := hval0
  have hW' := hW
  obtain ⟨p, q, hA0, hV, rfl, hfz, hnd⟩ := hW
  have hA : DataW.TrodAll enc Try.prog W 0 (fun _ => true) true Try.f6.params.toList args.toList ds p := hA0
  rw [Try.params6] at hA hval
  obtain ⟨v0, vs0, d0, ds0, p0, q0, hargs, rfl, rfl, h0, r0⟩ := trodAll_cons hA
  obtain ⟨v1, vs1, d1, ds1, p1, q1, rfl, rfl, rfl, h1, r1⟩ := trodAll_cons r0
  obtain ⟨rfl, rfl, rfl⟩ := trodAll_nil r1
  obtain rfl : args = #[v0, v1] := by cases args; simp_all
  obtain ⟨rfl, rfl⟩ := trodVars_none hV
  obtain ⟨ad0, len0, cap0, rfl⟩ := okWide_slice Try.underlying34 (hval 0 34 v0 rfl rfl)
  have k0 := h0
  have lt0 : ∀ x ∈ p0, x.block < W.heap.size := by obtain ⟨m, hm⟩ := k0; exact DataW.trod_lt m _ _ _ hm
  obtain ⟨n0, l0, w0, x0⟩ : ∃ n l, fitR n l = true ∧ VR (Live W) W ρ0 (.sl (.ints n .i64 l)) (.slice ad0 len0 cap0) := by
    obtain ⟨fuel, hf⟩ := h0
    have hrow : (ad0 = none ∧ len0 = 0 ∧ cap0 = 0 ∧ ([] : List Int) = []) ∨ ∃ zs : List Int, ∃ x, ad0 = some x ∧ len0 ≤ cap0 ∧ cap0 ≤ maxLen ∧ zs.length = cap0 ∧ (∀ i, i < zs.length → W.cell? (x.add i) = some (.int .i64 (zs.getD i 0))) ∧ ∀ n ∈ zs, (Lit.int .i64 n).wf = true := by
      rcases open_ints Try.underlying34 Try.underlying3 (by kernel_rfl) hf with ⟨hcs, _⟩ | ⟨x, l, c, zs, hcs, _, hl, hm, hz, _, hcell, hwz⟩
      · simp [Value.cells] at hcs
        obtain ⟨rfl, rfl, rfl⟩ := hcs
        exact .inl ⟨rfl, rfl, rfl, rfl⟩
      · simp [Value.cells] at hcs
        obtain ⟨rfl, rfl, rfl⟩ := hcs
        exact .inr ⟨zs, _, rfl, hl, hm, by simpa using hz, hcell, hwz⟩
    rcases hrow with hr | ⟨zs, hr⟩
    · obtain ⟨l, hl, _, hv⟩ := vr_row (k := .i64) (w := W) (.inl hr)
      exact ⟨_, l, fitR_at hl (by omega), hv⟩
    · obtain ⟨l, hl, _, hv⟩ := vr_row (k := .i64) (w := W) (.inr hr)
      obtain ⟨_, _, hlc, hcm, _⟩ := hr
      exact ⟨_, l, fitR_at hl (by unfold maxLen at hcm; omega), hv⟩
  obtain ⟨a1, rfl, rfl, rfl⟩ := open_bool Try.underlying4 (hval 1 4 v1 rfl rfl) h1
  clear hA0 hval0
  refine (walk _ _ l0 a1 W w0 x0).mono fun e W' ⟨he, bel⟩ => ?_
  subst he
  exact ⟨_, rfl, _, _, _, [], _, [], hW', trodAll_mk1 (shut_bool Try.underlying4 _), (trodAll_cons_mk (Below.trod laidOut (by kernel_rfl) (of_decide_eq_true (by kernel_rfl)) k0 bel lt0) (trodAll_cons_mk (shut_bool Try.underlying4 _) trodAll_mk0)), rfl, bel.frame _, fun h => by cases h⟩

theorem over : Rows.mixOnesRow.holds Try.pinned (OpenSpec.ofChange Rows.mixOnesSpec) :=
  OpenClaim.holds_of_wide 6 Try.f6 rfl rfl rfl rfl rfl rfl rfl ⟨rfl, rfl, rfl, rfl, rfl⟩ rfl rfl rfl rfl rfl (by kernel_rfl) Try.func6 (by kernel_rfl)
    (of_decide_eq_true (by kernel_rfl)) (by unfold Func.isWrapper; first | (rw [if_pos (by decide +kernel)]; kernel_rfl) | (rw [if_neg (by decide +kernel)]; exact ⟨rfl, rfl⟩))
    (fun os started H enc _ => lifted os started H enc)

/-- The statement. -/
theorem proved : Rows.MixOnesSaid := over
#print axioms proved
end Go.Proofs.Ytbakldcbaikgpaa.mixOnes
