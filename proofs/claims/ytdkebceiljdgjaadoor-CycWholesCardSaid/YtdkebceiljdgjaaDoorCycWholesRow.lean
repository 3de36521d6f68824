/-
  The statement 'Rows.CycWholesCardSaid' ('CycWholes') is proved, for every input that its row lets in, where errors.errorType starts as the program's text lays it: the law returns true.
-/
import Derived.Test.YtdkebceiljdgjaaDoorRows
import Derived.Test.YtdkebceiljdgjaaDoorTie
import Derived.Test.YtdkebceiljdgjaaDoorCards
import Derived.Test.YtdkebceiljdgjaaDoorCyc8
import Derived.Test.YtdkebceiljdgjaaDoorErr3
import Derived.WalkKit
import Derived.ProofKit
import Derived.OpenShut
import Derived.ShutString
import Derived.ChangeOld
import Derived.Below
import Derived.SevenTiedAt
namespace Go.Proofs.YtdkebceiljdgjaaDoor.cycWholes
open Go.ChangeShapes Go.WideShapes Go.ChangeAt Go.RowKit
set_option linter.unusedVariables false
set_option maxRecDepth 100000

theorem own : ownKnob Tryd.prog.godebug = none := by kernel_rfl
theorem laidOut : laidOutB Tryd.prog = true := by kernel_rfl

theorem walk (s0 : Value) (n0 : Nat) (l0 : List Int) (s1 : Value) (n1 : Nat) (l1 : List Int) (w : World) (w0 : okL n0 l0 = true) (x0 : VR (Live w) w ρ0 (.sl (.ints n0 .i64 l0)) s0) (w1 : okL n1 l1 = true) (x1 : VR (Live w) w ρ0 (.sl (.ints n1 .i64 l1)) s1) (hG : Glob Tryd.prog w) :
    Calls Tryd.prog 3 #[s0, s1] w fun e w' => e = .returned (.bool true) ∧ Below w.heap.size w w' := by
  refine calls_true (vs := [s0, s1]) (args := [.sl (.ints n0 .i64 l0), .sl (.ints n1 .i64 l1)]) Tryd.func3 (by kernel_rfl) (c := bodyC Tryd.f3) (by kernel_rfl) ok_cw ?_ ?_ hG
  · simp only [entS, sp_cw]
    simp only [w0, w1, Bool.and_self, chk, cond_true]
  · simp only [VRs]
    exact ⟨_, _, x0, ⟨_, _, x1, rfl, rfl⟩, rfl⟩

theorem lifted (os : Os) (started : os.Started) (H : Type) (enc : TypeId × Value → H) :
    ReturnsInHanded {} Tryd.checked os 3 .any (fun w args => (Rows.cycWholesSpec.pre enc Tryd.prog Tryd.f3 [] false w args ∧ laidMetH Tryd.prog [("errors.errorType", Rows.laid_errors_errorType)] w) ∧ sizedMet enc Tryd.prog Tryd.f3 (OpenSpec.ofChange Rows.cycWholesSpec) false w args)
      (Rows.cycWholesSpec.post enc Tryd.prog Tryd.f3 false true false false) := by
  refine returnsInHanded_of_change_and (C := Tryd.checked) (X := fun w _ => laidMetH Tryd.prog [("errors.errorType", Rows.laid_errors_errorType)] w) (fun _ _ _ hh h => h.of_heap hh) own started (by kernel_rfl) Tryd.func3
    (ChangeSpec.witness_at (enc := enc) (C := Tryd.checked) (os := os) (X := fun w _ => laidMetH Tryd.prog [("errors.errorType", Rows.laid_errors_errorType)] w) false (laidWorld os) #[.slice none 0 0, .slice none 0 0] 8 rfl (by kernel_rfl) (by kernel_rfl) (by kernel_rfl) (by kernel_rfl) (by kernel_rfl) (laidWorld_met os _)) ?_
  intro W base args ds gs before hval0 hW _ _ hL _
  have hval : ∀ (j : Nat) t v, Tryd.f3.params[j]? = some t → args[j]? = some v → Value.okWide Tryd.prog W .any base t v := hval0
  have hG := glob_of_laid hL
  have hW' := hW
  obtain ⟨p, q, hA0, hV, rfl, hfz, hnd⟩ := hW
  have hA : DataW.TrodAll enc Tryd.prog W 0 (fun _ => true) true Tryd.f3.params.toList args.toList ds p := hA0
  rw [Tryd.params3] at hA hval
  obtain ⟨v0, vs0, d0, ds0, p0, q0, hargs, rfl, rfl, h0, r0⟩ := trodAll_cons hA
  obtain ⟨v1, vs1, d1, ds1, p1, q1, rfl, rfl, rfl, h1, r1⟩ := trodAll_cons r0
  obtain ⟨rfl, rfl, rfl⟩ := trodAll_nil r1
  obtain rfl : args = #[v0, v1] := by cases args; simp_all
  obtain ⟨rfl, rfl⟩ := trodVars_none hV
  obtain ⟨ad0, len0, cap0, rfl⟩ := okWide_slice Tryd.underlying22 (hval 0 22 v0 rfl rfl)
  have k0 := h0
  have lt0 : ∀ x ∈ p0, x.block < W.heap.size := by obtain ⟨m, hm⟩ := k0; exact DataW.trod_lt m _ _ _ hm
  obtain ⟨n0, l0, w0, x0⟩ : ∃ n l, okL n l = true ∧ VR (Live W) W ρ0 (.sl (.ints n .i64 l)) (.slice ad0 len0 cap0) := by
    obtain ⟨fuel, hf⟩ := h0
    have hrow : (ad0 = none ∧ len0 = 0 ∧ cap0 = 0 ∧ ([] : List Int) = []) ∨ ∃ zs : List Int, ∃ x, ad0 = some x ∧ len0 ≤ cap0 ∧ cap0 ≤ maxLen ∧ zs.length = cap0 ∧ (∀ i, i < zs.length → W.cell? (x.add i) = some (.int .i64 (zs.getD i 0))) ∧ ∀ n ∈ zs, (Lit.int .i64 n).wf = true := by
      rcases open_ints Tryd.underlying22 Tryd.underlying2 (by kernel_rfl) hf with ⟨hcs, _⟩ | ⟨x, l, c, zs, hcs, _, hl, hm, hz, _, hcell, hwz⟩
      · simp [Value.cells] at hcs
        obtain ⟨rfl, rfl, rfl⟩ := hcs
        exact .inl ⟨rfl, rfl, rfl, rfl⟩
      · simp [Value.cells] at hcs
        obtain ⟨rfl, rfl, rfl⟩ := hcs
        exact .inr ⟨zs, _, rfl, hl, hm, by simpa using hz, hcell, hwz⟩
    rcases hrow with hr | ⟨zs, hr⟩
    · obtain ⟨l, hl, _, hv⟩ := vr_row (k := .i64) (w := W) (.inl hr)
      exact ⟨_, l, by rw [← hl]; exact Nat.beq_refl _, hv⟩
    · obtain ⟨l, hl, _, hv⟩ := vr_row (k := .i64) (w := W) (.inr hr)
      exact ⟨_, l, by rw [← hl]; exact Nat.beq_refl _, hv⟩
  obtain ⟨ad1, len1, cap1, rfl⟩ := okWide_slice Tryd.underlying22 (hval 1 22 v1 rfl rfl)
  have k1 := h1
  have lt1 : ∀ x ∈ p1, x.block < W.heap.size := by obtain ⟨m, hm⟩ := k1; exact DataW.trod_lt m _ _ _ hm
  obtain ⟨n1, l1, w1, x1⟩ : ∃ n l, okL n l = true ∧ VR (Live W) W ρ0 (.sl (.ints n .i64 l)) (.slice ad1 len1 cap1) := by
    obtain ⟨fuel, hf⟩ := h1
    have hrow : (ad1 = none ∧ len1 = 0 ∧ cap1 = 0 ∧ ([] : List Int) = []) ∨ ∃ zs : List Int, ∃ x, ad1 = some x ∧ len1 ≤ cap1 ∧ cap1 ≤ maxLen ∧ zs.length = cap1 ∧ (∀ i, i < zs.length → W.cell? (x.add i) = some (.int .i64 (zs.getD i 0))) ∧ ∀ n ∈ zs, (Lit.int .i64 n).wf = true := by
      rcases open_ints Tryd.underlying22 Tryd.underlying2 (by kernel_rfl) hf with ⟨hcs, _⟩ | ⟨x, l, c, zs, hcs, _, hl, hm, hz, _, hcell, hwz⟩
      · simp [Value.cells] at hcs
        obtain ⟨rfl, rfl, rfl⟩ := hcs
        exact .inl ⟨rfl, rfl, rfl, rfl⟩
      · simp [Value.cells] at hcs
        obtain ⟨rfl, rfl, rfl⟩ := hcs
        exact .inr ⟨zs, _, rfl, hl, hm, by simpa using hz, hcell, hwz⟩
    rcases hrow with hr | ⟨zs, hr⟩
    · obtain ⟨l, hl, _, hv⟩ := vr_row (k := .i64) (w := W) (.inl hr)
      exact ⟨_, l, by rw [← hl]; exact Nat.beq_refl _, hv⟩
    · obtain ⟨l, hl, _, hv⟩ := vr_row (k := .i64) (w := W) (.inr hr)
      exact ⟨_, l, by rw [← hl]; exact Nat.beq_refl _, hv⟩
  clear hA0 hval0
  refine (walk _ n0 l0 _ n1 l1 W w0 x0 w1 x1 hG).mono fun e W' ⟨he, bel⟩ => ?_
  subst he
  exact ⟨_, rfl, _, _, _, [], _, [], hW', trodAll_mk1 (shut_bool Tryd.underlying4 _), (trodAll_cons_mk (Below.trod laidOut (by kernel_rfl) (of_decide_eq_true (by kernel_rfl)) k0 bel lt0) (trodAll_cons_mk (Below.trod laidOut (by kernel_rfl) (of_decide_eq_true (by kernel_rfl)) k1 bel lt1) trodAll_mk0)), rfl, bel.frame _, fun h => by cases h⟩

theorem over : Rows.cycWholesRow.holds Tryd.pinned (OpenSpec.ofChange Rows.cycWholesSpec) :=
  OpenClaim.holds_of_wide 3 Tryd.f3 rfl rfl rfl rfl rfl rfl rfl ⟨rfl, rfl, rfl, rfl, rfl⟩ rfl rfl rfl rfl rfl (by kernel_rfl) Tryd.func3 (by kernel_rfl)
    (of_decide_eq_true (by kernel_rfl)) (by unfold Func.isWrapper; first | (rw [if_pos (by decide +kernel)]; kernel_rfl) | (rw [if_neg (by decide +kernel)]; exact ⟨rfl, rfl⟩))
    (fun os started H enc _ => lifted os started H enc)

/-- The statement. -/
theorem proved : Rows.CycWholesCardSaid :=
  Claim7.holds_tied_plain_at .later [] [.handle] true (true, "6b6d9e7892815a8030f374b71020810e0520c272b17b222c51e8cca6d6a5265d") true
    over (fun _ h => by cases h) (by kernel_rfl) (fun _ h => by cases h) cycWholes_row_tie rfl ⟨rfl, rfl⟩ (by kernel_rfl) rfl
    (fun f fn hf hfn => by
      obtain rfl : f = 3 := Option.some.inj ((show Tryd.prog.funcNamed Rows.cycWholesRow.func = some 3 by kernel_rfl).symm.trans hf) |>.symm
      obtain rfl : fn = Tryd.f3 := (Option.some.inj (Tryd.func3.symm.trans hfn)).symm
      refine ⟨by kernel_rfl, fun j t ht => ?_⟩
      rw [Tryd.params3] at ht
      rcases j with _ | _ | j
      · obtain rfl : t = 22 := by simpa using ht.symm
        exact (show Tryd.prog.wantsStandIn 22 = false by kernel_rfl)
      · obtain rfl : t = 22 := by simpa using ht.symm
        exact (show Tryd.prog.wantsStandIn 22 = false by kernel_rfl)
      · simp at ht)
    (by kernel_rfl)
#print axioms proved
end Go.Proofs.YtdkebceiljdgjaaDoor.cycWholes
