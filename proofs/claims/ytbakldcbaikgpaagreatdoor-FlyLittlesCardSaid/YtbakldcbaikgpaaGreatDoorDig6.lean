/- A list that is nil, as one of no elements; tillerref02: Shl so, From; tillerref04: Of. Own work. -/
import Derived.Test.YtbakldcbaikgpaaGreatDoorDig5
namespace Go.Proofs.YtbakldcbaikgpaaGreatDoor
set_option maxRecDepth 100000
noncomputable section
/-- Says less: nil is a list of no elements. -/
def wkV (r r' : AV) : Prop := r = r' ∨ (r = .nils ∧ ∃ k, r' = .sl (.ints 0 k []))
theorem vr_wk {A : Nat → Prop} {w : World} {ρ : Rho} {r r' : AV} {v : Value} (h : wkV r r') (hv : VR A w ρ r v) : VR A w ρ r' v := by
  rcases h with rfl | ⟨rfl, k, rfl⟩
  · exact hv
  · simp only [VR] at hv ⊢
    exact ⟨.agg #[], ⟨rfl, rfl⟩, .inl ⟨rfl, none, 0, hv⟩⟩
theorem r1_wk {A : Nat → Prop} {w : World} {r r' : AV} {v : Value} {bs : List Nat} (h : wkV r r') (hv : R1 A w r v bs) : R1 A w r' v bs := by
  rcases h with rfl | ⟨rfl, k, rfl⟩
  · exact hv
  · simp only [R1] at hv ⊢
    exact ⟨vr_wk (.inr ⟨rfl, k, rfl⟩) hv.1, hv.2⟩
/-- .. of a result, or of the first of two. -/
def wkR (r r' : AV) : Prop := wkV r r' ∨ ∃ a a' b, wkV a a' ∧ r = .tup [a, b] ∧ r' = .tup [a', b]
theorem rr_wk {A : Nat → Prop} {w : World} {r r' : AV} {v : Value} {bs : List Nat} (h : wkR r r') (hv : RR A w r v bs) : RR A w r' v bs := by
  rcases h with h | ⟨a, a', b, ha, rfl, rfl⟩
  · rcases h with rfl | ⟨rfl, k, rfl⟩
    · exact hv
    · simp only [RR] at hv ⊢
      exact r1_wk (.inr ⟨rfl, k, rfl⟩) hv
  · simp only [RR, Rs] at hv ⊢
    obtain ⟨vs, ⟨v1, vs1, b1, b2, h1, h2, h3, h4⟩, h5⟩ := hv
    exact ⟨vs, ⟨v1, vs1, b1, b2, r1_wk ha h1, h2, h3, h4⟩, h5⟩
theorem ent_wk {P : Program} {f : FuncId} {en en' : Ent} (h : EntOk P f en) (hl : EntLaw en') (hf : en'.frz = en.frz) (hg : ∀ n args r', en'.go AV n args some = some r' → ∃ r, en.go AV n args some = some r ∧ wkR r r') (hw : en.wr = false := by rfl) (hw' : en'.wr = false := by rfl) : EntOk P f en' := by
  refine ⟨hl, fun _ n args r' hr A w vs hA hv hG => ?_, fun hc => by rw [hw'] at hc; cases hc⟩
  obtain ⟨r, h1, h2⟩ := hg n args r' hr
  have hi := h.ok hw n args r h1 A w vs hA hv hG
  unfold Inv at hi ⊢
  rw [hf]
  split at hi
  · obtain ⟨q1, Ar, bs, q2, q3, q4, q5⟩ := hi
    exact ⟨q1, Ar, bs, q2, q3, q4, rr_wk h2 q5⟩
  · refine hi.mono ?_
    rintro e w' ⟨x, rfl, q1, Ar, bs, q2, q3, q4, q5⟩
    exact ⟨x, rfl, q1, Ar, bs, q2, q3, q4, rr_wk h2 q5⟩
  · exact hi
/-! ### Shl -/
def sp_shl : List AV → Option (Bool × AV)
  | [.sl (.ints n .u32 l), .int .i64 i] => some (mayS n l i, .sl (.ints (dgl (valD l * 2 ^ i.toNat)) .u32 (dg (valD l * 2 ^ i.toNat))))
  | _ => none
theorem ok_shl : EntOk Tryz.prog 99 (entS true sp_shl) := by
  refine ent_wk ok_dShl (entS_law _ _) rfl fun _ args r' h9 => ?_
  have h := entS_some h9
  clear h9
  unfold sp_shl at h
  split at h
  · rename_i n l i
    simp only [Option.some.injEq, Prod.mk.injEq] at h
    obtain ⟨hg, rfl⟩ := h
    have hg' := hg
    unfold mayS at hg'
    rw [stk_eq] at hg'
    simp only [Bool.and_eq_true, decide_eq_true_eq] at hg'
    obtain ⟨⟨⟨⟨g1, g2⟩, g3⟩, g4⟩, g5⟩ := hg'
    simp only [entB, sp_dShl, Br.run]
    rw [hg]
    by_cases h0 : n = 0
    · have hl : l = [] := List.length_eq_zero_iff.1 (by omega)
      subst h0 hl
      refine ⟨.nils, rfl, .inl (.inr ⟨rfl, .u32, ?_⟩)⟩
      have : valD [] * 2 ^ i.toNat = 0 := Nat.zero_mul _
      rw [this]
      unfold dgl dg
      rw [stk_eq, stk_eq]
      rfl
    · have : ((n : Int) == 0) = false := beq_eq_false_iff_ne.2 (by omega)
      rw [this]
      exact ⟨_, rfl, .inl (.inl rfl)⟩
  · cases h
/-! ### From -/
def frL : List Int → List Int
  | [] => []
  | a :: l => a.tmod 65536 :: u32 (a.tdiv 65536) :: frL l
def may8 (l : List Int) : Bool := stk (l.all fun a => decide (0 ≤ a) && decide (a < 4294967296))
def frV : List Int → Nat
  | [] => 0
  | a :: l => a.toNat + 4294967296 * frV l
theorem fr_val : ∀ (l : List Int), (l.all fun a => decide (0 ≤ a) && decide (a < 4294967296)) = true → valD (frL l) = frV l ∧ okD (frL l) = true ∧ (frL l).length = 2 * l.length
  | [], _ => ⟨rfl, rfl, rfl⟩
  | a :: l, h => by
    simp only [List.all_cons, Bool.and_eq_true, decide_eq_true_eq] at h
    obtain ⟨⟨h1, h2⟩, h3⟩ := h
    obtain ⟨i1, i2, i3⟩ := fr_val l h3
    obtain ⟨m, rfl⟩ : ∃ m : Nat, a = m := ⟨a.toNat, (Int.toNat_of_nonneg h1).symm⟩
    have t1 := tdivN m 65536
    have t2 := tmodN m 65536
    rw [show ((65536 : Nat) : Int) = 65536 from rfl] at t1 t2
    have e : frL ((m : Int) :: l) = ((m % 65536 : Nat) : Int) :: ((m / 65536 : Nat) : Int) :: frL l := by
      show (m : Int).tmod 65536 :: u32 ((m : Int).tdiv 65536) :: frL l = _
      rw [t1, t2, u32_nat (by omega)]
    rw [e]
    refine ⟨?_, ?_, ?_⟩
    · rw [valD, valD, i1, frV, Int.toNat_natCast, Int.toNat_natCast, Int.toNat_natCast]
      omega
    · rw [okD_cons, okD_cons]
      exact ⟨by omega, by omega, i2⟩
    · rw [List.length_cons, List.length_cons, i3, List.length_cons]
      omega
/-! ### Of -/
theorem dg_len (v : Nat) : dgl v = (dg v).length := by unfold dgl dg; rw [stk_eq, stk_eq]
theorem dg_ok (v : Nat) : okD (dg v) = true := by unfold dg; rw [stk_eq]; exact ok_dig v
theorem dg_le {v : Nat} {k : Nat} (h : lenN v ≤ 16 * k) : dgl v ≤ k + 1 := by
  have := len_dig_le v
  unfold dgl
  rw [stk_eq]
  omega
theorem mayS_dg {v : Nat} {i : Int} (h : lenN v ≤ 1000000) (h0 : 0 ≤ i) (h1 : i ≤ 1000000) : mayS (dgl v) (dg v) i = true := by
  have := dg_le (v := v) (k := 62500) (by omega)
  unfold mayS
  rw [stk_eq, decide_eq_true (dg_len v), dg_ok, decide_eq_true (show dgl v ≤ 100000 by omega), decide_eq_true h0, decide_eq_true h1]
  rfl
theorem mayC2_dg {v w : Nat} (h : lenN v ≤ 1000000) (h' : lenN w ≤ 1000000) : mayC2 (dgl v) (dg v) (dgl w) (dg w) = true := by
  have h1 := dg_le (v := v) (k := 62500) (by omega)
  have h2 := dg_le (v := w) (k := 62500) (by omega)
  exact mayC2_iff.2 ⟨⟨⟨dg_len v, dg_len w⟩, dg_ok v, dg_ok w⟩, by omega, by omega⟩
theorem lenN_one' : lenN 1 = 1 := by decide +kernel
end
end Go.Proofs.YtbakldcbaikgpaaGreatDoor
