/- FlyScaled. Own work. -/
import Derived.Test.YtbakldcbaikgpaaGreatDoorScaW
import Derived.Test.YtbakldcbaikgpaaGreatDoorFly5
import Derived.Test.YtbakldcbaikgpaaGreatDoorErr2
namespace Go.Proofs.YtbakldcbaikgpaaGreatDoor
set_option maxRecDepth 100000
noncomputable section

/-! ### From usual sizes -/
theorem anS_abs {a : Int} (h : inU a = true) : anS a = ((absN a.toNat : Nat) : Int) := by
  obtain ⟨m, rfl, hm⟩ := nat_of h
  unfold anS
  rw [andNot63 m hm, Int.toNat_natCast]
theorem usE_nat (a : Nat) : usE (a : Int) = ((a / 4503599627370496 : Nat) : Int) := by
  unfold usE
  rw [show ((2 : Int) ^ (52 : Int).toNat) = ((4503599627370496 : Nat) : Int) by decide, Int.fdiv_eq_ediv_of_nonneg _ (by omega)]
  rfl
theorem Kt_usual {a : Int} (h : inU a = true) (hu : usO (anS a) = true) : Kt 2825 3079 a.toNat := by
  rw [anS_abs h] at hu
  have hlt := inU_lt h
  unfold usO at hu
  rw [usE_nat] at hu
  have hp := abs_parts a.toNat
  have hF := pF_lt a.toNat
  have hd : absN a.toNat / 4503599627370496 = pE a.toNat := by omega
  rw [hd] at hu
  by_cases h0 : absN a.toNat = 0
  · have hs : sigN a.toNat = 0 := (sig_zero (by rw [h0]; decide +kernel)).2 h0
    have hv : vL a.toNat = 0 := by unfold vL; rw [hs, Nat.zero_mul]
    exact ⟨hlt, by rw [h0]; decide +kernel, by rw [hv]; exact Nat.dvd_zero _, by rw [hv]; exact Nat.zero_le _⟩
  · rw [bne_iff_ne.2 (show ((absN a.toNat : Nat) : Int) ≠ 0 by omega)] at hu
    simp only [Bool.not_true, Bool.false_or, Bool.and_eq_true, Bool.not_eq_true', decide_eq_false_iff_not] at hu
    have hf : absN a.toNat < infN := by unfold infN; omega
    have hv := vL_le hf ⟨by omega, by omega⟩
    refine ⟨hlt, hf, ?_, ?_⟩
    · rw [hv]
      have hk : ∀ d : Nat, d ≤ pE a.toNat + 1925 → 2 ^ d ∣ (pF a.toNat + 4503599627370496) * 2 ^ (pE a.toNat + 1925) := fun d hd => Nat.dvd_trans (Nat.pow_dvd_pow 2 hd) ⟨_, Nat.mul_comm _ _⟩
      exact hk 2825 (by omega)
    · rw [hv]
      have hk : ∀ d : Nat, 53 + (pE a.toNat + 1925) ≤ d → (pF a.toNat + 4503599627370496) * 2 ^ (pE a.toNat + 1925) ≤ 2 ^ d := fun d hd => by
        have h1 : (pF a.toNat + 4503599627370496) * 2 ^ (pE a.toNat + 1925) ≤ 2 ^ 53 * 2 ^ (pE a.toNat + 1925) := Nat.mul_le_mul_right _ (by omega)
        rw [← Nat.pow_add] at h1
        exact Nat.le_trans h1 (Nat.pow_le_pow_right (Nat.succ_pos 1) hd)
      exact hk 3079 (by omega)
theorem upI_sc {a : Int} (h : inU a = true) (hlt : scN a.toNat < 18446744073709551616) : upI a = ((scN a.toNat : Nat) : Int) := by
  unfold upI
  rw [anS_abs h]
  unfold scN at *
  obtain ⟨m, rfl, hm⟩ := nat_of h
  rw [Int.toNat_natCast] at *
  by_cases h0 : absN m = 0
  · rw [h0, if_pos rfl, if_neg (by simp)]
  · rw [if_neg h0] at hlt ⊢
    rw [if_pos (bne_iff_ne.2 (by omega)), show (m : Int) + 1351079888211148800 = ((m + 1351079888211148800 : Nat) : Int) by omega, u64_nat hlt]
theorem upG_map {X : List PZ} (hX : okL X = true) (h : ∀ x ∈ X, scN x.1.toNat < 18446744073709551616 ∧ scN x.2.toNat < 18446744073709551616) : X.map upG = X.map upZ := by
  apply List.map_congr_left
  intro x hx
  obtain ⟨h1, h2⟩ := okPr_iff.1 (okL_iff.1 hX x hx)
  obtain ⟨h3, h4⟩ := h x hx
  unfold upG upZ
  rw [upI_sc h1 h3, upI_sc h2 h4]
theorem okL_upZ {X : List PZ} (h : ∀ x ∈ X, scN x.1.toNat < 18446744073709551616 ∧ scN x.2.toNat < 18446744073709551616) : okL (X.map upZ) = true := by
  refine okL_iff.2 fun y hy => ?_
  obtain ⟨x, hx, rfl⟩ := List.mem_map.1 hy
  obtain ⟨h3, h4⟩ := h x hx
  exact okPr_iff.2 ⟨inU_nat h3, inU_nat h4⟩
theorem oB_okL {X S D : List PZ} (hX : okL X = true) (bk : Bool) (n h : Nat) : ∀ (q k : Nat) (s : BS), okL s.2 = true → okL (oB X S D bk n h q k s).2 = true ∧ (oB X S D bk n h q k s).2.length = s.2.length
  | 0, _, _, h1 => ⟨h1, rfl⟩
  | q + 1, k, s, h1 => by
    obtain ⟨q1, q2⟩ := iA_ok S D k n h 0 (s.1, gp X 0, (0, 0)) (gp_ok hX 0) okPr_zero
    have q3 := okPr_turn q2 (!bk)
    obtain ⟨r1, r2⟩ := oB_okL hX bk n h q (k + 1) (oB1 X S D bk n h k s) (okL_set (okL_set h1 k (okPr_add q1 q3)) (n - k) (okPr_sub q1 q3))
    refine ⟨r1, r2.trans ?_⟩
    show ((s.2.set k _).set (n - k) _).length = _
    rw [List.length_set, List.length_set]
theorem lit_okL {X : List PZ} {n : Nat} (hX : okL X = true) (bk : Bool) : okL (litR X bk n).2 = true ∧ (litR X bk n).2.length = n := by
  have g := gp_ok hX
  unfold litR
  by_cases h2 : n = 2
  · rw [if_pos h2]
    refine ⟨okL_iff.2 fun x hx => ?_, h2.symm⟩
    simp only [List.mem_cons, List.not_mem_nil, or_false] at hx
    rcases hx with rfl | rfl
    · exact okPr_add (g 0) (g 1)
    · exact okPr_sub (g 0) (g 1)
  · rw [if_neg h2]
    by_cases h4 : n = 4
    · rw [if_pos h4]
      refine ⟨okL_iff.2 fun x hx => ?_, h4.symm⟩
      have e := okPr_turn (okPr_sub (g 1) (g 3)) (!bk)
      unfold four4 at hx
      simp only [List.mem_cons, List.not_mem_nil, or_false] at hx
      rcases hx with rfl | rfl | rfl | rfl
      · exact okPr_add (okPr_add (g 0) (g 2)) (okPr_add (g 1) (g 3))
      · exact okPr_add (okPr_sub (g 0) (g 2)) e
      · exact okPr_sub (okPr_add (g 0) (g 2)) (okPr_add (g 1) (g 3))
      · exact okPr_sub (okPr_sub (g 0) (g 2)) e
    · rw [if_neg h4]
      obtain ⟨h, hh⟩ : ∃ h, (n - 1) / 2 = h := ⟨_, rfl⟩
      have lr : ∀ m : Nat, (List.replicate m ((0 : Int), (0 : Int))).length = m := fun m => List.length_replicate
      have lO : ((List.replicate n ((0 : Int), (0 : Int))).set 0 (gp X 0)).length = n := by rw [List.length_set]; exact lr n
      have hO : okL ((List.replicate n (0, 0)).set 0 (gp X 0)) = true := okL_set (okL_rep n) 0 (g 0)
      obtain ⟨a1, a2, a3, a4, a5, a6⟩ := oA_ok (n := n) (h := h) hX h 0 ((0 : Int), List.replicate h (0, 0), List.replicate h (0, 0), (List.replicate n (0, 0)).set 0 (gp X 0)) (okL_rep h) (okL_rep h) hO (lr h) (lr h) lO (by omega)
      unfold oddR oddSf
      rw [hh]
      generalize oA X n h 0 ((0 : Int), List.replicate h (0, 0), List.replicate h (0, 0), (List.replicate n (0, 0)).set 0 (gp X 0)) = s at *
      obtain ⟨b1, b2⟩ := oB_okL (S := s.2.1) (D := s.2.2.1) hX bk n h h 1 (s.1, s.2.2.2) a3
      exact ⟨b1, b2.trans a6⟩
/-- All of it: what the transform of the scaled numbers is. -/
theorem fly_sc {n : Nat} {X : List PZ} (hX : okL X = true) (hu : usK X = true) (hc : canK n = true) (bk : Bool) :
    X.map upG = X.map upZ ∧ okL (X.map upG) = true ∧ (litR (X.map upG) bk n).1 = (litR X bk n).1 ∧ (litR (X.map upG) bk n).2 = (litR X bk n).2.map upG := by
  unfold usK at hu
  rw [stk_eq, List.all_eq_true] at hu
  have hK : ∀ x ∈ X, KP 2825 3079 x := fun x hx => by
    obtain ⟨h1, h2⟩ := okPr_iff.1 (okL_iff.1 hX x hx)
    have h3 := hu x hx
    unfold usP at h3
    rw [Bool.and_eq_true] at h3
    exact ⟨Kt_usual h1 h3.1, Kt_usual h2 h3.2⟩
  have hS : ∀ x ∈ X, scN x.1.toNat < 18446744073709551616 ∧ scN x.2.toNat < 18446744073709551616 := fun x hx =>
    ⟨((hK x hx).1.sc (by omega) (by omega)).2.2.2.1, ((hK x hx).2.sc (by omega) (by omega)).2.2.2.1⟩
  have hG : ∀ i, KP (2715 + 110) 3079 (gp X i) := fun i => by
    unfold gp
    rw [List.getD_eq_getElem?_getD]
    cases hi : X[i]? with
    | none => exact KP_zero
    | some x => exact hK x (List.mem_of_getElem? hi)
  have e1 := upG_map hX hS
  have o1 := okL_upZ hS
  unfold canK at hc
  rw [stk_eq] at hc
  have e2 := lit_sc (e := 2715) (t := 3079) (by omega) hG bk hc (by omega)
  rw [← litR_p, ← litR_p] at e2
  obtain ⟨o2, -⟩ := lit_okL (n := n) o1 bk
  obtain ⟨o3, -⟩ := lit_okL (n := n) hX bk
  rw [e1, e2]
  refine ⟨rfl, o1, rfl, ?_⟩
  show (litR X bk n).2.map upZ = _
  symm
  refine upG_map o3 fun x hx => ?_
  rw [e2] at o2
  have h1 := okPr_iff.1 (okL_iff.1 o2 (upZ x) (List.mem_map.2 ⟨x, hx, rfl⟩))
  have h2 := inU_lt h1.1
  have h3 := inU_lt h1.2
  unfold upZ at h2 h3
  rw [Int.toNat_natCast] at h2 h3
  exact ⟨h2, h3⟩

/-! ### The law -/
def orcFS : List (FuncId × Ent) := [(22, entS false sp_us), (18, entS false sp_tt), (14, entS false sp_gv), (13, entB false sp_lit), (23, entS false sp_upL), (24, entS false sp_al), (17, entS false sp_num)]
def uT : Option AV := some (.bool true)
def uF : Option AV := some (.bool false)
def fs2 (n : Nat) (L M : BS) : Option AV := bif L.1 == M.1 then chk (fitG n L.2) (chk (fitSm n n (upK L.2) M.2) uT) else uF
def fs1 (n : Nat) (X : List PZ) (bk : Bool) (a : Option AV) (b : BS → Option AV) : Option AV :=
  chk (fitG n X) (chk (fitG n X) (chk (fitX n (upK X)) (bif !(canK n) then a else b (litK (upK X) bk n))))
theorem run_fs (n : Nat) (X : List PZ) (bk : Bool) : callA (env Tryz.f6.ntmps orcFS []) (bodyC Tryz.f6) Tryz.f6.results.toList (slots 0 [.sl (.prs n .u64 X), .bool bk]) some =
    chk (fitUs n X) (bif !(usK X) then uT else chk (fitG n X) (chk (fitX n X) (bif !(canK n) then fs1 n X bk uT (fun _ => uF) else fs1 n X bk uF (fun M => fs2 n (litK X bk n) M)))) := by kernel_rfl
theorem litK_r (X : List PZ) (bk : Bool) (n : Nat) : litK X bk n = litR X bk n := by unfold litK; rw [stk_eq]
def sp_fs : List AV → Option (Bool × AV)
  | [.sl (.prs n .u64 X), .bool _] => some (fitG n X && fitX n X, .bool true)
  | _ => none
theorem ok_fs : EntOk Tryz.prog 6 (entS false sp_fs) := by
  refine contractS (orc := orcFS) (lo := []) Tryz.func6 (orc_cons ok_us (orc_cons ok_lsure18 (orc_cons ok_gv (orc_cons ok_lit (orc_cons ok_upL (orc_cons ok_al (orc_cons ok_num18 orc_nil))))))) (by kernel_rfl) (by kernel_rfl) (by kernel_rfl) (loops_none (by kernel_rfl)) fun args r h => ?_
  unfold sp_fs at h
  split at h
  · rename_i n X bk
    simp only [Option.some.injEq, Prod.mk.injEq, Bool.and_eq_true] at h
    obtain ⟨⟨g1, g2⟩, rfl⟩ := h
    refine ⟨by kernel_rfl, .inr rfl, (run_fs n X bk).trans ?_⟩
    have hg := g1
    have hx := g2
    unfold fitG at hg
    unfold fitX at hx
    simp only [stk_eq, decide_eq_true_eq, Bool.and_eq_true] at hg hx
    have hU : fitUs n X = true := by unfold fitUs; rw [stk_eq, decide_eq_true hg]
    rw [hU, g1, g2]
    cases hu : usK X with
    | false => rfl
    | true =>
      unfold fs1
      have eK : upK X = X.map upG := by unfold upK; rw [stk_eq]
      rw [g1, eK]
      cases hc : canK n with
      | false =>
        have hN : okL (X.map upG) = true := by
          refine okL_iff.2 fun y hy => ?_
          obtain ⟨x, hx2, rfl⟩ := List.mem_map.1 hy
          obtain ⟨h1, h2⟩ := okPr_iff.1 (okL_iff.1 hx.2 x hx2)
          have hw : ∀ {a : Int}, inU a = true → inU (upI a) = true := by
            intro a ha
            unfold upI
            split
            · refine inU_iff.2 ?_
              unfold u64
              rw [IntKind.wrap_u64]
              omega
            · exact ha
          exact okPr_iff.2 ⟨hw h1, hw h2⟩
        have f1 : fitX n (X.map upG) = true := by unfold fitX; rw [stk_eq, hN, decide_eq_true (by rw [List.length_map]; exact hx.1)]; rfl
        rw [f1]
        rfl
      | true =>
        obtain ⟨h1, h2, h3, h4⟩ := fly_sc hx.2 hu hc bk
        have f1 : fitX n (X.map upG) = true := by unfold fitX; rw [stk_eq, h2, decide_eq_true (by rw [List.length_map]; exact hx.1)]; rfl
        obtain ⟨o3, o4⟩ := lit_okL (n := n) hx.2 bk
        have f2 : fitG n (litR X bk n).2 = true := by unfold fitG; rw [stk_eq, decide_eq_true ⟨o4, hg.2⟩]
        have e2 : upK (litR X bk n).2 = (litR X bk n).2.map upG := by unfold upK; rw [stk_eq]
        have hn : n ≤ 13 := by
          unfold canK canN at hc
          rw [stk_eq, decide_eq_true_eq] at hc
          omega
        have f3 : fitSm n n ((litR X bk n).2.map upG) ((litR X bk n).2.map upG) = true := by
          unfold fitSm
          rw [stk_eq, decide_eq_true ⟨rfl, rfl, by omega⟩]
        have hfs : fs2 n (litK X bk n) (litK (X.map upG) bk n) = uT := by
          unfold fs2
          rw [litK_r, litK_r, h3, h4, beq_self_eq_true, f2, e2, f3]
          rfl
        rw [f1]
        simp only [chk, cond_true, Bool.not_true, cond_false]
        exact hfs
  · cases h
end
end Go.Proofs.YtbakldcbaikgpaaGreatDoor
