/- fly: four, odd, Can, Little. Own work. -/
import Derived.Test.YtbakldcbaikgpaaGreatDoorFly3
namespace Go.Proofs.YtbakldcbaikgpaaGreatDoor
set_option maxRecDepth 100000
noncomputable section

/-! ### four -/
def fitN (n : Nat) (X : List PZ) (m : Nat) : Bool := stk (decide (n = m ∧ X.length = m)) && okL X
def four_ (X : List PZ) (bk : Bool) : List PZ := stk (four4 (gp X 0) (gp X 1) (gp X 2) (gp X 3) bk)
def fourF_ (X : List PZ) (bk : Bool) (f : Int) : Int := stk (orL f (fourG (gp X 0) (gp X 1) (gp X 2) (gp X 3) bk))
def sp_four : List AV → Option (Bool × AV × List AV)
  | [.rf 64 (.st [.int .u8 f]), .sl (.prs n .u64 X), .bool bk] => some (fitN n X 4, .osl 44 (.prs 4 .u64 (four_ X bk)), [.rf 64 (.st [.int .u8 (fourF_ X bk f)])])
  | _ => none
theorem ok_four : EntOk Tryz.prog 36 (entM false sp_four) := by
  refine contractMS (orc := orcFour) (lo := []) Tryz.func36 (orc_cons ok_fAdd (orc_cons ok_fSub (orc_cons ok_cTurn orc_nil))) (by kernel_rfl) (by kernel_rfl) (by kernel_rfl) (loops_none (by kernel_rfl)) fun args r cs h => ?_
  unfold sp_four at h
  split at h
  · rename_i f n X bk
    simp only [Option.some.injEq, Prod.mk.injEq] at h
    obtain ⟨hg, rfl, rfl⟩ := h
    unfold fitN at hg
    rw [stk_eq] at hg
    simp only [Bool.and_eq_true, decide_eq_true_eq] at hg
    obtain ⟨⟨rfl, hl⟩, hX⟩ := hg
    match X, hl with
    | [x0, x1, x2, x3], _ =>
      refine ⟨by kernel_rfl, .inr rfl, (run_four f x0 x1 x2 x3 bk).trans ?_⟩
      have h0 : okPr x0 = true := okL_iff.1 hX x0 (by simp)
      have h1 : okPr x1 = true := okL_iff.1 hX x1 (by simp)
      have h2 : okPr x2 = true := okL_iff.1 hX x2 (by simp)
      have h3 : okPr x3 = true := okL_iff.1 hX x3 (by simp)
      have a1 := okPr_add h0 h2
      have a2 := okPr_sub h0 h2
      have a3 := okPr_add h1 h3
      have a4 := okPr_sub h1 h3
      have a5 := okPr_turn a4 (!bk)
      unfold four_ fourF_
      rw [stk_eq, stk_eq, h0, h1, h2, h3, a1, a2, a3, a4, a5]
      rfl
  · cases h

/-! ### odd -/
def fitO (n : Nat) (X : List PZ) : Bool := stk (decide (n % 2 = 1 ∧ 3 ≤ n ∧ n ≤ 999 ∧ X.length = n)) && okL X
def oddS (X : List PZ) (n : Nat) : FS := oA X n ((n - 1) / 2) 0 (0, List.replicate ((n - 1) / 2) (0, 0), List.replicate ((n - 1) / 2) (0, 0), (List.replicate n (0, 0)).set 0 (gp X 0))
def oddSf (X : List PZ) (n : Nat) (f : Int) : FS := oA X n ((n - 1) / 2) 0 (f, List.replicate ((n - 1) / 2) (0, 0), List.replicate ((n - 1) / 2) (0, 0), (List.replicate n (0, 0)).set 0 (gp X 0))
def oddR (X : List PZ) (bk : Bool) (n : Nat) (f : Int) : BS := oB X (oddSf X n f).2.1 (oddSf X n f).2.2.1 bk n ((n - 1) / 2) ((n - 1) / 2) 1 ((oddSf X n f).1, (oddSf X n f).2.2.2)
def oddK (X : List PZ) (bk : Bool) (n : Nat) (f : Int) : BS := stk (oddR X bk n f)
def sp_odd : List AV → Option (Bool × AV × List AV)
  | [.rf 64 (.st [.int .u8 f]), .sl (.prs n .u64 X), .bool bk] => some (fitO n X, .tup [.osl 44 (.prs n .u64 (oddK X bk n f).2), .nili], [.rf 64 (.st [.int .u8 (oddK X bk n f).1])])
  | _ => none
def mkOk (z : Int) : Bool := (z == z) && decide (0 ≤ z) && decide ((16 : Int) * z ≤ 140737488355328) && decide (z < 9223372036854775808)
def odE (no : Nat) (r : BS) : Option AV := some (.mt (.tup [.osl 44 (.prs no .u64 r.2), .nili]) [.rf 64 (.st [.int .u8 r.1])])
def odB (h n no : Nat) (X : List PZ) (bk : Bool) (N H : Int) (s : FS) : Option AV := chk (fitB h h no n s.2.1 s.2.2.1 s.2.2.2 X N H) (odE no (oBk X s.2.1 s.2.2.1 s.2.2.2 bk n h s.1))
def odA (h n no : Nat) (X S D O : List PZ) (bk : Bool) (N H f : Int) : Option AV := chk (fitA h h no n S D O X N H) (odB h n no X bk N H (oAk X n h f S D O))
def odZ (n : Nat) (X : List PZ) (bk : Bool) (f H N : Int) : Option AV :=
  chk (mkOk H) (chk (mkOk H) (chk (mkOk N) (chk (inX 0 n) (chk (inX 0 N.toNat)
    (odA H.toNat n N.toNat X (List.replicate H.toNat (0, 0)) (List.replicate H.toNat (0, 0)) ((List.replicate N.toNat (0, 0)).set 0 ((gp X 0).1, (gp X 0).2)) bk N H f)))))
theorem run_odd (f : Int) (n : Nat) (X : List PZ) (bk : Bool) : callM (env Tryz.f37.ntmps orcOdd [(0, leA0), (2, leB2)]) (bodyC Tryz.f37) Tryz.f37.results.toList [.rf 64 (.st [.int .u8 f]), .sl (.prs n .u64 X), .bool bk] some =
    odZ n X bk f (w64 ((w64 ((n : Int) - 1)).tdiv 2)) n := by kernel_rfl
theorem okL_rep (n : Nat) : okL (List.replicate n (0, 0)) = true := okL_iff.2 fun x hx => by rw [(List.mem_replicate.1 hx).2]; exact okPr_zero
theorem mkOk_at {n : Nat} (h : n ≤ 1000) : mkOk (n : Int) = true := by
  unfold mkOk
  rw [beq_self_eq_true, decide_eq_true (show (0 : Int) ≤ n by omega), decide_eq_true (show (16 : Int) * n ≤ 140737488355328 by omega), decide_eq_true (show (n : Int) < 9223372036854775808 by omega)]
  rfl
theorem ok_odd : EntOk Tryz.prog 37 (entM false sp_odd) := by
  refine contractMS (orc := orcOdd) (lo := [(0, leA0), (2, leB2)]) Tryz.func37 (orc_cons ok_fAdd (orc_cons ok_fSub (orc_cons ok_did (orc_cons ok_cTurn (orc_cons ok_cMore (orc_cons ok_tRootG orc_nil)))))) (by kernel_rfl) (by kernel_rfl) (by kernel_rfl)
    (loops_two (id := 0) (id' := 2) (y := .loop (loopOf 0 (bodyC Tryz.f37))) (y' := .loop (loopOf 2 (bodyC Tryz.f37))) (by kernel_rfl)
      (loopS (le := leA0) (orc := orcOdd) (lo' := []) (orc_cons ok_fAdd (orc_cons ok_fSub (orc_cons ok_did (orc_cons ok_cTurn (orc_cons ok_cMore (orc_cons ok_tRootG orc_nil)))))) (by kernel_rfl) rfl (loops_none (by kernel_rfl)) stepA0 (fun R vs k1 k2 r h => ?_) go_A0)
      (loopS (le := leB2) (orc := orcOdd) (lo' := [(4, leI4)]) (orc_cons ok_fAdd (orc_cons ok_fSub (orc_cons ok_did (orc_cons ok_cTurn (orc_cons ok_cMore (orc_cons ok_tRootG orc_nil)))))) (by kernel_rfl) rfl
        (loops_one (id := 4) (y := .loop (loopOf 4 (bodyC Tryz.f37))) (by kernel_rfl)
          (loopS (le := leI4) (orc := orcOdd) (lo' := []) (orc_cons ok_fAdd (orc_cons ok_fSub (orc_cons ok_did (orc_cons ok_cTurn (orc_cons ok_cMore (orc_cons ok_tRootG orc_nil)))))) (by kernel_rfl) rfl (loops_none (by kernel_rfl)) stepI4 (fun R vs k1 k2 r h => ?_) go_I4))
        stepB2 (fun R vs k1 k2 r h => ?_) go_B2)) fun args r cs h => ?_
  · have h0 := h
    unfold stepA0 at h
    split at h
    · exact (step_A0 R _ _ _ _ _ _ _ _ _ _ _ _ _ _ k1 k2).trans h0
    · cases h
  · have h0 := h
    unfold stepI4 at h
    split at h
    · exact (step_I4 R _ _ _ _ _ _ _ _ _ _ _ _ _ _ _ _ _ _ _ k1 k2).trans h0
    · cases h
  · have h0 := h
    unfold stepB2 at h
    split at h
    · exact (step_B2 R _ _ _ _ _ _ _ _ _ _ _ _ _ k1 k2).trans h0
    · cases h
  · unfold sp_odd at h
    split at h
    · rename_i f n X bk
      simp only [Option.some.injEq, Prod.mk.injEq] at h
      obtain ⟨hg, rfl, rfl⟩ := h
      unfold fitO at hg
      rw [stk_eq] at hg
      simp only [Bool.and_eq_true, decide_eq_true_eq] at hg
      obtain ⟨⟨h1, h2, h3, hl⟩, hX⟩ := hg
      refine ⟨by kernel_rfl, .inr rfl, (run_odd f n X bk).trans ?_⟩
      have e1 : w64 ((w64 ((n : Int) - 1)).tdiv 2) = (((n - 1) / 2 : Nat) : Int) := by
        rw [w64_mid (x := (n : Int) - 1) (by omega) (by omega), show (n : Int) - 1 = ((n - 1 : Nat) : Int) by omega, Int.tdiv_eq_ediv_of_nonneg (by omega), w64_mid (by omega) (by omega)]
        omega
      rw [e1]
      obtain ⟨h, hh⟩ : ∃ h, (n - 1) / 2 = h := ⟨_, rfl⟩
      have h2n : 2 * h < n := by omega
      unfold odZ oddK oddR oddSf
      rw [stk_eq, hh, mkOk_at (show h ≤ 1000 by omega), mkOk_at (show n ≤ 1000 by omega), Int.toNat_natCast, Int.toNat_natCast, show inX 0 n = true from inX_at (show 0 < n by omega), pzE]
      simp only [chk, cond_true]
      have hO : okL ((List.replicate n (0, 0)).set 0 (gp X 0)) = true := okL_set (okL_rep n) 0 (gp_ok hX 0)
      have lr : ∀ m : Nat, (List.replicate m ((0 : Int), (0 : Int))).length = m := fun m => List.length_replicate
      have lO : ((List.replicate n ((0 : Int), (0 : Int))).set 0 (gp X 0)).length = n := by rw [List.length_set]; exact lr n
      have hA := oA_ok (n := n) (h := h) hX h 0 (f, List.replicate h (0, 0), List.replicate h (0, 0), (List.replicate n (0, 0)).set 0 (gp X 0)) (okL_rep h) (okL_rep h) hO (lr h) (lr h) lO (by omega)
      unfold odA odB oAk
      rw [stk_eq]
      generalize oA X n h 0 (f, List.replicate h (0, 0), List.replicate h (0, 0), (List.replicate n (0, 0)).set 0 (gp X 0)) = s at hA ⊢
      obtain ⟨a1, a2, a3, a4, a5, a6⟩ := hA
      have fA : fitA h h n n (List.replicate h (0, 0)) (List.replicate h (0, 0)) ((List.replicate n (0, 0)).set 0 (gp X 0)) X (n : Int) (h : Int) = true := by
        unfold fitA
        rw [stk_eq, decide_eq_true ⟨rfl, rfl, rfl, rfl, lr h, lr h, lO, hl, h2n, by omega⟩, hX, hO]
        rfl
      have fB : fitB h h n n s.2.1 s.2.2.1 s.2.2.2 X (n : Int) (h : Int) = true := by
        unfold fitB
        rw [stk_eq, decide_eq_true ⟨rfl, rfl, rfl, rfl, a4, a5, a6, hl, h2n, by omega⟩, hX, a1, a2]
        rfl
      rw [fA, fB]
      unfold odE oBk
      rw [stk_eq]
      rfl
    · cases h

/-! ### Can, Little -/
def canN (n : Int) : Bool := decide (n = 2 ∨ n = 3 ∨ n = 4 ∨ n = 5 ∨ n = 7 ∨ n = 11 ∨ n = 13)
def canK (n : Int) : Bool := stk (canN n)
def sp_can : List AV → Option (Bool × AV)
  | [.int .i64 n] => some (true, .bool (canK n))
  | _ => none
def ofc (c : Bool) (e : Option AV) : Option AV := bif c then (bif c then some (.bool true) else some (.bool false)) else e
theorem run_can (n : Int) : callA (env Tryz.f15.ntmps [] []) (bodyC Tryz.f15) Tryz.f15.results.toList (slots 0 [.int .i64 n]) some =
    ofc (n == 2) (ofc (n == 3) (ofc (n == 4) (ofc (n == 5) (ofc (n == 7) (ofc (n == 11) (bif n == 13 then some (.bool true) else some (.bool false)))))) ) := by kernel_rfl
theorem ok_can : EntOk Tryz.prog 15 (entS false sp_can) := by
  refine contractS (orc := []) (lo := []) Tryz.func15 orc_nil (by kernel_rfl) (by kernel_rfl) (by kernel_rfl) (loops_none (by kernel_rfl)) fun args r h => ?_
  unfold sp_can at h
  split at h
  · rename_i n
    simp only [Option.some.injEq, Prod.mk.injEq] at h
    obtain ⟨-, rfl⟩ := h
    refine ⟨by kernel_rfl, .inr rfl, (run_can n).trans ?_⟩
    unfold canK
    rw [stk_eq]
    by_cases h2 : n = 2
    · subst h2; rfl
    by_cases h3 : n = 3
    · subst h3; rfl
    by_cases h4 : n = 4
    · subst h4; rfl
    by_cases h5 : n = 5
    · subst h5; rfl
    by_cases h7 : n = 7
    · subst h7; rfl
    by_cases h11 : n = 11
    · subst h11; rfl
    by_cases h13 : n = 13
    · subst h13; rfl
    rw [beq_eq_false_iff_ne.2 h2, beq_eq_false_iff_ne.2 h3, beq_eq_false_iff_ne.2 h4, beq_eq_false_iff_ne.2 h5, beq_eq_false_iff_ne.2 h7, beq_eq_false_iff_ne.2 h11, beq_eq_false_iff_ne.2 h13]
    unfold canN
    rw [decide_eq_false (by omega)]
    rfl
  · cases h
def litR (X : List PZ) (bk : Bool) (n : Nat) : BS :=
  if n = 2 then (orI .u8 (orI .u8 0 (cAddF (gp X 0) (gp X 1))) (cSubF (gp X 0) (gp X 1)), [cAdd (gp X 0) (gp X 1), cSub (gp X 0) (gp X 1)])
  else if n = 4 then (orL 0 (fourG (gp X 0) (gp X 1) (gp X 2) (gp X 3) bk), four4 (gp X 0) (gp X 1) (gp X 2) (gp X 3) bk)
  else oddR X bk n 0
def litK (X : List PZ) (bk : Bool) (n : Nat) : BS := stk (litR X bk n)
def fitX (n : Nat) (X : List PZ) : Bool := stk (decide (X.length = n)) && okL X
def sp_lit : List AV → Option Br
  | [.sl (.prs n .u64 X), .bool bk] => some (.chk (fitX n X) (.br (!(canK n)) (.leaf (.tup [.nils, .int .u8 0, .iface 59 (.int .i64 1)])) (.leaf (.tup [.osl 44 (.prs n .u64 (litK X bk n).2), .int .u8 (litK X bk n).1, .nili]))))
  | _ => none
def orcLit : List (FuncId × Ent) := [(34, entM false sp_fAdd), (35, entM false sp_fSub), (36, entM false sp_four), (37, entM false sp_odd), (15, entS false sp_can)]
def litT (n : Nat) (X : List PZ) (f : Int) : Option AV := some (.tup [.osl 44 (.prs n .u64 X), .int .u8 f, .nili])
theorem run_lit (n : Nat) (X : List PZ) (bk : Bool) : callA (env Tryz.f13.ntmps orcLit []) (bodyC Tryz.f13) Tryz.f13.results.toList (slots 0 [.sl (.prs n .u64 X), .bool bk]) some =
    bif !(canK n) then some (.tup [.nils, .int .u8 0, .iface 59 (.int .i64 1)]) else bif (n : Int) == 2 then
      chk (inX 0 n) (chk (inX 1 n) (chk (okPr (gp X 0) && okPr (gp X 1)) (chk (inX 0 n) (chk (inX 1 n) (chk (okPr (gp X 0) && okPr (gp X 1)) (litT 2 [((cAdd (gp X 0) (gp X 1)).1, (cAdd (gp X 0) (gp X 1)).2), ((cSub (gp X 0) (gp X 1)).1, (cSub (gp X 0) (gp X 1)).2)] (orI .u8 (orI .u8 0 (cAddF (gp X 0) (gp X 1))) (cSubF (gp X 0) (gp X 1)))))))))
    else bif (n : Int) == 4 then chk (fitN n X 4) (litT 4 (four_ X bk) (fourF_ X bk 0)) else chk (fitO n X) (litT n (oddK X bk n 0).2 (oddK X bk n 0).1) := by kernel_rfl
theorem ok_lit : EntOk Tryz.prog 13 (entB false sp_lit) := by
  refine contractB (orc := orcLit) (lo := []) Tryz.func13 (orc_cons ok_fAdd (orc_cons ok_fSub (orc_cons ok_four (orc_cons ok_odd (orc_cons ok_can orc_nil))))) (by kernel_rfl) (by kernel_rfl) (by kernel_rfl) (loops_none (by kernel_rfl)) fun args t h => ?_
  unfold sp_lit at h
  split at h
  · rename_i n X bk
    simp only [Option.some.injEq] at h
    subst h
    refine ⟨by kernel_rfl, .inr rfl, fun z hz => (run_lit n X bk).trans ?_⟩
    simp only [Br.run] at hz
    obtain ⟨hg, hz⟩ := chk_some hz
    rw [← hz]
    unfold fitX at hg
    rw [stk_eq] at hg
    simp only [Bool.and_eq_true, decide_eq_true_eq] at hg
    obtain ⟨hl, hX⟩ := hg
    by_cases hc : canK n = true
    · rw [hc]
      unfold canK canN at hc
      rw [stk_eq, decide_eq_true_eq] at hc
      simp only [Bool.not_true, cond_false]
      unfold litK litR
      rw [stk_eq]
      by_cases h2 : n = 2
      · subst h2
        rw [if_pos rfl, show inX 0 2 = true from rfl, show inX 1 2 = true from rfl, gp_ok hX 0, gp_ok hX 1]
        rfl
      · rw [if_neg h2, beq_eq_false_iff_ne.2 (show (n : Int) ≠ 2 by omega)]
        by_cases h4 : n = 4
        · subst h4
          have : fitN 4 X 4 = true := by unfold fitN; rw [stk_eq, decide_eq_true ⟨rfl, hl⟩, hX]; rfl
          rw [if_pos rfl, this]
          unfold four_ fourF_
          rw [stk_eq, stk_eq]
          rfl
        · have : fitO n X = true := by unfold fitO; rw [stk_eq, decide_eq_true ⟨by omega, by omega, by omega, hl⟩, hX]; rfl
          rw [if_neg h4, beq_eq_false_iff_ne.2 (show (n : Int) ≠ 4 by omega), this]
          unfold oddK
          rw [stk_eq]
          rfl
    · have hc' : canK n = false := by cases h : canK n with
        | false => rfl
        | true => exact absurd h hc
      rw [hc']
      rfl
  · cases h
end
end Go.Proofs.YtbakldcbaikgpaaGreatDoor
