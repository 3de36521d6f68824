/- scale: Log, Step, Scale; tillerlaw09.sure; ScaleNexts. Own work. -/
import Derived.Test.YtdkebceiljdgjaaRef1
namespace Go.Proofs.Ytdkebceiljdgjaa
set_option maxRecDepth 100000
noncomputable section

/-! ### Log -/
def lgPN (p : Nat) : Nat := if infN < absN p then nanC else if absN p = infN then infN else if absN p = 0 then 18442240474082181120 else rndP (decide (powN p < 0)) (powN p).natAbs 0 0
def lgFN (p : Nat) : Nat := if infN < absN p then noFN p else if absN p = infN then 0 else if absN p = 0 then 2 else rndF (decide (powN p < 0)) (powN p).natAbs 0 0
def lgP (p : Nat) : Nat := stk (lgPN p)
def lgF (p : Nat) : Nat := stk (lgFN p)
def sp_log : List AV → Option (Bool × AV)
  | [.int .u64 p] => some (inU p, .tup [.int .u64 ((lgP p.toNat : Nat) : Int), .int .u8 ((lgF p.toNat : Nat) : Int)])
  | _ => none

def orcLog : List (FuncId × Ent) := [(78, entS false sp_isNaN), (79, entS false sp_none), (80, entS false sp_pAbs), (83, entS false sp_pNeg), (84, entS false sp_power), (68, entS false sp_wOf), (22, entS false sp_round)]
def lgZ (n : Int) (v : Int) : Option AV := chk (inU v) (chk (okW (toW v.toNat)) (some (.tup [.int .u64 ((pR (decide (n < 0)) (toW v.toNat) 0 false 0 : Nat) : Int), .int .u8 ((fR (decide (n < 0)) (toW v.toNat) 0 false 0 : Nat) : Int)])))

theorem run_log (p : Int) : callA (env Try.f37.ntmps orcLog []) (bodyC Try.f37) Try.f37.results.toList (slots 0 [.int .u64 p]) some =
    chk (inU p) (bif nanB p.toNat then chk (inU p) (some (.tup [.int .u64 9221120237041090560, .int .u8 ((noF p.toNat : Nat) : Int)])) else chk (inU p) (bif ((absN p.toNat : Nat) : Int) == 9218868437227405312 then some (.tup [.int .u64 9218868437227405312, .int .u8 0]) else
      chk (inU p) (bif ((absN p.toNat : Nat) : Int) == 0 then chk (inU 9218868437227405312) (some (.tup [.int .u64 ((negN (9218868437227405312 : Int).toNat : Nat) : Int), .int .u8 2])) else
      chk (inU p) (lgZ (powI p.toNat) (u64 (if (w64 (0 - (powI p.toNat))) > (powI p.toNat) then (w64 (0 - (powI p.toNat))) else (powI p.toNat))))))) := by kernel_rfl

theorem pow_range (p : Nat) : -1075 ≤ powN p ∧ powN p ≤ 1030 := by
  have h1 := ex_range p
  have h2 := len_sig p
  unfold powN
  omega

theorem lgZ_at (p : Nat) : lgZ (powN p) (u64 (if (w64 (0 - (powN p))) > (powN p) then (w64 (0 - (powN p))) else (powN p))) = some (.tup [.int .u64 ((rndP (decide (powN p < 0)) (powN p).natAbs 0 0 : Nat) : Int), .int .u8 ((rndF (decide (powN p < 0)) (powN p).natAbs 0 0 : Nat) : Int)]) := by
  have h := pow_range p
  have e1 : (if (w64 (0 - (powN p))) > (powN p) then (w64 (0 - (powN p))) else (powN p)) = ((powN p).natAbs : Int) := by
    rw [w64_mid (by omega) (by omega)]
    omega
  rw [e1, u64_nat (by omega)]
  generalize powN p = n at *
  unfold lgZ pR fR
  have e2 : valW (toW n.natAbs) = n.natAbs := by rw [valW_toW]; exact Nat.mod_eq_of_lt (by omega)
  have e3 : ∀ S, nS S false = S := fun _ => rfl
  have e4 : nE 0 false = 0 := rfl
  rw [inU_iff.2 (by omega), Int.toNat_natCast, okW_toW, stk_eq, stk_eq, e2, e3, e4]
  rfl

theorem eqZ (m k : Nat) : ((m : Int) == ((k : Nat) : Int)) = decide (m = k) := eqN m k

theorem ok_log : EntOk Try.prog 37 (entS false sp_log) := by
  refine contractS (orc := orcLog) (lo := []) Try.func37 (orc_cons ok_isNaN (orc_cons ok_none (orc_cons ok_pAbs (orc_cons ok_pNeg (orc_cons ok_power (orc_cons ok_wOf (orc_cons ok_round orc_nil))))))) (by kernel_rfl) (by kernel_rfl) (by kernel_rfl) (loops_none (by kernel_rfl)) fun args r h => ?_
  unfold sp_log at h
  split at h
  · rename_i p
    simp only [Option.some.injEq, Prod.mk.injEq] at h
    obtain ⟨hp, rfl⟩ := h
    refine ⟨by kernel_rfl, .inr rfl, (run_log p).trans ?_⟩
    have hz := lgZ_at p.toNat
    have q1 : (((absN p.toNat : Nat) : Int) == 9218868437227405312) = decide (absN p.toNat = infN) := eqN _ 9218868437227405312
    have q2 : (((absN p.toNat : Nat) : Int) == 0) = decide (absN p.toNat = 0) := eqN _ 0
    have q3 : inU 9218868437227405312 = true := inU_iff.2 (by omega)
    have q4 : negN (9218868437227405312 : Int).toNat = 18442240474082181120 := rfl
    unfold powI nanB noF lgP lgF
    rw [stk_eq, stk_eq, stk_eq, stk_eq, stk_eq, hp, q1, q2, q3, q4, hz]
    unfold lgPN lgFN
    by_cases h1 : infN < absN p.toNat
    · rw [decide_eq_true h1, if_pos h1, if_pos h1]; rfl
    rw [decide_eq_false h1, if_neg h1, if_neg h1]
    by_cases h2 : absN p.toNat = infN
    · rw [decide_eq_true h2, if_pos h2, if_pos h2]; rfl
    rw [decide_eq_false h2, if_neg h2, if_neg h2]
    by_cases h3 : absN p.toNat = 0
    · rw [decide_eq_true h3, if_pos h3, if_pos h3]; rfl
    rw [decide_eq_false h3, if_neg h3, if_neg h3]
    rfl
  · cases h

/-! ### Step -/
def stPN (p : Nat) : Nat := if infN < absN p then nanC else if absN p = infN then infN else if absN p = 0 then 1 else rndP false 1 (max (powN (absN p) - 52) (-1074)) 0
def stFN (p : Nat) : Nat := if infN < absN p then noFN (absN p) else if absN p = infN then 0 else if absN p = 0 then 0 else rndF false 1 (max (powN (absN p) - 52) (-1074)) 0
def stP (p : Nat) : Nat := stk (stPN p)
def stF (p : Nat) : Nat := stk (stFN p)
def sp_step : List AV → Option (Bool × AV)
  | [.int .u64 p] => some (inU p, .tup [.int .u64 ((stP p.toNat : Nat) : Int), .int .u8 ((stF p.toNat : Nat) : Int)])
  | _ => none
def orcStep : List (FuncId × Ent) := [(80, entS false sp_pAbs), (78, entS false sp_isNaN), (79, entS false sp_none), (84, entS false sp_power), (68, entS false sp_wOf), (22, entS false sp_round)]
def stZ (n : Int) : Option AV := chk (inU 1) (chk (okW (toW (1 : Int).toNat)) (some (.tup [.int .u64 ((pR false (toW (1 : Int).toNat) (if (-1074) > (w64 (n - 52)) then (-1074) else (w64 (n - 52))) false 0 : Nat) : Int), .int .u8 ((fR false (toW (1 : Int).toNat) (if (-1074) > (w64 (n - 52)) then (-1074) else (w64 (n - 52))) false 0 : Nat) : Int)])))
def stY (a : Int) : Option AV := chk (inU a) (bif nanB a.toNat then chk (inU a) (some (.tup [.int .u64 9221120237041090560, .int .u8 ((noF a.toNat : Nat) : Int)])) else bif a == 9218868437227405312 then some (.tup [.int .u64 a, .int .u8 0]) else bif a == 0 then some (.tup [.int .u64 1, .int .u8 0]) else chk (inU a) (stZ (powI a.toNat)))

theorem run_step (p : Int) : callA (env Try.f39.ntmps orcStep []) (bodyC Try.f39) Try.f39.results.toList (slots 0 [.int .u64 p]) some =
    chk (inU p) (stY ((absN p.toNat : Nat) : Int)) := by kernel_rfl

theorem stZ_at (n : Int) (h : -2000 ≤ n ∧ n ≤ 2000) : stZ n = some (.tup [.int .u64 ((rndP false 1 (max (n - 52) (-1074)) 0 : Nat) : Int), .int .u8 ((rndF false 1 (max (n - 52) (-1074)) 0 : Nat) : Int)]) := by
  have e1 : (if (-1074) > (w64 (n - 52)) then (-1074) else (w64 (n - 52))) = max (n - 52) (-1074) := by
    rw [w64_mid (by omega) (by omega)]
    omega
  unfold stZ pR fR
  rw [e1, valW_toW, inU_one, okW_toW, stk_eq, stk_eq]
  rfl

theorem abs_lt (p : Nat) : absN p < 9223372036854775808 := Nat.mod_lt _ (by decide)
theorem abs_abs (p : Nat) : absN (absN p) = absN p := Nat.mod_mod _ _

theorem ok_step : EntOk Try.prog 39 (entS false sp_step) := by
  refine contractS (orc := orcStep) (lo := []) Try.func39 (orc_cons ok_pAbs (orc_cons ok_isNaN (orc_cons ok_none (orc_cons ok_power (orc_cons ok_wOf (orc_cons ok_round orc_nil)))))) (by kernel_rfl) (by kernel_rfl) (by kernel_rfl) (loops_none (by kernel_rfl)) fun args r h => ?_
  unfold sp_step at h
  split at h
  · rename_i p
    simp only [Option.some.injEq, Prod.mk.injEq] at h
    obtain ⟨hp, rfl⟩ := h
    refine ⟨by kernel_rfl, .inr rfl, (run_step p).trans ?_⟩
    have ha := abs_abs p.toNat
    have hl := abs_lt p.toNat
    have hz := stZ_at (powN (absN p.toNat)) (by have := pow_range (absN p.toNat); omega)
    unfold stP stF stPN stFN
    rw [hp]
    generalize absN p.toNat = a at *
    have q1 : ((a : Int) == 9218868437227405312) = decide (a = infN) := eqN _ 9218868437227405312
    have q2 : ((a : Int) == 0) = decide (a = 0) := eqN _ 0
    have q3 : inU (a : Int) = true := inU_iff.2 (by omega)
    unfold stY nanB noF powI
    rw [Int.toNat_natCast, stk_eq, stk_eq, stk_eq, stk_eq, stk_eq, ha, q1, q2, q3, hz]
    by_cases h1 : infN < a
    · rw [decide_eq_true h1, if_pos h1, if_pos h1]; rfl
    rw [decide_eq_false h1, if_neg h1, if_neg h1]
    by_cases h2 : a = infN
    · rw [decide_eq_true h2, if_pos h2, if_pos h2, h2]; rfl
    rw [decide_eq_false h2, if_neg h2, if_neg h2]
    by_cases h3 : a = 0
    · rw [decide_eq_true h3, if_pos h3, if_pos h3]; rfl
    rw [decide_eq_false h3, if_neg h3, if_neg h3]
    rfl
  · cases h

/-! ### Scale -/
def scPN (p : Nat) (n k : Int) : Nat := if infN < absN p then nanC else if absN p = infN ∨ absN p = 0 then p else rndP (decide (9223372036854775808 ≤ p)) (sigN p) (exN p + clampI 8192 n) k
def scFN (p : Nat) (n k : Int) : Nat := if infN < absN p then noFN p else if absN p = infN ∨ absN p = 0 then 0 else rndF (decide (9223372036854775808 ≤ p)) (sigN p) (exN p + clampI 8192 n) k
def scP (p : Nat) (n k : Int) : Nat := stk (scPN p n k)
def scF (p : Nat) (n k : Int) : Nat := stk (scFN p n k)
def sp_scale : List AV → Option (Bool × AV)
  | [.int .u64 p, .int .i64 n, .int .i64 k] => some (inU p, .tup [.int .u64 ((scP p.toNat n k : Nat) : Int), .int .u8 ((scF p.toNat n k : Nat) : Int)])
  | _ => none
def orcScale : List (FuncId × Ent) := [(88, entB false sp_rOf), (78, entS false sp_isNaN), (79, entS false sp_none), (80, entS false sp_pAbs), (22, entS false sp_round)]
def scZ (p : Int) (x k : Int) : Option AV := chk (okW (toW (tS p.toNat))) (some (.tup [.int .u64 ((pR (tM p.toNat) (toW (tS p.toNat)) x false k : Nat) : Int), .int .u8 ((fR (tM p.toNat) (toW (tS p.toNat)) x false k : Nat) : Int)]))
theorem run_scale (p n k : Int) : callA (env Try.f41.ntmps orcScale []) (bodyC Try.f41) Try.f41.results.toList (slots 0 [.int .u64 p, .int .i64 n, .int .i64 k]) some =
    chk (inU p) (bif finB p.toNat then chk (inU p) (bif nanB p.toNat then chk (inU p) (some (.tup [.int .u64 9221120237041090560, .int .u8 ((noF p.toNat : Nat) : Int)])) else chk (inU p) (bif ((absN p.toNat : Nat) : Int) == 0 then some (.tup [.int .u64 p, .int .u8 0]) else
        scZ p (w64 ((tX p.toNat) + (if 8192 < (if (-8192) > n then (-8192) else n) then 8192 else (if (-8192) > n then (-8192) else n)))) k))
      else chk (inU p) (bif nanB p.toNat then chk (inU p) (some (.tup [.int .u64 9221120237041090560, .int .u8 ((noF p.toNat : Nat) : Int)])) else some (.tup [.int .u64 p, .int .u8 0]))) := by kernel_rfl

theorem scZ_at (p : Int) (n k : Int) : scZ p (w64 ((tX p.toNat) + (if 8192 < (if (-8192) > n then (-8192) else n) then 8192 else (if (-8192) > n then (-8192) else n)))) k =
    some (.tup [.int .u64 ((rndP (decide (9223372036854775808 ≤ p.toNat)) (sigN p.toNat) (exN p.toNat + clampI 8192 n) k : Nat) : Int), .int .u8 ((rndF (decide (9223372036854775808 ≤ p.toNat)) (sigN p.toNat) (exN p.toNat + clampI 8192 n) k : Nat) : Int)]) := by
  have e1 : (if 8192 < (if (-8192) > n then (-8192) else n) then 8192 else (if (-8192) > n then (-8192) else n)) = clampI 8192 n := by unfold clampI; split <;> split at * <;> omega
  have hc : -8192 ≤ clampI 8192 n ∧ clampI 8192 n ≤ 8192 := by unfold clampI; omega
  have hx := ex_range p.toNat
  have e3 : ∀ S, nS S false = S := fun _ => rfl
  have e4 : ∀ S, nE S false = S := fun _ => rfl
  unfold scZ pR fR tM tX tS
  rw [stk_eq, stk_eq, stk_eq, stk_eq, stk_eq, e1, w64_mid (by omega) (by omega), valW_sig, okW_toW, e3, e4]
  rfl

theorem ok_scale : EntOk Try.prog 41 (entS false sp_scale) := by
  refine contractS (orc := orcScale) (lo := []) Try.func41 (orc_cons ok_rOf (orc_cons ok_isNaN (orc_cons ok_none (orc_cons ok_pAbs (orc_cons ok_round orc_nil))))) (by kernel_rfl) (by kernel_rfl) (by kernel_rfl) (loops_none (by kernel_rfl)) fun args r h => ?_
  unfold sp_scale at h
  split at h
  · rename_i p n k
    simp only [Option.some.injEq, Prod.mk.injEq] at h
    obtain ⟨hp, rfl⟩ := h
    obtain ⟨m, rfl, hm⟩ := nat_of hp
    refine ⟨by kernel_rfl, .inr rfl, (run_scale m n k).trans ?_⟩
    have q2 : (((absN (m : Int).toNat : Nat) : Int) == 0) = decide (absN (m : Int).toNat = 0) := eqN _ 0
    rw [scZ_at, hp, q2, Int.toNat_natCast]
    unfold finB nanB noF scP scF
    rw [stk_eq, stk_eq, stk_eq, stk_eq, stk_eq]
    unfold scPN scFN
    by_cases h1 : infN < absN m
    · have h2 : ¬ absN m < infN := by omega
      rw [decide_eq_true h1, decide_eq_false h2, if_pos h1, if_pos h1]; rfl
    · rw [decide_eq_false h1, if_neg h1, if_neg h1]
      by_cases h2 : absN m < infN
      · rw [decide_eq_true h2]
        by_cases h3 : absN m = 0
        · rw [decide_eq_true h3, if_pos (.inr h3), if_pos (.inr h3)]; rfl
        · have h4 : ¬ (absN m = infN ∨ absN m = 0) := by omega
          rw [decide_eq_false h3, if_neg h4, if_neg h4]; rfl
      · have h4 : absN m = infN ∨ absN m = 0 := by omega
        rw [decide_eq_false h2, if_pos h4, if_pos h4]; rfl
  · cases h

/-! ### sure -/
def orcSure9 : List (FuncId × Ent) := [(32, entS false sp_up9), (37, entS false sp_log)]
def s9T (p f q g : Nat) : Option AV := bif (p : Int) == 4607182418800017409 then bif (f : Int) == 0 then bif (q : Int) == 4613937818241073152 then some (.bool ((g : Int) == 0)) else some (.bool false) else some (.bool false) else some (.bool false)
theorem run_sure9 : callA (env Try.f36.ntmps orcSure9 []) (bodyC Try.f36) Try.f36.results.toList (slots 0 []) some =
    chk (inU 4607182418800017408) (chk (inU 4621819117588971520) (s9T (upP (4607182418800017408 : Int).toNat) (upF (4607182418800017408 : Int).toNat) (lgP (4621819117588971520 : Int).toNat) (lgF (4621819117588971520 : Int).toNat))) := by kernel_rfl
theorem sure9_vals : upPN 4607182418800017408 = 4607182418800017409 ∧ upFN 4607182418800017408 = 0 ∧ lgPN 4621819117588971520 = 4613937818241073152 ∧ lgFN 4621819117588971520 = 0 := by decide +kernel
theorem ok_sure9 : EntOk Try.prog 36 (entS false sp_true) := by
  refine contractS (orc := orcSure9) (lo := []) Try.func36 (orc_cons ok_up9 (orc_cons ok_log orc_nil)) (by kernel_rfl) (by kernel_rfl) (by kernel_rfl) (loops_none (by kernel_rfl)) fun args r h => ?_
  unfold sp_true at h
  split at h
  · simp only [Option.some.injEq, Prod.mk.injEq] at h
    obtain ⟨-, rfl⟩ := h
    refine ⟨by kernel_rfl, .inr rfl, run_sure9.trans ?_⟩
    obtain ⟨h1, h2, h3, h4⟩ := sure9_vals
    unfold upP upF lgP lgF
    rw [stk_eq, stk_eq, stk_eq, stk_eq, show (4607182418800017408 : Int).toNat = 4607182418800017408 from rfl, show (4621819117588971520 : Int).toNat = 4621819117588971520 from rfl, h1, h2, h3, h4, inU_iff.2 (by omega), inU_iff.2 (by omega)]
    rfl
  · cases h

/-! ### ScaleNexts -/
def orcNexts : List (FuncId × Ent) := [(32, entS false sp_up9), (33, entS false sp_rUp), (34, entS false sp_dn9), (35, entS false sp_rDn), (36, entS false sp_true)]
def nxT (b : Bool) (t : Option AV) : Option AV := bif b then t else some (.bool false)
def nxL (p f q g r h s i : Nat) : Option AV := nxT ((p : Int) == (q : Int)) (nxT (w64 (f : Int) == (g : Int)) (nxT ((r : Int) == (s : Int)) (nxT (w64 (h : Int) == (i : Int)) (some (.bool true)))))
theorem run_nexts (p : Int) : callA (env Try.f9.ntmps orcNexts []) (bodyC Try.f9) Try.f9.results.toList (slots 0 [.int .u64 p]) some =
    chk (inU p) (chk (inU p) (chk (inU p) (chk (inU p) (nxL (upP p.toNat) (upF p.toNat) (upP p.toNat) (upF p.toNat) (dnP p.toNat) (upF p.toNat) (dnP p.toNat) (upF p.toNat))))) := by kernel_rfl

def sp_law1 : List AV → Option (Bool × AV)
  | [.int .u64 p] => some (inU p, .bool true)
  | _ => none
theorem upF_small (p : Nat) : w64 ((upF p : Nat) : Int) = (upF p : Nat) := by
  have : upF p ≤ 1 := by
    unfold upF
    rw [stk_eq]
    unfold upFN noFN
    split
    · split <;> omega
    · omega
  exact w64_mid (by omega) (by omega)
theorem ok_nexts : EntOk Try.prog 9 (entS false sp_law1) := by
  refine contractS (orc := orcNexts) (lo := []) Try.func9 (orc_cons ok_up9 (orc_cons ok_rUp (orc_cons ok_dn9 (orc_cons ok_rDn (orc_cons ok_sure9 orc_nil))))) (by kernel_rfl) (by kernel_rfl) (by kernel_rfl) (loops_none (by kernel_rfl)) fun args r h => ?_
  unfold sp_law1 at h
  split at h
  · rename_i p
    simp only [Option.some.injEq, Prod.mk.injEq] at h
    obtain ⟨hp, rfl⟩ := h
    refine ⟨by kernel_rfl, .inr rfl, (run_nexts p).trans ?_⟩
    unfold nxL nxT
    rw [hp, upF_small, beq_self_eq_true, beq_self_eq_true, beq_self_eq_true]
    rfl
  · cases h
end
end Go.Proofs.Ytdkebceiljdgjaa
