/- The texts Turn1, Turn2, TurnN, TurnB, joined. Own work. -/
import Derived.Test.YtbakldcbaikgpaaGreatDoorFixA
import Derived.Test.YtbakldcbaikgpaaGreatDoorRndA
import Derived.Test.YtbakldcbaikgpaaGreatDoorNumA
/- turn: points of a circle. Own work. -/
namespace Go.Proofs.YtbakldcbaikgpaaGreatDoor
set_option maxRecDepth 100000
noncomputable section
/-! ### angle, rounded -/
def okT (o n : Int) : Bool := stk (decide (0 ≤ o ∧ o ≤ n ∧ 1 ≤ n ∧ n ≤ 67108864))
theorem okT_iff {o n : Int} : okT o n = true ↔ 0 ≤ o ∧ o ≤ n ∧ 1 ≤ n ∧ n ≤ 67108864 := by unfold okT; rw [stk_eq, decide_eq_true_iff]
def angV (o n : Int) : Nat := stk (angF o.toNat n.toNat)
def sp_tAngle : List AV → Option (Bool × AV)
  | [.int .i64 o, .int .i64 n] => some (okT o n, .ints 4 .u64 (toW (angV o n)))
  | _ => none
def orcAng : List (FuncId × Ent) := [(159, entS false sp_fOf), (160, entS false sp_fPi), (110, entS false sp_wShr), (156, entS false sp_fMul)]
theorem run_tAngle (o n : Int) : callA (env Tryz.f149.ntmps orcAng []) (bodyC Tryz.f149) Tryz.f149.results.toList (slots 0 [.int .i64 o, .int .i64 n]) some =
    chk (inU (u64 o) && inU (u64 n) && stk (decide (0 < u64 n ∧ (u64 o).toNat / (u64 n).toNat < 256))) (chk (okW (toW piF)) (chk (okW (toW (divOf (u64 o).toNat (u64 n).toNat)) && okW (toW (valW (toW piF) / 2 ^ (2 : Int).toNat)))
      (some (.ints 4 .u64 (toW (stk (mulF (valW (toW (divOf (u64 o).toNat (u64 n).toNat))) (valW (toW (valW (toW piF) / 2 ^ (2 : Int).toNat)))))))))) := by kernel_rfl
theorem ok_tAngle : EntOk Tryz.prog 149 (entS false sp_tAngle) := by
  refine contractS (orc := orcAng) (lo := []) Tryz.func149 (orc_cons ok_fOf (orc_cons ok_fPi (orc_cons ok_wShr (orc_cons ok_fMul orc_nil)))) (by kernel_rfl) (by kernel_rfl) (by kernel_rfl) (loops_none (by kernel_rfl)) fun args r h => ?_
  unfold sp_tAngle at h
  split at h
  · rename_i o n
    simp only [Option.some.injEq, Prod.mk.injEq] at h
    obtain ⟨hg, rfl⟩ := h
    obtain ⟨h1, h2, h3, h4⟩ := okT_iff.1 hg
    obtain ⟨o, rfl⟩ : ∃ m : Nat, o = m := ⟨o.toNat, (Int.toNat_of_nonneg h1).symm⟩
    obtain ⟨n, rfl⟩ : ∃ m : Nat, n = m := ⟨n.toNat, (Int.toNat_of_nonneg (by omega)).symm⟩
    refine ⟨by kernel_rfl, .inr rfl, (run_tAngle o n).trans ?_⟩
    have e1 : u64 (o : Int) = o := u64_of rfl (by omega)
    have e2 : u64 (n : Int) = n := u64_of rfl (by omega)
    have hq : o / n ≤ 1 := by
      have : o / n < 2 := (Nat.div_lt_iff_lt_mul (by omega)).2 (by omega)
      omega
    have hd : divOf o n < big2 := by
      unfold divOf
      rw [stk_eq, Nat.div_lt_iff_lt_mul (by omega)]
      have h5 : o * oneF ≤ n * oneF := Nat.mul_le_mul_right _ (by omega)
      have h6 : n * oneF < n * big2 := Nat.mul_lt_mul_of_pos_left (by decide) (by omega)
      rw [Nat.mul_comm big2]
      omega
    have hp : valW (toW piF) = piF := valT (by decide)
    have hp4 : piF / 2 ^ (2 : Int).toNat = piF / 4 := rfl
    have hp5 : valW (toW (piF / 4)) = piF / 4 := valT (Nat.lt_of_le_of_lt (Nat.div_le_self _ _) (by decide))
    rw [e1, e2, Int.toNat_natCast, Int.toNat_natCast, inU_iff.2 (by omega), inU_iff.2 (by omega), stk_eq, decide_eq_true (show 0 < (n : Int) ∧ o / n < 256 by omega), hp, hp4, hp5, valT hd, okW_toW, okW_toW, okW_toW, stk_eq]
    unfold angV angF divOf
    have hm : o * oneF / n % big2 = o * oneF / n := Nat.mod_eq_of_lt (by unfold divOf at hd; rwa [stk_eq] at hd)
    rw [stk_eq, stk_eq, Int.toNat_natCast, Int.toNat_natCast, hm]
    rfl
  · cases h
/-- An angle of an eighth of a turn at most is below 1. -/
theorem ang_le {o n : Nat} (h : o ≤ n) (hn : 0 < n) : angF o n ≤ oneF := by
  unfold angF mulF
  have h1 : o * oneF / n ≤ oneF := by
    rw [Nat.div_le_iff_le_mul_add_pred hn]
    have := Nat.mul_le_mul_right oneF h
    omega
  have h2 : o * oneF / n % big2 ≤ oneF := Nat.le_trans (Nat.mod_le _ _) h1
  have h3 : o * oneF / n % big2 * (piF / 4) ≤ oneF * (piF / 4) := Nat.mul_le_mul_right _ h2
  have h4 : o * oneF / n % big2 * (piF / 4) / oneF ≤ piF / 4 := by
    refine Nat.le_trans (Nat.div_le_div_right h3) ?_
    rw [Nat.mul_div_cancel_left _ (by decide)]
    exact Nat.le_refl _
  refine Nat.le_trans (Nat.mod_le _ _) (Nat.le_trans h4 ?_)
  decide
def rouV (a b : Nat) : Nat := stk (rndP false (nS ((a + b) % big2) true) (nE (-249) true) 0)
def sp_tRounded : List AV → Option (Bool × AV)
  | [.ints 4 .u64 a, .ints 4 .u64 b] => some (okW a && okW b, .int .u64 ((rouV (valW a) (valW b) : Nat) : Int))
  | _ => none
theorem run_tRounded (a b : List Int) : callA (env Tryz.f150.ntmps [(138, entS false sp_wAdd), (71, entS false sp_round)] []) (bodyC Tryz.f150) Tryz.f150.results.toList (slots 0 [.ints 4 .u64 a, .ints 4 .u64 b]) some =
    chk (okW a && okW b) (chk (okW (toW (valW a + valW b))) (some (.int .u64 ((pR false (toW (valW a + valW b)) (-249) true 0 : Nat) : Int)))) := by kernel_rfl
theorem ok_tRounded : EntOk Tryz.prog 150 (entS false sp_tRounded) := by
  refine contractS (orc := [(138, entS false sp_wAdd), (71, entS false sp_round)]) (lo := []) Tryz.func150 (orc_cons ok_wAdd (orc_cons ok_round orc_nil)) (by kernel_rfl) (by kernel_rfl) (by kernel_rfl) (loops_none (by kernel_rfl)) fun args r h => ?_
  unfold sp_tRounded at h
  split at h
  · rename_i a b
    simp only [Option.some.injEq, Prod.mk.injEq] at h
    obtain ⟨hg, rfl⟩ := h
    refine ⟨by kernel_rfl, .inr rfl, (run_tRounded a b).trans ?_⟩
    unfold rouV pR
    rw [hg, okW_toW, stk_eq, stk_eq, valW_toW]
    rfl
  · cases h
/-! ### sine, cosine -/
def sinV (o n : Int) : Int := ((stk (sinF o.toNat n.toNat) : Nat) : Int)
def cosV (o n : Int) : Int := ((stk (cosF o.toNat n.toNat) : Nat) : Int)
def sp_tSine : List AV → Option (Bool × AV)
  | [.int .i64 o, .int .i64 n] => some (okT o n, .int .u64 (sinV o n))
  | _ => none
def sp_tCosine : List AV → Option (Bool × AV)
  | [.int .i64 o, .int .i64 n] => some (okT o n, .int .u64 (cosV o n))
  | _ => none
def orcSi : List (FuncId × Ent) := [(149, entS false sp_tAngle), (148, entS false sp_fSin), (150, entS false sp_tRounded)]
def orcCo : List (FuncId × Ent) := [(149, entS false sp_tAngle), (151, entS false sp_fCos), (150, entS false sp_tRounded)]
def siT (a b : List Int) : Option AV := chk (okW a && okW b) (some (.int .u64 ((rouV (valW a) (valW b) : Nat) : Int)))
theorem run_tSine (o n : Int) : callA (env Tryz.f130.ntmps orcSi []) (bodyC Tryz.f130) Tryz.f130.results.toList (slots 0 [.int .i64 o, .int .i64 n]) some =
    bif o == 0 then some (.int .u64 0) else bif (w64 (3 * o)) == (w64 (2 * n)) then some (.int .u64 4602678819172646912) else chk (okT o n) (chk (okW (toW (angV o n)) && stk (decide (valW (toW (angV o n)) ≤ oneF)))
      (siT (toW (lowV (serV (valW (toW (angV o n))) (stk (mulF (valW (toW (angV o n))) (valW (toW (angV o n))))) 2))) (toW (highV (serV (valW (toW (angV o n))) (stk (mulF (valW (toW (angV o n))) (valW (toW (angV o n))))) 2))))) := by kernel_rfl
theorem run_tCosine (o n : Int) : callA (env Tryz.f131.ntmps orcCo []) (bodyC Tryz.f131) Tryz.f131.results.toList (slots 0 [.int .i64 o, .int .i64 n]) some =
    bif o == 0 then some (.int .u64 4607182418800017408) else chk (okT o n) (chk (okW (toW (angV o n)) && stk (decide (valW (toW (angV o n)) ≤ oneF)))
      (siT (toW (lowV (serV oneF (stk (mulF (valW (toW (angV o n))) (valW (toW (angV o n))))) 1))) (toW (highV (serV oneF (stk (mulF (valW (toW (angV o n))) (valW (toW (angV o n))))) 1))))) := by kernel_rfl
theorem angV_lt (o n : Int) : angV o n < big2 := by unfold angV angF; rw [stk_eq]; exact mulF_lt _ _
theorem lowV_lt {v : Nat} (h : v < big2) : lowV v < big2 := by
  unfold lowV lowF
  rw [stk_eq]
  split
  · decide
  · omega
theorem highV_lt (v : Nat) : highV v < big2 := by unfold highV highF; rw [stk_eq]; exact Nat.mod_lt _ (by decide)
theorem siT_at (v : Nat) (h : v < big2) : siT (toW (lowV v)) (toW (highV v)) = some (.int .u64 ((rouF v : Nat) : Int)) := by
  unfold siT
  rw [okW_toW, okW_toW, valT (lowV_lt h), valT (highV_lt v)]
  unfold rouV lowV highV rouF midF
  rw [stk_eq, stk_eq, stk_eq]
  rfl
theorem ok_tSine : EntOk Tryz.prog 130 (entS false sp_tSine) := by
  refine contractS (orc := orcSi) (lo := []) Tryz.func130 (orc_cons ok_tAngle (orc_cons ok_fSin (orc_cons ok_tRounded orc_nil))) (by kernel_rfl) (by kernel_rfl) (by kernel_rfl) (loops_none (by kernel_rfl)) fun args r h => ?_
  unfold sp_tSine at h
  split at h
  · rename_i o n
    simp only [Option.some.injEq, Prod.mk.injEq] at h
    obtain ⟨hg, rfl⟩ := h
    obtain ⟨h1, h2, h3, h4⟩ := okT_iff.1 hg
    refine ⟨by kernel_rfl, .inr rfl, (run_tSine o n).trans ?_⟩
    have w1 : w64 (3 * o) = 3 * o := w64_mid (by omega) (by omega)
    have w2 : w64 (2 * n) = 2 * n := w64_mid (by omega) (by omega)
    have hle : angV o n ≤ oneF := by unfold angV; rw [stk_eq]; exact ang_le (by omega) (by omega)
    rw [w1, w2, hg, okW_toW, valT (angV_lt o n), stk_eq, decide_eq_true hle, siT_at _ (serV_lt _ _ _)]
    unfold sinV sinF
    simp only [stk_eq]
    by_cases c1 : o = 0
    · subst c1
      rw [if_pos (show (0 : Int).toNat = 0 from rfl)]; rfl
    rw [if_neg (show ¬ o.toNat = 0 by omega), beq_eq_false_iff_ne.2 c1]
    by_cases c2 : 3 * o = 2 * n
    · rw [if_pos (show 3 * o.toNat = 2 * n.toNat by omega), beq_iff_eq.2 c2]; rfl
    · have c3 : ¬ oneF < angF o.toNat n.toNat := by
        have := ang_le (o := o.toNat) (n := n.toNat) (by omega) (by omega)
        omega
      rw [if_neg (show ¬ 3 * o.toNat = 2 * n.toNat by omega), beq_eq_false_iff_ne.2 c2, if_neg c3]
      unfold serV angV
      simp only [stk_eq]
      rfl
  · cases h
theorem ok_tCosine : EntOk Tryz.prog 131 (entS false sp_tCosine) := by
  refine contractS (orc := orcCo) (lo := []) Tryz.func131 (orc_cons ok_tAngle (orc_cons ok_fCos (orc_cons ok_tRounded orc_nil))) (by kernel_rfl) (by kernel_rfl) (by kernel_rfl) (loops_none (by kernel_rfl)) fun args r h => ?_
  unfold sp_tCosine at h
  split at h
  · rename_i o n
    simp only [Option.some.injEq, Prod.mk.injEq] at h
    obtain ⟨hg, rfl⟩ := h
    obtain ⟨h1, h2, h3, h4⟩ := okT_iff.1 hg
    refine ⟨by kernel_rfl, .inr rfl, (run_tCosine o n).trans ?_⟩
    have hle : angV o n ≤ oneF := by unfold angV; rw [stk_eq]; exact ang_le (by omega) (by omega)
    rw [hg, okW_toW, valT (angV_lt o n), stk_eq, decide_eq_true hle, siT_at _ (serV_lt _ _ _)]
    unfold cosV cosF
    simp only [stk_eq]
    by_cases c1 : o = 0
    · subst c1
      rw [if_pos (show (0 : Int).toNat = 0 from rfl)]; rfl
    have c3 : ¬ oneF < angF o.toNat n.toNat := by
      have := ang_le (o := o.toNat) (n := n.toNat) (by omega) (by omega)
      omega
    rw [if_neg (show ¬ o.toNat = 0 by omega), beq_eq_false_iff_ne.2 c1, if_neg c3]
    unfold serV angV
    simp only [stk_eq]
    rfl
  · cases h
/-! ### check, reduced, signed -/
def sp_tCheck : List AV → Option Br
  | [.int .i64 n] => some (.br (decide (n < 1)) (.leaf (.iface 59 (.int .i64 1))) (.br (decide (n > 67108864)) (.leaf (.iface 59 (.int .i64 1))) (.leaf .nili)))
  | _ => none
theorem run_tCheck (n : Int) : callA (env Tryz.f127.ntmps [] []) (bodyC Tryz.f127) Tryz.f127.results.toList (slots 0 [.int .i64 n]) some =
    bif decide (n < 1) then some (.iface 59 (.int .i64 1)) else bif decide (n > 67108864) then some (.iface 59 (.int .i64 1)) else some (.nili) := by kernel_rfl
theorem ok_tCheck : EntOk Tryz.prog 127 (entB false sp_tCheck) := by
  refine contractB (orc := []) (lo := []) Tryz.func127 orc_nil (by kernel_rfl) (by kernel_rfl) (by kernel_rfl) (loops_none (by kernel_rfl)) fun args t h => ?_
  unfold sp_tCheck at h
  split at h
  · rename_i n
    simp only [Option.some.injEq] at h
    subst h
    refine ⟨by kernel_rfl, .inr rfl, fun z hz => (run_tCheck n).trans hz⟩
  · cases h
def okN (n : Int) : Bool := stk (decide (1 ≤ n ∧ n ≤ 67108864))
theorem okN_iff {n : Int} : okN n = true ↔ 1 ≤ n ∧ n ≤ 67108864 := by unfold okN; rw [stk_eq, decide_eq_true_iff]
def octZ (k n : Int) : Int := ((stk (octN (k % n).toNat n.toNat) : Nat) : Int)
def ovrZ (k n : Int) : Int := ((stk (ovrN (k % n).toNat n.toNat) : Nat) : Int)
def sp_tRed : List AV → Option (Bool × AV)
  | [.int .i64 k, .int .i64 n] => some (okN n, .st [.int .i64 (octZ k n), .int .i64 (ovrZ k n)])
  | _ => none
def redT (j n : Int) : Option AV :=
  chk (!(n == 0)) (chk (!(n == 0)) (bif ((w64 ((w64 (8 * j)).tdiv n)).tmod 2) == 1 then some (.st [.int .i64 (w64 ((w64 (8 * j)).tdiv n)), .int .i64 (w64 (n - ((w64 (8 * j)).tmod n)))]) else some (.st [.int .i64 (w64 ((w64 (8 * j)).tdiv n)), .int .i64 ((w64 (8 * j)).tmod n)])))
theorem run_tRed (k n : Int) : callA (env Tryz.f128.ntmps [] []) (bodyC Tryz.f128) Tryz.f128.results.toList (slots 0 [.int .i64 k, .int .i64 n]) some =
    chk (!(n == 0)) (bif decide ((k.tmod n) < 0) then redT (w64 ((k.tmod n) + n)) n else redT (k.tmod n) n) := by kernel_rfl
theorem redT_at {j n : Nat} (hj : j < n) (hn : n ≤ 67108864) : redT j n = some (.st [.int .i64 ((octN j n : Nat) : Int), .int .i64 ((ovrN j n : Nat) : Int)]) := by
  have w1 : w64 (8 * (j : Int)) = ((8 * j : Nat) : Int) := by rw [show 8 * (j : Int) = ((8 * j : Nat) : Int) by omega]; exact w64_mid (by omega) (by omega)
  have t1 : ((8 * j : Nat) : Int).tdiv (n : Int) = ((8 * j / n : Nat) : Int) := rfl
  have t2 : ((8 * j : Nat) : Int).tmod (n : Int) = ((8 * j % n : Nat) : Int) := rfl
  have hq : 8 * j / n < 8 := (Nat.div_lt_iff_lt_mul (by omega)).2 (by omega)
  have w2 : w64 ((8 * j / n : Nat) : Int) = ((8 * j / n : Nat) : Int) := by
    generalize 8 * j / n = q at hq
    exact w64_mid (by omega) (by omega)
  have hm : 8 * j % n < n := Nat.mod_lt _ (by omega)
  have w3 : w64 ((n : Int) - ((8 * j % n : Nat) : Int)) = ((n - 8 * j % n : Nat) : Int) := by
    generalize 8 * j % n = q at hm
    rw [show (n : Int) - (q : Int) = ((n - q : Nat) : Int) by omega]; exact w64_mid (by omega) (by omega)
  have t3 : ((8 * j / n : Nat) : Int).tmod 2 = ((8 * j / n % 2 : Nat) : Int) := rfl
  unfold redT
  rw [w1, t1, t2, w2, w3, t3, beq_eq_false_iff_ne.2 (show (n : Int) ≠ 0 by omega)]
  unfold ovrN octN
  by_cases h : 8 * j / n % 2 = 1
  · rw [if_pos h, h]; rfl
  · rw [if_neg h, beq_eq_false_iff_ne.2 (show ((8 * j / n % 2 : Nat) : Int) ≠ 1 by omega)]; rfl
theorem tmod_emod (k n : Int) (hn : 1 ≤ n) : (if k.tmod n < 0 then k.tmod n + n else k.tmod n) = k % n := by
  have h1 := Int.emod_nonneg k (show n ≠ 0 by omega)
  have h2 := Int.emod_lt_of_pos k (show 0 < n by omega)
  rw [Int.tmod_eq_emod]
  split
  · rw [if_neg (by omega)]; omega
  · have : (n.natAbs : Int) = n := Int.natAbs_of_nonneg (by omega)
    rw [this, if_pos (by omega)]; omega
theorem ok_tRed : EntOk Tryz.prog 128 (entS false sp_tRed) := by
  refine contractS (orc := []) (lo := []) Tryz.func128 orc_nil (by kernel_rfl) (by kernel_rfl) (by kernel_rfl) (loops_none (by kernel_rfl)) fun args r h => ?_
  unfold sp_tRed at h
  split at h
  · rename_i k n
    simp only [Option.some.injEq, Prod.mk.injEq] at h
    obtain ⟨hg, rfl⟩ := h
    obtain ⟨h1, h2⟩ := okN_iff.1 hg
    refine ⟨by kernel_rfl, .inr rfl, (run_tRed k n).trans ?_⟩
    have hm := tmod_emod k n h1
    have hm1 := Int.emod_nonneg k (show n ≠ 0 by omega)
    have hm2 := Int.emod_lt_of_pos k (show 0 < n by omega)
    have key : redT (k % n) n = some (.st [.int .i64 (octZ k n), .int .i64 (ovrZ k n)]) := by
      unfold octZ ovrZ
      rw [stk_eq, stk_eq]
      have := redT_at (j := (k % n).toNat) (n := n.toNat) (by omega) (by omega)
      rw [Int.toNat_of_nonneg hm1, Int.toNat_of_nonneg (by omega)] at this
      exact this
    rw [beq_eq_false_iff_ne.2 (show n ≠ 0 by omega)]
    by_cases hc : k.tmod n < 0
    · rw [if_pos hc] at hm
      rw [decide_eq_true hc, w64_mid (by omega) (by omega), hm]
      exact key
    · rw [if_neg hc] at hm
      rw [decide_eq_false hc, hm]
      exact key
  · cases h
def okP (p : Int) : Bool := stk (decide (0 ≤ p ∧ p < 9223372036854775808))
theorem okP_iff {p : Int} : okP p = true ↔ 0 ≤ p ∧ p < 9223372036854775808 := by unfold okP; rw [stk_eq, decide_eq_true_iff]
def sgnV (p : Int) (m : Bool) : Int := ((stk (sgdN p.toNat m) : Nat) : Int)
def sp_tSigned : List AV → Option (Bool × AV)
  | [.int .u64 p, .bool m] => some (okP p, .int .u64 (sgnV p m))
  | _ => none
theorem run_tSigned (p : Int) (m : Bool) : callA (env Tryz.f129.ntmps [] []) (bodyC Tryz.f129) Tryz.f129.results.toList (slots 0 [.int .u64 p, .bool m]) some =
    bif m then bif p != 0 then some (.int .u64 (orI .u64 p 9223372036854775808)) else some (.int .u64 p) else some (.int .u64 p) := by kernel_rfl
theorem ok_tSigned : EntOk Tryz.prog 129 (entS false sp_tSigned) := by
  refine contractS (orc := []) (lo := []) Tryz.func129 orc_nil (by kernel_rfl) (by kernel_rfl) (by kernel_rfl) (loops_none (by kernel_rfl)) fun args r h => ?_
  unfold sp_tSigned at h
  split at h
  · rename_i p m
    simp only [Option.some.injEq, Prod.mk.injEq] at h
    obtain ⟨hg, rfl⟩ := h
    obtain ⟨h1, h2⟩ := okP_iff.1 hg
    obtain ⟨p, rfl⟩ : ∃ q : Nat, p = q := ⟨p.toNat, (Int.toNat_of_nonneg h1).symm⟩
    refine ⟨by kernel_rfl, .inr rfl, (run_tSigned p m).trans ?_⟩
    unfold sgnV sgdN
    rw [stk_eq, Int.toNat_natCast]
    cases m with
    | false => rfl
    | true =>
      by_cases h0 : p = 0
      · subst h0; rfl
      · have hor : orI .u64 (p : Int) 9223372036854775808 = ((p + 9223372036854775808 : Nat) : Int) := by
          rw [orI_comm]
          have := orI_add 1 p 63 (by decide) (by omega) (by decide)
          rw [Nat.one_mul] at this
          rw [Nat.add_comm]
          exact this
        rw [hor, if_pos ⟨rfl, h0⟩, bne_iff_ne.2 (show (p : Int) ≠ 0 by omega)]
        rfl
  · cases h
end
end Go.Proofs.YtbakldcbaikgpaaGreatDoor
/- turn: Cos, Sin, Root. Own work. -/
namespace Go.Proofs.YtbakldcbaikgpaaGreatDoor
set_option maxRecDepth 100000
noncomputable section
theorem rouF_lt (a : Nat) : rouF a < 9223372036854775808 := by
  unfold rouF rndP sgnOf
  rw [if_neg (by decide), Nat.add_zero]
  exact rndP_lt _ _ _ _
theorem sinF_lt (o n : Nat) : sinF o n < 9223372036854775808 := by
  unfold sinF
  split
  · decide
  · split
    · decide
    · split
      · decide
      · exact rouF_lt _
theorem cosF_lt (o n : Nat) : cosF o n < 9223372036854775808 := by
  unfold cosF
  split
  · decide
  · split
    · decide
    · exact rouF_lt _
theorem oct_lt {j n : Nat} (h : j < n) : octN j n < 8 := (Nat.div_lt_iff_lt_mul (by omega)).2 (by omega)
theorem ovr_le {j n : Nat} (h : j < n) : ovrN j n ≤ n := by
  have := Nat.mod_lt (8 * j) (show 0 < n by omega)
  unfold ovrN
  split <;> omega
def cosR (k n : Int) : Int := ((stk (cosZ k n) : Nat) : Int)
def sinR (k n : Int) : Int := ((stk (sinZ k n) : Nat) : Int)
def sp_tCos : List AV → Option Br
  | [.int .i64 k, .int .i64 n] => some (.br (decide (n < 1)) (.leaf (.tup [.int .u64 0, .iface 59 (.int .i64 1)])) (.br (decide (n > 67108864)) (.leaf (.tup [.int .u64 0, .iface 59 (.int .i64 1)])) (.leaf (.tup [.int .u64 (cosR k n), .nili]))))
  | _ => none
def sp_tSin : List AV → Option Br
  | [.int .i64 k, .int .i64 n] => some (.br (decide (n < 1)) (.leaf (.tup [.int .u64 0, .iface 59 (.int .i64 1)])) (.br (decide (n > 67108864)) (.leaf (.tup [.int .u64 0, .iface 59 (.int .i64 1)])) (.leaf (.tup [.int .u64 (sinR k n), .nili]))))
  | _ => none
def orcTC : List (FuncId × Ent) := [(127, entB false sp_tCheck), (128, entS false sp_tRed), (130, entS false sp_tSine), (131, entS false sp_tCosine), (129, entS false sp_tSigned)]
def tcE : Option AV := some (.tup [.int .u64 0, .iface 59 (.int .i64 1)])
def tcS (o n : Int) (m : Bool) : Option AV := chk (okT o n) (chk (okP (sinV o n)) (some (.tup [.int .u64 (sgnV (sinV o n) m), .nili])))
def tcC (o n : Int) (m : Bool) : Option AV := chk (okT o n) (chk (okP (cosV o n)) (some (.tup [.int .u64 (sgnV (cosV o n) m), .nili])))
def tcM (q o n : Int) (m : Bool) : Option AV := bif (q.tmod 4) == 1 then tcS o n m else bif (q.tmod 4) == 2 then tcS o n m else tcC o n m
def tsM (q o n : Int) (m : Bool) : Option AV := bif (q.tmod 4) == 1 then tcC o n m else bif (q.tmod 4) == 2 then tcC o n m else tcS o n m
theorem run_tCos (k n : Int) : callA (env Tryz.f91.ntmps orcTC []) (bodyC Tryz.f91) Tryz.f91.results.toList (slots 0 [.int .i64 k, .int .i64 n]) some =
    bif decide (n < 1) then tcE else bif decide (n > 67108864) then tcE else chk (okN n) (bif decide ((octZ k n) ≥ 2) then tcM (octZ k n) (ovrZ k n) n (decide ((octZ k n) ≤ 5)) else tcM (octZ k n) (ovrZ k n) n false) := by kernel_rfl
theorem run_tSin (k n : Int) : callA (env Tryz.f92.ntmps orcTC []) (bodyC Tryz.f92) Tryz.f92.results.toList (slots 0 [.int .i64 k, .int .i64 n]) some =
    bif decide (n < 1) then tcE else bif decide (n > 67108864) then tcE else chk (okN n) (tsM (octZ k n) (ovrZ k n) n (decide ((octZ k n) ≥ 4))) := by kernel_rfl
theorem tc_at {j n : Nat} (hj : j < n) (hn : n ≤ 67108864) (m : Bool) :
    tcS (ovrN j n : Nat) n m = some (.tup [.int .u64 ((sgdN (sinF (ovrN j n) n) m : Nat) : Int), .nili]) ∧ tcC (ovrN j n : Nat) n m = some (.tup [.int .u64 ((sgdN (cosF (ovrN j n) n) m : Nat) : Int), .nili]) := by
  have h1 := ovr_le hj
  have hT : okT (ovrN j n : Nat) n = true := okT_iff.2 (by omega)
  have hs := sinF_lt (ovrN j n) n
  have hc := cosF_lt (ovrN j n) n
  unfold tcS tcC sgnV sinV cosV
  rw [hT, stk_eq, stk_eq, stk_eq, stk_eq, Int.toNat_natCast, Int.toNat_natCast, okP_iff.2 (by omega), okP_iff.2 (by omega)]
  exact ⟨rfl, rfl⟩
theorem ok_tCos : EntOk Tryz.prog 91 (entB false sp_tCos) := by
  refine contractB (orc := orcTC) (lo := []) Tryz.func91 (orc_cons ok_tCheck (orc_cons ok_tRed (orc_cons ok_tSine (orc_cons ok_tCosine (orc_cons ok_tSigned orc_nil))))) (by kernel_rfl) (by kernel_rfl) (by kernel_rfl) (loops_none (by kernel_rfl)) fun args t h => ?_
  unfold sp_tCos at h
  split at h
  · rename_i k n
    simp only [Option.some.injEq] at h
    subst h
    refine ⟨by kernel_rfl, .inr rfl, fun z hz => (run_tCos k n).trans ?_⟩
    rw [← hz]
    simp only [Br.run]
    by_cases c1 : n < 1
    · rw [decide_eq_true c1]; rfl
    by_cases c2 : n > 67108864
    · rw [decide_eq_false c1, decide_eq_true c2]; rfl
    rw [decide_eq_false c1, decide_eq_false c2, okN_iff.2 (by omega)]
    simp only [cond_false, chk, cond_true]
    have hm1 := Int.emod_nonneg k (show n ≠ 0 by omega)
    have hm2 := Int.emod_lt_of_pos k (show 0 < n by omega)
    unfold octZ ovrZ cosR cosZ cosK
    rw [stk_eq, stk_eq, stk_eq]
    obtain ⟨n, rfl⟩ : ∃ m : Nat, n = m := ⟨n.toNat, (Int.toNat_of_nonneg (by omega)).symm⟩
    obtain ⟨j, hj⟩ : ∃ j : Nat, (k % (n : Int)).toNat = j := ⟨_, rfl⟩
    have hjn : j < n := by omega
    rw [hj, Int.toNat_natCast]
    have hq := oct_lt hjn
    have t1 : ((octN j n : Nat) : Int).tmod 4 = ((octN j n % 4 : Nat) : Int) := rfl
    have hM : ∀ m : Bool, tcM (octN j n : Nat) (ovrN j n : Nat) n m = some (.tup [.int .u64 ((sgdN (if octN j n % 4 = 1 ∨ octN j n % 4 = 2 then sinF (ovrN j n) n else cosF (ovrN j n) n) m : Nat) : Int), .nili]) := by
      intro m
      unfold tcM
      rw [t1, (tc_at hjn (by omega) m).1, (tc_at hjn (by omega) m).2]
      by_cases a1 : octN j n % 4 = 1
      · rw [if_pos (.inl a1), a1]; rfl
      · rw [beq_eq_false_iff_ne.2 (show ((octN j n % 4 : Nat) : Int) ≠ 1 by omega)]
        by_cases a2 : octN j n % 4 = 2
        · rw [if_pos (.inr a2), a2]; rfl
        · rw [beq_eq_false_iff_ne.2 (show ((octN j n % 4 : Nat) : Int) ≠ 2 by omega), if_neg (by omega)]; rfl
    rw [hM, hM]
    by_cases b1 : 2 ≤ octN j n
    · rw [decide_eq_true (show ((octN j n : Nat) : Int) ≥ 2 by omega), decide_eq_true b1, show decide (((octN j n : Nat) : Int) ≤ 5) = decide (octN j n ≤ 5) from decide_eq_decide.2 (by omega)]
      rfl
    · rw [decide_eq_false (show ¬ ((octN j n : Nat) : Int) ≥ 2 by omega), decide_eq_false b1]
      rfl
  · cases h
theorem ok_tSin : EntOk Tryz.prog 92 (entB false sp_tSin) := by
  refine contractB (orc := orcTC) (lo := []) Tryz.func92 (orc_cons ok_tCheck (orc_cons ok_tRed (orc_cons ok_tSine (orc_cons ok_tCosine (orc_cons ok_tSigned orc_nil))))) (by kernel_rfl) (by kernel_rfl) (by kernel_rfl) (loops_none (by kernel_rfl)) fun args t h => ?_
  unfold sp_tSin at h
  split at h
  · rename_i k n
    simp only [Option.some.injEq] at h
    subst h
    refine ⟨by kernel_rfl, .inr rfl, fun z hz => (run_tSin k n).trans ?_⟩
    rw [← hz]
    simp only [Br.run]
    by_cases c1 : n < 1
    · rw [decide_eq_true c1]; rfl
    by_cases c2 : n > 67108864
    · rw [decide_eq_false c1, decide_eq_true c2]; rfl
    rw [decide_eq_false c1, decide_eq_false c2, okN_iff.2 (by omega)]
    simp only [cond_false, chk, cond_true]
    have hm1 := Int.emod_nonneg k (show n ≠ 0 by omega)
    have hm2 := Int.emod_lt_of_pos k (show 0 < n by omega)
    unfold octZ ovrZ sinR sinZ sinK
    rw [stk_eq, stk_eq, stk_eq]
    obtain ⟨n, rfl⟩ : ∃ m : Nat, n = m := ⟨n.toNat, (Int.toNat_of_nonneg (by omega)).symm⟩
    obtain ⟨j, hj⟩ : ∃ j : Nat, (k % (n : Int)).toNat = j := ⟨_, rfl⟩
    have hjn : j < n := by omega
    rw [hj, Int.toNat_natCast]
    have hq := oct_lt hjn
    have t1 : ((octN j n : Nat) : Int).tmod 4 = ((octN j n % 4 : Nat) : Int) := rfl
    have hM : ∀ m : Bool, tsM (octN j n : Nat) (ovrN j n : Nat) n m = some (.tup [.int .u64 ((sgdN (if octN j n % 4 = 1 ∨ octN j n % 4 = 2 then cosF (ovrN j n) n else sinF (ovrN j n) n) m : Nat) : Int), .nili]) := by
      intro m
      unfold tsM
      rw [t1, (tc_at hjn (by omega) m).1, (tc_at hjn (by omega) m).2]
      by_cases a1 : octN j n % 4 = 1
      · rw [if_pos (.inl a1), a1]; rfl
      · rw [beq_eq_false_iff_ne.2 (show ((octN j n % 4 : Nat) : Int) ≠ 1 by omega)]
        by_cases a2 : octN j n % 4 = 2
        · rw [if_pos (.inr a2), a2]; rfl
        · rw [beq_eq_false_iff_ne.2 (show ((octN j n % 4 : Nat) : Int) ≠ 2 by omega), if_neg (by omega)]; rfl
    rw [hM, show decide (((octN j n : Nat) : Int) ≥ 4) = decide (4 ≤ octN j n) from decide_eq_decide.2 (by omega)]
  · cases h
def trE : Option AV := some (.tup [.st [.int .u64 0, .int .u64 0], .iface 59 (.int .i64 1)])
theorem run_tRoot (k n : Int) : callA (env Tryz.f60.ntmps [(91, entB false sp_tCos), (92, entB false sp_tSin)] []) (bodyC Tryz.f60) Tryz.f60.results.toList (slots 0 [.int .i64 k, .int .i64 n]) some =
    bif decide (n < 1) then trE else bif decide (n > 67108864) then trE else bif decide (n < 1) then some (.tup [.st [.int .u64 (cosR k n), .int .u64 0], .iface 59 (.int .i64 1)]) else bif decide (n > 67108864) then some (.tup [.st [.int .u64 (cosR k n), .int .u64 0], .iface 59 (.int .i64 1)]) else
      some (.tup [.st [.int .u64 (cosR k n), .int .u64 (sinR k n)], .nili]) := by kernel_rfl
/-- Root, where there is such a turn. -/
def sp_tRootG : List AV → Option (Bool × AV)
  | [.int .i64 k, .int .i64 n] => some (okN n, .tup [.st [.int .u64 (cosR k n), .int .u64 (sinR k n)], .nili])
  | _ => none
theorem ok_tRootG : EntOk Tryz.prog 60 (entS false sp_tRootG) := by
  refine contractS (orc := [(91, entB false sp_tCos), (92, entB false sp_tSin)]) (lo := []) Tryz.func60 (orc_cons ok_tCos (orc_cons ok_tSin orc_nil)) (by kernel_rfl) (by kernel_rfl) (by kernel_rfl) (loops_none (by kernel_rfl)) fun args r h => ?_
  unfold sp_tRootG at h
  split at h
  · rename_i k n
    simp only [Option.some.injEq, Prod.mk.injEq] at h
    obtain ⟨hg, rfl⟩ := h
    obtain ⟨h1, h2⟩ := okN_iff.1 hg
    refine ⟨by kernel_rfl, .inr rfl, (run_tRoot k n).trans ?_⟩
    rw [decide_eq_false (show ¬ n < 1 by omega), decide_eq_false (show ¬ n > 67108864 by omega)]
    rfl
  · cases h
end
end Go.Proofs.YtbakldcbaikgpaaGreatDoor
/- Points of a circle: what is the same of it. Plain Lean. Own work. -/
namespace Go.Proofs.YtbakldcbaikgpaaGreatDoor
set_option maxRecDepth 100000
noncomputable section
/-! ### The same angle -/
/-! ### Turns -/
end
end Go.Proofs.YtbakldcbaikgpaaGreatDoor
/- Points of a circle are at most 1. Plain Lean. Own work. -/
namespace Go.Proofs.YtbakldcbaikgpaaGreatDoor
set_option maxRecDepth 100000
noncomputable section
theorem big2_eq : big2 = 256 * oneF := by decide +kernel
theorem oneF_pos : 1024 < oneF := by decide +kernel
theorem mulF_le {a s : Nat} (h : s ≤ oneF) : mulF a s ≤ a := by
  unfold mulF
  have hp := oneF_pos
  refine Nat.le_trans (Nat.mod_le _ _) (Nat.div_le_of_le_mul ?_)
  rw [Nat.mul_comm oneF]
  exact Nat.mul_le_mul_left _ h
theorem mod_big {a : Nat} (h : a < big2) : a % big2 = a := Nat.mod_eq_of_lt h
theorem sub_big {a b : Nat} (h1 : b ≤ a) (h2 : a < big2) : (a + big2 - b) % big2 = a - b := by
  rw [show a + big2 - b = (a - b) + big2 by omega, Nat.add_mod_right, Nat.mod_eq_of_lt (by omega)]
theorem ser_le {s T : Nat} (hs : s ≤ oneF) (_ : T ≤ oneF) : ∀ (f : Nat) (b : Bool) (plus minus t fr : Nat), minus ≤ plus → plus + (f + 1) * oneF ≤ 200 * oneF → t ≤ oneF →
    (b = true → plus + t ≤ minus + T) → (b = false → minus + t ≤ plus ∧ plus ≤ minus + T) → serF f b plus minus t s fr ≤ T := by
  have hb := big2_eq
  have hp := oneF_pos
  intro f
  induction f with
  | zero =>
    intro b plus minus t fr h1 h2 h3 h4 h5
    show (plus + big2 - minus) % big2 ≤ T
    rw [sub_big h1 (by omega)]
    cases b
    · have := (h5 rfl).2; omega
    · have := h4 rfl; omega
  | succ f ih =>
    intro b plus minus t fr h1 h2 h3 h4 h5
    rw [Nat.add_mul (f + 1) 1] at h2
    have ht : mulF t s / (fr * (fr + 1)) ≤ t := Nat.le_trans (Nat.div_le_self _ _) (mulF_le hs)
    unfold serF
    cases b
    · obtain ⟨h6, h7⟩ := h5 rfl
      simp only [Bool.false_eq_true, if_false, Bool.not_false]
      rw [mod_big (show minus + t < big2 by omega)]
      split
      · rw [sub_big h6 (by omega)]; omega
      · exact ih _ _ _ _ _ h6 (by omega) (by omega) (fun _ => by omega) (fun h => by cases h)
    · have h6 := h4 rfl
      simp only [if_true, Bool.not_true]
      rw [mod_big (show plus + t < big2 by omega)]
      split
      · rw [sub_big (by omega) (by omega)]; omega
      · exact ih _ _ _ _ _ (by omega) (by omega) (by omega) (fun h => by cases h) (fun _ => ⟨by omega, h6⟩)
theorem ser_one {t s fr : Nat} (ht : t ≤ oneF) (hs : s ≤ oneF) : serF 80 true 0 0 t s fr ≤ oneF :=
  ser_le hs (Nat.le_refl _) 80 true 0 0 t fr (Nat.le_refl _) (by omega) ht (fun _ => by omega) (fun h => by cases h)
theorem rou_one : sizeP false (4 * oneF + 1) (-250) 0 = 4607182418800017408 := by decide +kernel
theorem rou_le {a : Nat} (h : a ≤ oneF) : rouF a ≤ 4607182418800017408 := by
  have hp := oneF_pos
  have hm : midF a ≤ 2 * oneF := by
    unfold midF lowF highF
    refine Nat.le_trans (Nat.mod_le _ _) ?_
    have := Nat.mod_le (a + 512) big2
    split <;> omega
  unfold rouF rndP sgnOf
  rw [if_neg (by decide), Nat.add_zero, ← rou_one]
  refine size_mono ?_ _ _
  unfold nS
  rw [if_pos rfl]
  omega
theorem ang_sq {o n : Nat} (h : ¬ oneF < angF o n) : mulF (angF o n) (angF o n) ≤ oneF := Nat.le_trans (mulF_le (by omega)) (by omega)
theorem sinF_le (o n : Nat) : sinF o n ≤ 4607182418800017408 := by
  unfold sinF
  split
  · decide
  · split
    · decide
    · split
      · decide
      · rename_i h
        exact rou_le (ser_one (by omega) (ang_sq h))
theorem cosF_le (o n : Nat) : cosF o n ≤ 4607182418800017408 := by
  unfold cosF
  split
  · decide
  · split
    · decide
    · rename_i h
      exact rou_le (ser_one (by omega) (ang_sq h))
theorem sgd_mod {p : Nat} (h : p ≤ 4607182418800017408) (m : Bool) : sgdN p m % 9223372036854775808 ≤ 4607182418800017408 ∧ sgdN p m < 18446744073709551616 := by
  unfold sgdN
  split
  · rw [Nat.add_mod_right]; omega
  · omega
theorem cosK_le (k n : Nat) : cosK k n % 9223372036854775808 ≤ 4607182418800017408 ∧ cosK k n < 18446744073709551616 := by
  unfold cosK
  split
  · exact sgd_mod (sinF_le _ _) _
  · exact sgd_mod (cosF_le _ _) _
theorem sinK_le (k n : Nat) : sinK k n % 9223372036854775808 ≤ 4607182418800017408 ∧ sinK k n < 18446744073709551616 := by
  unfold sinK
  split
  · exact sgd_mod (cosF_le _ _) _
  · exact sgd_mod (sinF_le _ _) _
end
end Go.Proofs.YtbakldcbaikgpaaGreatDoor
