/- tillerlaw16: minus, sure, TurnSame, TurnLowest. Own work. -/
import Derived.Test.YtbakldcbaikgpaaTurnB
import Derived.Test.YtbakldcbaikgpaaTurn2
import Derived.Test.YtbakldcbaikgpaaPat1
namespace Go.Proofs.Ytbakldcbaikgpaa
set_option maxRecDepth 100000
noncomputable section

/-! ### Cos, Sin where there is such a turn -/
def sp_tCosG : List AV → Option (Bool × AV)
  | [.int .i64 k, .int .i64 n] => some (okN n, .tup [.int .u64 (cosR k n), .nili])
  | _ => none
def sp_tSinG : List AV → Option (Bool × AV)
  | [.int .i64 k, .int .i64 n] => some (okN n, .tup [.int .u64 (sinR k n), .nili])
  | _ => none
def orcOneC : List (FuncId × Ent) := [(15, entB false sp_tCos), (16, entB false sp_tSin)]
theorem run_lsureT : callA (env Try.f9.ntmps orcOneC []) (bodyC Try.f9) Try.f9.results.toList (slots 0 []) some =
    (bif cosR 1 6 == 4602678819172646912 then bif sinR 1 8 == 4604544271217802189 then some (.bool true) else some (.bool false) else some (.bool false)) := by kernel_rfl
theorem cos16 : cosK 1 6 = 4602678819172646912 := by decide +kernel
theorem sin18 : sinK 1 8 = 4604544271217802189 := by decide +kernel
def sp_lsureT : List AV → Option (Bool × AV)
  | [] => some (true, .bool true)
  | _ => none
theorem ok_lsureT : EntOk Try.prog 9 (entS false sp_lsureT) := by
  refine contractS (orc := orcOneC) (lo := []) Try.func9 (orc_cons ok_tCos (orc_cons ok_tSin orc_nil)) (by kernel_rfl) (by kernel_rfl) (by kernel_rfl) (loops_none (by kernel_rfl)) fun args r h => ?_
  unfold sp_lsureT at h
  split at h
  · simp only [Option.some.injEq, Prod.mk.injEq] at h
    obtain ⟨hg, rfl⟩ := h
    refine ⟨by kernel_rfl, .inr rfl, run_lsureT.trans ?_⟩
    have h1 : cosR 1 6 = 4602678819172646912 := by unfold cosR cosZ; rw [stk_eq]; exact congrArg Nat.cast cos16
    have h2 : sinR 1 8 = 4604544271217802189 := by unfold sinR sinZ; rw [stk_eq]; exact congrArg Nat.cast sin18
    rw [h1, h2]; rfl
  · cases h

def minV (p : Int) : Int := ((stk (minN p.toNat) : Nat) : Int)
def sp_lminus : List AV → Option (Bool × AV)
  | [.int .u64 p] => some (inU p, .int .u64 (minV p))
  | _ => none
theorem run_lminus (p : Int) : callA (env Try.f8.ntmps [] []) (bodyC Try.f8) Try.f8.results.toList (slots 0 [.int .u64 p]) some =
    bif p == 0 then some (.int .u64 0) else some (.int .u64 (xorI .u64 p 9223372036854775808)) := by kernel_rfl
theorem ok_lminus : EntOk Try.prog 8 (entS false sp_lminus) := by
  refine contractS (orc := []) (lo := []) Try.func8 orc_nil (by kernel_rfl) (by kernel_rfl) (by kernel_rfl) (loops_none (by kernel_rfl)) fun args r h => ?_
  unfold sp_lminus at h
  split at h
  · rename_i p
    simp only [Option.some.injEq, Prod.mk.injEq] at h
    obtain ⟨hg, rfl⟩ := h
    have hp := inU_iff.1 hg
    obtain ⟨p, rfl⟩ : ∃ m : Nat, p = m := ⟨p.toNat, (Int.toNat_of_nonneg hp.1).symm⟩
    refine ⟨by kernel_rfl, .inr rfl, (run_lminus p).trans ?_⟩
    rw [xor63 p (by omega)]
    unfold minV minN
    rw [stk_eq, Int.toNat_natCast]
    by_cases h0 : p = 0
    · subst h0; rfl
    · rw [beq_eq_false_iff_ne.2 (show (p : Int) ≠ 0 by omega), if_neg h0, cond_false]
      by_cases h1 : p < 9223372036854775808
      · rw [if_pos h1, Nat.mod_eq_of_lt (by omega)]
      · rw [if_neg h1, show (p + 9223372036854775808) % 18446744073709551616 = p - 9223372036854775808 by omega]
  · cases h

/-! ### The same point -/
theorem cZ (j : Int) (M : Nat) : cosZ j M = cosK (j % M).toNat M := by unfold cosZ; rw [Int.toNat_natCast]
theorem sZ (j : Int) (M : Nat) : sinZ j M = sinK (j % M).toNat M := by unfold sinZ; rw [Int.toNat_natCast]
theorem at_mod (j : Int) {M : Nat} (hM : 0 < M) : ∃ k : Nat, k < M ∧ j % M = k ∧ ∃ t : Int, j = k + M * t := by
  have h1 := Int.emod_nonneg j (show (M : Int) ≠ 0 by omega)
  have h2 := Int.emod_lt_of_pos j (show 0 < (M : Int) by omega)
  refine ⟨(j % M).toNat, by omega, by omega, j / M, ?_⟩
  rw [Int.toNat_of_nonneg h1]
  exact (Int.emod_add_mul_ediv j M).symm
theorem mod_at {j : Int} {M k : Nat} {t : Int} (hk : k < M) (h : j = k + M * t) : j % M = k := by
  rw [h, Int.add_mul_emod_self_left]
  exact Int.emod_eq_of_lt (by omega) (by omega)
theorem cosK_zero (n : Nat) : cosK 0 n = 4607182418800017408 := by
  have h : octN 0 n = 0 := by unfold octN; rw [Nat.mul_zero, Nat.zero_div]
  have h2 : ovrN 0 n = 0 := by unfold ovrN; rw [h, Nat.mul_zero, Nat.zero_mod]; rfl
  unfold cosK
  rw [h, h2, cosF_zero, if_neg (by omega)]
  unfold sgdN
  rw [if_neg (by simp)]
theorem sinK_zero (n : Nat) : sinK 0 n = 0 := by
  have h : octN 0 n = 0 := by unfold octN; rw [Nat.mul_zero, Nat.zero_div]
  have h2 : ovrN 0 n = 0 := by unfold ovrN; rw [h, Nat.mul_zero, Nat.zero_mod]; rfl
  unfold sinK
  rw [h, h2, sinF_zero, if_neg (by omega)]
  exact sgd0 _
theorem pt_neg (j : Int) {M : Nat} (hM : 0 < M) : cosZ (-j) M = cosZ j M ∧ sinZ (-j) M = minN (sinZ j M) := by
  obtain ⟨k, hk, he, t, ht⟩ := at_mod j hM
  rw [cZ, cZ, sZ, sZ, he, Int.toNat_natCast]
  by_cases h0 : k = 0
  · have : -j % M = (0 : Nat) := mod_at (t := -t) hM (by rw [Int.mul_neg]; omega)
    rw [this, Int.toNat_natCast, h0, sinK_zero]
    exact ⟨rfl, min0.symm⟩
  · have : -j % M = ((M - k : Nat) : Int) := mod_at (t := -t - 1) (by omega) (by rw [Int.mul_sub, Int.mul_neg]; omega)
    rw [this, Int.toNat_natCast]
    exact rotM hM hk (by omega)
theorem pt_four (j : Int) {M : Nat} (hM : 0 < M) : cosZ (4 * j + M) (4 * M : Nat) = minN (sinZ j M) ∧ sinZ (4 * j + M) (4 * M : Nat) = cosZ j M := by
  obtain ⟨k, hk, he, t, ht⟩ := at_mod j hM
  have h : (4 * j + M) % (4 * M : Nat) = (((4 * k + M) % (4 * M) : Nat) : Int) := by
    rw [show 4 * j + (M : Int) = ((4 * k + M : Nat) : Int) + ((4 * M : Nat) : Int) * t by
      rw [ht, Int.mul_add, ← Int.mul_assoc]; push_cast; omega, Int.add_mul_emod_self_left]
    exact (Int.natCast_emod _ _).symm
  rw [cZ, cZ, sZ, sZ, he, h, Int.toNat_natCast, Int.toNat_natCast]
  have := rot4 (k := 4 * k) (n := 4 * M) (e := M) (by omega) (by omega) rfl
  rw [this.1, this.2, cosK_mul (by omega), sinK_mul (by omega)]
  exact ⟨rfl, rfl⟩
theorem pt_two (j : Int) {M : Nat} (hM : 0 < M) : cosZ (2 * j + M) (2 * M : Nat) = minN (cosZ j M) ∧ sinZ (2 * j + M) (2 * M : Nat) = minN (sinZ j M) := by
  obtain ⟨k, hk, he, t, ht⟩ := at_mod j hM
  have h : (2 * j + M) % (2 * M : Nat) = (((2 * k + M) % (2 * M) : Nat) : Int) := by
    rw [show 2 * j + (M : Int) = ((2 * k + M : Nat) : Int) + ((2 * M : Nat) : Int) * t by
      rw [ht, Int.mul_add, ← Int.mul_assoc]; push_cast; omega, Int.add_mul_emod_self_left]
    exact (Int.natCast_emod _ _).symm
  rw [cZ, cZ, sZ, sZ, he, h, Int.toNat_natCast, Int.toNat_natCast]
  have := rot2 (k := 2 * k) (n := 2 * M) (e := M) (by omega) (by omega) rfl
  rw [this.1, this.2, cosK_mul (by omega), sinK_mul (by omega)]
  exact ⟨rfl, rfl⟩
theorem pt_mul (j : Int) {M C : Nat} (hM : 0 < M) (hC : 0 < C) : cosZ (j * C) (M * C : Nat) = cosZ j M ∧ sinZ (j * C) (M * C : Nat) = sinZ j M := by
  obtain ⟨k, hk, he, t, ht⟩ := at_mod j hM
  have h : (j * C) % (M * C : Nat) = ((C * k : Nat) : Int) := by
    refine mod_at (t := t) ?_ ?_
    · rw [Nat.mul_comm M]; exact Nat.mul_lt_mul_of_pos_left hk hC
    · rw [ht, Int.add_mul, Int.mul_right_comm]; push_cast; rw [Int.mul_comm (k : Int)]
  rw [cZ, cZ, sZ, sZ, he, h, Int.toNat_natCast, Int.toNat_natCast, Nat.mul_comm M, cosK_mul hC, sinK_mul hC]
  exact ⟨rfl, rfl⟩
theorem pt_whole (j t : Int) {M : Nat} : cosZ (j + M * t) M = cosZ j M ∧ sinZ (j + M * t) M = sinZ j M := by
  rw [cZ, cZ, sZ, sZ, Int.add_mul_emod_self_left]
  exact ⟨rfl, rfl⟩

/-! ### TurnSame -/
def mOf (n q : Int) : Int := w64 (1 + w64 ((u64 n).tmod q))
theorem mOf_at (n : Int) {q : Nat} (h0 : 0 < q) (hq : q ≤ 16777216) : ∃ M : Nat, mOf n q = M ∧ 0 < M ∧ M ≤ q := by
  have h1 : 0 ≤ u64 n := by unfold u64; rw [IntKind.wrap_u64]; omega
  have h2 := Int.tmod_lt_of_pos (u64 n) (show 0 < (q : Int) by omega)
  have h3 := Int.tmod_nonneg (q : Int) h1
  unfold mOf
  rw [w64_mid (x := (u64 n).tmod q) (by omega) (by omega), w64_mid (by omega) (by omega)]
  exact ⟨(1 + (u64 n).tmod q).toNat, by omega, by omega, by omega⟩
def tsEnd (p1 p2 q1 q2 r1 r2 s1 s2 : Int) : Option AV :=
  bif q1 != p1 then some (.bool false) else chk (inU p2) (bif q2 != minV p2 then some (.bool false) else chk (inU p2) (bif r1 != minV p2 then some (.bool false) else bif r2 != p1 then some (.bool false) else
    chk (inU p1) (bif s1 != minV p1 then some (.bool false) else chk (inU p2) (bif s2 != minV p2 then some (.bool false) else bif decide (andNotI .u64 p1 9223372036854775808 ≤ 4607182418800017408) then bif decide (andNotI .u64 p2 9223372036854775808 ≤ 4607182418800017408) then some (.bool true) else some (.bool false) else some (.bool false)))))
def tsRun (j M : Int) : Option AV :=
  chk (!(M == 0)) (chk (okN M) (chk (okN M) (chk (okN (w64 (4 * M))) (chk (okN (w64 (2 * M))) (tsEnd (cosR j M) (sinR j M) (cosR (w64 (0 - j)) M) (sinR (w64 (0 - j)) M)
    (cosR (w64 (w64 (4 * j) + M)) (w64 (4 * M))) (sinR (w64 (w64 (4 * j) + M)) (w64 (4 * M))) (cosR (w64 (w64 (2 * j) + M)) (w64 (2 * M))) (sinR (w64 (w64 (2 * j) + M)) (w64 (2 * M))))))))
def orcTS : List (FuncId × Ent) := [(7, entS false sp_tRootG), (8, entS false sp_lminus), (9, entS false sp_lsureT)]
theorem run_lSame (k n : Int) : callA (env Try.f3.ntmps orcTS []) (bodyC Try.f3) Try.f3.results.toList (slots 0 [.int .i64 k, .int .i64 n]) some =
    tsRun (k.tmod (mOf n 16777216)) (mOf n 16777216) := by kernel_rfl
theorem cosR_eq (k n : Int) : cosR k n = (cosZ k n : Int) := by unfold cosR; rw [stk_eq]
theorem sinR_eq (k n : Int) : sinR k n = (sinZ k n : Int) := by unfold sinR; rw [stk_eq]
theorem minV_eq (p : Nat) : minV (p : Int) = (minN p : Int) := by unfold minV; rw [stk_eq, Int.toNat_natCast]
theorem tsEnd_at {p1 p2 : Nat} (h1 : p1 % 9223372036854775808 ≤ 4607182418800017408 ∧ p1 < 18446744073709551616) (h2 : p2 % 9223372036854775808 ≤ 4607182418800017408 ∧ p2 < 18446744073709551616) :
    tsEnd p1 p2 p1 (minN p2 : Nat) (minN p2 : Nat) p1 (minN p1 : Nat) (minN p2 : Nat) = some (.bool true) := by
  unfold tsEnd
  rw [minV_eq, minV_eq, inU_iff.2 (by omega), inU_iff.2 (by omega), bne_self_eq_false, bne_self_eq_false, bne_self_eq_false, andNot63 _ h1.2, andNot63 _ h2.2,
    decide_eq_true (show ((absN p1 : Nat) : Int) ≤ 4607182418800017408 by unfold absN; omega), decide_eq_true (show ((absN p2 : Nat) : Int) ≤ 4607182418800017408 by unfold absN; omega)]
  rfl
theorem tsRun_at (k n : Int) : tsRun (k.tmod (mOf n 16777216)) (mOf n 16777216) = some (.bool true) := by
  obtain ⟨M, hM, h0, h1⟩ := mOf_at n (q := 16777216) (by omega) (by omega)
  rw [show mOf n 16777216 = M from hM]
  have b1 := Int.tmod_lt_of_pos k (show 0 < (M : Int) by omega)
  have b2 : -(M : Int) < k.tmod M := by
    have := Int.tmod_lt_of_pos (-k) (show 0 < (M : Int) by omega)
    rw [Int.neg_tmod] at this
    omega
  generalize k.tmod M = j at *
  unfold tsRun
  rw [w64_mid (x := 4 * (M : Int)) (by omega) (by omega), w64_mid (x := 2 * (M : Int)) (by omega) (by omega), w64_mid (x := 0 - j) (by omega) (by omega), w64_mid (x := 4 * j) (by omega) (by omega),
    w64_mid (x := 2 * j) (by omega) (by omega), w64_mid (x := 4 * j + M) (by omega) (by omega), w64_mid (x := 2 * j + M) (by omega) (by omega),
    beq_eq_false_iff_ne.2 (show (M : Int) ≠ 0 by omega), okN_iff.2 (show 1 ≤ (M : Int) ∧ (M : Int) ≤ 67108864 by omega), okN_iff.2 (show 1 ≤ 4 * (M : Int) ∧ 4 * (M : Int) ≤ 67108864 by omega),
    okN_iff.2 (show 1 ≤ 2 * (M : Int) ∧ 2 * (M : Int) ≤ 67108864 by omega)]
  simp only [Bool.not_false, chk, cond_true, cosR_eq, sinR_eq]
  have e4 := pt_four j h0
  have e2 := pt_two j h0
  have e0 := pt_neg j h0
  rw [show ((4 * M : Nat) : Int) = 4 * (M : Int) by push_cast; rfl] at e4
  rw [show ((2 * M : Nat) : Int) = 2 * (M : Int) by push_cast; rfl] at e2
  rw [Int.zero_sub, e4.1, e4.2, e2.1, e2.2, e0.1, e0.2]
  have hc := cosK_le (j % M).toNat M
  have hs := sinK_le (j % M).toNat M
  rw [← cZ] at hc
  rw [← sZ] at hs
  exact tsEnd_at hc hs
def sp_lSame : List AV → Option (Bool × AV)
  | [.int .i64 k, .int .i64 n] => some (true, .bool true)
  | _ => none
theorem ok_lSame : EntOk Try.prog 3 (entS false sp_lSame) := by
  refine contractS (orc := orcTS) (lo := []) Try.func3 (orc_cons ok_tRootG (orc_cons ok_lminus (orc_cons ok_lsureT orc_nil))) (by kernel_rfl) (by kernel_rfl) (by kernel_rfl) (loops_none (by kernel_rfl)) fun args r h => ?_
  unfold sp_lSame at h
  split at h
  · rename_i k n
    simp only [Option.some.injEq, Prod.mk.injEq] at h
    obtain ⟨hg, rfl⟩ := h
    exact ⟨by kernel_rfl, .inr rfl, (run_lSame k n).trans (tsRun_at k n)⟩
  · cases h

/-! ### TurnLowest -/
def tlEnd (p1 p2 q1 q2 r1 r2 : Int) : Option AV :=
  bif ((p1 == q1) && ((p2 == q2) && true)) then bif ((p1 == r1) && ((p2 == r2) && true)) then some (.bool true) else some (.bool false) else some (.bool false)
def tlRun (j M C : Int) : Option AV :=
  chk (!(M == 0)) (chk (okN M) (chk (okN (w64 (M * C))) (chk (okN M) (tlEnd (cosR j M) (sinR j M) (cosR (w64 (j * C)) (w64 (M * C))) (sinR (w64 (j * C)) (w64 (M * C)))
    (cosR (w64 (j + w64 (M * w64 (C.tmod 7 - 3)))) M) (sinR (w64 (j + w64 (M * w64 (C.tmod 7 - 3)))) M)))))
theorem run_lLowest (k n b : Int) : callA (env Try.f4.ntmps orcTS []) (bodyC Try.f4) Try.f4.results.toList (slots 0 [.int .i64 k, .int .i64 n, .int .i64 b]) some =
    tlRun (k.tmod (mOf n 4096)) (mOf n 4096) (mOf b 4096) := by kernel_rfl
theorem tlRun_at (k n b : Int) : tlRun (k.tmod (mOf n 4096)) (mOf n 4096) (mOf b 4096) = some (.bool true) := by
  obtain ⟨M, hM, h0, h1⟩ := mOf_at n (q := 4096) (by omega) (by omega)
  obtain ⟨C, hC, c0, c1⟩ := mOf_at b (q := 4096) (by omega) (by omega)
  rw [show mOf n 4096 = M from hM, show mOf b 4096 = C from hC]
  have b1 := Int.tmod_lt_of_pos k (show 0 < (M : Int) by omega)
  have b2 : -(M : Int) < k.tmod M := by
    have := Int.tmod_lt_of_pos (-k) (show 0 < (M : Int) by omega)
    rw [Int.neg_tmod] at this
    omega
  generalize k.tmod M = j at *
  have t1 := Int.tmod_lt_of_pos (C : Int) (show 0 < (7 : Int) by omega)
  have t2 := Int.tmod_nonneg 7 (show 0 ≤ (C : Int) by omega)
  have hMC : M * C ≤ 16777216 := Nat.mul_le_mul h1 c1
  have hMC0 : 0 < M * C := Nat.mul_pos h0 c0
  have hjC : -(16777216 : Int) ≤ j * C ∧ j * C ≤ 16777216 := by
    have u1 : j * C ≤ M * C := Int.mul_le_mul_of_nonneg_right (by omega) (by omega)
    have u2 : -(M : Int) * C ≤ j * C := Int.mul_le_mul_of_nonneg_right (by omega) (by omega)
    rw [Int.neg_mul] at u2
    have u3 : ((M * C : Nat) : Int) ≤ 16777216 := by omega
    rw [Int.natCast_mul] at u3
    omega
  have hz : (M : Int) * C = (M * C : Nat) := by push_cast; rfl
  have hMt : -(20000 : Int) ≤ M * ((C : Int).tmod 7 - 3) ∧ M * ((C : Int).tmod 7 - 3) ≤ 20000 := by
    have u1 : (M : Int) * ((C : Int).tmod 7 - 3) ≤ M * 4 := Int.mul_le_mul_of_nonneg_left (by omega) (by omega)
    have u2 : (M : Int) * (-3) ≤ M * ((C : Int).tmod 7 - 3) := Int.mul_le_mul_of_nonneg_left (by omega) (by omega)
    omega
  unfold tlRun
  rw [hz, w64_mid (x := (C : Int).tmod 7 - 3) (by omega) (by omega), w64_mid (x := (M : Int) * ((C : Int).tmod 7 - 3)) (by omega) (by omega), w64_mid (x := j + (M : Int) * ((C : Int).tmod 7 - 3)) (by omega) (by omega),
    w64_mid (x := j * C) (by omega) (by omega), w64_mid (x := ((M * C : Nat) : Int)) (by omega) (by omega),
    beq_eq_false_iff_ne.2 (show (M : Int) ≠ 0 by omega), okN_iff.2 (show 1 ≤ (M : Int) ∧ (M : Int) ≤ 67108864 by omega), okN_iff.2 (show 1 ≤ ((M * C : Nat) : Int) ∧ ((M * C : Nat) : Int) ≤ 67108864 by omega)]
  simp only [Bool.not_false, chk, cond_true, cosR_eq, sinR_eq]
  have e1 := pt_mul j h0 c0
  have e2 := pt_whole j ((C : Int).tmod 7 - 3) (M := M)
  rw [e1.1, e1.2, e2.1, e2.2]
  unfold tlEnd
  rw [beq_self_eq_true, beq_self_eq_true]
  rfl
def sp_lLowest : List AV → Option (Bool × AV)
  | [.int .i64 k, .int .i64 n, .int .i64 b] => some (true, .bool true)
  | _ => none
theorem ok_lLowest : EntOk Try.prog 4 (entS false sp_lLowest) := by
  refine contractS (orc := orcTS) (lo := []) Try.func4 (orc_cons ok_tRootG (orc_cons ok_lminus (orc_cons ok_lsureT orc_nil))) (by kernel_rfl) (by kernel_rfl) (by kernel_rfl) (loops_none (by kernel_rfl)) fun args r h => ?_
  unfold sp_lLowest at h
  split at h
  · rename_i k n b
    simp only [Option.some.injEq, Prod.mk.injEq] at h
    obtain ⟨hg, rfl⟩ := h
    exact ⟨by kernel_rfl, .inr rfl, (run_lLowest k n b).trans (tlRun_at k n b)⟩
  · cases h
end
end Go.Proofs.Ytbakldcbaikgpaa
