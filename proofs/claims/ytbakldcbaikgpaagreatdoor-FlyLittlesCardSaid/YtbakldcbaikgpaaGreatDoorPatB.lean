/- The texts Pat2, Scale1, Ref1, Scale2, Rn4, joined. Own work. -/
import Derived.Test.YtbakldcbaikgpaaGreatDoorRndA
/- pat: Take, Class, IsNaN, Finite. Own work. -/
namespace Go.Proofs.YtbakldcbaikgpaaGreatDoor
set_option maxRecDepth 100000
noncomputable section
/-! ### Bits of words -/
theorem andU (x y : Nat) (hx : x < 18446744073709551616) (hy : y < 18446744073709551616) : andI .u64 (x : Int) (y : Int) = ((x &&& y : Nat) : Int) := by
  unfold andI
  rw [IntKind.wrap_u64, BitVec.toNat_and]
  simp only [IntKind.bits]
  rw [ofInt_nat x hx, ofInt_nat y hy]
  have : x &&& y ≤ x := Nat.and_le_left
  omega
theorem andS (x y : Nat) (hx : x < 9223372036854775808) (hy : y < 9223372036854775808) : andI .i64 (x : Int) (y : Int) = ((x &&& y : Nat) : Int) := by
  unfold andI
  rw [IntKind.wrap_i64, BitVec.toNat_and]
  simp only [IntKind.bits]
  rw [ofInt_nat x (by omega), ofInt_nat y (by omega)]
  have : x &&& y ≤ x := Nat.and_le_left
  omega
theorem and_low (x n : Nat) : x &&& (2 ^ n - 1) = x % 2 ^ n := Nat.and_two_pow_sub_one_eq_mod x n
theorem and_bit (x n : Nat) : x &&& 2 ^ n = x / 2 ^ n % 2 * 2 ^ n := by
  apply Nat.eq_of_testBit_eq
  intro j
  rw [Nat.testBit_and, Nat.testBit_two_pow, ← Nat.shiftLeft_eq, Nat.testBit_shiftLeft]
  by_cases h : n = j
  · subst h
    rw [Nat.sub_self, Nat.testBit_zero, Nat.mod_mod, Nat.testBit_eq_decide_div_mod_eq]
    simp
  · have h1 : decide (n = j) = false := decide_eq_false h
    rw [h1, Bool.and_false]
    by_cases h2 : n ≤ j
    · have h3 : j - n = j - n - 1 + 1 := by omega
      have h4 : (x / 2 ^ n % 2).testBit (j - n) = false := by
        rw [h3, Nat.testBit_succ]
        have : x / 2 ^ n % 2 / 2 = 0 := by omega
        rw [this, Nat.zero_testBit]
      rw [h4, Bool.and_false]
    · have : decide (j ≥ n) = false := decide_eq_false (by omega)
      rw [this, Bool.false_and]
/-! ### What a pattern is made of -/
def pE (p : Nat) : Nat := p / 4503599627370496 % 2048
def pF (p : Nat) : Nat := p % 4503599627370496
def clN (p : Nat) : Int := if pE p = 2047 then (if pF p = 0 then 3 else if pF p / 2251799813685248 % 2 = 1 then 4 else 5) else if 0 < pE p then 2 else if 0 < pF p then 1 else 0
def exN (p : Nat) : Int := if pE p = 2047 then 0 else if 0 < pE p then (pE p : Int) - 1075 else -1074
def sigN (p : Nat) : Nat := if pE p = 2047 then pF p else if 0 < pE p then pF p + 4503599627370496 else pF p
def tM (p : Nat) : Bool := stk (decide (9223372036854775808 ≤ p))
def tC (p : Nat) : Int := stk (clN p)
def tX (p : Nat) : Int := stk (exN p)
def tS (p : Nat) : Nat := stk (sigN p)
def sp_take : List AV → Option (Bool × AV)
  | [.int .u64 p] => some (inU p, .st [.bool (tM p.toNat), .int .i64 (tC p.toNat), .int .i64 (tX p.toNat), .int .u64 ((tS p.toNat : Nat) : Int)])
  | _ => none
def tkL (b : Bool) (c x s : Int) : Option AV := some (.st [.bool b, .int .i64 c, .int .i64 x, .int .u64 s])
def tk5 (b : Bool) (s : Int) : Option AV := bif decide (s > 0) then tkL b 1 (-1074) s else tkL b 0 (-1074) s
def tk4 (b : Bool) (e s : Int) : Option AV := bif decide (e > 0) then tkL b 2 (w64 (w64 (e + (-1074)) - 1)) (orI .u64 s 4503599627370496) else tk5 b s
def tk3 (b : Bool) (e s : Int) : Option AV := bif e == 2047 then tkL b 5 0 s else tk4 b e s
def tk2 (b : Bool) (e s : Int) : Option AV := bif e == 2047 then (bif (andI .u64 s 2251799813685248) != 0 then tkL b 4 0 s else tk3 b e s) else tk3 b e s
def tk1 (b : Bool) (e s : Int) : Option AV := bif e == 2047 then (bif s == 0 then tkL b 3 0 s else tk2 b e s) else tk2 b e s
theorem run_take (p : Int) : callA (env Tryz.f112.ntmps [] []) (bodyC Tryz.f112) Tryz.f112.results.toList (slots 0 [.int .u64 p]) some =
    tk1 (andI .u64 p 9223372036854775808 != 0) (andI .i64 (w64 (shrI .u64 p 52)) 2047) (andI .u64 p 4503599627370495) := by kernel_rfl
theorem tk_at (b : Bool) (E F : Nat) (hE : E < 2048) (hF : F < 4503599627370496) : tk1 b (E : Int) (F : Int) =
    some (.st [.bool b, .int .i64 (if E = 2047 then (if F = 0 then 3 else if F / 2251799813685248 % 2 = 1 then 4 else 5) else if 0 < E then 2 else if 0 < F then 1 else 0), .int .i64 (if E = 2047 then 0 else if 0 < E then (E : Int) - 1075 else -1074),
      .int .u64 (((if E = 2047 then F else if 0 < E then F + 4503599627370496 else F) : Nat) : Int)]) := by
  have h4 : tk4 b (E : Int) (F : Int) = some (.st [.bool b, .int .i64 (if 0 < E then 2 else if 0 < F then 1 else 0), .int .i64 (if 0 < E then (E : Int) - 1075 else -1074), .int .u64 (((if 0 < E then F + 4503599627370496 else F) : Nat) : Int)]) := by
    unfold tk4 tk5 tkL
    by_cases h0 : 0 < E
    · have e1 : decide ((E : Int) > 0) = true := decide_eq_true (by omega)
      have e2 : w64 (w64 ((E : Int) + -1074) - 1) = (E : Int) - 1075 := by rw [w64_mid (x := (E : Int) + -1074) (by omega) (by omega), w64_mid (by omega) (by omega)]; omega
      have e3 : orI .u64 (F : Int) 4503599627370496 = ((F + 4503599627370496 : Nat) : Int) := by
        rw [orI_comm]
        have := orI_add 1 F 52 (by decide) hF (by decide)
        rw [show (1 * 2 ^ 52 : Nat) = 4503599627370496 from rfl, Nat.add_comm] at this
        exact this
      rw [e1, e2, e3, if_pos h0, if_pos h0, if_pos h0]
      rfl
    · have e1 : decide ((E : Int) > 0) = false := decide_eq_false (by omega)
      rw [e1, if_neg h0, if_neg h0, if_neg h0]
      by_cases h1 : 0 < F
      · rw [decide_eq_true (show (F : Int) > 0 by omega), if_pos h1]; rfl
      · rw [decide_eq_false (show ¬ (F : Int) > 0 by omega), if_neg h1]; rfl
  unfold tk1 tk2 tk3
  rw [h4]
  clear h4
  by_cases h1 : E = 2047
  · have e1 : ((E : Int) == 2047) = true := beq_iff_eq.2 (by omega)
    rw [e1, if_pos h1, if_pos h1, if_pos h1]
    simp only [cond_true]
    by_cases h2 : F = 0
    · rw [show ((F : Int) == 0) = true from beq_iff_eq.2 (by omega), if_pos h2]; rfl
    · have e3 : ((andI .u64 (F : Int) 2251799813685248) != 0) = decide (F / 2251799813685248 % 2 = 1) := by
        have := andU F 2251799813685248 (by omega) (by omega)
        rw [show ((2251799813685248 : Nat) : Int) = 2251799813685248 from rfl] at this
        rw [this, show (2251799813685248 : Nat) = 2 ^ 51 from rfl, and_bit]
        by_cases h3 : F / 2 ^ 51 % 2 = 1
        · rw [h3]; rfl
        · rw [show F / 2 ^ 51 % 2 = 0 by omega]; rfl
      rw [show ((F : Int) == 0) = false from beq_eq_false_iff_ne.2 (by omega), if_neg h2, e3]
      by_cases h3 : F / 2251799813685248 % 2 = 1
      · rw [decide_eq_true h3, if_pos h3]; rfl
      · rw [decide_eq_false h3, if_neg h3]; rfl
  · have e1 : ((E : Int) == 2047) = false := beq_eq_false_iff_ne.2 (by omega)
    rw [e1, if_neg h1, if_neg h1, if_neg h1]
    rfl
theorem ok_take : EntOk Tryz.prog 112 (entS false sp_take) := by
  refine contractS (orc := []) (lo := []) Tryz.func112 orc_nil (by kernel_rfl) (by kernel_rfl) (by kernel_rfl) (loops_none (by kernel_rfl)) fun args r h => ?_
  unfold sp_take at h
  split at h
  · rename_i p
    simp only [Option.some.injEq, Prod.mk.injEq] at h
    obtain ⟨hp, rfl⟩ := h
    obtain ⟨m, rfl, hm⟩ := nat_of hp
    refine ⟨by kernel_rfl, .inr rfl, (run_take m).trans ?_⟩
    have e1 : (andI .u64 (m : Int) 9223372036854775808 != 0) = decide (9223372036854775808 ≤ m) := by
      rw [and63 m hm]
      unfold sgnN
      by_cases h : 9223372036854775808 ≤ m
      · rw [decide_eq_true h, show m / 9223372036854775808 % 2 = 1 by omega]; rfl
      · rw [decide_eq_false h, show m / 9223372036854775808 % 2 = 0 by omega]; rfl
    have e2 : andI .i64 (w64 (shrI .u64 (m : Int) 52)) 2047 = ((m / 4503599627370496 % 2048 : Nat) : Int) := by
      have h1 := shrI_nat m 52 (by decide)
      rw [show ((52 : Nat) : Int) = 52 from rfl] at h1
      rw [h1, w64_mid (by omega) (by omega)]
      have h2 := andS (m / 2 ^ 52) 2047 (by omega) (by omega)
      rw [show ((2047 : Nat) : Int) = 2047 from rfl] at h2
      rw [h2]
      have h3 := and_low (m / 2 ^ 52) 11
      rw [show (2 ^ 11 - 1 : Nat) = 2047 from rfl] at h3
      rw [h3]
    have e3 : andI .u64 (m : Int) 4503599627370495 = ((m % 4503599627370496 : Nat) : Int) := by
      have h2 := andU m 4503599627370495 (by omega) (by omega)
      rw [show ((4503599627370495 : Nat) : Int) = 4503599627370495 from rfl] at h2
      rw [h2]
      have h3 := and_low m 52
      rw [show (2 ^ 52 - 1 : Nat) = 4503599627370495 from rfl] at h3
      rw [h3]
    rw [e1, e2, e3, tk_at _ _ _ (Nat.mod_lt _ (by decide)) (Nat.mod_lt _ (by decide)), Int.toNat_natCast]
    unfold tM tC tX tS
    simp only [stk_eq]
    rfl
  · cases h
def nanB (p : Nat) : Bool := stk (decide (infN < absN p))
def finB (p : Nat) : Bool := stk (decide (absN p < infN))
def sp_isNaN : List AV → Option (Bool × AV)
  | [.int .u64 p] => some (inU p, .bool (nanB p.toNat))
  | _ => none
def sp_fin : List AV → Option (Bool × AV)
  | [.int .u64 p] => some (inU p, .bool (finB p.toNat))
  | _ => none
def sp_class : List AV → Option (Bool × AV)
  | [.int .u64 p] => some (inU p, .int .i64 (tC p.toNat))
  | _ => none
def orcAbs : List (FuncId × Ent) := [(102, entS false sp_pAbs)]
theorem run_isNaN (p : Int) : callA (env Tryz.f66.ntmps orcAbs []) (bodyC Tryz.f66) Tryz.f66.results.toList (slots 0 [.int .u64 p]) some =
    chk (inU p) (some (.bool (decide (((absN p.toNat : Nat) : Int) > 9218868437227405312)))) := by kernel_rfl
theorem run_fin (p : Int) : callA (env Tryz.f69.ntmps orcAbs []) (bodyC Tryz.f69) Tryz.f69.results.toList (slots 0 [.int .u64 p]) some =
    chk (inU p) (some (.bool (decide (((absN p.toNat : Nat) : Int) < 9218868437227405312)))) := by kernel_rfl
theorem run_class (p : Int) : callA (env Tryz.f76.ntmps [(112, entS false sp_take)] []) (bodyC Tryz.f76) Tryz.f76.results.toList (slots 0 [.int .u64 p]) some =
    chk (inU p) (some (.int .i64 (tC p.toNat))) := by kernel_rfl
theorem ok_isNaN : EntOk Tryz.prog 66 (entS false sp_isNaN) := by
  refine contractS (orc := orcAbs) (lo := []) Tryz.func66 (orc_cons ok_pAbs orc_nil) (by kernel_rfl) (by kernel_rfl) (by kernel_rfl) (loops_none (by kernel_rfl)) fun args r h => ?_
  unfold sp_isNaN at h
  split at h
  · rename_i p
    simp only [Option.some.injEq, Prod.mk.injEq] at h
    obtain ⟨hp, rfl⟩ := h
    refine ⟨by kernel_rfl, .inr rfl, (run_isNaN p).trans ?_⟩
    rw [hp]
    unfold nanB infN
    rw [stk_eq]
    have : decide (((absN p.toNat : Nat) : Int) > 9218868437227405312) = decide (9218868437227405312 < absN p.toNat) := decide_eq_decide.2 (by omega)
    rw [this]
    rfl
  · cases h
theorem ok_fin : EntOk Tryz.prog 69 (entS false sp_fin) := by
  refine contractS (orc := orcAbs) (lo := []) Tryz.func69 (orc_cons ok_pAbs orc_nil) (by kernel_rfl) (by kernel_rfl) (by kernel_rfl) (loops_none (by kernel_rfl)) fun args r h => ?_
  unfold sp_fin at h
  split at h
  · rename_i p
    simp only [Option.some.injEq, Prod.mk.injEq] at h
    obtain ⟨hp, rfl⟩ := h
    refine ⟨by kernel_rfl, .inr rfl, (run_fin p).trans ?_⟩
    rw [hp]
    unfold finB infN
    rw [stk_eq]
    have : decide (((absN p.toNat : Nat) : Int) < 9218868437227405312) = decide (absN p.toNat < 9218868437227405312) := decide_eq_decide.2 (by omega)
    rw [this]
    rfl
  · cases h
theorem ok_class : EntOk Tryz.prog 76 (entS false sp_class) := by
  refine contractS (orc := [(112, entS false sp_take)]) (lo := []) Tryz.func76 (orc_cons ok_take orc_nil) (by kernel_rfl) (by kernel_rfl) (by kernel_rfl) (loops_none (by kernel_rfl)) fun args r h => ?_
  unfold sp_class at h
  split at h
  · rename_i p
    simp only [Option.some.injEq, Prod.mk.injEq] at h
    obtain ⟨hp, rfl⟩ := h
    refine ⟨by kernel_rfl, .inr rfl, (run_class p).trans ?_⟩
    rw [hp]
    rfl
  · cases h
end
end Go.Proofs.YtbakldcbaikgpaaGreatDoor
/- rnd.Of; scale: none, power, Up, Down. Own work. -/
namespace Go.Proofs.YtbakldcbaikgpaaGreatDoor
set_option maxRecDepth 100000
noncomputable section
def nanC : Nat := 9221120237041090560
/-! ### none -/
/-! ### power -/
theorem sig_lt (p : Nat) : sigN p < 9007199254740992 := by
  have : pF p < 4503599627370496 := Nat.mod_lt _ (by decide)
  unfold sigN
  split
  · omega
  · split <;> omega
theorem ex_range (p : Nat) : -1074 ≤ exN p ∧ exN p ≤ 971 := by
  have : pE p < 2048 := Nat.mod_lt _ (by decide)
  unfold exN
  split
  · omega
  · split <;> omega
theorem len_sig (p : Nat) : lenN (sigN p) ≤ 53 := lenN_le.2 (sig_lt p)
theorem valW_sig (p : Nat) : valW (toW (sigN p)) = sigN p := by
  have := sig_lt p
  rw [valW_toW]
  exact Nat.mod_eq_of_lt (by omega)
theorem inU_sig (p : Nat) : inU ((sigN p : Nat) : Int) = true := by
  have := sig_lt p
  exact inU_iff.2 (by omega)
/-! ### Of -/
def sp_rOf : List AV → Option Br
  | [.int .u64 p] => some (.chk (inU p) (.br (finB p.toNat) (.leaf (.tup [.st [.bool (tM p.toNat), .int .i64 (tX p.toNat), .ints 4 .u64 (toW (tS p.toNat)), .bool false], .nili]))
      (.leaf (.tup [.st [.bool false, .int .i64 0, .ints 4 .u64 [0, 0, 0, 0], .bool false], .iface 59 (.int .i64 1)]))))
  | _ => none
def orcOf : List (FuncId × Ent) := [(112, entS false sp_take), (69, entS false sp_fin), (114, entS false sp_wOf)]
theorem run_rOf (p : Int) : callA (env Tryz.f73.ntmps orcOf []) (bodyC Tryz.f73) Tryz.f73.results.toList (slots 0 [.int .u64 p]) some =
    chk (inU p) (chk (inU p) (bif !(finB p.toNat) then some (.tup [.st [.bool false, .int .i64 0, .ints 4 .u64 [0, 0, 0, 0], .bool false], .iface 59 (.int .i64 1)]) else
      chk (inU ((tS p.toNat : Nat) : Int)) (some (.tup [.st [.bool (tM p.toNat), .int .i64 (tX p.toNat), .ints 4 .u64 (toW ((tS p.toNat : Nat) : Int).toNat), .bool false], .nili])))) := by kernel_rfl
theorem ok_rOf : EntOk Tryz.prog 73 (entB false sp_rOf) := by
  refine contractB (orc := orcOf) (lo := []) Tryz.func73 (orc_cons ok_take (orc_cons ok_fin (orc_cons ok_wOf orc_nil))) (by kernel_rfl) (by kernel_rfl) (by kernel_rfl) (loops_none (by kernel_rfl)) fun args t h => ?_
  unfold sp_rOf at h
  split at h
  · rename_i p
    simp only [Option.some.injEq] at h
    subst h
    refine ⟨by kernel_rfl, .inr rfl, fun r hr => (run_rOf p).trans ?_⟩
    have hs : inU ((tS p.toNat : Nat) : Int) = true := by unfold tS; rw [stk_eq]; exact inU_sig _
    simp only [Br.run] at hr
    rw [hs, Int.toNat_natCast]
    cases hp : inU p with
    | false => rw [hp] at hr; cases hr
    | true =>
      rw [hp] at hr
      cases hf : finB p.toNat with
      | true => rw [hf] at hr; exact hr
      | false => rw [hf] at hr; exact hr
  · cases h
/-! ### Up, Down -/
theorem neg_lt (p : Nat) : negN p < 18446744073709551616 := Nat.mod_lt _ (by decide)
end
end Go.Proofs.YtbakldcbaikgpaaGreatDoor
/- The document's patterns: Take, NaN, Abs, Neg, None, Up, Down. Own work. -/
namespace Go.Proofs.YtbakldcbaikgpaaGreatDoor
set_option maxRecDepth 100000
noncomputable section
theorem tdivN (m k : Nat) : ((m : Int).tdiv (k : Int)) = ((m / k : Nat) : Int) := by
  rw [Int.tdiv_eq_ediv_of_nonneg (by omega), Int.natCast_ediv]
theorem tmodN (m k : Nat) : ((m : Int).tmod (k : Int)) = ((m % k : Nat) : Int) := by
  rw [Int.tmod_eq_emod_of_nonneg (by omega), Int.natCast_emod]
def rt3 (b : Bool) (f : Int) : Option AV := bif decide (f ≥ 2251799813685248) then tkL b 4 0 f else bif decide (f > 0) then tkL b 5 0 f else tkL b 3 0 f
def rt0 (b : Bool) (f : Int) : Option AV := bif decide (f > 0) then tkL b 1 (-1074) f else tkL b 0 (-1074) f
def rt (b : Bool) (g f : Int) : Option AV := bif g == 2047 then rt3 b f else bif g == 0 then rt0 b f else tkL b 2 (w64 (w64 g - 1075)) (u64 (f + 4503599627370496))
theorem run_rTake (p : Int) : callA (env Tryz.f119.ntmps [] []) (bodyC Tryz.f119) Tryz.f119.results.toList (slots 0 [.int .u64 p]) some =
    rt (decide (p ≥ 9223372036854775808)) ((u64 (p.tdiv 4503599627370496)).tmod 2048) (p.tmod 4503599627370496) := by kernel_rfl
theorem rt_at (b : Bool) (E F : Nat) (hE : E < 2048) (hF : F < 4503599627370496) : rt b (E : Int) (F : Int) =
    some (.st [.bool b, .int .i64 (if E = 2047 then (if F = 0 then 3 else if F / 2251799813685248 % 2 = 1 then 4 else 5) else if 0 < E then 2 else if 0 < F then 1 else 0), .int .i64 (if E = 2047 then 0 else if 0 < E then (E : Int) - 1075 else -1074),
      .int .u64 (((if E = 2047 then F else if 0 < E then F + 4503599627370496 else F) : Nat) : Int)]) := by
  unfold rt rt3 rt0 tkL
  by_cases h1 : E = 2047
  · have e1 : ((E : Int) == 2047) = true := beq_iff_eq.2 (by omega)
    rw [e1, if_pos h1, if_pos h1, if_pos h1]
    by_cases h2 : F = 0
    · rw [decide_eq_false (show ¬ (F : Int) ≥ 2251799813685248 by omega), decide_eq_false (show ¬ (F : Int) > 0 by omega), if_pos h2]; rfl
    · rw [if_neg h2]
      by_cases h3 : F / 2251799813685248 % 2 = 1
      · rw [decide_eq_true (show (F : Int) ≥ 2251799813685248 by omega), if_pos h3]; rfl
      · rw [decide_eq_false (show ¬ (F : Int) ≥ 2251799813685248 by omega), decide_eq_true (show (F : Int) > 0 by omega), if_neg h3]; rfl
  · have e1 : ((E : Int) == 2047) = false := beq_eq_false_iff_ne.2 (by omega)
    rw [e1, if_neg h1, if_neg h1, if_neg h1]
    by_cases h0 : 0 < E
    · have e2 : ((E : Int) == 0) = false := beq_eq_false_iff_ne.2 (by omega)
      have e3 : w64 (w64 (E : Int) - 1075) = (E : Int) - 1075 := by rw [w64_mid (x := (E : Int)) (by omega) (by omega), w64_mid (by omega) (by omega)]
      have e4 : u64 ((F : Int) + 4503599627370496) = ((F + 4503599627370496 : Nat) : Int) := u64_nat (n := F + 4503599627370496) (by omega)
      rw [e2, e3, e4, if_pos h0, if_pos h0, if_pos h0]; rfl
    · have e2 : ((E : Int) == 0) = true := beq_iff_eq.2 (by omega)
      rw [e2, if_neg h0, if_neg h0, if_neg h0]
      by_cases h2 : 0 < F
      · rw [decide_eq_true (show (F : Int) > 0 by omega), if_pos h2]; rfl
      · rw [decide_eq_false (show ¬ (F : Int) > 0 by omega), if_neg h2]; rfl
theorem ok_rTake : EntOk Tryz.prog 119 (entS false sp_take) := by
  refine contractS (orc := []) (lo := []) Tryz.func119 orc_nil (by kernel_rfl) (by kernel_rfl) (by kernel_rfl) (loops_none (by kernel_rfl)) fun args r h => ?_
  unfold sp_take at h
  split at h
  · rename_i p
    simp only [Option.some.injEq, Prod.mk.injEq] at h
    obtain ⟨hp, rfl⟩ := h
    obtain ⟨m, rfl, hm⟩ := nat_of hp
    refine ⟨by kernel_rfl, .inr rfl, (run_rTake m).trans ?_⟩
    have e1 : decide ((m : Int) ≥ 9223372036854775808) = decide (9223372036854775808 ≤ m) := decide_eq_decide.2 (by omega)
    have e2 : (u64 ((m : Int).tdiv 4503599627370496)).tmod 2048 = ((m / 4503599627370496 % 2048 : Nat) : Int) := by
      have h1 := tdivN m 4503599627370496
      rw [show ((4503599627370496 : Nat) : Int) = 4503599627370496 from rfl] at h1
      rw [h1, u64_nat (by omega)]
      exact tmodN (m / 4503599627370496) 2048
    have e3 : (m : Int).tmod 4503599627370496 = ((m % 4503599627370496 : Nat) : Int) := tmodN m 4503599627370496
    rw [e1, e2, e3, rt_at _ _ _ (Nat.mod_lt _ (by decide)) (Nat.mod_lt _ (by decide)), Int.toNat_natCast]
    unfold tM tC tX tS
    simp only [stk_eq]
    rfl
  · cases h
/-- Of what class is no number. -/
theorem class_nan (p : Nat) : decide (clN p > 3) = decide (infN < absN p) := by
  refine decide_eq_decide.2 ?_
  have h1 : absN p = pE p * 4503599627370496 + pF p := by unfold absN pE pF; omega
  have h2 : pE p < 2048 := Nat.mod_lt _ (by decide)
  have h3 : pF p < 4503599627370496 := Nat.mod_lt _ (by decide)
  unfold clN infN
  rw [h1]
  generalize pE p = E at *
  generalize pF p = F at *
  split
  · split
    · omega
    · split <;> omega
  · split
    · omega
    · split <;> omega
def orcRT : List (FuncId × Ent) := [(119, entS false sp_take)]
theorem run_rNaN (p : Int) : callA (env Tryz.f78.ntmps orcRT []) (bodyC Tryz.f78) Tryz.f78.results.toList (slots 0 [.int .u64 p]) some =
    chk (inU p) (some (.bool (decide (tC p.toNat > 3)))) := by kernel_rfl
theorem ok_rNaN : EntOk Tryz.prog 78 (entS false sp_isNaN) := by
  refine contractS (orc := orcRT) (lo := []) Tryz.func78 (orc_cons ok_rTake orc_nil) (by kernel_rfl) (by kernel_rfl) (by kernel_rfl) (loops_none (by kernel_rfl)) fun args r h => ?_
  unfold sp_isNaN at h
  split at h
  · rename_i p
    simp only [Option.some.injEq, Prod.mk.injEq] at h
    obtain ⟨hp, rfl⟩ := h
    refine ⟨by kernel_rfl, .inr rfl, (run_rNaN p).trans ?_⟩
    unfold nanB tC
    rw [hp, stk_eq, stk_eq, class_nan]
    rfl
  · cases h
theorem run_rAbs (p : Int) : callA (env Tryz.f81.ntmps [] []) (bodyC Tryz.f81) Tryz.f81.results.toList (slots 0 [.int .u64 p]) some = some (.int .u64 (p.tmod 9223372036854775808)) := by kernel_rfl
theorem ok_rAbs : EntOk Tryz.prog 81 (entS false sp_pAbs) := by
  refine contractS (orc := []) (lo := []) Tryz.func81 orc_nil (by kernel_rfl) (by kernel_rfl) (by kernel_rfl) (loops_none (by kernel_rfl)) fun args r h => ?_
  unfold sp_pAbs at h
  split at h
  · rename_i p
    simp only [Option.some.injEq, Prod.mk.injEq] at h
    obtain ⟨hp, rfl⟩ := h
    obtain ⟨m, rfl, hm⟩ := nat_of hp
    refine ⟨by kernel_rfl, .inr rfl, (run_rAbs m).trans ?_⟩
    have := tmodN m 9223372036854775808
    rw [show ((9223372036854775808 : Nat) : Int) = 9223372036854775808 from rfl] at this
    rw [this, Int.toNat_natCast]
    rfl
  · cases h
theorem run_rNeg (p : Int) : callA (env Tryz.f51.ntmps [] []) (bodyC Tryz.f51) Tryz.f51.results.toList (slots 0 [.int .u64 p]) some =
    bif decide (p ≥ 9223372036854775808) then some (.int .u64 (u64 (p - 9223372036854775808))) else some (.int .u64 (u64 (p + 9223372036854775808))) := by kernel_rfl
theorem ok_rNeg : EntOk Tryz.prog 51 (entS false sp_pNeg) := by
  refine contractS (orc := []) (lo := []) Tryz.func51 orc_nil (by kernel_rfl) (by kernel_rfl) (by kernel_rfl) (loops_none (by kernel_rfl)) fun args r h => ?_
  unfold sp_pNeg at h
  split at h
  · rename_i p
    simp only [Option.some.injEq, Prod.mk.injEq] at h
    obtain ⟨hp, rfl⟩ := h
    obtain ⟨m, rfl, hm⟩ := nat_of hp
    refine ⟨by kernel_rfl, .inr rfl, (run_rNeg m).trans ?_⟩
    rw [Int.toNat_natCast]
    by_cases h : 9223372036854775808 ≤ m
    · have e1 : negN m = m - 9223372036854775808 := by unfold negN; omega
      have e2 : u64 ((m : Int) - 9223372036854775808) = ((m - 9223372036854775808 : Nat) : Int) := by
        rw [show (m : Int) - 9223372036854775808 = ((m - 9223372036854775808 : Nat) : Int) by omega]
        exact u64_nat (by omega)
      rw [decide_eq_true (show (m : Int) ≥ 9223372036854775808 by omega), e1, e2]; rfl
    · have e1 : negN m = m + 9223372036854775808 := by unfold negN; omega
      have e2 : u64 ((m : Int) + 9223372036854775808) = ((m + 9223372036854775808 : Nat) : Int) := u64_nat (n := m + 9223372036854775808) (by omega)
      rw [decide_eq_false (show ¬ (m : Int) ≥ 9223372036854775808 by omega), e1, e2]; rfl
  · cases h
def noGN (p q : Nat) : Nat := if clN p = 5 ∨ clN q = 5 then 1 else 0
def noG (p q : Nat) : Nat := stk (noGN p q)
def sp_rNone : List AV → Option (Bool × AV)
  | [.int .u64 p, .int .u64 q] => some (inU p && inU q, .int .i64 ((noG p.toNat q.toNat : Nat) : Int))
  | _ => none
theorem run_rNone (p q : Int) : callA (env Tryz.f79.ntmps orcRT []) (bodyC Tryz.f79) Tryz.f79.results.toList (slots 0 [.int .u64 p, .int .u64 q]) some =
    chk (inU p) (bif tC p.toNat == 5 then some (.int .i64 1) else chk (inU q) (bif tC q.toNat == 5 then some (.int .i64 1) else some (.int .i64 0))) := by kernel_rfl
theorem ok_rNone : EntOk Tryz.prog 79 (entS false sp_rNone) := by
  refine contractS (orc := orcRT) (lo := []) Tryz.func79 (orc_cons ok_rTake orc_nil) (by kernel_rfl) (by kernel_rfl) (by kernel_rfl) (loops_none (by kernel_rfl)) fun args r h => ?_
  unfold sp_rNone at h
  split at h
  · rename_i p q
    simp only [Option.some.injEq, Prod.mk.injEq, Bool.and_eq_true] at h
    obtain ⟨⟨hp, hq⟩, rfl⟩ := h
    refine ⟨by kernel_rfl, .inr rfl, (run_rNone p q).trans ?_⟩
    unfold noG noGN tC
    rw [stk_eq, stk_eq, stk_eq, hp, hq]
    by_cases h5 : clN p.toNat = 5
    · rw [h5, if_pos (.inl rfl)]; rfl
    · rw [beq_eq_false_iff_ne.2 h5]
      by_cases h6 : clN q.toNat = 5
      · rw [h6, if_pos (.inr rfl)]; rfl
      · rw [beq_eq_false_iff_ne.2 h6, if_neg (by simp [h5, h6])]; rfl
  · cases h
/-! ### Up, Down -/
/-- A test of a pattern against a number. -/
theorem eqN (m k : Nat) : ((m : Int) == (k : Int)) = decide (m = k) := by
  by_cases h : m = k
  · subst h; simp
  · rw [decide_eq_false h]; exact beq_eq_false_iff_ne.2 (by omega)
end
end Go.Proofs.YtbakldcbaikgpaaGreatDoor
/- scale: Log, Step, Scale; tillerlaw09.sure; ScaleNexts. Own work. -/
namespace Go.Proofs.YtbakldcbaikgpaaGreatDoor
set_option maxRecDepth 100000
noncomputable section
/-! ### Log -/
/-! ### Step -/
/-! ### Scale -/
/-! ### sure -/
/-! ### ScaleNexts -/
end
end Go.Proofs.YtbakldcbaikgpaaGreatDoor
/- Rounding, on numbers: patterns and the numbers that they are. Plain Lean. Own work. -/
namespace Go.Proofs.YtbakldcbaikgpaaGreatDoor
set_option maxRecDepth 100000
noncomputable section
/-! ### What is rounded is a number, however it is written -/
theorem rnd_same {S T : Nat} {x y : Int} (low : Int) (hx : low ≤ x) (hy : low ≤ y) (h : S * 2 ^ (x - low).toNat = T * 2 ^ (y - low).toNat) (k : Int) (m : Bool) : sizeP m S x k = sizeP m T y k ∧ rndF m S x k = rndF m T y k := by
  have a1 := size_scale S (x - low).toNat x k m
  have a2 := size_scale T (y - low).toNat y k m
  have b1 := F_scale S (x - low).toNat x k m
  have b2 := F_scale T (y - low).toNat y k m
  rw [show x - ((x - low).toNat : Int) = low by omega, h] at a1 b1
  rw [show y - ((y - low).toNat : Int) = low by omega] at a2 b2
  rw [← a1, ← a2, ← b1, ← b2]
  exact ⟨rfl, rfl⟩
/-! ### A pattern is rounded to itself -/
theorem abs_parts (p : Nat) : absN p = pE p * 4503599627370496 + pF p := by unfold absN pE pF; omega
theorem pE_lt (p : Nat) : pE p < 2048 := Nat.mod_lt _ (by decide)
theorem pF_lt (p : Nat) : pF p < 4503599627370496 := Nat.mod_lt _ (by decide)
/-! ### What is exact -/
end
end Go.Proofs.YtbakldcbaikgpaaGreatDoor
