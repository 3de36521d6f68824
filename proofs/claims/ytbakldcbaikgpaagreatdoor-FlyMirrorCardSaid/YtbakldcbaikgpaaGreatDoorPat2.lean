/- pat: Take, Class, IsNaN, Finite. Own work. -/
import Derived.Test.YtbakldcbaikgpaaGreatDoorRnd4
namespace Go.Proofs.YtbakldcbaikgpaaGreatDoor
set_option maxRecDepth 100000
noncomputable section

/-! ### Bits of words -/

theorem andU (x y : Nat) (hx : x < 18446744073709551616) (hy : y < 18446744073709551616) : andI .u64 (x : Int) (y : Int) = ((x &&& y : Nat) : Int) := by
  unfold andI
  rw [IntKind.wrap_u64, BitVec.toNat_and]
  simp only [IntKind.bits]
  rw [ofInt_nat x hx, ofInt_nat y hy]
  have : x &&& y ≤ x := Nat.and_le_left
  omega
theorem andS (x y : Nat) (hx : x < 9223372036854775808) (hy : y < 9223372036854775808) : andI .i64 (x : Int) (y : Int) = ((x &&& y : Nat) : Int) := by
  unfold andI
  rw [IntKind.wrap_i64, BitVec.toNat_and]
  simp only [IntKind.bits]
  rw [ofInt_nat x (by omega), ofInt_nat y (by omega)]
  have : x &&& y ≤ x := Nat.and_le_left
  omega

theorem and_low (x n : Nat) : x &&& (2 ^ n - 1) = x % 2 ^ n := Nat.and_two_pow_sub_one_eq_mod x n

theorem and_bit (x n : Nat) : x &&& 2 ^ n = x / 2 ^ n % 2 * 2 ^ n := by
  apply Nat.eq_of_testBit_eq
  intro j
  rw [Nat.testBit_and, Nat.testBit_two_pow, ← Nat.shiftLeft_eq, Nat.testBit_shiftLeft]
  by_cases h : n = j
  · subst h
    rw [Nat.sub_self, Nat.testBit_zero, Nat.mod_mod, Nat.testBit_eq_decide_div_mod_eq]
    simp
  · have h1 : decide (n = j) = false := decide_eq_false h
    rw [h1, Bool.and_false]
    by_cases h2 : n ≤ j
    · have h3 : j - n = j - n - 1 + 1 := by omega
      have h4 : (x / 2 ^ n % 2).testBit (j - n) = false := by
        rw [h3, Nat.testBit_succ]
        have : x / 2 ^ n % 2 / 2 = 0 := by omega
        rw [this, Nat.zero_testBit]
      rw [h4, Bool.and_false]
    · have : decide (j ≥ n) = false := decide_eq_false (by omega)
      rw [this, Bool.false_and]

/-! ### What a pattern is made of -/

def pE (p : Nat) : Nat := p / 4503599627370496 % 2048
def pF (p : Nat) : Nat := p % 4503599627370496
def clN (p : Nat) : Int := if pE p = 2047 then (if pF p = 0 then 3 else if pF p / 2251799813685248 % 2 = 1 then 4 else 5) else if 0 < pE p then 2 else if 0 < pF p then 1 else 0
def exN (p : Nat) : Int := if pE p = 2047 then 0 else if 0 < pE p then (pE p : Int) - 1075 else -1074
def sigN (p : Nat) : Nat := if pE p = 2047 then pF p else if 0 < pE p then pF p + 4503599627370496 else pF p

def tM (p : Nat) : Bool := stk (decide (9223372036854775808 ≤ p))
def tC (p : Nat) : Int := stk (clN p)
def tX (p : Nat) : Int := stk (exN p)
def tS (p : Nat) : Nat := stk (sigN p)

def sp_take : List AV → Option (Bool × AV)
  | [.int .u64 p] => some (inU p, .st [.bool (tM p.toNat), .int .i64 (tC p.toNat), .int .i64 (tX p.toNat), .int .u64 ((tS p.toNat : Nat) : Int)])
  | _ => none

def tkL (b : Bool) (c x s : Int) : Option AV := some (.st [.bool b, .int .i64 c, .int .i64 x, .int .u64 s])
def tk5 (b : Bool) (s : Int) : Option AV := bif decide (s > 0) then tkL b 1 (-1074) s else tkL b 0 (-1074) s
def tk4 (b : Bool) (e s : Int) : Option AV := bif decide (e > 0) then tkL b 2 (w64 (w64 (e + (-1074)) - 1)) (orI .u64 s 4503599627370496) else tk5 b s
def tk3 (b : Bool) (e s : Int) : Option AV := bif e == 2047 then tkL b 5 0 s else tk4 b e s
def tk2 (b : Bool) (e s : Int) : Option AV := bif e == 2047 then (bif (andI .u64 s 2251799813685248) != 0 then tkL b 4 0 s else tk3 b e s) else tk3 b e s
def tk1 (b : Bool) (e s : Int) : Option AV := bif e == 2047 then (bif s == 0 then tkL b 3 0 s else tk2 b e s) else tk2 b e s

theorem run_take (p : Int) : callA (env Tryz.f112.ntmps [] []) (bodyC Tryz.f112) Tryz.f112.results.toList (slots 0 [.int .u64 p]) some =
    tk1 (andI .u64 p 9223372036854775808 != 0) (andI .i64 (w64 (shrI .u64 p 52)) 2047) (andI .u64 p 4503599627370495) := by kernel_rfl

theorem tk_at (b : Bool) (E F : Nat) (hE : E < 2048) (hF : F < 4503599627370496) : tk1 b (E : Int) (F : Int) =
    some (.st [.bool b, .int .i64 (if E = 2047 then (if F = 0 then 3 else if F / 2251799813685248 % 2 = 1 then 4 else 5) else if 0 < E then 2 else if 0 < F then 1 else 0), .int .i64 (if E = 2047 then 0 else if 0 < E then (E : Int) - 1075 else -1074),
      .int .u64 (((if E = 2047 then F else if 0 < E then F + 4503599627370496 else F) : Nat) : Int)]) := by
  have h4 : tk4 b (E : Int) (F : Int) = some (.st [.bool b, .int .i64 (if 0 < E then 2 else if 0 < F then 1 else 0), .int .i64 (if 0 < E then (E : Int) - 1075 else -1074), .int .u64 (((if 0 < E then F + 4503599627370496 else F) : Nat) : Int)]) := by
    unfold tk4 tk5 tkL
    by_cases h0 : 0 < E
    · have e1 : decide ((E : Int) > 0) = true := decide_eq_true (by omega)
      have e2 : w64 (w64 ((E : Int) + -1074) - 1) = (E : Int) - 1075 := by rw [w64_mid (x := (E : Int) + -1074) (by omega) (by omega), w64_mid (by omega) (by omega)]; omega
      have e3 : orI .u64 (F : Int) 4503599627370496 = ((F + 4503599627370496 : Nat) : Int) := by
        rw [orI_comm]
        have := orI_add 1 F 52 (by decide) hF (by decide)
        rw [show (1 * 2 ^ 52 : Nat) = 4503599627370496 from rfl, Nat.add_comm] at this
        exact this
      rw [e1, e2, e3, if_pos h0, if_pos h0, if_pos h0]
      rfl
    · have e1 : decide ((E : Int) > 0) = false := decide_eq_false (by omega)
      rw [e1, if_neg h0, if_neg h0, if_neg h0]
      by_cases h1 : 0 < F
      · rw [decide_eq_true (show (F : Int) > 0 by omega), if_pos h1]; rfl
      · rw [decide_eq_false (show ¬ (F : Int) > 0 by omega), if_neg h1]; rfl
  unfold tk1 tk2 tk3
  rw [h4]
  clear h4
  by_cases h1 : E = 2047
  · have e1 : ((E : Int) == 2047) = true := beq_iff_eq.2 (by omega)
    rw [e1, if_pos h1, if_pos h1, if_pos h1]
    simp only [cond_true]
    by_cases h2 : F = 0
    · rw [show ((F : Int) == 0) = true from beq_iff_eq.2 (by omega), if_pos h2]; rfl
    · have e3 : ((andI .u64 (F : Int) 2251799813685248) != 0) = decide (F / 2251799813685248 % 2 = 1) := by
        have := andU F 2251799813685248 (by omega) (by omega)
        rw [show ((2251799813685248 : Nat) : Int) = 2251799813685248 from rfl] at this
        rw [this, show (2251799813685248 : Nat) = 2 ^ 51 from rfl, and_bit]
        by_cases h3 : F / 2 ^ 51 % 2 = 1
        · rw [h3]; rfl
        · rw [show F / 2 ^ 51 % 2 = 0 by omega]; rfl
      rw [show ((F : Int) == 0) = false from beq_eq_false_iff_ne.2 (by omega), if_neg h2, e3]
      by_cases h3 : F / 2251799813685248 % 2 = 1
      · rw [decide_eq_true h3, if_pos h3]; rfl
      · rw [decide_eq_false h3, if_neg h3]; rfl
  · have e1 : ((E : Int) == 2047) = false := beq_eq_false_iff_ne.2 (by omega)
    rw [e1, if_neg h1, if_neg h1, if_neg h1]
    rfl

theorem ok_take : EntOk Tryz.prog 112 (entS false sp_take) := by
  refine contractS (orc := []) (lo := []) Tryz.func112 orc_nil (by kernel_rfl) (by kernel_rfl) (by kernel_rfl) (loops_none (by kernel_rfl)) fun args r h => ?_
  unfold sp_take at h
  split at h
  · rename_i p
    simp only [Option.some.injEq, Prod.mk.injEq] at h
    obtain ⟨hp, rfl⟩ := h
    obtain ⟨m, rfl, hm⟩ := nat_of hp
    refine ⟨by kernel_rfl, .inr rfl, (run_take m).trans ?_⟩
    have e1 : (andI .u64 (m : Int) 9223372036854775808 != 0) = decide (9223372036854775808 ≤ m) := by
      rw [and63 m hm]
      unfold sgnN
      by_cases h : 9223372036854775808 ≤ m
      · rw [decide_eq_true h, show m / 9223372036854775808 % 2 = 1 by omega]; rfl
      · rw [decide_eq_false h, show m / 9223372036854775808 % 2 = 0 by omega]; rfl
    have e2 : andI .i64 (w64 (shrI .u64 (m : Int) 52)) 2047 = ((m / 4503599627370496 % 2048 : Nat) : Int) := by
      have h1 := shrI_nat m 52 (by decide)
      rw [show ((52 : Nat) : Int) = 52 from rfl] at h1
      rw [h1, w64_mid (by omega) (by omega)]
      have h2 := andS (m / 2 ^ 52) 2047 (by omega) (by omega)
      rw [show ((2047 : Nat) : Int) = 2047 from rfl] at h2
      rw [h2]
      have h3 := and_low (m / 2 ^ 52) 11
      rw [show (2 ^ 11 - 1 : Nat) = 2047 from rfl] at h3
      rw [h3]
    have e3 : andI .u64 (m : Int) 4503599627370495 = ((m % 4503599627370496 : Nat) : Int) := by
      have h2 := andU m 4503599627370495 (by omega) (by omega)
      rw [show ((4503599627370495 : Nat) : Int) = 4503599627370495 from rfl] at h2
      rw [h2]
      have h3 := and_low m 52
      rw [show (2 ^ 52 - 1 : Nat) = 4503599627370495 from rfl] at h3
      rw [h3]
    rw [e1, e2, e3, tk_at _ _ _ (Nat.mod_lt _ (by decide)) (Nat.mod_lt _ (by decide)), Int.toNat_natCast]
    unfold tM tC tX tS
    simp only [stk_eq]
    rfl
  · cases h

def nanB (p : Nat) : Bool := stk (decide (infN < absN p))
def finB (p : Nat) : Bool := stk (decide (absN p < infN))

def sp_isNaN : List AV → Option (Bool × AV)
  | [.int .u64 p] => some (inU p, .bool (nanB p.toNat))
  | _ => none
def sp_fin : List AV → Option (Bool × AV)
  | [.int .u64 p] => some (inU p, .bool (finB p.toNat))
  | _ => none
def sp_class : List AV → Option (Bool × AV)
  | [.int .u64 p] => some (inU p, .int .i64 (tC p.toNat))
  | _ => none

def orcAbs : List (FuncId × Ent) := [(102, entS false sp_pAbs)]
theorem run_isNaN (p : Int) : callA (env Tryz.f66.ntmps orcAbs []) (bodyC Tryz.f66) Tryz.f66.results.toList (slots 0 [.int .u64 p]) some =
    chk (inU p) (some (.bool (decide (((absN p.toNat : Nat) : Int) > 9218868437227405312)))) := by kernel_rfl
theorem run_fin (p : Int) : callA (env Tryz.f69.ntmps orcAbs []) (bodyC Tryz.f69) Tryz.f69.results.toList (slots 0 [.int .u64 p]) some =
    chk (inU p) (some (.bool (decide (((absN p.toNat : Nat) : Int) < 9218868437227405312)))) := by kernel_rfl
theorem run_class (p : Int) : callA (env Tryz.f76.ntmps [(112, entS false sp_take)] []) (bodyC Tryz.f76) Tryz.f76.results.toList (slots 0 [.int .u64 p]) some =
    chk (inU p) (some (.int .i64 (tC p.toNat))) := by kernel_rfl

theorem ok_isNaN : EntOk Tryz.prog 66 (entS false sp_isNaN) := by
  refine contractS (orc := orcAbs) (lo := []) Tryz.func66 (orc_cons ok_pAbs orc_nil) (by kernel_rfl) (by kernel_rfl) (by kernel_rfl) (loops_none (by kernel_rfl)) fun args r h => ?_
  unfold sp_isNaN at h
  split at h
  · rename_i p
    simp only [Option.some.injEq, Prod.mk.injEq] at h
    obtain ⟨hp, rfl⟩ := h
    refine ⟨by kernel_rfl, .inr rfl, (run_isNaN p).trans ?_⟩
    rw [hp]
    unfold nanB infN
    rw [stk_eq]
    have : decide (((absN p.toNat : Nat) : Int) > 9218868437227405312) = decide (9218868437227405312 < absN p.toNat) := decide_eq_decide.2 (by omega)
    rw [this]
    rfl
  · cases h
theorem ok_fin : EntOk Tryz.prog 69 (entS false sp_fin) := by
  refine contractS (orc := orcAbs) (lo := []) Tryz.func69 (orc_cons ok_pAbs orc_nil) (by kernel_rfl) (by kernel_rfl) (by kernel_rfl) (loops_none (by kernel_rfl)) fun args r h => ?_
  unfold sp_fin at h
  split at h
  · rename_i p
    simp only [Option.some.injEq, Prod.mk.injEq] at h
    obtain ⟨hp, rfl⟩ := h
    refine ⟨by kernel_rfl, .inr rfl, (run_fin p).trans ?_⟩
    rw [hp]
    unfold finB infN
    rw [stk_eq]
    have : decide (((absN p.toNat : Nat) : Int) < 9218868437227405312) = decide (absN p.toNat < 9218868437227405312) := decide_eq_decide.2 (by omega)
    rw [this]
    rfl
  · cases h
theorem ok_class : EntOk Tryz.prog 76 (entS false sp_class) := by
  refine contractS (orc := [(112, entS false sp_take)]) (lo := []) Tryz.func76 (orc_cons ok_take orc_nil) (by kernel_rfl) (by kernel_rfl) (by kernel_rfl) (loops_none (by kernel_rfl)) fun args r h => ?_
  unfold sp_class at h
  split at h
  · rename_i p
    simp only [Option.some.injEq, Prod.mk.injEq] at h
    obtain ⟨hp, rfl⟩ := h
    refine ⟨by kernel_rfl, .inr rfl, (run_class p).trans ?_⟩
    rw [hp]
    rfl
  · cases h
end
end Go.Proofs.YtbakldcbaikgpaaGreatDoor
