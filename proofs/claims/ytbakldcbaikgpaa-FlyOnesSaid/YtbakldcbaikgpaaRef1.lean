/- The document's patterns: Take, NaN, Abs, Neg, None, Up, Down. Own work. -/
import Derived.Test.YtbakldcbaikgpaaScale1
namespace Go.Proofs.Ytbakldcbaikgpaa
set_option maxRecDepth 100000
noncomputable section

theorem tdivN (m k : Nat) : ((m : Int).tdiv (k : Int)) = ((m / k : Nat) : Int) := by
  rw [Int.tdiv_eq_ediv_of_nonneg (by omega), Int.natCast_ediv]
theorem tmodN (m k : Nat) : ((m : Int).tmod (k : Int)) = ((m % k : Nat) : Int) := by
  rw [Int.tmod_eq_emod_of_nonneg (by omega), Int.natCast_emod]

def rt3 (b : Bool) (f : Int) : Option AV := bif decide (f ≥ 2251799813685248) then tkL b 4 0 f else bif decide (f > 0) then tkL b 5 0 f else tkL b 3 0 f
def rt0 (b : Bool) (f : Int) : Option AV := bif decide (f > 0) then tkL b 1 (-1074) f else tkL b 0 (-1074) f
def rt (b : Bool) (g f : Int) : Option AV := bif g == 2047 then rt3 b f else bif g == 0 then rt0 b f else tkL b 2 (w64 (w64 g - 1075)) (u64 (f + 4503599627370496))

theorem rt_at (b : Bool) (E F : Nat) (hE : E < 2048) (hF : F < 4503599627370496) : rt b (E : Int) (F : Int) =
    some (.st [.bool b, .int .i64 (if E = 2047 then (if F = 0 then 3 else if F / 2251799813685248 % 2 = 1 then 4 else 5) else if 0 < E then 2 else if 0 < F then 1 else 0), .int .i64 (if E = 2047 then 0 else if 0 < E then (E : Int) - 1075 else -1074),
      .int .u64 (((if E = 2047 then F else if 0 < E then F + 4503599627370496 else F) : Nat) : Int)]) := by
  unfold rt rt3 rt0 tkL
  by_cases h1 : E = 2047
  · have e1 : ((E : Int) == 2047) = true := beq_iff_eq.2 (by omega)
    rw [e1, if_pos h1, if_pos h1, if_pos h1]
    by_cases h2 : F = 0
    · rw [decide_eq_false (show ¬ (F : Int) ≥ 2251799813685248 by omega), decide_eq_false (show ¬ (F : Int) > 0 by omega), if_pos h2]; rfl
    · rw [if_neg h2]
      by_cases h3 : F / 2251799813685248 % 2 = 1
      · rw [decide_eq_true (show (F : Int) ≥ 2251799813685248 by omega), if_pos h3]; rfl
      · rw [decide_eq_false (show ¬ (F : Int) ≥ 2251799813685248 by omega), decide_eq_true (show (F : Int) > 0 by omega), if_neg h3]; rfl
  · have e1 : ((E : Int) == 2047) = false := beq_eq_false_iff_ne.2 (by omega)
    rw [e1, if_neg h1, if_neg h1, if_neg h1]
    by_cases h0 : 0 < E
    · have e2 : ((E : Int) == 0) = false := beq_eq_false_iff_ne.2 (by omega)
      have e3 : w64 (w64 (E : Int) - 1075) = (E : Int) - 1075 := by rw [w64_mid (x := (E : Int)) (by omega) (by omega), w64_mid (by omega) (by omega)]
      have e4 : u64 ((F : Int) + 4503599627370496) = ((F + 4503599627370496 : Nat) : Int) := u64_nat (n := F + 4503599627370496) (by omega)
      rw [e2, e3, e4, if_pos h0, if_pos h0, if_pos h0]; rfl
    · have e2 : ((E : Int) == 0) = true := beq_iff_eq.2 (by omega)
      rw [e2, if_neg h0, if_neg h0, if_neg h0]
      by_cases h2 : 0 < F
      · rw [decide_eq_true (show (F : Int) > 0 by omega), if_pos h2]; rfl
      · rw [decide_eq_false (show ¬ (F : Int) > 0 by omega), if_neg h2]; rfl

/-- Of what class is no number. -/
theorem class_nan (p : Nat) : decide (clN p > 3) = decide (infN < absN p) := by
  refine decide_eq_decide.2 ?_
  have h1 : absN p = pE p * 4503599627370496 + pF p := by unfold absN pE pF; omega
  have h2 : pE p < 2048 := Nat.mod_lt _ (by decide)
  have h3 : pF p < 4503599627370496 := Nat.mod_lt _ (by decide)
  unfold clN infN
  rw [h1]
  generalize pE p = E at *
  generalize pF p = F at *
  split
  · split
    · omega
    · split <;> omega
  · split
    · omega
    · split <;> omega

def noGN (p q : Nat) : Nat := if clN p = 5 ∨ clN q = 5 then 1 else 0
def noG (p q : Nat) : Nat := stk (noGN p q)
def sp_rNone : List AV → Option (Bool × AV)
  | [.int .u64 p, .int .u64 q] => some (inU p && inU q, .int .i64 ((noG p.toNat q.toNat : Nat) : Int))
  | _ => none
/-! ### Up, Down -/
def sp_rUp : List AV → Option (Bool × AV)
  | [.int .u64 p] => some (inU p, .tup [.int .u64 ((upP p.toNat : Nat) : Int), .int .i64 ((upF p.toNat : Nat) : Int)])
  | _ => none
def sp_rDn : List AV → Option (Bool × AV)
  | [.int .u64 p] => some (inU p, .tup [.int .u64 ((dnP p.toNat : Nat) : Int), .int .i64 ((upF p.toNat : Nat) : Int)])
  | _ => none
def ruT (p f : Int) : Option AV := some (.tup [.int .u64 p, .int .i64 f])
theorem noG_self (p : Nat) : noGN p p = noFN p := by unfold noGN noFN; simp

/-- A test of a pattern against a number. -/
theorem eqN (m k : Nat) : ((m : Int) == (k : Int)) = decide (m = k) := by
  by_cases h : m = k
  · subst h; simp
  · rw [decide_eq_false h]; exact beq_eq_false_iff_ne.2 (by omega)

theorem up_vals {m : Nat} (hm : m < 18446744073709551616) : (bif decide (infN < absN m) then ruT 9221120237041090560 ((noGN m m : Nat) : Int) else bif (m : Int) == 9218868437227405312 then ruT m 0 else bif (m : Int) == 0 then ruT 1 0 else bif (m : Int) == 9223372036854775808 then ruT 1 0 else bif decide ((m : Int) > 9223372036854775808) then ruT (u64 ((m : Int) - 1)) 0 else ruT (u64 ((m : Int) + 1)) 0) = ruT ((upPN m : Nat) : Int) ((upFN m : Nat) : Int) := by
  have q1 : ((m : Int) == 9218868437227405312) = decide (m = infN) := eqN m 9218868437227405312
  have q2 : ((m : Int) == 0) = decide (m = 0) := eqN m 0
  have q3 : ((m : Int) == 9223372036854775808) = decide (m = 9223372036854775808) := eqN m 9223372036854775808
  rw [q1, q2, q3, noG_self]
  unfold upPN upFN
  by_cases h1 : infN < absN m
  · rw [decide_eq_true h1, if_pos h1, if_pos h1]; rfl
  rw [decide_eq_false h1, if_neg h1, if_neg h1, cond_false]
  by_cases h2 : m = infN
  · rw [decide_eq_true h2, if_pos h2]; rfl
  rw [decide_eq_false h2, if_neg h2, cond_false]
  by_cases h3 : absN m = 0
  · rw [if_pos h3]
    by_cases h4 : m = 0
    · rw [decide_eq_true h4]; rfl
    · have h5 : m = 9223372036854775808 := by unfold absN at h3; omega
      rw [decide_eq_false h4, decide_eq_true h5]; rfl
  · have h4 : ¬ m = 0 := fun h => h3 (by subst h; rfl)
    have h5 : ¬ m = 9223372036854775808 := fun h => h3 (by subst h; rfl)
    rw [decide_eq_false h4, decide_eq_false h5, if_neg h3, cond_false, cond_false]
    by_cases h6 : 9223372036854775808 ≤ m
    · have e3 : u64 ((m : Int) - 1) = ((m - 1 : Nat) : Int) := by
        rw [show (m : Int) - 1 = ((m - 1 : Nat) : Int) by omega]
        exact u64_nat (by omega)
      rw [decide_eq_true (show (m : Int) > 9223372036854775808 by omega), if_pos h6, e3]; rfl
    · have e3 : u64 ((m : Int) + 1) = ((m + 1 : Nat) : Int) := u64_nat (n := m + 1) (by omega)
      rw [decide_eq_false (show ¬ (m : Int) > 9223372036854775808 by omega), if_neg h6, e3]; rfl

theorem dn_vals {m : Nat} (hm : m < 18446744073709551616) : (bif decide (infN < absN m) then ruT 9221120237041090560 ((noGN m m : Nat) : Int) else bif (m : Int) == 18442240474082181120 then ruT m 0 else bif (m : Int) == 0 then ruT 9223372036854775809 0 else bif (m : Int) == 9223372036854775808 then ruT 9223372036854775809 0 else bif decide ((m : Int) > 9223372036854775808) then ruT (u64 ((m : Int) + 1)) 0 else ruT (u64 ((m : Int) - 1)) 0) = ruT ((dnPN m : Nat) : Int) ((upFN m : Nat) : Int) := by
  have q1 : ((m : Int) == 18442240474082181120) = decide (m = 18442240474082181120) := eqN m 18442240474082181120
  have q2 : ((m : Int) == 0) = decide (m = 0) := eqN m 0
  have q3 : ((m : Int) == 9223372036854775808) = decide (m = 9223372036854775808) := eqN m 9223372036854775808
  rw [q1, q2, q3, noG_self]
  unfold dnPN upFN upPN
  rw [neg_abs]
  by_cases h1 : infN < absN m
  · rw [decide_eq_true h1, if_pos h1, if_pos h1]; rfl
  rw [decide_eq_false h1, if_neg h1, if_neg h1, if_neg h1, cond_false]
  by_cases h2 : m = 18442240474082181120
  · have h3 : negN m = infN := by subst h2; rfl
    rw [decide_eq_true h2, if_pos h3, h3, h2]; rfl
  have h2' : ¬ negN m = infN := by unfold negN infN; omega
  rw [decide_eq_false h2, if_neg h2', cond_false]
  by_cases h3 : absN m = 0
  · rw [if_pos h3]
    by_cases h4 : m = 0
    · rw [decide_eq_true h4]; rfl
    · have h5 : m = 9223372036854775808 := by unfold absN at h3; omega
      rw [decide_eq_false h4, decide_eq_true h5]; rfl
  · have h4 : ¬ m = 0 := fun h => h3 (by subst h; rfl)
    have h5 : ¬ m = 9223372036854775808 := fun h => h3 (by subst h; rfl)
    rw [decide_eq_false h4, decide_eq_false h5, if_neg h3, cond_false, cond_false]
    by_cases h6 : 9223372036854775808 ≤ m
    · have ha : absN m ≤ infN := by omega
      have e3 : u64 ((m : Int) + 1) = ((m + 1 : Nat) : Int) := u64_nat (n := m + 1) (by unfold absN infN at ha; omega)
      have e4 : ¬ 9223372036854775808 ≤ negN m := by unfold negN; omega
      have e5 : negN (negN m + 1) = m + 1 := by unfold absN infN at ha; unfold negN; omega
      rw [decide_eq_true (show (m : Int) > 9223372036854775808 by omega), if_neg e4, e5, e3]; rfl
    · have e3 : u64 ((m : Int) - 1) = ((m - 1 : Nat) : Int) := by
        rw [show (m : Int) - 1 = ((m - 1 : Nat) : Int) by omega]
        exact u64_nat (by omega)
      have e4 : 9223372036854775808 ≤ negN m := by unfold negN; omega
      have e5 : negN (negN m - 1) = m - 1 := by unfold negN; omega
      rw [decide_eq_false (show ¬ (m : Int) > 9223372036854775808 by omega), if_pos e4, e5, e3]; rfl

end
end Go.Proofs.Ytbakldcbaikgpaa
