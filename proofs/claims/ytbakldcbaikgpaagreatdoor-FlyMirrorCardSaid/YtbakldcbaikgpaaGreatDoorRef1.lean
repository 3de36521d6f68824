/- The document's patterns: Take, NaN, Abs, Neg, None, Up, Down. Own work. -/
import Derived.Test.YtbakldcbaikgpaaGreatDoorScale1
namespace Go.Proofs.YtbakldcbaikgpaaGreatDoor
set_option maxRecDepth 100000
noncomputable section

theorem tdivN (m k : Nat) : ((m : Int).tdiv (k : Int)) = ((m / k : Nat) : Int) := by
  rw [Int.tdiv_eq_ediv_of_nonneg (by omega), Int.natCast_ediv]
theorem tmodN (m k : Nat) : ((m : Int).tmod (k : Int)) = ((m % k : Nat) : Int) := by
  rw [Int.tmod_eq_emod_of_nonneg (by omega), Int.natCast_emod]

def rt3 (b : Bool) (f : Int) : Option AV := bif decide (f ≥ 2251799813685248) then tkL b 4 0 f else bif decide (f > 0) then tkL b 5 0 f else tkL b 3 0 f
def rt0 (b : Bool) (f : Int) : Option AV := bif decide (f > 0) then tkL b 1 (-1074) f else tkL b 0 (-1074) f
def rt (b : Bool) (g f : Int) : Option AV := bif g == 2047 then rt3 b f else bif g == 0 then rt0 b f else tkL b 2 (w64 (w64 g - 1075)) (u64 (f + 4503599627370496))

theorem run_rTake (p : Int) : callA (env Tryz.f119.ntmps [] []) (bodyC Tryz.f119) Tryz.f119.results.toList (slots 0 [.int .u64 p]) some =
    rt (decide (p ≥ 9223372036854775808)) ((u64 (p.tdiv 4503599627370496)).tmod 2048) (p.tmod 4503599627370496) := by kernel_rfl

theorem rt_at (b : Bool) (E F : Nat) (hE : E < 2048) (hF : F < 4503599627370496) : rt b (E : Int) (F : Int) =
    some (.st [.bool b, .int .i64 (if E = 2047 then (if F = 0 then 3 else if F / 2251799813685248 % 2 = 1 then 4 else 5) else if 0 < E then 2 else if 0 < F then 1 else 0), .int .i64 (if E = 2047 then 0 else if 0 < E then (E : Int) - 1075 else -1074),
      .int .u64 (((if E = 2047 then F else if 0 < E then F + 4503599627370496 else F) : Nat) : Int)]) := by
  unfold rt rt3 rt0 tkL
  by_cases h1 : E = 2047
  · have e1 : ((E : Int) == 2047) = true := beq_iff_eq.2 (by omega)
    rw [e1, if_pos h1, if_pos h1, if_pos h1]
    by_cases h2 : F = 0
    · rw [decide_eq_false (show ¬ (F : Int) ≥ 2251799813685248 by omega), decide_eq_false (show ¬ (F : Int) > 0 by omega), if_pos h2]; rfl
    · rw [if_neg h2]
      by_cases h3 : F / 2251799813685248 % 2 = 1
      · rw [decide_eq_true (show (F : Int) ≥ 2251799813685248 by omega), if_pos h3]; rfl
      · rw [decide_eq_false (show ¬ (F : Int) ≥ 2251799813685248 by omega), decide_eq_true (show (F : Int) > 0 by omega), if_neg h3]; rfl
  · have e1 : ((E : Int) == 2047) = false := beq_eq_false_iff_ne.2 (by omega)
    rw [e1, if_neg h1, if_neg h1, if_neg h1]
    by_cases h0 : 0 < E
    · have e2 : ((E : Int) == 0) = false := beq_eq_false_iff_ne.2 (by omega)
      have e3 : w64 (w64 (E : Int) - 1075) = (E : Int) - 1075 := by rw [w64_mid (x := (E : Int)) (by omega) (by omega), w64_mid (by omega) (by omega)]
      have e4 : u64 ((F : Int) + 4503599627370496) = ((F + 4503599627370496 : Nat) : Int) := u64_nat (n := F + 4503599627370496) (by omega)
      rw [e2, e3, e4, if_pos h0, if_pos h0, if_pos h0]; rfl
    · have e2 : ((E : Int) == 0) = true := beq_iff_eq.2 (by omega)
      rw [e2, if_neg h0, if_neg h0, if_neg h0]
      by_cases h2 : 0 < F
      · rw [decide_eq_true (show (F : Int) > 0 by omega), if_pos h2]; rfl
      · rw [decide_eq_false (show ¬ (F : Int) > 0 by omega), if_neg h2]; rfl

theorem ok_rTake : EntOk Tryz.prog 119 (entS false sp_take) := by
  refine contractS (orc := []) (lo := []) Tryz.func119 orc_nil (by kernel_rfl) (by kernel_rfl) (by kernel_rfl) (loops_none (by kernel_rfl)) fun args r h => ?_
  unfold sp_take at h
  split at h
  · rename_i p
    simp only [Option.some.injEq, Prod.mk.injEq] at h
    obtain ⟨hp, rfl⟩ := h
    obtain ⟨m, rfl, hm⟩ := nat_of hp
    refine ⟨by kernel_rfl, .inr rfl, (run_rTake m).trans ?_⟩
    have e1 : decide ((m : Int) ≥ 9223372036854775808) = decide (9223372036854775808 ≤ m) := decide_eq_decide.2 (by omega)
    have e2 : (u64 ((m : Int).tdiv 4503599627370496)).tmod 2048 = ((m / 4503599627370496 % 2048 : Nat) : Int) := by
      have h1 := tdivN m 4503599627370496
      rw [show ((4503599627370496 : Nat) : Int) = 4503599627370496 from rfl] at h1
      rw [h1, u64_nat (by omega)]
      exact tmodN (m / 4503599627370496) 2048
    have e3 : (m : Int).tmod 4503599627370496 = ((m % 4503599627370496 : Nat) : Int) := tmodN m 4503599627370496
    rw [e1, e2, e3, rt_at _ _ _ (Nat.mod_lt _ (by decide)) (Nat.mod_lt _ (by decide)), Int.toNat_natCast]
    unfold tM tC tX tS
    simp only [stk_eq]
    rfl
  · cases h

/-- Of what class is no number. -/
theorem class_nan (p : Nat) : decide (clN p > 3) = decide (infN < absN p) := by
  refine decide_eq_decide.2 ?_
  have h1 : absN p = pE p * 4503599627370496 + pF p := by unfold absN pE pF; omega
  have h2 : pE p < 2048 := Nat.mod_lt _ (by decide)
  have h3 : pF p < 4503599627370496 := Nat.mod_lt _ (by decide)
  unfold clN infN
  rw [h1]
  generalize pE p = E at *
  generalize pF p = F at *
  split
  · split
    · omega
    · split <;> omega
  · split
    · omega
    · split <;> omega

def orcRT : List (FuncId × Ent) := [(119, entS false sp_take)]
theorem run_rNaN (p : Int) : callA (env Tryz.f78.ntmps orcRT []) (bodyC Tryz.f78) Tryz.f78.results.toList (slots 0 [.int .u64 p]) some =
    chk (inU p) (some (.bool (decide (tC p.toNat > 3)))) := by kernel_rfl
theorem ok_rNaN : EntOk Tryz.prog 78 (entS false sp_isNaN) := by
  refine contractS (orc := orcRT) (lo := []) Tryz.func78 (orc_cons ok_rTake orc_nil) (by kernel_rfl) (by kernel_rfl) (by kernel_rfl) (loops_none (by kernel_rfl)) fun args r h => ?_
  unfold sp_isNaN at h
  split at h
  · rename_i p
    simp only [Option.some.injEq, Prod.mk.injEq] at h
    obtain ⟨hp, rfl⟩ := h
    refine ⟨by kernel_rfl, .inr rfl, (run_rNaN p).trans ?_⟩
    unfold nanB tC
    rw [hp, stk_eq, stk_eq, class_nan]
    rfl
  · cases h

theorem run_rAbs (p : Int) : callA (env Tryz.f81.ntmps [] []) (bodyC Tryz.f81) Tryz.f81.results.toList (slots 0 [.int .u64 p]) some = some (.int .u64 (p.tmod 9223372036854775808)) := by kernel_rfl
theorem ok_rAbs : EntOk Tryz.prog 81 (entS false sp_pAbs) := by
  refine contractS (orc := []) (lo := []) Tryz.func81 orc_nil (by kernel_rfl) (by kernel_rfl) (by kernel_rfl) (loops_none (by kernel_rfl)) fun args r h => ?_
  unfold sp_pAbs at h
  split at h
  · rename_i p
    simp only [Option.some.injEq, Prod.mk.injEq] at h
    obtain ⟨hp, rfl⟩ := h
    obtain ⟨m, rfl, hm⟩ := nat_of hp
    refine ⟨by kernel_rfl, .inr rfl, (run_rAbs m).trans ?_⟩
    have := tmodN m 9223372036854775808
    rw [show ((9223372036854775808 : Nat) : Int) = 9223372036854775808 from rfl] at this
    rw [this, Int.toNat_natCast]
    rfl
  · cases h

theorem run_rNeg (p : Int) : callA (env Tryz.f51.ntmps [] []) (bodyC Tryz.f51) Tryz.f51.results.toList (slots 0 [.int .u64 p]) some =
    bif decide (p ≥ 9223372036854775808) then some (.int .u64 (u64 (p - 9223372036854775808))) else some (.int .u64 (u64 (p + 9223372036854775808))) := by kernel_rfl
theorem ok_rNeg : EntOk Tryz.prog 51 (entS false sp_pNeg) := by
  refine contractS (orc := []) (lo := []) Tryz.func51 orc_nil (by kernel_rfl) (by kernel_rfl) (by kernel_rfl) (loops_none (by kernel_rfl)) fun args r h => ?_
  unfold sp_pNeg at h
  split at h
  · rename_i p
    simp only [Option.some.injEq, Prod.mk.injEq] at h
    obtain ⟨hp, rfl⟩ := h
    obtain ⟨m, rfl, hm⟩ := nat_of hp
    refine ⟨by kernel_rfl, .inr rfl, (run_rNeg m).trans ?_⟩
    rw [Int.toNat_natCast]
    by_cases h : 9223372036854775808 ≤ m
    · have e1 : negN m = m - 9223372036854775808 := by unfold negN; omega
      have e2 : u64 ((m : Int) - 9223372036854775808) = ((m - 9223372036854775808 : Nat) : Int) := by
        rw [show (m : Int) - 9223372036854775808 = ((m - 9223372036854775808 : Nat) : Int) by omega]
        exact u64_nat (by omega)
      rw [decide_eq_true (show (m : Int) ≥ 9223372036854775808 by omega), e1, e2]; rfl
    · have e1 : negN m = m + 9223372036854775808 := by unfold negN; omega
      have e2 : u64 ((m : Int) + 9223372036854775808) = ((m + 9223372036854775808 : Nat) : Int) := u64_nat (n := m + 9223372036854775808) (by omega)
      rw [decide_eq_false (show ¬ (m : Int) ≥ 9223372036854775808 by omega), e1, e2]; rfl
  · cases h

def noGN (p q : Nat) : Nat := if clN p = 5 ∨ clN q = 5 then 1 else 0
def noG (p q : Nat) : Nat := stk (noGN p q)
def sp_rNone : List AV → Option (Bool × AV)
  | [.int .u64 p, .int .u64 q] => some (inU p && inU q, .int .i64 ((noG p.toNat q.toNat : Nat) : Int))
  | _ => none
theorem run_rNone (p q : Int) : callA (env Tryz.f79.ntmps orcRT []) (bodyC Tryz.f79) Tryz.f79.results.toList (slots 0 [.int .u64 p, .int .u64 q]) some =
    chk (inU p) (bif tC p.toNat == 5 then some (.int .i64 1) else chk (inU q) (bif tC q.toNat == 5 then some (.int .i64 1) else some (.int .i64 0))) := by kernel_rfl
theorem ok_rNone : EntOk Tryz.prog 79 (entS false sp_rNone) := by
  refine contractS (orc := orcRT) (lo := []) Tryz.func79 (orc_cons ok_rTake orc_nil) (by kernel_rfl) (by kernel_rfl) (by kernel_rfl) (loops_none (by kernel_rfl)) fun args r h => ?_
  unfold sp_rNone at h
  split at h
  · rename_i p q
    simp only [Option.some.injEq, Prod.mk.injEq, Bool.and_eq_true] at h
    obtain ⟨⟨hp, hq⟩, rfl⟩ := h
    refine ⟨by kernel_rfl, .inr rfl, (run_rNone p q).trans ?_⟩
    unfold noG noGN tC
    rw [stk_eq, stk_eq, stk_eq, hp, hq]
    by_cases h5 : clN p.toNat = 5
    · rw [h5, if_pos (.inl rfl)]; rfl
    · rw [beq_eq_false_iff_ne.2 h5]
      by_cases h6 : clN q.toNat = 5
      · rw [h6, if_pos (.inr rfl)]; rfl
      · rw [beq_eq_false_iff_ne.2 h6, if_neg (by simp [h5, h6])]; rfl
  · cases h

/-! ### Up, Down -/
def orcRU : List (FuncId × Ent) := [(78, entS false sp_isNaN), (79, entS false sp_rNone)]
theorem orcRU_ok {nt : Nat} : OrcOk Tryz.prog (env nt orcRU []) := orc_cons ok_rNaN (orc_cons ok_rNone orc_nil)
def sp_rUp : List AV → Option (Bool × AV)
  | [.int .u64 p] => some (inU p, .tup [.int .u64 ((upP p.toNat : Nat) : Int), .int .i64 ((upF p.toNat : Nat) : Int)])
  | _ => none
def sp_rDn : List AV → Option (Bool × AV)
  | [.int .u64 p] => some (inU p, .tup [.int .u64 ((dnP p.toNat : Nat) : Int), .int .i64 ((upF p.toNat : Nat) : Int)])
  | _ => none
def ruT (p f : Int) : Option AV := some (.tup [.int .u64 p, .int .i64 f])
theorem noG_self (p : Nat) : noGN p p = noFN p := by unfold noGN noFN; simp

/-- A test of a pattern against a number. -/
theorem eqN (m k : Nat) : ((m : Int) == (k : Int)) = decide (m = k) := by
  by_cases h : m = k
  · subst h; simp
  · rw [decide_eq_false h]; exact beq_eq_false_iff_ne.2 (by omega)

theorem up_vals {m : Nat} (hm : m < 18446744073709551616) : (bif decide (infN < absN m) then ruT 9221120237041090560 ((noGN m m : Nat) : Int) else bif (m : Int) == 9218868437227405312 then ruT m 0 else bif (m : Int) == 0 then ruT 1 0 else bif (m : Int) == 9223372036854775808 then ruT 1 0 else bif decide ((m : Int) > 9223372036854775808) then ruT (u64 ((m : Int) - 1)) 0 else ruT (u64 ((m : Int) + 1)) 0) = ruT ((upPN m : Nat) : Int) ((upFN m : Nat) : Int) := by
  have q1 : ((m : Int) == 9218868437227405312) = decide (m = infN) := eqN m 9218868437227405312
  have q2 : ((m : Int) == 0) = decide (m = 0) := eqN m 0
  have q3 : ((m : Int) == 9223372036854775808) = decide (m = 9223372036854775808) := eqN m 9223372036854775808
  rw [q1, q2, q3, noG_self]
  unfold upPN upFN
  by_cases h1 : infN < absN m
  · rw [decide_eq_true h1, if_pos h1, if_pos h1]; rfl
  rw [decide_eq_false h1, if_neg h1, if_neg h1, cond_false]
  by_cases h2 : m = infN
  · rw [decide_eq_true h2, if_pos h2]; rfl
  rw [decide_eq_false h2, if_neg h2, cond_false]
  by_cases h3 : absN m = 0
  · rw [if_pos h3]
    by_cases h4 : m = 0
    · rw [decide_eq_true h4]; rfl
    · have h5 : m = 9223372036854775808 := by unfold absN at h3; omega
      rw [decide_eq_false h4, decide_eq_true h5]; rfl
  · have h4 : ¬ m = 0 := fun h => h3 (by subst h; rfl)
    have h5 : ¬ m = 9223372036854775808 := fun h => h3 (by subst h; rfl)
    rw [decide_eq_false h4, decide_eq_false h5, if_neg h3, cond_false, cond_false]
    by_cases h6 : 9223372036854775808 ≤ m
    · have e3 : u64 ((m : Int) - 1) = ((m - 1 : Nat) : Int) := by
        rw [show (m : Int) - 1 = ((m - 1 : Nat) : Int) by omega]
        exact u64_nat (by omega)
      rw [decide_eq_true (show (m : Int) > 9223372036854775808 by omega), if_pos h6, e3]; rfl
    · have e3 : u64 ((m : Int) + 1) = ((m + 1 : Nat) : Int) := u64_nat (n := m + 1) (by omega)
      rw [decide_eq_false (show ¬ (m : Int) > 9223372036854775808 by omega), if_neg h6, e3]; rfl

theorem dn_vals {m : Nat} (hm : m < 18446744073709551616) : (bif decide (infN < absN m) then ruT 9221120237041090560 ((noGN m m : Nat) : Int) else bif (m : Int) == 18442240474082181120 then ruT m 0 else bif (m : Int) == 0 then ruT 9223372036854775809 0 else bif (m : Int) == 9223372036854775808 then ruT 9223372036854775809 0 else bif decide ((m : Int) > 9223372036854775808) then ruT (u64 ((m : Int) + 1)) 0 else ruT (u64 ((m : Int) - 1)) 0) = ruT ((dnPN m : Nat) : Int) ((upFN m : Nat) : Int) := by
  have q1 : ((m : Int) == 18442240474082181120) = decide (m = 18442240474082181120) := eqN m 18442240474082181120
  have q2 : ((m : Int) == 0) = decide (m = 0) := eqN m 0
  have q3 : ((m : Int) == 9223372036854775808) = decide (m = 9223372036854775808) := eqN m 9223372036854775808
  rw [q1, q2, q3, noG_self]
  unfold dnPN upFN upPN
  rw [neg_abs]
  by_cases h1 : infN < absN m
  · rw [decide_eq_true h1, if_pos h1, if_pos h1]; rfl
  rw [decide_eq_false h1, if_neg h1, if_neg h1, if_neg h1, cond_false]
  by_cases h2 : m = 18442240474082181120
  · have h3 : negN m = infN := by subst h2; rfl
    rw [decide_eq_true h2, if_pos h3, h3, h2]; rfl
  have h2' : ¬ negN m = infN := by unfold negN infN; omega
  rw [decide_eq_false h2, if_neg h2', cond_false]
  by_cases h3 : absN m = 0
  · rw [if_pos h3]
    by_cases h4 : m = 0
    · rw [decide_eq_true h4]; rfl
    · have h5 : m = 9223372036854775808 := by unfold absN at h3; omega
      rw [decide_eq_false h4, decide_eq_true h5]; rfl
  · have h4 : ¬ m = 0 := fun h => h3 (by subst h; rfl)
    have h5 : ¬ m = 9223372036854775808 := fun h => h3 (by subst h; rfl)
    rw [decide_eq_false h4, decide_eq_false h5, if_neg h3, cond_false, cond_false]
    by_cases h6 : 9223372036854775808 ≤ m
    · have ha : absN m ≤ infN := by omega
      have e3 : u64 ((m : Int) + 1) = ((m + 1 : Nat) : Int) := u64_nat (n := m + 1) (by unfold absN infN at ha; omega)
      have e4 : ¬ 9223372036854775808 ≤ negN m := by unfold negN; omega
      have e5 : negN (negN m + 1) = m + 1 := by unfold absN infN at ha; unfold negN; omega
      rw [decide_eq_true (show (m : Int) > 9223372036854775808 by omega), if_neg e4, e5, e3]; rfl
    · have e3 : u64 ((m : Int) - 1) = ((m - 1 : Nat) : Int) := by
        rw [show (m : Int) - 1 = ((m - 1 : Nat) : Int) by omega]
        exact u64_nat (by omega)
      have e4 : 9223372036854775808 ≤ negN m := by unfold negN; omega
      have e5 : negN (negN m - 1) = m - 1 := by unfold negN; omega
      rw [decide_eq_false (show ¬ (m : Int) > 9223372036854775808 by omega), if_pos e4, e5, e3]; rfl

end
end Go.Proofs.YtbakldcbaikgpaaGreatDoor
