/- ScaleBack. Own work. -/
import Derived.Test.YtdkebceiljdgjaaSums6
namespace Go.Proofs.Ytdkebceiljdgjaa
set_option maxRecDepth 100000
noncomputable section

theorem up_abs {p : Nat} (hp : p < 18446744073709551616) (h : absN p ≤ infN) : absN (upPN p) ≤ infN := by
  unfold upPN
  rw [if_neg (show ¬ infN < absN p by omega)]
  by_cases h1 : p = infN
  · rw [if_pos h1]; exact h
  · rw [if_neg h1]
    by_cases h2 : absN p = 0
    · rw [if_pos h2]; decide +kernel
    · rw [if_neg h2]
      unfold absN infN at *
      by_cases h3 : 9223372036854775808 ≤ p
      · rw [if_pos h3]; omega
      · rw [if_neg h3]; omega

theorem dn_up {p : Nat} (hp : p < 18446744073709551616) (h : absN p < infN) (h0 : absN p ≠ 0) (h1 : absN (upPN p) ≠ 0) : dnPN (upPN p) = p := by
  have hi : ¬ p = infN := fun e => by rw [e] at h; exact absurd h (by decide +kernel)
  have hu : upPN p = if 9223372036854775808 ≤ p then p - 1 else p + 1 := by
    unfold upPN
    rw [if_neg (show ¬ infN < absN p by omega), if_neg hi, if_neg h0]
  have ha := up_abs hp (Nat.le_of_lt h)
  unfold dnPN
  rw [if_neg (show ¬ infN < absN (upPN p) by omega)]
  by_cases h3 : 9223372036854775808 ≤ p
  · rw [if_pos h3] at hu
    rw [hu] at h1 ha ⊢
    have e1 : negN (p - 1) = p - 1 - 9223372036854775808 := by unfold negN; unfold absN at h0; omega
    have e2 : upPN (p - 1 - 9223372036854775808) = p - 9223372036854775808 := by
      have g1 : absN (p - 1 - 9223372036854775808) = p - 1 - 9223372036854775808 := by unfold absN; omega
      unfold upPN
      rw [g1]
      unfold absN infN at *
      rw [if_neg (show ¬ 9218868437227405312 < p - 1 - 9223372036854775808 by omega), if_neg (show ¬ p - 1 - 9223372036854775808 = 9218868437227405312 by omega), if_neg (show ¬ p - 1 - 9223372036854775808 = 0 by omega), if_neg (show ¬ 9223372036854775808 ≤ p - 1 - 9223372036854775808 by omega)]
      omega
    rw [e1, e2]
    unfold negN
    omega
  · rw [if_neg h3] at hu
    rw [hu] at h1 ha ⊢
    have hpl : p < 9218868437227405312 := by unfold absN infN at h; omega
    have e1 : negN (p + 1) = p + 1 + 9223372036854775808 := by unfold negN; omega
    have e2 : upPN (p + 1 + 9223372036854775808) = p + 9223372036854775808 := by
      have g1 : absN (p + 1 + 9223372036854775808) = p + 1 := by unfold absN infN at *; omega
      unfold upPN
      rw [g1]
      unfold absN infN at *
      rw [if_neg (show ¬ 9218868437227405312 < p + 1 by omega), if_neg (show ¬ p + 1 + 9223372036854775808 = 9218868437227405312 by omega), if_neg (show ¬ p + 1 = 0 by omega), if_pos (show 9223372036854775808 ≤ p + 1 + 9223372036854775808 by omega)]
      omega
    rw [e1, e2]
    unfold negN
    omega

theorem sc_fix {p : Nat} (h : absN p = infN ∨ absN p = 0) (n k : Int) : scPN p n k = p ∧ scFN p n k = 0 := by
  have h1 : ¬ infN < absN p := by
    rcases h with h | h
    · omega
    · rw [h]; exact Nat.not_lt_zero _
  unfold scPN scFN
  rw [if_neg h1, if_neg h1, if_pos h, if_pos h]
  exact ⟨rfl, rfl⟩

theorem sc_fin {p : Nat} (h : absN p < infN) (h0 : absN p ≠ 0) {n : Int} (hn : -8192 ≤ n ∧ n ≤ 8192) (k : Int) : scPN p n k = rndP (sgB p) (sigN p) (exN p + n) k ∧ scFN p n k = rndF (sgB p) (sigN p) (exN p + n) k := by
  have h1 : ¬ infN < absN p := by omega
  have h2 : ¬ (absN p = infN ∨ absN p = 0) := by omega
  have h3 : clampI 8192 n = n := by unfold clampI; omega
  unfold scPN scFN
  rw [if_neg h1, if_neg h1, if_neg h2, if_neg h2, h3]
  exact ⟨rfl, rfl⟩

/-- What is scaled up and down again, where nothing is lost. -/
theorem sc_back {p : Nat} (hp : p < 18446744073709551616) (h : absN p ≤ infN) {n : Int} (hn : 0 ≤ n ∧ n ≤ 60) (hf : scFN p n 0 = 0) : scFN (scPN p n 0) (-n) 0 = 0 ∧ scPN (scPN p n 0) (-n) 0 = p := by
  by_cases hx : absN p = infN ∨ absN p = 0
  · obtain ⟨e1, _⟩ := sc_fix hx n 0
    obtain ⟨e3, e4⟩ := sc_fix hx (-n) 0
    rw [e1]
    exact ⟨e4, e3⟩
  · have hfin : absN p < infN := by omega
    have h0 : absN p ≠ 0 := by omega
    obtain ⟨e1, e2⟩ := sc_fin hfin h0 (n := n) (by omega) 0
    rw [e2] at hf
    rw [e1]
    have hs : sigN p ≠ 0 := fun e => h0 ((sig_zero hfin).1 e)
    obtain ⟨g1, _, _, _, g5⟩ := exact_pat hs hf
    have r1 := ex_range p
    have hv := exact_val hs hf (n - 1134) (by omega) (by have := low_ge (sigN p) (exN p + n); omega)
    have hne : absN (rndP (sgB p) (sigN p) (exN p + n) 0) ≠ 0 := by
      intro e
      rw [(sig_zero g1).2 e, Nat.zero_mul] at hv
      have := Nat.mul_pos (Nat.pos_of_ne_zero hs) (Nat.two_pow_pos (exN p + n - (n - 1134)).toNat)
      omega
    obtain ⟨e3, e4⟩ := sc_fin g1 hne (n := -n) (by omega) 0
    rw [e3, e4]
    have hsg : sgB (rndP (sgB p) (sigN p) (exN p + n) 0) = sgB p := g5
    rw [hsg]
    generalize rndP (sgB p) (sigN p) (exN p + n) 0 = t at *
    have r2 := ex_range t
    have hsame := rnd_same (S := sigN t) (T := sigN p) (x := exN t + -n) (y := exN p) (-1134) (by omega) (by omega) (by
      rw [show exN t + -n - -1134 = exN t - (n - 1134) by omega, show exN p - -1134 = exN p + n - (n - 1134) by omega]
      exact hv) 0 (sgB p)
    obtain ⟨p1, p2⟩ := pat_round hp hfin 0
    unfold rndP at p1 ⊢
    rw [hsame.1, hsame.2]
    exact ⟨p2, p1⟩

def orcLaw9 : List (FuncId × Ent) := [(32, entS false sp_up9), (34, entS false sp_dn9), (36, entS false sp_true), (41, entS false sp_scale)]
def sbZ2 (p _r h s i : Int) : Option AV := bif h != 0 then bT else bif i == 0 then bif s == p then bT else bF else bF
def sbZ1 (p j r h : Int) : Option AV := chk (inU r) (sbZ2 p r h ((scP r.toNat (w64 (0 - j)) 0 : Nat) : Int) ((scF r.toNat (w64 (0 - j)) 0 : Nat) : Int))
def sbZ (p j : Int) : Option AV := chk (inU p) (sbZ1 p j ((scP p.toNat j 0 : Nat) : Int) ((scF p.toNat j 0 : Nat) : Int))
def sb2 (p a j P f Q g : Int) : Option AV :=
  bif decide (a > 9218868437227405312) then bif P == 9221120237041090560 then bif f == (orI .u8 g f) then bT else bF else bF else bif f != 0 then bF else bif g != 0 then bF else
    bif a != 0 then bif a != 9218868437227405312 then bif (andNotI .u64 P 9223372036854775808) != 0 then bif Q != p then bF else sbZ p j else sbZ p j else sbZ p j else sbZ p j
def sb1 (p a j P f : Int) : Option AV := chk (inU P) (sb2 p a j P f ((dnP P.toNat : Nat) : Int) ((upF P.toNat : Nat) : Int))
theorem run_cBack (p n : Int) : callA (env Try.f12.ntmps orcLaw9 []) (bodyC Try.f12) Try.f12.results.toList (slots 0 [.int .u64 p, .int .i64 n]) some =
    chk (inU p) (sb1 p (andNotI .u64 p 9223372036854775808) (w64 ((u64 n).tmod 60)) ((upP p.toNat : Nat) : Int) ((upF p.toNat : Nat) : Int)) := by kernel_rfl

def sp_lawUI : List AV → Option (Bool × AV)
  | [.int .u64 p, .int .i64 _] => some (inU p, .bool true)
  | _ => none

theorem sc_lt {p : Nat} (hp : p < 18446744073709551616) (n k : Int) : scPN p n k < 18446744073709551616 := by
  unfold scPN
  split
  · decide
  split
  · exact hp
  · unfold rndP
    have h1 := rndP_lt (decide (9223372036854775808 ≤ p)) (sigN p) (exN p + clampI 8192 n) k
    have : sgnOf (decide (9223372036854775808 ≤ p)) ≤ 9223372036854775808 := by unfold sgnOf; split <;> omega
    omega

theorem sbZ_at {p : Nat} (hp : p < 18446744073709551616) (h : absN p ≤ infN) {j : Int} (hj : 0 ≤ j ∧ j ≤ 60) : sbZ (p : Int) j = bT := by
  have hl := sc_lt hp j 0
  have hb := sc_back hp h hj
  unfold sbZ sbZ1 scP scF
  rw [inU_nat hp, Int.toNat_natCast, stk_eq, stk_eq, Int.toNat_natCast, stk_eq, stk_eq, inU_nat hl, w64_mid (by omega) (by omega), Int.zero_sub]
  unfold sbZ2
  have q1 : (((scFN p j 0 : Nat) : Int) != 0) = !decide (scFN p j 0 = 0) := bne_nat _ 0
  rw [q1]
  by_cases hf : scFN p j 0 = 0
  · obtain ⟨h1, h2⟩ := hb hf
    rw [decide_eq_true hf, h1, h2, beq_self_eq_true]
    rfl
  · rw [decide_eq_false hf]
    rfl

theorem nan_up : upFN nanC = 0 := by decide +kernel
theorem or_same (p : Nat) : ((noFN p : Nat) : Int) == orI .u8 ((0 : Nat) : Int) ((noFN p : Nat) : Int) := by
  unfold noFN
  split <;> decide +kernel

theorem ok_cBack : EntOk Try.prog 12 (entS false sp_lawUI) := by
  refine contractS (orc := orcLaw9) (lo := []) Try.func12 (orc_cons ok_up9 (orc_cons ok_dn9 (orc_cons ok_sure9 (orc_cons ok_scale orc_nil)))) (by kernel_rfl) (by kernel_rfl) (by kernel_rfl) (loops_none (by kernel_rfl)) fun args r h => ?_
  unfold sp_lawUI at h
  split at h
  · rename_i p n
    simp only [Option.some.injEq, Prod.mk.injEq] at h
    obtain ⟨hp, rfl⟩ := h
    obtain ⟨m, rfl, hm⟩ := nat_of hp
    refine ⟨by kernel_rfl, .inr rfl, (run_cBack m n).trans ?_⟩
    have hu := up_lt hm
    have hj : 0 ≤ w64 ((u64 n).tmod 60) ∧ w64 ((u64 n).tmod 60) ≤ 60 := by
      have h1 : 0 ≤ u64 n := by unfold u64; rw [IntKind.wrap_u64]; omega
      have h2 : 0 ≤ (u64 n).tmod 60 ∧ (u64 n).tmod 60 < 60 := by
        rw [Int.tmod_eq_emod_of_nonneg h1]
        omega
      rw [w64_mid (by omega) (by omega)]
      omega
    generalize w64 ((u64 n).tmod 60) = j at *
    unfold sb1 upP upF dnP
    rw [hp, Int.toNat_natCast, stk_eq, stk_eq, Int.toNat_natCast, stk_eq, stk_eq, inU_nat hu, andNot63 m hm]
    unfold sb2
    rw [andNot63 _ hu]
    have q2 : decide (((absN m : Nat) : Int) > 9218868437227405312) = decide (infN < absN m) := decide_eq_decide.2 (by unfold infN; omega)
    rw [q2]
    by_cases hnan : infN < absN m
    · have e1 : upPN m = nanC := if_pos hnan
      have e2 : upFN m = noFN m := if_pos hnan
      rw [decide_eq_true hnan, e1, e2, nan_up, or_same m]
      rfl
    · have hle : absN m ≤ infN := by omega
      have e2 : upFN m = 0 := if_neg hnan
      have e3 : upFN (upPN m) = 0 := if_neg (by have := up_abs hm hle; omega)
      have q3 : (((absN m : Nat) : Int) != 0) = !decide (absN m = 0) := bne_nat _ 0
      have q4 : (((absN m : Nat) : Int) != 9218868437227405312) = !decide (absN m = infN) := bne_nat _ 9218868437227405312
      have q5 : (((absN (upPN m) : Nat) : Int) != 0) = !decide (absN (upPN m) = 0) := bne_nat _ 0
      rw [decide_eq_false hnan, e2, e3, sbZ_at hm hle hj, q3, q4, q5, bne_nat]
      by_cases c1 : absN m = 0
      · rw [decide_eq_true c1]; rfl
      · by_cases c2 : absN m = infN
        · rw [decide_eq_false c1, decide_eq_true c2]; rfl
        · by_cases c3 : absN (upPN m) = 0
          · rw [decide_eq_false c1, decide_eq_false c2, decide_eq_true c3]; rfl
          · rw [decide_eq_false c1, decide_eq_false c2, decide_eq_false c3, decide_eq_true (dn_up hm (show absN m < infN by omega) c1 c3)]; rfl
  · cases h
end
end Go.Proofs.Ytdkebceiljdgjaa
