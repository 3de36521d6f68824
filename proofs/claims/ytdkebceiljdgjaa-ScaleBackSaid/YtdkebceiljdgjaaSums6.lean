/- SumsTwo. Own work. -/
import Derived.Test.YtdkebceiljdgjaaSums5
namespace Go.Proofs.Ytdkebceiljdgjaa
set_option maxRecDepth 100000
noncomputable section

/-! ### What patterns are worth, in the least one -/
def sv (m : Bool) (A : Nat) : Int := if m = true then -(A : Int) else A
def uV (p : Nat) : Nat := sigN p * 2 ^ (exN p + 1074).toNat
def pV (p : Nat) : Int := sv (sgB p) (uV p)

theorem sv_zero (m : Bool) : sv m 0 = 0 := by cases m <;> rfl
theorem sv_inj {a b : Bool} {A B : Nat} (h : sv a A = sv b B) (h0 : sv a A ≠ 0) : a = b ∧ A = B := by
  unfold sv at *
  cases a <;> cases b <;> simp at h h0 ⊢ <;> omega
theorem sv_not (a : Bool) (A : Nat) : sv (!a) A = -sv a A := by unfold sv; cases a <;> simp

theorem sum_val (a b : Bool) (A B : Nat) (k : Int) : sv (sumM a b A B k) (sumS a b A B) = sv a A + sv b B := by
  unfold sumM sumS
  by_cases hab : a = b
  · subst hab
    rw [if_pos rfl, if_pos rfl]
    unfold sv
    cases a <;> simp <;> omega
  · rw [if_neg hab, if_neg hab]
    have hb : b = !a := by cases a <;> cases b <;> simp at hab ⊢
    subst hb
    rw [sv_not]
    by_cases h1 : A = B
    · rw [if_pos h1, if_pos (show B ≤ A by omega), h1, Nat.sub_self, sv_zero]
      omega
    · rw [if_neg h1]
      by_cases h2 : B < A
      · rw [if_pos h2, if_pos (show B ≤ A by omega)]
        unfold sv
        cases a <;> simp <;> omega
      · rw [if_neg h2, if_neg (show ¬ B ≤ A by omega)]
        unfold sv
        cases a <;> simp <;> omega

theorem sumS_mul (a b : Bool) (A B c : Nat) (hc : 0 < c) : sumS a b (A * c) (B * c) = sumS a b A B * c := by
  unfold sumS
  by_cases hab : a = b
  · rw [if_pos hab, if_pos hab, Nat.add_mul]
  · rw [if_neg hab, if_neg hab]
    by_cases h : B ≤ A
    · rw [if_pos h, if_pos (Nat.mul_le_mul_right c h), Nat.sub_mul]
    · rw [if_neg h, if_neg (fun h' => h (Nat.le_of_mul_le_mul_right h' hc)), Nat.sub_mul]
theorem sumM_mul (a b : Bool) (A B c : Nat) (hc : 0 < c) (k : Int) : sumM a b (A * c) (B * c) k = sumM a b A B k := by
  unfold sumM
  by_cases hab : a = b
  · rw [if_pos hab, if_pos hab]
  · rw [if_neg hab, if_neg hab]
    by_cases h : A = B
    · rw [if_pos h, if_pos (show A * c = B * c by rw [h])]
    · have h' : ¬ A * c = B * c := fun e => h (Nat.eq_of_mul_eq_mul_right hc e)
      rw [if_neg h, if_neg h']
      by_cases h2 : B < A
      · rw [if_pos h2, if_pos (Nat.mul_lt_mul_of_pos_right h2 hc)]
      · rw [if_neg h2, if_neg (fun h' => h2 (Nat.lt_of_mul_lt_mul_right h'))]

theorem exA_U (p q : Nat) : exA (sigN p) (exN p) (exN q) * 2 ^ (min (exN p) (exN q) + 1074).toNat = uV p := by
  have h1 := ex_range p
  have h2 := ex_range q
  unfold exA uV
  rw [Nat.mul_assoc, ← Nat.pow_add]
  congr 2
  omega

/-- The exact sum of two patterns is worth what they are. -/
theorem sm_val (p q : Nat) (k : Int) : sv (smM p q k) (smS p q * 2 ^ (min (exN p) (exN q) + 1074).toNat) = pV p + pV q := by
  have hc : 0 < 2 ^ (min (exN p) (exN q) + 1074).toNat := Nat.two_pow_pos _
  have e1 := exA_U p q
  have e2 := exA_U q p
  rw [Int.min_comm] at e2
  unfold smM smS pV
  rw [← sumS_mul _ _ _ _ _ hc, ← sumM_mul _ _ _ _ _ hc k, e1, e2]
  exact sum_val _ _ _ _ k

/-- What is rounded without flags is worth what it was. -/
theorem rnd_val {m : Bool} {S : Nat} {x k : Int} (hx : -1074 ≤ x) (h : rndF m S x k = 0) : pV (rndP m S x k) = sv m (S * 2 ^ (x + 1074).toNat) ∧ absN (rndP m S x k) < infN := by
  by_cases h0 : S = 0
  · subst h0
    have z : sizeP m 0 x k = 0 := if_pos rfl
    unfold rndP
    rw [z, Nat.zero_mul, sv_zero, Nat.zero_add]
    have e1 : pV (sgnOf true) = 0 ∧ absN (sgnOf true) < infN := by decide +kernel
    have e2 : pV (sgnOf false) = 0 ∧ absN (sgnOf false) < infN := by decide +kernel
    cases m
    · exact e2
    · exact e1
  · obtain ⟨h1, _, _, _, h5⟩ := exact_pat h0 h
    have hv := exact_val h0 h (-1074) hx (low_ge S x)
    refine ⟨?_, h1⟩
    unfold pV uV sgB
    rw [h5, show exN (rndP m S x k) + 1074 = exN (rndP m S x k) - -1074 by omega, hv]
    rfl

theorem pV_neg {p : Nat} (h : p < 18446744073709551616) : pV (negN p) = -pV p := by
  unfold pV uV
  rw [neg_sg h, neg_sig, neg_ex, sv_not]

theorem pV_ne {p : Nat} (h : absN p < infN) (h0 : absN p ≠ 0) : pV p ≠ 0 := by
  have hs : sigN p ≠ 0 := fun e => h0 ((sig_zero h).1 e)
  have : 0 < uV p := Nat.mul_pos (by omega) (Nat.two_pow_pos _)
  unfold pV sv
  split <;> omega

/-- Patterns that are worth the same. -/
theorem pV_inj {p q : Nat} (hp : p < 18446744073709551616) (hq : q < 18446744073709551616) (fp : absN p < infN) (fq : absN q < infN) (h : pV p = pV q) (h0 : pV p ≠ 0) : p = q := by
  obtain ⟨h1, h2⟩ := sv_inj h h0
  have e1 := (pat_round hp fp 0).1
  have e2 := (pat_round hq fq 0).1
  have r1 := ex_range p
  have r2 := ex_range q
  unfold uV at h2
  have := (rnd_same (S := sigN p) (T := sigN q) (x := exN p) (y := exN q) (-1074) r1.1 r2.1 (by rw [show exN p - -1074 = exN p + 1074 by omega, show exN q - -1074 = exN q + 1074 by omega]; exact h2) 0 (sgB p)).1
  unfold rndP at e1 e2
  rw [← e1, ← e2, this, h1]

theorem ad_val {p q : Nat} (hp : absN p < infN) (hq : absN q < infN) {k : Int} (h : adFN p q k = 0) : pV (adPN p q k) = pV p + pV q ∧ absN (adPN p q k) < infN := by
  obtain ⟨e1, e2⟩ := ad_fin hp hq k
  rw [e2] at h
  have r1 := ex_range p
  have r2 := ex_range q
  obtain ⟨h1, h2⟩ := rnd_val (by omega) h
  rw [e1]
  exact ⟨h1.trans (sm_val p q k), h2⟩

theorem abs_nan : ¬ absN nanC < infN := by decide +kernel

theorem two_law {a b : Nat} (ha : a < 18446744073709551616) (hb : b < 18446744073709551616) (h1 : adFN a b 0 = 0) (h2 : adFN (adPN a b 0) (sbQ a) 0 = 0) (f1 : absN (adPN a b 0) < infN) (f2 : absN a < infN) (b0 : absN b ≠ 0) :
    adPN (adPN a b 0) (sbQ a) 0 = b := by
  have f3 : absN b < infN := by
    rcases Nat.lt_or_ge (absN b) infN with h | h
    · exact h
    · exfalso
      by_cases hn : infN < absN b
      · have : adPN a b 0 = nanC := by unfold adPN; rw [if_pos (show infN < absN a ∨ infN < absN b from .inr hn)]
        rw [this] at f1
        exact abs_nan f1
      · have hi : absN b = infN := by omega
        have n1 : ¬ (infN < absN a ∨ infN < absN b) := by omega
        have n2 : ¬ (absN a = infN ∧ absN b = infN ∧ a ≠ b) := fun h => by omega
        have n3 : ¬ absN a = infN := by omega
        have : adPN a b 0 = b := by unfold adPN; rw [if_neg n1, if_neg n2, if_neg n3, if_pos hi]
        rw [this] at f1
        omega
  have hq : sbQ a = negN a := if_neg (by omega)
  rw [hq] at h2 ⊢
  obtain ⟨v1, _⟩ := ad_val f2 f3 h1
  obtain ⟨v2, f4⟩ := ad_val f1 (show absN (negN a) < infN by rw [neg_abs]; exact f2) h2
  have hv : pV (adPN (adPN a b 0) (negN a) 0) = pV b := by rw [v2, v1, pV_neg ha]; omega
  exact pV_inj (ad_lt (ad_lt ha hb 0) (neg_lt a) 0) hb f4 f3 hv (by rw [hv]; exact pV_ne f3 b0)

def tw2 (p q s f t g : Int) : Option AV :=
  bif f != 0 then bT else bif g != 0 then bT else bif decide ((andNotI .u64 s 9223372036854775808) ≥ 9218868437227405312) then bT else bif decide ((andNotI .u64 p 9223372036854775808) ≥ 9218868437227405312) then bT else bif (andNotI .u64 q 9223372036854775808) == 0 then bT else bif t == q then bT else bF
def tw1 (p q s f : Int) : Option AV := chk (inU s && inU p) (tw2 p q s f ((adP s.toNat (stk (sbQ p.toNat)) 0 : Nat) : Int) ((adF s.toNat (stk (sbQ p.toNat)) 0 : Nat) : Int))
theorem run_sTwo (p q : Int) : callA (env Try.f17.ntmps orcLaw5 []) (bodyC Try.f17) Try.f17.results.toList (slots 0 [.int .u64 p, .int .u64 q]) some =
    chk (inU p && inU q) (tw1 p q ((adP p.toNat q.toNat 0 : Nat) : Int) ((adF p.toNat q.toNat 0 : Nat) : Int)) := by kernel_rfl

def sp_law2 : List AV → Option (Bool × AV)
  | [.int .u64 p, .int .u64 q] => some (inU p && inU q, .bool true)
  | _ => none

theorem ok_sTwo : EntOk Try.prog 17 (entS false sp_law2) := by
  refine contractS (orc := orcLaw5) (lo := []) Try.func17 orcLaw5_ok (by kernel_rfl) (by kernel_rfl) (by kernel_rfl) (loops_none (by kernel_rfl)) fun args r h => ?_
  unfold sp_law2 at h
  split at h
  · rename_i p q
    simp only [Option.some.injEq, Prod.mk.injEq, Bool.and_eq_true] at h
    obtain ⟨⟨hp, hq⟩, rfl⟩ := h
    obtain ⟨m, rfl, hm⟩ := nat_of hp
    obtain ⟨n, rfl, hn⟩ := nat_of hq
    refine ⟨by kernel_rfl, .inr rfl, (run_sTwo m n).trans ?_⟩
    have hl := ad_lt hm hn 0
    have h2 := two_law hm hn
    unfold tw1 adP adF
    rw [hp, hq, Int.toNat_natCast, Int.toNat_natCast, stk_eq, stk_eq, Int.toNat_natCast, stk_eq, stk_eq, stk_eq, inU_nat hl]
    unfold tw2
    rw [andNot63 _ hl, andNot63 m hm, andNot63 n hn]
    have q1 : (((adFN m n 0 : Nat) : Int) != 0) = !decide (adFN m n 0 = 0) := bne_nat _ 0
    have q2 : (((adFN (adPN m n 0) (sbQ m) 0 : Nat) : Int) != 0) = !decide (adFN (adPN m n 0) (sbQ m) 0 = 0) := bne_nat _ 0
    have q3 : decide (((absN (adPN m n 0) : Nat) : Int) ≥ 9218868437227405312) = decide (¬ absN (adPN m n 0) < infN) := decide_eq_decide.2 (by unfold infN; omega)
    have q4 : decide (((absN m : Nat) : Int) ≥ 9218868437227405312) = decide (¬ absN m < infN) := decide_eq_decide.2 (by unfold infN; omega)
    have q5 : (((absN n : Nat) : Int) == 0) = decide (absN n = 0) := eqN _ 0
    rw [q1, q2, q3, q4, q5, eqN]
    by_cases h1 : adFN m n 0 = 0
    · by_cases h3 : adFN (adPN m n 0) (sbQ m) 0 = 0
      · by_cases h4 : absN (adPN m n 0) < infN
        · by_cases h5 : absN m < infN
          · by_cases h6 : absN n = 0
            · rw [decide_eq_true h1, decide_eq_true h3, decide_eq_true h6, decide_eq_false (not_not_intro h4), decide_eq_false (not_not_intro h5)]; rfl
            · rw [decide_eq_true h1, decide_eq_true h3, decide_eq_false h6, decide_eq_false (not_not_intro h4), decide_eq_false (not_not_intro h5), decide_eq_true (h2 h1 h3 h4 h5 h6)]; rfl
          · rw [decide_eq_true h1, decide_eq_true h3, decide_eq_false (not_not_intro h4), decide_eq_true h5]; rfl
        · rw [decide_eq_true h1, decide_eq_true h3, decide_eq_true h4]; rfl
      · rw [decide_eq_true h1, decide_eq_false h3]; rfl
    · rw [decide_eq_false h1]; rfl
  · cases h
end
end Go.Proofs.Ytdkebceiljdgjaa
