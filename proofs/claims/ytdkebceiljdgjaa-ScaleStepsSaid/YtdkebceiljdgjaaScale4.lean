/- ScaleSteps. Own work. -/
import Derived.Test.YtdkebceiljdgjaaScale3
namespace Go.Proofs.Ytdkebceiljdgjaa
set_option maxRecDepth 100000
noncomputable section

/-- What is worth as much as a pattern is summed to it. -/
theorem ad_exact {p q r : Nat} (hp : absN p < infN) (hq : absN q < infN) (hr : absN r < infN) (hl : r < 18446744073709551616) (h : pV p + pV q = pV r) (h0 : absN r ≠ 0) (k : Int) : adPN p q k = r ∧ adFN p q k = 0 := by
  obtain ⟨e1, e2⟩ := ad_fin hp hq k
  have hv := sm_val p q k
  rw [h] at hv
  have hne := pV_ne hr h0
  rw [← hv] at hne
  obtain ⟨s1, s2⟩ := sv_inj hv hne
  have r1 := ex_range p
  have r2 := ex_range q
  have r3 := ex_range r
  have hs := rnd_same (S := smS p q) (T := sigN r) (x := min (exN p) (exN q)) (y := exN r) (-1074) (by omega) r3.1 (by
    rw [show min (exN p) (exN q) - -1074 = min (exN p) (exN q) + 1074 by omega, show exN r - -1074 = exN r + 1074 by omega]
    exact s2) k (sgB r)
  obtain ⟨p1, p2⟩ := pat_round hl hr k
  rw [e1, e2, s1]
  unfold rndP at p1 ⊢
  rw [hs.1, hs.2]
  exact ⟨p1, p2⟩

theorem next_lo {a : Nat} (hE : ¬ pE a = 2047) (_c : pF a + 1 < 4503599627370496) (f1 : pE (a + 1) = pE a) (f2 : pF (a + 1) = pF a + 1) : exN (a + 1) = exN a ∧ sigN (a + 1) = sigN a + 1 := by
  unfold exN sigN
  rw [f1, f2]
  generalize pE a = E at *
  generalize pF a = F at *
  generalize 4503599627370496 = K at *
  simp only [if_neg hE]
  refine ⟨trivial, ?_⟩
  by_cases hp : 0 < E
  · rw [if_pos hp, if_pos hp, Nat.add_right_comm]
  · rw [if_neg hp, if_neg hp]

theorem next_hi {a : Nat} (_hE : ¬ pE a = 2047) (hE' : ¬ pE a + 1 = 2047) (_c : pF a = 4503599627370495) (f1 : pE (a + 1) = pE a + 1) (f2 : pF (a + 1) = 0) : exN (a + 1) = (pE a : Int) - 1074 ∧ sigN (a + 1) = 4503599627370496 := by
  unfold exN sigN
  rw [f1, f2]
  generalize pE a = E at *
  generalize 4503599627370496 = K at *
  rw [if_neg hE', if_neg hE', if_pos (Nat.succ_pos E), if_pos (Nat.succ_pos E), Nat.zero_add]
  exact ⟨by omega, rfl⟩

theorem sig_top {a : Nat} (hE : ¬ pE a = 2047) (c : pF a = 4503599627370495) : (0 < pE a → sigN a + 1 = 9007199254740992 ∧ exN a = (pE a : Int) - 1075) ∧ (¬ 0 < pE a → sigN a + 1 = 4503599627370496 ∧ exN a = -1074) := by
  unfold exN sigN
  rw [c]
  generalize pE a = E at *
  rw [if_neg hE, if_neg hE]
  refine ⟨fun hp => ?_, fun hp => ?_⟩
  · rw [if_pos hp, if_pos hp]
    exact ⟨by omega, rfl⟩
  · rw [if_neg hp, if_neg hp]
    exact ⟨by omega, rfl⟩

theorem next_parts {a : Nat} (h : a + 1 < 9218868437227405312) : ¬ pE a = 2047 ∧ ((pF a + 1 < 4503599627370496 ∧ pE (a + 1) = pE a ∧ pF (a + 1) = pF a + 1) ∨ (pF a = 4503599627370495 ∧ pE (a + 1) = pE a + 1 ∧ pF (a + 1) = 0 ∧ ¬ pE a + 1 = 2047)) := by
  unfold pE pF
  omega

theorem uV_next {a : Nat} (h : a + 1 < infN) : uV (a + 1) = (sigN a + 1) * 2 ^ (exN a + 1074).toNat := by
  obtain ⟨hE, hh⟩ := next_parts h
  unfold uV
  rcases hh with ⟨c, f1, f2⟩ | ⟨c, f1, f2, hE'⟩
  · obtain ⟨e1, e2⟩ := next_lo hE c f1 f2
    rw [e1, e2]
  · obtain ⟨e1, e2⟩ := next_hi hE hE' c f1 f2
    obtain ⟨t1, t2⟩ := sig_top hE c
    rw [e1, e2]
    by_cases hp : 0 < pE a
    · obtain ⟨e3, e4⟩ := t1 hp
      have e5 : ((pE a : Int) - 1074 + 1074).toNat = (exN a + 1074).toNat + 1 := by omega
      rw [e3, e5, Nat.pow_succ]
      generalize 2 ^ (exN a + 1074).toNat = X
      omega
    · obtain ⟨e3, e4⟩ := t2 hp
      have e5 : ((pE a : Int) - 1074 + 1074).toNat = (exN a + 1074).toNat := by omega
      rw [e3, e5]

theorem lenN_one : lenN 1 = 1 := by decide +kernel

/-- A power of two is a pattern. -/
theorem pow_pat {x : Int} (hx : -1074 ≤ x ∧ x ≤ 971) (k : Int) : rndF false 1 x k = 0 := by
  have hl : lowN 1 x = max (x + 1 - 53) (-1074) := by unfold lowN topN; rw [lenN_one]; rfl
  have hd : lowN 1 x - x ≤ 0 := by omega
  have hi : inexN 1 (lowN 1 x - x) = false := by
    unfold inexN halfN restN
    rw [decide_eq_false (show ¬ 0 < lowN 1 x - x by omega)]
    rfl
  have hq := q_lt (S := 1) (by decide) x
  have hb : baseN 1 x < infN := by
    have : (lowN 1 x + 1074).toNat ≤ 1994 := by omega
    unfold baseN infN
    generalize qN 1 (lowN 1 x - x) = q at *
    generalize (lowN 1 x + 1074).toNat = n at *
    omega
  exact (size_cases (m := false) (k := k) (by decide) hi hb).2

theorem step_pat {a : Nat} (h : a + 1 < infN) (h0 : a ≠ 0) : stPN a = rndP false 1 (exN a) 0 ∧ stFN a = 0 := by
  have ha : absN a = a := by unfold absN; unfold infN at h; omega
  have hf : absN a < infN := by omega
  have h1 := (low_self hf (by omega)).1
  have h2 : max (powN a - 52) (-1074) = exN a := by
    unfold lowN topN at h1
    unfold powN
    omega
  unfold stPN stFN
  rw [ha, h2, if_neg (show ¬ infN < a by omega), if_neg (show ¬ infN < a by omega), if_neg (show ¬ a = infN by omega), if_neg (show ¬ a = infN by omega), if_neg h0, if_neg h0]
  exact ⟨rfl, pow_pat (ex_range a) 0⟩

theorem sg_small {a : Nat} (h : a < infN) : sgB a = false := decide_eq_false (by unfold infN at h; omega)

theorem one_parts : absN 1 = 1 ∧ sigN 1 = 1 ∧ exN 1 = -1074 ∧ sgB 1 = false ∧ pV 1 = 1 := by decide +kernel

/-- A size and the least one. -/
theorem tiny_sum {a : Nat} (h : a + 1 < infN) (h0 : a ≠ 0) (he : exN a ≠ -1074) : adPN a 1 3 = a + 1 ∧ adPN a 1 4 = a := by
  have ha : absN a = a := by unfold absN; unfold infN at h; omega
  have hf : absN a < infN := by omega
  obtain ⟨o1, o2, o3, o4, _⟩ := one_parts
  have r := ex_range a
  obtain ⟨j, hj⟩ : ∃ j : Nat, exN a = (j : Int) - 1074 := ⟨(exN a + 1074).toNat, by omega⟩
  have hj0 : 0 < j := by omega
  have hmin : min (exN a) (exN 1) = -1074 := by rw [o3]; omega
  have hA : exA (sigN a) (exN a) (exN 1) = sigN a * 2 ^ j := by unfold exA; rw [hmin, show exN a - -1074 = (j : Int) by omega, Int.toNat_natCast]
  have hB : exA (sigN 1) (exN 1) (exN a) = 1 := by unfold exA; rw [Int.min_comm, hmin, o2, o3]; rfl
  have hS : smS a 1 = sigN a * 2 ^ j + 1 := by unfold smS sumS; rw [hA, hB, sg_small (show a < infN by omega), o4, if_pos rfl]
  have hM : ∀ k, smM a 1 k = false := fun k => by unfold smM sumM; rw [sg_small (show a < infN by omega), o4, if_pos rfl]
  have hs : 0 < sigN a := Nat.pos_of_ne_zero (fun e => by have := (sig_zero hf).1 e; omega)
  obtain ⟨l1, l2⟩ := low_self hf (by omega)
  have hp2 : 1 < 2 ^ j := Nat.one_lt_two_pow (by omega)
  have hlen : lenN (sigN a * 2 ^ j + 1) = lenN (sigN a) + j := lenN_stick hs hp2
  have hlow : lowN (sigN a * 2 ^ j + 1) (-1074) = exN a := by
    unfold lowN topN at l1 ⊢
    rw [hlen]
    omega
  have hd : lowN (sigN a * 2 ^ j + 1) (-1074) - -1074 = (j : Int) := by rw [hlow]; omega
  have hq : qN (sigN a * 2 ^ j + 1) (j : Int) = sigN a := by
    rw [qN_pos (by omega), Int.toNat_natCast, Nat.add_comm, Nat.add_mul_div_right _ _ (Nat.two_pow_pos j), Nat.div_eq_of_lt hp2, Nat.zero_add]
  have hi : inexN (sigN a * 2 ^ j + 1) (j : Int) = true := by
    cases hx : inexN (sigN a * 2 ^ j + 1) (j : Int) with
    | true => rfl
    | false =>
      have := exact_mul hx 0 (by omega)
      rw [hq, Nat.pow_zero, Nat.mul_one, show ((j : Int) + (0 : Nat)).toNat = j by omega] at this
      omega
  have hb : baseN (sigN a * 2 ^ j + 1) (-1074) = a := by
    unfold baseN
    rw [hd, hq, hlow]
    omega
  have hu : ∀ k, rawN false (sigN a * 2 ^ j + 1) (-1074) k = a + (upD (sigN a * 2 ^ j + 1) (j : Int) k false).toNat := fun k => by
    unfold rawN
    rw [hb, hd]
  unfold inexN at hi
  have u3 : upD (sigN a * 2 ^ j + 1) (j : Int) 3 false = true := by
    unfold upD upN
    rw [if_neg (by decide), if_pos rfl, hi]
    rfl
  have u4 : upD (sigN a * 2 ^ j + 1) (j : Int) 4 false = false := by
    unfold upD upN
    rw [if_neg (by decide), if_neg (by decide), if_pos rfl]
    rfl
  obtain ⟨e1, _⟩ := ad_fin hf (show absN 1 < infN by rw [o1]; decide) 3
  obtain ⟨e2, _⟩ := ad_fin hf (show absN 1 < infN by rw [o1]; decide) 4
  rw [e1, e2, hM, hM, hS, hmin]
  have n0 : ¬ sigN a * 2 ^ j + 1 = 0 := by omega
  have v3 := hu 3
  have v4 := hu 4
  rw [u3] at v3
  rw [u4] at v4
  unfold rndP sizeP
  rw [if_neg n0, if_neg n0, v3, v4]
  simp only [Bool.toNat_true, Bool.toNat_false, Nat.add_zero]
  have g1 : ¬ a + 1 ≥ infN := by omega
  have g2 : ¬ a ≥ infN := by omega
  rw [if_neg g1, if_neg g2]
  exact ⟨rfl, rfl⟩

theorem pV_pos {a : Nat} (h : a < infN) : pV a = (uV a : Int) := by unfold pV sv; rw [sg_small h, if_neg (by decide)]

theorem steps_law {a : Nat} (h : a + 1 < infN) (h0 : a ≠ 0) : stFN a = 0 ∧ adPN a (stPN a) 0 = a + 1 ∧ adFN a (stPN a) 0 = 0 ∧ upPN a = a + 1 ∧ upFN a = 0 ∧ adPN a 1 3 = a + 1 ∧ (adPN a 1 4 = a ∨ (stPN a = 1 ∧ adPN a 1 4 = a + 1)) := by
  have ha : absN a = a := by unfold absN; unfold infN at h; omega
  have ha1 : absN (a + 1) = a + 1 := by unfold absN; unfold infN at h; omega
  have hf : absN a < infN := by omega
  have hf1 : absN (a + 1) < infN := by omega
  have hl1 : a + 1 < 18446744073709551616 := by unfold infN at h; omega
  obtain ⟨s1, s2⟩ := step_pat h h0
  have r := ex_range a
  obtain ⟨w1, w2⟩ := rnd_val (m := false) (S := 1) (x := exN a) (k := 0) r.1 (pow_pat r 0)
  have hv : pV a + pV (stPN a) = pV (a + 1) := by
    rw [s1, w1, pV_pos (show a < infN by omega), pV_pos h, uV_next h, Nat.add_mul]
    unfold uV sv
    rw [if_neg (by decide)]
    omega
  obtain ⟨q1, q2⟩ := ad_exact hf (show absN (stPN a) < infN by rw [s1]; exact w2) hf1 hl1 hv (by omega) 0
  have hup : upPN a = a + 1 := by
    unfold upPN
    rw [ha, if_neg (show ¬ infN < a by omega), if_neg (show ¬ a = infN by omega), if_neg h0, if_neg (show ¬ 9223372036854775808 ≤ a by unfold infN at h; omega)]
  have hupf : upFN a = 0 := if_neg (by omega)
  refine ⟨s2, q1, q2, hup, hupf, ?_⟩
  by_cases he : exN a = -1074
  · obtain ⟨o1, o2, o3, o4, o5⟩ := one_parts
    have hv1 : pV a + pV 1 = pV (a + 1) := by
      rw [o5, pV_pos (show a < infN by omega), pV_pos h, uV_next h]
      unfold uV
      rw [he]
      show ((sigN a * 2 ^ 0 : Nat) : Int) + 1 = (((sigN a + 1) * 2 ^ 0 : Nat) : Int)
      rw [Nat.pow_zero, Nat.mul_one, Nat.mul_one]
      omega
    have t3 := (ad_exact hf (show absN 1 < infN by rw [o1]; decide) hf1 hl1 hv1 (by omega) 3).1
    have t4 := (ad_exact hf (show absN 1 < infN by rw [o1]; decide) hf1 hl1 hv1 (by omega) 4).1
    refine ⟨t3, .inr ⟨?_, t4⟩⟩
    rw [s1, he]
    decide +kernel
  · obtain ⟨t3, t4⟩ := tiny_sum h h0 he
    exact ⟨t3, .inl t4⟩

theorem steps_zero : stPN 0 = 1 ∧ stFN 0 = 0 ∧ adPN 0 1 0 = 1 ∧ adFN 0 1 0 = 0 ∧ upPN 0 = 1 ∧ upFN 0 = 0 ∧ adPN 0 1 3 = 1 ∧ adPN 0 1 4 = 1 := by decide +kernel

def orcSteps : List (FuncId × Ent) := [(36, entS false sp_true), (39, entS false sp_step), (43, entS false sp_add), (32, entS false sp_up9)]
def bI (b : Bool) (t : Option AV) : Option AV := bif b then t else bF
def st5 (a s f q g u h r t : Int) : Option AV :=
  bI (f == 0) (bI (g == 0) (bI (h == 0) (bI (q == u) (bI (r == u) (bif t == a then bT else bI (s == 1) (bI (t == u) bT))))))
def st4 (a s f q g u h : Int) : Option AV := chk (inU a && inU 1) (chk (inU a && inU 1) (st5 a s f q g u h ((adP a.toNat (1 : Int).toNat 3 : Nat) : Int) ((adP a.toNat (1 : Int).toNat 4 : Nat) : Int)))
def st3 (a s f q g : Int) : Option AV := chk (inU a) (st4 a s f q g ((upP a.toNat : Nat) : Int) ((upF a.toNat : Nat) : Int))
def st2 (a s f : Int) : Option AV := chk (inU a && inU s) (st3 a s f ((adP a.toNat s.toNat 0 : Nat) : Int) ((adF a.toNat s.toNat 0 : Nat) : Int))
def st1 (a : Int) : Option AV := bif decide (a ≥ 9218868437227405311) then bT else chk (inU a) (st2 a ((stP a.toNat : Nat) : Int) ((stF a.toNat : Nat) : Int))
theorem run_cSteps (p : Int) : callA (env Try.f18.ntmps orcSteps []) (bodyC Try.f18) Try.f18.results.toList (slots 0 [.int .u64 p]) some =
    st1 (andNotI .u64 p 9223372036854775808) := by kernel_rfl

theorem st5_at {a s f q g u h r t : Nat} (h1 : f = 0) (h2 : g = 0) (h3 : h = 0) (h4 : q = u) (h5 : r = u) (h6 : t = a ∨ (s = 1 ∧ t = u)) : st5 (a : Int) (s : Int) (f : Int) (q : Int) (g : Int) (u : Int) (h : Int) (r : Int) (t : Int) = bT := by
  subst h1 h2 h3 h4 h5
  unfold st5 bI
  rw [beq_self_eq_true]
  rcases h6 with rfl | ⟨rfl, rfl⟩
  · rw [beq_self_eq_true]; rfl
  · rw [eqN, beq_self_eq_true]
    cases decide (t = a) <;> rfl

theorem ok_cSteps : EntOk Try.prog 18 (entS false sp_law1) := by
  refine contractS (orc := orcSteps) (lo := []) Try.func18 (orc_cons ok_sure9 (orc_cons ok_step (orc_cons ok_add5 (orc_cons ok_up9 orc_nil)))) (by kernel_rfl) (by kernel_rfl) (by kernel_rfl) (loops_none (by kernel_rfl)) fun args r h => ?_
  unfold sp_law1 at h
  split at h
  · rename_i p
    simp only [Option.some.injEq, Prod.mk.injEq] at h
    obtain ⟨hp, rfl⟩ := h
    obtain ⟨m, rfl, hm⟩ := nat_of hp
    refine ⟨by kernel_rfl, .inr rfl, (run_cSteps m).trans ?_⟩
    rw [andNot63 m hm]
    have hl := abs_lt m
    generalize absN m = a at *
    unfold st1
    by_cases hb : (a : Int) ≥ 9218868437227405311
    · rw [decide_eq_true hb]; rfl
    · have h1 : a + 1 < infN := by unfold infN; omega
      have hst : stPN a < 18446744073709551616 := by
        by_cases h0 : a = 0
        · rw [h0, steps_zero.1]; decide
        · rw [(step_pat h1 h0).1]
          unfold rndP
          have := rndP_lt false 1 (exN a) 0
          have e : sgnOf false = 0 := rfl
          omega
      unfold st2 st3 st4 stP stF adP adF upP upF
      rw [decide_eq_false hb, inU_nat (show a < 18446744073709551616 by omega), inU_one, Int.toNat_natCast, stk_eq, stk_eq, Int.toNat_natCast, stk_eq, stk_eq, stk_eq, stk_eq, stk_eq, stk_eq, inU_nat hst, show (1 : Int).toNat = 1 from rfl]
      have key : st5 (a : Int) ((stPN a : Nat) : Int) ((stFN a : Nat) : Int) ((adPN a (stPN a) 0 : Nat) : Int) ((adFN a (stPN a) 0 : Nat) : Int) ((upPN a : Nat) : Int) ((upFN a : Nat) : Int) ((adPN a 1 3 : Nat) : Int) ((adPN a 1 4 : Nat) : Int) = bT := by
        by_cases h0 : a = 0
        · obtain ⟨z1, z2, z3, z4, z5, z6, z7, z8⟩ := steps_zero
          rw [h0, z1, z2, z3, z4, z5, z6, z7, z8]
          exact st5_at rfl rfl rfl rfl rfl (.inr ⟨rfl, rfl⟩)
        · obtain ⟨z1, z2, z3, z4, z5, z6, z7⟩ := steps_law h1 h0
          exact st5_at z1 z3 z5 (z2.trans z4.symm) (z6.trans z4.symm) (z7.imp id fun h => ⟨h.1, h.2.trans z4.symm⟩)
      rw [key]
      rfl
  · cases h
end
end Go.Proofs.Ytdkebceiljdgjaa
