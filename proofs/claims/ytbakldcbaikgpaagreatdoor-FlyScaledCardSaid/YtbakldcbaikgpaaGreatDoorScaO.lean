/- Sums, differences, products with a sum, times a power of two: plain Lean. Own work. -/
import Derived.Test.YtbakldcbaikgpaaGreatDoorScaN
namespace Go.Proofs.YtbakldcbaikgpaaGreatDoor
set_option maxRecDepth 100000

theorem vL_le {p : Nat} (_ : absN p < infN) : 0 < pE p ∧ pE p < 2047 → vL p = (pF p + 4503599627370496) * 2 ^ (pE p + 1925) := by
  intro h1
  unfold vL sigN exN
  rw [if_neg (by omega), if_pos h1.1, if_neg (by omega), if_pos h1.1, show ((pE p : Int) - 1075 + 3000).toNat = pE p + 1925 by omega]
theorem fin_pE {p : Nat} (h : absN p < infN) : pE p < 2047 := by
  have h1 := abs_parts p
  unfold infN at h
  omega
/-- A number in the middle is nought, or one of the ordinary patterns. -/
theorem Kt.mid {e t p : Nat} (h : Kt e t p) (he : 2000 ≤ e) (ht : t ≤ 3640) : absN p = 0 ∨ (0 < pE p ∧ pE p ≤ 1720) := by
  by_cases h0 : absN p = 0
  · exact .inl h0
  · right
    have hf := fin_pE h.fin
    have hs : sigN p ≠ 0 := fun hc => h0 ((sig_zero h.fin).1 hc)
    have hv : 0 < vL p := Nat.mul_pos (by omega) (Nat.two_pow_pos _)
    have hge : ∀ d, d ≤ e → 2 ^ d ≤ vL p := fun d hd => Nat.le_trans (Nat.pow_le_pow_right (by decide) hd) (Nat.le_of_dvd hv h.dvd)
    have hle : ∀ d, t ≤ d → vL p ≤ 2 ^ d := fun d hd => Nat.le_trans h.le (Nat.pow_le_pow_right (by decide) hd)
    have hsl := sig_lt p
    rcases Nat.eq_zero_or_pos (pE p) with hE | hE
    · exfalso
      obtain ⟨d, hd, hd2⟩ : ∃ d : Nat, (exN p + 3000).toNat = d ∧ 53 + d ≤ e := ⟨1926, by unfold exN; rw [if_neg (by omega), if_neg (by omega)]; rfl, by omega⟩
      have h2 := hge (53 + d) hd2
      unfold vL at h2
      rw [hd, Nat.pow_add] at h2
      exact absurd (Nat.le_of_mul_le_mul_right h2 (Nat.two_pow_pos d)) (by omega)
    · refine ⟨hE, ?_⟩
      rw [vL_le h.fin ⟨hE, hf⟩] at hle
      obtain ⟨d, hd⟩ : ∃ d : Nat, d = 3645 := ⟨_, rfl⟩
      have hle := hle d (by omega)
      rcases Nat.lt_or_ge 1720 (pE p) with h4 | h4
      · exfalso
        have h5 : 1 * 2 ^ (d + 1) ≤ (pF p + 4503599627370496) * 2 ^ (pE p + 1925) := Nat.mul_le_mul (by omega) (Nat.pow_le_pow_right (by decide) (by omega))
        rw [Nat.one_mul] at h5
        have h6 : (2 : Nat) ^ d < 2 ^ (d + 1) := Nat.pow_lt_pow_right (by decide) (by omega)
        omega
      · exact h4
theorem Kt.sc {e t p : Nat} (h : Kt e t p) (he : 2000 ≤ e) (ht : t ≤ 3640) : vL (scN p) = vL p * 2 ^ 300 ∧ absN (scN p) < infN ∧ sgB (scN p) = sgB p ∧ scN p < 18446744073709551616 ∧ sigN (scN p) = sigN p ∧ (absN p ≠ 0 → exN (scN p) = exN p + 300) := by
  have hlt := h.lt
  have hp := abs_parts p
  have hF := pF_lt p
  rcases h.mid he ht with h0 | ⟨h1, h2⟩
  · have e1 : scN p = p := by unfold scN; rw [if_pos h0]
    have e2 : sigN p = 0 := (sig_zero h.fin).2 h0
    rw [e1]
    refine ⟨?_, h.fin, rfl, hlt, rfl, fun hc => absurd h0 hc⟩
    have hk : ∀ d : Nat, vL p = vL p * 2 ^ d := fun d => by unfold vL; rw [e2, Nat.zero_mul, Nat.zero_mul]
    exact hk 300
  · have h0 : absN p ≠ 0 := by omega
    have e1 : scN p = p + 1351079888211148800 := by unfold scN; rw [if_neg h0]
    have e2 : pE (scN p) = pE p + 300 ∧ pF (scN p) = pF p ∧ absN (scN p) = absN p + 1351079888211148800 ∧ scN p < 18446744073709551616 := by
      rw [e1]
      unfold pE pF absN at *
      refine ⟨?_, ?_, ?_, ?_⟩ <;> omega
    have f1 : absN (scN p) < infN := by
      unfold infN
      omega
    refine ⟨?_, f1, ?_, e2.2.2.2, ?_, fun _ => ?_⟩
    · rw [vL_le f1 ⟨by omega, by omega⟩, vL_le h.fin ⟨h1, by omega⟩, e2.1, e2.2.1]
      have hk : ∀ d m n s : Nat, m = n + d → s * 2 ^ m = s * 2 ^ n * 2 ^ d := fun d m n s h => by rw [h, Nat.pow_add, Nat.mul_assoc]
      exact hk 300 _ _ _ (by omega)
    · unfold sgB
      rw [e1]
      apply decide_eq_decide.2
      unfold absN at *
      unfold pE at h2
      omega
    · unfold sigN
      rw [e2.1, e2.2.1, if_neg (by omega), if_pos (by omega), if_neg (by omega), if_pos h1]
    · unfold exN
      rw [e2.1, if_neg (by omega), if_pos (by omega), if_neg (by omega), if_pos h1]
      omega
theorem Kt.mono {e t e' t' p : Nat} (h : Kt e t p) (h1 : e' ≤ e) (h2 : t ≤ t') : Kt e' t' p :=
  ⟨h.lt, h.fin, Nat.dvd_trans (Nat.pow_dvd_pow 2 h1) h.dvd, Nat.le_trans h.le (Nat.pow_le_pow_right (by decide) h2)⟩
theorem neg_scN {p : Nat} (h : absN p = 0 ∨ pE p ≤ 1720) : scN (negN p) = negN (scN p) := by
  have ha : absN (negN p) = absN p := by unfold absN negN; omega
  unfold scN
  rw [ha]
  by_cases h0 : absN p = 0
  · rw [if_pos h0, if_pos h0]
  · have h1 := abs_parts p
    have h2 := pF_lt p
    rw [if_neg h0, if_neg h0]
    have h3 : absN p < 7870000000000000000 := by
      rcases h with h | h
      · omega
      · omega
    unfold negN absN at *
    omega
theorem Kt.neg {e t p : Nat} (h : Kt e t p) : Kt e t (negN p) := by
  have h1 : vL (negN p) = vL p := by unfold vL; rw [neg_sig', neg_ex']
  refine ⟨neg_lt p, ?_, by rw [h1]; exact h.dvd, by rw [h1]; exact h.le⟩
  have := h.fin
  unfold absN negN at *
  omega
where
  neg_ex' : exN (negN p) = exN p := by
    have : pE (negN p) = pE p := by unfold pE negN; omega
    unfold exN; rw [this]
  neg_sig' : sigN (negN p) = sigN p := by
    have h1 : pE (negN p) = pE p := by unfold pE negN; omega
    have h2 : pF (negN p) = pF p := by unfold pF negN; omega
    unfold sigN; rw [h1, h2]

/-! ### Sums in one unit -/
theorem sumM_up (a b : Bool) (A B n : Nat) (k : Int) : sumM a b (A * 2 ^ n) (B * 2 ^ n) k = sumM a b A B k := by
  have hp := Nat.two_pow_pos n
  have e1 : (A * 2 ^ n = B * 2 ^ n) ↔ A = B := Nat.mul_right_cancel_iff hp
  have e2 : (B * 2 ^ n < A * 2 ^ n) ↔ B < A := Nat.mul_lt_mul_right hp
  unfold sumM
  simp only [e1, e2]
theorem sumS_up (a b : Bool) (A B n : Nat) : sumS a b (A * 2 ^ n) (B * 2 ^ n) = sumS a b A B * 2 ^ n := by
  have hp := Nat.two_pow_pos n
  have e2 : (B * 2 ^ n ≤ A * 2 ^ n) ↔ B ≤ A := Nat.mul_le_mul_right_iff hp
  unfold sumS
  by_cases h : a = b
  · rw [if_pos h, if_pos h, Nat.add_mul]
  · rw [if_neg h, if_neg h]
    by_cases h2 : B ≤ A
    · rw [if_pos h2, if_pos (e2.2 h2), Nat.sub_mul]
    · rw [if_neg h2, if_neg (fun h3 => h2 (e2.1 h3)), Nat.sub_mul]
theorem sumS_facts {a b : Bool} {A B e s : Nat} (hA : 2 ^ e ∣ A) (hB : 2 ^ e ∣ B) (h : A + B ≤ s) : 2 ^ e ∣ sumS a b A B ∧ sumS a b A B ≤ s := by
  unfold sumS
  split
  · exact ⟨Nat.dvd_add hA hB, h⟩
  · split
    · exact ⟨Nat.dvd_sub hA hB, by omega⟩
    · exact ⟨Nat.dvd_sub hB hA, by omega⟩
theorem exA_unit {S : Nat} {x y : Int} (hx : -3000 ≤ x) (hy : -3000 ≤ y) : exA S x y * 2 ^ (min x y + 3000).toNat = S * 2 ^ (x + 3000).toNat := by
  unfold exA
  rw [Nat.mul_assoc, ← Nat.pow_add]
  congr 2
  omega
theorem rnd_sum (a b : Bool) (S T : Nat) {x y : Int} (hx : -3000 ≤ x) (hy : -3000 ≤ y) :
    rndP (sumM a b (exA S x y) (exA T y x) 0) (sumS a b (exA S x y) (exA T y x)) (min x y) 0 = rndP (sumM a b (S * 2 ^ (x + 3000).toNat) (T * 2 ^ (y + 3000).toNat) 0) (sumS a b (S * 2 ^ (x + 3000).toNat) (T * 2 ^ (y + 3000).toNat)) (-3000) 0 ∧
    rndF (sumM a b (exA S x y) (exA T y x) 0) (sumS a b (exA S x y) (exA T y x)) (min x y) 0 = rndF (sumM a b (S * 2 ^ (x + 3000).toNat) (T * 2 ^ (y + 3000).toNat) 0) (sumS a b (S * 2 ^ (x + 3000).toNat) (T * 2 ^ (y + 3000).toNat)) (-3000) 0 := by
  have e1 := exA_unit (S := S) hx hy
  have e2 := exA_unit (S := T) hy hx
  rw [show min y x = min x y by omega] at e2
  obtain ⟨h1, h2⟩ := rnd_unit (sumM a b (exA S x y) (exA T y x) 0) (sumS a b (exA S x y) (exA T y x)) (min x y) (by omega)
  rw [h1, h2, ← sumS_up, e1, e2, ← e1, ← e2, sumM_up]
  exact ⟨rfl, rfl⟩
def adV (p q : Nat) : Nat := sumS (sgB p) (sgB q) (vL p) (vL q)
def adW (p q : Nat) : Bool := sumM (sgB p) (sgB q) (vL p) (vL q) 0
theorem ad_unit {p q : Nat} (hp : absN p < infN) (hq : absN q < infN) : adPN p q 0 = rndP (adW p q) (adV p q) (-3000) 0 ∧ adFN p q 0 = rndF (adW p q) (adV p q) (-3000) 0 := by
  have x1 := ex_range p
  have x2 := ex_range q
  unfold adPN adFN
  rw [if_neg (by omega), if_neg (by omega), if_neg (by omega), if_neg (by omega), if_neg (by omega), if_neg (by omega), if_neg (by omega), if_neg (by omega)]
  exact rnd_sum (sgB p) (sgB q) (sigN p) (sigN q) (by omega) (by omega)
theorem ad_up {p q p' q' : Nat} (d : Nat) (p1 : vL p' = vL p * 2 ^ d) (q1 : vL q' = vL q * 2 ^ d) (p3 : sgB p' = sgB p) (q3 : sgB q' = sgB q) : adW p' q' = adW p q ∧ adV p' q' = adV p q * 2 ^ d := by
  unfold adW adV
  rw [p1, q1, p3, q3]
  exact ⟨sumM_up .., sumS_up ..⟩
theorem ad_sc {e t p q : Nat} (hp : Kt e t p) (hq : Kt e t q) (he : 2000 ≤ e) (ht : t ≤ 3600) :
    adPN (scN p) (scN q) 0 = scN (adPN p q 0) ∧ adFN (scN p) (scN q) 0 = adFN p q 0 ∧ Kt e (t + 3) (adPN p q 0) := by
  obtain ⟨p1, p2, p3, p4, -⟩ := hp.sc he (by omega)
  obtain ⟨q1, q2, q3, q4, -⟩ := hq.sc he (by omega)
  obtain ⟨u1, u2⟩ := ad_unit hp.fin hq.fin
  obtain ⟨v1, v2⟩ := ad_unit p2 q2
  obtain ⟨hw, hv⟩ := ad_up 300 p1 q1 p3 q3
  have hb : vL p + vL q ≤ 2 ^ (t + 1) := by
    have h1 := hp.le
    have h2 := hq.le
    rw [Nat.pow_succ]
    omega
  obtain ⟨d1, d2⟩ := sumS_facts (a := sgB p) (b := sgB q) hp.dvd hq.dvd hb
  obtain ⟨k1, k2⟩ := Kt_rnd (V := adV p q) he (show t + 1 ≤ 3640 by omega) d1 d2 (adW p q)
  obtain ⟨s1, s2⟩ := sc_rnd k2 (adW p q)
  rw [v1, v2, hw, hv, s1, s2, u1, u2]
  exact ⟨rfl, rfl, k1⟩

/-! ### Products with a sum -/
/-- A point's part: nought, or not too small, and at most 1 or so. -/
def PtB (b : Nat) : Bool := decide (absN b < infN) && (decide (sigN b = 0) || (decide (-110 ≤ exN b) && decide (exN b ≤ -52)))
theorem fm_unit {a b c : Nat} (ha : absN a < infN) (hb : absN b < infN) (hc : absN c < infN) :
    fmPN a b c 0 = rndP (sumM (pdM a b) (sgB c) (wL a b) (vL c) 0) (sumS (pdM a b) (sgB c) (wL a b) (vL c)) (-3000) 0 ∧ fmFN a b c 0 = rndF (sumM (pdM a b) (sgB c) (wL a b) (vL c) 0) (sumS (pdM a b) (sgB c) (wL a b) (vL c)) (-3000) 0 := by
  have l1 : lenN (pdS a b) ≤ 106 := lenN_le.2 (pdS_lt a b)
  have l2 := len_sig c
  have x1 := ex_range a
  have x2 := ex_range b
  have x3 := ex_range c
  have hx : pdX a b = exN a + exN b := rfl
  obtain ⟨h1, h2⟩ := jn_law (S := pdS a b) (T := sigN c) (by omega) (by omega) (pdM a b) (sgB c) (pdX a b) (exN c) 0
  obtain ⟨h3, h4⟩ := h2 0
  obtain ⟨r1, r2⟩ := rnd_sum (pdM a b) (sgB c) (pdS a b) (sigN c) (x := pdX a b) (y := exN c) (by omega) (by omega)
  have hz : ¬ nzz a b := by unfold nzz; omega
  have e1 : fmPN a b c 0 = rndP (fmJ a b c 0).m (nS (fmJ a b c 0).s (fmJ a b c 0).r) (nE (fmJ a b c 0).x (fmJ a b c 0).r) 0 := by
    unfold fmPN
    rw [if_neg hz, if_neg (by omega), if_neg (by omega), if_neg (by omega)]
  have e2 : fmFN a b c 0 = rndF (fmJ a b c 0).m (nS (fmJ a b c 0).s (fmJ a b c 0).r) (nE (fmJ a b c 0).x (fmJ a b c 0).r) 0 := by
    unfold fmFN
    rw [if_neg hz, if_neg (by omega), if_neg (by omega), if_neg (by omega)]
  have j1 : rndP (fmJ a b c 0).m (nS (fmJ a b c 0).s (fmJ a b c 0).r) (nE (fmJ a b c 0).x (fmJ a b c 0).r) 0 = rndP (sumM (pdM a b) (sgB c) (exA (pdS a b) (pdX a b) (exN c)) (exA (sigN c) (exN c) (pdX a b)) 0) (sumS (pdM a b) (sgB c) (exA (pdS a b) (pdX a b) (exN c)) (exA (sigN c) (exN c) (pdX a b))) (min (pdX a b) (exN c)) 0 := by
    unfold fmJ rndP
    rw [h3, h1]
  have j2 : rndF (fmJ a b c 0).m (nS (fmJ a b c 0).s (fmJ a b c 0).r) (nE (fmJ a b c 0).x (fmJ a b c 0).r) 0 = rndF (sumM (pdM a b) (sgB c) (exA (pdS a b) (pdX a b) (exN c)) (exA (sigN c) (exN c) (pdX a b)) 0) (sumS (pdM a b) (sgB c) (exA (pdS a b) (pdX a b) (exN c)) (exA (sigN c) (exN c) (pdX a b))) (min (pdX a b) (exN c)) 0 := by
    unfold fmJ
    exact h4
  rw [e1, e2, j1, j2]
  exact ⟨r1, r2⟩
theorem wL_facts {e t a b : Nat} (ha : Kt (e + 110) t a) (hb : PtB b = true) (he : 2000 ≤ e) (ht : t ≤ 3640) : 2 ^ e ∣ wL a b ∧ wL a b ≤ 2 ^ (t + 1) ∧ wL (scN a) b = wL a b * 2 ^ 300 := by
  unfold PtB at hb
  simp only [Bool.and_eq_true, Bool.or_eq_true, decide_eq_true_eq] at hb
  obtain ⟨b1, b2⟩ := hb
  have h0 : ∀ x y, pdS x y = 0 → wL x y = 0 := fun x y h => by unfold wL; rw [h, Nat.zero_mul]
  obtain ⟨s1, s2, s3, s4, s5, s6⟩ := ha.sc (by omega) ht
  by_cases hz : sigN a = 0 ∨ sigN b = 0
  · have z1 : pdS a b = 0 := by unfold pdS; rcases hz with h | h <;> rw [h] <;> simp
    have z2 : pdS (scN a) b = 0 := by unfold pdS; rw [s5]; exact z1
    have hk : ∀ d : Nat, wL (scN a) b = wL a b * 2 ^ d := fun d => by rw [h0 _ _ z1, h0 _ _ z2, Nat.zero_mul]
    refine ⟨?_, ?_, hk 300⟩ <;> rw [h0 _ _ z1]
    · exact Nat.dvd_zero _
    · exact Nat.zero_le _
  · have hz1 : sigN a ≠ 0 := fun h => hz (.inl h)
    have hz2 : sigN b ≠ 0 := fun h => hz (.inr h)
    have hb2 : -110 ≤ exN b ∧ exN b ≤ -52 := by
      rcases b2 with h | h
      · exact absurd h hz2
      · exact h
    have x1 := ex_range a
    obtain ⟨nb, hnb⟩ : ∃ nb : Nat, exN b = -(nb : Int) := ⟨(-exN b).toNat, by omega⟩
    have hw : wL a b * 2 ^ nb = vL a * sigN b := by
      have e : (exN a + 3000).toNat = (exN a + exN b + 3000).toNat + nb := by omega
      unfold wL vL pdS pdX
      rw [e, Nat.pow_add]
      ac_rfl
    have ha0 : absN a ≠ 0 := fun h => hz1 ((sig_zero ha.fin).2 h)
    refine ⟨?_, ?_, ?_⟩
    · obtain ⟨c, hc⟩ := ha.dvd
      rw [hc] at hw
      have h3 : wL a b * 2 ^ nb = 2 ^ e * (2 ^ (110 - nb) * c * sigN b) * 2 ^ nb := by
        rw [hw, show e + 110 = e + (110 - nb) + nb by omega, Nat.pow_add, Nat.pow_add]
        ac_rfl
      exact ⟨_, Nat.eq_of_mul_eq_mul_right (Nat.two_pow_pos nb) h3⟩
    · have h1 := sig_lt b
      have h2 : wL a b * 2 ^ 52 ≤ wL a b * 2 ^ nb := Nat.mul_le_mul_left _ (Nat.pow_le_pow_right (by decide) (by omega))
      have h3 : vL a * sigN b ≤ 2 ^ t * 2 ^ 53 := Nat.mul_le_mul ha.le (by omega)
      have h4 : wL a b * 2 ^ 52 ≤ 2 ^ (t + 1) * 2 ^ 52 := by
        rw [← Nat.pow_add, show t + 1 + 52 = t + 53 by omega, Nat.pow_add]
        omega
      exact Nat.le_of_mul_le_mul_right h4 (Nat.two_pow_pos 52)
    · have e : (exN a + 300 + exN b + 3000).toNat = (exN a + exN b + 3000).toNat + 300 := by omega
      have hk : ∀ d m n s : Nat, m = n + d → s * 2 ^ m = s * 2 ^ n * 2 ^ d := fun d m n s h => by rw [h, Nat.pow_add, Nat.mul_assoc]
      unfold wL pdS pdX
      rw [s5, s6 ha0]
      exact hk 300 _ _ _ e
theorem fm_up {a b c a' c' : Nat} (d : Nat) (w : wL a' b = wL a b * 2 ^ d) (q1 : vL c' = vL c * 2 ^ d) (p3 : sgB a' = sgB a) (q3 : sgB c' = sgB c) : sumM (pdM a' b) (sgB c') (wL a' b) (vL c') 0 = sumM (pdM a b) (sgB c) (wL a b) (vL c) 0 ∧ sumS (pdM a' b) (sgB c') (wL a' b) (vL c') = sumS (pdM a b) (sgB c) (wL a b) (vL c) * 2 ^ d := by
  have hm : pdM a' b = pdM a b := by unfold pdM; rw [p3]
  rw [hm, q3, w, q1]
  exact ⟨sumM_up .., sumS_up ..⟩
theorem fm_sc {e t a b c : Nat} (ha : Kt (e + 110) t a) (hb : PtB b = true) (hc : Kt e t c) (he : 2000 ≤ e) (ht : t ≤ 3600) :
    fmPN (scN a) b (scN c) 0 = scN (fmPN a b c 0) ∧ fmFN (scN a) b (scN c) 0 = fmFN a b c 0 ∧ Kt e (t + 4) (fmPN a b c 0) := by
  obtain ⟨w1, w2, w3⟩ := wL_facts ha hb he (by omega)
  have hbf : absN b < infN := by
    unfold PtB at hb
    simp only [Bool.and_eq_true, decide_eq_true_eq] at hb
    exact hb.1
  obtain ⟨p1, p2, p3, p4, -⟩ := ha.sc (by omega) (by omega)
  obtain ⟨q1, q2, q3, q4, -⟩ := hc.sc he (by omega)
  obtain ⟨u1, u2⟩ := fm_unit ha.fin hbf hc.fin
  obtain ⟨v1, v2⟩ := fm_unit p2 hbf q2
  obtain ⟨y1, y2⟩ := fm_up 300 w3 q1 p3 q3
  rw [y1, y2] at v1 v2
  have hs : wL a b + vL c ≤ 2 ^ (t + 2) := by
    have h2 := hc.le
    rw [Nat.pow_succ] at w2
    rw [Nat.pow_add]
    omega
  obtain ⟨d1, d2⟩ := sumS_facts (a := pdM a b) (b := sgB c) w1 hc.dvd hs
  obtain ⟨k1, k2⟩ := Kt_rnd (V := sumS (pdM a b) (sgB c) (wL a b) (vL c)) he (show t + 2 ≤ 3640 by omega) d1 d2 (sumM (pdM a b) (sgB c) (wL a b) (vL c) 0)
  obtain ⟨s1, s2⟩ := sc_rnd k2 (sumM (pdM a b) (sgB c) (wL a b) (vL c) 0)
  rw [v1, v2, s1, s2, u1, u2]
  exact ⟨rfl, rfl, k1⟩
end Go.Proofs.YtbakldcbaikgpaaGreatDoor
