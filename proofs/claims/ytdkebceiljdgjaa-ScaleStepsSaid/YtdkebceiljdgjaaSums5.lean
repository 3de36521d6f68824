/- SumsBack. Own work. -/
import Derived.Test.YtdkebceiljdgjaaSums4
namespace Go.Proofs.Ytdkebceiljdgjaa
set_option maxRecDepth 100000
noncomputable section

theorem smS_comm (p q : Nat) : smS p q = smS q p := by unfold smS; exact sumS_comm _ _ _ _
theorem smM_comm (p q : Nat) (k : Int) : smM p q k = smM q p k := by unfold smM; exact sumM_comm _ _ _ _ k

theorem ad_comm (p q : Nat) (k : Int) : adPN p q k = adPN q p k ∧ adFN p q k = adFN q p k := by
  have e0 : noGN p q = noGN q p := by
    unfold noGN
    by_cases h : clN p = 5 ∨ clN q = 5
    · rw [if_pos h, if_pos (Or.symm h)]
    · rw [if_neg h, if_neg (fun h' => h (Or.symm h'))]
  unfold adPN adFN
  rw [smS_comm, smM_comm, Int.min_comm, e0]
  by_cases n1 : infN < absN p ∨ infN < absN q
  · rw [if_pos n1, if_pos n1, if_pos (Or.symm n1), if_pos (Or.symm n1)]
    exact ⟨rfl, rfl⟩
  · have n1' : ¬ (infN < absN q ∨ infN < absN p) := fun h => n1 (Or.symm h)
    rw [if_neg n1, if_neg n1, if_neg n1', if_neg n1']
    by_cases i1 : absN p = infN ∧ absN q = infN ∧ p ≠ q
    · have i1' : absN q = infN ∧ absN p = infN ∧ q ≠ p := ⟨i1.2.1, i1.1, fun e => i1.2.2 e.symm⟩
      rw [if_pos i1, if_pos i1, if_pos i1', if_pos i1']
      exact ⟨rfl, rfl⟩
    · have i1' : ¬ (absN q = infN ∧ absN p = infN ∧ q ≠ p) := fun h => i1 ⟨h.2.1, h.1, fun e => h.2.2 e.symm⟩
      rw [if_neg i1, if_neg i1, if_neg i1', if_neg i1']
      by_cases i2 : absN p = infN
      · by_cases i3 : absN q = infN
        · have e : p = q := by
            by_cases e : p = q
            · exact e
            · exact absurd ⟨i2, i3, e⟩ i1
          subst e
          exact ⟨rfl, rfl⟩
        · simp only [if_pos i2, if_neg i3, and_self]
      · by_cases i3 : absN q = infN
        · simp only [if_neg i2, if_pos i3, and_self]
        · simp only [if_neg i2, if_neg i3, and_self]

theorem ad_fin {p q : Nat} (hp : absN p < infN) (hq : absN q < infN) (k : Int) : adPN p q k = rndP (smM p q k) (smS p q) (min (exN p) (exN q)) k ∧ adFN p q k = rndF (smM p q k) (smS p q) (min (exN p) (exN q)) k := by
  have h1 : ¬ (infN < absN p ∨ infN < absN q) := by omega
  have h2 : ¬ (absN p = infN ∧ absN q = infN ∧ p ≠ q) := fun h => by omega
  have h3 : ¬ absN p = infN := by omega
  have h4 : ¬ absN q = infN := by omega
  unfold adPN adFN
  rw [if_neg h1, if_neg h1, if_neg h2, if_neg h2, if_neg h3, if_neg h3, if_neg h4, if_neg h4]
  exact ⟨rfl, rfl⟩

theorem zero_parts : absN 0 = 0 ∧ sigN 0 = 0 ∧ exN 0 = -1074 ∧ sgB 0 = false := by decide +kernel

theorem pat_round {p : Nat} (hp : p < 18446744073709551616) (h : absN p < infN) (k : Int) : rndP (sgB p) (sigN p) (exN p) k = p ∧ rndF (sgB p) (sigN p) (exN p) k = 0 := by
  obtain ⟨h1, h2⟩ := size_self h k (sgB p)
  unfold rndP
  rw [h1]
  exact ⟨sgn_self hp, h2⟩

theorem ad_zero {p : Nat} (hp : p < 18446744073709551616) (h : absN p ≤ infN) (h0 : absN p ≠ 0) (k : Int) : adPN p 0 k = p ∧ adFN p 0 k = 0 := by
  obtain ⟨z1, z2, z3, z4⟩ := zero_parts
  by_cases hi : absN p = infN
  · have h1 : ¬ (infN < absN p ∨ infN < absN 0) := by rw [z1]; omega
    have h2 : ¬ (absN p = infN ∧ absN 0 = infN ∧ p ≠ 0) := fun g => by rw [z1] at g; exact absurd g.2.1 (by decide)
    unfold adPN adFN
    rw [if_neg h1, if_neg h1, if_neg h2, if_neg h2, if_pos hi, if_pos hi]
    exact ⟨rfl, rfl⟩
  · have hf : absN p < infN := by omega
    obtain ⟨e1, e2⟩ := ad_fin hf (show absN 0 < infN by rw [z1]; decide) k
    rw [e1, e2]
    have hs : sigN p ≠ 0 := fun e => h0 ((sig_zero hf).1 e)
    have hB : exA (sigN 0) (exN 0) (exN p) = 0 := by unfold exA; rw [z2, Nat.zero_mul]
    have hA : 0 < exA (sigN p) (exN p) (exN 0) := Nat.mul_pos (by omega) (Nat.two_pow_pos _)
    have hS : smS p 0 = exA (sigN p) (exN p) (exN 0) := by
      unfold smS sumS
      rw [hB]
      by_cases hab : sgB p = sgB 0
      · rw [if_pos hab, Nat.add_zero]
      · rw [if_neg hab, if_pos (Nat.zero_le _), Nat.sub_zero]
    have hM : smM p 0 k = sgB p := by
      unfold smM sumM
      rw [hB]
      by_cases hab : sgB p = sgB 0
      · rw [if_pos hab]
      · rw [if_neg hab, if_neg (show ¬ exA (sigN p) (exN p) (exN 0) = 0 by omega), if_pos hA]
    have r1 := size_scale (sigN p) (exN p - min (exN p) (exN 0)).toNat (exN p) k (sgB p)
    have r2 := F_scale (sigN p) (exN p - min (exN p) (exN 0)).toNat (exN p) k (sgB p)
    have r3 : exN p - ((exN p - min (exN p) (exN 0)).toNat : Int) = min (exN p) (exN 0) := by omega
    rw [r3] at r1 r2
    obtain ⟨p1, p2⟩ := pat_round hp hf k
    rw [hM, hS]
    unfold rndP exA at *
    rw [r1, r2]
    exact ⟨p1, p2⟩

theorem ne_neg {p : Nat} (_h : p < 18446744073709551616) : p ≠ negN p := by unfold negN; omega

theorem sub_inf {p : Nat} (hp : p < 18446744073709551616) (h : absN p = infN) (k : Int) : adPN p (negN p) k = nanC ∧ adFN p (negN p) k = 1 := by
  have h1 : ¬ (infN < absN p ∨ infN < absN (negN p)) := by rw [neg_abs]; omega
  have h2 : absN p = infN ∧ absN (negN p) = infN ∧ p ≠ negN p := ⟨h, by rw [neg_abs]; exact h, ne_neg hp⟩
  unfold adPN adFN
  rw [if_neg h1, if_neg h1, if_pos h2, if_pos h2]
  exact ⟨rfl, rfl⟩

theorem sub_self {p : Nat} (hp : p < 18446744073709551616) (h : absN p < infN) (k : Int) : adPN p (negN p) k = (if k = 4 then 9223372036854775808 else 0) ∧ adFN p (negN p) k = 0 := by
  obtain ⟨e1, e2⟩ := ad_fin h (show absN (negN p) < infN by rw [neg_abs]; exact h) k
  have hab : ¬ sgB p = sgB (negN p) := by rw [neg_sg hp]; cases sgB p <;> simp
  have hS : smS p (negN p) = 0 := by
    unfold smS sumS
    rw [neg_sig, neg_ex, if_neg hab, if_pos (Nat.le_refl _), Nat.sub_self]
  have hM : smM p (negN p) k = decide (k = 4) := by
    unfold smM sumM
    rw [neg_sig, neg_ex, if_neg hab, if_pos rfl]
  rw [e1, e2, hS, hM]
  have z : ∀ m x k, sizeP m 0 x k = 0 := fun m x k => if_pos rfl
  have zf : ∀ m x k, rndF m 0 x k = 0 := fun m x k => if_pos rfl
  unfold rndP
  rw [z, zf, Nat.zero_add]
  refine ⟨?_, rfl⟩
  unfold sgnOf
  by_cases hk : k = 4
  · rw [decide_eq_true hk, if_pos hk, if_pos rfl]
  · rw [decide_eq_false hk, if_neg hk, if_neg (by decide)]

def bF : Option AV := some (.bool false)
def bT : Option AV := some (.bool true)
def sk2 (a k s i : Int) : Option AV :=
  bif a == 9218868437227405312 then bif s == 9221120237041090560 then bif i == 1 then bT else bF else bF else bif k == 4 then bif s == 9223372036854775808 then bif i == 0 then bT else bF else bF else bif s == 0 then bif i == 0 then bT else bF else bF
def sk3 (p a k : Int) : Option AV := chk (inU p && inU p) (sk2 a k ((adP p.toNat (stk (sbQ p.toNat)) k : Nat) : Int) ((adF p.toNat (stk (sbQ p.toNat)) k : Nat) : Int))
def sk4 (p a k r h : Int) : Option AV := bif a != 0 then bif r != p then bF else bif h != 0 then bF else sk3 p a k else sk3 p a k
def sk5 (p a k P f Q g : Int) : Option AV :=
  bif P != Q then bF else bif f != g then bF else bif decide (a > 9218868437227405312) then bif P == 9221120237041090560 then bT else bF else
    chk (inU p && inU 0) (sk4 p a k ((adP p.toNat (0 : Int).toNat k : Nat) : Int) ((adF p.toNat (0 : Int).toNat k : Nat) : Int))
theorem run_sBack (p q k : Int) : callA (env Try.f16.ntmps orcLaw5 []) (bodyC Try.f16) Try.f16.results.toList (slots 0 [.int .u64 p, .int .u64 q, .int .i64 k]) some =
    chk (inU p && inU q) (chk (inU q && inU p) (sk5 p (andNotI .u64 p 9223372036854775808) k ((adP p.toNat q.toNat k : Nat) : Int) ((adF p.toNat q.toNat k : Nat) : Int) ((adP q.toNat p.toNat k : Nat) : Int) ((adF q.toNat p.toNat k : Nat) : Int))) := by kernel_rfl

theorem bne_nat (m n : Nat) : ((m : Int) != (n : Int)) = !decide (m = n) := by rw [bne, eqN]

theorem sk3_at {p : Nat} (hp : p < 18446744073709551616) (h : absN p ≤ infN) (k : Int) : sk3 (p : Int) ((absN p : Nat) : Int) k = bT := by
  have hq : sbQ p = negN p := if_neg (by omega)
  unfold sk3 adP adF
  rw [inU_nat hp, Int.toNat_natCast, stk_eq, stk_eq, stk_eq, hq]
  unfold sk2
  have q1 : (((absN p : Nat) : Int) == 9218868437227405312) = decide (absN p = infN) := eqN _ 9218868437227405312
  rw [q1]
  by_cases hi : absN p = infN
  · obtain ⟨e1, e2⟩ := sub_inf hp hi k
    rw [decide_eq_true hi, e1, e2]
    rfl
  · obtain ⟨e1, e2⟩ := sub_self hp (show absN p < infN by omega) k
    rw [decide_eq_false hi, e1, e2]
    by_cases hk : k = 4
    · rw [if_pos hk, hk]; rfl
    · rw [if_neg hk, beq_eq_false_iff_ne.2 hk]; rfl

theorem ok_sBack : EntOk Try.prog 16 (entS false sp_law3) := by
  refine contractS (orc := orcLaw5) (lo := []) Try.func16 orcLaw5_ok (by kernel_rfl) (by kernel_rfl) (by kernel_rfl) (loops_none (by kernel_rfl)) fun args r h => ?_
  unfold sp_law3 at h
  split at h
  · rename_i p q k
    simp only [Option.some.injEq, Prod.mk.injEq, Bool.and_eq_true] at h
    obtain ⟨⟨hp, hq⟩, rfl⟩ := h
    obtain ⟨m, rfl, hm⟩ := nat_of hp
    obtain ⟨n, rfl, hn⟩ := nat_of hq
    refine ⟨by kernel_rfl, .inr rfl, (run_sBack m n k).trans ?_⟩
    obtain ⟨c1, c2⟩ := ad_comm n m k
    unfold sk5 adP adF
    rw [hp, hq, inU_zero, Int.toNat_natCast, Int.toNat_natCast, stk_eq, stk_eq, stk_eq, stk_eq, stk_eq, stk_eq, c1, c2, andNot63 m hm, bne_nat, bne_nat, decide_eq_true rfl, decide_eq_true rfl]
    have q2 : decide (((absN m : Nat) : Int) > 9218868437227405312) = decide (infN < absN m) := decide_eq_decide.2 (by unfold infN; omega)
    rw [q2, show (0 : Int).toNat = 0 from rfl]
    by_cases hnan : infN < absN m
    · have : adPN m n k = nanC := by unfold adPN; rw [if_pos (show infN < absN m ∨ infN < absN n from .inl hnan)]
      rw [decide_eq_true hnan, this]
      rfl
    · rw [decide_eq_false hnan]
      have h3 := sk3_at hm (show absN m ≤ infN by omega) k
      have q3 : (((absN m : Nat) : Int) != 0) = !decide (absN m = 0) := bne_nat _ 0
      unfold sk4
      rw [h3, q3]
      by_cases h0 : absN m = 0
      · rw [decide_eq_true h0]; rfl
      · obtain ⟨e1, e2⟩ := ad_zero hm (show absN m ≤ infN by omega) h0 k
        rw [decide_eq_false h0, e1, e2, bne_nat, decide_eq_true rfl]
        rfl
  · cases h
end
end Go.Proofs.Ytdkebceiljdgjaa
