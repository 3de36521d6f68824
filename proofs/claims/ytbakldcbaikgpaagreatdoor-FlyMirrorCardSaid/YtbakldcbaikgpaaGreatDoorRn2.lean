/- Rounding, on numbers: scaled numbers, and order. Plain Lean. Own work. -/
import Derived.Test.YtbakldcbaikgpaaGreatDoorRn1
namespace Go.Proofs.YtbakldcbaikgpaaGreatDoor
set_option maxRecDepth 100000
noncomputable section

theorem pow_split {a b : Nat} (h : b ≤ a) : (2 : Nat) ^ a = 2 ^ (a - b) * 2 ^ b := by rw [← Nat.pow_add]; congr 1; omega

theorem q_scale (S a : Nat) (d : Int) : qN (S * 2 ^ a) (d + a) = qN S d := by
  by_cases h : 0 ≤ d
  · rw [qN_pos (by omega), qN_pos h, show (d + a).toNat = d.toNat + a by omega, Nat.pow_add]
    exact Nat.mul_div_mul_right _ _ (Nat.two_pow_pos a)
  · by_cases h2 : 0 ≤ d + a
    · rw [qN_pos h2, qN_neg (by omega), pow_split (a := a) (b := (d + a).toNat) (by omega), ← Nat.mul_assoc, Nat.mul_div_cancel _ (Nat.two_pow_pos _)]
      congr 2
      omega
    · rw [qN_neg (by omega), qN_neg (by omega), Nat.mul_assoc, ← Nat.pow_add]
      congr 2
      omega

theorem half_scale (S a : Nat) (d : Int) : halfN (S * 2 ^ a) (d + a) = halfN S d := by
  unfold halfN
  by_cases h : 0 < d
  · rw [decide_eq_true h, decide_eq_true (show 0 < d + a by omega), show (d + a).toNat - 1 = (d.toNat - 1) + a by omega, Nat.pow_add, Nat.mul_div_mul_right _ _ (Nat.two_pow_pos a)]
  · rw [decide_eq_false h]
    by_cases h2 : 0 < d + a
    · rw [pow_split (a := a) (b := (d + a).toNat - 1) (by omega), ← Nat.mul_assoc, Nat.mul_div_cancel _ (Nat.two_pow_pos _)]
      have : (2 : Nat) ^ (a - ((d + a).toNat - 1)) = 2 ^ (a - (d + a).toNat) * 2 := by rw [← Nat.pow_succ]; congr 1; omega
      rw [this, ← Nat.mul_assoc, Nat.mul_mod_left]
      simp
    · rw [decide_eq_false h2]
      rfl

theorem rest_scale (S a : Nat) (d : Int) : restN (S * 2 ^ a) (d + a) = restN S d := by
  unfold restN
  by_cases h : 0 < d
  · rw [decide_eq_true h, decide_eq_true (show 0 < d + a by omega), show (d + a).toNat - 1 = (d.toNat - 1) + a by omega, Nat.pow_add, Nat.mul_mod_mul_right]
    congr 1
    refine decide_eq_decide.2 (not_congr ?_)
    have := Nat.two_pow_pos a
    rw [Nat.mul_eq_zero]
    omega
  · rw [decide_eq_false h]
    by_cases h2 : 0 < d + a
    · rw [pow_split (a := a) (b := (d + a).toNat - 1) (by omega), ← Nat.mul_assoc, Nat.mul_mod_left]
      simp
    · rw [decide_eq_false h2]
      rfl

theorem top_scale {S : Nat} (h : 0 < S) (a : Nat) (x : Int) : topN (S * 2 ^ a) (x - a) = topN S x := by
  unfold topN
  rw [lenN_shl h]
  omega
theorem low_scale {S : Nat} (h : 0 < S) (a : Nat) (x : Int) : lowN (S * 2 ^ a) (x - a) = lowN S x := by
  unfold lowN
  rw [top_scale h]

theorem up_scale (S a : Nat) (d k : Int) (m : Bool) : upD (S * 2 ^ a) (d + a) k m = upD S d k m := by
  unfold upD
  rw [q_scale, half_scale, rest_scale]

theorem raw_scale {S : Nat} (h : 0 < S) (a : Nat) (x k : Int) (m : Bool) : rawN m (S * 2 ^ a) (x - a) k = rawN m S x k := by
  unfold rawN baseN
  rw [low_scale h, show lowN S x - (x - a) = lowN S x - x + a by omega, q_scale, up_scale]

theorem size_scale (S a : Nat) (x k : Int) (m : Bool) : sizeP m (S * 2 ^ a) (x - a) k = sizeP m S x k := by
  unfold sizeP
  by_cases h : S = 0
  · subst h; simp
  · have h1 : 0 < S := by omega
    rw [if_neg h, if_neg (by have := Nat.mul_pos h1 (Nat.two_pow_pos a); omega), raw_scale h1]

theorem F_scale (S a : Nat) (x k : Int) (m : Bool) : rndF m (S * 2 ^ a) (x - a) k = rndF m S x k := by
  unfold rndF
  by_cases h : S = 0
  · subst h; simp
  · have h1 : 0 < S := by omega
    have e1 : lowN S x - (x - a) = lowN S x - x + a := by omega
    have e2 : topN S x - 53 - (x - a) = topN S x - 53 - x + a := by omega
    rw [if_neg h, if_neg (by have := Nat.mul_pos h1 (Nat.two_pow_pos a); omega), raw_scale h1]
    unfold inexN tinyN toN
    rw [low_scale h1, top_scale h1, e1, e2, half_scale, rest_scale, q_scale, up_scale]

/-! ### Order -/

theorem lenN_mono {a b : Nat} (h : a ≤ b) : lenN a ≤ lenN b := lenN_le.2 (Nat.lt_of_le_of_lt h (lt_lenN b))

theorem q_mono {a b : Nat} (h : a ≤ b) (d : Int) : qN a d ≤ qN b d := Nat.div_le_div_right (Nat.mul_le_mul_right _ h)

/-- What is left of a size: its first bit, and the others. -/
theorem left_split (S d : Nat) (h : 0 < d) : S % 2 ^ d = S % 2 ^ (d - 1) + 2 ^ (d - 1) * (S / 2 ^ (d - 1) % 2) := by
  have : (2 : Nat) ^ d = 2 ^ (d - 1) * 2 := by rw [← Nat.pow_succ]; congr 1; omega
  rw [this, Nat.mod_mul]

theorem up_mono {a b : Nat} (h : a ≤ b) (d k : Int) (hq : qN a d = qN b d) : upD a d k false = true → upD b d k false = true := by
  intro hu
  by_cases hd : 0 < d
  · have ha := left_split a d.toNat (by omega)
    have hb := left_split b d.toNat (by omega)
    have hr : a % 2 ^ d.toNat ≤ b % 2 ^ d.toNat := by
      rw [qN_pos (by omega), qN_pos (by omega)] at hq
      have e1 := Nat.mod_add_div a (2 ^ d.toNat)
      have e2 := Nat.mod_add_div b (2 ^ d.toNat)
      rw [hq] at e1
      omega
    have la : a % 2 ^ (d.toNat - 1) < 2 ^ (d.toNat - 1) := Nat.mod_lt _ (Nat.two_pow_pos _)
    have lb : b % 2 ^ (d.toNat - 1) < 2 ^ (d.toNat - 1) := Nat.mod_lt _ (Nat.two_pow_pos _)
    have oa : a / 2 ^ (d.toNat - 1) % 2 = 0 ∨ a / 2 ^ (d.toNat - 1) % 2 = 1 := by omega
    have ob : b / 2 ^ (d.toNat - 1) % 2 = 0 ∨ b / 2 ^ (d.toNat - 1) % 2 = 1 := by omega
    revert hu
    unfold upD upN halfN restN
    rw [hq, decide_eq_true hd]
    simp only [Bool.true_and]
    generalize a % 2 ^ (d.toNat - 1) = a0 at *
    generalize b % 2 ^ (d.toNat - 1) = b0 at *
    generalize (2 : Nat) ^ (d.toNat - 1) = p at *
    split
    · exact id
    split
    · intro hu
      simp only [Bool.not_false, Bool.true_and, Bool.or_eq_true, decide_eq_true_eq] at hu ⊢
      rcases oa with oa | oa <;> rcases ob with ob | ob <;> rw [oa] at ha hu <;> rw [ob] at hb ⊢ <;> omega
    split
    · simp
    split
    · intro hu
      simp only [decide_eq_true_eq] at hu ⊢
      rcases ob with ob | ob
      · rw [hu] at ha; rw [ob] at hb; omega
      · exact ob
    · intro hu
      simp only [Bool.and_eq_true, Bool.or_eq_true, decide_eq_true_eq] at hu ⊢
      obtain ⟨h1, h2⟩ := hu
      rw [h1] at ha
      rcases ob with ob | ob
      · rw [ob] at hb; omega
      · rw [ob] at hb
        refine ⟨ob, ?_⟩
        rcases h2 with h2 | h2
        · left; omega
        · exact .inr h2
  · have : inexN a d = false := by unfold inexN halfN restN; rw [decide_eq_false hd]; rfl
    rw [up_exact this] at hu
    cases hu

theorem raw_mono {a b : Nat} (ha : 0 < a) (h : a ≤ b) (x k : Int) : rawN false a x k ≤ rawN false b x k := by
  have hl := lenN_mono h
  have hn : lowN a x ≤ lowN b x := by unfold lowN topN; omega
  have g1 := low_ge a x
  have g2 := low_ge b x
  have l1 := q_lt ha x
  by_cases he : lowN a x = lowN b x
  · unfold rawN baseN
    rw [he]
    have hq := q_mono h (lowN b x - x)
    by_cases hqe : qN a (lowN b x - x) = qN b (lowN b x - x)
    · rw [hqe]
      have := up_mono h (lowN b x - x) k hqe
      cases hu : upD a (lowN b x - x) k false with
      | false => simp only [Bool.toNat_false]; omega
      | true => rw [this hu]; exact Nat.le_refl _
    · have := Bool.toNat_le (upD a (lowN b x - x) k false)
      omega
  · have l2 := q_ge (S := b) (by omega) x (by omega)
    unfold rawN baseN
    have := Bool.toNat_le (upD a (lowN a x - x) k false)
    omega

theorem size_mono {a b : Nat} (h : a ≤ b) (x k : Int) : sizeP false a x k ≤ sizeP false b x k := by
  unfold sizeP
  by_cases ha : a = 0
  · rw [if_pos ha]; exact Nat.zero_le _
  · rw [if_neg ha, if_neg (show ¬ b = 0 by omega)]
    have hr := raw_mono (by omega) h x k
    have ho : infN - 1 ≤ overN k false := by unfold overN; split <;> omega
    generalize overN k false = o at *
    generalize rawN false a x k = p at *
    generalize rawN false b x k = q at *
    generalize infN = I at *
    by_cases h1 : p ≥ I
    · rw [if_pos h1, if_pos (Nat.le_trans h1 hr)]
      exact Nat.le_refl _
    · rw [if_neg h1]
      by_cases h2 : q ≥ I
      · rw [if_pos h2]; omega
      · rw [if_neg h2]; exact hr

/-- Of two sizes the greater one is never rounded to a less one. -/
theorem size_order {a b : Nat} {x y k : Int} (h : a * 2 ^ (x - min x y).toNat ≤ b * 2 ^ (y - min x y).toNat) : sizeP false a x k ≤ sizeP false b y k := by
  have e1 := size_scale a (x - min x y).toNat x k false
  have e2 := size_scale b (y - min x y).toNat y k false
  rw [← e1, ← e2, show x - ((x - min x y).toNat : Int) = min x y by omega, show y - ((y - min x y).toNat : Int) = min x y by omega]
  exact size_mono h _ k
end
end Go.Proofs.YtbakldcbaikgpaaGreatDoor
