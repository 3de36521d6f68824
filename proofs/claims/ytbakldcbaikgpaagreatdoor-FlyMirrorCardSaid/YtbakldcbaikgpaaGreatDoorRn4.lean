/- Rounding, on numbers: patterns and the numbers that they are. Plain Lean. Own work. -/
import Derived.Test.YtbakldcbaikgpaaGreatDoorScale2
namespace Go.Proofs.YtbakldcbaikgpaaGreatDoor
set_option maxRecDepth 100000
noncomputable section

/-! ### What is rounded is a number, however it is written -/

theorem rnd_same {S T : Nat} {x y : Int} (low : Int) (hx : low ≤ x) (hy : low ≤ y) (h : S * 2 ^ (x - low).toNat = T * 2 ^ (y - low).toNat) (k : Int) (m : Bool) : sizeP m S x k = sizeP m T y k ∧ rndF m S x k = rndF m T y k := by
  have a1 := size_scale S (x - low).toNat x k m
  have a2 := size_scale T (y - low).toNat y k m
  have b1 := F_scale S (x - low).toNat x k m
  have b2 := F_scale T (y - low).toNat y k m
  rw [show x - ((x - low).toNat : Int) = low by omega, h] at a1 b1
  rw [show y - ((y - low).toNat : Int) = low by omega] at a2 b2
  rw [← a1, ← a2, ← b1, ← b2]
  exact ⟨rfl, rfl⟩

/-! ### A pattern is rounded to itself -/

theorem inex_zero (S : Nat) : inexN S 0 = false := by
  unfold inexN halfN restN
  simp

theorem abs_parts (p : Nat) : absN p = pE p * 4503599627370496 + pF p := by unfold absN pE pF; omega
theorem pE_lt (p : Nat) : pE p < 2048 := Nat.mod_lt _ (by decide)
theorem pF_lt (p : Nat) : pF p < 4503599627370496 := Nat.mod_lt _ (by decide)

theorem sig_zero {p : Nat} (h : absN p < infN) : sigN p = 0 ↔ absN p = 0 := by
  have h1 := abs_parts p
  have h2 := pE_lt p
  have h3 := pF_lt p
  unfold infN at h
  unfold sigN
  generalize pE p = E at *
  generalize pF p = F at *
  rw [h1] at h ⊢
  rw [if_neg (show ¬ E = 2047 by omega)]
  split <;> omega

/-- The number of a pattern lies on the pattern's own bits. -/
theorem low_self {p : Nat} (h : absN p < infN) (h0 : absN p ≠ 0) : lowN (sigN p) (exN p) = exN p ∧ sigN p + (exN p + 1074).toNat * 4503599627370496 = absN p := by
  have h1 := abs_parts p
  have h2 := pE_lt p
  have h3 := pF_lt p
  have hs : 0 < sigN p := by
    have : ¬ sigN p = 0 := fun e => h0 ((sig_zero h).1 e)
    omega
  have hl := len_sig p
  have hE : ¬ pE p = 2047 := by unfold infN at h; omega
  have hge : 0 < pE p → lenN (sigN p) = 53 := by
    intro hp
    have h5 : 4503599627370496 ≤ sigN p := by unfold sigN; rw [if_neg hE, if_pos hp]; omega
    have : ¬ lenN (sigN p) ≤ 52 := fun h => by have := lenN_le.1 h; omega
    omega
  by_cases hp : 0 < pE p
  · have e1 : exN p = (pE p : Int) - 1075 := by unfold exN; rw [if_neg hE, if_pos hp]
    have e2 : sigN p = pF p + 4503599627370496 := by unfold sigN; rw [if_neg hE, if_pos hp]
    have e3 := hge hp
    have e4 : (exN p + 1074).toNat = pE p - 1 := by omega
    refine ⟨by unfold lowN topN; omega, ?_⟩
    rw [e4, e2, h1]
    generalize pE p = E at *
    generalize pF p = F at *
    clear e1 e2 e3 e4 hge hl
    obtain ⟨D, rfl⟩ : ∃ D, E = D + 1 := ⟨E - 1, by omega⟩
    rw [Nat.add_sub_cancel, Nat.add_mul, Nat.one_mul]
    omega
  · have e1 : exN p = -1074 := by unfold exN; rw [if_neg hE, if_neg hp]
    have e2 : sigN p = pF p := by unfold sigN; rw [if_neg hE, if_neg hp]
    have e4 : (exN p + 1074).toNat = 0 := by omega
    have e5 : pE p = 0 := by omega
    refine ⟨by unfold lowN topN; omega, ?_⟩
    rw [e4, e2, h1, e5, Nat.zero_mul, Nat.zero_add, Nat.add_zero]

theorem size_self {p : Nat} (h : absN p < infN) (k : Int) (m : Bool) : sizeP m (sigN p) (exN p) k = absN p ∧ rndF m (sigN p) (exN p) k = 0 := by
  by_cases h0 : absN p = 0
  · have := (sig_zero h).2 h0
    unfold sizeP rndF
    rw [if_pos this, if_pos this, h0]
    exact ⟨rfl, rfl⟩
  · obtain ⟨h1, h2⟩ := low_self h h0
    have hs : sigN p ≠ 0 := fun e => h0 ((sig_zero h).1 e)
    have hi : inexN (sigN p) (lowN (sigN p) (exN p) - exN p) = false := by rw [h1, Int.sub_self]; exact inex_zero _
    have hb : baseN (sigN p) (exN p) = absN p := by
      unfold baseN
      rw [h1, Int.sub_self, qN_pos (by decide), show (0 : Int).toNat = 0 from rfl, Nat.pow_zero, Nat.div_one]
      exact h2
    have := size_cases (m := m) (k := k) hs hi (by rw [hb]; exact h)
    rw [hb] at this
    exact this

theorem sgn_self {p : Nat} (h : p < 18446744073709551616) : absN p + sgnOf (decide (9223372036854775808 ≤ p)) = p := by
  unfold absN sgnOf
  by_cases h1 : 9223372036854775808 ≤ p
  · rw [decide_eq_true h1, if_pos rfl]; omega
  · rw [decide_eq_false h1, if_neg (by decide)]; omega

/-! ### What is exact -/

theorem exact_mul {S : Nat} {d : Int} (h : inexN S d = false) (low : Nat) (hl : (-d).toNat ≤ low) : qN S d * 2 ^ (d + low).toNat = S * 2 ^ low := by
  by_cases hd : d ≤ 0
  · rw [qN_neg hd, Nat.mul_assoc, ← Nat.pow_add]
    congr 2
    omega
  · obtain ⟨h1, h2⟩ := inex_none h
    have hs := left_split S d.toNat (by omega)
    unfold halfN at h1
    unfold restN at h2
    rw [decide_eq_true (show 0 < d by omega)] at h1 h2
    simp only [Bool.true_and, decide_eq_false_iff_not, Decidable.not_not] at h1 h2
    rw [h2, show S / 2 ^ (d.toNat - 1) % 2 = 0 by omega, Nat.mul_zero] at hs
    have hm := Nat.mod_add_div S (2 ^ d.toNat)
    rw [hs, Nat.zero_add] at hm
    rw [qN_pos (by omega), show (d + low).toNat = d.toNat + low by omega, Nat.pow_add, ← Nat.mul_assoc, Nat.mul_comm (S / 2 ^ d.toNat), hm]

theorem F_zero {m : Bool} {S : Nat} {x k : Int} (hS : S ≠ 0) (h : rndF m S x k = 0) : inexN S (lowN S x - x) = false ∧ baseN S x < infN := by
  by_cases hx : inexN S (lowN S x - x) = true ∨ baseN S x ≥ infN
  · have := (size_side (m := m) (k := k) hS hx).2
    rw [h] at this
    exact absurd this (by decide)
  · refine ⟨?_, ?_⟩
    · cases hi : inexN S (lowN S x - x)
      · rfl
      · exact absurd (.inl hi) hx
    · rcases Nat.lt_or_ge (baseN S x) infN with h | h
      · exact h
      · exact absurd (.inr h) hx

/-- A number that is a pattern's: the pattern's own bits say it. -/
theorem exact_pat {m : Bool} {S : Nat} {x k : Int} (hS : S ≠ 0) (h : rndF m S x k = 0) :
    absN (rndP m S x k) < infN ∧ absN (rndP m S x k) = sizeP m S x k ∧ exN (rndP m S x k) = lowN S x ∧ sigN (rndP m S x k) = qN S (lowN S x - x) ∧ decide (9223372036854775808 ≤ rndP m S x k) = m := by
  obtain ⟨h1, h2⟩ := F_zero hS h
  obtain ⟨h3, _⟩ := size_cases (m := m) (k := k) hS h1 h2
  have hp : 0 < S := by omega
  have hq := q_lt hp x
  have hg := q_ge hp x
  have hl := low_ge S x
  unfold rndP
  rw [h3]
  unfold infN at h2 ⊢
  have hb : baseN S x = qN S (lowN S x - x) + (lowN S x + 1074).toNat * 4503599627370496 := rfl
  have hs : sgnOf m = 0 ∨ sgnOf m = 9223372036854775808 := by unfold sgnOf; cases m <;> simp
  have ha : absN (baseN S x + sgnOf m) = baseN S x := by unfold absN; omega
  have hE : pE (baseN S x + sgnOf m) = baseN S x / 4503599627370496 := by unfold pE; omega
  have hF : pF (baseN S x + sgnOf m) = baseN S x % 4503599627370496 := by unfold pF; omega
  have hm : decide (9223372036854775808 ≤ baseN S x + sgnOf m) = m := by
    cases m
    · exact decide_eq_false (by have : sgnOf false = 0 := rfl; omega)
    · exact decide_eq_true (by have : sgnOf true = 9223372036854775808 := rfl; omega)
  refine ⟨by rw [ha]; exact h2, ha, ?_, ?_, hm⟩
  · unfold exN
    rw [hE]
    generalize qN S (lowN S x - x) = q at *
    rw [hb] at h2 ⊢
    split
    · omega
    · split <;> omega
  · unfold sigN
    rw [hE, hF]
    generalize qN S (lowN S x - x) = q at *
    rw [hb] at h2 ⊢
    split
    · omega
    · split <;> omega

/-- .. and it is the same number. -/
theorem exact_val {m : Bool} {S : Nat} {x k : Int} (hS : S ≠ 0) (h : rndF m S x k = 0) (low : Int) (hx : low ≤ x) (hl : low ≤ lowN S x) : sigN (rndP m S x k) * 2 ^ (exN (rndP m S x k) - low).toNat = S * 2 ^ (x - low).toNat := by
  obtain ⟨_, _, h3, h4, _⟩ := exact_pat hS h
  obtain ⟨h1, _⟩ := F_zero hS h
  rw [h3, h4]
  have := exact_mul h1 (x - low).toNat (by omega)
  rw [← this]
  congr 2
  omega
end
end Go.Proofs.YtbakldcbaikgpaaGreatDoor
