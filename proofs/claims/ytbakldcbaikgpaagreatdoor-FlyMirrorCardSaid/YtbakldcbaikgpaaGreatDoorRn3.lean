/- Rounding, on numbers: what is far away. Plain Lean. Own work. -/
import Derived.Test.YtbakldcbaikgpaaGreatDoorRn2
namespace Go.Proofs.YtbakldcbaikgpaaGreatDoor
set_option maxRecDepth 100000
noncomputable section

theorem far_hi {S : Nat} (h : 0 < S) {x : Int} (ht : topN S x ≥ 1025) (k : Int) (m : Bool) : sizeP m S x k = overN k m ∧ rndF m S x k = 20 := by
  have hl : lowN S x = topN S x - 53 := by unfold lowN; omega
  have hq := q_ge h x (by omega)
  have hr : rawN m S x k ≥ infN := by
    unfold rawN baseN infN
    omega
  have h0 : ¬ S = 0 := by omega
  unfold sizeP rndF
  generalize rawN m S x k = p at *
  rw [if_neg h0, if_neg h0, if_pos hr, if_pos hr]
  exact ⟨rfl, rfl⟩

theorem low_far {S : Nat} {x : Int} (ht : topN S x ≤ -1075) : lowN S x = -1074 := by unfold lowN; omega

theorem far_lo_q {S : Nat} (h : 0 < S) {x : Int} {n : Int} (ht : topN S x < n) : qN S (n - x) = 0 ∧ halfN S (n - x) = false ∧ restN S (n - x) = true := by
  unfold topN at ht
  have hd : 0 < n - x := by omega
  have h1 : S < 2 ^ ((n - x).toNat - 1) := Nat.lt_of_lt_of_le (lt_lenN S) (Nat.pow_le_pow_right (by decide) (by omega))
  have h2 : S < 2 ^ (n - x).toNat := Nat.lt_of_lt_of_le h1 (Nat.pow_le_pow_right (by decide) (by omega))
  refine ⟨?_, ?_, ?_⟩
  · rw [qN_pos (by omega), Nat.div_eq_of_lt h2]
  · unfold halfN
    rw [Nat.div_eq_of_lt h1]
    simp
  · unfold restN
    rw [Nat.mod_eq_of_lt h1, decide_eq_true hd]
    simp only [Bool.true_and, decide_eq_true_eq]
    omega

theorem far_lo {S : Nat} (h : 0 < S) {x : Int} (ht : topN S x ≤ -1075) (k : Int) (m : Bool) : sizeP m S x k = (upN k m false false true).toNat ∧ rndF m S x k = 24 := by
  have hl := low_far ht
  obtain ⟨q, hf, re⟩ := far_lo_q h (x := x) (n := -1074) (by omega)
  have hr : rawN m S x k = (upN k m false false true).toNat := by
    unfold rawN baseN upD
    rw [hl, q, hf, re]
    simp
  have hlt : ¬ rawN m S x k ≥ infN := by
    rw [hr]
    have := Bool.toNat_le (upN k m false false true)
    unfold infN
    omega
  have h0 : ¬ S = 0 := by omega
  have hi : inexN S (lowN S x - x) = true := by
    unfold inexN
    rw [hl, hf, re]
    rfl
  have ht2 : tinyN S x k m = true := by
    unfold tinyN
    rw [if_neg (by omega), if_pos (by omega)]
  unfold sizeP rndF
  rw [hi, ht2, hr] at *
  generalize (upN k m false false true).toNat = p at *
  rw [if_neg h0, if_neg h0, if_neg hlt, if_neg hlt]
  exact ⟨rfl, rfl⟩

def clampI (c x : Int) : Int := min (max x (-c)) c

/-- What is beyond a bound is as good as the bound. -/
theorem rnd_clamp {S : Nat} (h : lenN S ≤ 300) {c : Int} (hc : 2000 ≤ c) (x k : Int) (m r : Bool) : sizeP m S (nE (clampI c x) r) k = sizeP m S (nE x r) k ∧ rndF m S (nE (clampI c x) r) k = rndF m S (nE x r) k := by
  by_cases h0 : S = 0
  · unfold sizeP rndF
    rw [if_pos h0, if_pos h0, if_pos h0, if_pos h0]
    exact ⟨rfl, rfl⟩
  have hp : 0 < S := by omega
  have h1 := lenN_pos hp
  have e : ∀ y : Int, y - 1 ≤ nE y r ∧ nE y r ≤ y := fun y => by unfold nE; split <;> omega
  have e1 := e x
  have e2 := e (clampI c x)
  by_cases a : x > c
  · have : clampI c x = c := by unfold clampI; omega
    rw [this] at e2 ⊢
    obtain ⟨p1, p2⟩ := far_hi hp (x := nE c r) (by unfold topN; omega) k m
    obtain ⟨p3, p4⟩ := far_hi hp (x := nE x r) (by unfold topN; omega) k m
    rw [p1, p2, p3, p4]
    exact ⟨rfl, rfl⟩
  · by_cases b : x < -c
    · have : clampI c x = -c := by unfold clampI; omega
      rw [this] at e2 ⊢
      obtain ⟨p1, p2⟩ := far_lo hp (x := nE (-c) r) (by unfold topN; omega) k m
      obtain ⟨p3, p4⟩ := far_lo hp (x := nE x r) (by unfold topN; omega) k m
      rw [p1, p2, p3, p4]
      exact ⟨rfl, rfl⟩
    · have : clampI c x = x := by unfold clampI; omega
      rw [this]
      exact ⟨rfl, rfl⟩
end
end Go.Proofs.YtbakldcbaikgpaaGreatDoor
