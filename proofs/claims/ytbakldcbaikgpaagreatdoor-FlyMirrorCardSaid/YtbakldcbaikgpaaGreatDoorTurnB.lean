/- Points of a circle are at most 1. Plain Lean. Own work. -/
import Derived.Test.YtbakldcbaikgpaaGreatDoorTurnN
import Derived.Test.YtbakldcbaikgpaaGreatDoorRn2
namespace Go.Proofs.YtbakldcbaikgpaaGreatDoor
set_option maxRecDepth 100000
noncomputable section

theorem big2_eq : big2 = 256 * oneF := by decide +kernel
theorem oneF_pos : 1024 < oneF := by decide +kernel
theorem mulF_le {a s : Nat} (h : s ≤ oneF) : mulF a s ≤ a := by
  unfold mulF
  have hp := oneF_pos
  refine Nat.le_trans (Nat.mod_le _ _) (Nat.div_le_of_le_mul ?_)
  rw [Nat.mul_comm oneF]
  exact Nat.mul_le_mul_left _ h
theorem mod_big {a : Nat} (h : a < big2) : a % big2 = a := Nat.mod_eq_of_lt h
theorem sub_big {a b : Nat} (h1 : b ≤ a) (h2 : a < big2) : (a + big2 - b) % big2 = a - b := by
  rw [show a + big2 - b = (a - b) + big2 by omega, Nat.add_mod_right, Nat.mod_eq_of_lt (by omega)]
theorem ser_le {s T : Nat} (hs : s ≤ oneF) (_ : T ≤ oneF) : ∀ (f : Nat) (b : Bool) (plus minus t fr : Nat), minus ≤ plus → plus + (f + 1) * oneF ≤ 200 * oneF → t ≤ oneF →
    (b = true → plus + t ≤ minus + T) → (b = false → minus + t ≤ plus ∧ plus ≤ minus + T) → serF f b plus minus t s fr ≤ T := by
  have hb := big2_eq
  have hp := oneF_pos
  intro f
  induction f with
  | zero =>
    intro b plus minus t fr h1 h2 h3 h4 h5
    show (plus + big2 - minus) % big2 ≤ T
    rw [sub_big h1 (by omega)]
    cases b
    · have := (h5 rfl).2; omega
    · have := h4 rfl; omega
  | succ f ih =>
    intro b plus minus t fr h1 h2 h3 h4 h5
    rw [Nat.add_mul (f + 1) 1] at h2
    have ht : mulF t s / (fr * (fr + 1)) ≤ t := Nat.le_trans (Nat.div_le_self _ _) (mulF_le hs)
    unfold serF
    cases b
    · obtain ⟨h6, h7⟩ := h5 rfl
      simp only [Bool.false_eq_true, if_false, Bool.not_false]
      rw [mod_big (show minus + t < big2 by omega)]
      split
      · rw [sub_big h6 (by omega)]; omega
      · exact ih _ _ _ _ _ h6 (by omega) (by omega) (fun _ => by omega) (fun h => by cases h)
    · have h6 := h4 rfl
      simp only [if_true, Bool.not_true]
      rw [mod_big (show plus + t < big2 by omega)]
      split
      · rw [sub_big (by omega) (by omega)]; omega
      · exact ih _ _ _ _ _ (by omega) (by omega) (by omega) (fun h => by cases h) (fun _ => ⟨by omega, h6⟩)
theorem ser_one {t s fr : Nat} (ht : t ≤ oneF) (hs : s ≤ oneF) : serF 80 true 0 0 t s fr ≤ oneF :=
  ser_le hs (Nat.le_refl _) 80 true 0 0 t fr (Nat.le_refl _) (by omega) ht (fun _ => by omega) (fun h => by cases h)
theorem rou_one : sizeP false (4 * oneF + 1) (-250) 0 = 4607182418800017408 := by decide +kernel
theorem rou_le {a : Nat} (h : a ≤ oneF) : rouF a ≤ 4607182418800017408 := by
  have hp := oneF_pos
  have hm : midF a ≤ 2 * oneF := by
    unfold midF lowF highF
    refine Nat.le_trans (Nat.mod_le _ _) ?_
    have := Nat.mod_le (a + 512) big2
    split <;> omega
  unfold rouF rndP sgnOf
  rw [if_neg (by decide), Nat.add_zero, ← rou_one]
  refine size_mono ?_ _ _
  unfold nS
  rw [if_pos rfl]
  omega
theorem ang_sq {o n : Nat} (h : ¬ oneF < angF o n) : mulF (angF o n) (angF o n) ≤ oneF := Nat.le_trans (mulF_le (by omega)) (by omega)
theorem sinF_le (o n : Nat) : sinF o n ≤ 4607182418800017408 := by
  unfold sinF
  split
  · decide
  · split
    · decide
    · split
      · decide
      · rename_i h
        exact rou_le (ser_one (by omega) (ang_sq h))
theorem cosF_le (o n : Nat) : cosF o n ≤ 4607182418800017408 := by
  unfold cosF
  split
  · decide
  · split
    · decide
    · rename_i h
      exact rou_le (ser_one (by omega) (ang_sq h))
theorem sgd_mod {p : Nat} (h : p ≤ 4607182418800017408) (m : Bool) : sgdN p m % 9223372036854775808 ≤ 4607182418800017408 ∧ sgdN p m < 18446744073709551616 := by
  unfold sgdN
  split
  · rw [Nat.add_mod_right]; omega
  · omega
theorem cosK_le (k n : Nat) : cosK k n % 9223372036854775808 ≤ 4607182418800017408 ∧ cosK k n < 18446744073709551616 := by
  unfold cosK
  split
  · exact sgd_mod (sinF_le _ _) _
  · exact sgd_mod (cosF_le _ _) _
theorem sinK_le (k n : Nat) : sinK k n % 9223372036854775808 ≤ 4607182418800017408 ∧ sinK k n < 18446744073709551616 := by
  unfold sinK
  split
  · exact sgd_mod (cosF_le _ _) _
  · exact sgd_mod (sinF_le _ _) _
end
end Go.Proofs.YtbakldcbaikgpaaGreatDoor
