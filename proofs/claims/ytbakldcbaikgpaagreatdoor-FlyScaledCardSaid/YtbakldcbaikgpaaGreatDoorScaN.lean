/- Numbers times a power of two: plain Lean. Own work. -/
import Derived.Test.YtbakldcbaikgpaaGreatDoorFlyA
namespace Go.Proofs.YtbakldcbaikgpaaGreatDoor
set_option maxRecDepth 100000

/-- A pattern times 2^300. -/
def scN (p : Nat) : Nat := if absN p = 0 then p else p + 1351079888211148800
/-- A finite pattern's size, in parts of 2^-3000. -/
def vL (p : Nat) : Nat := sigN p * 2 ^ (exN p + 3000).toNat
def wL (a b : Nat) : Nat := pdS a b * 2 ^ (pdX a b + 3000).toNat
/-- A finite pattern that is a multiple of 2^(e - 3000), and at most 2^(t - 3000). -/
structure Kt (e t p : Nat) : Prop where
  lt : p < 18446744073709551616
  fin : absN p < infN
  dvd : 2 ^ e ∣ vL p
  le : vL p ≤ 2 ^ t

/-! ### Rounding -/
theorem rnd_unit (m : Bool) (S : Nat) (x : Int) (h : -3000 ≤ x) : rndP m S x 0 = rndP m (S * 2 ^ (x + 3000).toNat) (-3000) 0 ∧ rndF m S x 0 = rndF m (S * 2 ^ (x + 3000).toNat) (-3000) 0 := by
  have h1 := size_scale S (x + 3000).toNat x 0 m
  have h2 := F_scale S (x + 3000).toNat x 0 m
  rw [show x - ((x + 3000).toNat : Nat) = -3000 by omega] at h1 h2
  unfold rndP
  rw [h1, h2]
  exact ⟨rfl, rfl⟩
/-- Where a number is in the middle. -/
def midV (V : Nat) : Prop := V = 0 ∨ (2000 ≤ lenN V ∧ lenN V ≤ 3650)
theorem low_mid {V : Nat} {x : Int} (h : 1980 ≤ topN V x + 3000) : lowN V x = topN V x - 53 := by
  unfold lowN
  omega
theorem raw_lt {V : Nat} (hV : 0 < V) {x : Int} (h1 : 1980 ≤ topN V x + 3000) (h2 : topN V x + 3000 ≤ 3960) (m : Bool) : rawN m V x 0 < infN := by
  have hq := q_lt hV x
  have hl := low_mid h1
  unfold rawN baseN infN
  have hu : (upD V (lowN V x - x) 0 m).toNat ≤ 1 := by cases upD V (lowN V x - x) 0 m <;> decide
  have hn : (lowN V x + 1074).toNat ≤ 1990 := by omega
  have : (lowN V x + 1074).toNat * 4503599627370496 ≤ 1990 * 4503599627370496 := Nat.mul_le_mul_right _ hn
  omega
theorem top_unit (V : Nat) (x : Int) : topN V x = x + lenN V := rfl
theorem rnd_mid {V : Nat} (hV : 0 < V) {x : Int} (h1 : 1980 ≤ topN V x + 3000) (h2 : topN V x + 3000 ≤ 3960) (m : Bool) :
    rndP m V x 0 = rawN m V x 0 + sgnOf m ∧ rndF m V x 0 = if inexN V (lowN V x - x) = true then 16 else 0 := by
  have hr := raw_lt hV h1 h2 m
  have ht : tinyN V x 0 m = false := by
    unfold tinyN
    rw [if_pos (by omega)]
  unfold rndP sizeP rndF
  rw [if_neg (by omega), if_neg (by omega), if_neg (by omega), if_neg (by omega), ht]
  exact ⟨rfl, rfl⟩
theorem raw_shift {V : Nat} {x : Int} (h1 : 1980 ≤ topN V x + 3000) (m : Bool) : rawN m V (x + 300) 0 = rawN m V x 0 + 1351079888211148800 ∧ lowN V (x + 300) - (x + 300) = lowN V x - x := by
  have e1 : topN V (x + 300) = topN V x + 300 := by unfold topN; omega
  have hl := low_mid h1
  have hl2 := low_mid (V := V) (x := x + 300) (by omega)
  have e2 : lowN V (x + 300) - (x + 300) = lowN V x - x := by omega
  refine ⟨?_, e2⟩
  unfold rawN baseN
  rw [e2, show (lowN V (x + 300) + 1074).toNat = (lowN V x + 1074).toNat + 300 by omega]
  omega
theorem raw_pos {V : Nat} (hV : 0 < V) {x : Int} (h1 : 1980 ≤ topN V x + 3000) (m : Bool) : 4503599627370496 ≤ rawN m V x 0 := by
  have hl := low_mid h1
  have hq := q_ge hV x (by omega)
  unfold rawN baseN
  omega
theorem abs_raw {r : Nat} (h : r < infN) (m : Bool) : absN (r + sgnOf m) = r := by
  unfold absN sgnOf infN at *
  split <;> omega
theorem sc_rnd {V : Nat} (h : midV V) (m : Bool) : rndP m (V * 2 ^ 300) (-3000) 0 = scN (rndP m V (-3000) 0) ∧ rndF m (V * 2 ^ 300) (-3000) 0 = rndF m V (-3000) 0 := by
  rcases h with rfl | ⟨h1, h2⟩
  · cases m <;> decide +kernel
  · have hV : 0 < V := by
      rcases Nat.eq_zero_or_pos V with h0 | h0
      · subst h0; rw [lenN_zero] at h1; omega
      · exact h0
    have t1 : topN V (-3000) + 3000 = lenN V := by unfold topN; omega
    have e1 := size_scale V 300 (-2700) 0 m
    have e2 := F_scale V 300 (-2700) 0 m
    rw [show (-2700 : Int) - ((300 : Nat) : Int) = -3000 by omega] at e1 e2
    obtain ⟨s1, s2⟩ := raw_shift (V := V) (x := -3000) (by omega) m
    rw [show (-3000 : Int) + 300 = -2700 by omega] at s1 s2
    have t2 : topN V (-2700) + 3000 = lenN V + 300 := by unfold topN; omega
    obtain ⟨a1, a2⟩ := rnd_mid hV (x := -3000) (by omega) (by omega) m
    obtain ⟨b1, b2⟩ := rnd_mid hV (x := -2700) (by omega) (by omega) m
    have hr := raw_lt hV (x := -3000) (by omega) (by omega) m
    have hp := raw_pos hV (x := -3000) (by omega) m
    constructor
    · show sizeP m (V * 2 ^ 300) (-3000) 0 + sgnOf m = _
      rw [e1]
      show rndP m V (-2700) 0 = _
      rw [b1, a1, s1]
      unfold scN
      rw [abs_raw hr, if_neg (by omega)]
      omega
    · rw [e2, b2, a2, s2]

/-! ### Parts of patterns -/
theorem parts_of {r q t : Nat} (h : r = q + t * 4503599627370496) (h1 : 4503599627370496 ≤ q) (h2 : q ≤ 9007199254740992) (ht : t ≤ 2000) (m : Bool) :
    (sigN (r + sgnOf m) * 2 ^ (exN (r + sgnOf m) + 3000).toNat = q * 2 ^ (t + 1926)) ∧ absN (r + sgnOf m) < infN ∧ r + sgnOf m < 18446744073709551616 := by
  have hs : (sgnOf m = 0 ∨ sgnOf m = 9223372036854775808) := by unfold sgnOf; split <;> simp
  have hb : absN (r + sgnOf m) < infN ∧ r + sgnOf m < 18446744073709551616 := by
    unfold absN infN
    rcases hs with e | e <;> rw [e] <;> constructor <;> omega
  refine ⟨?_, hb⟩
  by_cases hq : q = 9007199254740992
  · have e1 : pE (r + sgnOf m) = t + 2 ∧ pF (r + sgnOf m) = 0 := by
      unfold pE pF
      rcases hs with e | e <;> rw [e] <;> constructor <;> omega
    unfold sigN exN
    rw [e1.1, e1.2, if_neg (by omega), if_pos (by omega), if_neg (by omega), if_pos (by omega), hq, show (((t + 2 : Nat) : Int) - 1075 + 3000).toNat = 1 + (t + 1926) by omega, Nat.pow_add, Nat.zero_add, ← Nat.mul_assoc]
  · have e1 : pE (r + sgnOf m) = t + 1 ∧ pF (r + sgnOf m) = q - 4503599627370496 := by
      unfold pE pF
      rcases hs with e | e <;> rw [e] <;> constructor <;> omega
    unfold sigN exN
    rw [e1.1, e1.2, if_neg (by omega), if_pos (by omega), if_neg (by omega), if_pos (by omega), show (((t + 1 : Nat) : Int) - 1075 + 3000).toNat = t + 1926 by omega, show q - 4503599627370496 + 4503599627370496 = q by omega]
/-- What is rounded stays a multiple, and grows to less than twice. -/
theorem Kt_rnd {V e t : Nat} (he : 2000 ≤ e) (ht : t ≤ 3640) (hd : 2 ^ e ∣ V) (hle : V ≤ 2 ^ t) (m : Bool) : Kt e (t + 2) (rndP m V (-3000) 0) ∧ midV V := by
  rcases Nat.eq_zero_or_pos V with h0 | hV
  · subst h0
    refine ⟨⟨?_, ?_, ?_, ?_⟩, .inl rfl⟩
    · cases m <;> decide +kernel
    · cases m <;> decide +kernel
    · have : vL (rndP m 0 (-3000) 0) = 0 := by cases m <;> decide +kernel
      rw [this]; exact Nat.dvd_zero _
    · have : vL (rndP m 0 (-3000) 0) = 0 := by cases m <;> decide +kernel
      rw [this]; exact Nat.zero_le _
  · have hge : 2 ^ e ≤ V := Nat.le_of_dvd hV hd
    have l1 : e < lenN V := by
      rcases Nat.lt_or_ge e (lenN V) with h | h
      · exact h
      · have := Nat.lt_of_lt_of_le (lt_lenN V) (Nat.pow_le_pow_right (n := 2) (by decide) h)
        omega
    have l2 : lenN V ≤ t + 1 := lenN_le.2 (Nat.lt_of_le_of_lt hle (Nat.pow_lt_pow_right (by decide) (by omega)))
    refine ⟨?_, .inr ⟨by omega, by omega⟩⟩
    have t1 : topN V (-3000) + 3000 = lenN V := by unfold topN; omega
    obtain ⟨a1, -⟩ := rnd_mid hV (x := -3000) (by omega) (by omega) m
    have hl := low_mid (V := V) (x := -3000) (by omega)
    have q1 := q_ge hV (-3000) (by omega)
    have q2 := q_lt hV (-3000)
    have hd0 : 0 ≤ lowN V (-3000) - (-3000) := by omega
    have hq := qN_pos (S := V) hd0
    obtain ⟨d, hdd⟩ : ∃ d : Nat, lowN V (-3000) - (-3000) = d := ⟨(lowN V (-3000) - (-3000)).toNat, (Int.toNat_of_nonneg hd0).symm⟩
    rw [hdd, Int.toNat_natCast] at hq
    have hdl : d + 53 = lenN V := by omega
    obtain ⟨u, hu, hu1⟩ : ∃ u, (upD V (lowN V (-3000) - (-3000)) 0 m).toNat = u ∧ u ≤ 1 := ⟨_, rfl, by cases upD V (lowN V (-3000) - (-3000)) 0 m <;> decide⟩
    have hraw : rawN m V (-3000) 0 = (V / 2 ^ d + u) + (d - 1926) * 4503599627370496 := by
      unfold rawN baseN
      rw [hu, hdd, hq, show (lowN V (-3000) + 1074).toNat = d - 1926 by omega]
      omega
    rw [hdd, hq] at q1 q2
    obtain ⟨b1, b2, b3⟩ := parts_of hraw (by omega) (by omega) (by omega) m
    rw [show d - 1926 + 1926 = d by omega] at b1
    rw [a1]
    have hv : vL (rawN m V (-3000) 0 + sgnOf m) = (V / 2 ^ d + u) * 2 ^ d := b1
    refine ⟨b3, b2, ?_, ?_⟩
    · rw [hv]
      by_cases hed : e ≤ d
      · exact Nat.dvd_trans (Nat.pow_dvd_pow 2 hed) ⟨V / 2 ^ d + u, Nat.mul_comm _ _⟩
      · have hdv : 2 ^ d ∣ V := Nat.dvd_trans (Nat.pow_dvd_pow 2 (by omega)) hd
        have hix : inexN V (lowN V (-3000) - (-3000)) = false := by
          obtain ⟨c, rfl⟩ := hdv
          have := inex_zero c
          have h2 : inexN (c * 2 ^ d) ((0 : Int) + (d : Nat)) = inexN c 0 := by
            unfold inexN
            rw [half_scale, rest_scale]
          rw [hdd, Nat.mul_comm, ← this, ← h2, Int.zero_add]
        have hu0 : u = 0 := by
          rw [← hu, up_exact hix]
          rfl
        rw [hu0, Nat.add_zero, Nat.div_mul_cancel hdv]
        exact hd
    · rw [hv]
      have h3 : (V / 2 ^ d + u) * 2 ^ d ≤ (V / 2 ^ d + V / 2 ^ d) * 2 ^ d := Nat.mul_le_mul_right _ (by omega)
      have h4 : V / 2 ^ d * 2 ^ d ≤ V := Nat.div_mul_le_self V (2 ^ d)
      rw [Nat.add_mul (V / 2 ^ d) (V / 2 ^ d)] at h3
      have h5 : 2 ^ (t + 2) = 2 ^ t * 4 := by rw [Nat.pow_add]
      generalize (V / 2 ^ d + u) * 2 ^ d = A at h3 ⊢
      generalize V / 2 ^ d * 2 ^ d = B at h3 h4
      rw [h5]
      omega
end Go.Proofs.YtbakldcbaikgpaaGreatDoor
