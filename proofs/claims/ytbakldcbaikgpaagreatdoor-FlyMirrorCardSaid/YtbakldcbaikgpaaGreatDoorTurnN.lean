/- Points of a circle: what is the same of it. Plain Lean. Own work. -/
import Derived.Test.YtbakldcbaikgpaaGreatDoorTurn2
import Derived.Test.YtbakldcbaikgpaaGreatDoorRn3
namespace Go.Proofs.YtbakldcbaikgpaaGreatDoor
set_option maxRecDepth 100000
noncomputable section

/-! ### The same angle -/
theorem angF_mul {c o n : Nat} (hc : 0 < c) : angF (c * o) (c * n) = angF o n := by
  unfold angF
  rw [Nat.mul_assoc, Nat.mul_div_mul_left _ _ hc]
theorem sinF_mul {c o n : Nat} (hc : 0 < c) : sinF (c * o) (c * n) = sinF o n := by
  have h0 : c * o = 0 ↔ o = 0 := by rw [Nat.mul_eq_zero]; omega
  have h1 : 3 * (c * o) = 2 * (c * n) ↔ 3 * o = 2 * n := by
    rw [Nat.mul_left_comm, Nat.mul_left_comm 2, Nat.mul_left_cancel_iff hc]
  unfold sinF
  simp only [h0, h1, angF_mul hc]
theorem cosF_mul {c o n : Nat} (hc : 0 < c) : cosF (c * o) (c * n) = cosF o n := by
  have h0 : c * o = 0 ↔ o = 0 := by rw [Nat.mul_eq_zero]; omega
  unfold cosF
  simp only [h0, angF_mul hc]
theorem oct_mul {c k n : Nat} (hc : 0 < c) : octN (c * k) (c * n) = octN k n := by
  unfold octN
  rw [Nat.mul_left_comm, Nat.mul_div_mul_left _ _ hc]
theorem ovr_mul {c k n : Nat} (hc : 0 < c) : ovrN (c * k) (c * n) = c * ovrN k n := by
  unfold ovrN
  rw [oct_mul hc, Nat.mul_left_comm, Nat.mul_mod_mul_left]
  split
  · rw [Nat.mul_sub]
  · rfl
theorem cosK_mul {c k n : Nat} (hc : 0 < c) : cosK (c * k) (c * n) = cosK k n := by
  unfold cosK
  rw [oct_mul hc, ovr_mul hc, sinF_mul hc, cosF_mul hc]
theorem sinK_mul {c k n : Nat} (hc : 0 < c) : sinK (c * k) (c * n) = sinK k n := by
  unfold sinK
  rw [oct_mul hc, ovr_mul hc, sinF_mul hc, cosF_mul hc]

/-! ### Turns -/
def minN (p : Nat) : Nat := if p = 0 then 0 else if p < 9223372036854775808 then p + 9223372036854775808 else p - 9223372036854775808
theorem minN_sgd {p : Nat} (hp : p < 9223372036854775808) (m : Bool) : minN (sgdN p m) = sgdN p (!m) := by
  unfold minN sgdN
  cases m
  · by_cases h : p = 0
    · subst h; rfl
    · simp only [Bool.false_eq_true, false_and, if_false, Bool.not_false, true_and]
      rw [if_neg h, if_pos hp, if_pos h]
  · by_cases h : p = 0
    · subst h; rfl
    · simp only [true_and, Bool.not_true, Bool.false_eq_true, false_and, if_false]
      rw [if_pos h, if_neg (by omega), if_neg (by omega)]
      omega
/-- A point by its eighth and the size of its two parts. -/
def cosQ (q : Nat) (s c : Nat) : Nat := sgdN (if q % 4 = 1 ∨ q % 4 = 2 then s else c) (decide (2 ≤ q) && decide (q ≤ 5))
def sinQ (q : Nat) (s c : Nat) : Nat := sgdN (if q % 4 = 1 ∨ q % 4 = 2 then c else s) (decide (4 ≤ q))
theorem quarter {q s c : Nat} (hq : q < 8) (hs : s < 9223372036854775808) (hc : c < 9223372036854775808) : cosQ ((q + 2) % 8) s c = minN (sinQ q s c) ∧ sinQ ((q + 2) % 8) s c = cosQ q s c := by
  unfold cosQ sinQ
  match q, hq with
  | 0, _ => exact ⟨(minN_sgd hs false).symm, rfl⟩
  | 1, _ => exact ⟨(minN_sgd hc false).symm, rfl⟩
  | 2, _ => exact ⟨(minN_sgd hc false).symm, rfl⟩
  | 3, _ => exact ⟨(minN_sgd hs false).symm, rfl⟩
  | 4, _ => exact ⟨(minN_sgd hs true).symm, rfl⟩
  | 5, _ => exact ⟨(minN_sgd hc true).symm, rfl⟩
  | 6, _ => exact ⟨(minN_sgd hc true).symm, rfl⟩
  | 7, _ => exact ⟨(minN_sgd hs true).symm, rfl⟩
theorem halfway {q s c : Nat} (hq : q < 8) (hs : s < 9223372036854775808) (hc : c < 9223372036854775808) : cosQ ((q + 4) % 8) s c = minN (cosQ q s c) ∧ sinQ ((q + 4) % 8) s c = minN (sinQ q s c) := by
  unfold cosQ sinQ
  match q, hq with
  | 0, _ => exact ⟨(minN_sgd hc false).symm, (minN_sgd hs false).symm⟩
  | 1, _ => exact ⟨(minN_sgd hs false).symm, (minN_sgd hc false).symm⟩
  | 2, _ => exact ⟨(minN_sgd hs true).symm, (minN_sgd hc false).symm⟩
  | 3, _ => exact ⟨(minN_sgd hc true).symm, (minN_sgd hs false).symm⟩
  | 4, _ => exact ⟨(minN_sgd hc true).symm, (minN_sgd hs true).symm⟩
  | 5, _ => exact ⟨(minN_sgd hs true).symm, (minN_sgd hc true).symm⟩
  | 6, _ => exact ⟨(minN_sgd hs false).symm, (minN_sgd hc true).symm⟩
  | 7, _ => exact ⟨(minN_sgd hc false).symm, (minN_sgd hs true).symm⟩
theorem mirror {q s c : Nat} (hq : q < 8) (hs : s < 9223372036854775808) (hc : c < 9223372036854775808) : cosQ (7 - q) s c = cosQ q s c ∧ sinQ (7 - q) s c = minN (sinQ q s c) := by
  unfold cosQ sinQ
  match q, hq with
  | 0, _ => exact ⟨rfl, (minN_sgd hs false).symm⟩
  | 1, _ => exact ⟨rfl, (minN_sgd hc false).symm⟩
  | 2, _ => exact ⟨rfl, (minN_sgd hc false).symm⟩
  | 3, _ => exact ⟨rfl, (minN_sgd hs false).symm⟩
  | 4, _ => exact ⟨rfl, (minN_sgd hs true).symm⟩
  | 5, _ => exact ⟨rfl, (minN_sgd hc true).symm⟩
  | 6, _ => exact ⟨rfl, (minN_sgd hc true).symm⟩
  | 7, _ => exact ⟨rfl, (minN_sgd hs true).symm⟩
theorem cosK_Q (k n : Nat) : cosK k n = cosQ (octN k n) (sinF (ovrN k n) n) (cosF (ovrN k n) n) := rfl
theorem sinK_Q (k n : Nat) : sinK k n = sinQ (octN k n) (sinF (ovrN k n) n) (cosF (ovrN k n) n) := rfl

/-- So many eighths more, of a turn. -/
theorem oct_more {k n d e : Nat} (hn : 0 < n) (hk : k < n) (he : 8 * e = d * n) (hd : d % 2 = 0) (hd8 : d < 8) : octN ((k + e) % n) n = (octN k n + d) % 8 ∧ ovrN ((k + e) % n) n = ovrN k n := by
  have hen : e < n := by
    have : d * n < 8 * n := Nat.mul_lt_mul_of_pos_right hd8 hn
    omega
  have hq := oct_lt hk
  have h1 : 8 * (k + e) = n * d + 8 * k := by rw [Nat.mul_add, he, Nat.mul_comm d]; omega
  have hdiv : 8 * (k + e) / n = octN k n + d := by rw [h1, Nat.mul_add_div hn]; unfold octN; omega
  have hmod : 8 * (k + e) % n = 8 * k % n := by rw [h1, Nat.mul_add_mod]
  by_cases hlt : k + e < n
  · have hlt8 : octN k n + d < 8 := by rw [← hdiv]; exact oct_lt hlt
    rw [Nat.mod_eq_of_lt hlt]
    have ho : octN (k + e) n = octN k n + d := hdiv
    refine ⟨by rw [ho, Nat.mod_eq_of_lt hlt8], ?_⟩
    unfold ovrN
    rw [ho, hmod, show (octN k n + d) % 2 = octN k n % 2 by omega]
  · have hm : (k + e) % n = k + e - n := by rw [Nat.mod_eq_sub_mod (by omega), Nat.mod_eq_of_lt (by omega)]
    have h2 : 8 * (k + e) = n * 8 + 8 * (k + e - n) := by omega
    have hdiv2 : 8 * (k + e) / n = 8 + octN (k + e - n) n := by rw [h2, Nat.mul_add_div hn]; rfl
    have hmod2 : 8 * (k + e) % n = 8 * (k + e - n) % n := by
      conv => lhs; rw [h2, Nat.mul_add_mod]
    have ho : octN (k + e - n) n = octN k n + d - 8 := by omega
    rw [hm]
    refine ⟨by rw [ho]; have := oct_lt (show k + e - n < n by omega); omega, ?_⟩
    unfold ovrN
    rw [← hmod2, hmod, ho, show (octN k n + d - 8) % 2 = octN k n % 2 by omega]

theorem rot4 {k n e : Nat} (hn : 0 < n) (hk : k < n) (he : 4 * e = n) : cosK ((k + e) % n) n = minN (sinK k n) ∧ sinK ((k + e) % n) n = cosK k n := by
  obtain ⟨h1, h2⟩ := oct_more (e := e) (d := 2) hn hk (by omega) rfl (by decide)
  rw [cosK_Q ((k + e) % n), sinK_Q ((k + e) % n), cosK_Q k, sinK_Q k, h1, h2]
  exact quarter (oct_lt hk) (sinF_lt _ _) (cosF_lt _ _)
theorem rot2 {k n e : Nat} (hn : 0 < n) (hk : k < n) (he : 2 * e = n) : cosK ((k + e) % n) n = minN (cosK k n) ∧ sinK ((k + e) % n) n = minN (sinK k n) := by
  obtain ⟨h1, h2⟩ := oct_more (e := e) (d := 4) hn hk (by omega) rfl (by decide)
  rw [cosK_Q ((k + e) % n), sinK_Q ((k + e) % n), cosK_Q k, sinK_Q k, h1, h2]
  exact halfway (oct_lt hk) (sinF_lt _ _) (cosF_lt _ _)

theorem diag : sinF 1 1 = cosF 1 1 := by decide +kernel
theorem diag_n {n : Nat} (hn : 0 < n) : sinF n n = cosF n n := by
  have h1 := sinF_mul (c := n) (o := 1) (n := 1) hn
  have h2 := cosF_mul (c := n) (o := 1) (n := 1) hn
  rw [Nat.mul_one] at h1 h2
  rw [h1, h2, diag]
theorem sinF_zero (n : Nat) : sinF 0 n = 0 := rfl
theorem cosF_zero (n : Nat) : cosF 0 n = 4607182418800017408 := rfl
theorem mirror_odd {q r s : Nat} (h : q + r = 8) (ho : q % 2 = 1) (hs : s < 9223372036854775808) : cosQ r s s = cosQ q s s ∧ sinQ r s s = minN (sinQ q s s) := by
  have mf := minN_sgd hs false
  have mt := minN_sgd hs true
  unfold cosQ sinQ
  match q, (show q < 8 by omega) with
  | 0, _ => omega
  | 1, _ => obtain rfl : r = 7 := by omega
            exact ⟨rfl, mf.symm⟩
  | 2, _ => omega
  | 3, _ => obtain rfl : r = 5 := by omega
            exact ⟨rfl, mf.symm⟩
  | 4, _ => omega
  | 5, _ => obtain rfl : r = 3 := by omega
            exact ⟨rfl, mt.symm⟩
  | 6, _ => omega
  | 7, _ => obtain rfl : r = 1 := by omega
            exact ⟨rfl, mt.symm⟩
theorem sgd0 (m : Bool) : sgdN 0 m = 0 := by unfold sgdN; rw [if_neg (by simp)]
theorem min0 : minN 0 = 0 := by unfold minN; rw [if_pos rfl]
theorem mirror_even {q r c : Nat} (h : q + r = 8) (he : q % 2 = 0) (hq : q < 8) (hr : r < 8) (hc : c < 9223372036854775808) : cosQ r 0 c = cosQ q 0 c ∧ sinQ r 0 c = minN (sinQ q 0 c) := by
  have cf := minN_sgd hc false
  have ct := minN_sgd hc true
  have z : ∀ m, sgdN 0 m = 0 := sgd0
  have y := min0
  rcases (show q = 2 ∧ r = 6 ∨ q = 4 ∧ r = 4 ∨ q = 6 ∧ r = 2 by omega) with ⟨rfl, rfl⟩ | ⟨rfl, rfl⟩ | ⟨rfl, rfl⟩
  · refine ⟨?_, ?_⟩
    · show sgdN 0 false = sgdN 0 true
      rw [z, z]
    · exact cf.symm
  · refine ⟨rfl, ?_⟩
    show sgdN 0 true = minN (sgdN 0 true)
    rw [z, y]
  · refine ⟨?_, ?_⟩
    · show sgdN 0 true = sgdN 0 false
      rw [z, z]
    · exact ct.symm
theorem rotM {k n : Nat} (hn : 0 < n) (hk : k < n) (h0 : 0 < k) : cosK (n - k) n = cosK k n ∧ sinK (n - k) n = minN (sinK k n) := by
  have hq := oct_lt hk
  have hdm := Nat.div_add_mod (8 * k) n
  have hml := Nat.mod_lt (8 * k) hn
  have hdm2 := Nat.div_add_mod (8 * (n - k)) n
  have hml2 := Nat.mod_lt (8 * (n - k)) hn
  have hq2 := oct_lt (show n - k < n by omega)
  have hsum : n * octN k n + 8 * k % n + (n * octN (n - k) n + 8 * (n - k) % n) = n * 8 := by
    unfold octN; omega
  rw [cosK_Q, sinK_Q, cosK_Q k, sinK_Q k]
  by_cases hr : 8 * k % n = 0
  · have hr2 : 8 * (n - k) % n = 0 := by
      have hd : n ∣ 8 * (n - k) := by
        rw [Nat.mul_sub]
        exact Nat.dvd_sub (Nat.dvd_mul_left n 8) (Nat.dvd_of_mod_eq_zero hr)
      exact Nat.mod_eq_zero_of_dvd hd
    have hqs : octN k n + octN (n - k) n = 8 := by
      rw [hr, hr2, Nat.add_zero, Nat.add_zero, ← Nat.mul_add] at hsum
      exact Nat.eq_of_mul_eq_mul_left hn hsum
    unfold ovrN
    rw [hr, hr2, Nat.sub_zero]
    by_cases hodd : octN k n % 2 = 1
    · rw [if_pos hodd, if_pos (by omega), diag_n hn]
      exact mirror_odd hqs hodd (cosF_lt _ _)
    · rw [if_neg hodd, if_neg (by omega), sinF_zero, cosF_zero]
      exact mirror_even hqs (by omega) hq hq2 (by omega)
  · have hqs : octN (n - k) n = 7 - octN k n ∧ 8 * (n - k) % n = n - 8 * k % n := by
      have h3 : n * (octN k n + octN (n - k) n) + (8 * k % n + 8 * (n - k) % n) = n * 8 := by rw [Nat.mul_add]; omega
      have hz : octN k n + octN (n - k) n = 7 := by
        generalize octN k n + octN (n - k) n = z at h3
        rcases Nat.lt_or_ge z 7 with h | h
        · have := Nat.mul_le_mul_left n (show z ≤ 6 by omega); omega
        · rcases Nat.lt_or_ge 7 z with h' | h'
          · have := Nat.mul_le_mul_left n (show 8 ≤ z by omega); omega
          · omega
      rw [hz] at h3
      clear hsum hdm hdm2
      refine ⟨by omega, ?_⟩
      generalize 8 * k % n = u at *
      generalize 8 * (n - k) % n = v at *
      omega
    have hov : ovrN (n - k) n = ovrN k n := by
      unfold ovrN
      rw [hqs.1, hqs.2]
      by_cases hodd : octN k n % 2 = 1
      · rw [if_pos hodd, if_neg (by omega)]
      · rw [if_neg hodd, if_pos (by omega)]; omega
    rw [hov, hqs.1]
    exact mirror hq (sinF_lt _ _) (cosF_lt _ _)
end
end Go.Proofs.YtbakldcbaikgpaaGreatDoor
