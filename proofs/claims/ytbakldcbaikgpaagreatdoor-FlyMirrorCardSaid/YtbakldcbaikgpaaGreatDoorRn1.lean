/- Rounding, on numbers: quotients, halves, rests, patterns. Plain Lean: no program stands here. Own work. -/
import Derived.Test.YtbakldcbaikgpaaGreatDoorPat1
namespace Go.Proofs.YtbakldcbaikgpaaGreatDoor
set_option maxRecDepth 100000
noncomputable section

theorem qN_neg {S : Nat} {d : Int} (h : d ≤ 0) : qN S d = S * 2 ^ (-d).toNat := by
  unfold qN
  rw [show d.toNat = 0 by omega, Nat.pow_zero, Nat.div_one]
theorem qN_pos {S : Nat} {d : Int} (h : 0 ≤ d) : qN S d = S / 2 ^ d.toNat := by
  unfold qN
  rw [show (-d).toNat = 0 by omega, Nat.pow_zero, Nat.mul_one]

theorem lenN_zero : lenN 0 = 0 := rfl
theorem lenN_pos {v : Nat} (h : 0 < v) : 0 < lenN v := by
  unfold lenN
  rw [if_neg (by omega)]
  omega
theorem lt_lenN (v : Nat) : v < 2 ^ lenN v := lenN_le.1 (Nat.le_refl _)
theorem le_lenN {v : Nat} (h : 0 < v) : 2 ^ (lenN v - 1) ≤ v := by
  have h1 := lenN_pos h
  have : ¬ lenN v ≤ lenN v - 1 := by omega
  rw [lenN_le] at this
  omega
theorem lenN_shl {v k : Nat} (h : 0 < v) : lenN (v * 2 ^ k) = lenN v + k := by
  have hp : 0 < v * 2 ^ k := Nat.mul_pos h (Nat.two_pow_pos k)
  have h1 := lenN_add (m := v * 2 ^ k) (k := k) (Nat.le_mul_of_pos_left _ h)
  rw [Nat.mul_div_cancel _ (Nat.two_pow_pos k)] at h1
  omega

/-- The length of what is cut. -/
theorem lenN_q {S : Nat} (h : 0 < S) (d : Int) : (lenN (qN S d) : Int) = max ((lenN S : Int) - d) 0 := by
  by_cases h0 : d ≤ 0
  · rw [qN_neg h0, lenN_shl h]
    omega
  · rw [qN_pos (by omega), lenN_div]
    omega

theorem q_lt {S : Nat} (h : 0 < S) (x : Int) : qN S (lowN S x - x) < 9007199254740992 := by
  have h1 := lenN_q h (lowN S x - x)
  have h2 : topN S x - 53 ≤ lowN S x := Int.le_max_left _ _
  unfold topN at h2
  exact (lenN_le (k := 53)).1 (by omega)

theorem q_ge {S : Nat} (h : 0 < S) (x : Int) (hl : lowN S x ≠ -1074) : 4503599627370496 ≤ qN S (lowN S x - x) := by
  have h1 := lenN_q h (lowN S x - x)
  have h2 : lowN S x = topN S x - 53 := by unfold lowN at *; omega
  unfold topN at h2
  have h3 : ¬ lenN (qN S (lowN S x - x)) ≤ 52 := by omega
  rw [lenN_le] at h3
  omega

theorem low_ge (S : Nat) (x : Int) : -1074 ≤ lowN S x := Int.le_max_right _ _

theorem inex_none {S : Nat} {d : Int} (h : inexN S d = false) : halfN S d = false ∧ restN S d = false := by
  unfold inexN at h
  simpa using h

theorem up_exact {S : Nat} {d : Int} (h : inexN S d = false) (k : Int) (m : Bool) : upD S d k m = false := by
  obtain ⟨h1, h2⟩ := inex_none h
  unfold upD upN
  rw [h1, h2]
  simp

theorem upN_turn (k k' : Int) (m odd half rest : Bool) (h : k' = if k = 3 then 4 else if k = 4 then 3 else k) : upN k' (!m) odd half rest = upN k m odd half rest := by
  subst h
  unfold upN
  by_cases h3 : k = 3
  · subst h3; simp
  · by_cases h4 : k = 4
    · subst h4; simp
    · rw [if_neg h3, if_neg h4]
      simp only [if_neg h3, if_neg h4]

theorem overN_turn (k k' : Int) (m : Bool) (h : k' = if k = 3 then 4 else if k = 4 then 3 else k) : overN k' (!m) = overN k m := by
  subst h
  unfold overN
  by_cases h3 : k = 3
  · subst h3; cases m <;> simp
  · by_cases h4 : k = 4
    · subst h4; cases m <;> simp
    · rw [if_neg h3, if_neg h4]
      simp [h3, h4]

/-! ### Signs -/

theorem turn_raw (m : Bool) (S : Nat) (x k k' : Int) (h : k' = if k = 3 then 4 else if k = 4 then 3 else k) : rawN (!m) S x k' = rawN m S x k := by
  unfold rawN upD
  rw [upN_turn k k' m _ _ _ h]
theorem turn_tiny (m : Bool) (S : Nat) (x k k' : Int) (h : k' = if k = 3 then 4 else if k = 4 then 3 else k) : tinyN S x k' (!m) = tinyN S x k m := by
  unfold tinyN toN upD
  rw [upN_turn k k' m _ _ _ h]
theorem turn_size (m : Bool) (S : Nat) (x k k' : Int) (h : k' = if k = 3 then 4 else if k = 4 then 3 else k) : sizeP (!m) S x k' = sizeP m S x k := by
  unfold sizeP
  rw [turn_raw m S x k k' h, overN_turn k k' m h]
theorem turn_F (m : Bool) (S : Nat) (x k k' : Int) (h : k' = if k = 3 then 4 else if k = 4 then 3 else k) : rndF (!m) S x k' = rndF m S x k := by
  unfold rndF
  rw [turn_raw m S x k k' h, turn_tiny m S x k k' h]

theorem raw_inf_over (k : Int) (m : Bool) : overN k m ≤ infN := by
  unfold overN
  split
  · exact Nat.sub_le _ _
  · exact Nat.le_refl _

theorem size_le (m : Bool) (S : Nat) (x k : Int) : sizeP m S x k ≤ infN := by
  unfold sizeP
  split
  · exact Nat.zero_le _
  · split
    · exact raw_inf_over k m
    · omega

/-! ### Between -/

/-- A pattern without its sign by a mode, of the two neighbours. -/
theorem size_cases {m : Bool} {S : Nat} {x k : Int} (h : S ≠ 0) (hk : inexN S (lowN S x - x) = false) (hb : baseN S x < infN) : sizeP m S x k = baseN S x ∧ rndF m S x k = 0 := by
  have h1 := up_exact hk k m
  have h2 : rawN m S x k = baseN S x := by unfold rawN; rw [h1]; exact Nat.add_zero _
  unfold sizeP rndF
  rw [h2, hk, if_neg h, if_neg h]
  generalize baseN S x = b at *
  rw [if_neg (Nat.not_le.2 hb), if_neg (Nat.not_le.2 hb)]
  exact ⟨rfl, if_neg (by decide)⟩

/-- What a mode says of a size with something left: 0 down, 1 up. -/
def sideN (S : Nat) (x k : Int) (m : Bool) : Bool :=
  if baseN S x ≥ infN then (if overN k m = infN then true else false) else upD S (lowN S x - x) k m

theorem over_up {S : Nat} {d : Int} {k : Int} {m : Bool} (h : upD S d k m = true) : overN k m = infN := by
  unfold upD upN at h
  unfold overN
  by_cases h2 : k = 2
  · rw [if_pos h2] at h; cases h
  · rw [if_neg h2] at h
    by_cases h3 : k = 3
    · rw [if_pos h3] at h
      cases m
      · simp [h3]
      · simp at h
    · rw [if_neg h3] at h
      by_cases h4 : k = 4
      · rw [if_pos h4] at h
        cases m
        · simp at h
        · simp [h4]
      · simp [h2, h3, h4]

/-- The lower neighbour. -/
def dnN (S : Nat) (x : Int) : Nat := if baseN S x ≥ infN then infN - 1 else baseN S x

theorem inex_bit (S : Nat) (x : Int) (k : Int) (m : Bool) : (if tinyN S x k m = true then 24 else 16 : Nat) &&& 16 = 16 := by
  split <;> rfl

theorem size_side {m : Bool} {S : Nat} {x k : Int} (h : S ≠ 0) (hk : inexN S (lowN S x - x) = true ∨ baseN S x ≥ infN) :
    sizeP m S x k = dnN S x + (sideN S x k m).toNat ∧ rndF m S x k / 16 % 2 = 1 := by
  have hr : rawN m S x k = baseN S x + (upD S (lowN S x - x) k m).toNat := rfl
  have ho : upD S (lowN S x - x) k m = true → overN k m = infN := over_up
  have ho2 : overN k m = infN - 1 ∨ overN k m = infN := by unfold overN; split <;> simp
  unfold sizeP rndF sideN dnN
  rw [if_neg h, if_neg h, hr]
  clear hr
  generalize baseN S x = b at *
  generalize upD S (lowN S x - x) k m = u at *
  generalize overN k m = o at *
  generalize inexN S (lowN S x - x) = i at *
  generalize tinyN S x k m = t at *
  have hi : 0 < infN := by decide
  generalize infN = I at *
  by_cases hb : b ≥ I
  · have h1 : b + u.toNat ≥ I := Nat.le_trans hb (Nat.le_add_right _ _)
    rw [if_pos hb, if_pos hb, if_pos h1, if_pos h1]
    refine ⟨?_, rfl⟩
    rcases ho2 with e | e
    · rw [if_neg (by omega), e]; rfl
    · rw [if_pos e, e]; simp only [Bool.toNat_true]; omega
  · rw [if_neg hb, if_neg hb]
    have hk' := hk.resolve_right hb
    rw [hk']
    cases u with
    | true =>
      rw [Bool.toNat_true]
      by_cases h1 : b + 1 ≥ I
      · rw [if_pos h1, if_pos h1, ho rfl]
        refine ⟨by omega, rfl⟩
      · rw [if_neg h1, if_neg h1]
        refine ⟨rfl, ?_⟩
        cases t <;> rfl
    | false =>
      rw [Bool.toNat_false, Nat.add_zero, if_neg hb, if_neg hb]
      refine ⟨rfl, ?_⟩
      cases t <;> rfl

theorem side_zero (S : Nat) (x : Int) (m : Bool) : sideN S x 2 m = false := by
  unfold sideN
  split
  · rfl
  · rfl

theorem side_out {S : Nat} {x : Int} {m : Bool} (hk : inexN S (lowN S x - x) = true ∨ baseN S x ≥ infN) {k : Int} (h : k = if m = true then 4 else 3) : sideN S x k m = true := by
  subst h
  unfold sideN
  split
  · cases m <;> rfl
  · rename_i hb
    have := hk.resolve_right hb
    unfold inexN at this
    unfold upD upN
    cases m
    · simpa using this
    · simpa using this

theorem side_in (S : Nat) (x : Int) {m : Bool} {k : Int} (h : k = if m = true then 3 else 4) : sideN S x k m = false := by
  subst h
  unfold sideN
  split
  · cases m <;> rfl
  · unfold upD upN
    cases m <;> simp
end
end Go.Proofs.YtbakldcbaikgpaaGreatDoor
