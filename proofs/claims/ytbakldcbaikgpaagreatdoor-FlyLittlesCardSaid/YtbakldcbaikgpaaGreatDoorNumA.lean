/- The texts Pat1, Rn1, Rn2, Rn3, joined. Own work. -/
import Derived.Test.YtbakldcbaikgpaaGreatDoorWideA
/- pat: signs. Own work. -/
namespace Go.Proofs.YtbakldcbaikgpaaGreatDoor
set_option maxRecDepth 100000
noncomputable section
def andNotI (k : IntKind) (x y : Int) : Int := k.wrap ((BitVec.ofInt k.bits x &&& ~~~ BitVec.ofInt k.bits y).toNat : Int)
def xorI (k : IntKind) (x y : Int) : Int := k.wrap ((BitVec.ofInt k.bits x ^^^ BitVec.ofInt k.bits y).toNat : Int)
/-- A pattern's size, and its sign's bit. -/
def absN (p : Nat) : Nat := p % 9223372036854775808
def sgnN (p : Nat) : Nat := p / 9223372036854775808 % 2 * 9223372036854775808
theorem ofInt_nat (m : Nat) (h : m < 18446744073709551616) : (BitVec.ofInt 64 (m : Int)).toNat = m := by
  rw [BitVec.toNat_ofInt]
  omega
theorem run_pAbs (p : Int) : callA (env Tryz.f102.ntmps [] []) (bodyC Tryz.f102) Tryz.f102.results.toList (slots 0 [.int .u64 p]) some = some (.int .u64 (andNotI .u64 p 9223372036854775808)) := by kernel_rfl
theorem run_pNeg (p : Int) : callA (env Tryz.f46.ntmps [] []) (bodyC Tryz.f46) Tryz.f46.results.toList (slots 0 [.int .u64 p]) some = some (.int .u64 (xorI .u64 p 9223372036854775808)) := by kernel_rfl
theorem andNot63 (m : Nat) (h : m < 18446744073709551616) : andNotI .u64 (m : Int) 9223372036854775808 = ((absN m : Nat) : Int) := by
  unfold andNotI absN
  rw [IntKind.wrap_u64]
  have h1 : (BitVec.ofInt IntKind.u64.bits (m : Int) &&& ~~~ BitVec.ofInt IntKind.u64.bits 9223372036854775808).toNat = m % 9223372036854775808 := by
    rw [BitVec.toNat_and, BitVec.toNat_not]
    simp only [IntKind.bits]
    rw [ofInt_nat m h]
    have e : 2 ^ 64 - 1 - (BitVec.ofInt 64 9223372036854775808).toNat = 9223372036854775807 := by decide
    rw [e]
    exact nat_mask63 m
  rw [h1]
  omega
theorem xor63N (m : Nat) (h : m < 2 ^ 64) : m ^^^ 2 ^ 63 = (2 ^ 63 + m) % 2 ^ 64 := by
  apply Nat.eq_of_testBit_eq
  intro j
  rw [Nat.testBit_xor, Nat.testBit_two_pow, Nat.testBit_mod_two_pow]
  by_cases h1 : j = 63
  · subst h1
    rw [Nat.testBit_two_pow_add_eq]
    simp
  · by_cases h2 : j < 63
    · rw [Nat.testBit_two_pow_add_gt h2]
      have : decide (63 = j) = false := decide_eq_false (by omega)
      have h3 : decide (j < 64) = true := decide_eq_true (by omega)
      rw [this, h3]
      simp
    · have : decide (63 = j) = false := decide_eq_false (by omega)
      have h3 : decide (j < 64) = false := decide_eq_false (by omega)
      rw [this, h3, Nat.testBit_lt_two_pow (Nat.lt_of_lt_of_le h (Nat.pow_le_pow_right (by decide) (by omega)))]
      rfl
theorem xor63 (m : Nat) (h : m < 18446744073709551616) : xorI .u64 (m : Int) 9223372036854775808 = (((m + 9223372036854775808) % 18446744073709551616 : Nat) : Int) := by
  unfold xorI
  rw [IntKind.wrap_u64]
  have h1 : (BitVec.ofInt IntKind.u64.bits (m : Int) ^^^ BitVec.ofInt IntKind.u64.bits 9223372036854775808).toNat = (m + 9223372036854775808) % 18446744073709551616 := by
    rw [BitVec.toNat_xor]
    simp only [IntKind.bits]
    rw [ofInt_nat m h]
    have e : (BitVec.ofInt 64 9223372036854775808).toNat = 2 ^ 63 := by decide
    rw [e, xor63N m h, Nat.add_comm]
  rw [h1]
  omega
def negN (p : Nat) : Nat := (p + 9223372036854775808) % 18446744073709551616
/-- The size of the one, the sign of the other. -/
def copyN (p q : Nat) : Nat := absN p + sgnN q
def sp_pAbs : List AV → Option (Bool × AV)
  | [.int .u64 p] => some (inU p, .int .u64 ((absN p.toNat : Nat) : Int))
  | _ => none
def sp_pNeg : List AV → Option (Bool × AV)
  | [.int .u64 p] => some (inU p, .int .u64 ((negN p.toNat : Nat) : Int))
  | _ => none
def sp_pCopy : List AV → Option (Bool × AV)
  | [.int .u64 p, .int .u64 q] => some (inU p && inU q, .int .u64 ((copyN p.toNat q.toNat : Nat) : Int))
  | _ => none
theorem nat_of {x : Int} (h : inU x = true) : ∃ m : Nat, x = m ∧ m < 18446744073709551616 := by
  rw [inU_iff] at h
  exact ⟨x.toNat, (Int.toNat_of_nonneg h.1).symm, by omega⟩
theorem ok_pAbs : EntOk Tryz.prog 102 (entS false sp_pAbs) := by
  refine contractS (orc := []) (lo := []) Tryz.func102 orc_nil (by kernel_rfl) (by kernel_rfl) (by kernel_rfl) (loops_none (by kernel_rfl)) fun args r h => ?_
  unfold sp_pAbs at h
  split at h
  · rename_i p
    simp only [Option.some.injEq, Prod.mk.injEq] at h
    obtain ⟨hp, rfl⟩ := h
    obtain ⟨m, rfl, hm⟩ := nat_of hp
    exact ⟨by kernel_rfl, .inr rfl, (run_pAbs m).trans (by rw [andNot63 m hm]; rfl)⟩
  · cases h
theorem ok_pNeg : EntOk Tryz.prog 46 (entS false sp_pNeg) := by
  refine contractS (orc := []) (lo := []) Tryz.func46 orc_nil (by kernel_rfl) (by kernel_rfl) (by kernel_rfl) (loops_none (by kernel_rfl)) fun args r h => ?_
  unfold sp_pNeg at h
  split at h
  · rename_i p
    simp only [Option.some.injEq, Prod.mk.injEq] at h
    obtain ⟨hp, rfl⟩ := h
    obtain ⟨m, rfl, hm⟩ := nat_of hp
    exact ⟨by kernel_rfl, .inr rfl, (run_pNeg m).trans (by rw [xor63 m hm]; rfl)⟩
  · cases h
theorem run_pCopy (p q : Int) : callA (env Tryz.f105.ntmps [(102, entS false sp_pAbs)] []) (bodyC Tryz.f105) Tryz.f105.results.toList (slots 0 [.int .u64 p, .int .u64 q]) some =
    chk (inU p) (some (.int .u64 (orI .u64 ((absN p.toNat : Nat) : Int) (andI .u64 q 9223372036854775808)))) := by kernel_rfl
theorem and63 (m : Nat) (h : m < 18446744073709551616) : andI .u64 (m : Int) 9223372036854775808 = ((sgnN m : Nat) : Int) := by
  unfold andI sgnN
  rw [IntKind.wrap_u64]
  have h1 : (BitVec.ofInt IntKind.u64.bits (m : Int) &&& BitVec.ofInt IntKind.u64.bits 9223372036854775808).toNat = m / 9223372036854775808 % 2 * 9223372036854775808 := by
    rw [BitVec.toNat_and]
    simp only [IntKind.bits]
    rw [ofInt_nat m h]
    have e : (BitVec.ofInt 64 9223372036854775808).toNat = 9223372036854775808 := by decide
    rw [e, nat_bit63]
  rw [h1]
  omega
theorem ok_pCopy : EntOk Tryz.prog 105 (entS false sp_pCopy) := by
  refine contractS (orc := [(102, entS false sp_pAbs)]) (lo := []) Tryz.func105 (orc_cons ok_pAbs orc_nil) (by kernel_rfl) (by kernel_rfl) (by kernel_rfl) (loops_none (by kernel_rfl)) fun args r h => ?_
  unfold sp_pCopy at h
  split at h
  · rename_i p q
    simp only [Option.some.injEq, Prod.mk.injEq, Bool.and_eq_true] at h
    obtain ⟨⟨hp, hq⟩, rfl⟩ := h
    obtain ⟨m, rfl, hm⟩ := nat_of hp
    obtain ⟨n, rfl, hn⟩ := nat_of hq
    refine ⟨by kernel_rfl, .inr rfl, (run_pCopy m n).trans ?_⟩
    rw [hp, and63 n hn, orI_comm, Int.toNat_natCast, Int.toNat_natCast]
    have h1 : n / 9223372036854775808 % 2 * 2 ^ 63 < 18446744073709551616 := by omega
    have h2 : absN m < 2 ^ 63 := Nat.mod_lt _ (by decide)
    have := orI_add (n / 9223372036854775808 % 2) (absN m) 63 h1 h2 (by decide)
    unfold sgnN copyN
    rw [show n / 9223372036854775808 % 2 * 9223372036854775808 = n / 9223372036854775808 % 2 * 2 ^ 63 from rfl, this, Nat.add_comm]
    rfl
  · cases h
end
end Go.Proofs.YtbakldcbaikgpaaGreatDoor
/- Rounding, on numbers: quotients, halves, rests, patterns. Plain Lean: no program stands here. Own work. -/
namespace Go.Proofs.YtbakldcbaikgpaaGreatDoor
set_option maxRecDepth 100000
noncomputable section
theorem qN_neg {S : Nat} {d : Int} (h : d ≤ 0) : qN S d = S * 2 ^ (-d).toNat := by
  unfold qN
  rw [show d.toNat = 0 by omega, Nat.pow_zero, Nat.div_one]
theorem qN_pos {S : Nat} {d : Int} (h : 0 ≤ d) : qN S d = S / 2 ^ d.toNat := by
  unfold qN
  rw [show (-d).toNat = 0 by omega, Nat.pow_zero, Nat.mul_one]
theorem lenN_pos {v : Nat} (h : 0 < v) : 0 < lenN v := by
  unfold lenN
  rw [if_neg (by omega)]
  omega
theorem lt_lenN (v : Nat) : v < 2 ^ lenN v := lenN_le.1 (Nat.le_refl _)
theorem le_lenN {v : Nat} (h : 0 < v) : 2 ^ (lenN v - 1) ≤ v := by
  have h1 := lenN_pos h
  have : ¬ lenN v ≤ lenN v - 1 := by omega
  rw [lenN_le] at this
  omega
theorem lenN_shl {v k : Nat} (h : 0 < v) : lenN (v * 2 ^ k) = lenN v + k := by
  have hp : 0 < v * 2 ^ k := Nat.mul_pos h (Nat.two_pow_pos k)
  have h1 := lenN_add (m := v * 2 ^ k) (k := k) (Nat.le_mul_of_pos_left _ h)
  rw [Nat.mul_div_cancel _ (Nat.two_pow_pos k)] at h1
  omega
/-- The length of what is cut. -/
theorem lenN_q {S : Nat} (h : 0 < S) (d : Int) : (lenN (qN S d) : Int) = max ((lenN S : Int) - d) 0 := by
  by_cases h0 : d ≤ 0
  · rw [qN_neg h0, lenN_shl h]
    omega
  · rw [qN_pos (by omega), lenN_div]
    omega
theorem q_lt {S : Nat} (h : 0 < S) (x : Int) : qN S (lowN S x - x) < 9007199254740992 := by
  have h1 := lenN_q h (lowN S x - x)
  have h2 : topN S x - 53 ≤ lowN S x := Int.le_max_left _ _
  unfold topN at h2
  exact (lenN_le (k := 53)).1 (by omega)
theorem q_ge {S : Nat} (h : 0 < S) (x : Int) (hl : lowN S x ≠ -1074) : 4503599627370496 ≤ qN S (lowN S x - x) := by
  have h1 := lenN_q h (lowN S x - x)
  have h2 : lowN S x = topN S x - 53 := by unfold lowN at *; omega
  unfold topN at h2
  have h3 : ¬ lenN (qN S (lowN S x - x)) ≤ 52 := by omega
  rw [lenN_le] at h3
  omega
theorem low_ge (S : Nat) (x : Int) : -1074 ≤ lowN S x := Int.le_max_right _ _
theorem inex_none {S : Nat} {d : Int} (h : inexN S d = false) : halfN S d = false ∧ restN S d = false := by
  unfold inexN at h
  simpa using h
theorem up_exact {S : Nat} {d : Int} (h : inexN S d = false) (k : Int) (m : Bool) : upD S d k m = false := by
  obtain ⟨h1, h2⟩ := inex_none h
  unfold upD upN
  rw [h1, h2]
  simp
/-! ### Signs -/
theorem raw_inf_over (k : Int) (m : Bool) : overN k m ≤ infN := by
  unfold overN
  split
  · exact Nat.sub_le _ _
  · exact Nat.le_refl _
theorem size_le (m : Bool) (S : Nat) (x k : Int) : sizeP m S x k ≤ infN := by
  unfold sizeP
  split
  · exact Nat.zero_le _
  · split
    · exact raw_inf_over k m
    · omega
/-! ### Between -/
end
end Go.Proofs.YtbakldcbaikgpaaGreatDoor
/- Rounding, on numbers: scaled numbers, and order. Plain Lean. Own work. -/
namespace Go.Proofs.YtbakldcbaikgpaaGreatDoor
set_option maxRecDepth 100000
noncomputable section
theorem pow_split {a b : Nat} (h : b ≤ a) : (2 : Nat) ^ a = 2 ^ (a - b) * 2 ^ b := by rw [← Nat.pow_add]; congr 1; omega
theorem q_scale (S a : Nat) (d : Int) : qN (S * 2 ^ a) (d + a) = qN S d := by
  by_cases h : 0 ≤ d
  · rw [qN_pos (by omega), qN_pos h, show (d + a).toNat = d.toNat + a by omega, Nat.pow_add]
    exact Nat.mul_div_mul_right _ _ (Nat.two_pow_pos a)
  · by_cases h2 : 0 ≤ d + a
    · rw [qN_pos h2, qN_neg (by omega), pow_split (a := a) (b := (d + a).toNat) (by omega), ← Nat.mul_assoc, Nat.mul_div_cancel _ (Nat.two_pow_pos _)]
      congr 2
      omega
    · rw [qN_neg (by omega), qN_neg (by omega), Nat.mul_assoc, ← Nat.pow_add]
      congr 2
      omega
theorem half_scale (S a : Nat) (d : Int) : halfN (S * 2 ^ a) (d + a) = halfN S d := by
  unfold halfN
  by_cases h : 0 < d
  · rw [decide_eq_true h, decide_eq_true (show 0 < d + a by omega), show (d + a).toNat - 1 = (d.toNat - 1) + a by omega, Nat.pow_add, Nat.mul_div_mul_right _ _ (Nat.two_pow_pos a)]
  · rw [decide_eq_false h]
    by_cases h2 : 0 < d + a
    · rw [pow_split (a := a) (b := (d + a).toNat - 1) (by omega), ← Nat.mul_assoc, Nat.mul_div_cancel _ (Nat.two_pow_pos _)]
      have : (2 : Nat) ^ (a - ((d + a).toNat - 1)) = 2 ^ (a - (d + a).toNat) * 2 := by rw [← Nat.pow_succ]; congr 1; omega
      rw [this, ← Nat.mul_assoc, Nat.mul_mod_left]
      simp
    · rw [decide_eq_false h2]
      rfl
theorem rest_scale (S a : Nat) (d : Int) : restN (S * 2 ^ a) (d + a) = restN S d := by
  unfold restN
  by_cases h : 0 < d
  · rw [decide_eq_true h, decide_eq_true (show 0 < d + a by omega), show (d + a).toNat - 1 = (d.toNat - 1) + a by omega, Nat.pow_add, Nat.mul_mod_mul_right]
    congr 1
    refine decide_eq_decide.2 (not_congr ?_)
    have := Nat.two_pow_pos a
    rw [Nat.mul_eq_zero]
    omega
  · rw [decide_eq_false h]
    by_cases h2 : 0 < d + a
    · rw [pow_split (a := a) (b := (d + a).toNat - 1) (by omega), ← Nat.mul_assoc, Nat.mul_mod_left]
      simp
    · rw [decide_eq_false h2]
      rfl
theorem top_scale {S : Nat} (h : 0 < S) (a : Nat) (x : Int) : topN (S * 2 ^ a) (x - a) = topN S x := by
  unfold topN
  rw [lenN_shl h]
  omega
theorem low_scale {S : Nat} (h : 0 < S) (a : Nat) (x : Int) : lowN (S * 2 ^ a) (x - a) = lowN S x := by
  unfold lowN
  rw [top_scale h]
theorem up_scale (S a : Nat) (d k : Int) (m : Bool) : upD (S * 2 ^ a) (d + a) k m = upD S d k m := by
  unfold upD
  rw [q_scale, half_scale, rest_scale]
theorem raw_scale {S : Nat} (h : 0 < S) (a : Nat) (x k : Int) (m : Bool) : rawN m (S * 2 ^ a) (x - a) k = rawN m S x k := by
  unfold rawN baseN
  rw [low_scale h, show lowN S x - (x - a) = lowN S x - x + a by omega, q_scale, up_scale]
theorem size_scale (S a : Nat) (x k : Int) (m : Bool) : sizeP m (S * 2 ^ a) (x - a) k = sizeP m S x k := by
  unfold sizeP
  by_cases h : S = 0
  · subst h; simp
  · have h1 : 0 < S := by omega
    rw [if_neg h, if_neg (by have := Nat.mul_pos h1 (Nat.two_pow_pos a); omega), raw_scale h1]
theorem F_scale (S a : Nat) (x k : Int) (m : Bool) : rndF m (S * 2 ^ a) (x - a) k = rndF m S x k := by
  unfold rndF
  by_cases h : S = 0
  · subst h; simp
  · have h1 : 0 < S := by omega
    have e1 : lowN S x - (x - a) = lowN S x - x + a := by omega
    have e2 : topN S x - 53 - (x - a) = topN S x - 53 - x + a := by omega
    rw [if_neg h, if_neg (by have := Nat.mul_pos h1 (Nat.two_pow_pos a); omega), raw_scale h1]
    unfold inexN tinyN toN
    rw [low_scale h1, top_scale h1, e1, e2, half_scale, rest_scale, q_scale, up_scale]
/-! ### Order -/
theorem lenN_mono {a b : Nat} (h : a ≤ b) : lenN a ≤ lenN b := lenN_le.2 (Nat.lt_of_le_of_lt h (lt_lenN b))
theorem q_mono {a b : Nat} (h : a ≤ b) (d : Int) : qN a d ≤ qN b d := Nat.div_le_div_right (Nat.mul_le_mul_right _ h)
/-- What is left of a size: its first bit, and the others. -/
theorem left_split (S d : Nat) (h : 0 < d) : S % 2 ^ d = S % 2 ^ (d - 1) + 2 ^ (d - 1) * (S / 2 ^ (d - 1) % 2) := by
  have : (2 : Nat) ^ d = 2 ^ (d - 1) * 2 := by rw [← Nat.pow_succ]; congr 1; omega
  rw [this, Nat.mod_mul]
theorem up_mono {a b : Nat} (h : a ≤ b) (d k : Int) (hq : qN a d = qN b d) : upD a d k false = true → upD b d k false = true := by
  intro hu
  by_cases hd : 0 < d
  · have ha := left_split a d.toNat (by omega)
    have hb := left_split b d.toNat (by omega)
    have hr : a % 2 ^ d.toNat ≤ b % 2 ^ d.toNat := by
      rw [qN_pos (by omega), qN_pos (by omega)] at hq
      have e1 := Nat.mod_add_div a (2 ^ d.toNat)
      have e2 := Nat.mod_add_div b (2 ^ d.toNat)
      rw [hq] at e1
      omega
    have la : a % 2 ^ (d.toNat - 1) < 2 ^ (d.toNat - 1) := Nat.mod_lt _ (Nat.two_pow_pos _)
    have lb : b % 2 ^ (d.toNat - 1) < 2 ^ (d.toNat - 1) := Nat.mod_lt _ (Nat.two_pow_pos _)
    have oa : a / 2 ^ (d.toNat - 1) % 2 = 0 ∨ a / 2 ^ (d.toNat - 1) % 2 = 1 := by omega
    have ob : b / 2 ^ (d.toNat - 1) % 2 = 0 ∨ b / 2 ^ (d.toNat - 1) % 2 = 1 := by omega
    revert hu
    unfold upD upN halfN restN
    rw [hq, decide_eq_true hd]
    simp only [Bool.true_and]
    generalize a % 2 ^ (d.toNat - 1) = a0 at *
    generalize b % 2 ^ (d.toNat - 1) = b0 at *
    generalize (2 : Nat) ^ (d.toNat - 1) = p at *
    split
    · exact id
    split
    · intro hu
      simp only [Bool.not_false, Bool.true_and, Bool.or_eq_true, decide_eq_true_eq] at hu ⊢
      rcases oa with oa | oa <;> rcases ob with ob | ob <;> rw [oa] at ha hu <;> rw [ob] at hb ⊢ <;> omega
    split
    · simp
    split
    · intro hu
      simp only [decide_eq_true_eq] at hu ⊢
      rcases ob with ob | ob
      · rw [hu] at ha; rw [ob] at hb; omega
      · exact ob
    · intro hu
      simp only [Bool.and_eq_true, Bool.or_eq_true, decide_eq_true_eq] at hu ⊢
      obtain ⟨h1, h2⟩ := hu
      rw [h1] at ha
      rcases ob with ob | ob
      · rw [ob] at hb; omega
      · rw [ob] at hb
        refine ⟨ob, ?_⟩
        rcases h2 with h2 | h2
        · left; omega
        · exact .inr h2
  · have : inexN a d = false := by unfold inexN halfN restN; rw [decide_eq_false hd]; rfl
    rw [up_exact this] at hu
    cases hu
theorem raw_mono {a b : Nat} (ha : 0 < a) (h : a ≤ b) (x k : Int) : rawN false a x k ≤ rawN false b x k := by
  have hl := lenN_mono h
  have hn : lowN a x ≤ lowN b x := by unfold lowN topN; omega
  have g1 := low_ge a x
  have g2 := low_ge b x
  have l1 := q_lt ha x
  by_cases he : lowN a x = lowN b x
  · unfold rawN baseN
    rw [he]
    have hq := q_mono h (lowN b x - x)
    by_cases hqe : qN a (lowN b x - x) = qN b (lowN b x - x)
    · rw [hqe]
      have := up_mono h (lowN b x - x) k hqe
      cases hu : upD a (lowN b x - x) k false with
      | false => simp only [Bool.toNat_false]; omega
      | true => rw [this hu]; exact Nat.le_refl _
    · have := Bool.toNat_le (upD a (lowN b x - x) k false)
      omega
  · have l2 := q_ge (S := b) (by omega) x (by omega)
    unfold rawN baseN
    have := Bool.toNat_le (upD a (lowN a x - x) k false)
    omega
theorem size_mono {a b : Nat} (h : a ≤ b) (x k : Int) : sizeP false a x k ≤ sizeP false b x k := by
  unfold sizeP
  by_cases ha : a = 0
  · rw [if_pos ha]; exact Nat.zero_le _
  · rw [if_neg ha, if_neg (show ¬ b = 0 by omega)]
    have hr := raw_mono (by omega) h x k
    have ho : infN - 1 ≤ overN k false := by unfold overN; split <;> omega
    generalize overN k false = o at *
    generalize rawN false a x k = p at *
    generalize rawN false b x k = q at *
    generalize infN = I at *
    by_cases h1 : p ≥ I
    · rw [if_pos h1, if_pos (Nat.le_trans h1 hr)]
      exact Nat.le_refl _
    · rw [if_neg h1]
      by_cases h2 : q ≥ I
      · rw [if_pos h2]; omega
      · rw [if_neg h2]; exact hr
end
end Go.Proofs.YtbakldcbaikgpaaGreatDoor
/- Rounding, on numbers: what is far away. Plain Lean. Own work. -/
namespace Go.Proofs.YtbakldcbaikgpaaGreatDoor
set_option maxRecDepth 100000
noncomputable section
theorem far_hi {S : Nat} (h : 0 < S) {x : Int} (ht : topN S x ≥ 1025) (k : Int) (m : Bool) : sizeP m S x k = overN k m ∧ rndF m S x k = 20 := by
  have hl : lowN S x = topN S x - 53 := by unfold lowN; omega
  have hq := q_ge h x (by omega)
  have hr : rawN m S x k ≥ infN := by
    unfold rawN baseN infN
    omega
  have h0 : ¬ S = 0 := by omega
  unfold sizeP rndF
  generalize rawN m S x k = p at *
  rw [if_neg h0, if_neg h0, if_pos hr, if_pos hr]
  exact ⟨rfl, rfl⟩
theorem low_far {S : Nat} {x : Int} (ht : topN S x ≤ -1075) : lowN S x = -1074 := by unfold lowN; omega
theorem far_lo_q {S : Nat} (h : 0 < S) {x : Int} {n : Int} (ht : topN S x < n) : qN S (n - x) = 0 ∧ halfN S (n - x) = false ∧ restN S (n - x) = true := by
  unfold topN at ht
  have hd : 0 < n - x := by omega
  have h1 : S < 2 ^ ((n - x).toNat - 1) := Nat.lt_of_lt_of_le (lt_lenN S) (Nat.pow_le_pow_right (by decide) (by omega))
  have h2 : S < 2 ^ (n - x).toNat := Nat.lt_of_lt_of_le h1 (Nat.pow_le_pow_right (by decide) (by omega))
  refine ⟨?_, ?_, ?_⟩
  · rw [qN_pos (by omega), Nat.div_eq_of_lt h2]
  · unfold halfN
    rw [Nat.div_eq_of_lt h1]
    simp
  · unfold restN
    rw [Nat.mod_eq_of_lt h1, decide_eq_true hd]
    simp only [Bool.true_and, decide_eq_true_eq]
    omega
theorem far_lo {S : Nat} (h : 0 < S) {x : Int} (ht : topN S x ≤ -1075) (k : Int) (m : Bool) : sizeP m S x k = (upN k m false false true).toNat ∧ rndF m S x k = 24 := by
  have hl := low_far ht
  obtain ⟨q, hf, re⟩ := far_lo_q h (x := x) (n := -1074) (by omega)
  have hr : rawN m S x k = (upN k m false false true).toNat := by
    unfold rawN baseN upD
    rw [hl, q, hf, re]
    simp
  have hlt : ¬ rawN m S x k ≥ infN := by
    rw [hr]
    have := Bool.toNat_le (upN k m false false true)
    unfold infN
    omega
  have h0 : ¬ S = 0 := by omega
  have hi : inexN S (lowN S x - x) = true := by
    unfold inexN
    rw [hl, hf, re]
    rfl
  have ht2 : tinyN S x k m = true := by
    unfold tinyN
    rw [if_neg (by omega), if_pos (by omega)]
  unfold sizeP rndF
  rw [hi, ht2, hr] at *
  generalize (upN k m false false true).toNat = p at *
  rw [if_neg h0, if_neg h0, if_neg hlt, if_neg hlt]
  exact ⟨rfl, rfl⟩
def clampI (c x : Int) : Int := min (max x (-c)) c
/-- What is beyond a bound is as good as the bound. -/
theorem rnd_clamp {S : Nat} (h : lenN S ≤ 300) {c : Int} (hc : 2000 ≤ c) (x k : Int) (m r : Bool) : sizeP m S (nE (clampI c x) r) k = sizeP m S (nE x r) k ∧ rndF m S (nE (clampI c x) r) k = rndF m S (nE x r) k := by
  by_cases h0 : S = 0
  · unfold sizeP rndF
    rw [if_pos h0, if_pos h0, if_pos h0, if_pos h0]
    exact ⟨rfl, rfl⟩
  have hp : 0 < S := by omega
  have h1 := lenN_pos hp
  have e : ∀ y : Int, y - 1 ≤ nE y r ∧ nE y r ≤ y := fun y => by unfold nE; split <;> omega
  have e1 := e x
  have e2 := e (clampI c x)
  by_cases a : x > c
  · have : clampI c x = c := by unfold clampI; omega
    rw [this] at e2 ⊢
    obtain ⟨p1, p2⟩ := far_hi hp (x := nE c r) (by unfold topN; omega) k m
    obtain ⟨p3, p4⟩ := far_hi hp (x := nE x r) (by unfold topN; omega) k m
    rw [p1, p2, p3, p4]
    exact ⟨rfl, rfl⟩
  · by_cases b : x < -c
    · have : clampI c x = -c := by unfold clampI; omega
      rw [this] at e2 ⊢
      obtain ⟨p1, p2⟩ := far_lo hp (x := nE (-c) r) (by unfold topN; omega) k m
      obtain ⟨p3, p4⟩ := far_lo hp (x := nE x r) (by unfold topN; omega) k m
      rw [p1, p2, p3, p4]
      exact ⟨rfl, rfl⟩
    · have : clampI c x = x := by unfold clampI; omega
      rw [this]
      exact ⟨rfl, rfl⟩
end
end Go.Proofs.YtbakldcbaikgpaaGreatDoor
