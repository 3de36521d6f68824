/- wide: bits, shifts. Own work. -/
import Derived.Test.YtdkebceiljdgjaaWide4
namespace Go.Proofs.Ytdkebceiljdgjaa
set_option maxRecDepth 100000
noncomputable section

/-! ### Words, bit by bit -/

theorem andI_one (m : Nat) (h : m < 18446744073709551616) : andI .u64 (m : Int) 1 = ((m % 2 : Nat) : Int) := by
  unfold andI
  rw [IntKind.wrap_u64]
  have h1 : (BitVec.ofInt IntKind.u64.bits (m : Int) &&& BitVec.ofInt IntKind.u64.bits 1).toNat = m % 2 := by
    rw [BitVec.toNat_and]
    simp only [IntKind.bits, BitVec.toNat_ofInt]
    have e1 : ((m : Int) % ((2 ^ 64 : Nat) : Int)).toNat = m := by omega
    have e2 : ((1 : Int) % ((2 ^ 64 : Nat) : Int)).toNat = 1 := by decide
    rw [e1, e2, Nat.and_one_is_mod]
  rw [h1]
  omega

theorem orI_add (x y r : Nat) (hx : x * 2 ^ r < 18446744073709551616) (hy : y < 2 ^ r) (hr : r ≤ 64) : orI .u64 ((x * 2 ^ r : Nat) : Int) (y : Int) = ((x * 2 ^ r + y : Nat) : Int) := by
  unfold orI
  rw [IntKind.wrap_u64]
  have hp : 2 ^ r ≤ 2 ^ 64 := Nat.pow_le_pow_right (by decide) hr
  have hs : x * 2 ^ r + y < 18446744073709551616 := by
    have h1 : x * 2 ^ r + 2 ^ r ≤ 2 ^ 64 := by
      have h2 : x < 2 ^ (64 - r) := by
        rw [← Nat.mul_lt_mul_right (Nat.two_pow_pos r), ← Nat.pow_add, show 64 - r + r = 64 by omega]
        exact hx
      have h3 : (x + 1) * 2 ^ r ≤ 2 ^ (64 - r) * 2 ^ r := Nat.mul_le_mul_right _ h2
      rw [← Nat.pow_add, show 64 - r + r = 64 by omega, Nat.add_mul, Nat.one_mul] at h3
      exact h3
    omega
  have h1 : (BitVec.ofInt IntKind.u64.bits ((x * 2 ^ r : Nat) : Int) ||| BitVec.ofInt IntKind.u64.bits (y : Int)).toNat = x * 2 ^ r + y := by
    rw [BitVec.toNat_or]
    simp only [IntKind.bits, BitVec.toNat_ofInt]
    have e1 : (((x * 2 ^ r : Nat) : Int) % ((2 ^ 64 : Nat) : Int)).toNat = x * 2 ^ r := by
      generalize x * 2 ^ r = X at *
      omega
    have e2 : ((y : Int) % ((2 ^ 64 : Nat) : Int)).toNat = y := by omega
    rw [e1, e2, ← Nat.shiftLeft_eq, Nat.shiftLeft_add_eq_or_of_lt hy]
  rw [h1]
  generalize x * 2 ^ r + y = X at *
  omega

theorem shlI_nat (m j : Nat) (hj : j ≤ 64) : shlI .u64 (m : Int) (j : Int) = ((m * 2 ^ j % 18446744073709551616 : Nat) : Int) := by
  unfold shlI
  have : min ((j : Int)).toNat IntKind.u64.bits = j := by
    simp only [Int.toNat_natCast, IntKind.bits]
    omega
  rw [this, IntKind.wrap_u64, Int.natCast_emod, Int.natCast_mul, Int.natCast_pow]
  rfl

/-- A word times 2^r: what stays, and what goes over. -/
theorem word_shl (a r : Nat) (hr : r ≤ 64) : a * 2 ^ r % 18446744073709551616 = a % 2 ^ (64 - r) * 2 ^ r ∧ a * 2 ^ r / 18446744073709551616 = a / 2 ^ (64 - r) := by
  have hp : (18446744073709551616 : Nat) = 2 ^ (64 - r) * 2 ^ r := by rw [← Nat.pow_add, show 64 - r + r = 64 by omega]
  rw [hp]
  exact ⟨Nat.mul_mod_mul_right _ _ _, Nat.mul_div_mul_right _ _ (Nat.two_pow_pos r)⟩

/-! ### Bit -/

theorem run_wBit (a : List Int) (n : Int) : callA (env Try.f97.ntmps [] []) (bodyC Try.f97) Try.f97.results.toList (slots 0 [.ints 4 .u64 a, .int .i64 n]) some =
    bif decide (n < 0) then some (.int .u64 0) else bif decide (n ≥ 256) then some (.int .u64 0) else chk (decide (0 ≤ w64 (n.tdiv 64)) && decide (w64 (n.tdiv 64) < 4)) (chk (!decide (n.tmod 64 < 0))
      (some (.int .u64 (andI .u64 (shrI .u64 (a.getD (w64 (n.tdiv 64)).toNat 0) (n.tmod 64)) 1)))) := by kernel_rfl

def bitN (v : Nat) (n : Int) : Nat := if n < 0 then 0 else v / 2 ^ n.toNat % 2

def sp_wBit : List AV → Option (Bool × AV)
  | [.ints 4 .u64 a, .int .i64 n] => some (okW a, .int .u64 (bitN (valW a) n))
  | _ => none

/-- A word of a number. -/
theorem wordAt {a : List Int} (h : okW a = true) (q : Nat) (hq : q < 4) : a.getD q 0 = ((valW a / 2 ^ (64 * q) % 18446744073709551616 : Nat) : Int) := by
  have hw := toW_valW h
  rw [← hw]
  generalize valW a = v
  have e : valW (toW v) = v % 115792089237316195423570985008687907853269984665640564039457584007913129639936 := valW_toW v
  rw [e]
  match q, hq with
  | 0, _ => first | (simp [toW_def]; done) | (simp [toW_def]; omega)
  | 1, _ => first | (simp [toW_def]; done) | (simp [toW_def]; omega)
  | 2, _ => first | (simp [toW_def]; done) | (simp [toW_def]; omega)
  | 3, _ => first | (simp [toW_def]; done) | (simp [toW_def]; omega)

theorem split64 (n : Nat) : ((n : Int).tdiv 64) = ((n / 64 : Nat) : Int) ∧ ((n : Int).tmod 64) = ((n % 64 : Nat) : Int) := by
  rw [Int.tdiv_eq_ediv_of_nonneg (by omega), Int.tmod_eq_emod_of_nonneg (by omega)]
  omega

theorem ok_wBit : EntOk Try.prog 97 (entS false sp_wBit) := by
  refine contractS (orc := []) (lo := []) Try.func97 orc_nil (by kernel_rfl) (by kernel_rfl) (by kernel_rfl) (loops_none (by kernel_rfl)) fun args r h => ?_
  unfold sp_wBit at h
  split at h
  · rename_i a n
    simp only [Option.some.injEq, Prod.mk.injEq] at h
    obtain ⟨ha, rfl⟩ := h
    refine ⟨by kernel_rfl, .inr rfl, (run_wBit a n).trans ?_⟩
    unfold bitN
    by_cases h0 : n < 0
    · rw [decide_eq_true h0, if_pos h0]; rfl
    rw [decide_eq_false h0, cond_false, if_neg h0]
    obtain ⟨m, rfl⟩ : ∃ m : Nat, n = m := ⟨n.toNat, (Int.toNat_of_nonneg (by omega)).symm⟩
    have hlt := valW_lt ha
    by_cases h1 : (m : Int) ≥ 256
    · rw [decide_eq_true h1, cond_true, Int.toNat_natCast]
      have : valW a / 2 ^ m = 0 := Nat.div_eq_of_lt (Nat.lt_of_lt_of_le hlt (by
        have := Nat.pow_le_pow_right (n := 2) (by decide) (show 256 ≤ m by omega)
        exact Nat.le_trans (by decide) this))
      rw [this]
      rfl
    · rw [decide_eq_false h1, cond_false]
      obtain ⟨s1, s2⟩ := split64 m
      rw [s1, s2]
      have hw : w64 ((m / 64 : Nat) : Int) = ((m / 64 : Nat) : Int) := w64_small (by omega) (by omega)
      rw [hw, Int.toNat_natCast, Int.toNat_natCast, wordAt ha (m / 64) (by omega), shrI_nat _ (m % 64) (by omega)]
      have e1 : decide ((0 : Int) ≤ ((m / 64 : Nat) : Int)) = true := by simp; omega
      have e2 : decide (((m / 64 : Nat) : Int) < 4) = true := by simp; omega
      have e3 : (!decide (((m % 64 : Nat) : Int) < 0)) = true := by simp; omega
      rw [e1, e2, e3]
      have hsm : valW a / 2 ^ (64 * (m / 64)) % 18446744073709551616 / 2 ^ (m % 64) < 18446744073709551616 := Nat.lt_of_le_of_lt (Nat.div_le_self _ _) (Nat.mod_lt _ (by decide))
      rw [andI_one _ hsm]
      have e4 : valW a / 2 ^ (64 * (m / 64)) % 18446744073709551616 / 2 ^ (m % 64) % 2 = valW a / 2 ^ m % 2 := by
        have h2 : (18446744073709551616 : Nat) = 2 ^ (m % 64) * 2 ^ (64 - m % 64) := by rw [← Nat.pow_add, show m % 64 + (64 - m % 64) = 64 by omega]
        rw [h2, Nat.mod_mul_right_div_self, Nat.div_div_eq_div_mul, ← Nat.pow_add, show 64 * (m / 64) + m % 64 = m by omega]
        have h3 : (2 : Nat) ^ (64 - m % 64) = 2 * 2 ^ (63 - m % 64) := by rw [show 64 - m % 64 = (63 - m % 64) + 1 by omega, Nat.pow_succ, Nat.mul_comm]
        rw [h3, Nat.mod_mul_right_mod]
      rw [e4]
      rfl
  · cases h
end
end Go.Proofs.Ytdkebceiljdgjaa
