/- pat: signs. Own work. -/
import Derived.Test.YtbakldcbaikgpaaGreatDoorWideA
namespace Go.Proofs.YtbakldcbaikgpaaGreatDoor
set_option maxRecDepth 100000
noncomputable section

def andNotI (k : IntKind) (x y : Int) : Int := k.wrap ((BitVec.ofInt k.bits x &&& ~~~ BitVec.ofInt k.bits y).toNat : Int)
def xorI (k : IntKind) (x y : Int) : Int := k.wrap ((BitVec.ofInt k.bits x ^^^ BitVec.ofInt k.bits y).toNat : Int)

/-- A pattern's size, and its sign's bit. -/
def absN (p : Nat) : Nat := p % 9223372036854775808
def sgnN (p : Nat) : Nat := p / 9223372036854775808 % 2 * 9223372036854775808

theorem ofInt_nat (m : Nat) (h : m < 18446744073709551616) : (BitVec.ofInt 64 (m : Int)).toNat = m := by
  rw [BitVec.toNat_ofInt]
  omega

theorem run_pAbs (p : Int) : callA (env Tryz.f102.ntmps [] []) (bodyC Tryz.f102) Tryz.f102.results.toList (slots 0 [.int .u64 p]) some = some (.int .u64 (andNotI .u64 p 9223372036854775808)) := by kernel_rfl
theorem run_pNeg (p : Int) : callA (env Tryz.f46.ntmps [] []) (bodyC Tryz.f46) Tryz.f46.results.toList (slots 0 [.int .u64 p]) some = some (.int .u64 (xorI .u64 p 9223372036854775808)) := by kernel_rfl

theorem andNot63 (m : Nat) (h : m < 18446744073709551616) : andNotI .u64 (m : Int) 9223372036854775808 = ((absN m : Nat) : Int) := by
  unfold andNotI absN
  rw [IntKind.wrap_u64]
  have h1 : (BitVec.ofInt IntKind.u64.bits (m : Int) &&& ~~~ BitVec.ofInt IntKind.u64.bits 9223372036854775808).toNat = m % 9223372036854775808 := by
    rw [BitVec.toNat_and, BitVec.toNat_not]
    simp only [IntKind.bits]
    rw [ofInt_nat m h]
    have e : 2 ^ 64 - 1 - (BitVec.ofInt 64 9223372036854775808).toNat = 9223372036854775807 := by decide
    rw [e]
    exact nat_mask63 m
  rw [h1]
  omega

theorem xor63N (m : Nat) (h : m < 2 ^ 64) : m ^^^ 2 ^ 63 = (2 ^ 63 + m) % 2 ^ 64 := by
  apply Nat.eq_of_testBit_eq
  intro j
  rw [Nat.testBit_xor, Nat.testBit_two_pow, Nat.testBit_mod_two_pow]
  by_cases h1 : j = 63
  · subst h1
    rw [Nat.testBit_two_pow_add_eq]
    simp
  · by_cases h2 : j < 63
    · rw [Nat.testBit_two_pow_add_gt h2]
      have : decide (63 = j) = false := decide_eq_false (by omega)
      have h3 : decide (j < 64) = true := decide_eq_true (by omega)
      rw [this, h3]
      simp
    · have : decide (63 = j) = false := decide_eq_false (by omega)
      have h3 : decide (j < 64) = false := decide_eq_false (by omega)
      rw [this, h3, Nat.testBit_lt_two_pow (Nat.lt_of_lt_of_le h (Nat.pow_le_pow_right (by decide) (by omega)))]
      rfl

theorem xor63 (m : Nat) (h : m < 18446744073709551616) : xorI .u64 (m : Int) 9223372036854775808 = (((m + 9223372036854775808) % 18446744073709551616 : Nat) : Int) := by
  unfold xorI
  rw [IntKind.wrap_u64]
  have h1 : (BitVec.ofInt IntKind.u64.bits (m : Int) ^^^ BitVec.ofInt IntKind.u64.bits 9223372036854775808).toNat = (m + 9223372036854775808) % 18446744073709551616 := by
    rw [BitVec.toNat_xor]
    simp only [IntKind.bits]
    rw [ofInt_nat m h]
    have e : (BitVec.ofInt 64 9223372036854775808).toNat = 2 ^ 63 := by decide
    rw [e, xor63N m h, Nat.add_comm]
  rw [h1]
  omega

def negN (p : Nat) : Nat := (p + 9223372036854775808) % 18446744073709551616
/-- The size of the one, the sign of the other. -/
def copyN (p q : Nat) : Nat := absN p + sgnN q

def sp_pAbs : List AV → Option (Bool × AV)
  | [.int .u64 p] => some (inU p, .int .u64 ((absN p.toNat : Nat) : Int))
  | _ => none
def sp_pNeg : List AV → Option (Bool × AV)
  | [.int .u64 p] => some (inU p, .int .u64 ((negN p.toNat : Nat) : Int))
  | _ => none
def sp_pCopy : List AV → Option (Bool × AV)
  | [.int .u64 p, .int .u64 q] => some (inU p && inU q, .int .u64 ((copyN p.toNat q.toNat : Nat) : Int))
  | _ => none

theorem nat_of {x : Int} (h : inU x = true) : ∃ m : Nat, x = m ∧ m < 18446744073709551616 := by
  rw [inU_iff] at h
  exact ⟨x.toNat, (Int.toNat_of_nonneg h.1).symm, by omega⟩

theorem ok_pAbs : EntOk Tryz.prog 102 (entS false sp_pAbs) := by
  refine contractS (orc := []) (lo := []) Tryz.func102 orc_nil (by kernel_rfl) (by kernel_rfl) (by kernel_rfl) (loops_none (by kernel_rfl)) fun args r h => ?_
  unfold sp_pAbs at h
  split at h
  · rename_i p
    simp only [Option.some.injEq, Prod.mk.injEq] at h
    obtain ⟨hp, rfl⟩ := h
    obtain ⟨m, rfl, hm⟩ := nat_of hp
    exact ⟨by kernel_rfl, .inr rfl, (run_pAbs m).trans (by rw [andNot63 m hm]; rfl)⟩
  · cases h

theorem ok_pNeg : EntOk Tryz.prog 46 (entS false sp_pNeg) := by
  refine contractS (orc := []) (lo := []) Tryz.func46 orc_nil (by kernel_rfl) (by kernel_rfl) (by kernel_rfl) (loops_none (by kernel_rfl)) fun args r h => ?_
  unfold sp_pNeg at h
  split at h
  · rename_i p
    simp only [Option.some.injEq, Prod.mk.injEq] at h
    obtain ⟨hp, rfl⟩ := h
    obtain ⟨m, rfl, hm⟩ := nat_of hp
    exact ⟨by kernel_rfl, .inr rfl, (run_pNeg m).trans (by rw [xor63 m hm]; rfl)⟩
  · cases h

theorem run_pCopy (p q : Int) : callA (env Tryz.f105.ntmps [(102, entS false sp_pAbs)] []) (bodyC Tryz.f105) Tryz.f105.results.toList (slots 0 [.int .u64 p, .int .u64 q]) some =
    chk (inU p) (some (.int .u64 (orI .u64 ((absN p.toNat : Nat) : Int) (andI .u64 q 9223372036854775808)))) := by kernel_rfl

theorem and63 (m : Nat) (h : m < 18446744073709551616) : andI .u64 (m : Int) 9223372036854775808 = ((sgnN m : Nat) : Int) := by
  unfold andI sgnN
  rw [IntKind.wrap_u64]
  have h1 : (BitVec.ofInt IntKind.u64.bits (m : Int) &&& BitVec.ofInt IntKind.u64.bits 9223372036854775808).toNat = m / 9223372036854775808 % 2 * 9223372036854775808 := by
    rw [BitVec.toNat_and]
    simp only [IntKind.bits]
    rw [ofInt_nat m h]
    have e : (BitVec.ofInt 64 9223372036854775808).toNat = 9223372036854775808 := by decide
    rw [e, nat_bit63]
  rw [h1]
  omega

theorem ok_pCopy : EntOk Tryz.prog 105 (entS false sp_pCopy) := by
  refine contractS (orc := [(102, entS false sp_pAbs)]) (lo := []) Tryz.func105 (orc_cons ok_pAbs orc_nil) (by kernel_rfl) (by kernel_rfl) (by kernel_rfl) (loops_none (by kernel_rfl)) fun args r h => ?_
  unfold sp_pCopy at h
  split at h
  · rename_i p q
    simp only [Option.some.injEq, Prod.mk.injEq, Bool.and_eq_true] at h
    obtain ⟨⟨hp, hq⟩, rfl⟩ := h
    obtain ⟨m, rfl, hm⟩ := nat_of hp
    obtain ⟨n, rfl, hn⟩ := nat_of hq
    refine ⟨by kernel_rfl, .inr rfl, (run_pCopy m n).trans ?_⟩
    rw [hp, and63 n hn, orI_comm, Int.toNat_natCast, Int.toNat_natCast]
    have h1 : n / 9223372036854775808 % 2 * 2 ^ 63 < 18446744073709551616 := by omega
    have h2 : absN m < 2 ^ 63 := Nat.mod_lt _ (by decide)
    have := orI_add (n / 9223372036854775808 % 2) (absN m) 63 h1 h2 (by decide)
    unfold sgnN copyN
    rw [show n / 9223372036854775808 % 2 * 9223372036854775808 = n / 9223372036854775808 % 2 * 2 ^ 63 from rfl, this, Nat.add_comm]
    rfl
  · cases h
end
end Go.Proofs.YtbakldcbaikgpaaGreatDoor
