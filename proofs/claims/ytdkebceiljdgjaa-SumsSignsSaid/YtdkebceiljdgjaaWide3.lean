/- wide: lengths, bits, comparison. Own work. -/
import Derived.Test.YtdkebceiljdgjaaWide2
namespace Go.Proofs.Ytdkebceiljdgjaa
set_option maxRecDepth 100000
noncomputable section

/-- How many bits a number has. -/
def lenN (v : Nat) : Nat := if v = 0 then 0 else v.log2 + 1

theorem lenN_le {v k : Nat} : lenN v ≤ k ↔ v < 2 ^ k := by
  unfold lenN
  by_cases h : v = 0
  · subst h; simp; exact Nat.two_pow_pos k
  · rw [if_neg h, ← Nat.log2_lt h]
    omega

theorem lenN_div {v n : Nat} : lenN (v / 2 ^ n) = lenN v - n := by
  have key : ∀ k, lenN (v / 2 ^ n) ≤ k ↔ lenN v - n ≤ k := by
    intro k
    rw [lenN_le, Nat.div_lt_iff_lt_mul (Nat.two_pow_pos n), ← Nat.pow_add, ← lenN_le]
    omega
  have h1 := (key (lenN v - n)).2 (Nat.le_refl _)
  have h2 := (key (lenN (v / 2 ^ n))).1 (Nat.le_refl _)
  omega

def shrI (k : IntKind) (x y : Int) : Int := x.fdiv (2 ^ min y.toNat k.bits)
def shlI (k : IntKind) (x y : Int) : Int := k.wrap (x * 2 ^ min y.toNat k.bits)
def andI (k : IntKind) (x y : Int) : Int := k.wrap ((BitVec.ofInt k.bits x &&& BitVec.ofInt k.bits y).toNat : Int)
def orI (k : IntKind) (x y : Int) : Int := k.wrap ((BitVec.ofInt k.bits x ||| BitVec.ofInt k.bits y).toNat : Int)
def w64 (x : Int) : Int := IntKind.i64.wrap x
def u64 (x : Int) : Int := IntKind.u64.wrap x

/-- The table of the library. -/
def lenTab : ByteArray := ByteArray.mk ((List.range 256).map fun i => (lenN i).toUInt8).toArray

theorem run_len64 (x : Int) : callA (env Try.f96.ntmps [] []) (bodyC Try.f96) Try.f96.results.toList (slots 0 [.int .u64 x]) some =
    bif decide (x ≥ 4294967296) then
      (bif decide (shrI .u64 x 32 ≥ 65536) then
        (bif decide (shrI .u64 (shrI .u64 x 32) 16 ≥ 256) then
          chk (decide (0 ≤ IntKind.u8.wrap (shrI .u64 (shrI .u64 (shrI .u64 x 32) 16) 8)) && decide (IntKind.u8.wrap (shrI .u64 (shrI .u64 (shrI .u64 x 32) 16) 8) < lenTab.size)) (some (.int .i64 (w64 (56 + w64 (strAt lenTab (IntKind.u8.wrap (shrI .u64 (shrI .u64 (shrI .u64 x 32) 16) 8)).toNat)))))
        else
          chk (decide (0 ≤ IntKind.u8.wrap (shrI .u64 (shrI .u64 x 32) 16)) && decide (IntKind.u8.wrap (shrI .u64 (shrI .u64 x 32) 16) < lenTab.size)) (some (.int .i64 (w64 (48 + w64 (strAt lenTab (IntKind.u8.wrap (shrI .u64 (shrI .u64 x 32) 16)).toNat))))))
      else
        (bif decide (shrI .u64 x 32 ≥ 256) then
          chk (decide (0 ≤ IntKind.u8.wrap (shrI .u64 (shrI .u64 x 32) 8)) && decide (IntKind.u8.wrap (shrI .u64 (shrI .u64 x 32) 8) < lenTab.size)) (some (.int .i64 (w64 (40 + w64 (strAt lenTab (IntKind.u8.wrap (shrI .u64 (shrI .u64 x 32) 8)).toNat)))))
        else
          chk (decide (0 ≤ IntKind.u8.wrap (shrI .u64 x 32)) && decide (IntKind.u8.wrap (shrI .u64 x 32) < lenTab.size)) (some (.int .i64 (w64 (32 + w64 (strAt lenTab (IntKind.u8.wrap (shrI .u64 x 32)).toNat)))))))
    else
      (bif decide (x ≥ 65536) then
        (bif decide (shrI .u64 x 16 ≥ 256) then
          chk (decide (0 ≤ IntKind.u8.wrap (shrI .u64 (shrI .u64 x 16) 8)) && decide (IntKind.u8.wrap (shrI .u64 (shrI .u64 x 16) 8) < lenTab.size)) (some (.int .i64 (w64 (24 + w64 (strAt lenTab (IntKind.u8.wrap (shrI .u64 (shrI .u64 x 16) 8)).toNat)))))
        else
          chk (decide (0 ≤ IntKind.u8.wrap (shrI .u64 x 16)) && decide (IntKind.u8.wrap (shrI .u64 x 16) < lenTab.size)) (some (.int .i64 (w64 (16 + w64 (strAt lenTab (IntKind.u8.wrap (shrI .u64 x 16)).toNat))))))
      else
        (bif decide (x ≥ 256) then
          chk (decide (0 ≤ IntKind.u8.wrap (shrI .u64 x 8)) && decide (IntKind.u8.wrap (shrI .u64 x 8) < lenTab.size)) (some (.int .i64 (w64 (8 + w64 (strAt lenTab (IntKind.u8.wrap (shrI .u64 x 8)).toNat)))))
        else
          chk (decide (0 ≤ IntKind.u8.wrap x) && decide (IntKind.u8.wrap x < lenTab.size)) (some (.int .i64 (w64 (0 + w64 (strAt lenTab (IntKind.u8.wrap x).toNat))))))) := by kernel_rfl

theorem shrI_nat (m : Nat) (j : Nat) (hj : j ≤ 64) : shrI .u64 (m : Int) (j : Int) = ((m / 2 ^ j : Nat) : Int) := by
  unfold shrI
  rw [Int.fdiv_eq_ediv_of_nonneg _ (Int.le_of_lt (Int.pow_pos (by decide)))]
  have : min ((j : Int)).toNat IntKind.u64.bits = j := by
    simp only [Int.toNat_natCast, IntKind.bits]
    omega
  rw [this]
  norm_cast

theorem tab_all : ((List.range 256).all fun i => decide (strAt lenTab i = (lenN i : Int))) = true := by decide +kernel

theorem tab_at (i : Nat) (h : i < 256) : strAt lenTab i = (lenN i : Int) := by
  have := tab_all
  rw [List.all_eq_true] at this
  simpa using this i (by simpa using h)

theorem tab_size : lenTab.size = 256 := by kernel_rfl

/-- A last step through the table. -/
theorem last8 (m : Nat) (h : m < 256) (k : Nat) (hk : k ≤ 56) :
    chk (decide (0 ≤ IntKind.u8.wrap (m : Int)) && decide (IntKind.u8.wrap (m : Int) < lenTab.size)) (some (.int .i64 (w64 ((k : Int) + w64 (strAt lenTab (IntKind.u8.wrap (m : Int)).toNat))))) = some (AV.int .i64 ((k + lenN m : Nat) : Int)) := by
  have hw : IntKind.u8.wrap (m : Int) = m := by rw [IntKind.wrap_u8]; omega
  have hl : lenN m ≤ 8 := lenN_le.2 (by omega)
  rw [hw, tab_size, Int.toNat_natCast, tab_at m h]
  have e1 : decide ((0 : Int) ≤ (m : Int)) = true := by simp
  have e2 : decide ((m : Int) < ((256 : Nat) : Int)) = true := by simp; omega
  have e3 : w64 (lenN m : Int) = lenN m := by unfold w64; rw [IntKind.wrap_i64]; omega
  have e4 : w64 ((k : Int) + (lenN m : Int)) = ((k + lenN m : Nat) : Int) := by unfold w64; rw [IntKind.wrap_i64]; omega
  rw [e1, e2, e3, e4]
  rfl

theorem lenN_add {m k : Nat} (h : 2 ^ k ≤ m) : k + lenN (m / 2 ^ k) = lenN m := by
  rw [lenN_div]
  have : ¬ lenN m ≤ k := fun e => by have := lenN_le.1 e; omega
  omega

def sp_len64 : List AV → Option (Bool × AV)
  | [.int .u64 x] => some (inU x, .int .i64 (lenN x.toNat))
  | _ => none

theorem ok_len64 : EntOk Try.prog 96 (entS false sp_len64) := by
  refine contractS (orc := []) (lo := []) Try.func96 orc_nil (by kernel_rfl) (by kernel_rfl) (by kernel_rfl) (loops_none (by kernel_rfl)) fun args r h => ?_
  unfold sp_len64 at h
  split at h
  · rename_i x
    simp only [Option.some.injEq, Prod.mk.injEq, inU_iff] at h
    obtain ⟨⟨h0, h1⟩, rfl⟩ := h
    refine ⟨by kernel_rfl, .inr rfl, (run_len64 x).trans ?_⟩
    obtain ⟨m, rfl⟩ : ∃ m : Nat, x = m := ⟨x.toNat, (Int.toNat_of_nonneg h0).symm⟩
    simp only [Int.toNat_natCast]
    have s32 : ∀ m : Nat, shrI .u64 (m : Int) 32 = ((m / 2 ^ 32 : Nat) : Int) := fun m => shrI_nat m 32 (by decide)
    have s16 : ∀ m : Nat, shrI .u64 (m : Int) 16 = ((m / 2 ^ 16 : Nat) : Int) := fun m => shrI_nat m 16 (by decide)
    have s8 : ∀ m : Nat, shrI .u64 (m : Int) 8 = ((m / 2 ^ 8 : Nat) : Int) := fun m => shrI_nat m 8 (by decide)
    simp only [s32, s16, s8]
    have hm : m < 18446744073709551616 := by omega
    by_cases c1 : (m : Int) ≥ 4294967296
    · rw [decide_eq_true c1, cond_true]
      have g1 := lenN_add (m := m) (k := 32) (by omega)
      by_cases c2 : ((m / 2 ^ 32 : Nat) : Int) ≥ 65536
      · rw [decide_eq_true c2, cond_true]
        have g2 := lenN_add (m := m / 2 ^ 32) (k := 16) (by omega)
        by_cases c3 : ((m / 2 ^ 32 / 2 ^ 16 : Nat) : Int) ≥ 256
        · rw [decide_eq_true c3, cond_true]
          have g3 := lenN_add (m := m / 2 ^ 32 / 2 ^ 16) (k := 8) (by omega)
          refine (last8 (m / 2 ^ 32 / 2 ^ 16 / 2 ^ 8) (by omega) 56 (by decide)).trans ?_
          congr 3
          omega
        · rw [decide_eq_false c3, cond_false]
          refine (last8 (m / 2 ^ 32 / 2 ^ 16) (by omega) 48 (by decide)).trans ?_
          congr 3
          omega
      · rw [decide_eq_false c2, cond_false]
        by_cases c3 : ((m / 2 ^ 32 : Nat) : Int) ≥ 256
        · rw [decide_eq_true c3, cond_true]
          have g3 := lenN_add (m := m / 2 ^ 32) (k := 8) (by omega)
          refine (last8 (m / 2 ^ 32 / 2 ^ 8) (by omega) 40 (by decide)).trans ?_
          congr 3
          omega
        · rw [decide_eq_false c3, cond_false]
          refine (last8 (m / 2 ^ 32) (by omega) 32 (by decide)).trans ?_
          congr 3
    · rw [decide_eq_false c1, cond_false]
      by_cases c2 : (m : Int) ≥ 65536
      · rw [decide_eq_true c2, cond_true]
        have g2 := lenN_add (m := m) (k := 16) (by omega)
        by_cases c3 : ((m / 2 ^ 16 : Nat) : Int) ≥ 256
        · rw [decide_eq_true c3, cond_true]
          have g3 := lenN_add (m := m / 2 ^ 16) (k := 8) (by omega)
          refine (last8 (m / 2 ^ 16 / 2 ^ 8) (by omega) 24 (by decide)).trans ?_
          congr 3
          omega
        · rw [decide_eq_false c3, cond_false]
          refine (last8 (m / 2 ^ 16) (by omega) 16 (by decide)).trans ?_
          congr 3
      · rw [decide_eq_false c2, cond_false]
        by_cases c3 : (m : Int) ≥ 256
        · rw [decide_eq_true c3, cond_true]
          have g3 := lenN_add (m := m) (k := 8) (by omega)
          refine (last8 (m / 2 ^ 8) (by omega) 8 (by decide)).trans ?_
          congr 3
        · rw [decide_eq_false c3, cond_false]
          refine (last8 m (by omega) 0 (by decide)).trans ?_
          congr 3
          omega
  · cases h
end
end Go.Proofs.Ytdkebceiljdgjaa
