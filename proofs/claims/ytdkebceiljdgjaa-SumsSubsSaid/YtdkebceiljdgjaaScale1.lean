/- rnd.Of; scale: none, power, Up, Down. Own work. -/
import Derived.Test.YtdkebceiljdgjaaPat2
namespace Go.Proofs.Ytdkebceiljdgjaa
set_option maxRecDepth 100000
noncomputable section

def nanC : Nat := 9221120237041090560

/-! ### none -/
def noFN (p : Nat) : Nat := if clN p = 5 then 1 else 0
def noF (p : Nat) : Nat := stk (noFN p)
def sp_none : List AV → Option (Bool × AV)
  | [.int .u64 p] => some (inU p, .tup [.int .u64 9221120237041090560, .int .u8 ((noF p.toNat : Nat) : Int)])
  | _ => none
theorem run_none (p : Int) : callA (env Try.f79.ntmps [(91, entS false sp_class)] []) (bodyC Try.f79) Try.f79.results.toList (slots 0 [.int .u64 p]) some =
    chk (inU p) (bif tC p.toNat == 5 then some (.tup [.int .u64 9221120237041090560, .int .u8 1]) else some (.tup [.int .u64 9221120237041090560, .int .u8 0])) := by kernel_rfl
theorem ok_none : EntOk Try.prog 79 (entS false sp_none) := by
  refine contractS (orc := [(91, entS false sp_class)]) (lo := []) Try.func79 (orc_cons ok_class orc_nil) (by kernel_rfl) (by kernel_rfl) (by kernel_rfl) (loops_none (by kernel_rfl)) fun args r h => ?_
  unfold sp_none at h
  split at h
  · rename_i p
    simp only [Option.some.injEq, Prod.mk.injEq] at h
    obtain ⟨hp, rfl⟩ := h
    refine ⟨by kernel_rfl, .inr rfl, (run_none p).trans ?_⟩
    rw [hp]
    unfold noF noFN tC
    rw [stk_eq, stk_eq]
    by_cases h5 : clN p.toNat = 5
    · rw [h5, if_pos rfl]; rfl
    · rw [beq_eq_false_iff_ne.2 h5, if_neg h5]; rfl
  · cases h

/-! ### power -/
def powN (p : Nat) : Int := exN p + lenN (sigN p) - 1
def powI (p : Nat) : Int := stk (powN p)
def sp_power : List AV → Option (Bool × AV)
  | [.int .u64 p] => some (inU p, .int .i64 (powI p.toNat))
  | _ => none
def orcPower : List (FuncId × Ent) := [(100, entS false sp_take), (68, entS false sp_wOf), (57, entS false sp_wLen)]
theorem run_power (p : Int) : callA (env Try.f84.ntmps orcPower []) (bodyC Try.f84) Try.f84.results.toList (slots 0 [.int .u64 p]) some =
    chk (inU p) (chk (inU ((tS p.toNat : Nat) : Int)) (chk (okW (toW ((tS p.toNat : Nat) : Int).toNat)) (some (.int .i64 (w64 ((w64 ((tX p.toNat) + ((lenN (valW (toW ((tS p.toNat : Nat) : Int).toNat)) : Nat) : Int))) - 1)))))) := by kernel_rfl

theorem sig_lt (p : Nat) : sigN p < 9007199254740992 := by
  have : pF p < 4503599627370496 := Nat.mod_lt _ (by decide)
  unfold sigN
  split
  · omega
  · split <;> omega
theorem ex_range (p : Nat) : -1074 ≤ exN p ∧ exN p ≤ 971 := by
  have : pE p < 2048 := Nat.mod_lt _ (by decide)
  unfold exN
  split
  · omega
  · split <;> omega
theorem len_sig (p : Nat) : lenN (sigN p) ≤ 53 := lenN_le.2 (sig_lt p)
theorem valW_sig (p : Nat) : valW (toW (sigN p)) = sigN p := by
  have := sig_lt p
  rw [valW_toW]
  exact Nat.mod_eq_of_lt (by omega)
theorem inU_sig (p : Nat) : inU ((sigN p : Nat) : Int) = true := by
  have := sig_lt p
  exact inU_iff.2 (by omega)

theorem ok_power : EntOk Try.prog 84 (entS false sp_power) := by
  refine contractS (orc := orcPower) (lo := []) Try.func84 (orc_cons ok_take (orc_cons ok_wOf (orc_cons ok_wLen orc_nil))) (by kernel_rfl) (by kernel_rfl) (by kernel_rfl) (loops_none (by kernel_rfl)) fun args r h => ?_
  unfold sp_power at h
  split at h
  · rename_i p
    simp only [Option.some.injEq, Prod.mk.injEq] at h
    obtain ⟨hp, rfl⟩ := h
    refine ⟨by kernel_rfl, .inr rfl, (run_power p).trans ?_⟩
    have h1 := ex_range p.toNat
    have h2 := len_sig p.toNat
    unfold tS tX powI powN
    simp only [stk_eq]
    rw [hp, inU_sig, Int.toNat_natCast, okW_toW, valW_sig, w64_mid (x := exN p.toNat + _) (by omega) (by omega), w64_mid (by omega) (by omega)]
    rfl
  · cases h

/-! ### Of -/
def sp_rOf : List AV → Option Br
  | [.int .u64 p] => some (.chk (inU p) (.br (finB p.toNat) (.leaf (.tup [.st [.bool (tM p.toNat), .int .i64 (tX p.toNat), .ints 4 .u64 (toW (tS p.toNat)), .bool false], .nili]))
      (.leaf (.tup [.st [.bool false, .int .i64 0, .ints 4 .u64 [0, 0, 0, 0], .bool false], .iface 74 (.int .i64 1)]))))
  | _ => none
def orcOf : List (FuncId × Ent) := [(100, entS false sp_take), (101, entS false sp_fin), (68, entS false sp_wOf)]
theorem run_rOf (p : Int) : callA (env Try.f88.ntmps orcOf []) (bodyC Try.f88) Try.f88.results.toList (slots 0 [.int .u64 p]) some =
    chk (inU p) (chk (inU p) (bif !(finB p.toNat) then some (.tup [.st [.bool false, .int .i64 0, .ints 4 .u64 [0, 0, 0, 0], .bool false], .iface 74 (.int .i64 1)]) else
      chk (inU ((tS p.toNat : Nat) : Int)) (some (.tup [.st [.bool (tM p.toNat), .int .i64 (tX p.toNat), .ints 4 .u64 (toW ((tS p.toNat : Nat) : Int).toNat), .bool false], .nili])))) := by kernel_rfl
theorem ok_rOf : EntOk Try.prog 88 (entB false sp_rOf) := by
  refine contractB (orc := orcOf) (lo := []) Try.func88 (orc_cons ok_take (orc_cons ok_fin (orc_cons ok_wOf orc_nil))) (by kernel_rfl) (by kernel_rfl) (by kernel_rfl) (loops_none (by kernel_rfl)) fun args t h => ?_
  unfold sp_rOf at h
  split at h
  · rename_i p
    simp only [Option.some.injEq] at h
    subst h
    refine ⟨by kernel_rfl, .inr rfl, fun r hr => (run_rOf p).trans ?_⟩
    have hs : inU ((tS p.toNat : Nat) : Int) = true := by unfold tS; rw [stk_eq]; exact inU_sig _
    simp only [Br.run] at hr
    rw [hs, Int.toNat_natCast]
    cases hp : inU p with
    | false => rw [hp] at hr; cases hr
    | true =>
      rw [hp] at hr
      cases hf : finB p.toNat with
      | true => rw [hf] at hr; exact hr
      | false => rw [hf] at hr; exact hr
  · cases h

/-! ### Up, Down -/
def upPN (p : Nat) : Nat := if infN < absN p then nanC else if p = infN then p else if absN p = 0 then 1 else if 9223372036854775808 ≤ p then p - 1 else p + 1
def upFN (p : Nat) : Nat := if infN < absN p then noFN p else 0
def dnPN (p : Nat) : Nat := if infN < absN p then nanC else negN (upPN (negN p))
def upP (p : Nat) : Nat := stk (upPN p)
def upF (p : Nat) : Nat := stk (upFN p)
def dnP (p : Nat) : Nat := stk (dnPN p)
def sp_up9 : List AV → Option (Bool × AV)
  | [.int .u64 p] => some (inU p, .tup [.int .u64 ((upP p.toNat : Nat) : Int), .int .u8 ((upF p.toNat : Nat) : Int)])
  | _ => none
def sp_dn9 : List AV → Option (Bool × AV)
  | [.int .u64 p] => some (inU p, .tup [.int .u64 ((dnP p.toNat : Nat) : Int), .int .u8 ((upF p.toNat : Nat) : Int)])
  | _ => none
def orcUp : List (FuncId × Ent) := [(78, entS false sp_isNaN), (79, entS false sp_none), (80, entS false sp_pAbs)]
theorem run_up9 (p : Int) : callA (env Try.f32.ntmps orcUp []) (bodyC Try.f32) Try.f32.results.toList (slots 0 [.int .u64 p]) some =
    chk (inU p) (bif nanB p.toNat then chk (inU p) (some (.tup [.int .u64 9221120237041090560, .int .u8 ((noF p.toNat : Nat) : Int)])) else bif p == 9218868437227405312 then some (.tup [.int .u64 p, .int .u8 0]) else chk (inU p) (bif ((absN p.toNat : Nat) : Int) == 0 then some (.tup [.int .u64 1, .int .u8 0]) else
      bif (andI .u64 p 9223372036854775808) != 0 then some (.tup [.int .u64 (u64 (p - 1)), .int .u8 0]) else some (.tup [.int .u64 (u64 (p + 1)), .int .u8 0]))) := by kernel_rfl

theorem up_lt {p : Nat} (h : p < 18446744073709551616) : upPN p < 18446744073709551616 := by
  unfold upPN
  split
  · decide
  split
  · exact h
  split
  · decide
  split
  · omega
  · omega

theorem ok_up9 : EntOk Try.prog 32 (entS false sp_up9) := by
  refine contractS (orc := orcUp) (lo := []) Try.func32 (orc_cons ok_isNaN (orc_cons ok_none (orc_cons ok_pAbs orc_nil))) (by kernel_rfl) (by kernel_rfl) (by kernel_rfl) (loops_none (by kernel_rfl)) fun args r h => ?_
  unfold sp_up9 at h
  split at h
  · rename_i p
    simp only [Option.some.injEq, Prod.mk.injEq] at h
    obtain ⟨hp, rfl⟩ := h
    obtain ⟨m, rfl, hm⟩ := nat_of hp
    refine ⟨by kernel_rfl, .inr rfl, (run_up9 m).trans ?_⟩
    rw [hp, Int.toNat_natCast]
    unfold nanB upP upF noF
    simp only [stk_eq]
    unfold upPN upFN
    by_cases h1 : infN < absN m
    · rw [decide_eq_true h1, if_pos h1, if_pos h1]; rfl
    · rw [decide_eq_false h1, if_neg h1, if_neg h1]
      have e0 : ((m : Int) == 9218868437227405312) = decide (m = infN) := by
        unfold infN
        by_cases h : m = 9218868437227405312
        · rw [decide_eq_true h]; exact beq_iff_eq.2 (by omega)
        · rw [decide_eq_false h]; exact beq_eq_false_iff_ne.2 (by omega)
      rw [e0]
      by_cases h2 : m = infN
      · rw [decide_eq_true h2, if_pos h2]; rfl
      · rw [decide_eq_false h2, if_neg h2]
        by_cases h3 : absN m = 0
        · rw [h3]; rfl
        · have e1 : (((absN m : Nat) : Int) == 0) = false := beq_eq_false_iff_ne.2 (by omega)
          rw [e1, if_neg h3, and63 m hm]
          by_cases h4 : 9223372036854775808 ≤ m
          · have e2 : (((sgnN m : Nat) : Int) != 0) = true := by unfold sgnN; rw [show m / 9223372036854775808 % 2 = 1 by omega]; rfl
            have e3 : u64 ((m : Int) - 1) = ((m - 1 : Nat) : Int) := by
              rw [show (m : Int) - 1 = ((m - 1 : Nat) : Int) by omega]
              exact u64_nat (by omega)
            rw [e2, e3, if_pos h4]; rfl
          · have e2 : (((sgnN m : Nat) : Int) != 0) = false := by unfold sgnN; rw [show m / 9223372036854775808 % 2 = 0 by omega]; rfl
            have e3 : u64 ((m : Int) + 1) = ((m + 1 : Nat) : Int) := u64_nat (n := m + 1) (by omega)
            rw [e2, e3, if_neg h4]; rfl
  · cases h

def orcDn : List (FuncId × Ent) := [(78, entS false sp_isNaN), (79, entS false sp_none), (83, entS false sp_pNeg), (32, entS false sp_up9)]
theorem run_dn9 (p : Int) : callA (env Try.f34.ntmps orcDn []) (bodyC Try.f34) Try.f34.results.toList (slots 0 [.int .u64 p]) some =
    chk (inU p) (bif nanB p.toNat then chk (inU p) (some (.tup [.int .u64 9221120237041090560, .int .u8 ((noF p.toNat : Nat) : Int)])) else chk (inU p) (chk (inU ((negN p.toNat : Nat) : Int)) (chk (inU ((upP ((negN p.toNat : Nat) : Int).toNat : Nat) : Int))
      (some (.tup [.int .u64 ((negN ((upP ((negN p.toNat : Nat) : Int).toNat : Nat) : Int).toNat : Nat) : Int), .int .u8 ((upF ((negN p.toNat : Nat) : Int).toNat : Nat) : Int)]))))) := by kernel_rfl

theorem neg_lt (p : Nat) : negN p < 18446744073709551616 := Nat.mod_lt _ (by decide)
theorem neg_abs (p : Nat) : absN (negN p) = absN p := by unfold absN negN; omega
theorem neg_neg {p : Nat} (h : p < 18446744073709551616) : negN (negN p) = p := by unfold negN; omega

theorem ok_dn9 : EntOk Try.prog 34 (entS false sp_dn9) := by
  refine contractS (orc := orcDn) (lo := []) Try.func34 (orc_cons ok_isNaN (orc_cons ok_none (orc_cons ok_pNeg (orc_cons ok_up9 orc_nil)))) (by kernel_rfl) (by kernel_rfl) (by kernel_rfl) (loops_none (by kernel_rfl)) fun args r h => ?_
  unfold sp_dn9 at h
  split at h
  · rename_i p
    simp only [Option.some.injEq, Prod.mk.injEq] at h
    obtain ⟨hp, rfl⟩ := h
    refine ⟨by kernel_rfl, .inr rfl, (run_dn9 p).trans ?_⟩
    rw [hp]
    rw [Int.toNat_natCast, Int.toNat_natCast]
    unfold nanB upP upF noF dnP
    rw [stk_eq, stk_eq, stk_eq, stk_eq, stk_eq, stk_eq]
    have h1 := neg_lt p.toNat
    have h2 := up_lt h1
    rw [inU_iff.2 (show (0 : Int) ≤ ((negN p.toNat : Nat) : Int) ∧ ((negN p.toNat : Nat) : Int) < 18446744073709551616 by omega), inU_iff.2 (show (0 : Int) ≤ ((upPN (negN p.toNat) : Nat) : Int) ∧ ((upPN (negN p.toNat) : Nat) : Int) < 18446744073709551616 by omega)]
    unfold dnPN upFN
    rw [neg_abs]
    by_cases h3 : infN < absN p.toNat
    · simp only [decide_eq_true h3, if_pos h3, chk, cond_true]
      rfl
    · simp only [decide_eq_false h3, if_neg h3, chk, cond_true, cond_false]
  · cases h
end
end Go.Proofs.Ytdkebceiljdgjaa
