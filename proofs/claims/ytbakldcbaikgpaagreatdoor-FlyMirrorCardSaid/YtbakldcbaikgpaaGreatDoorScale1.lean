/- rnd.Of; scale: none, power, Up, Down. Own work. -/
import Derived.Test.YtbakldcbaikgpaaGreatDoorPat2
namespace Go.Proofs.YtbakldcbaikgpaaGreatDoor
set_option maxRecDepth 100000
noncomputable section

def nanC : Nat := 9221120237041090560

/-! ### none -/
def noFN (p : Nat) : Nat := if clN p = 5 then 1 else 0
def noF (p : Nat) : Nat := stk (noFN p)
def sp_none : List AV → Option (Bool × AV)
  | [.int .u64 p] => some (inU p, .tup [.int .u64 9221120237041090560, .int .u8 ((noF p.toNat : Nat) : Int)])
  | _ => none
/-! ### power -/
def powN (p : Nat) : Int := exN p + lenN (sigN p) - 1
def powI (p : Nat) : Int := stk (powN p)
def sp_power : List AV → Option (Bool × AV)
  | [.int .u64 p] => some (inU p, .int .i64 (powI p.toNat))
  | _ => none
def orcPower : List (FuncId × Ent) := [(112, entS false sp_take), (114, entS false sp_wOf), (107, entS false sp_wLen)]
theorem sig_lt (p : Nat) : sigN p < 9007199254740992 := by
  have : pF p < 4503599627370496 := Nat.mod_lt _ (by decide)
  unfold sigN
  split
  · omega
  · split <;> omega
theorem ex_range (p : Nat) : -1074 ≤ exN p ∧ exN p ≤ 971 := by
  have : pE p < 2048 := Nat.mod_lt _ (by decide)
  unfold exN
  split
  · omega
  · split <;> omega
theorem len_sig (p : Nat) : lenN (sigN p) ≤ 53 := lenN_le.2 (sig_lt p)
theorem valW_sig (p : Nat) : valW (toW (sigN p)) = sigN p := by
  have := sig_lt p
  rw [valW_toW]
  exact Nat.mod_eq_of_lt (by omega)
theorem inU_sig (p : Nat) : inU ((sigN p : Nat) : Int) = true := by
  have := sig_lt p
  exact inU_iff.2 (by omega)

/-! ### Of -/
def sp_rOf : List AV → Option Br
  | [.int .u64 p] => some (.chk (inU p) (.br (finB p.toNat) (.leaf (.tup [.st [.bool (tM p.toNat), .int .i64 (tX p.toNat), .ints 4 .u64 (toW (tS p.toNat)), .bool false], .nili]))
      (.leaf (.tup [.st [.bool false, .int .i64 0, .ints 4 .u64 [0, 0, 0, 0], .bool false], .iface 59 (.int .i64 1)]))))
  | _ => none
def orcOf : List (FuncId × Ent) := [(112, entS false sp_take), (69, entS false sp_fin), (114, entS false sp_wOf)]
theorem run_rOf (p : Int) : callA (env Tryz.f73.ntmps orcOf []) (bodyC Tryz.f73) Tryz.f73.results.toList (slots 0 [.int .u64 p]) some =
    chk (inU p) (chk (inU p) (bif !(finB p.toNat) then some (.tup [.st [.bool false, .int .i64 0, .ints 4 .u64 [0, 0, 0, 0], .bool false], .iface 59 (.int .i64 1)]) else
      chk (inU ((tS p.toNat : Nat) : Int)) (some (.tup [.st [.bool (tM p.toNat), .int .i64 (tX p.toNat), .ints 4 .u64 (toW ((tS p.toNat : Nat) : Int).toNat), .bool false], .nili])))) := by kernel_rfl
theorem ok_rOf : EntOk Tryz.prog 73 (entB false sp_rOf) := by
  refine contractB (orc := orcOf) (lo := []) Tryz.func73 (orc_cons ok_take (orc_cons ok_fin (orc_cons ok_wOf orc_nil))) (by kernel_rfl) (by kernel_rfl) (by kernel_rfl) (loops_none (by kernel_rfl)) fun args t h => ?_
  unfold sp_rOf at h
  split at h
  · rename_i p
    simp only [Option.some.injEq] at h
    subst h
    refine ⟨by kernel_rfl, .inr rfl, fun r hr => (run_rOf p).trans ?_⟩
    have hs : inU ((tS p.toNat : Nat) : Int) = true := by unfold tS; rw [stk_eq]; exact inU_sig _
    simp only [Br.run] at hr
    rw [hs, Int.toNat_natCast]
    cases hp : inU p with
    | false => rw [hp] at hr; cases hr
    | true =>
      rw [hp] at hr
      cases hf : finB p.toNat with
      | true => rw [hf] at hr; exact hr
      | false => rw [hf] at hr; exact hr
  · cases h

/-! ### Up, Down -/
def upPN (p : Nat) : Nat := if infN < absN p then nanC else if p = infN then p else if absN p = 0 then 1 else if 9223372036854775808 ≤ p then p - 1 else p + 1
def upFN (p : Nat) : Nat := if infN < absN p then noFN p else 0
def dnPN (p : Nat) : Nat := if infN < absN p then nanC else negN (upPN (negN p))
def upP (p : Nat) : Nat := stk (upPN p)
def upF (p : Nat) : Nat := stk (upFN p)
def dnP (p : Nat) : Nat := stk (dnPN p)
def sp_up9 : List AV → Option (Bool × AV)
  | [.int .u64 p] => some (inU p, .tup [.int .u64 ((upP p.toNat : Nat) : Int), .int .u8 ((upF p.toNat : Nat) : Int)])
  | _ => none
def sp_dn9 : List AV → Option (Bool × AV)
  | [.int .u64 p] => some (inU p, .tup [.int .u64 ((dnP p.toNat : Nat) : Int), .int .u8 ((upF p.toNat : Nat) : Int)])
  | _ => none
theorem up_lt {p : Nat} (h : p < 18446744073709551616) : upPN p < 18446744073709551616 := by
  unfold upPN
  split
  · decide
  split
  · exact h
  split
  · decide
  split
  · omega
  · omega

theorem neg_lt (p : Nat) : negN p < 18446744073709551616 := Nat.mod_lt _ (by decide)
theorem neg_abs (p : Nat) : absN (negN p) = absN p := by unfold absN negN; omega
theorem neg_neg {p : Nat} (h : p < 18446744073709551616) : negN (negN p) = p := by unfold negN; omega

end
end Go.Proofs.YtbakldcbaikgpaaGreatDoor
