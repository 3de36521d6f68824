/- scale: Log, Step, Scale; tillerlaw09.sure; ScaleNexts. Own work. -/
import Derived.Test.YtbakldcbaikgpaaGreatDoorRef1
namespace Go.Proofs.YtbakldcbaikgpaaGreatDoor
set_option maxRecDepth 100000
noncomputable section

/-! ### Log -/
def lgPN (p : Nat) : Nat := if infN < absN p then nanC else if absN p = infN then infN else if absN p = 0 then 18442240474082181120 else rndP (decide (powN p < 0)) (powN p).natAbs 0 0
def lgFN (p : Nat) : Nat := if infN < absN p then noFN p else if absN p = infN then 0 else if absN p = 0 then 2 else rndF (decide (powN p < 0)) (powN p).natAbs 0 0
def lgP (p : Nat) : Nat := stk (lgPN p)
def lgF (p : Nat) : Nat := stk (lgFN p)
def sp_log : List AV → Option (Bool × AV)
  | [.int .u64 p] => some (inU p, .tup [.int .u64 ((lgP p.toNat : Nat) : Int), .int .u8 ((lgF p.toNat : Nat) : Int)])
  | _ => none

def lgZ (n : Int) (v : Int) : Option AV := chk (inU v) (chk (okW (toW v.toNat)) (some (.tup [.int .u64 ((pR (decide (n < 0)) (toW v.toNat) 0 false 0 : Nat) : Int), .int .u8 ((fR (decide (n < 0)) (toW v.toNat) 0 false 0 : Nat) : Int)])))

theorem pow_range (p : Nat) : -1075 ≤ powN p ∧ powN p ≤ 1030 := by
  have h1 := ex_range p
  have h2 := len_sig p
  unfold powN
  omega

theorem lgZ_at (p : Nat) : lgZ (powN p) (u64 (if (w64 (0 - (powN p))) > (powN p) then (w64 (0 - (powN p))) else (powN p))) = some (.tup [.int .u64 ((rndP (decide (powN p < 0)) (powN p).natAbs 0 0 : Nat) : Int), .int .u8 ((rndF (decide (powN p < 0)) (powN p).natAbs 0 0 : Nat) : Int)]) := by
  have h := pow_range p
  have e1 : (if (w64 (0 - (powN p))) > (powN p) then (w64 (0 - (powN p))) else (powN p)) = ((powN p).natAbs : Int) := by
    rw [w64_mid (by omega) (by omega)]
    omega
  rw [e1, u64_nat (by omega)]
  generalize powN p = n at *
  unfold lgZ pR fR
  have e2 : valW (toW n.natAbs) = n.natAbs := by rw [valW_toW]; exact Nat.mod_eq_of_lt (by omega)
  have e3 : ∀ S, nS S false = S := fun _ => rfl
  have e4 : nE 0 false = 0 := rfl
  rw [inU_iff.2 (by omega), Int.toNat_natCast, okW_toW, stk_eq, stk_eq, e2, e3, e4]
  rfl

theorem eqZ (m k : Nat) : ((m : Int) == ((k : Nat) : Int)) = decide (m = k) := eqN m k

/-! ### Step -/
def stPN (p : Nat) : Nat := if infN < absN p then nanC else if absN p = infN then infN else if absN p = 0 then 1 else rndP false 1 (max (powN (absN p) - 52) (-1074)) 0
def stFN (p : Nat) : Nat := if infN < absN p then noFN (absN p) else if absN p = infN then 0 else if absN p = 0 then 0 else rndF false 1 (max (powN (absN p) - 52) (-1074)) 0
def stP (p : Nat) : Nat := stk (stPN p)
def stF (p : Nat) : Nat := stk (stFN p)
def sp_step : List AV → Option (Bool × AV)
  | [.int .u64 p] => some (inU p, .tup [.int .u64 ((stP p.toNat : Nat) : Int), .int .u8 ((stF p.toNat : Nat) : Int)])
  | _ => none
def stZ (n : Int) : Option AV := chk (inU 1) (chk (okW (toW (1 : Int).toNat)) (some (.tup [.int .u64 ((pR false (toW (1 : Int).toNat) (if (-1074) > (w64 (n - 52)) then (-1074) else (w64 (n - 52))) false 0 : Nat) : Int), .int .u8 ((fR false (toW (1 : Int).toNat) (if (-1074) > (w64 (n - 52)) then (-1074) else (w64 (n - 52))) false 0 : Nat) : Int)])))
def stY (a : Int) : Option AV := chk (inU a) (bif nanB a.toNat then chk (inU a) (some (.tup [.int .u64 9221120237041090560, .int .u8 ((noF a.toNat : Nat) : Int)])) else bif a == 9218868437227405312 then some (.tup [.int .u64 a, .int .u8 0]) else bif a == 0 then some (.tup [.int .u64 1, .int .u8 0]) else chk (inU a) (stZ (powI a.toNat)))

theorem stZ_at (n : Int) (h : -2000 ≤ n ∧ n ≤ 2000) : stZ n = some (.tup [.int .u64 ((rndP false 1 (max (n - 52) (-1074)) 0 : Nat) : Int), .int .u8 ((rndF false 1 (max (n - 52) (-1074)) 0 : Nat) : Int)]) := by
  have e1 : (if (-1074) > (w64 (n - 52)) then (-1074) else (w64 (n - 52))) = max (n - 52) (-1074) := by
    rw [w64_mid (by omega) (by omega)]
    omega
  unfold stZ pR fR
  rw [e1, valW_toW, inU_one, okW_toW, stk_eq, stk_eq]
  rfl

theorem abs_lt (p : Nat) : absN p < 9223372036854775808 := Nat.mod_lt _ (by decide)
theorem abs_abs (p : Nat) : absN (absN p) = absN p := Nat.mod_mod _ _

/-! ### Scale -/
def scPN (p : Nat) (n k : Int) : Nat := if infN < absN p then nanC else if absN p = infN ∨ absN p = 0 then p else rndP (decide (9223372036854775808 ≤ p)) (sigN p) (exN p + clampI 8192 n) k
def scFN (p : Nat) (n k : Int) : Nat := if infN < absN p then noFN p else if absN p = infN ∨ absN p = 0 then 0 else rndF (decide (9223372036854775808 ≤ p)) (sigN p) (exN p + clampI 8192 n) k
def scP (p : Nat) (n k : Int) : Nat := stk (scPN p n k)
def scF (p : Nat) (n k : Int) : Nat := stk (scFN p n k)
def sp_scale : List AV → Option (Bool × AV)
  | [.int .u64 p, .int .i64 n, .int .i64 k] => some (inU p, .tup [.int .u64 ((scP p.toNat n k : Nat) : Int), .int .u8 ((scF p.toNat n k : Nat) : Int)])
  | _ => none
def scZ (p : Int) (x k : Int) : Option AV := chk (okW (toW (tS p.toNat))) (some (.tup [.int .u64 ((pR (tM p.toNat) (toW (tS p.toNat)) x false k : Nat) : Int), .int .u8 ((fR (tM p.toNat) (toW (tS p.toNat)) x false k : Nat) : Int)]))
theorem scZ_at (p : Int) (n k : Int) : scZ p (w64 ((tX p.toNat) + (if 8192 < (if (-8192) > n then (-8192) else n) then 8192 else (if (-8192) > n then (-8192) else n)))) k =
    some (.tup [.int .u64 ((rndP (decide (9223372036854775808 ≤ p.toNat)) (sigN p.toNat) (exN p.toNat + clampI 8192 n) k : Nat) : Int), .int .u8 ((rndF (decide (9223372036854775808 ≤ p.toNat)) (sigN p.toNat) (exN p.toNat + clampI 8192 n) k : Nat) : Int)]) := by
  have e1 : (if 8192 < (if (-8192) > n then (-8192) else n) then 8192 else (if (-8192) > n then (-8192) else n)) = clampI 8192 n := by unfold clampI; split <;> split at * <;> omega
  have hc : -8192 ≤ clampI 8192 n ∧ clampI 8192 n ≤ 8192 := by unfold clampI; omega
  have hx := ex_range p.toNat
  have e3 : ∀ S, nS S false = S := fun _ => rfl
  have e4 : ∀ S, nE S false = S := fun _ => rfl
  unfold scZ pR fR tM tX tS
  rw [stk_eq, stk_eq, stk_eq, stk_eq, stk_eq, e1, w64_mid (by omega) (by omega), valW_sig, okW_toW, e3, e4]
  rfl

/-! ### sure -/
def s9T (p f q g : Nat) : Option AV := bif (p : Int) == 4607182418800017409 then bif (f : Int) == 0 then bif (q : Int) == 4613937818241073152 then some (.bool ((g : Int) == 0)) else some (.bool false) else some (.bool false) else some (.bool false)
theorem sure9_vals : upPN 4607182418800017408 = 4607182418800017409 ∧ upFN 4607182418800017408 = 0 ∧ lgPN 4621819117588971520 = 4613937818241073152 ∧ lgFN 4621819117588971520 = 0 := by decide +kernel
/-! ### ScaleNexts -/
def nxT (b : Bool) (t : Option AV) : Option AV := bif b then t else some (.bool false)
def nxL (p f q g r h s i : Nat) : Option AV := nxT ((p : Int) == (q : Int)) (nxT (w64 (f : Int) == (g : Int)) (nxT ((r : Int) == (s : Int)) (nxT (w64 (h : Int) == (i : Int)) (some (.bool true)))))
def sp_law1 : List AV → Option (Bool × AV)
  | [.int .u64 p] => some (inU p, .bool true)
  | _ => none
theorem upF_small (p : Nat) : w64 ((upF p : Nat) : Int) = (upF p : Nat) := by
  have : upF p ≤ 1 := by
    unfold upF
    rw [stk_eq]
    unfold upFN noFN
    split
    · split <;> omega
    · omega
  exact w64_mid (by omega) (by omega)
end
end Go.Proofs.YtbakldcbaikgpaaGreatDoor
