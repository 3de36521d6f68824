/- Words and wide numbers: values, carries. Own work. -/
import Derived.Test.YtdkebceiljdgjaaBase
namespace Go.Proofs.Ytdkebceiljdgjaa
set_option maxRecDepth 100000

noncomputable section
/-- A Bool that the kernel cannot reckon: what stands behind it stays as it is. -/
def nob : Bool := Classical.choice (Nonempty.intro true)

theorem nob_same {α : Type} (x : α) : (bif nob then x else x) = x := by cases nob <;> rfl

def inU (x : Int) : Bool := bif nob then (decide (0 ≤ x) && decide (x < 18446744073709551616)) else (decide (0 ≤ x) && decide (x < 18446744073709551616))

theorem inU_iff {x : Int} : inU x = true ↔ 0 ≤ x ∧ x < 18446744073709551616 := by unfold inU; rw [nob_same]; simp

def okW : List Int → Bool
  | [a, b, c, d] => inU a && inU b && inU c && inU d
  | _ => false

def val4 (a b c d : Int) : Nat := a.toNat + 18446744073709551616 * b.toNat + 340282366920938463463374607431768211456 * c.toNat + 6277101735386680763835789423207666416102355444464034512896 * d.toNat

def valW : List Int → Nat
  | [a, b, c, d] => val4 a b c d
  | _ => 0

def toW (v : Nat) : List Int :=
  bif nob then
    [((v % 18446744073709551616 : Nat) : Int), ((v / 18446744073709551616 % 18446744073709551616 : Nat) : Int), ((v / 340282366920938463463374607431768211456 % 18446744073709551616 : Nat) : Int), ((v / 6277101735386680763835789423207666416102355444464034512896 % 18446744073709551616 : Nat) : Int)]
  else
    [((v % 18446744073709551616 : Nat) : Int), ((v / 18446744073709551616 % 18446744073709551616 : Nat) : Int), ((v / 340282366920938463463374607431768211456 % 18446744073709551616 : Nat) : Int), ((v / 6277101735386680763835789423207666416102355444464034512896 % 18446744073709551616 : Nat) : Int)]

theorem toW_def (v : Nat) : toW v = [((v % 18446744073709551616 : Nat) : Int), ((v / 18446744073709551616 % 18446744073709551616 : Nat) : Int), ((v / 340282366920938463463374607431768211456 % 18446744073709551616 : Nat) : Int), ((v / 6277101735386680763835789423207666416102355444464034512896 % 18446744073709551616 : Nat) : Int)] := nob_same _

theorem okW_split {l : List Int} (h : okW l = true) : ∃ a b c d, l = [a, b, c, d] ∧ (0 ≤ a ∧ a < 18446744073709551616) ∧ (0 ≤ b ∧ b < 18446744073709551616) ∧ (0 ≤ c ∧ c < 18446744073709551616) ∧ (0 ≤ d ∧ d < 18446744073709551616) := by
  unfold okW at h
  split at h
  · rename_i a b c d
    simp only [Bool.and_eq_true, inU_iff] at h
    exact ⟨a, b, c, d, rfl, h.1.1.1, h.1.1.2, h.1.2, h.2⟩
  · cases h

theorem okW_toW (v : Nat) : okW (toW v) = true := by
  rw [toW_def]
  simp only [okW, Bool.and_eq_true, inU_iff]
  omega

theorem toW_of (v : Nat) (a b c d : Nat) (k : Nat) (ha : a < 18446744073709551616) (hb : b < 18446744073709551616) (hc : c < 18446744073709551616) (hd : d < 18446744073709551616)
    (h : v = a + 18446744073709551616 * b + 340282366920938463463374607431768211456 * c + 6277101735386680763835789423207666416102355444464034512896 * d + 115792089237316195423570985008687907853269984665640564039457584007913129639936 * k) : toW v = [(a : Int), (b : Int), (c : Int), (d : Int)] := by
  have h0 : v % 18446744073709551616 = a := by omega
  have h1 : v / 18446744073709551616 % 18446744073709551616 = b := by omega
  have h2 : v / 340282366920938463463374607431768211456 % 18446744073709551616 = c := by omega
  have h3 : v / 6277101735386680763835789423207666416102355444464034512896 % 18446744073709551616 = d := by omega
  rw [toW_def, h0, h1, h2, h3]

theorem valZ {a b c d : Int} (ha : 0 ≤ a) (hb : 0 ≤ b) (hc : 0 ≤ c) (hd : 0 ≤ d) : ((valW [a, b, c, d] : Nat) : Int) = a + 18446744073709551616 * b + 340282366920938463463374607431768211456 * c + 6277101735386680763835789423207666416102355444464034512896 * d := by
  simp only [valW, val4]
  omega

theorem toW_ofZ (v : Nat) {a b c d k : Int} (ha : 0 ≤ a ∧ a < 18446744073709551616) (hb : 0 ≤ b ∧ b < 18446744073709551616) (hc : 0 ≤ c ∧ c < 18446744073709551616) (hd : 0 ≤ d ∧ d < 18446744073709551616) (hk : 0 ≤ k)
    (h : (v : Int) = a + 18446744073709551616 * b + 340282366920938463463374607431768211456 * c + 6277101735386680763835789423207666416102355444464034512896 * d + 115792089237316195423570985008687907853269984665640564039457584007913129639936 * k) : toW v = [a, b, c, d] := by
  have := toW_of v a.toNat b.toNat c.toNat d.toNat k.toNat (by omega) (by omega) (by omega) (by omega) (by omega)
  rw [this]
  simp only [Int.toNat_of_nonneg ha.1, Int.toNat_of_nonneg hb.1, Int.toNat_of_nonneg hc.1, Int.toNat_of_nonneg hd.1]

theorem valW_toW (v : Nat) : valW (toW v) = v % 115792089237316195423570985008687907853269984665640564039457584007913129639936 := by
  rw [toW_def]
  simp only [valW, val4, Int.toNat_natCast]
  omega

theorem valW_lt {l : List Int} (h : okW l = true) : valW l < 115792089237316195423570985008687907853269984665640564039457584007913129639936 := by
  obtain ⟨a, b, c, d, rfl, ha, hb, hc, hd⟩ := okW_split h
  simp only [valW, val4]
  omega

theorem toW_valW {l : List Int} (h : okW l = true) : toW (valW l) = l := by
  obtain ⟨a, b, c, d, rfl, ha, hb, hc, hd⟩ := okW_split h
  have := toW_of (valW [a, b, c, d]) a.toNat b.toNat c.toNat d.toNat 0 (by omega) (by omega) (by omega) (by omega) (by simp only [valW, val4]; omega)
  rw [this]
  simp only [Int.toNat_of_nonneg ha.1, Int.toNat_of_nonneg hb.1, Int.toNat_of_nonneg hc.1, Int.toNat_of_nonneg hd.1]

/-! ### Sums and differences of words -/

theorem extern_ok {P : Program} {f : FuncId} {fn : Func} {e : Array Value → Sem Value} {en : Ent} (hf : P.funcs[f]? = some fn) (hname : (fn.name == "runtime.NumGoroutine") = false) (hb : fn.body.isNone = true) (hn : Extern.findNext fn = none) (he : Extern.find fn = some e)
    (hlaw : EntLaw en) (hgo : ∀ n args r, en.go AV n args some = some r → ∀ (A : Nat → Prop) (w : World) (vs : List Value), VRs A w ρ0 args vs → ∃ x, (e vs.toArray).run P w = .ok x w ∧ RR (fun _ => False) w r x []) : EntOk P f en := by
  refine ⟨hlaw, fun n args r hr A w vs hA hv => ?_⟩
  obtain ⟨x, hx, hR⟩ := hgo n args r hr A w vs hv
  unfold Inv
  rw [run_callFunc_extern hf hname hb hn he, hx]
  simp only [Result.andThen_ok]
  exact ⟨More.refl w, fun _ => False, [], (fun b hb => hb.elim), (fun b hb => by cases hb), List.nodup_nil, hR⟩

theorem run_three {P : Program} (name : String) (x y c : Int) (hc : ¬ (1 < c.toNat)) (w : World) : (Extern.MathBitsCarry.three name #[.int .u64 x, .int .u64 y, .int .u64 c]).run P w = .ok (x.toNat, y.toNat, c.toNat) w := by
  show (do
    let c' := (← asInt (.int .u64 c)).toNat
    if c' > 1 then unsupported (.noEntry ("extern/math/bits." ++ name ++ ": a carry that is neither 0 nor 1"))
    pure ((← asInt (.int .u64 x)).toNat, (← asInt (.int .u64 y)).toNat, c') : Sem (Nat × Nat × Nat)).run P w = _
  simp [asInt, asIntOf]
  omega

def okC (x y c : Int) : Bool := inU x && inU y && decide (0 ≤ c) && decide (c ≤ 1)
def addLo (x y c : Int) : Int := (x + y + c) % 18446744073709551616
def addHi (x y c : Int) : Int := (x + y + c) / 18446744073709551616
def subLo (x y c : Int) : Int := (x - y - c) % 18446744073709551616
def subHi (x y c : Int) : Int := if x < y + c then 1 else 0

def sp_add64 : List AV → Option (Bool × AV)
  | [.int .u64 x, .int .u64 y, .int .u64 c] => some (okC x y c, .tup [.int .u64 (addLo x y c), .int .u64 (addHi x y c)])
  | _ => none
def sp_sub64 : List AV → Option (Bool × AV)
  | [.int .u64 x, .int .u64 y, .int .u64 c] => some (okC x y c, .tup [.int .u64 (subLo x y c), .int .u64 (subHi x y c)])
  | _ => none

theorem ok_add64 : EntOk Try.prog 99 (entS false sp_add64) := by
  refine extern_ok (fn := Try.f99) (e := (Extern.MathBitsCarry.rows.getD 0 ("", fun _ => pure .nilIface)).2) Try.func99 (by kernel_rfl) (by kernel_rfl) (by kernel_rfl) (by kernel_rfl) (entS_law _ _) fun n args r h A w vs hv => ?_
  have h9 := entS_some h
  clear h
  unfold sp_add64 at h9
  split at h9
  · rename_i x y c
    simp only [Option.some.injEq, Prod.mk.injEq, okC, Bool.and_eq_true, inU_iff, decide_eq_true_eq] at h9
    obtain ⟨⟨⟨⟨hx, hy⟩, hc0⟩, hc1⟩, rfl⟩ := h9
    simp only [VRs, VR] at hv
    obtain ⟨_, _, rfl, ⟨_, _, rfl, ⟨_, _, rfl, rfl, rfl⟩, rfl⟩, rfl⟩ := hv
    refine ⟨.tuple #[.int .u64 (addLo x y c), .int .u64 (addHi x y c)], ?_, ?_⟩
    · have hc : ¬ (1 < c.toNat) := by omega
      have e1 : (Int.ofNat ((x.toNat + y.toNat + c.toNat) % 18446744073709551616)) = addLo x y c := by unfold addLo; simp only [Int.ofNat_eq_natCast]; omega
      have e2 : (Int.ofNat ((x.toNat + y.toNat + c.toNat) / 18446744073709551616)) = addHi x y c := by unfold addHi; simp only [Int.ofNat_eq_natCast]; omega
      show (do
        let (x', y', c') ← Extern.MathBitsCarry.three "Add64" #[.int .u64 x, .int .u64 y, .int .u64 c]
        pure (Extern.MathBitsCarry.pair ((x' + y' + c') % Extern.MathBitsCarry.m64) ((x' + y' + c') / Extern.MathBitsCarry.m64)) : Sem Value).run Try.prog w = _
      simp only [Sem.run_bind, run_three _ _ _ _ hc, Result.andThen_ok, Sem.run_pure, Extern.MathBitsCarry.pair, Extern.MathBitsCarry.m64, Nat.reducePow, e1, e2]
    · simp only [RR, Rs, R1, VR]
      exact ⟨_, ⟨_, _, [], [], ⟨rfl, rfl⟩, ⟨_, _, [], [], ⟨rfl, rfl⟩, ⟨rfl, rfl⟩, rfl, rfl⟩, rfl, rfl⟩, rfl⟩
  · cases h9

theorem ok_sub64 : EntOk Try.prog 105 (entS false sp_sub64) := by
  refine extern_ok (fn := Try.f105) (e := (Extern.MathBitsCarry.rows.getD 1 ("", fun _ => pure .nilIface)).2) Try.func105 (by kernel_rfl) (by kernel_rfl) (by kernel_rfl) (by kernel_rfl) (entS_law _ _) fun n args r h A w vs hv => ?_
  have h9 := entS_some h
  clear h
  unfold sp_sub64 at h9
  split at h9
  · rename_i x y c
    simp only [Option.some.injEq, Prod.mk.injEq, okC, Bool.and_eq_true, inU_iff, decide_eq_true_eq] at h9
    obtain ⟨⟨⟨⟨hx, hy⟩, hc0⟩, hc1⟩, rfl⟩ := h9
    simp only [VRs, VR] at hv
    obtain ⟨_, _, rfl, ⟨_, _, rfl, ⟨_, _, rfl, rfl, rfl⟩, rfl⟩, rfl⟩ := hv
    refine ⟨.tuple #[.int .u64 (subLo x y c), .int .u64 (subHi x y c)], ?_, ?_⟩
    · have hc : ¬ (1 < c.toNat) := by omega
      have e1 : (Int.ofNat ((x.toNat + 18446744073709551616 - y.toNat - c.toNat) % 18446744073709551616)) = subLo x y c := by unfold subLo; simp only [Int.ofNat_eq_natCast]; omega
      have e2 : (Int.ofNat (if x.toNat < y.toNat + c.toNat then 1 else 0)) = subHi x y c := by
        unfold subHi
        by_cases h : x < y + c
        · rw [if_pos h, if_pos (by omega)]; rfl
        · rw [if_neg h, if_neg (by omega)]; rfl
      simp only [Int.ofNat_eq_natCast] at e1 e2
      show (do
        let (x', y', c') ← Extern.MathBitsCarry.three "Sub64" #[.int .u64 x, .int .u64 y, .int .u64 c]
        pure (Extern.MathBitsCarry.pair ((x' + Extern.MathBitsCarry.m64 - y' - c') % Extern.MathBitsCarry.m64) (if x' < y' + c' then 1 else 0)) : Sem Value).run Try.prog w = _
      simp only [Sem.run_bind, run_three _ _ _ _ hc, Result.andThen_ok, Sem.run_pure, Extern.MathBitsCarry.pair, Extern.MathBitsCarry.m64, Nat.reducePow, Int.ofNat_eq_natCast, e1, e2]
    · simp only [RR, Rs, R1, VR]
      exact ⟨_, ⟨_, _, [], [], ⟨rfl, rfl⟩, ⟨_, _, [], [], ⟨rfl, rfl⟩, ⟨rfl, rfl⟩, rfl, rfl⟩, rfl, rfl⟩, rfl⟩
  · cases h9
end
end Go.Proofs.Ytdkebceiljdgjaa
