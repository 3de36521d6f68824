/- The texts Wide1, Wide2, Wide3, Wide4, Wide5, Wide6, Wide7, joined. Own work. -/
import Derived.Test.YtbakldcbaikgpaaGreatDoorBase
/- Words and wide numbers: values, carries. Own work. -/
namespace Go.Proofs.YtbakldcbaikgpaaGreatDoor
set_option maxRecDepth 100000
noncomputable section
/-- A Bool that the kernel cannot reckon: what stands behind it stays as it is. -/
def nob : Bool := Classical.choice (Nonempty.intro true)
theorem nob_same {α : Type} (x : α) : (bif nob then x else x) = x := by cases nob <;> rfl
def inU (x : Int) : Bool := bif nob then (decide (0 ≤ x) && decide (x < 18446744073709551616)) else (decide (0 ≤ x) && decide (x < 18446744073709551616))
theorem inU_iff {x : Int} : inU x = true ↔ 0 ≤ x ∧ x < 18446744073709551616 := by unfold inU; rw [nob_same]; simp
def okW : List Int → Bool
  | [a, b, c, d] => inU a && inU b && inU c && inU d
  | _ => false
def val4 (a b c d : Int) : Nat := a.toNat + 18446744073709551616 * b.toNat + 340282366920938463463374607431768211456 * c.toNat + 6277101735386680763835789423207666416102355444464034512896 * d.toNat
def valW : List Int → Nat
  | [a, b, c, d] => val4 a b c d
  | _ => 0
def toW (v : Nat) : List Int :=
  bif nob then
    [((v % 18446744073709551616 : Nat) : Int), ((v / 18446744073709551616 % 18446744073709551616 : Nat) : Int), ((v / 340282366920938463463374607431768211456 % 18446744073709551616 : Nat) : Int), ((v / 6277101735386680763835789423207666416102355444464034512896 % 18446744073709551616 : Nat) : Int)]
  else
    [((v % 18446744073709551616 : Nat) : Int), ((v / 18446744073709551616 % 18446744073709551616 : Nat) : Int), ((v / 340282366920938463463374607431768211456 % 18446744073709551616 : Nat) : Int), ((v / 6277101735386680763835789423207666416102355444464034512896 % 18446744073709551616 : Nat) : Int)]
theorem toW_def (v : Nat) : toW v = [((v % 18446744073709551616 : Nat) : Int), ((v / 18446744073709551616 % 18446744073709551616 : Nat) : Int), ((v / 340282366920938463463374607431768211456 % 18446744073709551616 : Nat) : Int), ((v / 6277101735386680763835789423207666416102355444464034512896 % 18446744073709551616 : Nat) : Int)] := nob_same _
theorem okW_split {l : List Int} (h : okW l = true) : ∃ a b c d, l = [a, b, c, d] ∧ (0 ≤ a ∧ a < 18446744073709551616) ∧ (0 ≤ b ∧ b < 18446744073709551616) ∧ (0 ≤ c ∧ c < 18446744073709551616) ∧ (0 ≤ d ∧ d < 18446744073709551616) := by
  unfold okW at h
  split at h
  · rename_i a b c d
    simp only [Bool.and_eq_true, inU_iff] at h
    exact ⟨a, b, c, d, rfl, h.1.1.1, h.1.1.2, h.1.2, h.2⟩
  · cases h
theorem okW_toW (v : Nat) : okW (toW v) = true := by
  rw [toW_def]
  simp only [okW, Bool.and_eq_true, inU_iff]
  omega
theorem toW_of (v : Nat) (a b c d : Nat) (k : Nat) (ha : a < 18446744073709551616) (hb : b < 18446744073709551616) (hc : c < 18446744073709551616) (hd : d < 18446744073709551616)
    (h : v = a + 18446744073709551616 * b + 340282366920938463463374607431768211456 * c + 6277101735386680763835789423207666416102355444464034512896 * d + 115792089237316195423570985008687907853269984665640564039457584007913129639936 * k) : toW v = [(a : Int), (b : Int), (c : Int), (d : Int)] := by
  have h0 : v % 18446744073709551616 = a := by omega
  have h1 : v / 18446744073709551616 % 18446744073709551616 = b := by omega
  have h2 : v / 340282366920938463463374607431768211456 % 18446744073709551616 = c := by omega
  have h3 : v / 6277101735386680763835789423207666416102355444464034512896 % 18446744073709551616 = d := by omega
  rw [toW_def, h0, h1, h2, h3]
theorem valZ {a b c d : Int} (ha : 0 ≤ a) (hb : 0 ≤ b) (hc : 0 ≤ c) (hd : 0 ≤ d) : ((valW [a, b, c, d] : Nat) : Int) = a + 18446744073709551616 * b + 340282366920938463463374607431768211456 * c + 6277101735386680763835789423207666416102355444464034512896 * d := by
  simp only [valW, val4]
  omega
theorem toW_ofZ (v : Nat) {a b c d k : Int} (ha : 0 ≤ a ∧ a < 18446744073709551616) (hb : 0 ≤ b ∧ b < 18446744073709551616) (hc : 0 ≤ c ∧ c < 18446744073709551616) (hd : 0 ≤ d ∧ d < 18446744073709551616) (hk : 0 ≤ k)
    (h : (v : Int) = a + 18446744073709551616 * b + 340282366920938463463374607431768211456 * c + 6277101735386680763835789423207666416102355444464034512896 * d + 115792089237316195423570985008687907853269984665640564039457584007913129639936 * k) : toW v = [a, b, c, d] := by
  have := toW_of v a.toNat b.toNat c.toNat d.toNat k.toNat (by omega) (by omega) (by omega) (by omega) (by omega)
  rw [this]
  simp only [Int.toNat_of_nonneg ha.1, Int.toNat_of_nonneg hb.1, Int.toNat_of_nonneg hc.1, Int.toNat_of_nonneg hd.1]
theorem valW_toW (v : Nat) : valW (toW v) = v % 115792089237316195423570985008687907853269984665640564039457584007913129639936 := by
  rw [toW_def]
  simp only [valW, val4, Int.toNat_natCast]
  omega
theorem valW_lt {l : List Int} (h : okW l = true) : valW l < 115792089237316195423570985008687907853269984665640564039457584007913129639936 := by
  obtain ⟨a, b, c, d, rfl, ha, hb, hc, hd⟩ := okW_split h
  simp only [valW, val4]
  omega
theorem toW_valW {l : List Int} (h : okW l = true) : toW (valW l) = l := by
  obtain ⟨a, b, c, d, rfl, ha, hb, hc, hd⟩ := okW_split h
  have := toW_of (valW [a, b, c, d]) a.toNat b.toNat c.toNat d.toNat 0 (by omega) (by omega) (by omega) (by omega) (by simp only [valW, val4]; omega)
  rw [this]
  simp only [Int.toNat_of_nonneg ha.1, Int.toNat_of_nonneg hb.1, Int.toNat_of_nonneg hc.1, Int.toNat_of_nonneg hd.1]
/-! ### Sums and differences of words -/
theorem extern_ok {P : Program} {f : FuncId} {fn : Func} {e : Array Value → Sem Value} {en : Ent} (hf : P.funcs[f]? = some fn) (hname : (fn.name == "runtime.NumGoroutine") = false) (hb : fn.body.isNone = true) (hn : Extern.findNext fn = none) (he : Extern.find fn = some e)
    (hlaw : EntLaw en) (hwr : en.wr = false) (hgo : ∀ n args r, en.go AV n args some = some r → ∀ (A : Nat → Prop) (w : World) (vs : List Value), VRs A w ρ0 args vs → ∃ x, (e vs.toArray).run P w = .ok x w ∧ RR (fun _ => False) w r x []) : EntOk P f en := by
  refine ⟨hlaw, fun _ n args r hr A w vs hA hv _ => ?_, fun h => by rw [hwr] at h; cases h⟩
  obtain ⟨x, hx, hR⟩ := hgo n args r hr A w vs hv
  unfold Inv
  rw [run_callFunc_extern hf hname hb hn he, hx]
  simp only [Result.andThen_ok]
  exact ⟨(More.refl w).x _ _, fun _ => False, [], (fun b hb => hb.elim), (fun b hb => by cases hb), List.nodup_nil, hR⟩
theorem run_three {P : Program} (name : String) (x y c : Int) (hc : ¬ (1 < c.toNat)) (w : World) : (Extern.MathBitsCarry.three name #[.int .u64 x, .int .u64 y, .int .u64 c]).run P w = .ok (x.toNat, y.toNat, c.toNat) w := by
  show (do
    let c' := (← asInt (.int .u64 c)).toNat
    if c' > 1 then unsupported (.noEntry ("extern/math/bits." ++ name ++ ": a carry that is neither 0 nor 1"))
    pure ((← asInt (.int .u64 x)).toNat, (← asInt (.int .u64 y)).toNat, c') : Sem (Nat × Nat × Nat)).run P w = _
  simp [asInt, asIntOf]
  omega
def okC (x y c : Int) : Bool := inU x && inU y && decide (0 ≤ c) && decide (c ≤ 1)
def addLo (x y c : Int) : Int := (x + y + c) % 18446744073709551616
def addHi (x y c : Int) : Int := (x + y + c) / 18446744073709551616
def subLo (x y c : Int) : Int := (x - y - c) % 18446744073709551616
def subHi (x y c : Int) : Int := if x < y + c then 1 else 0
def sp_add64 : List AV → Option (Bool × AV)
  | [.int .u64 x, .int .u64 y, .int .u64 c] => some (okC x y c, .tup [.int .u64 (addLo x y c), .int .u64 (addHi x y c)])
  | _ => none
def sp_sub64 : List AV → Option (Bool × AV)
  | [.int .u64 x, .int .u64 y, .int .u64 c] => some (okC x y c, .tup [.int .u64 (subLo x y c), .int .u64 (subHi x y c)])
  | _ => none
theorem ok_add64 : EntOk Tryz.prog 144 (entS false sp_add64) := by
  refine extern_ok (fn := Tryz.f144) (e := (Extern.MathBitsCarry.rows.getD 0 ("", fun _ => pure .nilIface)).2) Tryz.func144 (by kernel_rfl) (by kernel_rfl) (by kernel_rfl) (by kernel_rfl) (entS_law _ _) rfl fun n args r h A w vs hv => ?_
  have h9 := entS_some h
  clear h
  unfold sp_add64 at h9
  split at h9
  · rename_i x y c
    simp only [Option.some.injEq, Prod.mk.injEq, okC, Bool.and_eq_true, inU_iff, decide_eq_true_eq] at h9
    obtain ⟨⟨⟨⟨hx, hy⟩, hc0⟩, hc1⟩, rfl⟩ := h9
    simp only [VRs, VR] at hv
    obtain ⟨_, _, rfl, ⟨_, _, rfl, ⟨_, _, rfl, rfl, rfl⟩, rfl⟩, rfl⟩ := hv
    refine ⟨.tuple #[.int .u64 (addLo x y c), .int .u64 (addHi x y c)], ?_, ?_⟩
    · have hc : ¬ (1 < c.toNat) := by omega
      have e1 : (Int.ofNat ((x.toNat + y.toNat + c.toNat) % 18446744073709551616)) = addLo x y c := by unfold addLo; simp only [Int.ofNat_eq_natCast]; omega
      have e2 : (Int.ofNat ((x.toNat + y.toNat + c.toNat) / 18446744073709551616)) = addHi x y c := by unfold addHi; simp only [Int.ofNat_eq_natCast]; omega
      show (do
        let (x', y', c') ← Extern.MathBitsCarry.three "Add64" #[.int .u64 x, .int .u64 y, .int .u64 c]
        pure (Extern.MathBitsCarry.pair ((x' + y' + c') % Extern.MathBitsCarry.m64) ((x' + y' + c') / Extern.MathBitsCarry.m64)) : Sem Value).run Tryz.prog w = _
      simp only [Sem.run_bind, run_three _ _ _ _ hc, Result.andThen_ok, Sem.run_pure, Extern.MathBitsCarry.pair, Extern.MathBitsCarry.m64, Nat.reducePow, e1, e2]
    · simp only [RR, Rs, R1, VR]
      exact ⟨_, ⟨_, _, [], [], ⟨rfl, rfl⟩, ⟨_, _, [], [], ⟨rfl, rfl⟩, ⟨rfl, rfl⟩, rfl, rfl⟩, rfl, rfl⟩, rfl⟩
  · cases h9
theorem ok_sub64 : EntOk Tryz.prog 154 (entS false sp_sub64) := by
  refine extern_ok (fn := Tryz.f154) (e := (Extern.MathBitsCarry.rows.getD 1 ("", fun _ => pure .nilIface)).2) Tryz.func154 (by kernel_rfl) (by kernel_rfl) (by kernel_rfl) (by kernel_rfl) (entS_law _ _) rfl fun n args r h A w vs hv => ?_
  have h9 := entS_some h
  clear h
  unfold sp_sub64 at h9
  split at h9
  · rename_i x y c
    simp only [Option.some.injEq, Prod.mk.injEq, okC, Bool.and_eq_true, inU_iff, decide_eq_true_eq] at h9
    obtain ⟨⟨⟨⟨hx, hy⟩, hc0⟩, hc1⟩, rfl⟩ := h9
    simp only [VRs, VR] at hv
    obtain ⟨_, _, rfl, ⟨_, _, rfl, ⟨_, _, rfl, rfl, rfl⟩, rfl⟩, rfl⟩ := hv
    refine ⟨.tuple #[.int .u64 (subLo x y c), .int .u64 (subHi x y c)], ?_, ?_⟩
    · have hc : ¬ (1 < c.toNat) := by omega
      have e1 : (Int.ofNat ((x.toNat + 18446744073709551616 - y.toNat - c.toNat) % 18446744073709551616)) = subLo x y c := by unfold subLo; simp only [Int.ofNat_eq_natCast]; omega
      have e2 : (Int.ofNat (if x.toNat < y.toNat + c.toNat then 1 else 0)) = subHi x y c := by
        unfold subHi
        by_cases h : x < y + c
        · rw [if_pos h, if_pos (by omega)]; rfl
        · rw [if_neg h, if_neg (by omega)]; rfl
      simp only [Int.ofNat_eq_natCast] at e1 e2
      show (do
        let (x', y', c') ← Extern.MathBitsCarry.three "Sub64" #[.int .u64 x, .int .u64 y, .int .u64 c]
        pure (Extern.MathBitsCarry.pair ((x' + Extern.MathBitsCarry.m64 - y' - c') % Extern.MathBitsCarry.m64) (if x' < y' + c' then 1 else 0)) : Sem Value).run Tryz.prog w = _
      simp only [Sem.run_bind, run_three _ _ _ _ hc, Result.andThen_ok, Sem.run_pure, Extern.MathBitsCarry.pair, Extern.MathBitsCarry.m64, Nat.reducePow, Int.ofNat_eq_natCast, e1, e2]
    · simp only [RR, Rs, R1, VR]
      exact ⟨_, ⟨_, _, [], [], ⟨rfl, rfl⟩, ⟨_, _, [], [], ⟨rfl, rfl⟩, ⟨rfl, rfl⟩, rfl, rfl⟩, rfl, rfl⟩, rfl⟩
  · cases h9
end
end Go.Proofs.YtbakldcbaikgpaaGreatDoor
/- wide: sums, differences. Own work. -/
namespace Go.Proofs.YtbakldcbaikgpaaGreatDoor
set_option maxRecDepth 100000
noncomputable section
def orcAdd : List (FuncId × Ent) := [(144, entS false sp_add64)]
def orcSub : List (FuncId × Ent) := [(154, entS false sp_sub64)]
theorem run_wAdd (a0 a1 a2 a3 b0 b1 b2 b3 : Int) : callA (env Tryz.f138.ntmps orcAdd []) (bodyC Tryz.f138) Tryz.f138.results.toList (slots 0 [.ints 4 .u64 [a0, a1, a2, a3], .ints 4 .u64 [b0, b1, b2, b3]]) some =
    chk (okC a0 b0 0) (chk (okC a1 b1 (addHi a0 b0 0)) (chk (okC a2 b2 (addHi a1 b1 (addHi a0 b0 0))) (chk (okC a3 b3 (addHi a2 b2 (addHi a1 b1 (addHi a0 b0 0))))
      (some (.tup [.ints 4 .u64 [addLo a0 b0 0, addLo a1 b1 (addHi a0 b0 0), addLo a2 b2 (addHi a1 b1 (addHi a0 b0 0)), addLo a3 b3 (addHi a2 b2 (addHi a1 b1 (addHi a0 b0 0)))], .bool (addHi a3 b3 (addHi a2 b2 (addHi a1 b1 (addHi a0 b0 0))) != 0)]))))) := by kernel_rfl
theorem run_wSub (a0 a1 a2 a3 b0 b1 b2 b3 : Int) : callA (env Tryz.f146.ntmps orcSub []) (bodyC Tryz.f146) Tryz.f146.results.toList (slots 0 [.ints 4 .u64 [a0, a1, a2, a3], .ints 4 .u64 [b0, b1, b2, b3]]) some =
    chk (okC a0 b0 0) (chk (okC a1 b1 (subHi a0 b0 0)) (chk (okC a2 b2 (subHi a1 b1 (subHi a0 b0 0))) (chk (okC a3 b3 (subHi a2 b2 (subHi a1 b1 (subHi a0 b0 0))))
      (some (.tup [.ints 4 .u64 [subLo a0 b0 0, subLo a1 b1 (subHi a0 b0 0), subLo a2 b2 (subHi a1 b1 (subHi a0 b0 0)), subLo a3 b3 (subHi a2 b2 (subHi a1 b1 (subHi a0 b0 0)))], .bool (subHi a3 b3 (subHi a2 b2 (subHi a1 b1 (subHi a0 b0 0))) != 0)]))))) := by kernel_rfl
def big256 : Nat := 115792089237316195423570985008687907853269984665640564039457584007913129639936
def sp_wAdd : List AV → Option (Bool × AV)
  | [.ints 4 .u64 a, .ints 4 .u64 b] => some (okW a && okW b, .tup [.ints 4 .u64 (toW (valW a + valW b)), .bool (decide (big256 ≤ valW a + valW b))])
  | _ => none
def sp_wSub : List AV → Option (Bool × AV)
  | [.ints 4 .u64 a, .ints 4 .u64 b] => some (okW a && okW b, .tup [.ints 4 .u64 (toW (valW a + big256 - valW b)), .bool (decide (valW a < valW b))])
  | _ => none
def inR (x : Int) : Prop := 0 ≤ x ∧ x < 18446744073709551616
theorem addC_spec {x y c : Int} (hx : inR x) (hy : inR y) (h0 : 0 ≤ c) (h1 : c ≤ 1) : okC x y c = true ∧ inR (addLo x y c) ∧ (0 ≤ addHi x y c ∧ addHi x y c ≤ 1) ∧ x + y + c = addLo x y c + 18446744073709551616 * addHi x y c := by
  unfold inR at *
  unfold addLo addHi okC
  simp only [Bool.and_eq_true, inU_iff, decide_eq_true_eq]
  omega
theorem subC_spec {x y c : Int} (hx : inR x) (hy : inR y) (h0 : 0 ≤ c) (h1 : c ≤ 1) : okC x y c = true ∧ inR (subLo x y c) ∧ (0 ≤ subHi x y c ∧ subHi x y c ≤ 1) ∧ x - y - c = subLo x y c - 18446744073709551616 * subHi x y c := by
  unfold inR at *
  unfold subLo subHi okC
  simp only [Bool.and_eq_true, inU_iff, decide_eq_true_eq]
  split <;> omega
theorem sum4 {a0 a1 a2 a3 b0 b1 b2 b3 s0 s1 s2 s3 c0 c1 c2 c3 : Int} (e0 : a0 + b0 + 0 = s0 + 18446744073709551616 * c0) (e1 : a1 + b1 + c0 = s1 + 18446744073709551616 * c1) (e2 : a2 + b2 + c1 = s2 + 18446744073709551616 * c2) (e3 : a3 + b3 + c2 = s3 + 18446744073709551616 * c3) :
    (a0 + 18446744073709551616 * a1 + 340282366920938463463374607431768211456 * a2 + 6277101735386680763835789423207666416102355444464034512896 * a3) + (b0 + 18446744073709551616 * b1 + 340282366920938463463374607431768211456 * b2 + 6277101735386680763835789423207666416102355444464034512896 * b3) =
    s0 + 18446744073709551616 * s1 + 340282366920938463463374607431768211456 * s2 + 6277101735386680763835789423207666416102355444464034512896 * s3 + 115792089237316195423570985008687907853269984665640564039457584007913129639936 * c3 := by
  omega
theorem dif4 {a0 a1 a2 a3 b0 b1 b2 b3 s0 s1 s2 s3 c0 c1 c2 c3 : Int} (e0 : a0 - b0 - 0 = s0 - 18446744073709551616 * c0) (e1 : a1 - b1 - c0 = s1 - 18446744073709551616 * c1) (e2 : a2 - b2 - c1 = s2 - 18446744073709551616 * c2) (e3 : a3 - b3 - c2 = s3 - 18446744073709551616 * c3) :
    (a0 + 18446744073709551616 * a1 + 340282366920938463463374607431768211456 * a2 + 6277101735386680763835789423207666416102355444464034512896 * a3) - (b0 + 18446744073709551616 * b1 + 340282366920938463463374607431768211456 * b2 + 6277101735386680763835789423207666416102355444464034512896 * b3) =
    s0 + 18446744073709551616 * s1 + 340282366920938463463374607431768211456 * s2 + 6277101735386680763835789423207666416102355444464034512896 * s3 - 115792089237316195423570985008687907853269984665640564039457584007913129639936 * c3 := by
  omega
theorem carry4 {u s0 s1 s2 s3 c3 : Int} (h : u = s0 + 18446744073709551616 * s1 + 340282366920938463463374607431768211456 * s2 + 6277101735386680763835789423207666416102355444464034512896 * s3 + 115792089237316195423570985008687907853269984665640564039457584007913129639936 * c3)
    (l0 : inR s0) (l1 : inR s1) (l2 : inR s2) (l3 : inR s3) (hc : 0 ≤ c3) : (c3 != 0) = decide (115792089237316195423570985008687907853269984665640564039457584007913129639936 ≤ u) := by
  unfold inR at *
  by_cases h0 : c3 = 0
  · subst h0
    rw [decide_eq_false (by omega)]; rfl
  · rw [decide_eq_true (by omega)]
    simp [h0]
theorem borrow4 {u s0 s1 s2 s3 c3 : Int} (h : u = s0 + 18446744073709551616 * s1 + 340282366920938463463374607431768211456 * s2 + 6277101735386680763835789423207666416102355444464034512896 * s3 - 115792089237316195423570985008687907853269984665640564039457584007913129639936 * c3)
    (l0 : inR s0) (l1 : inR s1) (l2 : inR s2) (l3 : inR s3) (hc : 0 ≤ c3) : (c3 != 0) = decide (u < 0) := by
  unfold inR at *
  by_cases h0 : c3 = 0
  · subst h0
    rw [decide_eq_false (by omega)]; rfl
  · rw [decide_eq_true (by omega)]
    simp [h0]
theorem big_iff (V : Nat) : decide (115792089237316195423570985008687907853269984665640564039457584007913129639936 ≤ (V : Int)) = decide (big256 ≤ V) := by
  unfold big256
  exact decide_eq_decide.2 (by omega)
theorem less_iff (V V' : Nat) : decide ((V : Int) - (V' : Int) < 0) = decide (V < V') := decide_eq_decide.2 (by omega)
theorem sub_cast (V V' : Nat) {u c : Int} (hs : (V : Int) - (V' : Int) = u - 115792089237316195423570985008687907853269984665640564039457584007913129639936 * c) (hlt : V' < 115792089237316195423570985008687907853269984665640564039457584007913129639936) :
    ((V + big256 - V' : Nat) : Int) = u + 115792089237316195423570985008687907853269984665640564039457584007913129639936 * (1 - c) := by
  unfold big256
  omega
theorem ok_wAdd : EntOk Tryz.prog 138 (entS false sp_wAdd) := by
  refine contractS (orc := orcAdd) (lo := []) Tryz.func138 (orc_cons ok_add64 orc_nil) (by kernel_rfl) (by kernel_rfl) (by kernel_rfl) (loops_none (by kernel_rfl)) fun args r h => ?_
  unfold sp_wAdd at h
  split at h
  · rename_i a b
    simp only [Option.some.injEq, Prod.mk.injEq, Bool.and_eq_true] at h
    obtain ⟨⟨ha, hb⟩, rfl⟩ := h
    obtain ⟨a0, a1, a2, a3, rfl, ra0, ra1, ra2, ra3⟩ := okW_split ha
    obtain ⟨b0, b1, b2, b3, rfl, rb0, rb1, rb2, rb3⟩ := okW_split hb
    refine ⟨by kernel_rfl, .inr rfl, (run_wAdd a0 a1 a2 a3 b0 b1 b2 b3).trans ?_⟩
    obtain ⟨k0, l0, ⟨m0, n0⟩, e0⟩ := addC_spec ra0 rb0 (c := 0) (by omega) (by omega)
    obtain ⟨k1, l1, ⟨m1, n1⟩, e1⟩ := addC_spec ra1 rb1 m0 n0
    obtain ⟨k2, l2, ⟨m2, n2⟩, e2⟩ := addC_spec ra2 rb2 m1 n1
    obtain ⟨k3, l3, ⟨m3, n3⟩, e3⟩ := addC_spec ra3 rb3 m2 n2
    rw [k0, k1, k2, k3]
    simp only [chk, cond_true]
    generalize addLo a0 b0 0 = s0 at *
    generalize addHi a0 b0 0 = c0 at *
    generalize addLo a1 b1 c0 = s1 at *
    generalize addHi a1 b1 c0 = c1 at *
    generalize addLo a2 b2 c1 = s2 at *
    generalize addHi a2 b2 c1 = c2 at *
    generalize addLo a3 b3 c2 = s3 at *
    generalize addHi a3 b3 c2 = c3 at *
    have hz := valZ ra0.1 ra1.1 ra2.1 ra3.1
    have hz' := valZ rb0.1 rb1.1 rb2.1 rb3.1
    have hs := sum4 e0 e1 e2 e3
    have hv : ((valW [a0, a1, a2, a3] + valW [b0, b1, b2, b3] : Nat) : Int) = s0 + 18446744073709551616 * s1 + 340282366920938463463374607431768211456 * s2 + 6277101735386680763835789423207666416102355444464034512896 * s3 + 115792089237316195423570985008687907853269984665640564039457584007913129639936 * c3 := by
      rw [Int.natCast_add, hz, hz', hs]
    rw [toW_ofZ _ l0 l1 l2 l3 m3 hv, carry4 hv l0 l1 l2 l3 m3]
    rw [big_iff]
  · cases h
theorem ok_wSub : EntOk Tryz.prog 146 (entS false sp_wSub) := by
  refine contractS (orc := orcSub) (lo := []) Tryz.func146 (orc_cons ok_sub64 orc_nil) (by kernel_rfl) (by kernel_rfl) (by kernel_rfl) (loops_none (by kernel_rfl)) fun args r h => ?_
  unfold sp_wSub at h
  split at h
  · rename_i a b
    simp only [Option.some.injEq, Prod.mk.injEq, Bool.and_eq_true] at h
    obtain ⟨⟨ha, hb⟩, rfl⟩ := h
    obtain ⟨a0, a1, a2, a3, rfl, ra0, ra1, ra2, ra3⟩ := okW_split ha
    obtain ⟨b0, b1, b2, b3, rfl, rb0, rb1, rb2, rb3⟩ := okW_split hb
    refine ⟨by kernel_rfl, .inr rfl, (run_wSub a0 a1 a2 a3 b0 b1 b2 b3).trans ?_⟩
    obtain ⟨k0, l0, ⟨m0, n0⟩, e0⟩ := subC_spec ra0 rb0 (c := 0) (by omega) (by omega)
    obtain ⟨k1, l1, ⟨m1, n1⟩, e1⟩ := subC_spec ra1 rb1 m0 n0
    obtain ⟨k2, l2, ⟨m2, n2⟩, e2⟩ := subC_spec ra2 rb2 m1 n1
    obtain ⟨k3, l3, ⟨m3, n3⟩, e3⟩ := subC_spec ra3 rb3 m2 n2
    rw [k0, k1, k2, k3]
    simp only [chk, cond_true]
    generalize subLo a0 b0 0 = s0 at *
    generalize subHi a0 b0 0 = c0 at *
    generalize subLo a1 b1 c0 = s1 at *
    generalize subHi a1 b1 c0 = c1 at *
    generalize subLo a2 b2 c1 = s2 at *
    generalize subHi a2 b2 c1 = c2 at *
    generalize subLo a3 b3 c2 = s3 at *
    generalize subHi a3 b3 c2 = c3 at *
    have hz := valZ ra0.1 ra1.1 ra2.1 ra3.1
    have hz' := valZ rb0.1 rb1.1 rb2.1 rb3.1
    have hs := dif4 e0 e1 e2 e3
    have hlt := valW_lt hb
    rw [← hz, ← hz'] at hs
    have hv : ((valW [a0, a1, a2, a3] + big256 - valW [b0, b1, b2, b3] : Nat) : Int) = s0 + 18446744073709551616 * s1 + 340282366920938463463374607431768211456 * s2 + 6277101735386680763835789423207666416102355444464034512896 * s3 + 115792089237316195423570985008687907853269984665640564039457584007913129639936 * (1 - c3) := by
      exact sub_cast _ _ hs hlt
    rw [toW_ofZ _ l0 l1 l2 l3 (Int.sub_nonneg_of_le n3) hv, borrow4 hs l0 l1 l2 l3 m3]
    rw [less_iff]
  · cases h
end
end Go.Proofs.YtbakldcbaikgpaaGreatDoor
/- wide: lengths, bits, comparison. Own work. -/
namespace Go.Proofs.YtbakldcbaikgpaaGreatDoor
set_option maxRecDepth 100000
noncomputable section
theorem lenN_le {v k : Nat} : lenN v ≤ k ↔ v < 2 ^ k := by
  unfold lenN
  by_cases h : v = 0
  · subst h; simp; exact Nat.two_pow_pos k
  · rw [if_neg h, ← Nat.log2_lt h]
    omega
theorem lenN_div {v n : Nat} : lenN (v / 2 ^ n) = lenN v - n := by
  have key : ∀ k, lenN (v / 2 ^ n) ≤ k ↔ lenN v - n ≤ k := by
    intro k
    rw [lenN_le, Nat.div_lt_iff_lt_mul (Nat.two_pow_pos n), ← Nat.pow_add, ← lenN_le]
    omega
  have h1 := (key (lenN v - n)).2 (Nat.le_refl _)
  have h2 := (key (lenN (v / 2 ^ n))).1 (Nat.le_refl _)
  omega
def shrI (k : IntKind) (x y : Int) : Int := x.fdiv (2 ^ min y.toNat k.bits)
def shlI (k : IntKind) (x y : Int) : Int := k.wrap (x * 2 ^ min y.toNat k.bits)
def andI (k : IntKind) (x y : Int) : Int := k.wrap ((BitVec.ofInt k.bits x &&& BitVec.ofInt k.bits y).toNat : Int)
def orI (k : IntKind) (x y : Int) : Int := k.wrap ((BitVec.ofInt k.bits x ||| BitVec.ofInt k.bits y).toNat : Int)
def w64 (x : Int) : Int := IntKind.i64.wrap x
def u64 (x : Int) : Int := IntKind.u64.wrap x
/-- The table of the library. -/
def lenTab : ByteArray := ByteArray.mk ((List.range 256).map fun i => (lenN i).toUInt8).toArray
theorem run_len64 (x : Int) : callA (env Tryz.f140.ntmps [] []) (bodyC Tryz.f140) Tryz.f140.results.toList (slots 0 [.int .u64 x]) some =
    bif decide (x ≥ 4294967296) then
      (bif decide (shrI .u64 x 32 ≥ 65536) then
        (bif decide (shrI .u64 (shrI .u64 x 32) 16 ≥ 256) then
          chk (decide (0 ≤ IntKind.u8.wrap (shrI .u64 (shrI .u64 (shrI .u64 x 32) 16) 8)) && decide (IntKind.u8.wrap (shrI .u64 (shrI .u64 (shrI .u64 x 32) 16) 8) < lenTab.size)) (some (.int .i64 (w64 (56 + w64 (strAt lenTab (IntKind.u8.wrap (shrI .u64 (shrI .u64 (shrI .u64 x 32) 16) 8)).toNat)))))
        else
          chk (decide (0 ≤ IntKind.u8.wrap (shrI .u64 (shrI .u64 x 32) 16)) && decide (IntKind.u8.wrap (shrI .u64 (shrI .u64 x 32) 16) < lenTab.size)) (some (.int .i64 (w64 (48 + w64 (strAt lenTab (IntKind.u8.wrap (shrI .u64 (shrI .u64 x 32) 16)).toNat))))))
      else
        (bif decide (shrI .u64 x 32 ≥ 256) then
          chk (decide (0 ≤ IntKind.u8.wrap (shrI .u64 (shrI .u64 x 32) 8)) && decide (IntKind.u8.wrap (shrI .u64 (shrI .u64 x 32) 8) < lenTab.size)) (some (.int .i64 (w64 (40 + w64 (strAt lenTab (IntKind.u8.wrap (shrI .u64 (shrI .u64 x 32) 8)).toNat)))))
        else
          chk (decide (0 ≤ IntKind.u8.wrap (shrI .u64 x 32)) && decide (IntKind.u8.wrap (shrI .u64 x 32) < lenTab.size)) (some (.int .i64 (w64 (32 + w64 (strAt lenTab (IntKind.u8.wrap (shrI .u64 x 32)).toNat)))))))
    else
      (bif decide (x ≥ 65536) then
        (bif decide (shrI .u64 x 16 ≥ 256) then
          chk (decide (0 ≤ IntKind.u8.wrap (shrI .u64 (shrI .u64 x 16) 8)) && decide (IntKind.u8.wrap (shrI .u64 (shrI .u64 x 16) 8) < lenTab.size)) (some (.int .i64 (w64 (24 + w64 (strAt lenTab (IntKind.u8.wrap (shrI .u64 (shrI .u64 x 16) 8)).toNat)))))
        else
          chk (decide (0 ≤ IntKind.u8.wrap (shrI .u64 x 16)) && decide (IntKind.u8.wrap (shrI .u64 x 16) < lenTab.size)) (some (.int .i64 (w64 (16 + w64 (strAt lenTab (IntKind.u8.wrap (shrI .u64 x 16)).toNat))))))
      else
        (bif decide (x ≥ 256) then
          chk (decide (0 ≤ IntKind.u8.wrap (shrI .u64 x 8)) && decide (IntKind.u8.wrap (shrI .u64 x 8) < lenTab.size)) (some (.int .i64 (w64 (8 + w64 (strAt lenTab (IntKind.u8.wrap (shrI .u64 x 8)).toNat)))))
        else
          chk (decide (0 ≤ IntKind.u8.wrap x) && decide (IntKind.u8.wrap x < lenTab.size)) (some (.int .i64 (w64 (0 + w64 (strAt lenTab (IntKind.u8.wrap x).toNat))))))) := by kernel_rfl
theorem shrI_nat (m : Nat) (j : Nat) (hj : j ≤ 64) : shrI .u64 (m : Int) (j : Int) = ((m / 2 ^ j : Nat) : Int) := by
  unfold shrI
  rw [Int.fdiv_eq_ediv_of_nonneg _ (Int.le_of_lt (Int.pow_pos (by decide)))]
  have : min ((j : Int)).toNat IntKind.u64.bits = j := by
    simp only [Int.toNat_natCast, IntKind.bits]
    omega
  rw [this]
  norm_cast
theorem tab_all : ((List.range 256).all fun i => decide (strAt lenTab i = (lenN i : Int))) = true := by decide +kernel
theorem tab_at (i : Nat) (h : i < 256) : strAt lenTab i = (lenN i : Int) := by
  have := tab_all
  rw [List.all_eq_true] at this
  simpa using this i (by simpa using h)
theorem tab_size : lenTab.size = 256 := by kernel_rfl
/-- A last step through the table. -/
theorem last8 (m : Nat) (h : m < 256) (k : Nat) (hk : k ≤ 56) :
    chk (decide (0 ≤ IntKind.u8.wrap (m : Int)) && decide (IntKind.u8.wrap (m : Int) < lenTab.size)) (some (.int .i64 (w64 ((k : Int) + w64 (strAt lenTab (IntKind.u8.wrap (m : Int)).toNat))))) = some (AV.int .i64 ((k + lenN m : Nat) : Int)) := by
  have hw : IntKind.u8.wrap (m : Int) = m := by rw [IntKind.wrap_u8]; omega
  have hl : lenN m ≤ 8 := lenN_le.2 (by omega)
  rw [hw, tab_size, Int.toNat_natCast, tab_at m h]
  have e1 : decide ((0 : Int) ≤ (m : Int)) = true := by simp
  have e2 : decide ((m : Int) < ((256 : Nat) : Int)) = true := by simp; omega
  have e3 : w64 (lenN m : Int) = lenN m := by unfold w64; rw [IntKind.wrap_i64]; omega
  have e4 : w64 ((k : Int) + (lenN m : Int)) = ((k + lenN m : Nat) : Int) := by unfold w64; rw [IntKind.wrap_i64]; omega
  rw [e1, e2, e3, e4]
  rfl
theorem lenN_add {m k : Nat} (h : 2 ^ k ≤ m) : k + lenN (m / 2 ^ k) = lenN m := by
  rw [lenN_div]
  have : ¬ lenN m ≤ k := fun e => by have := lenN_le.1 e; omega
  omega
def sp_len64 : List AV → Option (Bool × AV)
  | [.int .u64 x] => some (inU x, .int .i64 (lenN x.toNat))
  | _ => none
theorem ok_len64 : EntOk Tryz.prog 140 (entS false sp_len64) := by
  refine contractS (orc := []) (lo := []) Tryz.func140 orc_nil (by kernel_rfl) (by kernel_rfl) (by kernel_rfl) (loops_none (by kernel_rfl)) fun args r h => ?_
  unfold sp_len64 at h
  split at h
  · rename_i x
    simp only [Option.some.injEq, Prod.mk.injEq, inU_iff] at h
    obtain ⟨⟨h0, h1⟩, rfl⟩ := h
    refine ⟨by kernel_rfl, .inr rfl, (run_len64 x).trans ?_⟩
    obtain ⟨m, rfl⟩ : ∃ m : Nat, x = m := ⟨x.toNat, (Int.toNat_of_nonneg h0).symm⟩
    simp only [Int.toNat_natCast]
    have s32 : ∀ m : Nat, shrI .u64 (m : Int) 32 = ((m / 2 ^ 32 : Nat) : Int) := fun m => shrI_nat m 32 (by decide)
    have s16 : ∀ m : Nat, shrI .u64 (m : Int) 16 = ((m / 2 ^ 16 : Nat) : Int) := fun m => shrI_nat m 16 (by decide)
    have s8 : ∀ m : Nat, shrI .u64 (m : Int) 8 = ((m / 2 ^ 8 : Nat) : Int) := fun m => shrI_nat m 8 (by decide)
    simp only [s32, s16, s8]
    have hm : m < 18446744073709551616 := by omega
    by_cases c1 : (m : Int) ≥ 4294967296
    · rw [decide_eq_true c1, cond_true]
      have g1 := lenN_add (m := m) (k := 32) (by omega)
      by_cases c2 : ((m / 2 ^ 32 : Nat) : Int) ≥ 65536
      · rw [decide_eq_true c2, cond_true]
        have g2 := lenN_add (m := m / 2 ^ 32) (k := 16) (by omega)
        by_cases c3 : ((m / 2 ^ 32 / 2 ^ 16 : Nat) : Int) ≥ 256
        · rw [decide_eq_true c3, cond_true]
          have g3 := lenN_add (m := m / 2 ^ 32 / 2 ^ 16) (k := 8) (by omega)
          refine (last8 (m / 2 ^ 32 / 2 ^ 16 / 2 ^ 8) (by omega) 56 (by decide)).trans ?_
          congr 3
          omega
        · rw [decide_eq_false c3, cond_false]
          refine (last8 (m / 2 ^ 32 / 2 ^ 16) (by omega) 48 (by decide)).trans ?_
          congr 3
          omega
      · rw [decide_eq_false c2, cond_false]
        by_cases c3 : ((m / 2 ^ 32 : Nat) : Int) ≥ 256
        · rw [decide_eq_true c3, cond_true]
          have g3 := lenN_add (m := m / 2 ^ 32) (k := 8) (by omega)
          refine (last8 (m / 2 ^ 32 / 2 ^ 8) (by omega) 40 (by decide)).trans ?_
          congr 3
          omega
        · rw [decide_eq_false c3, cond_false]
          refine (last8 (m / 2 ^ 32) (by omega) 32 (by decide)).trans ?_
          congr 3
    · rw [decide_eq_false c1, cond_false]
      by_cases c2 : (m : Int) ≥ 65536
      · rw [decide_eq_true c2, cond_true]
        have g2 := lenN_add (m := m) (k := 16) (by omega)
        by_cases c3 : ((m / 2 ^ 16 : Nat) : Int) ≥ 256
        · rw [decide_eq_true c3, cond_true]
          have g3 := lenN_add (m := m / 2 ^ 16) (k := 8) (by omega)
          refine (last8 (m / 2 ^ 16 / 2 ^ 8) (by omega) 24 (by decide)).trans ?_
          congr 3
          omega
        · rw [decide_eq_false c3, cond_false]
          refine (last8 (m / 2 ^ 16) (by omega) 16 (by decide)).trans ?_
          congr 3
      · rw [decide_eq_false c2, cond_false]
        by_cases c3 : (m : Int) ≥ 256
        · rw [decide_eq_true c3, cond_true]
          have g3 := lenN_add (m := m) (k := 8) (by omega)
          refine (last8 (m / 2 ^ 8) (by omega) 8 (by decide)).trans ?_
          congr 3
        · rw [decide_eq_false c3, cond_false]
          refine (last8 m (by omega) 0 (by decide)).trans ?_
          congr 3
          omega
  · cases h
end
end Go.Proofs.YtbakldcbaikgpaaGreatDoor
/- wide: lengths, bits, comparison. Own work. -/
namespace Go.Proofs.YtbakldcbaikgpaaGreatDoor
set_option maxRecDepth 100000
noncomputable section
def orcLen : List (FuncId × Ent) := [(140, entS false sp_len64)]
theorem run_wLen (a0 a1 a2 a3 : Int) : callA (env Tryz.f107.ntmps orcLen []) (bodyC Tryz.f107) Tryz.f107.results.toList (slots 0 [.ints 4 .u64 [a0, a1, a2, a3]]) some =
    bif a3 != 0 then chk (inU a3) (some (.int .i64 (w64 (192 + (lenN a3.toNat : Int))))) else bif a2 != 0 then chk (inU a2) (some (.int .i64 (w64 (128 + (lenN a2.toNat : Int))))) else
      bif a1 != 0 then chk (inU a1) (some (.int .i64 (w64 (64 + (lenN a1.toNat : Int))))) else bif a0 != 0 then chk (inU a0) (some (.int .i64 (w64 (0 + (lenN a0.toNat : Int))))) else some (.int .i64 0) := by kernel_rfl
def sp_wLen : List AV → Option (Bool × AV)
  | [.ints 4 .u64 a] => some (okW a, .int .i64 (lenN (valW a)))
  | _ => none
theorem lenN_lt64 {x : Int} (h0 : 0 ≤ x) (h1 : x < 18446744073709551616) : lenN x.toNat ≤ 64 := lenN_le.2 (by omega)
theorem w64_small {x : Int} (h0 : 0 ≤ x) (h1 : x ≤ 100000000) : w64 x = x := by unfold w64; rw [IntKind.wrap_i64]; omega
theorem ok_wLen : EntOk Tryz.prog 107 (entS false sp_wLen) := by
  refine contractS (orc := orcLen) (lo := []) Tryz.func107 (orc_cons ok_len64 orc_nil) (by kernel_rfl) (by kernel_rfl) (by kernel_rfl) (loops_none (by kernel_rfl)) fun args r h => ?_
  unfold sp_wLen at h
  split at h
  · rename_i a
    simp only [Option.some.injEq, Prod.mk.injEq] at h
    obtain ⟨ha, rfl⟩ := h
    obtain ⟨a0, a1, a2, a3, rfl, ra0, ra1, ra2, ra3⟩ := okW_split ha
    refine ⟨by kernel_rfl, .inr rfl, (run_wLen a0 a1 a2 a3).trans ?_⟩
    have i0 := inU_iff.2 ra0
    have i1 := inU_iff.2 ra1
    have i2 := inU_iff.2 ra2
    have i3 := inU_iff.2 ra3
    have l0 := lenN_lt64 ra0.1 ra0.2
    have l1 := lenN_lt64 ra1.1 ra1.2
    have l2 := lenN_lt64 ra2.1 ra2.2
    have l3 := lenN_lt64 ra3.1 ra3.2
    have hv : valW [a0, a1, a2, a3] = a0.toNat + 18446744073709551616 * a1.toNat + 340282366920938463463374607431768211456 * a2.toNat + 6277101735386680763835789423207666416102355444464034512896 * a3.toNat := rfl
    have fin : ∀ (k : Nat) (y : Int), 0 ≤ y → y < 18446744073709551616 → k ≤ 192 → k + lenN y.toNat = lenN (valW [a0, a1, a2, a3]) → chk (inU y) (some (AV.int .i64 (w64 ((k : Int) + (lenN y.toNat : Int))))) = some (.int .i64 (lenN (valW [a0, a1, a2, a3]))) := by
      intro k y y0 y1 hk he
      rw [inU_iff.2 ⟨y0, y1⟩]
      have := lenN_lt64 y0 y1
      rw [w64_small (by omega) (by omega), ← he]
      rfl
    by_cases c3 : a3 = 0
    · subst c3
      by_cases c2 : a2 = 0
      · subst c2
        by_cases c1 : a1 = 0
        · subst c1
          by_cases c0 : a0 = 0
          · subst c0
            rfl
          · have hd : a0.toNat = valW [a0, 0, 0, 0] := by rw [hv]; simp
            simp only [bne_self_eq_false, cond_false]
            rw [show (a0 != 0) = true by simp [c0], cond_true]
            exact fin 0 a0 ra0.1 ra0.2 (by decide) (by rw [hd]; omega)
        · have hd : valW [a0, a1, 0, 0] / 2 ^ 64 = a1.toNat := by rw [hv]; simp; omega
          simp only [bne_self_eq_false, cond_false]
          rw [show (a1 != 0) = true by simp [c1], cond_true]
          exact fin 64 a1 ra1.1 ra1.2 (by decide) (by rw [← hd]; exact lenN_add (by rw [hv]; simp; omega))
      · have hd : valW [a0, a1, a2, 0] / 2 ^ 128 = a2.toNat := by rw [hv]; simp; omega
        simp only [bne_self_eq_false, cond_false]
        rw [show (a2 != 0) = true by simp [c2], cond_true]
        exact fin 128 a2 ra2.1 ra2.2 (by decide) (by rw [← hd]; exact lenN_add (by rw [hv]; simp; omega))
    · have hd : valW [a0, a1, a2, a3] / 2 ^ 192 = a3.toNat := by rw [hv]; simp; omega
      rw [show (a3 != 0) = true by simp [c3], cond_true]
      exact fin 192 a3 ra3.1 ra3.2 (by decide) (by rw [← hd]; exact lenN_add (by rw [hv]; simp; omega))
  · cases h
/-! ### Of -/
theorem run_wOf (n : Int) : callA (env Tryz.f114.ntmps [] []) (bodyC Tryz.f114) Tryz.f114.results.toList (slots 0 [.int .u64 n]) some = some (.ints 4 .u64 [n, 0, 0, 0]) := by kernel_rfl
def sp_wOf : List AV → Option (Bool × AV)
  | [.int .u64 n] => some (inU n, .ints 4 .u64 (toW n.toNat))
  | _ => none
theorem toW_small {n : Int} (h0 : 0 ≤ n) (h1 : n < 18446744073709551616) : toW n.toNat = [n, 0, 0, 0] :=
  toW_ofZ n.toNat (k := 0) ⟨h0, h1⟩ ⟨by decide, by decide⟩ ⟨by decide, by decide⟩ ⟨by decide, by decide⟩ (by decide) (by omega)
theorem ok_wOf : EntOk Tryz.prog 114 (entS false sp_wOf) := by
  refine contractS (orc := []) (lo := []) Tryz.func114 orc_nil (by kernel_rfl) (by kernel_rfl) (by kernel_rfl) (loops_none (by kernel_rfl)) fun args r h => ?_
  unfold sp_wOf at h
  split at h
  · rename_i n
    simp only [Option.some.injEq, Prod.mk.injEq, inU_iff] at h
    obtain ⟨⟨h0, h1⟩, rfl⟩ := h
    exact ⟨by kernel_rfl, .inr rfl, (run_wOf n).trans (by rw [toW_small h0 h1])⟩
  · cases h
/-! ### Cmp -/
theorem run_wCmp (a0 a1 a2 a3 b0 b1 b2 b3 : Int) : callA (env Tryz.f145.ntmps [] []) (bodyC Tryz.f145) Tryz.f145.results.toList (slots 0 [.ints 4 .u64 [a0, a1, a2, a3], .ints 4 .u64 [b0, b1, b2, b3]]) some =
    bif decide (a3 < b3) then some (.int .i64 (-1)) else bif decide (a3 > b3) then some (.int .i64 1) else bif decide (a2 < b2) then some (.int .i64 (-1)) else bif decide (a2 > b2) then some (.int .i64 1) else
    bif decide (a1 < b1) then some (.int .i64 (-1)) else bif decide (a1 > b1) then some (.int .i64 1) else bif decide (a0 < b0) then some (.int .i64 (-1)) else bif decide (a0 > b0) then some (.int .i64 1) else some (.int .i64 0) := by kernel_rfl
def cmpN (x y : Nat) : Int := if x < y then -1 else if x > y then 1 else 0
def sp_wCmp : List AV → Option (Bool × AV)
  | [.ints 4 .u64 a, .ints 4 .u64 b] => some (okW a && okW b, .int .i64 (cmpN (valW a) (valW b)))
  | _ => none
theorem ok_wCmp : EntOk Tryz.prog 145 (entS false sp_wCmp) := by
  refine contractS (orc := []) (lo := []) Tryz.func145 orc_nil (by kernel_rfl) (by kernel_rfl) (by kernel_rfl) (loops_none (by kernel_rfl)) fun args r h => ?_
  unfold sp_wCmp at h
  split at h
  · rename_i a b
    simp only [Option.some.injEq, Prod.mk.injEq, Bool.and_eq_true] at h
    obtain ⟨⟨ha, hb⟩, rfl⟩ := h
    obtain ⟨a0, a1, a2, a3, rfl, ra0, ra1, ra2, ra3⟩ := okW_split ha
    obtain ⟨b0, b1, b2, b3, rfl, rb0, rb1, rb2, rb3⟩ := okW_split hb
    refine ⟨by kernel_rfl, .inr rfl, (run_wCmp a0 a1 a2 a3 b0 b1 b2 b3).trans ?_⟩
    have hz := valZ ra0.1 ra1.1 ra2.1 ra3.1
    have hz' := valZ rb0.1 rb1.1 rb2.1 rb3.1
    generalize valW [a0, a1, a2, a3] = V at *
    generalize valW [b0, b1, b2, b3] = V' at *
    have lo : V < V' → cmpN V V' = -1 := fun h => by unfold cmpN; rw [if_pos h]
    have hi : V' < V → cmpN V V' = 1 := fun h => by unfold cmpN; rw [if_neg (by omega), if_pos h]
    have eq : V = V' → cmpN V V' = 0 := fun h => by unfold cmpN; rw [if_neg (by omega), if_neg (by omega)]
    by_cases c1 : a3 < b3
    · rw [decide_eq_true c1, lo (by omega)]; rfl
    rw [decide_eq_false c1]
    by_cases c2 : a3 > b3
    · rw [decide_eq_true c2, hi (by omega)]; rfl
    rw [decide_eq_false c2]
    by_cases c3 : a2 < b2
    · rw [decide_eq_true c3, lo (by omega)]; rfl
    rw [decide_eq_false c3]
    by_cases c4 : a2 > b2
    · rw [decide_eq_true c4, hi (by omega)]; rfl
    rw [decide_eq_false c4]
    by_cases c5 : a1 < b1
    · rw [decide_eq_true c5, lo (by omega)]; rfl
    rw [decide_eq_false c5]
    by_cases c6 : a1 > b1
    · rw [decide_eq_true c6, hi (by omega)]; rfl
    rw [decide_eq_false c6]
    by_cases c7 : a0 < b0
    · rw [decide_eq_true c7, lo (by omega)]; rfl
    rw [decide_eq_false c7]
    by_cases c8 : a0 > b0
    · rw [decide_eq_true c8, hi (by omega)]; rfl
    rw [decide_eq_false c8, eq (by omega)]; rfl
  · cases h
end
end Go.Proofs.YtbakldcbaikgpaaGreatDoor
/- wide: bits, shifts. Own work. -/
namespace Go.Proofs.YtbakldcbaikgpaaGreatDoor
set_option maxRecDepth 100000
noncomputable section
/-! ### Words, bit by bit -/
theorem andI_one (m : Nat) (h : m < 18446744073709551616) : andI .u64 (m : Int) 1 = ((m % 2 : Nat) : Int) := by
  unfold andI
  rw [IntKind.wrap_u64]
  have h1 : (BitVec.ofInt IntKind.u64.bits (m : Int) &&& BitVec.ofInt IntKind.u64.bits 1).toNat = m % 2 := by
    rw [BitVec.toNat_and]
    simp only [IntKind.bits, BitVec.toNat_ofInt]
    have e1 : ((m : Int) % ((2 ^ 64 : Nat) : Int)).toNat = m := by omega
    have e2 : ((1 : Int) % ((2 ^ 64 : Nat) : Int)).toNat = 1 := by decide
    rw [e1, e2, Nat.and_one_is_mod]
  rw [h1]
  omega
theorem orI_add (x y r : Nat) (hx : x * 2 ^ r < 18446744073709551616) (hy : y < 2 ^ r) (hr : r ≤ 64) : orI .u64 ((x * 2 ^ r : Nat) : Int) (y : Int) = ((x * 2 ^ r + y : Nat) : Int) := by
  unfold orI
  rw [IntKind.wrap_u64]
  have hp : 2 ^ r ≤ 2 ^ 64 := Nat.pow_le_pow_right (by decide) hr
  have hs : x * 2 ^ r + y < 18446744073709551616 := by
    have h1 : x * 2 ^ r + 2 ^ r ≤ 2 ^ 64 := by
      have h2 : x < 2 ^ (64 - r) := by
        rw [← Nat.mul_lt_mul_right (Nat.two_pow_pos r), ← Nat.pow_add, show 64 - r + r = 64 by omega]
        exact hx
      have h3 : (x + 1) * 2 ^ r ≤ 2 ^ (64 - r) * 2 ^ r := Nat.mul_le_mul_right _ h2
      rw [← Nat.pow_add, show 64 - r + r = 64 by omega, Nat.add_mul, Nat.one_mul] at h3
      exact h3
    omega
  have h1 : (BitVec.ofInt IntKind.u64.bits ((x * 2 ^ r : Nat) : Int) ||| BitVec.ofInt IntKind.u64.bits (y : Int)).toNat = x * 2 ^ r + y := by
    rw [BitVec.toNat_or]
    simp only [IntKind.bits, BitVec.toNat_ofInt]
    have e1 : (((x * 2 ^ r : Nat) : Int) % ((2 ^ 64 : Nat) : Int)).toNat = x * 2 ^ r := by
      generalize x * 2 ^ r = X at *
      omega
    have e2 : ((y : Int) % ((2 ^ 64 : Nat) : Int)).toNat = y := by omega
    rw [e1, e2, ← Nat.shiftLeft_eq, Nat.shiftLeft_add_eq_or_of_lt hy]
  rw [h1]
  generalize x * 2 ^ r + y = X at *
  omega
theorem shlI_nat (m j : Nat) (hj : j ≤ 64) : shlI .u64 (m : Int) (j : Int) = ((m * 2 ^ j % 18446744073709551616 : Nat) : Int) := by
  unfold shlI
  have : min ((j : Int)).toNat IntKind.u64.bits = j := by
    simp only [Int.toNat_natCast, IntKind.bits]
    omega
  rw [this, IntKind.wrap_u64, Int.natCast_emod, Int.natCast_mul, Int.natCast_pow]
  rfl
/-- A word times 2^r: what stays, and what goes over. -/
theorem word_shl (a r : Nat) (hr : r ≤ 64) : a * 2 ^ r % 18446744073709551616 = a % 2 ^ (64 - r) * 2 ^ r ∧ a * 2 ^ r / 18446744073709551616 = a / 2 ^ (64 - r) := by
  have hp : (18446744073709551616 : Nat) = 2 ^ (64 - r) * 2 ^ r := by rw [← Nat.pow_add, show 64 - r + r = 64 by omega]
  rw [hp]
  exact ⟨Nat.mul_mod_mul_right _ _ _, Nat.mul_div_mul_right _ _ (Nat.two_pow_pos r)⟩
/-! ### Bit -/
theorem run_wBit (a : List Int) (n : Int) : callA (env Tryz.f153.ntmps [] []) (bodyC Tryz.f153) Tryz.f153.results.toList (slots 0 [.ints 4 .u64 a, .int .i64 n]) some =
    bif decide (n < 0) then some (.int .u64 0) else bif decide (n ≥ 256) then some (.int .u64 0) else chk (decide (0 ≤ w64 (n.tdiv 64)) && decide (w64 (n.tdiv 64) < 4)) (chk (!decide (n.tmod 64 < 0))
      (some (.int .u64 (andI .u64 (shrI .u64 (a.getD (w64 (n.tdiv 64)).toNat 0) (n.tmod 64)) 1)))) := by kernel_rfl
def bitN (v : Nat) (n : Int) : Nat := if n < 0 then 0 else v / 2 ^ n.toNat % 2
def sp_wBit : List AV → Option (Bool × AV)
  | [.ints 4 .u64 a, .int .i64 n] => some (okW a, .int .u64 (bitN (valW a) n))
  | _ => none
/-- A word of a number. -/
theorem wordAt {a : List Int} (h : okW a = true) (q : Nat) (hq : q < 4) : a.getD q 0 = ((valW a / 2 ^ (64 * q) % 18446744073709551616 : Nat) : Int) := by
  have hw := toW_valW h
  rw [← hw]
  generalize valW a = v
  have e : valW (toW v) = v % 115792089237316195423570985008687907853269984665640564039457584007913129639936 := valW_toW v
  rw [e]
  match q, hq with
  | 0, _ => first | (simp [toW_def]; done) | (simp [toW_def]; omega)
  | 1, _ => first | (simp [toW_def]; done) | (simp [toW_def]; omega)
  | 2, _ => first | (simp [toW_def]; done) | (simp [toW_def]; omega)
  | 3, _ => first | (simp [toW_def]; done) | (simp [toW_def]; omega)
theorem split64 (n : Nat) : ((n : Int).tdiv 64) = ((n / 64 : Nat) : Int) ∧ ((n : Int).tmod 64) = ((n % 64 : Nat) : Int) := by
  rw [Int.tdiv_eq_ediv_of_nonneg (by omega), Int.tmod_eq_emod_of_nonneg (by omega)]
  omega
theorem ok_wBit : EntOk Tryz.prog 153 (entS false sp_wBit) := by
  refine contractS (orc := []) (lo := []) Tryz.func153 orc_nil (by kernel_rfl) (by kernel_rfl) (by kernel_rfl) (loops_none (by kernel_rfl)) fun args r h => ?_
  unfold sp_wBit at h
  split at h
  · rename_i a n
    simp only [Option.some.injEq, Prod.mk.injEq] at h
    obtain ⟨ha, rfl⟩ := h
    refine ⟨by kernel_rfl, .inr rfl, (run_wBit a n).trans ?_⟩
    unfold bitN
    by_cases h0 : n < 0
    · rw [decide_eq_true h0, if_pos h0]; rfl
    rw [decide_eq_false h0, cond_false, if_neg h0]
    obtain ⟨m, rfl⟩ : ∃ m : Nat, n = m := ⟨n.toNat, (Int.toNat_of_nonneg (by omega)).symm⟩
    have hlt := valW_lt ha
    by_cases h1 : (m : Int) ≥ 256
    · rw [decide_eq_true h1, cond_true, Int.toNat_natCast]
      have : valW a / 2 ^ m = 0 := Nat.div_eq_of_lt (Nat.lt_of_lt_of_le hlt (by
        have := Nat.pow_le_pow_right (n := 2) (by decide) (show 256 ≤ m by omega)
        exact Nat.le_trans (by decide) this))
      rw [this]
      rfl
    · rw [decide_eq_false h1, cond_false]
      obtain ⟨s1, s2⟩ := split64 m
      rw [s1, s2]
      have hw : w64 ((m / 64 : Nat) : Int) = ((m / 64 : Nat) : Int) := w64_small (by omega) (by omega)
      rw [hw, Int.toNat_natCast, Int.toNat_natCast, wordAt ha (m / 64) (by omega), shrI_nat _ (m % 64) (by omega)]
      have e1 : decide ((0 : Int) ≤ ((m / 64 : Nat) : Int)) = true := by simp; omega
      have e2 : decide (((m / 64 : Nat) : Int) < 4) = true := by simp; omega
      have e3 : (!decide (((m % 64 : Nat) : Int) < 0)) = true := by simp; omega
      rw [e1, e2, e3]
      have hsm : valW a / 2 ^ (64 * (m / 64)) % 18446744073709551616 / 2 ^ (m % 64) < 18446744073709551616 := Nat.lt_of_le_of_lt (Nat.div_le_self _ _) (Nat.mod_lt _ (by decide))
      rw [andI_one _ hsm]
      have e4 : valW a / 2 ^ (64 * (m / 64)) % 18446744073709551616 / 2 ^ (m % 64) % 2 = valW a / 2 ^ m % 2 := by
        have h2 : (18446744073709551616 : Nat) = 2 ^ (m % 64) * 2 ^ (64 - m % 64) := by rw [← Nat.pow_add, show m % 64 + (64 - m % 64) = 64 by omega]
        rw [h2, Nat.mod_mul_right_div_self, Nat.div_div_eq_div_mul, ← Nat.pow_add, show 64 * (m / 64) + m % 64 = m by omega]
        have h3 : (2 : Nat) ^ (64 - m % 64) = 2 * 2 ^ (63 - m % 64) := by rw [show 64 - m % 64 = (63 - m % 64) + 1 by omega, Nat.pow_succ, Nat.mul_comm]
        rw [h3, Nat.mod_mul_right_mod]
      rw [e4]
      rfl
  · cases h
end
end Go.Proofs.YtbakldcbaikgpaaGreatDoor
/- wide: shifts to the left. Own work. -/
namespace Go.Proofs.YtbakldcbaikgpaaGreatDoor
set_option maxRecDepth 100000
noncomputable section
def hShl : Hint := { fuel := none, keep := [1, 6, 7], refs := [(2, 2, 118, .dead), (4, 4, 118, .dead), (5, 5, 118, .dead)] }
def hShlOut : Hint := { fuel := none, keep := [], refs := [(4, 4, 118, .dead), (5, 5, 118, .dead)] }
def stepShl (R : Type) (vs : List AV) (k1 : List AV → Option R) (k2 : Nat → List AV → Option R) : Option R :=
  match vs with
  | [.ints 4 .u64 a, .ints 4 .u64 r4, .ints 4 .u64 out, .int .i64 n, .int .i64 d, .int .i64 i] =>
    bif decide (i ≥ d) then
      chk (decide (0 ≤ w64 (i - d)) && decide (w64 (i - d) < 4)) (chk (!decide (n.tmod 64 < 0)) (chk (decide (0 ≤ i) && decide (i < 4))
        (bif decide (i > d) then
          chk (decide (0 ≤ i) && decide (i < 4)) (chk (decide (0 ≤ w64 (w64 (i - d) - 1)) && decide (w64 (w64 (i - d) - 1) < 4)) (chk (!decide (w64 (64 - n.tmod 64) < 0)) (chk (decide (0 ≤ i) && decide (i < 4))
            (k1 [.ints 4 .u64 a, .ints 4 .u64 r4, .ints 4 .u64 ((out.set i.toNat (shlI .u64 (a.getD (w64 (i - d)).toNat 0) (n.tmod 64))).set i.toNat
              (orI .u64 ((out.set i.toNat (shlI .u64 (a.getD (w64 (i - d)).toNat 0) (n.tmod 64))).getD i.toNat 0) (shrI .u64 (a.getD (w64 (w64 (i - d) - 1)).toNat 0) (w64 (64 - n.tmod 64))))), .int .i64 n, .int .i64 d, .int .i64 (w64 (i - 1))]))))
        else k1 [.ints 4 .u64 a, .ints 4 .u64 r4, .ints 4 .u64 (out.set i.toNat (shlI .u64 (a.getD (w64 (i - d)).toNat 0) (n.tmod 64))), .int .i64 n, .int .i64 d, .int .i64 (w64 (i - 1))])))
    else k2 0 [.ints 4 .u64 r4, .ints 4 .u64 out]
  | _ => none
def leShl : LEnt :=
  { inn := hShl
    out := hShlOut
    ret := hShlOut
    go := fun _ _ vs kk => match vs with
      | [.ints 4 .u64 a, .ints 4 .u64 r4, .ints 4 .u64 [0, 0, 0, 0], .int .i64 n, .int .i64 d, .int .i64 3] =>
        chk (okW a && decide (0 ≤ n) && decide (n < 256) && decide (d = n.tdiv 64)) (kk 0 [.ints 4 .u64 r4, .ints 4 .u64 (toW (valW a * 2 ^ n.toNat))])
      | _ => none }
theorem step_shl (R : Type) (a r4 out : List Int) (n d i : Int) (k1 : List AV → Option R) (k2 : Nat → List AV → Option R) :
    runA (env Tryz.f139.ntmps [] []) (loopOf 0 (bodyC Tryz.f139)) 0 (stateOf leShl.inn [.ints 4 .u64 a, .ints 4 .u64 r4, .ints 4 .u64 out, .int .i64 n, .int .i64 d, .int .i64 i]) (bodyK leShl 0 k1 k2) =
    stepShl R [.ints 4 .u64 a, .ints 4 .u64 r4, .ints 4 .u64 out, .int .i64 n, .int .i64 d, .int .i64 i] k1 k2 := by kernel_rfl
theorem run_wShl (a : List Int) (n : Int) : callA (env Tryz.f139.ntmps [] [(0, leShl)]) (bodyC Tryz.f139) Tryz.f139.results.toList (slots 0 [.ints 4 .u64 a, .int .i64 n]) some =
    bif decide (n < 1) then some (.ints 4 .u64 a) else bif decide (n ≥ 256) then some (.ints 4 .u64 [0, 0, 0, 0]) else
      chk (okW a && decide (0 ≤ n) && decide (n < 256) && decide (w64 (n.tdiv 64) = n.tdiv 64)) (some (.ints 4 .u64 (toW (valW a * 2 ^ n.toNat)))) := by kernel_rfl
/-- One word of a shifted number: the low part of its own, the high part of the one below. -/
def shw (x y : Nat) (r : Nat) : Nat := x % 2 ^ (64 - r) * 2 ^ r + y / 2 ^ (64 - r)
theorem shw_lt (x y r : Nat) (hr : r ≤ 64) (hy : y < 18446744073709551616) : shw x y r < 18446744073709551616 := by
  unfold shw
  have hp : (18446744073709551616 : Nat) = 2 ^ (64 - r) * 2 ^ r := by rw [← Nat.pow_add, show 64 - r + r = 64 by omega]
  have h1 : x % 2 ^ (64 - r) < 2 ^ (64 - r) := Nat.mod_lt _ (Nat.two_pow_pos _)
  have h2 : y / 2 ^ (64 - r) < 2 ^ r := by
    rw [Nat.div_lt_iff_lt_mul (Nat.two_pow_pos _), Nat.mul_comm, ← hp]; exact hy
  have h3 : (x % 2 ^ (64 - r) + 1) * 2 ^ r ≤ 2 ^ (64 - r) * 2 ^ r := Nat.mul_le_mul_right _ h1
  rw [← hp, Nat.add_mul, Nat.one_mul] at h3
  omega
theorem word_or (x y r : Nat) (hr : r ≤ 64) (hy : y < 18446744073709551616) : orI .u64 (shlI .u64 (x : Int) (r : Int)) (shrI .u64 (y : Int) ((64 - r : Nat) : Int)) = ((shw x y r : Nat) : Int) := by
  have hp : (18446744073709551616 : Nat) = 2 ^ (64 - r) * 2 ^ r := by rw [← Nat.pow_add, show 64 - r + r = 64 by omega]
  rw [shlI_nat _ _ hr, shrI_nat _ _ (by omega), (word_shl x r hr).1]
  refine orI_add _ _ r ?_ ?_ hr
  · have h1 : x % 2 ^ (64 - r) < 2 ^ (64 - r) := Nat.mod_lt _ (Nat.two_pow_pos _)
    have := Nat.mul_lt_mul_of_pos_right h1 (Nat.two_pow_pos r)
    rw [← hp] at this
    exact this
  · rw [Nat.div_lt_iff_lt_mul (Nat.two_pow_pos _), Nat.mul_comm, ← hp]; exact hy
theorem word_low (x r : Nat) (hr : r ≤ 64) : shlI .u64 (x : Int) (r : Int) = ((shw x 0 r : Nat) : Int) := by
  rw [shlI_nat _ _ hr, (word_shl x r hr).1]
  unfold shw
  rw [Nat.zero_div, Nat.add_zero]
/-- Four words times 2^r. -/
theorem four_shl (a b c d r : Nat) (hr : r ≤ 64) : ∃ k, (a + 18446744073709551616 * b + 340282366920938463463374607431768211456 * c + 6277101735386680763835789423207666416102355444464034512896 * d) * 2 ^ r =
    shw a 0 r + 18446744073709551616 * shw b a r + 340282366920938463463374607431768211456 * shw c b r + 6277101735386680763835789423207666416102355444464034512896 * shw d c r + 115792089237316195423570985008687907853269984665640564039457584007913129639936 * k := by
  refine ⟨d / 2 ^ (64 - r), ?_⟩
  have h : ∀ x : Nat, x * 2 ^ r = x % 2 ^ (64 - r) * 2 ^ r + 18446744073709551616 * (x / 2 ^ (64 - r)) := by
    intro x
    have h1 := word_shl x r hr
    have h2 := Nat.mod_add_div (x * 2 ^ r) 18446744073709551616
    rw [h1.1, h1.2] at h2
    exact h2.symm
  have ha := h a
  have hb := h b
  have hc := h c
  have hd := h d
  unfold shw
  rw [Nat.zero_div, Nat.add_mul, Nat.add_mul, Nat.add_mul, Nat.mul_assoc, Nat.mul_assoc, Nat.mul_assoc, ha, hb, hc, hd]
  generalize a % 2 ^ (64 - r) * 2 ^ r = a1
  generalize a / 2 ^ (64 - r) = a2
  generalize b % 2 ^ (64 - r) * 2 ^ r = b1
  generalize b / 2 ^ (64 - r) = b2
  generalize c % 2 ^ (64 - r) * 2 ^ r = c1
  generalize c / 2 ^ (64 - r) = c2
  generalize d % 2 ^ (64 - r) * 2 ^ r = d1
  generalize d / 2 ^ (64 - r) = d2
  omega
def wd (a : List Int) (q : Nat) : Nat := valW a / 2 ^ (64 * q) % 18446744073709551616
theorem wd_lt (a : List Int) (q : Nat) : wd a q < 18446744073709551616 := Nat.mod_lt _ (by decide)
theorem shl_hi (R : Type) {a r4 out : List Int} (ha : okW a = true) (hl : out.length = 4) {d i r : Nat} (hd : d < i) (hi : i < 4) (hr : r < 64) (k1 : List AV → Option R) (k2 : Nat → List AV → Option R) :
    stepShl R [.ints 4 .u64 a, .ints 4 .u64 r4, .ints 4 .u64 out, .int .i64 ((64 * d + r : Nat) : Int), .int .i64 d, .int .i64 i] k1 k2 =
      k1 [.ints 4 .u64 a, .ints 4 .u64 r4, .ints 4 .u64 (out.set i ((shw (wd a (i - d)) (wd a (i - d - 1)) r : Nat) : Int)), .int .i64 ((64 * d + r : Nat) : Int), .int .i64 d, .int .i64 ((i : Int) - 1)] := by
  have t := (split64 (64 * d + r)).2
  rw [show (64 * d + r) % 64 = r by omega] at t
  have e1 : decide ((i : Int) ≥ d) = true := by simp; omega
  have e2 : w64 ((i : Int) - d) = ((i - d : Nat) : Int) := by rw [w64_small (by omega) (by omega)]; omega
  have e3 : w64 (((i - d : Nat) : Int) - 1) = ((i - d - 1 : Nat) : Int) := by rw [w64_small (by omega) (by omega)]; omega
  have e4 : w64 (64 - (r : Int)) = ((64 - r : Nat) : Int) := by rw [w64_small (by omega) (by omega)]; omega
  have e5 : decide ((0 : Int) ≤ ((i - d : Nat) : Int)) = true := by simp
  have e6 : decide (((i - d : Nat) : Int) < 4) = true := by simp; omega
  have e7 : decide ((r : Int) < 0) = false := by simp
  have e8 : decide ((0 : Int) ≤ (i : Int)) = true := by simp
  have e9 : decide ((i : Int) < 4) = true := by simp; omega
  have e10 : decide ((i : Int) > d) = true := by simp; omega
  have e11 : decide ((0 : Int) ≤ ((i - d - 1 : Nat) : Int)) = true := by simp
  have e12 : decide (((i - d - 1 : Nat) : Int) < 4) = true := by simp; omega
  have e13 : decide (((64 - r : Nat) : Int) < 0) = false := by simp
  have e14 : w64 ((i : Int) - 1) = (i : Int) - 1 := w64_small (by omega) (by omega)
  have g : (out.set i (shlI .u64 (a.getD (i - d) 0) (r : Int))).getD i 0 = shlI .u64 (a.getD (i - d) 0) (r : Int) := by
    simp [List.getD, List.getElem?_set_self (show i < out.length by omega)]
  simp only [stepShl, t, e1, e2, e3, e4, e5, e6, e7, e8, e9, e10, e11, e12, e13, e14, cond_true, Bool.and_self, chk, Bool.not_false, Int.toNat_natCast, g, List.set_set]
  rw [wordAt ha (i - d) (by omega), wordAt ha (i - d - 1) (by omega)]
  have := word_or (wd a (i - d)) (wd a (i - d - 1)) r (by omega) (wd_lt _ _)
  unfold wd at this ⊢
  rw [this]
theorem shl_eq (R : Type) {a r4 out : List Int} (ha : okW a = true) {d r : Nat} (hi : d < 4) (hr : r < 64) (k1 : List AV → Option R) (k2 : Nat → List AV → Option R) :
    stepShl R [.ints 4 .u64 a, .ints 4 .u64 r4, .ints 4 .u64 out, .int .i64 ((64 * d + r : Nat) : Int), .int .i64 d, .int .i64 d] k1 k2 =
      k1 [.ints 4 .u64 a, .ints 4 .u64 r4, .ints 4 .u64 (out.set d ((shw (wd a 0) 0 r : Nat) : Int)), .int .i64 ((64 * d + r : Nat) : Int), .int .i64 d, .int .i64 ((d : Int) - 1)] := by
  have t := (split64 (64 * d + r)).2
  rw [show (64 * d + r) % 64 = r by omega] at t
  have e1 : decide ((d : Int) ≥ d) = true := by simp
  have e2 : w64 ((d : Int) - d) = ((0 : Nat) : Int) := by rw [w64_small (by omega) (by omega)]; omega
  have e7 : decide ((r : Int) < 0) = false := by simp
  have e8 : decide ((0 : Int) ≤ (d : Int)) = true := by simp
  have e9 : decide ((d : Int) < 4) = true := by simp; omega
  have e10 : decide ((d : Int) > d) = false := by simp
  have e14 : w64 ((d : Int) - 1) = (d : Int) - 1 := by unfold w64; rw [IntKind.wrap_i64]; omega
  have e15 : decide ((0 : Int) ≤ ((0 : Nat) : Int)) = true := by decide
  have e16 : decide (((0 : Nat) : Int) < 4) = true := by decide
  simp only [stepShl, t, e1, e2, e7, e8, e9, e10, e14, e15, e16, cond_true, cond_false, Bool.and_self, chk, Bool.not_false, Int.toNat_natCast]
  rw [wordAt ha 0 (by omega)]
  have := word_low (wd a 0) r (by omega)
  unfold wd at this ⊢
  rw [this]
theorem shl_lo (R : Type) {a r4 out : List Int} {d : Nat} {n i : Int} (hi : i < d) (k1 : List AV → Option R) (k2 : Nat → List AV → Option R) :
    stepShl R [.ints 4 .u64 a, .ints 4 .u64 r4, .ints 4 .u64 out, .int .i64 n, .int .i64 d, .int .i64 i] k1 k2 = k2 0 [.ints 4 .u64 r4, .ints 4 .u64 out] := by
  have e1 : decide (i ≥ (d : Int)) = false := by simp; omega
  simp only [stepShl, e1, cond_false]
theorem toW_s0 {s0 s1 s2 s3 k : Nat} (l0 : s0 < 18446744073709551616) (l1 : s1 < 18446744073709551616) (l2 : s2 < 18446744073709551616) (l3 : s3 < 18446744073709551616) :
    toW ((s0 + 18446744073709551616 * s1 + 340282366920938463463374607431768211456 * s2 + 6277101735386680763835789423207666416102355444464034512896 * s3 + 115792089237316195423570985008687907853269984665640564039457584007913129639936 * k) * 2 ^ (64 * 0)) = [(s0 : Int), s1, s2, s3] :=
  toW_of _ s0 s1 s2 s3 k l0 l1 l2 l3 (by omega)
theorem toW_s1 {s0 s1 s2 s3 k : Nat} (l0 : s0 < 18446744073709551616) (l1 : s1 < 18446744073709551616) (l2 : s2 < 18446744073709551616) :
    toW ((s0 + 18446744073709551616 * s1 + 340282366920938463463374607431768211456 * s2 + 6277101735386680763835789423207666416102355444464034512896 * s3 + 115792089237316195423570985008687907853269984665640564039457584007913129639936 * k) * 2 ^ (64 * 1)) = [(0 : Int), s0, s1, s2] :=
  toW_of _ 0 s0 s1 s2 (s3 + 18446744073709551616 * k) (by decide) l0 l1 l2 (by omega)
theorem toW_s2 {s0 s1 s2 s3 k : Nat} (l0 : s0 < 18446744073709551616) (l1 : s1 < 18446744073709551616) :
    toW ((s0 + 18446744073709551616 * s1 + 340282366920938463463374607431768211456 * s2 + 6277101735386680763835789423207666416102355444464034512896 * s3 + 115792089237316195423570985008687907853269984665640564039457584007913129639936 * k) * 2 ^ (64 * 2)) = [(0 : Int), 0, s0, s1] :=
  toW_of _ 0 0 s0 s1 (s2 + 18446744073709551616 * s3 + 340282366920938463463374607431768211456 * k) (by decide) (by decide) l0 l1 (by omega)
theorem toW_s3 {s0 s1 s2 s3 k : Nat} (l0 : s0 < 18446744073709551616) :
    toW ((s0 + 18446744073709551616 * s1 + 340282366920938463463374607431768211456 * s2 + 6277101735386680763835789423207666416102355444464034512896 * s3 + 115792089237316195423570985008687907853269984665640564039457584007913129639936 * k) * 2 ^ (64 * 3)) = [(0 : Int), 0, 0, s0] :=
  toW_of _ 0 0 0 s0 (s1 + 18446744073709551616 * s2 + 340282366920938463463374607431768211456 * s3 + 6277101735386680763835789423207666416102355444464034512896 * k) (by decide) (by decide) (by decide) l0 (by omega)
theorem wd_limbs {a0 a1 a2 a3 : Int} (h : okW [a0, a1, a2, a3] = true) : wd [a0, a1, a2, a3] 0 = a0.toNat ∧ wd [a0, a1, a2, a3] 1 = a1.toNat ∧ wd [a0, a1, a2, a3] 2 = a2.toNat ∧ wd [a0, a1, a2, a3] 3 = a3.toNat := by
  have h0 := wordAt h 0 (by omega)
  have h1 := wordAt h 1 (by omega)
  have h2 := wordAt h 2 (by omega)
  have h3 := wordAt h 3 (by omega)
  simp only [List.getD_cons_zero, List.getD_cons_succ] at h0 h1 h2 h3
  unfold wd
  refine ⟨?_, ?_, ?_, ?_⟩
  · conv => rhs; rw [h0]
    rfl
  · conv => rhs; rw [h1]
    rfl
  · conv => rhs; rw [h2]
    rfl
  · conv => rhs; rw [h3]
    rfl
theorem go_shl (R : Type) (n : Nat) (vs : List AV) (kk : Nat → List AV → Option R) (r : R) (h : leShl.go R n vs kk = some r) : ∃ m, loopN (stepShl R) m vs kk = some r := by
  simp only [leShl] at h
  split at h
  · rename_i a r4 n d
    obtain ⟨hg, hk⟩ := chk_some h
    clear h
    simp only [Bool.and_eq_true, decide_eq_true_eq] at hg
    obtain ⟨⟨⟨ha, g1⟩, g2⟩, g3⟩ := hg
    obtain ⟨m, rfl⟩ : ∃ m : Nat, n = m := ⟨n.toNat, (Int.toNat_of_nonneg g1).symm⟩
    obtain ⟨q, s, hq, hs, hm⟩ : ∃ q s : Nat, q < 4 ∧ s < 64 ∧ m = 64 * q + s := ⟨m / 64, m % 64, by omega, by omega, by omega⟩
    rw [(split64 m).1, show m / 64 = q by omega] at g3
    subst g3 hm
    obtain ⟨a0, a1, a2, a3, he, ra0, ra1, ra2, ra3⟩ := okW_split ha
    subst he
    obtain ⟨h0, h1, h2, h3⟩ := wd_limbs ha
    have b0 := wd_lt [a0, a1, a2, a3] 0
    have b1 := wd_lt [a0, a1, a2, a3] 1
    have b2 := wd_lt [a0, a1, a2, a3] 2
    have b3 := wd_lt [a0, a1, a2, a3] 3
    rw [h0] at b0
    rw [h1] at b1
    rw [h2] at b2
    rw [h3] at b3
    have hv : valW [a0, a1, a2, a3] = a0.toNat + 18446744073709551616 * a1.toNat + 340282366920938463463374607431768211456 * a2.toNat + 6277101735386680763835789423207666416102355444464034512896 * a3.toNat := rfl
    generalize hV : valW [a0, a1, a2, a3] = V at hv hk
    clear ra0 ra1 ra2 ra3 g1 g2
    have hs' : s ≤ 64 := Nat.le_of_lt hs
    obtain ⟨k, hk4⟩ := four_shl a0.toNat a1.toNat a2.toNat a3.toNat s hs'
    rw [← hv] at hk4
    have l0 := shw_lt a0.toNat 0 s hs' (by decide)
    have l1 := shw_lt a1.toNat a0.toNat s hs' b0
    have l2 := shw_lt a2.toNat a1.toNat s hs' b1
    have l3 := shw_lt a3.toNat a2.toNat s hs' b2
    rw [Int.toNat_natCast, Nat.pow_add, Nat.mul_comm (2 ^ (64 * q)), ← Nat.mul_assoc, hk4] at hk
    clear hk4 hv b0 b1 b2 b3
    match q, hq with
    | 0, _ =>
      refine ⟨5, ?_⟩
      rw [toW_s0 l0 l1 l2 l3] at hk
      rw [loopN, show ((3 : Int)) = ((3 : Nat) : Int) from rfl, shl_hi R ha rfl (by decide) (by decide) hs, loopN, show (((3 : Nat) : Int) - 1) = ((2 : Nat) : Int) from rfl, shl_hi R ha (by simp) (by decide) (by decide) hs, loopN, show (((2 : Nat) : Int) - 1) = ((1 : Nat) : Int) from rfl, shl_hi R ha (by simp) (by decide) (by decide) hs, loopN,
        show (((1 : Nat) : Int) - 1) = ((0 : Nat) : Int) from rfl, shl_eq R ha (by decide) hs, loopN, shl_lo R (by decide)]
      simp only [Nat.sub_zero, Nat.reduceSub, h0, h1, h2, h3, List.set_cons_zero, List.set_cons_succ]
      exact hk
    | 1, _ =>
      refine ⟨4, ?_⟩
      rw [toW_s1 l0 l1 l2] at hk
      rw [loopN, show ((3 : Int)) = ((3 : Nat) : Int) from rfl, shl_hi R ha rfl (by decide) (by decide) hs, loopN, show (((3 : Nat) : Int) - 1) = ((2 : Nat) : Int) from rfl, shl_hi R ha (by simp) (by decide) (by decide) hs, loopN, show (((2 : Nat) : Int) - 1) = ((1 : Nat) : Int) from rfl, shl_eq R ha (by decide) hs, loopN, shl_lo R (by decide)]
      simp only [Nat.reduceSub, h0, h1, h2, List.set_cons_zero, List.set_cons_succ]
      exact hk
    | 2, _ =>
      refine ⟨3, ?_⟩
      rw [toW_s2 l0 l1] at hk
      rw [loopN, show ((3 : Int)) = ((3 : Nat) : Int) from rfl, shl_hi R ha rfl (by decide) (by decide) hs, loopN, show (((3 : Nat) : Int) - 1) = ((2 : Nat) : Int) from rfl, shl_eq R ha (by decide) hs, loopN, shl_lo R (by decide)]
      simp only [Nat.reduceSub, h0, h1, List.set_cons_zero, List.set_cons_succ]
      exact hk
    | 3, _ =>
      refine ⟨2, ?_⟩
      rw [toW_s3 l0] at hk
      rw [loopN, show ((3 : Int)) = ((3 : Nat) : Int) from rfl, shl_eq R ha (by decide) hs, loopN, shl_lo R (by decide)]
      simp only [h0, List.set_cons_zero, List.set_cons_succ]
      exact hk
  · cases h
def sp_wShl : List AV → Option (Bool × AV)
  | [.ints 4 .u64 a, .int .i64 n] => some (okW a, .ints 4 .u64 (toW (valW a * 2 ^ n.toNat)))
  | _ => none
theorem toW_far (v m : Nat) (h : 256 ≤ m) : toW (v * 2 ^ m) = [0, 0, 0, 0] := by
  have e : v * 2 ^ m = 115792089237316195423570985008687907853269984665640564039457584007913129639936 * (v * 2 ^ (m - 256)) := by
    have : (2 : Nat) ^ m = 2 ^ 256 * 2 ^ (m - 256) := by rw [← Nat.pow_add, show 256 + (m - 256) = m by omega]
    rw [this, Nat.mul_left_comm]
  rw [e]
  generalize v * 2 ^ (m - 256) = k
  exact toW_of _ 0 0 0 0 k (by decide) (by decide) (by decide) (by decide) (by omega)
theorem ok_wShl : EntOk Tryz.prog 139 (entS false sp_wShl) := by
  refine contractS (orc := []) (lo := [(0, leShl)]) Tryz.func139 orc_nil (by kernel_rfl) (by kernel_rfl) (by kernel_rfl)
    (loops_one (id := 0) (y := .loop (loopOf 0 (bodyC Tryz.f139))) (by kernel_rfl)
      (loopS (le := leShl) (orc := []) (lo' := []) orc_nil (by kernel_rfl) rfl (loops_none (by kernel_rfl)) stepShl (fun R vs k1 k2 r h => ?_) go_shl)) fun args r h => ?_
  · have h0 := h
    unfold stepShl at h
    split at h
    · exact (step_shl R _ _ _ _ _ _ k1 k2).trans h0
    · cases h
  · unfold sp_wShl at h
    split at h
    · rename_i a n
      simp only [Option.some.injEq, Prod.mk.injEq] at h
      obtain ⟨ha, rfl⟩ := h
      refine ⟨by kernel_rfl, .inr rfl, (run_wShl a n).trans ?_⟩
      by_cases h1 : n < 1
      · rw [decide_eq_true h1, cond_true, show n.toNat = 0 by omega, Nat.pow_zero, Nat.mul_one, toW_valW ha]
      rw [decide_eq_false h1, cond_false]
      by_cases h2 : n ≥ 256
      · rw [decide_eq_true h2, cond_true, toW_far _ _ (by omega)]
      rw [decide_eq_false h2, cond_false, ha]
      have e1 : decide (0 ≤ n) = true := by simp; omega
      have e2 : decide (n < 256) = true := by simp; omega
      have e3 : decide (w64 (n.tdiv 64) = n.tdiv 64) = true := by
        obtain ⟨m, rfl⟩ : ∃ m : Nat, n = m := ⟨n.toNat, (Int.toNat_of_nonneg (by omega)).symm⟩
        rw [(split64 m).1]
        exact decide_eq_true (w64_small (by omega) (by omega))
      rw [e1, e2, e3]
      rfl
    · cases h
end
end Go.Proofs.YtbakldcbaikgpaaGreatDoor
/- wide: shifts to the right. Own work. -/
namespace Go.Proofs.YtbakldcbaikgpaaGreatDoor
set_option maxRecDepth 100000
noncomputable section
def hShr : Hint := { fuel := none, keep := [1, 7, 21, 22], refs := [(2, 2, 118, .dead), (4, 4, 118, .dead), (6, 6, 118, .dead)] }
def hShrOut : Hint := { fuel := none, keep := [1], refs := [(2, 2, 118, .dead), (4, 4, 118, .dead), (6, 6, 118, .dead)] }
def stepShr (R : Type) (vs : List AV) (k1 : List AV → Option R) (k2 : Nat → List AV → Option R) : Option R :=
  match vs with
  | [.ints 4 .u64 a, .ints 4 .u64 r4, .ints 4 .u64 out, .int .i64 n, .int .i64 d, .int .i64 e, .int .i64 i] =>
    bif decide (i < e) then
      chk (decide (0 ≤ w64 (i + d)) && decide (w64 (i + d) < 4)) (chk (!decide (n.tmod 64 < 0)) (chk (decide (0 ≤ i) && decide (i < 4))
        (bif decide (w64 (w64 (i + d) + 1) < 4) then
          chk (decide (0 ≤ i) && decide (i < 4)) (chk (decide (0 ≤ w64 (w64 (i + d) + 1)) && decide (w64 (w64 (i + d) + 1) < 4)) (chk (!decide (w64 (64 - n.tmod 64) < 0)) (chk (decide (0 ≤ i) && decide (i < 4))
            (k1 [.ints 4 .u64 a, .ints 4 .u64 r4, .ints 4 .u64 ((out.set i.toNat (shrI .u64 (a.getD (w64 (i + d)).toNat 0) (n.tmod 64))).set i.toNat
              (orI .u64 ((out.set i.toNat (shrI .u64 (a.getD (w64 (i + d)).toNat 0) (n.tmod 64))).getD i.toNat 0) (shlI .u64 (a.getD (w64 (w64 (i + d) + 1)).toNat 0) (w64 (64 - n.tmod 64))))), .int .i64 n, .int .i64 d, .int .i64 e, .int .i64 (w64 (i + 1))]))))
        else k1 [.ints 4 .u64 a, .ints 4 .u64 r4, .ints 4 .u64 (out.set i.toNat (shrI .u64 (a.getD (w64 (i + d)).toNat 0) (n.tmod 64))), .int .i64 n, .int .i64 d, .int .i64 e, .int .i64 (w64 (i + 1))])))
    else k2 0 [.ints 4 .u64 a, .ints 4 .u64 r4, .ints 4 .u64 out, .int .i64 n]
  | _ => none
def leShr : LEnt :=
  { inn := hShr
    out := hShrOut
    ret := hShrOut
    go := fun _ _ vs kk => match vs with
      | [.ints 4 .u64 a, .ints 4 .u64 r4, .ints 4 .u64 [0, 0, 0, 0], .int .i64 n, .int .i64 d, .int .i64 e, .int .i64 0] =>
        chk (okW a && decide (0 ≤ n) && decide (n < 256) && decide (d = n.tdiv 64) && decide (e = 4 - n.tdiv 64)) (kk 0 [.ints 4 .u64 a, .ints 4 .u64 r4, .ints 4 .u64 (toW (valW a / 2 ^ n.toNat)), .int .i64 n])
      | _ => none }
theorem step_shr (R : Type) (a r4 out : List Int) (n d e i : Int) (k1 : List AV → Option R) (k2 : Nat → List AV → Option R) :
    runA (env Tryz.f110.ntmps [] []) (loopOf 0 (bodyC Tryz.f110)) 0 (stateOf leShr.inn [.ints 4 .u64 a, .ints 4 .u64 r4, .ints 4 .u64 out, .int .i64 n, .int .i64 d, .int .i64 e, .int .i64 i]) (bodyK leShr 0 k1 k2) =
    stepShr R [.ints 4 .u64 a, .ints 4 .u64 r4, .ints 4 .u64 out, .int .i64 n, .int .i64 d, .int .i64 e, .int .i64 i] k1 k2 := by kernel_rfl
def orcShr : List (FuncId × Ent) := [(139, entS false sp_wShl)]
theorem run_wShr (a : List Int) (n : Int) : callA (env Tryz.f110.ntmps orcShr [(0, leShr)]) (bodyC Tryz.f110) Tryz.f110.results.toList (slots 0 [.ints 4 .u64 a, .int .i64 n]) some =
    bif decide (n < 1) then some (.tup [.ints 4 .u64 a, .bool false]) else bif decide (n ≥ 256) then some (.tup [.ints 4 .u64 [0, 0, 0, 0], .bool (!decide (a = [0, 0, 0, 0]))]) else
      chk (okW a && decide (0 ≤ n) && decide (n < 256) && decide (w64 (n.tdiv 64) = n.tdiv 64) && decide (w64 (4 - w64 (n.tdiv 64)) = 4 - n.tdiv 64))
        (chk (okW (toW (valW a / 2 ^ n.toNat))) (some (.tup [.ints 4 .u64 (toW (valW a / 2 ^ n.toNat)), .bool (!decide (toW (valW (toW (valW a / 2 ^ n.toNat)) * 2 ^ n.toNat) = a))]))) := by kernel_rfl
/-- One word of a number shifted to the right: the high part of its own, the low part of the one above. -/
def rhw (x y : Nat) (r : Nat) : Nat := x / 2 ^ r + y % 2 ^ r * 2 ^ (64 - r)
theorem orI_comm (x y : Int) : orI .u64 x y = orI .u64 y x := by
  unfold orI
  rw [BitVec.or_comm]
theorem word_orR (x y r : Nat) (hr : r < 64) (hx : x < 18446744073709551616) : orI .u64 (shrI .u64 (x : Int) (r : Int)) (shlI .u64 (y : Int) ((64 - r : Nat) : Int)) = ((rhw x y r : Nat) : Int) := by
  have hp : (18446744073709551616 : Nat) = 2 ^ r * 2 ^ (64 - r) := by rw [← Nat.pow_add, show r + (64 - r) = 64 by omega]
  rw [orI_comm, shlI_nat _ _ (by omega), shrI_nat _ _ (by omega), (word_shl y (64 - r) (by omega)).1, show 64 - (64 - r) = r by omega]
  unfold rhw
  rw [Nat.add_comm]
  refine orI_add _ _ (64 - r) ?_ ?_ (by omega)
  · have h1 : y % 2 ^ r < 2 ^ r := Nat.mod_lt _ (Nat.two_pow_pos r)
    have := Nat.mul_lt_mul_of_pos_right h1 (Nat.two_pow_pos (64 - r))
    rw [← hp] at this
    exact this
  · rw [Nat.div_lt_iff_lt_mul (Nat.two_pow_pos _), Nat.mul_comm, ← hp]; exact hx
theorem word_high (x r : Nat) (hr : r ≤ 64) : shrI .u64 (x : Int) (r : Int) = ((rhw x 0 r : Nat) : Int) := by
  rw [shrI_nat _ _ hr]
  unfold rhw
  rw [Nat.zero_mod, Nat.zero_mul, Nat.add_zero]
theorem rhw_lt (x y r : Nat) (hr : r ≤ 64) (hx : x < 18446744073709551616) : rhw x y r < 18446744073709551616 := by
  have hp : (18446744073709551616 : Nat) = 2 ^ r * 2 ^ (64 - r) := by rw [← Nat.pow_add, show r + (64 - r) = 64 by omega]
  unfold rhw
  have h2 : x / 2 ^ r < 2 ^ (64 - r) := by
    rw [Nat.div_lt_iff_lt_mul (Nat.two_pow_pos _), Nat.mul_comm, ← hp]; exact hx
  have h1 : y % 2 ^ r < 2 ^ r := Nat.mod_lt _ (Nat.two_pow_pos r)
  have h3 : (y % 2 ^ r + 1) * 2 ^ (64 - r) ≤ 2 ^ r * 2 ^ (64 - r) := Nat.mul_le_mul_right _ h1
  rw [← hp, Nat.add_mul, Nat.one_mul] at h3
  omega
/-- Four words divided by 2^r. -/
theorem four_shr (a b c d r : Nat) (hr : r ≤ 64) : (a + 18446744073709551616 * b + 340282366920938463463374607431768211456 * c + 6277101735386680763835789423207666416102355444464034512896 * d) / 2 ^ r =
    rhw a b r + 18446744073709551616 * rhw b c r + 340282366920938463463374607431768211456 * rhw c d r + 6277101735386680763835789423207666416102355444464034512896 * rhw d 0 r := by
  have hp : (18446744073709551616 : Nat) = 2 ^ r * 2 ^ (64 - r) := by rw [← Nat.pow_add, show r + (64 - r) = 64 by omega]
  have key : ∀ x : Nat, 18446744073709551616 * x = 2 ^ r * (18446744073709551616 * (x / 2 ^ r) + x % 2 ^ r * 2 ^ (64 - r)) := by
    intro x
    have h := Nat.mod_add_div x (2 ^ r)
    rw [Nat.mul_add, ← Nat.mul_assoc, ← Nat.mul_assoc, Nat.mul_comm (2 ^ r) 18446744073709551616, Nat.mul_assoc 18446744073709551616, Nat.mul_comm (2 ^ r) (x % 2 ^ r), Nat.mul_assoc (x % 2 ^ r), ← hp, Nat.mul_comm (x % 2 ^ r), ← Nat.mul_add, Nat.add_comm, h]
  have hb := key b
  have hc := key c
  have hd := key d
  have ha := Nat.mod_add_div a (2 ^ r)
  have hlt : a % 2 ^ r < 2 ^ r := Nat.mod_lt _ (Nat.two_pow_pos r)
  unfold rhw
  rw [Nat.zero_mod, Nat.zero_mul, Nat.add_zero]
  generalize b / 2 ^ r = b1 at *
  generalize b % 2 ^ r * 2 ^ (64 - r) = b2 at *
  generalize c / 2 ^ r = c1 at *
  generalize c % 2 ^ r * 2 ^ (64 - r) = c2 at *
  generalize d / 2 ^ r = d1 at *
  generalize d % 2 ^ r * 2 ^ (64 - r) = d2 at *
  have e2 : 340282366920938463463374607431768211456 * c = 2 ^ r * (18446744073709551616 * (18446744073709551616 * c1 + c2)) := by
    rw [Nat.mul_left_comm, ← hc]; omega
  have e3 : 6277101735386680763835789423207666416102355444464034512896 * d = 2 ^ r * (340282366920938463463374607431768211456 * (18446744073709551616 * d1 + d2)) := by
    rw [Nat.mul_left_comm, ← hd]; omega
  rw [hb, e2, e3]
  have e4 : a + 2 ^ r * (18446744073709551616 * b1 + b2) + 2 ^ r * (18446744073709551616 * (18446744073709551616 * c1 + c2)) + 2 ^ r * (340282366920938463463374607431768211456 * (18446744073709551616 * d1 + d2)) =
      a % 2 ^ r + 2 ^ r * (a / 2 ^ r + (18446744073709551616 * b1 + b2) + 18446744073709551616 * (18446744073709551616 * c1 + c2) + 340282366920938463463374607431768211456 * (18446744073709551616 * d1 + d2)) := by
    clear e2 e3 hb hc hd key hp
    generalize 18446744073709551616 * b1 + b2 = X
    generalize 18446744073709551616 * (18446744073709551616 * c1 + c2) = Y
    generalize 340282366920938463463374607431768211456 * (18446744073709551616 * d1 + d2) = Z
    rw [Nat.mul_add, Nat.mul_add, Nat.mul_add]
    omega
  rw [e4, Nat.add_mul_div_left _ _ (Nat.two_pow_pos r), Nat.div_eq_of_lt hlt]
  generalize a / 2 ^ r = a1
  omega
theorem shr_hi (R : Type) {a r4 out : List Int} (ha : okW a = true) (hl : out.length = 4) {d i r : Nat} {e : Int} (he : (i : Int) < e) (hi : i + d + 1 < 4) (hr : r < 64) (k1 : List AV → Option R) (k2 : Nat → List AV → Option R) :
    stepShr R [.ints 4 .u64 a, .ints 4 .u64 r4, .ints 4 .u64 out, .int .i64 ((64 * d + r : Nat) : Int), .int .i64 d, .int .i64 e, .int .i64 i] k1 k2 =
      k1 [.ints 4 .u64 a, .ints 4 .u64 r4, .ints 4 .u64 (out.set i ((rhw (wd a (i + d)) (wd a (i + d + 1)) r : Nat) : Int)), .int .i64 ((64 * d + r : Nat) : Int), .int .i64 d, .int .i64 e, .int .i64 ((i + 1 : Nat) : Int)] := by
  have t := (split64 (64 * d + r)).2
  rw [show (64 * d + r) % 64 = r by omega] at t
  have e1 : decide ((i : Int) < e) = true := by simp [he]
  have e2 : w64 ((i : Int) + d) = ((i + d : Nat) : Int) := by rw [w64_small (by omega) (by omega)]; omega
  have e3 : w64 (((i + d : Nat) : Int) + 1) = ((i + d + 1 : Nat) : Int) := by rw [w64_small (by omega) (by omega)]; omega
  have e4 : w64 (64 - (r : Int)) = ((64 - r : Nat) : Int) := by rw [w64_small (by omega) (by omega)]; omega
  have e5 : decide ((0 : Int) ≤ ((i + d : Nat) : Int)) = true := decide_eq_true (by omega)
  have e6 : decide (((i + d : Nat) : Int) < 4) = true := decide_eq_true (by omega)
  have e7 : decide ((r : Int) < 0) = false := decide_eq_false (by omega)
  have e8 : decide ((0 : Int) ≤ (i : Int)) = true := decide_eq_true (by omega)
  have e9 : decide ((i : Int) < 4) = true := decide_eq_true (by omega)
  have e11 : decide ((0 : Int) ≤ ((i + d + 1 : Nat) : Int)) = true := decide_eq_true (by omega)
  have e12 : decide (((i + d + 1 : Nat) : Int) < 4) = true := decide_eq_true (by omega)
  have e13 : decide (((64 - r : Nat) : Int) < 0) = false := decide_eq_false (by omega)
  have e14 : w64 ((i : Int) + 1) = ((i + 1 : Nat) : Int) := by rw [w64_small (by omega) (by omega)]; omega
  have g : (out.set i (shrI .u64 (a.getD (i + d) 0) (r : Int))).getD i 0 = shrI .u64 (a.getD (i + d) 0) (r : Int) := by
    simp [List.getD, List.getElem?_set_self (show i < out.length by omega)]
  simp only [stepShr, t, e1, e2, e3, e4, e5, e6, e7, e8, e9, e11, e12, e13, e14, cond_true, Bool.and_self, chk, Bool.not_false, Int.toNat_natCast, g, List.set_set]
  rw [wordAt ha (i + d) (by omega), wordAt ha (i + d + 1) (by omega)]
  have := word_orR (wd a (i + d)) (wd a (i + d + 1)) r hr (wd_lt _ _)
  unfold wd at this ⊢
  rw [this]
theorem shr_eq (R : Type) {a r4 out : List Int} (ha : okW a = true) {d i r : Nat} {e : Int} (he : (i : Int) < e) (hi : i + d = 3) (hr : r < 64) (k1 : List AV → Option R) (k2 : Nat → List AV → Option R) :
    stepShr R [.ints 4 .u64 a, .ints 4 .u64 r4, .ints 4 .u64 out, .int .i64 ((64 * d + r : Nat) : Int), .int .i64 d, .int .i64 e, .int .i64 i] k1 k2 =
      k1 [.ints 4 .u64 a, .ints 4 .u64 r4, .ints 4 .u64 (out.set i ((rhw (wd a 3) 0 r : Nat) : Int)), .int .i64 ((64 * d + r : Nat) : Int), .int .i64 d, .int .i64 e, .int .i64 ((i + 1 : Nat) : Int)] := by
  have t := (split64 (64 * d + r)).2
  rw [show (64 * d + r) % 64 = r by omega] at t
  have e1 : decide ((i : Int) < e) = true := by simp [he]
  have e2 : w64 ((i : Int) + d) = ((3 : Nat) : Int) := by rw [w64_small (by omega) (by omega)]; omega
  have e3 : w64 (((3 : Nat) : Int) + 1) = ((4 : Nat) : Int) := by rw [w64_small (by omega) (by omega)]; rfl
  have e5 : decide ((0 : Int) ≤ ((3 : Nat) : Int)) = true := decide_eq_true (by omega)
  have e6 : decide (((3 : Nat) : Int) < 4) = true := decide_eq_true (by omega)
  have e7 : decide ((r : Int) < 0) = false := decide_eq_false (by omega)
  have e8 : decide ((0 : Int) ≤ (i : Int)) = true := decide_eq_true (by omega)
  have e9 : decide ((i : Int) < 4) = true := decide_eq_true (by omega)
  have e12 : decide (((4 : Nat) : Int) < 4) = false := decide_eq_false (by omega)
  have e14 : w64 ((i : Int) + 1) = ((i + 1 : Nat) : Int) := by rw [w64_small (by omega) (by omega)]; omega
  simp only [stepShr, t, e1, e2, e3, e5, e6, e7, e8, e9, e12, e14, cond_true, cond_false, Bool.and_self, chk, Bool.not_false, Int.toNat_natCast]
  rw [wordAt ha 3 (by omega)]
  have := word_high (wd a 3) r (by omega)
  unfold wd at this ⊢
  rw [this]
theorem shr_lo (R : Type) {a r4 out : List Int} {n d e i : Int} (hi : e ≤ i) (k1 : List AV → Option R) (k2 : Nat → List AV → Option R) :
    stepShr R [.ints 4 .u64 a, .ints 4 .u64 r4, .ints 4 .u64 out, .int .i64 n, .int .i64 d, .int .i64 e, .int .i64 i] k1 k2 = k2 0 [.ints 4 .u64 a, .ints 4 .u64 r4, .ints 4 .u64 out, .int .i64 n] := by
  have e1 : decide (i < e) = false := decide_eq_false (by omega)
  simp only [stepShr, e1, cond_false]
theorem toW_q {s0 s1 s2 s3 : Nat} (l0 : s0 < 18446744073709551616) (l1 : s1 < 18446744073709551616) (l2 : s2 < 18446744073709551616) (l3 : s3 < 18446744073709551616) :
    toW ((s0 + 18446744073709551616 * s1 + 340282366920938463463374607431768211456 * s2 + 6277101735386680763835789423207666416102355444464034512896 * s3) / 2 ^ (64 * 0)) = [(s0 : Int), s1, s2, s3] ∧
    toW ((s0 + 18446744073709551616 * s1 + 340282366920938463463374607431768211456 * s2 + 6277101735386680763835789423207666416102355444464034512896 * s3) / 2 ^ (64 * 1)) = [(s1 : Int), s2, s3, 0] ∧
    toW ((s0 + 18446744073709551616 * s1 + 340282366920938463463374607431768211456 * s2 + 6277101735386680763835789423207666416102355444464034512896 * s3) / 2 ^ (64 * 2)) = [(s2 : Int), s3, 0, 0] ∧
    toW ((s0 + 18446744073709551616 * s1 + 340282366920938463463374607431768211456 * s2 + 6277101735386680763835789423207666416102355444464034512896 * s3) / 2 ^ (64 * 3)) = [(s3 : Int), 0, 0, 0] := by
  refine ⟨?_, ?_, ?_, ?_⟩
  · exact toW_of _ s0 s1 s2 s3 0 l0 l1 l2 l3 (by omega)
  · exact toW_of _ s1 s2 s3 0 0 l1 l2 l3 (by decide) (by omega)
  · exact toW_of _ s2 s3 0 0 0 l2 l3 (by decide) (by decide) (by omega)
  · exact toW_of _ s3 0 0 0 0 l3 (by decide) (by decide) (by decide) (by omega)
theorem go_shr (R : Type) (n : Nat) (vs : List AV) (kk : Nat → List AV → Option R) (r : R) (h : leShr.go R n vs kk = some r) : ∃ m, loopN (stepShr R) m vs kk = some r := by
  simp only [leShr] at h
  split at h
  · rename_i a r4 n d e
    obtain ⟨hg, hk⟩ := chk_some h
    clear h
    simp only [Bool.and_eq_true, decide_eq_true_eq] at hg
    obtain ⟨⟨⟨⟨ha, g1⟩, g2⟩, g3⟩, g4⟩ := hg
    obtain ⟨m, rfl⟩ : ∃ m : Nat, n = m := ⟨n.toNat, (Int.toNat_of_nonneg g1).symm⟩
    obtain ⟨q, s, hq, hs, hm⟩ : ∃ q s : Nat, q < 4 ∧ s < 64 ∧ m = 64 * q + s := ⟨m / 64, m % 64, by omega, by omega, by omega⟩
    rw [(split64 m).1, show m / 64 = q by omega] at g3 g4
    subst g3 hm g4
    obtain ⟨a0, a1, a2, a3, he, ra0, ra1, ra2, ra3⟩ := okW_split ha
    subst he
    obtain ⟨h0, h1, h2, h3⟩ := wd_limbs ha
    have b0 := wd_lt [a0, a1, a2, a3] 0
    have b1 := wd_lt [a0, a1, a2, a3] 1
    have b2 := wd_lt [a0, a1, a2, a3] 2
    have b3 := wd_lt [a0, a1, a2, a3] 3
    rw [h0] at b0
    rw [h1] at b1
    rw [h2] at b2
    rw [h3] at b3
    have hv : valW [a0, a1, a2, a3] = a0.toNat + 18446744073709551616 * a1.toNat + 340282366920938463463374607431768211456 * a2.toNat + 6277101735386680763835789423207666416102355444464034512896 * a3.toNat := rfl
    generalize hV : valW [a0, a1, a2, a3] = V at hv hk
    clear ra0 ra1 ra2 ra3 g1 g2
    have hs' : s ≤ 64 := Nat.le_of_lt hs
    have hk4 := four_shr a0.toNat a1.toNat a2.toNat a3.toNat s hs'
    rw [← hv] at hk4
    have l0 := rhw_lt a0.toNat a1.toNat s hs' b0
    have l1 := rhw_lt a1.toNat a2.toNat s hs' b1
    have l2 := rhw_lt a2.toNat a3.toNat s hs' b2
    have l3 := rhw_lt a3.toNat 0 s hs' b3
    rw [Int.toNat_natCast, Nat.add_comm (64 * q), Nat.pow_add, ← Nat.div_div_eq_div_mul, hk4] at hk
    clear hk4 hv b0 b1 b2 b3
    obtain ⟨t0, t1, t2, t3⟩ := toW_q l0 l1 l2 l3
    rw [Nat.add_comm s] at hk
    match q, hq with
    | 0, _ =>
      refine ⟨5, ?_⟩
      rw [t0] at hk
      rw [loopN, show ((0 : Int)) = ((0 : Nat) : Int) from rfl, shr_hi R ha rfl (by decide) (by decide) hs, loopN, shr_hi R ha (by simp) (by decide) (by decide) hs, loopN, shr_hi R ha (by simp) (by decide) (by decide) hs, loopN, shr_eq R ha (by decide) (by decide) hs, loopN, shr_lo R (by decide)]
      simp only [Nat.reduceAdd, h0, h1, h2, h3, List.set_cons_zero, List.set_cons_succ]
      exact hk
    | 1, _ =>
      refine ⟨4, ?_⟩
      rw [t1] at hk
      rw [loopN, show ((0 : Int)) = ((0 : Nat) : Int) from rfl, shr_hi R ha rfl (by decide) (by decide) hs, loopN, shr_hi R ha (by simp) (by decide) (by decide) hs, loopN, shr_eq R ha (by decide) (by decide) hs, loopN, shr_lo R (by decide)]
      simp only [Nat.reduceAdd, h1, h2, h3, List.set_cons_zero, List.set_cons_succ]
      exact hk
    | 2, _ =>
      refine ⟨3, ?_⟩
      rw [t2] at hk
      rw [loopN, show ((0 : Int)) = ((0 : Nat) : Int) from rfl, shr_hi R ha rfl (by decide) (by decide) hs, loopN, shr_eq R ha (by decide) (by decide) hs, loopN, shr_lo R (by decide)]
      simp only [Nat.reduceAdd, h2, h3, List.set_cons_zero, List.set_cons_succ]
      exact hk
    | 3, _ =>
      refine ⟨2, ?_⟩
      rw [t3] at hk
      rw [loopN, show ((0 : Int)) = ((0 : Nat) : Int) from rfl, shr_eq R ha (by decide) (by decide) hs, loopN, shr_lo R (by decide)]
      simp only [h3, List.set_cons_zero]
      exact hk
  · cases h
def sp_wShr : List AV → Option (Bool × AV)
  | [.ints 4 .u64 a, .int .i64 n] => some (okW a, .tup [.ints 4 .u64 (toW (valW a / 2 ^ n.toNat)), .bool (decide (valW a % 2 ^ n.toNat ≠ 0))])
  | _ => none
theorem toW_inj {l : List Int} (h : okW l = true) (v : Nat) (hv : v < 115792089237316195423570985008687907853269984665640564039457584007913129639936) : toW v = l ↔ v = valW l := by
  constructor
  · intro e
    rw [← e, valW_toW, Nat.mod_eq_of_lt hv]
  · intro e
    rw [e, toW_valW h]
theorem ok_wShr : EntOk Tryz.prog 110 (entS false sp_wShr) := by
  refine contractS (orc := orcShr) (lo := [(0, leShr)]) Tryz.func110 (orc_cons ok_wShl orc_nil) (by kernel_rfl) (by kernel_rfl) (by kernel_rfl)
    (loops_one (id := 0) (y := .loop (loopOf 0 (bodyC Tryz.f110))) (by kernel_rfl)
      (loopS (le := leShr) (orc := []) (lo' := []) orc_nil (by kernel_rfl) rfl (loops_none (by kernel_rfl)) stepShr (fun R vs k1 k2 r h => ?_) go_shr)) fun args r h => ?_
  · have h0 := h
    unfold stepShr at h
    split at h
    · exact (step_shr R _ _ _ _ _ _ _ k1 k2).trans h0
    · cases h
  · unfold sp_wShr at h
    split at h
    · rename_i a n
      simp only [Option.some.injEq, Prod.mk.injEq] at h
      obtain ⟨ha, rfl⟩ := h
      refine ⟨by kernel_rfl, .inr rfl, (run_wShr a n).trans ?_⟩
      have hlt := valW_lt ha
      by_cases h1 : n < 1
      · rw [decide_eq_true h1, cond_true, show n.toNat = 0 by omega, Nat.pow_zero, Nat.div_one, Nat.mod_one, toW_valW ha]
        rfl
      rw [decide_eq_false h1, cond_false]
      by_cases h2 : n ≥ 256
      · have hp : valW a < 2 ^ n.toNat := Nat.lt_of_lt_of_le hlt (Nat.le_trans (by decide) (Nat.pow_le_pow_right (n := 2) (by decide) (show 256 ≤ n.toNat by omega)))
        have hz : toW 0 = [0, 0, 0, 0] := toW_of 0 0 0 0 0 0 (by decide) (by decide) (by decide) (by decide) rfl
        rw [decide_eq_true h2, cond_true, Nat.div_eq_of_lt hp, Nat.mod_eq_of_lt hp, hz]
        have : (!decide (a = [0, 0, 0, 0])) = decide (valW a ≠ 0) := by
          rw [← hz, ← decide_not]
          refine decide_eq_decide.2 (not_congr ?_)
          rw [eq_comm, toW_inj ha 0 (by decide), eq_comm]
        rw [this]
      · rw [decide_eq_false h2, cond_false, ha]
        have e1 : decide (0 ≤ n) = true := decide_eq_true (by omega)
        have e2 : decide (n < 256) = true := decide_eq_true (by omega)
        obtain ⟨m, rfl⟩ : ∃ m : Nat, n = m := ⟨n.toNat, (Int.toNat_of_nonneg (by omega)).symm⟩
        have e3 : w64 ((m : Int).tdiv 64) = (m : Int).tdiv 64 := by
          rw [(split64 m).1]
          exact w64_small (by omega) (by omega)
        have e4 : w64 (4 - (m : Int).tdiv 64) = 4 - (m : Int).tdiv 64 := by
          rw [(split64 m).1]
          exact w64_small (by omega) (by omega)
        rw [e1, e2, e3, e4, okW_toW]
        simp only [decide_true, Bool.and_self, chk, cond_true, Int.toNat_natCast]
        have hle : valW a / 2 ^ m ≤ valW a := Nat.div_le_self _ _
        simp only [valW_toW, Nat.mod_eq_of_lt (Nat.lt_of_le_of_lt hle hlt)]
        have hmul : valW a / 2 ^ m * 2 ^ m ≤ valW a := Nat.div_mul_le_self _ _
        have : (!decide (toW (valW a / 2 ^ m * 2 ^ m) = a)) = decide (valW a % 2 ^ m ≠ 0) := by
          rw [← decide_not]
          refine decide_eq_decide.2 (not_congr ?_)
          rw [toW_inj ha _ (Nat.lt_of_le_of_lt hmul hlt)]
          have hm := Nat.mod_add_div (valW a) (2 ^ m)
          rw [Nat.mul_comm] at hm
          omega
        rw [this]
    · cases h
end
end Go.Proofs.YtbakldcbaikgpaaGreatDoor
