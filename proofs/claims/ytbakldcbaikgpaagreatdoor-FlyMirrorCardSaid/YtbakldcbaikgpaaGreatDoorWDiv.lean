/- wide.DivMod, where the divisor is not 0. Own work. -/
import Derived.Test.YtbakldcbaikgpaaGreatDoorRnd3
namespace Go.Proofs.YtbakldcbaikgpaaGreatDoor
set_option maxRecDepth 100000
noncomputable section

def hDv : Hint := { fuel := none, keep := [8], refs := [(2, 2, 118, .dead), (3, 3, 118, .dead), (4, 4, 118, .dead), (5, 5, 118, .dead), (7, 7, 118, .dead)] }
def hDvO : Hint := { fuel := none, keep := [], refs := [(2, 2, 118, .dead), (4, 4, 118, .dead), (5, 5, 118, .dead), (7, 7, 118, .dead)] }
def okDv (a b : List Int) (n : Int) : Bool := okW a && okW b && stk (decide (valW b ≠ 0 ∧ n < 256 ∧ valW b * 2 ^ n.toNat < big256 ∧ valW a < valW b * 2 ^ (n + 1).toNat))
theorem okDv_iff {a b : List Int} {n : Int} : okDv a b n = true ↔ (okW a = true ∧ okW b = true) ∧ valW b ≠ 0 ∧ n < 256 ∧ valW b * 2 ^ n.toNat < big256 ∧ valW a < valW b * 2 ^ (n + 1).toNat := by
  unfold okDv
  rw [stk_eq, Bool.and_eq_true, Bool.and_eq_true, decide_eq_true_iff]
noncomputable def stepDv (R : Type) (vs : List AV) (k1 : List AV → Option R) (k2 : Nat → List AV → Option R) : Option R :=
  match vs with
  | [.ints 4 .u64 a, .ints 4 .u64 b, .ints 4 .u64 r4, .ints 4 .u64 r5, .ints 4 .u64 q, .int .i64 n] =>
    bif decide (n ≥ 0) then chk (okW b) (chk (okW a && okW (toW (valW b * 2 ^ n.toNat))) (bif !(decide (valW a < valW (toW (valW b * 2 ^ n.toNat)))) then
        chk (decide (0 ≤ (w64 (n.tdiv 64))) && decide ((w64 (n.tdiv 64)) < 4)) (chk (!decide ((n.tmod 64) < 0)) (chk (decide (0 ≤ (w64 (n.tdiv 64))) && decide ((w64 (n.tdiv 64)) < 4))
          (k1 [.ints 4 .u64 (toW (valW a + big256 - valW (toW (valW b * 2 ^ n.toNat)))), .ints 4 .u64 b, .ints 4 .u64 r4, .ints 4 .u64 r5, .ints 4 .u64 (q.set ((w64 (n.tdiv 64)).toNat) (orI .u64 (q.getD ((w64 (n.tdiv 64)).toNat) 0) (shlI .u64 1 (n.tmod 64)))), .int .i64 (w64 (n - 1))])))
      else k1 [.ints 4 .u64 a, .ints 4 .u64 b, .ints 4 .u64 r4, .ints 4 .u64 r5, .ints 4 .u64 q, .int .i64 (w64 (n - 1))]))
    else k2 0 [.ints 4 .u64 a, .ints 4 .u64 r4, .ints 4 .u64 r5, .ints 4 .u64 q]
  | _ => none
noncomputable def leDv : LEnt :=
  { inn := hDv
    out := hDvO
    ret := hDvO
    go := fun _ _ vs kk => match vs with
      | [.ints 4 .u64 a, .ints 4 .u64 b, .ints 4 .u64 r4, .ints 4 .u64 r5, .ints 4 .u64 [0, 0, 0, 0], .int .i64 n] =>
        chk (okDv a b n) (kk 0 [.ints 4 .u64 (toW (valW a % valW b)), .ints 4 .u64 r4, .ints 4 .u64 r5, .ints 4 .u64 (toW (valW a / valW b))])
      | _ => none }
def orcDv : List (FuncId × Ent) := [(139, entS false sp_wShl), (146, entS false sp_wSub)]
theorem step_dv (R : Type) (a b r4 r5 q : List Int) (n : Int) (k1 : List AV → Option R) (k2 : Nat → List AV → Option R) :
    runA (env Tryz.f161.ntmps orcDv []) (loopOf 0 (bodyC Tryz.f161)) 0 (stateOf leDv.inn [.ints 4 .u64 a, .ints 4 .u64 b, .ints 4 .u64 r4, .ints 4 .u64 r5, .ints 4 .u64 q, .int .i64 n]) (bodyK leDv 0 k1 k2) =
    stepDv R [.ints 4 .u64 a, .ints 4 .u64 b, .ints 4 .u64 r4, .ints 4 .u64 r5, .ints 4 .u64 q, .int .i64 n] k1 k2 := by kernel_rfl

/-- A bit more, where none is below. -/
theorem bit_more {Q n : Nat} (hn : n < 256) (hQ : Q < big256) (hz : Q % 2 ^ (n + 1) = 0) :
    (toW Q).set (n / 64) (orI .u64 ((toW Q).getD (n / 64) 0) (shlI .u64 1 ((n % 64 : Nat) : Int))) = toW (Q + 2 ^ n) := by
  have hw := wordAt (okW_toW Q) (n / 64) (by omega)
  rw [valW_toW, Nat.mod_eq_of_lt (show Q < 115792089237316195423570985008687907853269984665640564039457584007913129639936 from hQ)] at hw
  obtain ⟨W, hW⟩ : ∃ W, Q / 2 ^ (64 * (n / 64)) = W := ⟨_, rfl⟩
  have hr : n % 64 < 64 := Nat.mod_lt _ (by decide)
  have hs : shlI .u64 1 ((n % 64 : Nat) : Int) = ((2 ^ (n % 64) : Nat) : Int) := by
    have := shlI_nat 1 (n % 64) (by omega)
    rw [Nat.one_mul, Nat.mod_eq_of_lt (Nat.pow_lt_pow_right (by decide) (show n % 64 < 64 from hr) : 2 ^ (n % 64) < 2 ^ 64)] at this
    exact this
  have hn2 : n = 64 * (n / 64) + n % 64 := by omega
  -- Q as a multiple
  obtain ⟨c, hc⟩ : ∃ c, Q = 2 ^ (n + 1) * c := ⟨Q / 2 ^ (n + 1), by have := Nat.div_add_mod Q (2 ^ (n + 1)); omega⟩
  have hWc : W = 2 ^ (n % 64 + 1) * c := by
    rw [← hW, hc, show n + 1 = 64 * (n / 64) + (n % 64 + 1) by omega, Nat.pow_add, Nat.mul_assoc, Nat.mul_div_cancel_left _ (Nat.two_pow_pos _)]
  have hQW : Q = 2 ^ (64 * (n / 64)) * W := by
    rw [hWc, hc, ← Nat.mul_assoc, ← Nat.pow_add, show 64 * (n / 64) + (n % 64 + 1) = n + 1 by omega]
  have hwm : W % 18446744073709551616 = (c % 2 ^ (63 - n % 64)) * 2 ^ (n % 64 + 1) := by
    rw [hWc, show (18446744073709551616 : Nat) = 2 ^ (n % 64 + 1) * 2 ^ (63 - n % 64) by rw [← Nat.pow_add, show n % 64 + 1 + (63 - n % 64) = 64 by omega], Nat.mul_mod_mul_left, Nat.mul_comm]
  have hor : orI .u64 ((W % 18446744073709551616 : Nat) : Int) ((2 ^ (n % 64) : Nat) : Int) = ((W % 18446744073709551616 + 2 ^ (n % 64) : Nat) : Int) := by
    rw [hwm]
    refine orI_add _ _ _ ?_ (Nat.pow_lt_pow_right (by decide) (Nat.lt_succ_self _)) (by omega)
    rw [← hwm]
    exact Nat.mod_lt _ (by decide)
  have hlt : W % 18446744073709551616 + 2 ^ (n % 64) < 18446744073709551616 := by
    rw [hwm]
    have h1 : c % 2 ^ (63 - n % 64) < 2 ^ (63 - n % 64) := Nat.mod_lt _ (Nat.two_pow_pos _)
    have h2 : (c % 2 ^ (63 - n % 64) + 1) * 2 ^ (n % 64 + 1) ≤ 2 ^ (63 - n % 64) * 2 ^ (n % 64 + 1) := Nat.mul_le_mul_right _ h1
    rw [← Nat.pow_add, show 63 - n % 64 + (n % 64 + 1) = 64 by omega, Nat.add_mul] at h2
    have h3 : 2 ^ (n % 64) < 1 * 2 ^ (n % 64 + 1) := by rw [Nat.one_mul]; exact Nat.pow_lt_pow_right (by decide) (Nat.lt_succ_self _)
    have h4 : (2 : Nat) ^ 64 = 18446744073709551616 := by decide
    omega
  rw [hw, hW, hs, hor]
  have hp : 2 ^ n = 2 ^ (64 * (n / 64)) * 2 ^ (n % 64) := by rw [← Nat.pow_add, ← hn2]
  rw [hp, hQW]
  clear hp hQW hs hor hwm hWc hc hw
  generalize hj : n / 64 = j at *
  generalize 2 ^ (n % 64) = y at *
  have hj4 : j < 4 := by omega
  rw [toW_def, toW_def]
  match j, hj4 with
  | 0, _ =>
    rw [show 64 * 0 = 0 from rfl, Nat.pow_zero, Nat.one_mul, Nat.one_mul]
    simp only [List.set_cons_zero]
    have e1 : (W + y) % 18446744073709551616 = W % 18446744073709551616 + y := by omega
    have e2 : (W + y) / 18446744073709551616 = W / 18446744073709551616 := by omega
    have e3 : (W + y) / 340282366920938463463374607431768211456 = W / 340282366920938463463374607431768211456 := by omega
    have e4 : (W + y) / 6277101735386680763835789423207666416102355444464034512896 = W / 6277101735386680763835789423207666416102355444464034512896 := by omega
    rw [e1, e2, e3, e4]
  | 1, _ =>
    rw [show (2 : Nat) ^ (64 * 1) = 18446744073709551616 by decide]
    simp only [List.set_cons_zero, List.set_cons_succ]
    have e0 : (18446744073709551616 * W + 18446744073709551616 * y) % 18446744073709551616 = 18446744073709551616 * W % 18446744073709551616 := by omega
    have e1 : (18446744073709551616 * W + 18446744073709551616 * y) / 18446744073709551616 % 18446744073709551616 = W % 18446744073709551616 + y := by omega
    have e3 : (18446744073709551616 * W + 18446744073709551616 * y) / 340282366920938463463374607431768211456 = 18446744073709551616 * W / 340282366920938463463374607431768211456 := by omega
    have e4 : (18446744073709551616 * W + 18446744073709551616 * y) / 6277101735386680763835789423207666416102355444464034512896 = 18446744073709551616 * W / 6277101735386680763835789423207666416102355444464034512896 := by omega
    rw [e0, e1, e3, e4]
  | 2, _ =>
    rw [show (2 : Nat) ^ (64 * 2) = 340282366920938463463374607431768211456 by decide]
    simp only [List.set_cons_zero, List.set_cons_succ]
    have e0 : (340282366920938463463374607431768211456 * W + 340282366920938463463374607431768211456 * y) % 18446744073709551616 = 340282366920938463463374607431768211456 * W % 18446744073709551616 := by omega
    have e1 : (340282366920938463463374607431768211456 * W + 340282366920938463463374607431768211456 * y) / 18446744073709551616 % 18446744073709551616 = 340282366920938463463374607431768211456 * W / 18446744073709551616 % 18446744073709551616 := by omega
    have e3 : (340282366920938463463374607431768211456 * W + 340282366920938463463374607431768211456 * y) / 340282366920938463463374607431768211456 % 18446744073709551616 = W % 18446744073709551616 + y := by omega
    have e4 : (340282366920938463463374607431768211456 * W + 340282366920938463463374607431768211456 * y) / 6277101735386680763835789423207666416102355444464034512896 = 340282366920938463463374607431768211456 * W / 6277101735386680763835789423207666416102355444464034512896 := by omega
    rw [e0, e1, e3, e4]
  | 3, _ =>
    rw [show (2 : Nat) ^ (64 * 3) = 6277101735386680763835789423207666416102355444464034512896 by decide]
    simp only [List.set_cons_zero, List.set_cons_succ]
    have e0 : (6277101735386680763835789423207666416102355444464034512896 * W + 6277101735386680763835789423207666416102355444464034512896 * y) % 18446744073709551616 = 6277101735386680763835789423207666416102355444464034512896 * W % 18446744073709551616 := by omega
    have e1 : (6277101735386680763835789423207666416102355444464034512896 * W + 6277101735386680763835789423207666416102355444464034512896 * y) / 18446744073709551616 % 18446744073709551616 = 6277101735386680763835789423207666416102355444464034512896 * W / 18446744073709551616 % 18446744073709551616 := by omega
    have e3 : (6277101735386680763835789423207666416102355444464034512896 * W + 6277101735386680763835789423207666416102355444464034512896 * y) / 340282366920938463463374607431768211456 % 18446744073709551616 = 6277101735386680763835789423207666416102355444464034512896 * W / 340282366920938463463374607431768211456 % 18446744073709551616 := by omega
    have e4 : (6277101735386680763835789423207666416102355444464034512896 * W + 6277101735386680763835789423207666416102355444464034512896 * y) / 6277101735386680763835789423207666416102355444464034512896 % 18446744073709551616 = W % 18446744073709551616 + y := by omega
    rw [e0, e1, e3, e4]

theorem toW_up (v : Nat) : toW (v + big256) = toW v := by
  have h1 : (v + big256) % 18446744073709551616 = v % 18446744073709551616 := by unfold big256; omega
  have h2 : (v + big256) / 18446744073709551616 % 18446744073709551616 = v / 18446744073709551616 % 18446744073709551616 := by unfold big256; omega
  have h3 : (v + big256) / 340282366920938463463374607431768211456 % 18446744073709551616 = v / 340282366920938463463374607431768211456 % 18446744073709551616 := by unfold big256; omega
  have h4 : (v + big256) / 6277101735386680763835789423207666416102355444464034512896 % 18446744073709551616 = v / 6277101735386680763835789423207666416102355444464034512896 % 18446744073709551616 := by unfold big256; omega
  rw [toW_def, toW_def, h1, h2, h3, h4]

/-- Rounds from 2^(m-1) down. -/
theorem dv_rounds (R : Type) {b r4 r5 : List Int} (hb : okW b = true) (kk : Nat → List AV → Option R) : ∀ (m A Q : Nat), m ≤ 256 → A < big256 → Q < big256 → A < valW b * 2 ^ m → (m = 0 ∨ valW b * 2 ^ (m - 1) < big256) → Q % 2 ^ m = 0 → Q + 2 ^ m ≤ big256 →
    loopN (stepDv R) (m + 1) [.ints 4 .u64 (toW A), .ints 4 .u64 b, .ints 4 .u64 r4, .ints 4 .u64 r5, .ints 4 .u64 (toW Q), .int .i64 ((m : Int) - 1)] kk =
    kk 0 [.ints 4 .u64 (toW (A % valW b)), .ints 4 .u64 r4, .ints 4 .u64 r5, .ints 4 .u64 (toW (Q + A / valW b))]
  | 0, A, Q, _, hA, hQ, hlt, _, _, _ => by
    rw [Nat.pow_zero, Nat.mul_one] at hlt
    rw [Nat.mod_eq_of_lt hlt, Nat.div_eq_of_lt hlt, loopN]
    rfl
  | m + 1, A, Q, hm, hA, hQ, hlt, hB, hz, hR => by
    have hB' : valW b * 2 ^ m < big256 := by simpa using hB
    have e1 : ((m + 1 : Nat) : Int) - 1 = (m : Int) := by omega
    rw [e1, loopN]
    have hp := Nat.two_pow_pos m
    have hps : 2 ^ (m + 1) = 2 ^ m * 2 := Nat.pow_succ ..
    have hlt2 : A < valW b * 2 ^ m * 2 := by rw [Nat.mul_assoc, ← hps]; exact hlt
    have hz2 : Q % 2 ^ m = 0 := by
      obtain ⟨c, hc⟩ : ∃ c, Q = 2 ^ (m + 1) * c := ⟨Q / 2 ^ (m + 1), by have := Nat.div_add_mod Q (2 ^ (m + 1)); omega⟩
      rw [hc, hps, Nat.mul_assoc, Nat.mul_mod_right]
    have q1 : (m : Int).tdiv 64 = ((m / 64 : Nat) : Int) := (split64 m).1
    have q2 : (m : Int).tmod 64 = ((m % 64 : Nat) : Int) := (split64 m).2
    have q3 : w64 ((m : Int).tdiv 64) = ((m / 64 : Nat) : Int) := by rw [q1]; exact w64_small (by omega) (by omega)
    have q4 : w64 ((m : Int) - 1) = (m : Int) - 1 := by unfold w64; rw [IntKind.wrap_i64]; omega
    have hvb : valW (toW (valW b * 2 ^ m)) = valW b * 2 ^ m := by rw [valW_toW]; exact Nat.mod_eq_of_lt hB'
    have hva : valW (toW A) = A := by rw [valW_toW]; exact Nat.mod_eq_of_lt hA
    simp only [stepDv, q2, q3, q4, Int.toNat_natCast, hvb, hva]
    rw [decide_eq_true (show (m : Int) ≥ 0 by omega), hb, okW_toW, okW_toW]
    simp only [Bool.and_self, chk, cond_true]
    rw [decide_eq_true (show (0 : Int) ≤ ((m / 64 : Nat) : Int) by omega), decide_eq_true (show ((m / 64 : Nat) : Int) < 4 by omega), decide_eq_false (show ¬ ((m % 64 : Nat) : Int) < 0 by omega)]
    simp only [Bool.and_self, Bool.not_false, cond_true]
    have hvp : 0 < valW b := by
      rcases Nat.eq_zero_or_pos (valW b) with h0 | h0
      · rw [h0] at hlt; omega
      · exact h0
    by_cases hc : A < valW b * 2 ^ m
    · rw [decide_eq_true hc]
      simp only [Bool.not_true, cond_false]
      exact dv_rounds R hb kk m A Q (by omega) hA hQ hc (by
        rcases Nat.eq_zero_or_pos m with h0 | h0
        · exact .inl h0
        · refine .inr (Nat.lt_of_le_of_lt (Nat.mul_le_mul_left _ ?_) hB')
          exact Nat.pow_le_pow_right (by decide) (Nat.sub_le _ _)) hz2 (by omega)
    · rw [decide_eq_false hc]
      simp only [Bool.not_false, cond_true]
      have hA' : toW (A + big256 - valW b * 2 ^ m) = toW (A - valW b * 2 ^ m) := by
        rw [show A + big256 - valW b * 2 ^ m = (A - valW b * 2 ^ m) + big256 by omega]
        exact toW_up _
      rw [bit_more (by omega) hQ (by rw [hps]; rw [hps] at hz; exact hz), hA']
      have := dv_rounds R (r4 := r4) (r5 := r5) hb kk m (A - valW b * 2 ^ m) (Q + 2 ^ m) (by omega) (by omega) (by omega) (by omega) (by
        rcases Nat.eq_zero_or_pos m with h0 | h0
        · exact .inl h0
        · refine .inr (Nat.lt_of_le_of_lt (Nat.mul_le_mul_left _ ?_) hB')
          exact Nat.pow_le_pow_right (by decide) (Nat.sub_le _ _)) (by rw [Nat.add_mod_right]; exact hz2) (by omega)
      rw [this]
      have hdiv : A = valW b * 2 ^ m + (A - valW b * 2 ^ m) := by omega
      generalize A - valW b * 2 ^ m = A' at *
      have h1 : A % valW b = A' % valW b := by rw [hdiv, Nat.mul_add_mod]
      have h2 : A / valW b = 2 ^ m + A' / valW b := by rw [hdiv, Nat.mul_add_div hvp]
      rw [h1, h2, Nat.add_assoc]

theorem go_dv (R : Type) (n : Nat) (vs : List AV) (kk : Nat → List AV → Option R) (r : R) (h : leDv.go R n vs kk = some r) : ∃ m, loopN (stepDv R) m vs kk = some r := by
  simp only [leDv] at h
  split at h
  · rename_i a b r4 r5 n
    obtain ⟨hg, hk⟩ := chk_some h
    clear h
    obtain ⟨⟨ha, hb⟩, hnz, hn, hs, hlt⟩ := okDv_iff.1 hg
    have hz : ([0, 0, 0, 0] : List Int) = toW 0 := (toW_of 0 0 0 0 0 0 (by decide) (by decide) (by decide) (by decide) rfl).symm
    by_cases h0 : n < 0
    · refine ⟨1, ?_⟩
      rw [show (n + 1).toNat = 0 by omega, Nat.pow_zero, Nat.mul_one] at hlt
      rw [Nat.mod_eq_of_lt hlt, Nat.div_eq_of_lt hlt, toW_valW ha] at hk
      rw [loopN]
      simp only [stepDv]
      rw [decide_eq_false (show ¬ n ≥ 0 by omega), hz]
      exact hk
    · obtain ⟨m, rfl⟩ : ∃ m : Nat, n = m := ⟨n.toNat, (Int.toNat_of_nonneg (by omega)).symm⟩
      refine ⟨m + 1 + 1, ?_⟩
      have hr := dv_rounds R (r4 := r4) (r5 := r5) hb kk (m + 1) (valW a) 0 (by omega) (valW_lt ha) (by decide) (by rw [show ((m : Int) + 1).toNat = m + 1 by omega] at hlt; exact hlt) (.inr (by rw [Int.toNat_natCast] at hs; simpa using hs)) (Nat.zero_mod _) (by
        have : 2 ^ (m + 1) ≤ 2 ^ 256 := Nat.pow_le_pow_right (by decide) (by omega)
        rw [Nat.zero_add]
        exact this)
      rw [toW_valW ha, ← hz, show ((m + 1 : Nat) : Int) - 1 = (m : Int) by omega, Nat.zero_add] at hr
      rw [hr]
      exact hk
  · cases h

def nzW (b : List Int) : Bool := stk (decide (valW b ≠ 0))
def sp_wDiv : List AV → Option (Bool × AV)
  | [.ints 4 .u64 a, .ints 4 .u64 b] => some (okW a && okW b && nzW b, .tup [.ints 4 .u64 (toW (valW a / valW b)), .ints 4 .u64 (toW (valW a % valW b)), .nili])
  | _ => none
def orcDiv : List (FuncId × Ent) := [(107, entS false sp_wLen)]
theorem run_wDiv (a b : List Int) : callA (env Tryz.f161.ntmps orcDiv [(0, leDv)]) (bodyC Tryz.f161) Tryz.f161.results.toList (slots 0 [.ints 4 .u64 a, .ints 4 .u64 b]) some =
    bif decide (b = [0, 0, 0, 0]) then some (.tup [.ints 4 .u64 [0, 0, 0, 0], .ints 4 .u64 [0, 0, 0, 0], .iface 59 (.int .i64 5)]) else
      chk (okW a) (chk (okW b) (chk (okDv a b (w64 (((lenN (valW a) : Nat) : Int) - ((lenN (valW b) : Nat) : Int)))) (some (.tup [.ints 4 .u64 (toW (valW a / valW b)), .ints 4 .u64 (toW (valW a % valW b)), .nili])))) := by kernel_rfl
theorem ok_wDiv : EntOk Tryz.prog 161 (entS false sp_wDiv) := by
  refine contractS (orc := orcDiv) (lo := [(0, leDv)]) Tryz.func161 (orc_cons ok_wLen orc_nil) (by kernel_rfl) (by kernel_rfl) (by kernel_rfl)
    (loops_one (id := 0) (y := .loop (loopOf 0 (bodyC Tryz.f161))) (by kernel_rfl)
      (loopS (le := leDv) (orc := orcDv) (lo' := []) (orc_cons ok_wShl (orc_cons ok_wSub orc_nil)) (by kernel_rfl) rfl (loops_none (by kernel_rfl)) stepDv (fun R vs k1 k2 r h => ?_) go_dv)) fun args r h => ?_
  · have h0 := h
    unfold stepDv at h
    split at h
    · exact (step_dv R _ _ _ _ _ _ k1 k2).trans h0
    · cases h
  · unfold sp_wDiv at h
    split at h
    · rename_i a b
      simp only [Option.some.injEq, Prod.mk.injEq, Bool.and_eq_true] at h
      obtain ⟨⟨⟨ha, hb⟩, hz⟩, rfl⟩ := h
      unfold nzW at hz
      rw [stk_eq, decide_eq_true_iff] at hz
      refine ⟨by kernel_rfl, .inr rfl, (run_wDiv a b).trans ?_⟩
      have hne : ¬ b = [0, 0, 0, 0] := by
        intro e
        rw [e] at hz
        exact hz rfl
      have la := lenN_le.2 (show valW a < 2 ^ 256 from valW_lt ha)
      have lb := lenN_le.2 (show valW b < 2 ^ 256 from valW_lt hb)
      have hw : w64 (((lenN (valW a) : Nat) : Int) - ((lenN (valW b) : Nat) : Int)) = ((lenN (valW a) : Nat) : Int) - ((lenN (valW b) : Nat) : Int) := by
        unfold w64; rw [IntKind.wrap_i64]; omega
      have hlb := le_lenN (show 0 < valW b by omega)
      have hlpos := lenN_pos (show 0 < valW b by omega)
      have hub := lt_lenN (valW b)
      have hua := lt_lenN (valW a)
      have hok : okDv a b (((lenN (valW a) : Nat) : Int) - ((lenN (valW b) : Nat) : Int)) = true := by
        refine okDv_iff.2 ⟨⟨ha, hb⟩, hz, by omega, ?_, ?_⟩
        · by_cases hle : lenN (valW b) ≤ lenN (valW a)
          · have e : (((lenN (valW a) : Nat) : Int) - ((lenN (valW b) : Nat) : Int)).toNat = lenN (valW a) - lenN (valW b) := by omega
            rw [e]
            have h1 : valW b * 2 ^ (lenN (valW a) - lenN (valW b)) < 2 ^ lenN (valW b) * 2 ^ (lenN (valW a) - lenN (valW b)) := Nat.mul_lt_mul_of_pos_right hub (Nat.two_pow_pos _)
            rw [← Nat.pow_add, show lenN (valW b) + (lenN (valW a) - lenN (valW b)) = lenN (valW a) by omega] at h1
            exact Nat.lt_of_lt_of_le h1 (Nat.pow_le_pow_right (n := 2) (by decide) la)
          · have e : (((lenN (valW a) : Nat) : Int) - ((lenN (valW b) : Nat) : Int)).toNat = 0 := by omega
            rw [e, Nat.pow_zero, Nat.mul_one]
            exact valW_lt hb
        · by_cases hle : lenN (valW b) ≤ lenN (valW a)
          · have e : (((lenN (valW a) : Nat) : Int) - ((lenN (valW b) : Nat) : Int) + 1).toNat = lenN (valW a) - lenN (valW b) + 1 := by omega
            rw [e]
            refine Nat.lt_of_lt_of_le hua ?_
            have h1 : 2 ^ (lenN (valW b) - 1) * 2 ^ (lenN (valW a) - lenN (valW b) + 1) ≤ valW b * 2 ^ (lenN (valW a) - lenN (valW b) + 1) := Nat.mul_le_mul_right _ hlb
            rw [← Nat.pow_add, show lenN (valW b) - 1 + (lenN (valW a) - lenN (valW b) + 1) = lenN (valW a) by omega] at h1
            exact h1
          · refine Nat.lt_of_lt_of_le hua (Nat.le_trans (Nat.pow_le_pow_right (n := 2) (by decide) (show lenN (valW a) ≤ lenN (valW b) - 1 by omega)) (Nat.le_trans hlb ?_))
            exact Nat.le_mul_of_pos_right _ (Nat.two_pow_pos _)
      rw [decide_eq_false hne, ha, hb, hw, hok]
      rfl
    · cases h
end
end Go.Proofs.YtbakldcbaikgpaaGreatDoor
