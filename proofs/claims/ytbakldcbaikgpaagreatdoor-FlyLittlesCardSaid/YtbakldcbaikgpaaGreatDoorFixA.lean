/- The texts WDiv, Fix, Fix2, joined. Own work. -/
import Derived.Test.YtbakldcbaikgpaaGreatDoorRndA
import Derived.Test.YtbakldcbaikgpaaGreatDoorProA
/- wide.DivMod, where the divisor is not 0. Own work. -/
namespace Go.Proofs.YtbakldcbaikgpaaGreatDoor
set_option maxRecDepth 100000
noncomputable section
def hDv : Hint := { fuel := none, keep := [8], refs := [(2, 2, 118, .dead), (3, 3, 118, .dead), (4, 4, 118, .dead), (5, 5, 118, .dead), (7, 7, 118, .dead)] }
def hDvO : Hint := { fuel := none, keep := [], refs := [(2, 2, 118, .dead), (4, 4, 118, .dead), (5, 5, 118, .dead), (7, 7, 118, .dead)] }
def okDv (a b : List Int) (n : Int) : Bool := okW a && okW b && stk (decide (valW b ≠ 0 ∧ n < 256 ∧ valW b * 2 ^ n.toNat < big256 ∧ valW a < valW b * 2 ^ (n + 1).toNat))
theorem okDv_iff {a b : List Int} {n : Int} : okDv a b n = true ↔ (okW a = true ∧ okW b = true) ∧ valW b ≠ 0 ∧ n < 256 ∧ valW b * 2 ^ n.toNat < big256 ∧ valW a < valW b * 2 ^ (n + 1).toNat := by
  unfold okDv
  rw [stk_eq, Bool.and_eq_true, Bool.and_eq_true, decide_eq_true_iff]
noncomputable def stepDv (R : Type) (vs : List AV) (k1 : List AV → Option R) (k2 : Nat → List AV → Option R) : Option R :=
  match vs with
  | [.ints 4 .u64 a, .ints 4 .u64 b, .ints 4 .u64 r4, .ints 4 .u64 r5, .ints 4 .u64 q, .int .i64 n] =>
    bif decide (n ≥ 0) then chk (okW b) (chk (okW a && okW (toW (valW b * 2 ^ n.toNat))) (bif !(decide (valW a < valW (toW (valW b * 2 ^ n.toNat)))) then
        chk (decide (0 ≤ (w64 (n.tdiv 64))) && decide ((w64 (n.tdiv 64)) < 4)) (chk (!decide ((n.tmod 64) < 0)) (chk (decide (0 ≤ (w64 (n.tdiv 64))) && decide ((w64 (n.tdiv 64)) < 4))
          (k1 [.ints 4 .u64 (toW (valW a + big256 - valW (toW (valW b * 2 ^ n.toNat)))), .ints 4 .u64 b, .ints 4 .u64 r4, .ints 4 .u64 r5, .ints 4 .u64 (q.set ((w64 (n.tdiv 64)).toNat) (orI .u64 (q.getD ((w64 (n.tdiv 64)).toNat) 0) (shlI .u64 1 (n.tmod 64)))), .int .i64 (w64 (n - 1))])))
      else k1 [.ints 4 .u64 a, .ints 4 .u64 b, .ints 4 .u64 r4, .ints 4 .u64 r5, .ints 4 .u64 q, .int .i64 (w64 (n - 1))]))
    else k2 0 [.ints 4 .u64 a, .ints 4 .u64 r4, .ints 4 .u64 r5, .ints 4 .u64 q]
  | _ => none
noncomputable def leDv : LEnt :=
  { inn := hDv
    out := hDvO
    ret := hDvO
    go := fun _ _ vs kk => match vs with
      | [.ints 4 .u64 a, .ints 4 .u64 b, .ints 4 .u64 r4, .ints 4 .u64 r5, .ints 4 .u64 [0, 0, 0, 0], .int .i64 n] =>
        chk (okDv a b n) (kk 0 [.ints 4 .u64 (toW (valW a % valW b)), .ints 4 .u64 r4, .ints 4 .u64 r5, .ints 4 .u64 (toW (valW a / valW b))])
      | _ => none }
def orcDv : List (FuncId × Ent) := [(139, entS false sp_wShl), (146, entS false sp_wSub)]
theorem step_dv (R : Type) (a b r4 r5 q : List Int) (n : Int) (k1 : List AV → Option R) (k2 : Nat → List AV → Option R) :
    runA (env Tryz.f161.ntmps orcDv []) (loopOf 0 (bodyC Tryz.f161)) 0 (stateOf leDv.inn [.ints 4 .u64 a, .ints 4 .u64 b, .ints 4 .u64 r4, .ints 4 .u64 r5, .ints 4 .u64 q, .int .i64 n]) (bodyK leDv 0 k1 k2) =
    stepDv R [.ints 4 .u64 a, .ints 4 .u64 b, .ints 4 .u64 r4, .ints 4 .u64 r5, .ints 4 .u64 q, .int .i64 n] k1 k2 := by kernel_rfl
/-- A bit more, where none is below. -/
theorem bit_more {Q n : Nat} (hn : n < 256) (hQ : Q < big256) (hz : Q % 2 ^ (n + 1) = 0) :
    (toW Q).set (n / 64) (orI .u64 ((toW Q).getD (n / 64) 0) (shlI .u64 1 ((n % 64 : Nat) : Int))) = toW (Q + 2 ^ n) := by
  have hw := wordAt (okW_toW Q) (n / 64) (by omega)
  rw [valW_toW, Nat.mod_eq_of_lt (show Q < 115792089237316195423570985008687907853269984665640564039457584007913129639936 from hQ)] at hw
  obtain ⟨W, hW⟩ : ∃ W, Q / 2 ^ (64 * (n / 64)) = W := ⟨_, rfl⟩
  have hr : n % 64 < 64 := Nat.mod_lt _ (by decide)
  have hs : shlI .u64 1 ((n % 64 : Nat) : Int) = ((2 ^ (n % 64) : Nat) : Int) := by
    have := shlI_nat 1 (n % 64) (by omega)
    rw [Nat.one_mul, Nat.mod_eq_of_lt (Nat.pow_lt_pow_right (by decide) (show n % 64 < 64 from hr) : 2 ^ (n % 64) < 2 ^ 64)] at this
    exact this
  have hn2 : n = 64 * (n / 64) + n % 64 := by omega
  -- Q as a multiple
  obtain ⟨c, hc⟩ : ∃ c, Q = 2 ^ (n + 1) * c := ⟨Q / 2 ^ (n + 1), by have := Nat.div_add_mod Q (2 ^ (n + 1)); omega⟩
  have hWc : W = 2 ^ (n % 64 + 1) * c := by
    rw [← hW, hc, show n + 1 = 64 * (n / 64) + (n % 64 + 1) by omega, Nat.pow_add, Nat.mul_assoc, Nat.mul_div_cancel_left _ (Nat.two_pow_pos _)]
  have hQW : Q = 2 ^ (64 * (n / 64)) * W := by
    rw [hWc, hc, ← Nat.mul_assoc, ← Nat.pow_add, show 64 * (n / 64) + (n % 64 + 1) = n + 1 by omega]
  have hwm : W % 18446744073709551616 = (c % 2 ^ (63 - n % 64)) * 2 ^ (n % 64 + 1) := by
    rw [hWc, show (18446744073709551616 : Nat) = 2 ^ (n % 64 + 1) * 2 ^ (63 - n % 64) by rw [← Nat.pow_add, show n % 64 + 1 + (63 - n % 64) = 64 by omega], Nat.mul_mod_mul_left, Nat.mul_comm]
  have hor : orI .u64 ((W % 18446744073709551616 : Nat) : Int) ((2 ^ (n % 64) : Nat) : Int) = ((W % 18446744073709551616 + 2 ^ (n % 64) : Nat) : Int) := by
    rw [hwm]
    refine orI_add _ _ _ ?_ (Nat.pow_lt_pow_right (by decide) (Nat.lt_succ_self _)) (by omega)
    rw [← hwm]
    exact Nat.mod_lt _ (by decide)
  have hlt : W % 18446744073709551616 + 2 ^ (n % 64) < 18446744073709551616 := by
    rw [hwm]
    have h1 : c % 2 ^ (63 - n % 64) < 2 ^ (63 - n % 64) := Nat.mod_lt _ (Nat.two_pow_pos _)
    have h2 : (c % 2 ^ (63 - n % 64) + 1) * 2 ^ (n % 64 + 1) ≤ 2 ^ (63 - n % 64) * 2 ^ (n % 64 + 1) := Nat.mul_le_mul_right _ h1
    rw [← Nat.pow_add, show 63 - n % 64 + (n % 64 + 1) = 64 by omega, Nat.add_mul] at h2
    have h3 : 2 ^ (n % 64) < 1 * 2 ^ (n % 64 + 1) := by rw [Nat.one_mul]; exact Nat.pow_lt_pow_right (by decide) (Nat.lt_succ_self _)
    have h4 : (2 : Nat) ^ 64 = 18446744073709551616 := by decide
    omega
  rw [hw, hW, hs, hor]
  have hp : 2 ^ n = 2 ^ (64 * (n / 64)) * 2 ^ (n % 64) := by rw [← Nat.pow_add, ← hn2]
  rw [hp, hQW]
  clear hp hQW hs hor hwm hWc hc hw
  generalize hj : n / 64 = j at *
  generalize 2 ^ (n % 64) = y at *
  have hj4 : j < 4 := by omega
  rw [toW_def, toW_def]
  match j, hj4 with
  | 0, _ =>
    rw [show 64 * 0 = 0 from rfl, Nat.pow_zero, Nat.one_mul, Nat.one_mul]
    simp only [List.set_cons_zero]
    have e1 : (W + y) % 18446744073709551616 = W % 18446744073709551616 + y := by omega
    have e2 : (W + y) / 18446744073709551616 = W / 18446744073709551616 := by omega
    have e3 : (W + y) / 340282366920938463463374607431768211456 = W / 340282366920938463463374607431768211456 := by omega
    have e4 : (W + y) / 6277101735386680763835789423207666416102355444464034512896 = W / 6277101735386680763835789423207666416102355444464034512896 := by omega
    rw [e1, e2, e3, e4]
  | 1, _ =>
    rw [show (2 : Nat) ^ (64 * 1) = 18446744073709551616 by decide]
    simp only [List.set_cons_zero, List.set_cons_succ]
    have e0 : (18446744073709551616 * W + 18446744073709551616 * y) % 18446744073709551616 = 18446744073709551616 * W % 18446744073709551616 := by omega
    have e1 : (18446744073709551616 * W + 18446744073709551616 * y) / 18446744073709551616 % 18446744073709551616 = W % 18446744073709551616 + y := by omega
    have e3 : (18446744073709551616 * W + 18446744073709551616 * y) / 340282366920938463463374607431768211456 = 18446744073709551616 * W / 340282366920938463463374607431768211456 := by omega
    have e4 : (18446744073709551616 * W + 18446744073709551616 * y) / 6277101735386680763835789423207666416102355444464034512896 = 18446744073709551616 * W / 6277101735386680763835789423207666416102355444464034512896 := by omega
    rw [e0, e1, e3, e4]
  | 2, _ =>
    rw [show (2 : Nat) ^ (64 * 2) = 340282366920938463463374607431768211456 by decide]
    simp only [List.set_cons_zero, List.set_cons_succ]
    have e0 : (340282366920938463463374607431768211456 * W + 340282366920938463463374607431768211456 * y) % 18446744073709551616 = 340282366920938463463374607431768211456 * W % 18446744073709551616 := by omega
    have e1 : (340282366920938463463374607431768211456 * W + 340282366920938463463374607431768211456 * y) / 18446744073709551616 % 18446744073709551616 = 340282366920938463463374607431768211456 * W / 18446744073709551616 % 18446744073709551616 := by omega
    have e3 : (340282366920938463463374607431768211456 * W + 340282366920938463463374607431768211456 * y) / 340282366920938463463374607431768211456 % 18446744073709551616 = W % 18446744073709551616 + y := by omega
    have e4 : (340282366920938463463374607431768211456 * W + 340282366920938463463374607431768211456 * y) / 6277101735386680763835789423207666416102355444464034512896 = 340282366920938463463374607431768211456 * W / 6277101735386680763835789423207666416102355444464034512896 := by omega
    rw [e0, e1, e3, e4]
  | 3, _ =>
    rw [show (2 : Nat) ^ (64 * 3) = 6277101735386680763835789423207666416102355444464034512896 by decide]
    simp only [List.set_cons_zero, List.set_cons_succ]
    have e0 : (6277101735386680763835789423207666416102355444464034512896 * W + 6277101735386680763835789423207666416102355444464034512896 * y) % 18446744073709551616 = 6277101735386680763835789423207666416102355444464034512896 * W % 18446744073709551616 := by omega
    have e1 : (6277101735386680763835789423207666416102355444464034512896 * W + 6277101735386680763835789423207666416102355444464034512896 * y) / 18446744073709551616 % 18446744073709551616 = 6277101735386680763835789423207666416102355444464034512896 * W / 18446744073709551616 % 18446744073709551616 := by omega
    have e3 : (6277101735386680763835789423207666416102355444464034512896 * W + 6277101735386680763835789423207666416102355444464034512896 * y) / 340282366920938463463374607431768211456 % 18446744073709551616 = 6277101735386680763835789423207666416102355444464034512896 * W / 340282366920938463463374607431768211456 % 18446744073709551616 := by omega
    have e4 : (6277101735386680763835789423207666416102355444464034512896 * W + 6277101735386680763835789423207666416102355444464034512896 * y) / 6277101735386680763835789423207666416102355444464034512896 % 18446744073709551616 = W % 18446744073709551616 + y := by omega
    rw [e0, e1, e3, e4]
theorem toW_up (v : Nat) : toW (v + big256) = toW v := by
  have h1 : (v + big256) % 18446744073709551616 = v % 18446744073709551616 := by unfold big256; omega
  have h2 : (v + big256) / 18446744073709551616 % 18446744073709551616 = v / 18446744073709551616 % 18446744073709551616 := by unfold big256; omega
  have h3 : (v + big256) / 340282366920938463463374607431768211456 % 18446744073709551616 = v / 340282366920938463463374607431768211456 % 18446744073709551616 := by unfold big256; omega
  have h4 : (v + big256) / 6277101735386680763835789423207666416102355444464034512896 % 18446744073709551616 = v / 6277101735386680763835789423207666416102355444464034512896 % 18446744073709551616 := by unfold big256; omega
  rw [toW_def, toW_def, h1, h2, h3, h4]
/-- Rounds from 2^(m-1) down. -/
theorem dv_rounds (R : Type) {b r4 r5 : List Int} (hb : okW b = true) (kk : Nat → List AV → Option R) : ∀ (m A Q : Nat), m ≤ 256 → A < big256 → Q < big256 → A < valW b * 2 ^ m → (m = 0 ∨ valW b * 2 ^ (m - 1) < big256) → Q % 2 ^ m = 0 → Q + 2 ^ m ≤ big256 →
    loopN (stepDv R) (m + 1) [.ints 4 .u64 (toW A), .ints 4 .u64 b, .ints 4 .u64 r4, .ints 4 .u64 r5, .ints 4 .u64 (toW Q), .int .i64 ((m : Int) - 1)] kk =
    kk 0 [.ints 4 .u64 (toW (A % valW b)), .ints 4 .u64 r4, .ints 4 .u64 r5, .ints 4 .u64 (toW (Q + A / valW b))]
  | 0, A, Q, _, hA, hQ, hlt, _, _, _ => by
    rw [Nat.pow_zero, Nat.mul_one] at hlt
    rw [Nat.mod_eq_of_lt hlt, Nat.div_eq_of_lt hlt, loopN]
    rfl
  | m + 1, A, Q, hm, hA, hQ, hlt, hB, hz, hR => by
    have hB' : valW b * 2 ^ m < big256 := by simpa using hB
    have e1 : ((m + 1 : Nat) : Int) - 1 = (m : Int) := by omega
    rw [e1, loopN]
    have hp := Nat.two_pow_pos m
    have hps : 2 ^ (m + 1) = 2 ^ m * 2 := Nat.pow_succ ..
    have hlt2 : A < valW b * 2 ^ m * 2 := by rw [Nat.mul_assoc, ← hps]; exact hlt
    have hz2 : Q % 2 ^ m = 0 := by
      obtain ⟨c, hc⟩ : ∃ c, Q = 2 ^ (m + 1) * c := ⟨Q / 2 ^ (m + 1), by have := Nat.div_add_mod Q (2 ^ (m + 1)); omega⟩
      rw [hc, hps, Nat.mul_assoc, Nat.mul_mod_right]
    have q1 : (m : Int).tdiv 64 = ((m / 64 : Nat) : Int) := (split64 m).1
    have q2 : (m : Int).tmod 64 = ((m % 64 : Nat) : Int) := (split64 m).2
    have q3 : w64 ((m : Int).tdiv 64) = ((m / 64 : Nat) : Int) := by rw [q1]; exact w64_small (by omega) (by omega)
    have q4 : w64 ((m : Int) - 1) = (m : Int) - 1 := by unfold w64; rw [IntKind.wrap_i64]; omega
    have hvb : valW (toW (valW b * 2 ^ m)) = valW b * 2 ^ m := by rw [valW_toW]; exact Nat.mod_eq_of_lt hB'
    have hva : valW (toW A) = A := by rw [valW_toW]; exact Nat.mod_eq_of_lt hA
    simp only [stepDv, q2, q3, q4, Int.toNat_natCast, hvb, hva]
    rw [decide_eq_true (show (m : Int) ≥ 0 by omega), hb, okW_toW, okW_toW]
    simp only [Bool.and_self, chk, cond_true]
    rw [decide_eq_true (show (0 : Int) ≤ ((m / 64 : Nat) : Int) by omega), decide_eq_true (show ((m / 64 : Nat) : Int) < 4 by omega), decide_eq_false (show ¬ ((m % 64 : Nat) : Int) < 0 by omega)]
    simp only [Bool.and_self, Bool.not_false, cond_true]
    have hvp : 0 < valW b := by
      rcases Nat.eq_zero_or_pos (valW b) with h0 | h0
      · rw [h0] at hlt; omega
      · exact h0
    by_cases hc : A < valW b * 2 ^ m
    · rw [decide_eq_true hc]
      simp only [Bool.not_true, cond_false]
      exact dv_rounds R hb kk m A Q (by omega) hA hQ hc (by
        rcases Nat.eq_zero_or_pos m with h0 | h0
        · exact .inl h0
        · refine .inr (Nat.lt_of_le_of_lt (Nat.mul_le_mul_left _ ?_) hB')
          exact Nat.pow_le_pow_right (by decide) (Nat.sub_le _ _)) hz2 (by omega)
    · rw [decide_eq_false hc]
      simp only [Bool.not_false, cond_true]
      have hA' : toW (A + big256 - valW b * 2 ^ m) = toW (A - valW b * 2 ^ m) := by
        rw [show A + big256 - valW b * 2 ^ m = (A - valW b * 2 ^ m) + big256 by omega]
        exact toW_up _
      rw [bit_more (by omega) hQ (by rw [hps]; rw [hps] at hz; exact hz), hA']
      have := dv_rounds R (r4 := r4) (r5 := r5) hb kk m (A - valW b * 2 ^ m) (Q + 2 ^ m) (by omega) (by omega) (by omega) (by omega) (by
        rcases Nat.eq_zero_or_pos m with h0 | h0
        · exact .inl h0
        · refine .inr (Nat.lt_of_le_of_lt (Nat.mul_le_mul_left _ ?_) hB')
          exact Nat.pow_le_pow_right (by decide) (Nat.sub_le _ _)) (by rw [Nat.add_mod_right]; exact hz2) (by omega)
      rw [this]
      have hdiv : A = valW b * 2 ^ m + (A - valW b * 2 ^ m) := by omega
      generalize A - valW b * 2 ^ m = A' at *
      have h1 : A % valW b = A' % valW b := by rw [hdiv, Nat.mul_add_mod]
      have h2 : A / valW b = 2 ^ m + A' / valW b := by rw [hdiv, Nat.mul_add_div hvp]
      rw [h1, h2, Nat.add_assoc]
theorem go_dv (R : Type) (n : Nat) (vs : List AV) (kk : Nat → List AV → Option R) (r : R) (h : leDv.go R n vs kk = some r) : ∃ m, loopN (stepDv R) m vs kk = some r := by
  simp only [leDv] at h
  split at h
  · rename_i a b r4 r5 n
    obtain ⟨hg, hk⟩ := chk_some h
    clear h
    obtain ⟨⟨ha, hb⟩, hnz, hn, hs, hlt⟩ := okDv_iff.1 hg
    have hz : ([0, 0, 0, 0] : List Int) = toW 0 := (toW_of 0 0 0 0 0 0 (by decide) (by decide) (by decide) (by decide) rfl).symm
    by_cases h0 : n < 0
    · refine ⟨1, ?_⟩
      rw [show (n + 1).toNat = 0 by omega, Nat.pow_zero, Nat.mul_one] at hlt
      rw [Nat.mod_eq_of_lt hlt, Nat.div_eq_of_lt hlt, toW_valW ha] at hk
      rw [loopN]
      simp only [stepDv]
      rw [decide_eq_false (show ¬ n ≥ 0 by omega), hz]
      exact hk
    · obtain ⟨m, rfl⟩ : ∃ m : Nat, n = m := ⟨n.toNat, (Int.toNat_of_nonneg (by omega)).symm⟩
      refine ⟨m + 1 + 1, ?_⟩
      have hr := dv_rounds R (r4 := r4) (r5 := r5) hb kk (m + 1) (valW a) 0 (by omega) (valW_lt ha) (by decide) (by rw [show ((m : Int) + 1).toNat = m + 1 by omega] at hlt; exact hlt) (.inr (by rw [Int.toNat_natCast] at hs; simpa using hs)) (Nat.zero_mod _) (by
        have : 2 ^ (m + 1) ≤ 2 ^ 256 := Nat.pow_le_pow_right (by decide) (by omega)
        rw [Nat.zero_add]
        exact this)
      rw [toW_valW ha, ← hz, show ((m + 1 : Nat) : Int) - 1 = (m : Int) by omega, Nat.zero_add] at hr
      rw [hr]
      exact hk
  · cases h
def nzW (b : List Int) : Bool := stk (decide (valW b ≠ 0))
def sp_wDiv : List AV → Option (Bool × AV)
  | [.ints 4 .u64 a, .ints 4 .u64 b] => some (okW a && okW b && nzW b, .tup [.ints 4 .u64 (toW (valW a / valW b)), .ints 4 .u64 (toW (valW a % valW b)), .nili])
  | _ => none
def orcDiv : List (FuncId × Ent) := [(107, entS false sp_wLen)]
theorem run_wDiv (a b : List Int) : callA (env Tryz.f161.ntmps orcDiv [(0, leDv)]) (bodyC Tryz.f161) Tryz.f161.results.toList (slots 0 [.ints 4 .u64 a, .ints 4 .u64 b]) some =
    bif decide (b = [0, 0, 0, 0]) then some (.tup [.ints 4 .u64 [0, 0, 0, 0], .ints 4 .u64 [0, 0, 0, 0], .iface 59 (.int .i64 5)]) else
      chk (okW a) (chk (okW b) (chk (okDv a b (w64 (((lenN (valW a) : Nat) : Int) - ((lenN (valW b) : Nat) : Int)))) (some (.tup [.ints 4 .u64 (toW (valW a / valW b)), .ints 4 .u64 (toW (valW a % valW b)), .nili])))) := by kernel_rfl
theorem ok_wDiv : EntOk Tryz.prog 161 (entS false sp_wDiv) := by
  refine contractS (orc := orcDiv) (lo := [(0, leDv)]) Tryz.func161 (orc_cons ok_wLen orc_nil) (by kernel_rfl) (by kernel_rfl) (by kernel_rfl)
    (loops_one (id := 0) (y := .loop (loopOf 0 (bodyC Tryz.f161))) (by kernel_rfl)
      (loopS (le := leDv) (orc := orcDv) (lo' := []) (orc_cons ok_wShl (orc_cons ok_wSub orc_nil)) (by kernel_rfl) rfl (loops_none (by kernel_rfl)) stepDv (fun R vs k1 k2 r h => ?_) go_dv)) fun args r h => ?_
  · have h0 := h
    unfold stepDv at h
    split at h
    · exact (step_dv R _ _ _ _ _ _ k1 k2).trans h0
    · cases h
  · unfold sp_wDiv at h
    split at h
    · rename_i a b
      simp only [Option.some.injEq, Prod.mk.injEq, Bool.and_eq_true] at h
      obtain ⟨⟨⟨ha, hb⟩, hz⟩, rfl⟩ := h
      unfold nzW at hz
      rw [stk_eq, decide_eq_true_iff] at hz
      refine ⟨by kernel_rfl, .inr rfl, (run_wDiv a b).trans ?_⟩
      have hne : ¬ b = [0, 0, 0, 0] := by
        intro e
        rw [e] at hz
        exact hz rfl
      have la := lenN_le.2 (show valW a < 2 ^ 256 from valW_lt ha)
      have lb := lenN_le.2 (show valW b < 2 ^ 256 from valW_lt hb)
      have hw : w64 (((lenN (valW a) : Nat) : Int) - ((lenN (valW b) : Nat) : Int)) = ((lenN (valW a) : Nat) : Int) - ((lenN (valW b) : Nat) : Int) := by
        unfold w64; rw [IntKind.wrap_i64]; omega
      have hlb := le_lenN (show 0 < valW b by omega)
      have hlpos := lenN_pos (show 0 < valW b by omega)
      have hub := lt_lenN (valW b)
      have hua := lt_lenN (valW a)
      have hok : okDv a b (((lenN (valW a) : Nat) : Int) - ((lenN (valW b) : Nat) : Int)) = true := by
        refine okDv_iff.2 ⟨⟨ha, hb⟩, hz, by omega, ?_, ?_⟩
        · by_cases hle : lenN (valW b) ≤ lenN (valW a)
          · have e : (((lenN (valW a) : Nat) : Int) - ((lenN (valW b) : Nat) : Int)).toNat = lenN (valW a) - lenN (valW b) := by omega
            rw [e]
            have h1 : valW b * 2 ^ (lenN (valW a) - lenN (valW b)) < 2 ^ lenN (valW b) * 2 ^ (lenN (valW a) - lenN (valW b)) := Nat.mul_lt_mul_of_pos_right hub (Nat.two_pow_pos _)
            rw [← Nat.pow_add, show lenN (valW b) + (lenN (valW a) - lenN (valW b)) = lenN (valW a) by omega] at h1
            exact Nat.lt_of_lt_of_le h1 (Nat.pow_le_pow_right (n := 2) (by decide) la)
          · have e : (((lenN (valW a) : Nat) : Int) - ((lenN (valW b) : Nat) : Int)).toNat = 0 := by omega
            rw [e, Nat.pow_zero, Nat.mul_one]
            exact valW_lt hb
        · by_cases hle : lenN (valW b) ≤ lenN (valW a)
          · have e : (((lenN (valW a) : Nat) : Int) - ((lenN (valW b) : Nat) : Int) + 1).toNat = lenN (valW a) - lenN (valW b) + 1 := by omega
            rw [e]
            refine Nat.lt_of_lt_of_le hua ?_
            have h1 : 2 ^ (lenN (valW b) - 1) * 2 ^ (lenN (valW a) - lenN (valW b) + 1) ≤ valW b * 2 ^ (lenN (valW a) - lenN (valW b) + 1) := Nat.mul_le_mul_right _ hlb
            rw [← Nat.pow_add, show lenN (valW b) - 1 + (lenN (valW a) - lenN (valW b) + 1) = lenN (valW a) by omega] at h1
            exact h1
          · refine Nat.lt_of_lt_of_le hua (Nat.le_trans (Nat.pow_le_pow_right (n := 2) (by decide) (show lenN (valW a) ≤ lenN (valW b) - 1 by omega)) (Nat.le_trans hlb ?_))
            exact Nat.le_mul_of_pos_right _ (Nat.two_pow_pos _)
      rw [decide_eq_false hne, ha, hb, hw, hok]
      rfl
    · cases h
end
end Go.Proofs.YtbakldcbaikgpaaGreatDoor
/- fix: fractions of 256 bits. Own work. -/
namespace Go.Proofs.YtbakldcbaikgpaaGreatDoor
set_option maxRecDepth 100000
noncomputable section
theorem valT {v : Nat} (h : v < 115792089237316195423570985008687907853269984665640564039457584007913129639936) : valW (toW v) = v := by rw [valW_toW]; exact Nat.mod_eq_of_lt h
theorem toW_md (v : Nat) : toW (v % big2) = toW v := by
  have h1 : v % big2 % 18446744073709551616 = v % 18446744073709551616 := by unfold big2; omega
  have h2 : v % big2 / 18446744073709551616 % 18446744073709551616 = v / 18446744073709551616 % 18446744073709551616 := by unfold big2; omega
  have h3 : v % big2 / 340282366920938463463374607431768211456 % 18446744073709551616 = v / 340282366920938463463374607431768211456 % 18446744073709551616 := by unfold big2; omega
  have h4 : v % big2 / 6277101735386680763835789423207666416102355444464034512896 % 18446744073709551616 = v / 6277101735386680763835789423207666416102355444464034512896 % 18446744073709551616 := by unfold big2; omega
  rw [toW_def, toW_def, h1, h2, h3, h4]
/-! ### Of -/
def divOf (n b : Nat) : Nat := stk (n * oneF / b)
def sp_fOf : List AV → Option (Bool × AV)
  | [.int .u64 n, .int .u64 b] => some (inU n && inU b && stk (decide (0 < b ∧ n.toNat / b.toNat < 256)), .tup [.ints 4 .u64 (toW (divOf n.toNat b.toNat)), .nili])
  | _ => none
def orcFOf : List (FuncId × Ent) := [(114, entS false sp_wOf), (161, entS false sp_wDiv), (139, entS false sp_wShl), (138, entS false sp_wAdd)]
def fOf4 (_ : Int) (v1 v4 v10 : List Int) : Option AV :=
  chk (okW v1) (chk (okW v4) (chk (okW (toW (valW v1 * 2 ^ (248 : Int).toNat)) && okW (toW (valW v4 * 2 ^ (120 : Int).toNat))) (chk (okW (toW (valW (toW (valW v1 * 2 ^ (248 : Int).toNat)) + valW (toW (valW v4 * 2 ^ (120 : Int).toNat)))) && okW v10)
    (some (.tup [.ints 4 .u64 (toW (valW (toW (valW (toW (valW v1 * 2 ^ (248 : Int).toNat)) + valW (toW (valW v4 * 2 ^ (120 : Int).toNat)))) + valW v10)), .nili])))))
def fOf3 (b : Int) (v1 v4 v8 : List Int) : Option AV :=
  chk (okW v8) (chk (inU b) (chk (okW (toW (valW v8 * 2 ^ (120 : Int).toNat)) && okW (toW b.toNat) && nzW (toW b.toNat)) (fOf4 b v1 v4 (toW (valW (toW (valW v8 * 2 ^ (120 : Int).toNat)) / valW (toW b.toNat))))))
def fOf2 (b : Int) (v1 v2 v6 : List Int) : Option AV :=
  chk (okW v2) (chk (inU b) (chk (okW v6 && okW (toW b.toNat) && nzW (toW b.toNat)) (chk (okW v2) (chk (inU b) (chk (okW v6 && okW (toW b.toNat) && nzW (toW b.toNat)) (fOf3 b v1 (toW (valW v6 / valW (toW b.toNat))) (toW (valW v6 % valW (toW b.toNat)))))))))
theorem run_fOf (n b : Int) : callA (env Tryz.f159.ntmps orcFOf []) (bodyC Tryz.f159) Tryz.f159.results.toList (slots 0 [.int .u64 n, .int .u64 b]) some =
    bif b == 0 then some (.tup [.ints 4 .u64 [0, 0, 0, 0], .iface 59 (.int .i64 5)]) else chk (!(b == 0)) (bif decide ((u64 (n.tdiv b)) ≥ 256) then some (.tup [.ints 4 .u64 [0, 0, 0, 0], .iface 59 (.int .i64 2)]) else
      chk (inU n) (chk (inU b) (chk (okW (toW n.toNat) && okW (toW b.toNat) && nzW (toW b.toNat)) (fOf2 b (toW (valW (toW n.toNat) / valW (toW b.toNat))) (toW (valW (toW n.toNat) % valW (toW b.toNat))) (toW (valW (toW (valW (toW n.toNat) % valW (toW b.toNat))) * 2 ^ (128 : Int).toNat)))))) := by kernel_rfl
theorem of_sum {m b p q : Nat} (hb : 0 < b) : m / b * (p * q) + m % b * p / b * q + m % b * p % b * q / b = m * (p * q) / b := by
  have h1 := Nat.div_add_mod m b
  have h2 := Nat.div_add_mod (m % b * p) b
  have h3 := Nat.div_add_mod (m % b * p % b * q) b
  have h4 := Nat.mod_lt (m % b * p % b * q) hb
  generalize m / b = Q at *
  generalize m % b = R at *
  generalize R * p / b = q1 at *
  generalize hr1 : R * p % b = r1 at *
  generalize r1 * q / b = q2 at *
  generalize r1 * q % b = r2 at *
  have e : m * (p * q) = b * (Q * (p * q) + q1 * q + q2) + r2 := by
    have k1 : R * (p * q) = b * (q1 * q) + r1 * q := by
      rw [← Nat.mul_assoc, ← h2, Nat.add_mul, Nat.mul_assoc]
    rw [← h1, Nat.add_mul, k1, ← h3, Nat.mul_add, Nat.mul_add, Nat.mul_assoc b Q]
    generalize b * (Q * (p * q)) = A
    generalize b * (q1 * q) = B
    generalize b * q2 = C
    omega
  rw [e, Nat.mul_add_div hb, Nat.div_eq_of_lt h4, Nat.add_zero]
theorem ok_fOf : EntOk Tryz.prog 159 (entS false sp_fOf) := by
  refine contractS (orc := orcFOf) (lo := []) Tryz.func159 (orc_cons ok_wOf (orc_cons ok_wDiv (orc_cons ok_wShl (orc_cons ok_wAdd orc_nil)))) (by kernel_rfl) (by kernel_rfl) (by kernel_rfl) (loops_none (by kernel_rfl)) fun args r h => ?_
  unfold sp_fOf at h
  split at h
  · rename_i n b
    simp only [Option.some.injEq, Prod.mk.injEq, Bool.and_eq_true] at h
    obtain ⟨⟨⟨hn, hb⟩, hg⟩, rfl⟩ := h
    rw [stk_eq, decide_eq_true_iff] at hg
    obtain ⟨m, rfl, hm⟩ := nat_of hn
    obtain ⟨b, rfl, hb2⟩ := nat_of hb
    obtain ⟨hb0, hq⟩ := hg
    have hb0 : 0 < b := by omega
    rw [Int.toNat_natCast, Int.toNat_natCast] at hq
    refine ⟨by kernel_rfl, .inr rfl, (run_fOf m b).trans ?_⟩
    have c1 : ((b : Int) == 0) = false := beq_eq_false_iff_ne.2 (by omega)
    have c2 : u64 ((m : Int).tdiv (b : Int)) = ((m / b : Nat) : Int) := by
      have : (m : Int).tdiv (b : Int) = ((m / b : Nat) : Int) := rfl
      exact u64_of this (Nat.lt_of_le_of_lt (Nat.div_le_self _ _) hm)
    have vm : valW (toW m) = m := valT (by omega)
    have vb : valW (toW b) = b := valT (by omega)
    have hz : nzW (toW b) = true := by unfold nzW; rw [stk_eq, vb]; exact decide_eq_true (by omega)
    have hR : m % b < b := Nat.mod_lt _ hb0
    obtain ⟨p, hp⟩ : ∃ p, (2 : Nat) ^ (128 : Int).toNat = p := ⟨_, rfl⟩
    obtain ⟨q, hq0⟩ : ∃ q, (2 : Nat) ^ (120 : Int).toNat = q := ⟨_, rfl⟩
    obtain ⟨o, ho⟩ : ∃ o, (2 : Nat) ^ (248 : Int).toNat = o := ⟨_, rfl⟩
    have hp' : p = 340282366920938463463374607431768211456 := by rw [← hp]; rfl
    have hq' : q = 1329227995784915872903807060280344576 := by rw [← hq0]; rfl
    have ho' : o = 452312848583266388373324160190187140051835877600158453279131187530910662656 := by rw [← ho]; rfl
    have hof : oneF = p * q := by rw [hp', hq']; decide
    have hopq : o = p * q := by rw [hp', hq', ho']
    have hsum := of_sum (m := m) (p := p) (q := q) hb0
    have k2 : m % b * p / b < p := by
      rw [Nat.div_lt_iff_lt_mul hb0, Nat.mul_comm]
      exact Nat.mul_lt_mul_of_pos_left hR (by omega)
    have k3 : m % b * p % b < b := Nat.mod_lt _ hb0
    have k5 : m % b * p % b * q / b < q := by
      rw [Nat.div_lt_iff_lt_mul hb0, Nat.mul_comm]
      exact Nat.mul_lt_mul_of_pos_left k3 (by omega)
    unfold fOf2 fOf3 fOf4 divOf
    rw [hp, hq0, ho, Int.toNat_natCast, Int.toNat_natCast, c1, c2, vm, vb, hz, hn, hb, stk_eq, hof, ← hsum, ← hopq]
    clear hsum hof hp hq0 ho vm vb hz c1 c2 hopq
    generalize m / b = Q at *
    generalize m % b = R at *
    have v1 : valW (toW Q) = Q := valT (by omega)
    have v2 : valW (toW R) = R := valT (by omega)
    rw [v1, v2]
    have v3 : valW (toW (R * p)) = R * p := valT (by rw [hp']; omega)
    rw [v3]
    generalize R * p / b = q1 at *
    generalize R * p % b = r1 at *
    have v4 : valW (toW q1) = q1 := valT (by omega)
    have v5 : valW (toW r1) = r1 := valT (by omega)
    rw [v4, v5]
    have v6 : valW (toW (r1 * q)) = r1 * q := valT (by rw [hq']; omega)
    rw [v6]
    generalize r1 * q / b = q2 at *
    have v7 : valW (toW q2) = q2 := valT (by omega)
    have v8 : valW (toW (Q * o)) = Q * o := valT (by rw [ho']; omega)
    have v9 : valW (toW (q1 * q)) = q1 * q := valT (by rw [hq']; omega)
    rw [v7, v8, v9]
    have v10 : valW (toW (Q * o + q1 * q)) = Q * o + q1 * q := valT (by rw [hq', ho']; omega)
    rw [v10, decide_eq_false (show ¬ ((Q : Nat) : Int) ≥ 256 by omega)]
    simp only [okW_toW]
    rfl
  · cases h
/-! ### Mul, one, Pi -/
def sp_fMul : List AV → Option (Bool × AV)
  | [.ints 4 .u64 a, .ints 4 .u64 b] => some (okW a && okW b, .tup [.ints 4 .u64 (toW (stk (mulF (valW a) (valW b)))), .bool (stk (decide (248 < lenN (valW a * valW b / big2))))])
  | _ => none
def orcFMul : List (FuncId × Ent) := [(113, entS false sp_wMul), (110, entS false sp_wShr), (139, entS false sp_wShl), (138, entS false sp_wAdd), (107, entS false sp_wLen)]
def fM2 (v1 v2 : List Int) : Option AV :=
  chk (okW v1) (chk (okW (toW (valW v1 * 2 ^ (8 : Int).toNat)) && okW v2) (chk (okW v1) (some (.tup [.ints 4 .u64 (toW (valW (toW (valW v1 * 2 ^ (8 : Int).toNat)) + valW v2)), .bool (decide (((lenN (valW v1) : Nat) : Int) > 248))]))))
theorem run_fMul (a b : List Int) : callA (env Tryz.f156.ntmps orcFMul []) (bodyC Tryz.f156) Tryz.f156.results.toList (slots 0 [.ints 4 .u64 a, .ints 4 .u64 b]) some =
    chk (okW a && okW b) (chk (okW (toW (valW a * valW b))) (fM2 (toW (valW a * valW b / 115792089237316195423570985008687907853269984665640564039457584007913129639936)) (toW (valW (toW (valW a * valW b)) / 2 ^ (248 : Int).toNat)))) := by kernel_rfl
theorem ok_fMul : EntOk Tryz.prog 156 (entS false sp_fMul) := by
  refine contractS (orc := orcFMul) (lo := []) Tryz.func156 (orc_cons ok_wMul (orc_cons ok_wShr (orc_cons ok_wShl (orc_cons ok_wAdd (orc_cons ok_wLen orc_nil))))) (by kernel_rfl) (by kernel_rfl) (by kernel_rfl) (loops_none (by kernel_rfl)) fun args r h => ?_
  unfold sp_fMul at h
  split at h
  · rename_i a b
    simp only [Option.some.injEq, Prod.mk.injEq, Bool.and_eq_true] at h
    obtain ⟨⟨ha, hb⟩, rfl⟩ := h
    refine ⟨by kernel_rfl, .inr rfl, (run_fMul a b).trans ?_⟩
    rw [ha, hb]
    unfold fM2
    have hP : valW a * valW b < big2 * big2 := Nat.mul_lt_mul_of_lt_of_le (valW_lt ha) (Nat.le_of_lt (valW_lt hb)) (by decide)
    unfold mulF
    generalize valW a * valW b = P at *
    have b8 : (2 : Nat) ^ (8 : Int).toNat = 256 := rfl
    have b248 : (2 : Nat) ^ (248 : Int).toNat = oneF := by decide
    rw [b8, b248, stk_eq, stk_eq, valW_toW, valW_toW, valW_toW, valW_toW, okW_toW, okW_toW, okW_toW, okW_toW]
    have hhi : P / 115792089237316195423570985008687907853269984665640564039457584007913129639936 < 115792089237316195423570985008687907853269984665640564039457584007913129639936 := by
      rw [Nat.div_lt_iff_lt_mul (by decide)]; exact hP
    rw [Nat.mod_eq_of_lt hhi]
    have e1 : toW (P / 115792089237316195423570985008687907853269984665640564039457584007913129639936 * 256 % 115792089237316195423570985008687907853269984665640564039457584007913129639936 + P % 115792089237316195423570985008687907853269984665640564039457584007913129639936 / oneF % 115792089237316195423570985008687907853269984665640564039457584007913129639936) = toW (P / oneF % big2) := by
      rw [toW_md, ← toW_md, ← toW_md (P / oneF)]
      congr 1
      unfold big2 oneF
      omega
    have e2 : decide (((lenN (P / 115792089237316195423570985008687907853269984665640564039457584007913129639936) : Nat) : Int) > 248) = decide (248 < lenN (P / big2)) := decide_eq_decide.2 (by unfold big2; omega)
    rw [e1, e2]
    rfl
  · cases h
def sp_fOne : List AV → Option (Bool × AV)
  | [] => some (true, .ints 4 .u64 (toW oneF))
  | _ => none
theorem run_fOne : callA (env Tryz.f155.ntmps [(114, entS false sp_wOf), (139, entS false sp_wShl)] []) (bodyC Tryz.f155) Tryz.f155.results.toList (slots 0 []) some =
    chk (inU 1) (chk (okW (toW (1 : Int).toNat)) (some (.ints 4 .u64 (toW (valW (toW (1 : Int).toNat) * 2 ^ (248 : Int).toNat))))) := by kernel_rfl
theorem ok_fOne : EntOk Tryz.prog 155 (entS false sp_fOne) := by
  refine contractS (orc := [(114, entS false sp_wOf), (139, entS false sp_wShl)]) (lo := []) Tryz.func155 (orc_cons ok_wOf (orc_cons ok_wShl orc_nil)) (by kernel_rfl) (by kernel_rfl) (by kernel_rfl) (loops_none (by kernel_rfl)) fun args r h => ?_
  unfold sp_fOne at h
  split at h
  · simp only [Option.some.injEq, Prod.mk.injEq] at h
    obtain ⟨_, rfl⟩ := h
    refine ⟨by kernel_rfl, .inr rfl, run_fOne.trans ?_⟩
    have h1 : inU 1 = true := inU_iff.2 (by omega)
    have h2 : valW (toW (1 : Int).toNat) = 1 := valT (by decide)
    have h3 : 1 * 2 ^ (248 : Int).toNat = oneF := by decide
    rw [h1, okW_toW, h2, h3]
    rfl
  · cases h
def sp_fPi : List AV → Option (Bool × AV)
  | [] => some (true, .ints 4 .u64 (toW piF))
  | _ => none
theorem run_fPi : callA (env Tryz.f160.ntmps [] []) (bodyC Tryz.f160) Tryz.f160.results.toList (slots 0 []) some =
    some (.ints 4 .u64 [14990283013545021036, 4946088427455618865, 15209528447828455539, 226375608064910088]) := by kernel_rfl
theorem pi_list : toW piF = [14990283013545021036, 4946088427455618865, 15209528447828455539, 226375608064910088] :=
  toW_of piF 14990283013545021036 4946088427455618865 15209528447828455539 226375608064910088 0 (by decide) (by decide) (by decide) (by decide) (by decide)
theorem ok_fPi : EntOk Tryz.prog 160 (entS false sp_fPi) := by
  refine contractS (orc := []) (lo := []) Tryz.func160 orc_nil (by kernel_rfl) (by kernel_rfl) (by kernel_rfl) (loops_none (by kernel_rfl)) fun args r h => ?_
  unfold sp_fPi at h
  split at h
  · simp only [Option.some.injEq, Prod.mk.injEq] at h
    obtain ⟨_, rfl⟩ := h
    refine ⟨by kernel_rfl, .inr rfl, run_fPi.trans ?_⟩
    rw [pi_list]
  · cases h
end
end Go.Proofs.YtbakldcbaikgpaaGreatDoor
/- fix: series, Sin, Cos. Own work. -/
namespace Go.Proofs.YtbakldcbaikgpaaGreatDoor
set_option maxRecDepth 100000
noncomputable section
/-! ### series -/
/-- Both sums. -/
def serP : Nat → Bool → Nat → Nat → Nat → Nat → Nat → Nat × Nat
  | 0, _, p, m, _, _, _ => (p, m)
  | n + 1, b, p, m, t, s, f => if mulF t s / (f * (f + 1)) = 0 then (if b then (p + t) % big2 else p, if b then m else (m + t) % big2) else serP n (!b) (if b then (p + t) % big2 else p) (if b then m else (m + t) % big2) (mulF t s / (f * (f + 1))) s (f + 2)
theorem serF_P : ∀ (n : Nat) (b : Bool) (p m t s f : Nat), serF n b p m t s f = ((serP n b p m t s f).1 + big2 - (serP n b p m t s f).2) % big2
  | 0, _, _, _, _, _, _ => rfl
  | n + 1, b, p, m, t, s, f => by
    unfold serF serP
    simp only []
    split
    · rfl
    · exact serF_P n _ _ _ _ _ _
def hSer : Hint := { fuel := none, keep := [2, 12], refs := [(3, 3, 118, .dead), (4, 4, 118, .dead), (6, 6, 118, .dead), (7, 7, 118, .dead), (8, 8, 118, .dead)] }
def hSerO : Hint := { fuel := none, keep := [], refs := [(6, 6, 118, .dead), (7, 7, 118, .dead), (8, 8, 118, .dead)] }
noncomputable def serT {R : Type} (r6 s p m v : List Int) (f i : Int) (k1 : List AV → Option R) (k2 : Nat → List AV → Option R) : Option R :=
  bif decide (v = [0, 0, 0, 0]) then k2 0 [.ints 4 .u64 r6, .ints 4 .u64 p, .ints 4 .u64 m]
  else k1 [.ints 4 .u64 v, .ints 4 .u64 s, .ints 4 .u64 r6, .ints 4 .u64 p, .ints 4 .u64 m, .int .u64 (u64 (f + 2)), .int .i64 (w64 (i + 1))]
noncomputable def serQ {R : Type} (t r6 s p m : List Int) (f i : Int) (k1 : List AV → Option R) (k2 : Nat → List AV → Option R) : Option R :=
  chk (okW t && okW s) (chk (inU (u64 (f * (u64 (f + 1))))) (chk (okW (toW (stk (mulF (valW t) (valW s)))) && okW (toW (u64 (f * (u64 (f + 1)))).toNat) && nzW (toW (u64 (f * (u64 (f + 1)))).toNat))
    (serT r6 s p m (toW (valW (toW (stk (mulF (valW t) (valW s)))) / valW (toW (u64 (f * (u64 (f + 1)))).toNat))) f i k1 k2)))
noncomputable def stepSer (R : Type) (vs : List AV) (k1 : List AV → Option R) (k2 : Nat → List AV → Option R) : Option R :=
  match vs with
  | [.ints 4 .u64 t, .ints 4 .u64 s, .ints 4 .u64 r6, .ints 4 .u64 p, .ints 4 .u64 m, .int .u64 f, .int .i64 i] =>
    bif decide (i < 80) then bif (i.tmod 2) == 0 then chk (okW p && okW t) (serQ t r6 s (toW (valW p + valW t)) m f i k1 k2) else chk (okW m && okW t) (serQ t r6 s p (toW (valW m + valW t)) f i k1 k2)
    else k2 0 [.ints 4 .u64 r6, .ints 4 .u64 p, .ints 4 .u64 m]
  | _ => none
def okF (f : Int) : Bool := stk (decide (1 ≤ f ∧ f ≤ 100))
noncomputable def leSer : LEnt :=
  { inn := hSer
    out := hSerO
    ret := hSerO
    go := fun _ _ vs kk => match vs with
      | [.ints 4 .u64 t, .ints 4 .u64 s, .ints 4 .u64 r6, .ints 4 .u64 [0, 0, 0, 0], .ints 4 .u64 [0, 0, 0, 0], .int .u64 f, .int .i64 0] =>
        chk (okW t && okW s && okF f) (kk 0 [.ints 4 .u64 r6, .ints 4 .u64 (toW (stk (serP 80 true 0 0 (valW t) (valW s) f.toNat)).1), .ints 4 .u64 (toW (stk (serP 80 true 0 0 (valW t) (valW s) f.toNat)).2)])
      | _ => none }
def orcSer : List (FuncId × Ent) := [(138, entS false sp_wAdd), (156, entS false sp_fMul), (114, entS false sp_wOf), (161, entS false sp_wDiv)]
theorem step_ser (R : Type) (t s r6 p m : List Int) (f i : Int) (k1 : List AV → Option R) (k2 : Nat → List AV → Option R) :
    runA (env Tryz.f158.ntmps orcSer []) (loopOf 0 (bodyC Tryz.f158)) 0 (stateOf leSer.inn [.ints 4 .u64 t, .ints 4 .u64 s, .ints 4 .u64 r6, .ints 4 .u64 p, .ints 4 .u64 m, .int .u64 f, .int .i64 i]) (bodyK leSer 0 k1 k2) =
    stepSer R [.ints 4 .u64 t, .ints 4 .u64 s, .ints 4 .u64 r6, .ints 4 .u64 p, .ints 4 .u64 m, .int .u64 f, .int .i64 i] k1 k2 := by kernel_rfl
theorem mulF_lt (a b : Nat) : mulF a b < big2 := Nat.mod_lt _ (by decide)
theorem toW_zero_iff {v : Nat} (h : v < big2) : toW v = [0, 0, 0, 0] ↔ v = 0 := by
  have hz : toW 0 = [0, 0, 0, 0] := toW_of 0 0 0 0 0 0 (by decide) (by decide) (by decide) (by decide) rfl
  rw [← hz]
  constructor
  · intro e
    have := congrArg valW e
    rwa [valT h, valT (by decide)] at this
  · intro e; rw [e]
theorem toW_sum (a b : Nat) (ha : a < big2) (hb : b < big2) : toW (valW (toW a) + valW (toW b)) = toW ((a + b) % big2) := by
  rw [valT ha, valT hb, toW_md]
theorem serQ_at (R : Type) {t s f i : Nat} {r6 p m : List Int} (ht : t < big2) (hs : s < big2) (hf : 1 ≤ f) (hf2 : f ≤ 1000) (hi : i < 1000) (k1 : List AV → Option R) (k2 : Nat → List AV → Option R) :
    serQ (toW t) r6 (toW s) p m f i k1 k2 = if mulF t s / (f * (f + 1)) = 0 then k2 0 [.ints 4 .u64 r6, .ints 4 .u64 p, .ints 4 .u64 m]
      else k1 [.ints 4 .u64 (toW (mulF t s / (f * (f + 1)))), .ints 4 .u64 (toW s), .ints 4 .u64 r6, .ints 4 .u64 p, .ints 4 .u64 m, .int .u64 ((f + 2 : Nat) : Int), .int .i64 ((i + 1 : Nat) : Int)] := by
  have hff : f * (f + 1) ≤ 1000 * 1001 := Nat.mul_le_mul hf2 (by omega)
  have hpos : 0 < f * (f + 1) := Nat.mul_pos (by omega) (by omega)
  have e1 : u64 ((f : Int) + 1) = ((f + 1 : Nat) : Int) := u64_of (by omega) (by omega)
  have e2 : u64 ((f : Int) * u64 ((f : Int) + 1)) = ((f * (f + 1) : Nat) : Int) := by rw [e1]; exact u64_of (by rw [Int.natCast_mul]) (by omega)
  have e3 : u64 ((f : Int) + 2) = ((f + 2 : Nat) : Int) := u64_of (by omega) (by omega)
  have e4 : w64 ((i : Int) + 1) = ((i + 1 : Nat) : Int) := by rw [w64_small (by omega) (by omega)]; omega
  have hin : inU ((f * (f + 1) : Nat) : Int) = true := inU_iff.2 (by omega)
  have hml := mulF_lt t s
  have hql : mulF t s / (f * (f + 1)) < big2 := Nat.lt_of_le_of_lt (Nat.div_le_self _ _) hml
  unfold serQ serT
  have vf : valW (toW (f * (f + 1))) = f * (f + 1) := valT (by omega)
  rw [e2, e3, e4, Int.toNat_natCast, hin, stk_eq, valT ht, valT hs, vf, valT hml]
  have hz : nzW (toW (f * (f + 1))) = true := by unfold nzW; rw [stk_eq, vf]; exact decide_eq_true (by omega)
  rw [hz]
  simp only [okW_toW, Bool.and_self, chk, cond_true]
  by_cases h0 : mulF t s / (f * (f + 1)) = 0
  · rw [if_pos h0, decide_eq_true ((toW_zero_iff hql).2 h0)]; rfl
  · rw [if_neg h0, decide_eq_false (fun e => h0 ((toW_zero_iff hql).1 e))]; rfl
theorem ser_rounds (R : Type) {r6 : List Int} {s : Nat} (hs : s < big2) (kk : Nat → List AV → Option R) : ∀ (n i t p m f : Nat) (b : Bool), n + i = 80 → b = decide (i % 2 = 0) → t < big2 → p < big2 → m < big2 → 1 ≤ f → f ≤ 100 + 2 * i →
    loopN (stepSer R) (n + 1) [.ints 4 .u64 (toW t), .ints 4 .u64 (toW s), .ints 4 .u64 r6, .ints 4 .u64 (toW p), .ints 4 .u64 (toW m), .int .u64 f, .int .i64 i] kk =
    kk 0 [.ints 4 .u64 r6, .ints 4 .u64 (toW (serP n b p m t s f).1), .ints 4 .u64 (toW (serP n b p m t s f).2)]
  | 0, i, t, p, m, f, b, hi, hb, ht, hp, hm, hf, hf2 => by
    have : i = 80 := by omega
    subst this
    rw [loopN]
    rfl
  | n + 1, i, t, p, m, f, b, hi, hb, ht, hp, hm, hf, hf2 => by
    rw [loopN]
    simp only [stepSer]
    rw [decide_eq_true (show (i : Int) < 80 by omega)]
    have hmod : ((i : Int).tmod 2 == 0) = b := by
      have : (i : Int).tmod 2 = ((i % 2 : Nat) : Int) := rfl
      rw [this, hb]
      by_cases h : i % 2 = 0
      · rw [decide_eq_true h, h]; rfl
      · rw [decide_eq_false h]; exact beq_eq_false_iff_ne.2 (by omega)
    rw [hmod, okW_toW, okW_toW, okW_toW]
    simp only [Bool.and_self, chk, cond_true]
    have hnext : ∀ b' : Bool, b' = !b → b' = decide ((i + 1) % 2 = 0) := by
      intro b' e
      rw [e, hb, ← decide_not]
      exact decide_eq_decide.2 (by omega)
    have hql : mulF t s / (f * (f + 1)) < big2 := Nat.lt_of_le_of_lt (Nat.div_le_self _ _) (mulF_lt t s)
    cases b with
    | true =>
      simp only [cond_true]
      rw [serQ_at R ht hs hf (by omega) (by omega), toW_sum p t hp ht]
      unfold serP
      by_cases h0 : mulF t s / (f * (f + 1)) = 0
      · rw [if_pos h0, if_pos h0]; rfl
      · rw [if_neg h0, if_neg h0]
        exact ser_rounds R hs kk n (i + 1) _ _ m (f + 2) false (by omega) (hnext _ rfl) hql (Nat.mod_lt _ (by decide)) hm (by omega) (by omega)
    | false =>
      simp only [cond_false]
      rw [serQ_at R ht hs hf (by omega) (by omega), toW_sum m t hm ht]
      unfold serP
      by_cases h0 : mulF t s / (f * (f + 1)) = 0
      · rw [if_pos h0, if_pos h0]; rfl
      · rw [if_neg h0, if_neg h0]
        exact ser_rounds R hs kk n (i + 1) _ p _ (f + 2) true (by omega) (hnext _ rfl) hql hp (Nat.mod_lt _ (by decide)) (by omega) (by omega)
theorem go_ser (R : Type) (n : Nat) (vs : List AV) (kk : Nat → List AV → Option R) (r : R) (h : leSer.go R n vs kk = some r) : ∃ m, loopN (stepSer R) m vs kk = some r := by
  simp only [leSer] at h
  split at h
  · rename_i t s r6 f
    obtain ⟨hg, hk⟩ := chk_some h
    clear h
    simp only [Bool.and_eq_true] at hg
    obtain ⟨⟨ht, hs⟩, hf⟩ := hg
    unfold okF at hf
    rw [stk_eq, decide_eq_true_iff] at hf
    obtain ⟨f, rfl⟩ : ∃ g : Nat, f = g := ⟨f.toNat, (Int.toNat_of_nonneg (by omega)).symm⟩
    have hz : ([0, 0, 0, 0] : List Int) = toW 0 := (toW_of 0 0 0 0 0 0 (by decide) (by decide) (by decide) (by decide) rfl).symm
    have := ser_rounds R (r6 := r6) (valW_lt hs) kk 80 0 (valW t) 0 0 f true rfl rfl (valW_lt ht) (by decide) (by decide) (by omega) (by omega)
    rw [toW_valW ht, toW_valW hs, ← hz] at this
    refine ⟨81, ?_⟩
    rw [stk_eq, Int.toNat_natCast] at hk
    rw [← hk]
    exact this
  · cases h
def serV (t s f : Nat) : Nat := stk (serF 80 true 0 0 t s f)
def sp_fSer : List AV → Option (Bool × AV)
  | [.ints 4 .u64 t, .ints 4 .u64 s, .int .u64 f] => some (okW t && okW s && okF f, .ints 4 .u64 (toW (serV (valW t) (valW s) f.toNat)))
  | _ => none
theorem run_fSer (t s : List Int) (f : Int) : callA (env Tryz.f158.ntmps [(146, entS false sp_wSub)] [(0, leSer)]) (bodyC Tryz.f158) Tryz.f158.results.toList (slots 0 [.ints 4 .u64 t, .ints 4 .u64 s, .int .u64 f]) some =
    chk (okW t && okW s && okF f) (chk (okW (toW (stk (serP 80 true 0 0 (valW t) (valW s) f.toNat)).1) && okW (toW (stk (serP 80 true 0 0 (valW t) (valW s) f.toNat)).2))
      (some (.ints 4 .u64 (toW (valW (toW (stk (serP 80 true 0 0 (valW t) (valW s) f.toNat)).1) + big256 - valW (toW (stk (serP 80 true 0 0 (valW t) (valW s) f.toNat)).2)))))) := by kernel_rfl
theorem serP_lt : ∀ (n : Nat) (b : Bool) (p m t s f : Nat), p < big2 → m < big2 → (serP n b p m t s f).1 < big2 ∧ (serP n b p m t s f).2 < big2
  | 0, _, _, _, _, _, _, hp, hm => ⟨hp, hm⟩
  | n + 1, b, p, m, t, s, f, hp, hm => by
    have h1 : (if b = true then (p + t) % big2 else p) < big2 := by cases b <;> first | exact hp | exact Nat.mod_lt _ (by decide)
    have h2 : (if b = true then m else (m + t) % big2) < big2 := by cases b <;> first | exact hm | exact Nat.mod_lt _ (by decide)
    unfold serP
    split
    · exact ⟨h1, h2⟩
    · exact serP_lt n _ _ _ _ _ _ h1 h2
theorem ok_fSer : EntOk Tryz.prog 158 (entS false sp_fSer) := by
  refine contractS (orc := [(146, entS false sp_wSub)]) (lo := [(0, leSer)]) Tryz.func158 (orc_cons ok_wSub orc_nil) (by kernel_rfl) (by kernel_rfl) (by kernel_rfl)
    (loops_one (id := 0) (y := .loop (loopOf 0 (bodyC Tryz.f158))) (by kernel_rfl)
      (loopS (le := leSer) (orc := orcSer) (lo' := []) (orc_cons ok_wAdd (orc_cons ok_fMul (orc_cons ok_wOf (orc_cons ok_wDiv orc_nil)))) (by kernel_rfl) rfl (loops_none (by kernel_rfl)) stepSer (fun R vs k1 k2 r h => ?_) go_ser)) fun args r h => ?_
  · have h0 := h
    unfold stepSer at h
    split at h
    · exact (step_ser R _ _ _ _ _ _ _ k1 k2).trans h0
    · cases h
  · unfold sp_fSer at h
    split at h
    · rename_i t s f
      simp only [Option.some.injEq, Prod.mk.injEq] at h
      obtain ⟨hg, rfl⟩ := h
      refine ⟨by kernel_rfl, .inr rfl, (run_fSer t s f).trans ?_⟩
      rw [hg, okW_toW, okW_toW]
      obtain ⟨h1, h2⟩ := serP_lt 80 true 0 0 (valW t) (valW s) f.toNat (by decide) (by decide)
      unfold serV
      rw [stk_eq, stk_eq, serF_P]
      generalize serP 80 true 0 0 (valW t) (valW s) f.toNat = P at *
      rw [valT h1, valT h2, toW_md]
      rfl
    · cases h
/-! ### around, Sin, Cos -/
def lowV (a : Nat) : Nat := stk (lowF a)
def highV (a : Nat) : Nat := stk (highF a)
def sp_fAround : List AV → Option (Bool × AV)
  | [.ints 4 .u64 a] => some (okW a, .tup [.ints 4 .u64 (toW (lowV (valW a))), .ints 4 .u64 (toW (highV (valW a))), .nili])
  | _ => none
def orcAr : List (FuncId × Ent) := [(114, entS false sp_wOf), (146, entS false sp_wSub), (138, entS false sp_wAdd)]
def arT (a l : List Int) : Option AV := chk (inU 512) (chk (okW a && okW (toW (512 : Int).toNat)) (some (.tup [.ints 4 .u64 l, .ints 4 .u64 (toW (valW a + valW (toW (512 : Int).toNat))), .nili])))
theorem run_fAround (a : List Int) : callA (env Tryz.f157.ntmps orcAr []) (bodyC Tryz.f157) Tryz.f157.results.toList (slots 0 [.ints 4 .u64 a]) some =
    chk (inU 512) (chk (okW a && okW (toW (512 : Int).toNat)) (bif decide (valW a < valW (toW (512 : Int).toNat)) then arT a [0, 0, 0, 0] else arT a (toW (valW a + big256 - valW (toW (512 : Int).toNat))))) := by kernel_rfl
theorem ok_fAround : EntOk Tryz.prog 157 (entS false sp_fAround) := by
  refine contractS (orc := orcAr) (lo := []) Tryz.func157 (orc_cons ok_wOf (orc_cons ok_wSub (orc_cons ok_wAdd orc_nil))) (by kernel_rfl) (by kernel_rfl) (by kernel_rfl) (loops_none (by kernel_rfl)) fun args r h => ?_
  unfold sp_fAround at h
  split at h
  · rename_i a
    simp only [Option.some.injEq, Prod.mk.injEq] at h
    obtain ⟨ha, rfl⟩ := h
    refine ⟨by kernel_rfl, .inr rfl, (run_fAround a).trans ?_⟩
    have h1 : inU 512 = true := inU_iff.2 (by omega)
    have h2 : valW (toW (512 : Int).toNat) = 512 := valT (by decide)
    unfold arT lowV highV lowF highF
    rw [h1, ha, okW_toW, h2, stk_eq, stk_eq, toW_md]
    have hz : ([0, 0, 0, 0] : List Int) = toW 0 := (toW_of 0 0 0 0 0 0 (by decide) (by decide) (by decide) (by decide) rfl).symm
    by_cases h : valW a < 512
    · rw [decide_eq_true h, if_pos h, hz]; rfl
    · rw [decide_eq_false h, if_neg h]
      have : toW (valW a + big256 - 512) = toW (valW a - 512) := by
        rw [show valW a + big256 - 512 = (valW a - 512) + big256 by omega]
        exact toW_up _
      rw [this]; rfl
  · cases h
def sp_fSin : List AV → Option (Bool × AV)
  | [.ints 4 .u64 a] => some (okW a && stk (decide (valW a ≤ oneF)), .tup [.ints 4 .u64 (toW (lowV (serV (valW a) (stk (mulF (valW a) (valW a))) 2))), .ints 4 .u64 (toW (highV (serV (valW a) (stk (mulF (valW a) (valW a))) 2))), .nili])
  | _ => none
def sp_fCos : List AV → Option (Bool × AV)
  | [.ints 4 .u64 a] => some (okW a && stk (decide (valW a ≤ oneF)), .tup [.ints 4 .u64 (toW (lowV (serV oneF (stk (mulF (valW a) (valW a))) 1))), .ints 4 .u64 (toW (highV (serV oneF (stk (mulF (valW a) (valW a))) 1))), .nili])
  | _ => none
def orcSC : List (FuncId × Ent) := [(155, entS false sp_fOne), (145, entS false sp_wCmp), (156, entS false sp_fMul), (158, entS false sp_fSer), (157, entS false sp_fAround)]
def scT (t s : List Int) (f : Int) : Option AV := chk (okW t && okW s && okF f) (chk (okW (toW (serV (valW t) (valW s) f.toNat))) (some (.tup [.ints 4 .u64 (toW (lowV (valW (toW (serV (valW t) (valW s) f.toNat))))), .ints 4 .u64 (toW (highV (valW (toW (serV (valW t) (valW s) f.toNat))))), .nili])))
theorem run_fSin (a : List Int) : callA (env Tryz.f148.ntmps orcSC []) (bodyC Tryz.f148) Tryz.f148.results.toList (slots 0 [.ints 4 .u64 a]) some =
    chk (okW a && okW (toW oneF)) (bif decide (cmpN (valW a) (valW (toW oneF)) > 0) then some (.tup [.ints 4 .u64 [0, 0, 0, 0], .ints 4 .u64 [0, 0, 0, 0], .iface 59 (.int .i64 1)]) else
      chk (okW a && okW a) (scT a (toW (stk (mulF (valW a) (valW a)))) 2)) := by kernel_rfl
theorem run_fCos (a : List Int) : callA (env Tryz.f151.ntmps orcSC []) (bodyC Tryz.f151) Tryz.f151.results.toList (slots 0 [.ints 4 .u64 a]) some =
    chk (okW a && okW (toW oneF)) (bif decide (cmpN (valW a) (valW (toW oneF)) > 0) then some (.tup [.ints 4 .u64 [0, 0, 0, 0], .ints 4 .u64 [0, 0, 0, 0], .iface 59 (.int .i64 1)]) else
      chk (okW a && okW a) (scT (toW oneF) (toW (stk (mulF (valW a) (valW a)))) 1)) := by kernel_rfl
theorem serV_lt (t s f : Nat) : serV t s f < big2 := by
  unfold serV
  rw [stk_eq, serF_P]
  exact Nat.mod_lt _ (by decide)
theorem valOne : valW (toW oneF) = oneF := valT (by decide)
theorem cmp_one {v : Nat} (h : v ≤ oneF) : decide (cmpN v oneF > 0) = false := by
  refine decide_eq_false ?_
  unfold cmpN
  split
  · decide
  · rw [if_neg (by omega)]; decide
theorem ok_fSin : EntOk Tryz.prog 148 (entS false sp_fSin) := by
  refine contractS (orc := orcSC) (lo := []) Tryz.func148 (orc_cons ok_fOne (orc_cons ok_wCmp (orc_cons ok_fMul (orc_cons ok_fSer (orc_cons ok_fAround orc_nil))))) (by kernel_rfl) (by kernel_rfl) (by kernel_rfl) (loops_none (by kernel_rfl)) fun args r h => ?_
  unfold sp_fSin at h
  split at h
  · rename_i a
    simp only [Option.some.injEq, Prod.mk.injEq, Bool.and_eq_true] at h
    obtain ⟨⟨ha, hl⟩, rfl⟩ := h
    rw [stk_eq, decide_eq_true_iff] at hl
    refine ⟨by kernel_rfl, .inr rfl, (run_fSin a).trans ?_⟩
    have hf : okF 2 = true := by unfold okF; rw [stk_eq]; rfl
    have hm : valW (toW (stk (mulF (valW a) (valW a)))) = mulF (valW a) (valW a) := by rw [stk_eq]; exact valT (mulF_lt _ _)
    unfold scT
    rw [valOne, cmp_one hl, ha, okW_toW, okW_toW, okW_toW, hf, hm, valT (serV_lt _ _ _), stk_eq]
    rfl
  · cases h
theorem ok_fCos : EntOk Tryz.prog 151 (entS false sp_fCos) := by
  refine contractS (orc := orcSC) (lo := []) Tryz.func151 (orc_cons ok_fOne (orc_cons ok_wCmp (orc_cons ok_fMul (orc_cons ok_fSer (orc_cons ok_fAround orc_nil))))) (by kernel_rfl) (by kernel_rfl) (by kernel_rfl) (loops_none (by kernel_rfl)) fun args r h => ?_
  unfold sp_fCos at h
  split at h
  · rename_i a
    simp only [Option.some.injEq, Prod.mk.injEq, Bool.and_eq_true] at h
    obtain ⟨⟨ha, hl⟩, rfl⟩ := h
    rw [stk_eq, decide_eq_true_iff] at hl
    refine ⟨by kernel_rfl, .inr rfl, (run_fCos a).trans ?_⟩
    have hf : okF 1 = true := by unfold okF; rw [stk_eq]; rfl
    have hm : valW (toW (stk (mulF (valW a) (valW a)))) = mulF (valW a) (valW a) := by rw [stk_eq]; exact valT (mulF_lt _ _)
    unfold scT
    rw [valOne, cmp_one hl, ha, okW_toW, okW_toW, okW_toW, hf, hm, valT (serV_lt _ _ _), stk_eq]
    rfl
  · cases h
end
end Go.Proofs.YtbakldcbaikgpaaGreatDoor
