/- wide: shifts to the left. Own work. -/
import Derived.Test.YtdkebceiljdgjaaWide5
namespace Go.Proofs.Ytdkebceiljdgjaa
set_option maxRecDepth 100000
noncomputable section

def hShl : Hint := { fuel := none, keep := [1, 6, 7], refs := [(2, 2, 38, .dead), (4, 4, 38, .dead), (5, 5, 38, .dead)] }
def hShlOut : Hint := { fuel := none, keep := [], refs := [(4, 4, 38, .dead), (5, 5, 38, .dead)] }

def stepShl (R : Type) (vs : List AV) (k1 : List AV → Option R) (k2 : Nat → List AV → Option R) : Option R :=
  match vs with
  | [.ints 4 .u64 a, .ints 4 .u64 r4, .ints 4 .u64 out, .int .i64 n, .int .i64 d, .int .i64 i] =>
    bif decide (i ≥ d) then
      chk (decide (0 ≤ w64 (i - d)) && decide (w64 (i - d) < 4)) (chk (!decide (n.tmod 64 < 0)) (chk (decide (0 ≤ i) && decide (i < 4))
        (bif decide (i > d) then
          chk (decide (0 ≤ i) && decide (i < 4)) (chk (decide (0 ≤ w64 (w64 (i - d) - 1)) && decide (w64 (w64 (i - d) - 1) < 4)) (chk (!decide (w64 (64 - n.tmod 64) < 0)) (chk (decide (0 ≤ i) && decide (i < 4))
            (k1 [.ints 4 .u64 a, .ints 4 .u64 r4, .ints 4 .u64 ((out.set i.toNat (shlI .u64 (a.getD (w64 (i - d)).toNat 0) (n.tmod 64))).set i.toNat
              (orI .u64 ((out.set i.toNat (shlI .u64 (a.getD (w64 (i - d)).toNat 0) (n.tmod 64))).getD i.toNat 0) (shrI .u64 (a.getD (w64 (w64 (i - d) - 1)).toNat 0) (w64 (64 - n.tmod 64))))), .int .i64 n, .int .i64 d, .int .i64 (w64 (i - 1))]))))
        else k1 [.ints 4 .u64 a, .ints 4 .u64 r4, .ints 4 .u64 (out.set i.toNat (shlI .u64 (a.getD (w64 (i - d)).toNat 0) (n.tmod 64))), .int .i64 n, .int .i64 d, .int .i64 (w64 (i - 1))])))
    else k2 0 [.ints 4 .u64 r4, .ints 4 .u64 out]
  | _ => none

def leShl : LEnt :=
  { inn := hShl
    out := hShlOut
    ret := hShlOut
    go := fun _ _ vs kk => match vs with
      | [.ints 4 .u64 a, .ints 4 .u64 r4, .ints 4 .u64 [0, 0, 0, 0], .int .i64 n, .int .i64 d, .int .i64 3] =>
        chk (okW a && decide (0 ≤ n) && decide (n < 256) && decide (d = n.tdiv 64)) (kk 0 [.ints 4 .u64 r4, .ints 4 .u64 (toW (valW a * 2 ^ n.toNat))])
      | _ => none }

theorem step_shl (R : Type) (a r4 out : List Int) (n d i : Int) (k1 : List AV → Option R) (k2 : Nat → List AV → Option R) :
    runA (env Try.f74.ntmps [] []) (loopOf 0 (bodyC Try.f74)) 0 (stateOf leShl.inn [.ints 4 .u64 a, .ints 4 .u64 r4, .ints 4 .u64 out, .int .i64 n, .int .i64 d, .int .i64 i]) (bodyK leShl 0 k1 k2) =
    stepShl R [.ints 4 .u64 a, .ints 4 .u64 r4, .ints 4 .u64 out, .int .i64 n, .int .i64 d, .int .i64 i] k1 k2 := by kernel_rfl

theorem run_wShl (a : List Int) (n : Int) : callA (env Try.f74.ntmps [] [(0, leShl)]) (bodyC Try.f74) Try.f74.results.toList (slots 0 [.ints 4 .u64 a, .int .i64 n]) some =
    bif decide (n < 1) then some (.ints 4 .u64 a) else bif decide (n ≥ 256) then some (.ints 4 .u64 [0, 0, 0, 0]) else
      chk (okW a && decide (0 ≤ n) && decide (n < 256) && decide (w64 (n.tdiv 64) = n.tdiv 64)) (some (.ints 4 .u64 (toW (valW a * 2 ^ n.toNat)))) := by kernel_rfl

/-- One word of a shifted number: the low part of its own, the high part of the one below. -/
def shw (x y : Nat) (r : Nat) : Nat := x % 2 ^ (64 - r) * 2 ^ r + y / 2 ^ (64 - r)

theorem shw_lt (x y r : Nat) (hr : r ≤ 64) (hy : y < 18446744073709551616) : shw x y r < 18446744073709551616 := by
  unfold shw
  have hp : (18446744073709551616 : Nat) = 2 ^ (64 - r) * 2 ^ r := by rw [← Nat.pow_add, show 64 - r + r = 64 by omega]
  have h1 : x % 2 ^ (64 - r) < 2 ^ (64 - r) := Nat.mod_lt _ (Nat.two_pow_pos _)
  have h2 : y / 2 ^ (64 - r) < 2 ^ r := by
    rw [Nat.div_lt_iff_lt_mul (Nat.two_pow_pos _), Nat.mul_comm, ← hp]; exact hy
  have h3 : (x % 2 ^ (64 - r) + 1) * 2 ^ r ≤ 2 ^ (64 - r) * 2 ^ r := Nat.mul_le_mul_right _ h1
  rw [← hp, Nat.add_mul, Nat.one_mul] at h3
  omega

theorem word_or (x y r : Nat) (hr : r ≤ 64) (hy : y < 18446744073709551616) : orI .u64 (shlI .u64 (x : Int) (r : Int)) (shrI .u64 (y : Int) ((64 - r : Nat) : Int)) = ((shw x y r : Nat) : Int) := by
  have hp : (18446744073709551616 : Nat) = 2 ^ (64 - r) * 2 ^ r := by rw [← Nat.pow_add, show 64 - r + r = 64 by omega]
  rw [shlI_nat _ _ hr, shrI_nat _ _ (by omega), (word_shl x r hr).1]
  refine orI_add _ _ r ?_ ?_ hr
  · have h1 : x % 2 ^ (64 - r) < 2 ^ (64 - r) := Nat.mod_lt _ (Nat.two_pow_pos _)
    have := Nat.mul_lt_mul_of_pos_right h1 (Nat.two_pow_pos r)
    rw [← hp] at this
    exact this
  · rw [Nat.div_lt_iff_lt_mul (Nat.two_pow_pos _), Nat.mul_comm, ← hp]; exact hy

theorem word_low (x r : Nat) (hr : r ≤ 64) : shlI .u64 (x : Int) (r : Int) = ((shw x 0 r : Nat) : Int) := by
  rw [shlI_nat _ _ hr, (word_shl x r hr).1]
  unfold shw
  rw [Nat.zero_div, Nat.add_zero]

/-- Four words times 2^r. -/
theorem four_shl (a b c d r : Nat) (hr : r ≤ 64) : ∃ k, (a + 18446744073709551616 * b + 340282366920938463463374607431768211456 * c + 6277101735386680763835789423207666416102355444464034512896 * d) * 2 ^ r =
    shw a 0 r + 18446744073709551616 * shw b a r + 340282366920938463463374607431768211456 * shw c b r + 6277101735386680763835789423207666416102355444464034512896 * shw d c r + 115792089237316195423570985008687907853269984665640564039457584007913129639936 * k := by
  refine ⟨d / 2 ^ (64 - r), ?_⟩
  have h : ∀ x : Nat, x * 2 ^ r = x % 2 ^ (64 - r) * 2 ^ r + 18446744073709551616 * (x / 2 ^ (64 - r)) := by
    intro x
    have h1 := word_shl x r hr
    have h2 := Nat.mod_add_div (x * 2 ^ r) 18446744073709551616
    rw [h1.1, h1.2] at h2
    exact h2.symm
  have ha := h a
  have hb := h b
  have hc := h c
  have hd := h d
  unfold shw
  rw [Nat.zero_div, Nat.add_mul, Nat.add_mul, Nat.add_mul, Nat.mul_assoc, Nat.mul_assoc, Nat.mul_assoc, ha, hb, hc, hd]
  generalize a % 2 ^ (64 - r) * 2 ^ r = a1
  generalize a / 2 ^ (64 - r) = a2
  generalize b % 2 ^ (64 - r) * 2 ^ r = b1
  generalize b / 2 ^ (64 - r) = b2
  generalize c % 2 ^ (64 - r) * 2 ^ r = c1
  generalize c / 2 ^ (64 - r) = c2
  generalize d % 2 ^ (64 - r) * 2 ^ r = d1
  generalize d / 2 ^ (64 - r) = d2
  omega

def wd (a : List Int) (q : Nat) : Nat := valW a / 2 ^ (64 * q) % 18446744073709551616

theorem wd_lt (a : List Int) (q : Nat) : wd a q < 18446744073709551616 := Nat.mod_lt _ (by decide)

theorem shl_hi (R : Type) {a r4 out : List Int} (ha : okW a = true) (hl : out.length = 4) {d i r : Nat} (hd : d < i) (hi : i < 4) (hr : r < 64) (k1 : List AV → Option R) (k2 : Nat → List AV → Option R) :
    stepShl R [.ints 4 .u64 a, .ints 4 .u64 r4, .ints 4 .u64 out, .int .i64 ((64 * d + r : Nat) : Int), .int .i64 d, .int .i64 i] k1 k2 =
      k1 [.ints 4 .u64 a, .ints 4 .u64 r4, .ints 4 .u64 (out.set i ((shw (wd a (i - d)) (wd a (i - d - 1)) r : Nat) : Int)), .int .i64 ((64 * d + r : Nat) : Int), .int .i64 d, .int .i64 ((i : Int) - 1)] := by
  have t := (split64 (64 * d + r)).2
  rw [show (64 * d + r) % 64 = r by omega] at t
  have e1 : decide ((i : Int) ≥ d) = true := by simp; omega
  have e2 : w64 ((i : Int) - d) = ((i - d : Nat) : Int) := by rw [w64_small (by omega) (by omega)]; omega
  have e3 : w64 (((i - d : Nat) : Int) - 1) = ((i - d - 1 : Nat) : Int) := by rw [w64_small (by omega) (by omega)]; omega
  have e4 : w64 (64 - (r : Int)) = ((64 - r : Nat) : Int) := by rw [w64_small (by omega) (by omega)]; omega
  have e5 : decide ((0 : Int) ≤ ((i - d : Nat) : Int)) = true := by simp
  have e6 : decide (((i - d : Nat) : Int) < 4) = true := by simp; omega
  have e7 : decide ((r : Int) < 0) = false := by simp
  have e8 : decide ((0 : Int) ≤ (i : Int)) = true := by simp
  have e9 : decide ((i : Int) < 4) = true := by simp; omega
  have e10 : decide ((i : Int) > d) = true := by simp; omega
  have e11 : decide ((0 : Int) ≤ ((i - d - 1 : Nat) : Int)) = true := by simp
  have e12 : decide (((i - d - 1 : Nat) : Int) < 4) = true := by simp; omega
  have e13 : decide (((64 - r : Nat) : Int) < 0) = false := by simp
  have e14 : w64 ((i : Int) - 1) = (i : Int) - 1 := w64_small (by omega) (by omega)
  have g : (out.set i (shlI .u64 (a.getD (i - d) 0) (r : Int))).getD i 0 = shlI .u64 (a.getD (i - d) 0) (r : Int) := by
    simp [List.getD, List.getElem?_set_self (show i < out.length by omega)]
  simp only [stepShl, t, e1, e2, e3, e4, e5, e6, e7, e8, e9, e10, e11, e12, e13, e14, cond_true, Bool.and_self, chk, Bool.not_false, Int.toNat_natCast, g, List.set_set]
  rw [wordAt ha (i - d) (by omega), wordAt ha (i - d - 1) (by omega)]
  have := word_or (wd a (i - d)) (wd a (i - d - 1)) r (by omega) (wd_lt _ _)
  unfold wd at this ⊢
  rw [this]

theorem shl_eq (R : Type) {a r4 out : List Int} (ha : okW a = true) {d r : Nat} (hi : d < 4) (hr : r < 64) (k1 : List AV → Option R) (k2 : Nat → List AV → Option R) :
    stepShl R [.ints 4 .u64 a, .ints 4 .u64 r4, .ints 4 .u64 out, .int .i64 ((64 * d + r : Nat) : Int), .int .i64 d, .int .i64 d] k1 k2 =
      k1 [.ints 4 .u64 a, .ints 4 .u64 r4, .ints 4 .u64 (out.set d ((shw (wd a 0) 0 r : Nat) : Int)), .int .i64 ((64 * d + r : Nat) : Int), .int .i64 d, .int .i64 ((d : Int) - 1)] := by
  have t := (split64 (64 * d + r)).2
  rw [show (64 * d + r) % 64 = r by omega] at t
  have e1 : decide ((d : Int) ≥ d) = true := by simp
  have e2 : w64 ((d : Int) - d) = ((0 : Nat) : Int) := by rw [w64_small (by omega) (by omega)]; omega
  have e7 : decide ((r : Int) < 0) = false := by simp
  have e8 : decide ((0 : Int) ≤ (d : Int)) = true := by simp
  have e9 : decide ((d : Int) < 4) = true := by simp; omega
  have e10 : decide ((d : Int) > d) = false := by simp
  have e14 : w64 ((d : Int) - 1) = (d : Int) - 1 := by unfold w64; rw [IntKind.wrap_i64]; omega
  have e15 : decide ((0 : Int) ≤ ((0 : Nat) : Int)) = true := by decide
  have e16 : decide (((0 : Nat) : Int) < 4) = true := by decide
  simp only [stepShl, t, e1, e2, e7, e8, e9, e10, e14, e15, e16, cond_true, cond_false, Bool.and_self, chk, Bool.not_false, Int.toNat_natCast]
  rw [wordAt ha 0 (by omega)]
  have := word_low (wd a 0) r (by omega)
  unfold wd at this ⊢
  rw [this]

theorem shl_lo (R : Type) {a r4 out : List Int} {d : Nat} {n i : Int} (hi : i < d) (k1 : List AV → Option R) (k2 : Nat → List AV → Option R) :
    stepShl R [.ints 4 .u64 a, .ints 4 .u64 r4, .ints 4 .u64 out, .int .i64 n, .int .i64 d, .int .i64 i] k1 k2 = k2 0 [.ints 4 .u64 r4, .ints 4 .u64 out] := by
  have e1 : decide (i ≥ (d : Int)) = false := by simp; omega
  simp only [stepShl, e1, cond_false]

theorem toW_s0 {s0 s1 s2 s3 k : Nat} (l0 : s0 < 18446744073709551616) (l1 : s1 < 18446744073709551616) (l2 : s2 < 18446744073709551616) (l3 : s3 < 18446744073709551616) :
    toW ((s0 + 18446744073709551616 * s1 + 340282366920938463463374607431768211456 * s2 + 6277101735386680763835789423207666416102355444464034512896 * s3 + 115792089237316195423570985008687907853269984665640564039457584007913129639936 * k) * 2 ^ (64 * 0)) = [(s0 : Int), s1, s2, s3] :=
  toW_of _ s0 s1 s2 s3 k l0 l1 l2 l3 (by omega)
theorem toW_s1 {s0 s1 s2 s3 k : Nat} (l0 : s0 < 18446744073709551616) (l1 : s1 < 18446744073709551616) (l2 : s2 < 18446744073709551616) :
    toW ((s0 + 18446744073709551616 * s1 + 340282366920938463463374607431768211456 * s2 + 6277101735386680763835789423207666416102355444464034512896 * s3 + 115792089237316195423570985008687907853269984665640564039457584007913129639936 * k) * 2 ^ (64 * 1)) = [(0 : Int), s0, s1, s2] :=
  toW_of _ 0 s0 s1 s2 (s3 + 18446744073709551616 * k) (by decide) l0 l1 l2 (by omega)
theorem toW_s2 {s0 s1 s2 s3 k : Nat} (l0 : s0 < 18446744073709551616) (l1 : s1 < 18446744073709551616) :
    toW ((s0 + 18446744073709551616 * s1 + 340282366920938463463374607431768211456 * s2 + 6277101735386680763835789423207666416102355444464034512896 * s3 + 115792089237316195423570985008687907853269984665640564039457584007913129639936 * k) * 2 ^ (64 * 2)) = [(0 : Int), 0, s0, s1] :=
  toW_of _ 0 0 s0 s1 (s2 + 18446744073709551616 * s3 + 340282366920938463463374607431768211456 * k) (by decide) (by decide) l0 l1 (by omega)
theorem toW_s3 {s0 s1 s2 s3 k : Nat} (l0 : s0 < 18446744073709551616) :
    toW ((s0 + 18446744073709551616 * s1 + 340282366920938463463374607431768211456 * s2 + 6277101735386680763835789423207666416102355444464034512896 * s3 + 115792089237316195423570985008687907853269984665640564039457584007913129639936 * k) * 2 ^ (64 * 3)) = [(0 : Int), 0, 0, s0] :=
  toW_of _ 0 0 0 s0 (s1 + 18446744073709551616 * s2 + 340282366920938463463374607431768211456 * s3 + 6277101735386680763835789423207666416102355444464034512896 * k) (by decide) (by decide) (by decide) l0 (by omega)

theorem wd_limbs {a0 a1 a2 a3 : Int} (h : okW [a0, a1, a2, a3] = true) : wd [a0, a1, a2, a3] 0 = a0.toNat ∧ wd [a0, a1, a2, a3] 1 = a1.toNat ∧ wd [a0, a1, a2, a3] 2 = a2.toNat ∧ wd [a0, a1, a2, a3] 3 = a3.toNat := by
  have h0 := wordAt h 0 (by omega)
  have h1 := wordAt h 1 (by omega)
  have h2 := wordAt h 2 (by omega)
  have h3 := wordAt h 3 (by omega)
  simp only [List.getD_cons_zero, List.getD_cons_succ] at h0 h1 h2 h3
  unfold wd
  refine ⟨?_, ?_, ?_, ?_⟩
  · conv => rhs; rw [h0]
    rfl
  · conv => rhs; rw [h1]
    rfl
  · conv => rhs; rw [h2]
    rfl
  · conv => rhs; rw [h3]
    rfl

theorem go_shl (R : Type) (n : Nat) (vs : List AV) (kk : Nat → List AV → Option R) (r : R) (h : leShl.go R n vs kk = some r) : ∃ m, loopN (stepShl R) m vs kk = some r := by
  simp only [leShl] at h
  split at h
  · rename_i a r4 n d
    obtain ⟨hg, hk⟩ := chk_some h
    clear h
    simp only [Bool.and_eq_true, decide_eq_true_eq] at hg
    obtain ⟨⟨⟨ha, g1⟩, g2⟩, g3⟩ := hg
    obtain ⟨m, rfl⟩ : ∃ m : Nat, n = m := ⟨n.toNat, (Int.toNat_of_nonneg g1).symm⟩
    obtain ⟨q, s, hq, hs, hm⟩ : ∃ q s : Nat, q < 4 ∧ s < 64 ∧ m = 64 * q + s := ⟨m / 64, m % 64, by omega, by omega, by omega⟩
    rw [(split64 m).1, show m / 64 = q by omega] at g3
    subst g3 hm
    obtain ⟨a0, a1, a2, a3, he, ra0, ra1, ra2, ra3⟩ := okW_split ha
    subst he
    obtain ⟨h0, h1, h2, h3⟩ := wd_limbs ha
    have b0 := wd_lt [a0, a1, a2, a3] 0
    have b1 := wd_lt [a0, a1, a2, a3] 1
    have b2 := wd_lt [a0, a1, a2, a3] 2
    have b3 := wd_lt [a0, a1, a2, a3] 3
    rw [h0] at b0
    rw [h1] at b1
    rw [h2] at b2
    rw [h3] at b3
    have hv : valW [a0, a1, a2, a3] = a0.toNat + 18446744073709551616 * a1.toNat + 340282366920938463463374607431768211456 * a2.toNat + 6277101735386680763835789423207666416102355444464034512896 * a3.toNat := rfl
    generalize hV : valW [a0, a1, a2, a3] = V at hv hk
    clear ra0 ra1 ra2 ra3 g1 g2
    have hs' : s ≤ 64 := Nat.le_of_lt hs
    obtain ⟨k, hk4⟩ := four_shl a0.toNat a1.toNat a2.toNat a3.toNat s hs'
    rw [← hv] at hk4
    have l0 := shw_lt a0.toNat 0 s hs' (by decide)
    have l1 := shw_lt a1.toNat a0.toNat s hs' b0
    have l2 := shw_lt a2.toNat a1.toNat s hs' b1
    have l3 := shw_lt a3.toNat a2.toNat s hs' b2
    rw [Int.toNat_natCast, Nat.pow_add, Nat.mul_comm (2 ^ (64 * q)), ← Nat.mul_assoc, hk4] at hk
    clear hk4 hv b0 b1 b2 b3
    match q, hq with
    | 0, _ =>
      refine ⟨5, ?_⟩
      rw [toW_s0 l0 l1 l2 l3] at hk
      rw [loopN, show ((3 : Int)) = ((3 : Nat) : Int) from rfl, shl_hi R ha rfl (by decide) (by decide) hs, loopN, show (((3 : Nat) : Int) - 1) = ((2 : Nat) : Int) from rfl, shl_hi R ha (by simp) (by decide) (by decide) hs, loopN, show (((2 : Nat) : Int) - 1) = ((1 : Nat) : Int) from rfl, shl_hi R ha (by simp) (by decide) (by decide) hs, loopN,
        show (((1 : Nat) : Int) - 1) = ((0 : Nat) : Int) from rfl, shl_eq R ha (by decide) hs, loopN, shl_lo R (by decide)]
      simp only [Nat.sub_zero, Nat.reduceSub, h0, h1, h2, h3, List.set_cons_zero, List.set_cons_succ]
      exact hk
    | 1, _ =>
      refine ⟨4, ?_⟩
      rw [toW_s1 l0 l1 l2] at hk
      rw [loopN, show ((3 : Int)) = ((3 : Nat) : Int) from rfl, shl_hi R ha rfl (by decide) (by decide) hs, loopN, show (((3 : Nat) : Int) - 1) = ((2 : Nat) : Int) from rfl, shl_hi R ha (by simp) (by decide) (by decide) hs, loopN, show (((2 : Nat) : Int) - 1) = ((1 : Nat) : Int) from rfl, shl_eq R ha (by decide) hs, loopN, shl_lo R (by decide)]
      simp only [Nat.reduceSub, h0, h1, h2, h3, List.set_cons_zero, List.set_cons_succ]
      exact hk
    | 2, _ =>
      refine ⟨3, ?_⟩
      rw [toW_s2 l0 l1] at hk
      rw [loopN, show ((3 : Int)) = ((3 : Nat) : Int) from rfl, shl_hi R ha rfl (by decide) (by decide) hs, loopN, show (((3 : Nat) : Int) - 1) = ((2 : Nat) : Int) from rfl, shl_eq R ha (by decide) hs, loopN, shl_lo R (by decide)]
      simp only [Nat.reduceSub, h0, h1, h2, h3, List.set_cons_zero, List.set_cons_succ]
      exact hk
    | 3, _ =>
      refine ⟨2, ?_⟩
      rw [toW_s3 l0] at hk
      rw [loopN, show ((3 : Int)) = ((3 : Nat) : Int) from rfl, shl_eq R ha (by decide) hs, loopN, shl_lo R (by decide)]
      simp only [h0, List.set_cons_zero, List.set_cons_succ]
      exact hk
  · cases h

def sp_wShl : List AV → Option (Bool × AV)
  | [.ints 4 .u64 a, .int .i64 n] => some (okW a, .ints 4 .u64 (toW (valW a * 2 ^ n.toNat)))
  | _ => none

theorem toW_far (v m : Nat) (h : 256 ≤ m) : toW (v * 2 ^ m) = [0, 0, 0, 0] := by
  have e : v * 2 ^ m = 115792089237316195423570985008687907853269984665640564039457584007913129639936 * (v * 2 ^ (m - 256)) := by
    have : (2 : Nat) ^ m = 2 ^ 256 * 2 ^ (m - 256) := by rw [← Nat.pow_add, show 256 + (m - 256) = m by omega]
    rw [this, Nat.mul_left_comm]
  rw [e]
  generalize v * 2 ^ (m - 256) = k
  exact toW_of _ 0 0 0 0 k (by decide) (by decide) (by decide) (by decide) (by omega)

theorem ok_wShl : EntOk Try.prog 74 (entS false sp_wShl) := by
  refine contractS (orc := []) (lo := [(0, leShl)]) Try.func74 orc_nil (by kernel_rfl) (by kernel_rfl) (by kernel_rfl)
    (loops_one (id := 0) (y := .loop (loopOf 0 (bodyC Try.f74))) (by kernel_rfl)
      (loopS (le := leShl) (orc := []) (lo' := []) orc_nil (by kernel_rfl) rfl (loops_none (by kernel_rfl)) stepShl (fun R vs k1 k2 r h => ?_) go_shl)) fun args r h => ?_
  · have h0 := h
    unfold stepShl at h
    split at h
    · exact (step_shl R _ _ _ _ _ _ k1 k2).trans h0
    · cases h
  · unfold sp_wShl at h
    split at h
    · rename_i a n
      simp only [Option.some.injEq, Prod.mk.injEq] at h
      obtain ⟨ha, rfl⟩ := h
      refine ⟨by kernel_rfl, .inr rfl, (run_wShl a n).trans ?_⟩
      by_cases h1 : n < 1
      · rw [decide_eq_true h1, cond_true, show n.toNat = 0 by omega, Nat.pow_zero, Nat.mul_one, toW_valW ha]
      rw [decide_eq_false h1, cond_false]
      by_cases h2 : n ≥ 256
      · rw [decide_eq_true h2, cond_true, toW_far _ _ (by omega)]
      rw [decide_eq_false h2, cond_false, ha]
      have e1 : decide (0 ≤ n) = true := by simp; omega
      have e2 : decide (n < 256) = true := by simp; omega
      have e3 : decide (w64 (n.tdiv 64) = n.tdiv 64) = true := by
        obtain ⟨m, rfl⟩ : ∃ m : Nat, n = m := ⟨n.toNat, (Int.toNat_of_nonneg (by omega)).symm⟩
        rw [(split64 m).1]
        exact decide_eq_true (w64_small (by omega) (by omega))
      rw [e1, e2, e3]
      rfl
    · cases h
end
end Go.Proofs.Ytdkebceiljdgjaa
