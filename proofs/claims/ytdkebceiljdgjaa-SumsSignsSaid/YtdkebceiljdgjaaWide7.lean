/- wide: shifts to the right. Own work. -/
import Derived.Test.YtdkebceiljdgjaaWide6
namespace Go.Proofs.Ytdkebceiljdgjaa
set_option maxRecDepth 100000
noncomputable section

def hShr : Hint := { fuel := none, keep := [1, 7, 21, 22], refs := [(2, 2, 38, .dead), (4, 4, 38, .dead), (6, 6, 38, .dead)] }
def hShrOut : Hint := { fuel := none, keep := [1], refs := [(2, 2, 38, .dead), (4, 4, 38, .dead), (6, 6, 38, .dead)] }

def stepShr (R : Type) (vs : List AV) (k1 : List AV → Option R) (k2 : Nat → List AV → Option R) : Option R :=
  match vs with
  | [.ints 4 .u64 a, .ints 4 .u64 r4, .ints 4 .u64 out, .int .i64 n, .int .i64 d, .int .i64 e, .int .i64 i] =>
    bif decide (i < e) then
      chk (decide (0 ≤ w64 (i + d)) && decide (w64 (i + d) < 4)) (chk (!decide (n.tmod 64 < 0)) (chk (decide (0 ≤ i) && decide (i < 4))
        (bif decide (w64 (w64 (i + d) + 1) < 4) then
          chk (decide (0 ≤ i) && decide (i < 4)) (chk (decide (0 ≤ w64 (w64 (i + d) + 1)) && decide (w64 (w64 (i + d) + 1) < 4)) (chk (!decide (w64 (64 - n.tmod 64) < 0)) (chk (decide (0 ≤ i) && decide (i < 4))
            (k1 [.ints 4 .u64 a, .ints 4 .u64 r4, .ints 4 .u64 ((out.set i.toNat (shrI .u64 (a.getD (w64 (i + d)).toNat 0) (n.tmod 64))).set i.toNat
              (orI .u64 ((out.set i.toNat (shrI .u64 (a.getD (w64 (i + d)).toNat 0) (n.tmod 64))).getD i.toNat 0) (shlI .u64 (a.getD (w64 (w64 (i + d) + 1)).toNat 0) (w64 (64 - n.tmod 64))))), .int .i64 n, .int .i64 d, .int .i64 e, .int .i64 (w64 (i + 1))]))))
        else k1 [.ints 4 .u64 a, .ints 4 .u64 r4, .ints 4 .u64 (out.set i.toNat (shrI .u64 (a.getD (w64 (i + d)).toNat 0) (n.tmod 64))), .int .i64 n, .int .i64 d, .int .i64 e, .int .i64 (w64 (i + 1))])))
    else k2 0 [.ints 4 .u64 a, .ints 4 .u64 r4, .ints 4 .u64 out, .int .i64 n]
  | _ => none

def leShr : LEnt :=
  { inn := hShr
    out := hShrOut
    ret := hShrOut
    go := fun _ _ vs kk => match vs with
      | [.ints 4 .u64 a, .ints 4 .u64 r4, .ints 4 .u64 [0, 0, 0, 0], .int .i64 n, .int .i64 d, .int .i64 e, .int .i64 0] =>
        chk (okW a && decide (0 ≤ n) && decide (n < 256) && decide (d = n.tdiv 64) && decide (e = 4 - n.tdiv 64)) (kk 0 [.ints 4 .u64 a, .ints 4 .u64 r4, .ints 4 .u64 (toW (valW a / 2 ^ n.toNat)), .int .i64 n])
      | _ => none }

theorem step_shr (R : Type) (a r4 out : List Int) (n d e i : Int) (k1 : List AV → Option R) (k2 : Nat → List AV → Option R) :
    runA (env Try.f60.ntmps [] []) (loopOf 0 (bodyC Try.f60)) 0 (stateOf leShr.inn [.ints 4 .u64 a, .ints 4 .u64 r4, .ints 4 .u64 out, .int .i64 n, .int .i64 d, .int .i64 e, .int .i64 i]) (bodyK leShr 0 k1 k2) =
    stepShr R [.ints 4 .u64 a, .ints 4 .u64 r4, .ints 4 .u64 out, .int .i64 n, .int .i64 d, .int .i64 e, .int .i64 i] k1 k2 := by kernel_rfl

def orcShr : List (FuncId × Ent) := [(74, entS false sp_wShl)]

theorem run_wShr (a : List Int) (n : Int) : callA (env Try.f60.ntmps orcShr [(0, leShr)]) (bodyC Try.f60) Try.f60.results.toList (slots 0 [.ints 4 .u64 a, .int .i64 n]) some =
    bif decide (n < 1) then some (.tup [.ints 4 .u64 a, .bool false]) else bif decide (n ≥ 256) then some (.tup [.ints 4 .u64 [0, 0, 0, 0], .bool (!decide (a = [0, 0, 0, 0]))]) else
      chk (okW a && decide (0 ≤ n) && decide (n < 256) && decide (w64 (n.tdiv 64) = n.tdiv 64) && decide (w64 (4 - w64 (n.tdiv 64)) = 4 - n.tdiv 64))
        (chk (okW (toW (valW a / 2 ^ n.toNat))) (some (.tup [.ints 4 .u64 (toW (valW a / 2 ^ n.toNat)), .bool (!decide (toW (valW (toW (valW a / 2 ^ n.toNat)) * 2 ^ n.toNat) = a))]))) := by kernel_rfl

/-- One word of a number shifted to the right: the high part of its own, the low part of the one above. -/
def rhw (x y : Nat) (r : Nat) : Nat := x / 2 ^ r + y % 2 ^ r * 2 ^ (64 - r)

theorem orI_comm (x y : Int) : orI .u64 x y = orI .u64 y x := by
  unfold orI
  rw [BitVec.or_comm]

theorem word_orR (x y r : Nat) (hr : r < 64) (hx : x < 18446744073709551616) : orI .u64 (shrI .u64 (x : Int) (r : Int)) (shlI .u64 (y : Int) ((64 - r : Nat) : Int)) = ((rhw x y r : Nat) : Int) := by
  have hp : (18446744073709551616 : Nat) = 2 ^ r * 2 ^ (64 - r) := by rw [← Nat.pow_add, show r + (64 - r) = 64 by omega]
  rw [orI_comm, shlI_nat _ _ (by omega), shrI_nat _ _ (by omega), (word_shl y (64 - r) (by omega)).1, show 64 - (64 - r) = r by omega]
  unfold rhw
  rw [Nat.add_comm]
  refine orI_add _ _ (64 - r) ?_ ?_ (by omega)
  · have h1 : y % 2 ^ r < 2 ^ r := Nat.mod_lt _ (Nat.two_pow_pos r)
    have := Nat.mul_lt_mul_of_pos_right h1 (Nat.two_pow_pos (64 - r))
    rw [← hp] at this
    exact this
  · rw [Nat.div_lt_iff_lt_mul (Nat.two_pow_pos _), Nat.mul_comm, ← hp]; exact hx

theorem word_high (x r : Nat) (hr : r ≤ 64) : shrI .u64 (x : Int) (r : Int) = ((rhw x 0 r : Nat) : Int) := by
  rw [shrI_nat _ _ hr]
  unfold rhw
  rw [Nat.zero_mod, Nat.zero_mul, Nat.add_zero]

theorem rhw_lt (x y r : Nat) (hr : r ≤ 64) (hx : x < 18446744073709551616) : rhw x y r < 18446744073709551616 := by
  have hp : (18446744073709551616 : Nat) = 2 ^ r * 2 ^ (64 - r) := by rw [← Nat.pow_add, show r + (64 - r) = 64 by omega]
  unfold rhw
  have h2 : x / 2 ^ r < 2 ^ (64 - r) := by
    rw [Nat.div_lt_iff_lt_mul (Nat.two_pow_pos _), Nat.mul_comm, ← hp]; exact hx
  have h1 : y % 2 ^ r < 2 ^ r := Nat.mod_lt _ (Nat.two_pow_pos r)
  have h3 : (y % 2 ^ r + 1) * 2 ^ (64 - r) ≤ 2 ^ r * 2 ^ (64 - r) := Nat.mul_le_mul_right _ h1
  rw [← hp, Nat.add_mul, Nat.one_mul] at h3
  omega

/-- Four words divided by 2^r. -/
theorem four_shr (a b c d r : Nat) (hr : r ≤ 64) : (a + 18446744073709551616 * b + 340282366920938463463374607431768211456 * c + 6277101735386680763835789423207666416102355444464034512896 * d) / 2 ^ r =
    rhw a b r + 18446744073709551616 * rhw b c r + 340282366920938463463374607431768211456 * rhw c d r + 6277101735386680763835789423207666416102355444464034512896 * rhw d 0 r := by
  have hp : (18446744073709551616 : Nat) = 2 ^ r * 2 ^ (64 - r) := by rw [← Nat.pow_add, show r + (64 - r) = 64 by omega]
  have key : ∀ x : Nat, 18446744073709551616 * x = 2 ^ r * (18446744073709551616 * (x / 2 ^ r) + x % 2 ^ r * 2 ^ (64 - r)) := by
    intro x
    have h := Nat.mod_add_div x (2 ^ r)
    rw [Nat.mul_add, ← Nat.mul_assoc, ← Nat.mul_assoc, Nat.mul_comm (2 ^ r) 18446744073709551616, Nat.mul_assoc 18446744073709551616, Nat.mul_comm (2 ^ r) (x % 2 ^ r), Nat.mul_assoc (x % 2 ^ r), ← hp, Nat.mul_comm (x % 2 ^ r), ← Nat.mul_add, Nat.add_comm, h]
  have hb := key b
  have hc := key c
  have hd := key d
  have ha := Nat.mod_add_div a (2 ^ r)
  have hlt : a % 2 ^ r < 2 ^ r := Nat.mod_lt _ (Nat.two_pow_pos r)
  unfold rhw
  rw [Nat.zero_mod, Nat.zero_mul, Nat.add_zero]
  generalize b / 2 ^ r = b1 at *
  generalize b % 2 ^ r * 2 ^ (64 - r) = b2 at *
  generalize c / 2 ^ r = c1 at *
  generalize c % 2 ^ r * 2 ^ (64 - r) = c2 at *
  generalize d / 2 ^ r = d1 at *
  generalize d % 2 ^ r * 2 ^ (64 - r) = d2 at *
  have e2 : 340282366920938463463374607431768211456 * c = 2 ^ r * (18446744073709551616 * (18446744073709551616 * c1 + c2)) := by
    rw [Nat.mul_left_comm, ← hc]; omega
  have e3 : 6277101735386680763835789423207666416102355444464034512896 * d = 2 ^ r * (340282366920938463463374607431768211456 * (18446744073709551616 * d1 + d2)) := by
    rw [Nat.mul_left_comm, ← hd]; omega
  rw [hb, e2, e3]
  have e4 : a + 2 ^ r * (18446744073709551616 * b1 + b2) + 2 ^ r * (18446744073709551616 * (18446744073709551616 * c1 + c2)) + 2 ^ r * (340282366920938463463374607431768211456 * (18446744073709551616 * d1 + d2)) =
      a % 2 ^ r + 2 ^ r * (a / 2 ^ r + (18446744073709551616 * b1 + b2) + 18446744073709551616 * (18446744073709551616 * c1 + c2) + 340282366920938463463374607431768211456 * (18446744073709551616 * d1 + d2)) := by
    clear e2 e3 hb hc hd key hp
    generalize 18446744073709551616 * b1 + b2 = X
    generalize 18446744073709551616 * (18446744073709551616 * c1 + c2) = Y
    generalize 340282366920938463463374607431768211456 * (18446744073709551616 * d1 + d2) = Z
    rw [Nat.mul_add, Nat.mul_add, Nat.mul_add]
    omega
  rw [e4, Nat.add_mul_div_left _ _ (Nat.two_pow_pos r), Nat.div_eq_of_lt hlt]
  generalize a / 2 ^ r = a1
  omega

theorem shr_hi (R : Type) {a r4 out : List Int} (ha : okW a = true) (hl : out.length = 4) {d i r : Nat} {e : Int} (he : (i : Int) < e) (hi : i + d + 1 < 4) (hr : r < 64) (k1 : List AV → Option R) (k2 : Nat → List AV → Option R) :
    stepShr R [.ints 4 .u64 a, .ints 4 .u64 r4, .ints 4 .u64 out, .int .i64 ((64 * d + r : Nat) : Int), .int .i64 d, .int .i64 e, .int .i64 i] k1 k2 =
      k1 [.ints 4 .u64 a, .ints 4 .u64 r4, .ints 4 .u64 (out.set i ((rhw (wd a (i + d)) (wd a (i + d + 1)) r : Nat) : Int)), .int .i64 ((64 * d + r : Nat) : Int), .int .i64 d, .int .i64 e, .int .i64 ((i + 1 : Nat) : Int)] := by
  have t := (split64 (64 * d + r)).2
  rw [show (64 * d + r) % 64 = r by omega] at t
  have e1 : decide ((i : Int) < e) = true := by simp [he]
  have e2 : w64 ((i : Int) + d) = ((i + d : Nat) : Int) := by rw [w64_small (by omega) (by omega)]; omega
  have e3 : w64 (((i + d : Nat) : Int) + 1) = ((i + d + 1 : Nat) : Int) := by rw [w64_small (by omega) (by omega)]; omega
  have e4 : w64 (64 - (r : Int)) = ((64 - r : Nat) : Int) := by rw [w64_small (by omega) (by omega)]; omega
  have e5 : decide ((0 : Int) ≤ ((i + d : Nat) : Int)) = true := decide_eq_true (by omega)
  have e6 : decide (((i + d : Nat) : Int) < 4) = true := decide_eq_true (by omega)
  have e7 : decide ((r : Int) < 0) = false := decide_eq_false (by omega)
  have e8 : decide ((0 : Int) ≤ (i : Int)) = true := decide_eq_true (by omega)
  have e9 : decide ((i : Int) < 4) = true := decide_eq_true (by omega)
  have e11 : decide ((0 : Int) ≤ ((i + d + 1 : Nat) : Int)) = true := decide_eq_true (by omega)
  have e12 : decide (((i + d + 1 : Nat) : Int) < 4) = true := decide_eq_true (by omega)
  have e13 : decide (((64 - r : Nat) : Int) < 0) = false := decide_eq_false (by omega)
  have e14 : w64 ((i : Int) + 1) = ((i + 1 : Nat) : Int) := by rw [w64_small (by omega) (by omega)]; omega
  have g : (out.set i (shrI .u64 (a.getD (i + d) 0) (r : Int))).getD i 0 = shrI .u64 (a.getD (i + d) 0) (r : Int) := by
    simp [List.getD, List.getElem?_set_self (show i < out.length by omega)]
  simp only [stepShr, t, e1, e2, e3, e4, e5, e6, e7, e8, e9, e11, e12, e13, e14, cond_true, Bool.and_self, chk, Bool.not_false, Int.toNat_natCast, g, List.set_set]
  rw [wordAt ha (i + d) (by omega), wordAt ha (i + d + 1) (by omega)]
  have := word_orR (wd a (i + d)) (wd a (i + d + 1)) r hr (wd_lt _ _)
  unfold wd at this ⊢
  rw [this]

theorem shr_eq (R : Type) {a r4 out : List Int} (ha : okW a = true) {d i r : Nat} {e : Int} (he : (i : Int) < e) (hi : i + d = 3) (hr : r < 64) (k1 : List AV → Option R) (k2 : Nat → List AV → Option R) :
    stepShr R [.ints 4 .u64 a, .ints 4 .u64 r4, .ints 4 .u64 out, .int .i64 ((64 * d + r : Nat) : Int), .int .i64 d, .int .i64 e, .int .i64 i] k1 k2 =
      k1 [.ints 4 .u64 a, .ints 4 .u64 r4, .ints 4 .u64 (out.set i ((rhw (wd a 3) 0 r : Nat) : Int)), .int .i64 ((64 * d + r : Nat) : Int), .int .i64 d, .int .i64 e, .int .i64 ((i + 1 : Nat) : Int)] := by
  have t := (split64 (64 * d + r)).2
  rw [show (64 * d + r) % 64 = r by omega] at t
  have e1 : decide ((i : Int) < e) = true := by simp [he]
  have e2 : w64 ((i : Int) + d) = ((3 : Nat) : Int) := by rw [w64_small (by omega) (by omega)]; omega
  have e3 : w64 (((3 : Nat) : Int) + 1) = ((4 : Nat) : Int) := by rw [w64_small (by omega) (by omega)]; rfl
  have e5 : decide ((0 : Int) ≤ ((3 : Nat) : Int)) = true := decide_eq_true (by omega)
  have e6 : decide (((3 : Nat) : Int) < 4) = true := decide_eq_true (by omega)
  have e7 : decide ((r : Int) < 0) = false := decide_eq_false (by omega)
  have e8 : decide ((0 : Int) ≤ (i : Int)) = true := decide_eq_true (by omega)
  have e9 : decide ((i : Int) < 4) = true := decide_eq_true (by omega)
  have e12 : decide (((4 : Nat) : Int) < 4) = false := decide_eq_false (by omega)
  have e14 : w64 ((i : Int) + 1) = ((i + 1 : Nat) : Int) := by rw [w64_small (by omega) (by omega)]; omega
  simp only [stepShr, t, e1, e2, e3, e5, e6, e7, e8, e9, e12, e14, cond_true, cond_false, Bool.and_self, chk, Bool.not_false, Int.toNat_natCast]
  rw [wordAt ha 3 (by omega)]
  have := word_high (wd a 3) r (by omega)
  unfold wd at this ⊢
  rw [this]

theorem shr_lo (R : Type) {a r4 out : List Int} {n d e i : Int} (hi : e ≤ i) (k1 : List AV → Option R) (k2 : Nat → List AV → Option R) :
    stepShr R [.ints 4 .u64 a, .ints 4 .u64 r4, .ints 4 .u64 out, .int .i64 n, .int .i64 d, .int .i64 e, .int .i64 i] k1 k2 = k2 0 [.ints 4 .u64 a, .ints 4 .u64 r4, .ints 4 .u64 out, .int .i64 n] := by
  have e1 : decide (i < e) = false := decide_eq_false (by omega)
  simp only [stepShr, e1, cond_false]

theorem toW_q {s0 s1 s2 s3 : Nat} (l0 : s0 < 18446744073709551616) (l1 : s1 < 18446744073709551616) (l2 : s2 < 18446744073709551616) (l3 : s3 < 18446744073709551616) :
    toW ((s0 + 18446744073709551616 * s1 + 340282366920938463463374607431768211456 * s2 + 6277101735386680763835789423207666416102355444464034512896 * s3) / 2 ^ (64 * 0)) = [(s0 : Int), s1, s2, s3] ∧
    toW ((s0 + 18446744073709551616 * s1 + 340282366920938463463374607431768211456 * s2 + 6277101735386680763835789423207666416102355444464034512896 * s3) / 2 ^ (64 * 1)) = [(s1 : Int), s2, s3, 0] ∧
    toW ((s0 + 18446744073709551616 * s1 + 340282366920938463463374607431768211456 * s2 + 6277101735386680763835789423207666416102355444464034512896 * s3) / 2 ^ (64 * 2)) = [(s2 : Int), s3, 0, 0] ∧
    toW ((s0 + 18446744073709551616 * s1 + 340282366920938463463374607431768211456 * s2 + 6277101735386680763835789423207666416102355444464034512896 * s3) / 2 ^ (64 * 3)) = [(s3 : Int), 0, 0, 0] := by
  refine ⟨?_, ?_, ?_, ?_⟩
  · exact toW_of _ s0 s1 s2 s3 0 l0 l1 l2 l3 (by omega)
  · exact toW_of _ s1 s2 s3 0 0 l1 l2 l3 (by decide) (by omega)
  · exact toW_of _ s2 s3 0 0 0 l2 l3 (by decide) (by decide) (by omega)
  · exact toW_of _ s3 0 0 0 0 l3 (by decide) (by decide) (by decide) (by omega)

theorem go_shr (R : Type) (n : Nat) (vs : List AV) (kk : Nat → List AV → Option R) (r : R) (h : leShr.go R n vs kk = some r) : ∃ m, loopN (stepShr R) m vs kk = some r := by
  simp only [leShr] at h
  split at h
  · rename_i a r4 n d e
    obtain ⟨hg, hk⟩ := chk_some h
    clear h
    simp only [Bool.and_eq_true, decide_eq_true_eq] at hg
    obtain ⟨⟨⟨⟨ha, g1⟩, g2⟩, g3⟩, g4⟩ := hg
    obtain ⟨m, rfl⟩ : ∃ m : Nat, n = m := ⟨n.toNat, (Int.toNat_of_nonneg g1).symm⟩
    obtain ⟨q, s, hq, hs, hm⟩ : ∃ q s : Nat, q < 4 ∧ s < 64 ∧ m = 64 * q + s := ⟨m / 64, m % 64, by omega, by omega, by omega⟩
    rw [(split64 m).1, show m / 64 = q by omega] at g3 g4
    subst g3 hm g4
    obtain ⟨a0, a1, a2, a3, he, ra0, ra1, ra2, ra3⟩ := okW_split ha
    subst he
    obtain ⟨h0, h1, h2, h3⟩ := wd_limbs ha
    have b0 := wd_lt [a0, a1, a2, a3] 0
    have b1 := wd_lt [a0, a1, a2, a3] 1
    have b2 := wd_lt [a0, a1, a2, a3] 2
    have b3 := wd_lt [a0, a1, a2, a3] 3
    rw [h0] at b0
    rw [h1] at b1
    rw [h2] at b2
    rw [h3] at b3
    have hv : valW [a0, a1, a2, a3] = a0.toNat + 18446744073709551616 * a1.toNat + 340282366920938463463374607431768211456 * a2.toNat + 6277101735386680763835789423207666416102355444464034512896 * a3.toNat := rfl
    generalize hV : valW [a0, a1, a2, a3] = V at hv hk
    clear ra0 ra1 ra2 ra3 g1 g2
    have hs' : s ≤ 64 := Nat.le_of_lt hs
    have hk4 := four_shr a0.toNat a1.toNat a2.toNat a3.toNat s hs'
    rw [← hv] at hk4
    have l0 := rhw_lt a0.toNat a1.toNat s hs' b0
    have l1 := rhw_lt a1.toNat a2.toNat s hs' b1
    have l2 := rhw_lt a2.toNat a3.toNat s hs' b2
    have l3 := rhw_lt a3.toNat 0 s hs' b3
    rw [Int.toNat_natCast, Nat.add_comm (64 * q), Nat.pow_add, ← Nat.div_div_eq_div_mul, hk4] at hk
    clear hk4 hv b0 b1 b2 b3
    obtain ⟨t0, t1, t2, t3⟩ := toW_q l0 l1 l2 l3
    rw [Nat.add_comm s] at hk
    match q, hq with
    | 0, _ =>
      refine ⟨5, ?_⟩
      rw [t0] at hk
      rw [loopN, show ((0 : Int)) = ((0 : Nat) : Int) from rfl, shr_hi R ha rfl (by decide) (by decide) hs, loopN, shr_hi R ha (by simp) (by decide) (by decide) hs, loopN, shr_hi R ha (by simp) (by decide) (by decide) hs, loopN, shr_eq R ha (by decide) (by decide) hs, loopN, shr_lo R (by decide)]
      simp only [Nat.reduceAdd, h0, h1, h2, h3, List.set_cons_zero, List.set_cons_succ]
      exact hk
    | 1, _ =>
      refine ⟨4, ?_⟩
      rw [t1] at hk
      rw [loopN, show ((0 : Int)) = ((0 : Nat) : Int) from rfl, shr_hi R ha rfl (by decide) (by decide) hs, loopN, shr_hi R ha (by simp) (by decide) (by decide) hs, loopN, shr_eq R ha (by decide) (by decide) hs, loopN, shr_lo R (by decide)]
      simp only [Nat.reduceAdd, h0, h1, h2, h3, List.set_cons_zero, List.set_cons_succ]
      exact hk
    | 2, _ =>
      refine ⟨3, ?_⟩
      rw [t2] at hk
      rw [loopN, show ((0 : Int)) = ((0 : Nat) : Int) from rfl, shr_hi R ha rfl (by decide) (by decide) hs, loopN, shr_eq R ha (by decide) (by decide) hs, loopN, shr_lo R (by decide)]
      simp only [Nat.reduceAdd, h0, h1, h2, h3, List.set_cons_zero, List.set_cons_succ]
      exact hk
    | 3, _ =>
      refine ⟨2, ?_⟩
      rw [t3] at hk
      rw [loopN, show ((0 : Int)) = ((0 : Nat) : Int) from rfl, shr_eq R ha (by decide) (by decide) hs, loopN, shr_lo R (by decide)]
      simp only [h3, List.set_cons_zero]
      exact hk
  · cases h

def sp_wShr : List AV → Option (Bool × AV)
  | [.ints 4 .u64 a, .int .i64 n] => some (okW a, .tup [.ints 4 .u64 (toW (valW a / 2 ^ n.toNat)), .bool (decide (valW a % 2 ^ n.toNat ≠ 0))])
  | _ => none

theorem toW_inj {l : List Int} (h : okW l = true) (v : Nat) (hv : v < 115792089237316195423570985008687907853269984665640564039457584007913129639936) : toW v = l ↔ v = valW l := by
  constructor
  · intro e
    rw [← e, valW_toW, Nat.mod_eq_of_lt hv]
  · intro e
    rw [e, toW_valW h]

theorem ok_wShr : EntOk Try.prog 60 (entS false sp_wShr) := by
  refine contractS (orc := orcShr) (lo := [(0, leShr)]) Try.func60 (orc_cons ok_wShl orc_nil) (by kernel_rfl) (by kernel_rfl) (by kernel_rfl)
    (loops_one (id := 0) (y := .loop (loopOf 0 (bodyC Try.f60))) (by kernel_rfl)
      (loopS (le := leShr) (orc := []) (lo' := []) orc_nil (by kernel_rfl) rfl (loops_none (by kernel_rfl)) stepShr (fun R vs k1 k2 r h => ?_) go_shr)) fun args r h => ?_
  · have h0 := h
    unfold stepShr at h
    split at h
    · exact (step_shr R _ _ _ _ _ _ _ k1 k2).trans h0
    · cases h
  · unfold sp_wShr at h
    split at h
    · rename_i a n
      simp only [Option.some.injEq, Prod.mk.injEq] at h
      obtain ⟨ha, rfl⟩ := h
      refine ⟨by kernel_rfl, .inr rfl, (run_wShr a n).trans ?_⟩
      have hlt := valW_lt ha
      by_cases h1 : n < 1
      · rw [decide_eq_true h1, cond_true, show n.toNat = 0 by omega, Nat.pow_zero, Nat.div_one, Nat.mod_one, toW_valW ha]
        rfl
      rw [decide_eq_false h1, cond_false]
      by_cases h2 : n ≥ 256
      · have hp : valW a < 2 ^ n.toNat := Nat.lt_of_lt_of_le hlt (Nat.le_trans (by decide) (Nat.pow_le_pow_right (n := 2) (by decide) (show 256 ≤ n.toNat by omega)))
        have hz : toW 0 = [0, 0, 0, 0] := toW_of 0 0 0 0 0 0 (by decide) (by decide) (by decide) (by decide) rfl
        rw [decide_eq_true h2, cond_true, Nat.div_eq_of_lt hp, Nat.mod_eq_of_lt hp, hz]
        have : (!decide (a = [0, 0, 0, 0])) = decide (valW a ≠ 0) := by
          rw [← hz, ← decide_not]
          refine decide_eq_decide.2 (not_congr ?_)
          rw [eq_comm, toW_inj ha 0 (by decide), eq_comm]
        rw [this]
      · rw [decide_eq_false h2, cond_false, ha]
        have e1 : decide (0 ≤ n) = true := decide_eq_true (by omega)
        have e2 : decide (n < 256) = true := decide_eq_true (by omega)
        obtain ⟨m, rfl⟩ : ∃ m : Nat, n = m := ⟨n.toNat, (Int.toNat_of_nonneg (by omega)).symm⟩
        have e3 : w64 ((m : Int).tdiv 64) = (m : Int).tdiv 64 := by
          rw [(split64 m).1]
          exact w64_small (by omega) (by omega)
        have e4 : w64 (4 - (m : Int).tdiv 64) = 4 - (m : Int).tdiv 64 := by
          rw [(split64 m).1]
          exact w64_small (by omega) (by omega)
        rw [e1, e2, e3, e4, okW_toW]
        simp only [decide_true, Bool.and_self, chk, cond_true, Int.toNat_natCast]
        have hle : valW a / 2 ^ m ≤ valW a := Nat.div_le_self _ _
        simp only [valW_toW, Nat.mod_eq_of_lt (Nat.lt_of_le_of_lt hle hlt)]
        have hmul : valW a / 2 ^ m * 2 ^ m ≤ valW a := Nat.div_mul_le_self _ _
        have : (!decide (toW (valW a / 2 ^ m * 2 ^ m) = a)) = decide (valW a % 2 ^ m ≠ 0) := by
          rw [← decide_not]
          refine decide_eq_decide.2 (not_congr ?_)
          rw [toW_inj ha _ (Nat.lt_of_le_of_lt hmul hlt)]
          have hm := Nat.mod_add_div (valW a) (2 ^ m)
          rw [Nat.mul_comm] at hm
          omega
        rw [this]
    · cases h
end
end Go.Proofs.Ytdkebceiljdgjaa
