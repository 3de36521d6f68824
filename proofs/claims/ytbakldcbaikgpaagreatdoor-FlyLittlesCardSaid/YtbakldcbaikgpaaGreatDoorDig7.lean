/- tillerref02: Shr. Own work. -/
import Derived.Test.YtbakldcbaikgpaaGreatDoorRnd5
namespace Go.Proofs.YtbakldcbaikgpaaGreatDoor
set_option maxRecDepth 100000
noncomputable section
theorem bneN (m n : Nat) : ((m : Int) != (n : Int)) = !decide (m = n) := by rw [bne, eqN]
theorem loops_three {P : Program} {nt : Nat} {lo : List (Nat × LEnt)} {c : Code} {i0 i1 i2 : Nat} {y0 y1 y2 : Code} (h : loopsIn lo c = [(i0, y0), (i1, y1), (i2, y2)]) (h0 : LoopOk P nt lo i0 y0) (h1 : LoopOk P nt lo i1 y1) (h2 : LoopOk P nt lo i2 y2) : LoopsOk P nt lo c := by
  intro x hx
  rw [h] at hx
  simp only [List.mem_cons, List.not_mem_nil, or_false] at hx
  rcases hx with rfl | rfl | rfl
  · exact h0
  · exact h1
  · exact h2
/-! ### Whole digits cut off -/
def lsA (l : List Int) (d : Int) : Bool := stk (decide (valD l % 65536 ^ d.toNat ≠ 0))
def goLs (m : Nat) (l : List Int) (d : Int) : Bool := stk (decide (m = l.length) && okD l && decide (0 ≤ d) && decide (d ≤ 1000000) && decide (m ≤ 1000000))
def stepLs (R : Type) (vs : List AV) (k1 : List AV → Option R) (k2 : Nat → List AV → Option R) : Option R :=
  match vs with
  | [.sl (.ints m .u32 l), .int .i64 n, .bool b, .int .i64 d, .int .i64 i] =>
    bif decide (i < d) then bif decide (i < (m : Int)) then
        bif b then k1 [.sl (.ints m .u32 l), .int .i64 n, .bool true, .int .i64 d, .int .i64 (w64 (i + 1))] else chk (decide (0 ≤ i) && decide (i < (m : Int)) && true) (k1 [.sl (.ints m .u32 l), .int .i64 n, .bool (l.getD i.toNat 0 != 0), .int .i64 d, .int .i64 (w64 (i + 1))])
      else k2 0 [.sl (.ints m .u32 l), .int .i64 n, .bool b, .int .i64 d]
    else k2 0 [.sl (.ints m .u32 l), .int .i64 n, .bool b, .int .i64 d]
  | _ => none
def leLs : LEnt :=
  { inn := { fuel := none, keep := [0, 1, 6, 7, 8], refs := [] }
    out := { fuel := none, keep := [0, 1, 6, 7], refs := [] }
    ret := { fuel := none, keep := [], refs := [] }
    go := fun _ _ vs kk => match vs with
      | [.sl (.ints m .u32 l), .int .i64 n, .bool false, .int .i64 d, .int .i64 0] => chk (goLs m l d) (kk 0 [.sl (.ints m .u32 l), .int .i64 n, .bool (lsA l d), .int .i64 d])
      | _ => none }
theorem step_ls (R : Type) (m : Nat) (l : List Int) (n : Int) (b : Bool) (d i : Int) (k1 : List AV → Option R) (k2 : Nat → List AV → Option R) :
    runA (env Tryz.f100.ntmps orcAT []) (loopOf 0 (bodyC Tryz.f100)) 0 (stateOf leLs.inn [.sl (.ints m .u32 l), .int .i64 n, .bool b, .int .i64 d, .int .i64 i]) (bodyK leLs 0 k1 k2) =
    stepLs R [.sl (.ints m .u32 l), .int .i64 n, .bool b, .int .i64 d, .int .i64 i] k1 k2 := by kernel_rfl
theorem ls_loop (R : Type) {l : List Int} (hl : okD l = true) (hm : l.length ≤ 1000000) (n : Int) (d : Nat) (hd : d ≤ 1000000) (kk : Nat → List AV → Option R) : ∀ (j i : Nat) (b : Bool), i + j = min d l.length → b = decide (valD l % 65536 ^ i ≠ 0) →
    ∃ f, loopN (stepLs R) f [.sl (.ints l.length .u32 l), .int .i64 n, .bool b, .int .i64 (d : Int), .int .i64 (i : Int)] kk = kk 0 [.sl (.ints l.length .u32 l), .int .i64 n, .bool (decide (valD l % 65536 ^ d ≠ 0)), .int .i64 (d : Int)]
  | 0, i, b, hij, hb => by
    have he : valD l % 65536 ^ i = valD l % 65536 ^ d := by
      by_cases h : d ≤ l.length
      · rw [show i = d by omega]
      · have hi : i = l.length := by omega
        rw [hi, Nat.mod_eq_of_lt (val_lt l hl), Nat.mod_eq_of_lt (Nat.lt_of_lt_of_le (val_lt l hl) (Nat.pow_le_pow_right (by decide) (by omega)))]
    rw [he] at hb
    refine ⟨1, ?_⟩
    rw [loopN]
    simp only [stepLs]
    by_cases h1 : (i : Int) < (d : Int)
    · rw [decide_eq_true h1, decide_eq_false (show ¬ (i : Int) < (l.length : Int) by omega), hb]; rfl
    · rw [decide_eq_false h1, hb]; rfl
  | j + 1, i, b, hij, hb => by
    have hs := mod_pow_succ (valD l) i
    have hg := get_val l i hl
    have hP : 0 < 65536 ^ i := Nat.pow_pos (by decide)
    have e1 : decide ((i : Int) < (d : Int)) = true := decide_eq_true (by omega)
    have e2 : decide ((i : Int) < (l.length : Int)) = true := decide_eq_true (by omega)
    have e3 : w64 ((i : Int) + 1) = ((i + 1 : Nat) : Int) := by rw [w64_mid (by omega) (by omega)]; omega
    by_cases hz : valD l % 65536 ^ i = 0
    · have hb' : b = false := by rw [hb, decide_eq_false (not_not_intro hz)]
      rw [hz, Nat.zero_add] at hs
      obtain ⟨f, hf⟩ := ls_loop R hl hm n d hd kk j (i + 1) (((valD l / 65536 ^ i % 65536 : Nat) : Int) != 0) (by omega) (by
        have := bneN (valD l / 65536 ^ i % 65536) 0
        rw [show ((0 : Nat) : Int) = 0 from rfl] at this
        rw [this, hs, ← decide_not]
        exact decide_eq_decide.2 (not_congr (by rw [Nat.mul_eq_zero]; omega)))
      refine ⟨f + 1, ?_⟩
      rw [loopN, hb']
      simp only [stepLs]
      rw [e1, e2, e3, decide_eq_true (show (0 : Int) ≤ (i : Int) by omega), Int.toNat_natCast, hg]
      exact hf
    · have hb' : b = true := by rw [hb, decide_eq_true hz]
      obtain ⟨f, hf⟩ := ls_loop R hl hm n d hd kk j (i + 1) true (by omega) (by
        rw [hs, decide_eq_true]
        intro h
        exact hz (by omega))
      refine ⟨f + 1, ?_⟩
      rw [loopN, hb']
      simp only [stepLs]
      rw [e1, e2, e3]
      exact hf
theorem go_ls (R : Type) (n : Nat) (vs : List AV) (kk : Nat → List AV → Option R) (r : R) (h : leLs.go R n vs kk = some r) : ∃ m, loopN (stepLs R) m vs kk = some r := by
  simp only [leLs] at h
  split at h
  · rename_i m l n d
    obtain ⟨hg, hk⟩ := chk_some h
    unfold goLs at hg
    rw [stk_eq] at hg
    simp only [Bool.and_eq_true, decide_eq_true_eq] at hg
    obtain ⟨⟨⟨⟨g1, g2⟩, g3⟩, g4⟩, g5⟩ := hg
    subst g1
    obtain ⟨a, rfl⟩ : ∃ a : Nat, d = a := ⟨d.toNat, (Int.toNat_of_nonneg g3).symm⟩
    obtain ⟨f, hf⟩ := ls_loop R g2 g5 n a (by omega) kk (min a l.length) 0 false (by omega) (by rw [Nat.pow_zero, Nat.mod_one]; rfl)
    refine ⟨f, hf.trans ?_⟩
    unfold lsA at hk
    rw [stk_eq, Int.toNat_natCast] at hk
    exact hk
  · cases h
/-! ### The power of two -/
def stepRp (R : Type) (vs : List AV) (k1 : List AV → Option R) (k2 : Nat → List AV → Option R) : Option R :=
  match vs with
  | [.sl (.ints m .u32 l), .int .i64 n, .bool b, .int .i64 d, .int .u32 x, .int .i64 i] => bif decide (i < n.tmod 16) then k1 [.sl (.ints m .u32 l), .int .i64 n, .bool b, .int .i64 d, .int .u32 (u32 (2 * x)), .int .i64 (w64 (i + 1))] else k2 0 [.sl (.ints m .u32 l), .bool b, .int .i64 d, .int .u32 x]
  | _ => none
def leRp : LEnt :=
  { inn := { fuel := none, keep := [0, 1, 6, 7, 9, 10], refs := [] }
    out := { fuel := none, keep := [0, 6, 7, 9], refs := [] }
    ret := { fuel := none, keep := [], refs := [] }
    go := fun _ _ vs kk => match vs with
      | [.sl (.ints m .u32 l), .int .i64 n, .bool b, .int .i64 d, .int .u32 1, .int .i64 0] => chk (goPw n) (kk 0 [.sl (.ints m .u32 l), .bool b, .int .i64 d, .int .u32 (pwI n)])
      | _ => none }
theorem step_rp (R : Type) (m : Nat) (l : List Int) (n : Int) (b : Bool) (d x i : Int) (k1 : List AV → Option R) (k2 : Nat → List AV → Option R) :
    runA (env Tryz.f100.ntmps orcAT []) (loopOf 2 (bodyC Tryz.f100)) 2 (stateOf leRp.inn [.sl (.ints m .u32 l), .int .i64 n, .bool b, .int .i64 d, .int .u32 x, .int .i64 i]) (bodyK leRp 2 k1 k2) =
    stepRp R [.sl (.ints m .u32 l), .int .i64 n, .bool b, .int .i64 d, .int .u32 x, .int .i64 i] k1 k2 := by kernel_rfl
theorem rp_loop (R : Type) (m : Nat) (l : List Int) (n : Nat) (b : Bool) (d : Int) (kk : Nat → List AV → Option R) : ∀ (j i : Nat), i + j = n % 16 →
    ∃ f, loopN (stepRp R) f [.sl (.ints m .u32 l), .int .i64 (n : Int), .bool b, .int .i64 d, .int .u32 ((2 ^ i : Nat) : Int), .int .i64 (i : Int)] kk = kk 0 [.sl (.ints m .u32 l), .bool b, .int .i64 d, .int .u32 ((2 ^ (n % 16) : Nat) : Int)]
  | 0, i, h => by
    refine ⟨1, ?_⟩
    rw [loopN]
    simp only [stepRp]
    have e := tmodN n 16
    rw [show ((16 : Nat) : Int) = 16 from rfl] at e
    rw [e, decide_eq_false (show ¬ (i : Int) < ((n % 16 : Nat) : Int) by omega), show i = n % 16 by omega]
    rfl
  | j + 1, i, h => by
    obtain ⟨f, hf⟩ := rp_loop R m l n b d kk j (i + 1) (by omega)
    refine ⟨f + 1, ?_⟩
    rw [loopN]
    simp only [stepRp]
    have e := tmodN n 16
    rw [show ((16 : Nat) : Int) = 16 from rfl] at e
    rw [e, decide_eq_true (show (i : Int) < ((n % 16 : Nat) : Int) by omega), two_u32 (by omega), w64_mid (by omega) (by omega)]
    exact hf
theorem go_rp (R : Type) (n : Nat) (vs : List AV) (kk : Nat → List AV → Option R) (r : R) (h : leRp.go R n vs kk = some r) : ∃ m, loopN (stepRp R) m vs kk = some r := by
  simp only [leRp] at h
  split at h
  · rename_i m l n b d
    obtain ⟨hg, hk⟩ := chk_some h
    unfold goPw at hg
    rw [stk_eq] at hg
    simp only [Bool.and_eq_true, decide_eq_true_eq] at hg
    obtain ⟨a, rfl⟩ : ∃ a : Nat, n = a := ⟨n.toNat, (Int.toNat_of_nonneg hg.1).symm⟩
    obtain ⟨f, hf⟩ := rp_loop R m l a b d kk (a % 16) 0 (by omega)
    refine ⟨f, hf.trans ?_⟩
    unfold pwI at hk
    rw [stk_eq, Int.toNat_natCast] at hk
    exact hk
  · cases h
/-! ### The quotient -/
def srN (m : Nat) (d : Int) : Nat := stk (m - d.toNat)
def srD (l : List Int) (p d : Int) : List Int := stk (digP (l.length - d.toNat) (valD l / (65536 ^ d.toNat * p.toNat)))
def goSr (m : Nat) (l : List Int) (p d : Int) : Bool := stk (decide (m = l.length) && okD l && decide (∃ s : Fin 16, p = ((2 ^ s.val : Nat) : Int)) && decide (0 ≤ d) && decide (d ≤ (m : Int)) && decide (m ≤ 1000000))
def srX (l : List Int) (p i : Int) : Int := u32 (u32 ((l.getD i.toNat 0).tdiv p) + u32 ((atI l (w64 (i + 1))).tmod p * u32 ((65536 : Int).tdiv p)))
def stepSr (R : Type) (vs : List AV) (k1 : List AV → Option R) (k2 : Nat → List AV → Option R) : Option R :=
  match vs with
  | [.ints k .u32 out, .sl (.ints m .u32 l), .bool b, .int .u32 p, .int .i64 i] =>
    bif decide (i < (m : Int)) then chk (decide (0 ≤ i) && decide (i < (m : Int)) && true) (chk (!(p == 0)) (chk (mayL m l) (chk (!(p == 0)) (chk (!(p == 0)) (chk (Nat.ble ((k + 1) * 4) 140737488355328)
      (k1 [.ints (k + 1) .u32 (out ++ [srX l p i]), .sl (.ints m .u32 l), .bool b, .int .u32 p, .int .i64 (w64 (i + 1))]))))))
    else k2 0 [.ints k .u32 out, .bool b]
  | _ => none
def leSr : LEnt :=
  { inn := { fuel := none, keep := [0, 6, 9, 12], refs := [(11, 11, 190, .ints 0 .u32 [])] }
    out := { fuel := none, keep := [6], refs := [(11, 11, 190, .ints 0 .u32 [])] }
    ret := { fuel := none, keep := [], refs := [] }
    go := fun _ _ vs kk => match vs with
      | [.ints 0 .u32 [], .sl (.ints m .u32 l), .bool b, .int .u32 p, .int .i64 d] => chk (goSr m l p d) (kk 0 [.ints (srN m d) .u32 (srD l p d), .bool b])
      | _ => none }
theorem step_sr (R : Type) (k : Nat) (out : List Int) (m : Nat) (l : List Int) (b : Bool) (p i : Int) (k1 : List AV → Option R) (k2 : Nat → List AV → Option R) :
    runA (env Tryz.f100.ntmps orcAT []) (loopOf 4 (bodyC Tryz.f100)) 4 (stateOf leSr.inn [.ints k .u32 out, .sl (.ints m .u32 l), .bool b, .int .u32 p, .int .i64 i]) (bodyK leSr 4 k1 k2) =
    stepSr R [.ints k .u32 out, .sl (.ints m .u32 l), .bool b, .int .u32 p, .int .i64 i] k1 k2 := by kernel_rfl
/-- A digit of a quotient. -/
theorem sr_digit (W p q : Nat) (hpq : q * p = 65536) (hq : 0 < q) (hp : 0 < p) : W / p % 65536 = W % 65536 / p + W / 65536 % 65536 % p * q := by
  have h1 : W / p = W % 65536 / p + q * (W / 65536) := by
    have e := Nat.mod_add_div W 65536
    have e2 : W = W % 65536 + p * (q * (W / 65536)) := by
      rw [← Nat.mul_assoc, Nat.mul_comm p q, hpq]
      exact e.symm
    have e3 : (W % 65536 + p * (q * (W / 65536))) / p = W % 65536 / p + q * (W / 65536) := Nat.add_mul_div_left _ _ hp
    rw [← e2] at e3
    exact e3
  have h2 : W % 65536 / p < q := by
    rw [Nat.div_lt_iff_lt_mul hp, hpq]
    exact Nat.mod_lt _ (by decide)
  have h3 : W / 65536 % 65536 % p = W / 65536 % p := Nat.mod_mod_of_dvd _ ⟨q, by rw [Nat.mul_comm]; exact hpq.symm⟩
  rw [h1, h3, ← hpq, Nat.mod_mul]
  have h4 : (W % (q * p) / p + q * (W / (q * p))) % q = W % (q * p) / p := by
    rw [Nat.add_mul_mod_self_left, Nat.mod_eq_of_lt (by rw [hpq]; exact h2)]
  have h5 : (W % (q * p) / p + q * (W / (q * p))) / q = W / (q * p) := by
    rw [Nat.add_mul_div_left _ _ hq, Nat.div_eq_of_lt (by rw [hpq]; exact h2), Nat.zero_add]
  rw [h4, h5, Nat.mul_comm (W / (q * p) % p) q]
theorem sr_loop (R : Type) {l : List Int} (hl : okD l = true) (hm : l.length ≤ 1000000) (b : Bool) {p q : Nat} (hpq : q * p = 65536) (d : Nat) (kk : Nat → List AV → Option R) : ∀ (j k : Nat), d + k + j = l.length →
    ∃ f, loopN (stepSr R) f [.ints k .u32 (digP k (valD l / (65536 ^ d * p))), .sl (.ints l.length .u32 l), .bool b, .int .u32 (p : Int), .int .i64 ((d + k : Nat) : Int)] kk = kk 0 [.ints (l.length - d) .u32 (digP (l.length - d) (valD l / (65536 ^ d * p))), .bool b]
  | 0, k, h => by
    refine ⟨1, ?_⟩
    rw [loopN]
    simp only [stepSr]
    rw [decide_eq_false (show ¬ ((d + k : Nat) : Int) < (l.length : Int) by omega), show l.length - d = k by omega]
    rfl
  | j + 1, k, h => by
    obtain ⟨f, hf⟩ := sr_loop R hl hm b hpq d kk j (k + 1) (by omega)
    have hp : 0 < p := Nat.pos_of_ne_zero (fun e => by rw [e] at hpq; omega)
    have hq : 0 < q := Nat.pos_of_ne_zero (fun e => by rw [e] at hpq; omega)
    have hp2 : p ≤ 65536 := by rw [← hpq]; exact Nat.le_mul_of_pos_left _ hq
    have hq2 : q ≤ 65536 := by rw [← hpq]; exact Nat.le_mul_of_pos_right _ hp
    have hg := get_val l (d + k) hl
    have ha := at_val hl (d + k + 1)
    have hsn := dig_len_pos k (valD l / (65536 ^ d * p))
    have hdig : valD l / (65536 ^ d * p) / 65536 ^ k % 65536 = valD l / 65536 ^ (d + k) % 65536 / p + valD l / 65536 ^ (d + k + 1) % 65536 % p * q := by
      have := sr_digit (valD l / 65536 ^ (d + k)) p q hpq hq hp
      rw [Nat.div_div_eq_div_mul, Nat.div_div_eq_div_mul] at this
      rw [Nat.div_div_eq_div_mul, Nat.mul_right_comm, ← Nat.pow_add, this, Nat.pow_succ]
    have d1 : valD l / 65536 ^ (d + k) % 65536 < 65536 := Nat.mod_lt _ (by decide)
    have d3 : valD l / (65536 ^ d * p) / 65536 ^ k % 65536 < 65536 := Nat.mod_lt _ (by decide)
    have hX : srX l (p : Int) ((d + k : Nat) : Int) = ((valD l / (65536 ^ d * p) / 65536 ^ k % 65536 : Nat) : Int) := by
      unfold srX
      have e0 : w64 (((d + k : Nat) : Int) + 1) = ((d + k + 1 : Nat) : Int) := by rw [w64_mid (by omega) (by omega)]; omega
      have e1 : (65536 : Int).tdiv (p : Int) = ((q : Nat) : Int) := by
        have := tdivN 65536 p
        rw [show ((65536 : Nat) : Int) = 65536 from rfl] at this
        rw [this, ← hpq, Nat.mul_div_cancel _ hp]
      rw [Int.toNat_natCast, hg, e0, ha, tdivN, tmodN, e1, u32_nat (n := q) (by omega)]
      generalize valD l / 65536 ^ (d + k) % 65536 = x at *
      generalize valD l / 65536 ^ (d + k + 1) % 65536 = y at *
      generalize valD l / (65536 ^ d * p) / 65536 ^ k % 65536 = z at *
      have x1 : x / p ≤ x := Nat.div_le_self _ _
      have y1 : y % p * q ≤ z := by rw [hdig]; exact Nat.le_add_left _ _
      have u1 : u32 ((x / p : Nat) : Int) = ((x / p : Nat) : Int) := u32_nat (by omega)
      have u2 : u32 (((y % p : Nat) : Int) * (q : Int)) = ((y % p * q : Nat) : Int) := by rw [← Int.natCast_mul, u32_nat (by omega)]
      rw [u1, u2, ← Int.natCast_add, ← hdig, u32_nat (by omega)]
    have hnz : (!((p : Int) == 0)) = true := by
      have := eqN p 0
      rw [show ((0 : Nat) : Int) = 0 from rfl] at this
      rw [this, decide_eq_false (by omega)]
      rfl
    refine ⟨f + 1, ?_⟩
    rw [loopN]
    simp only [stepSr]
    rw [hX, hsn, hnz, mayL_self, decide_eq_true (show ((d + k : Nat) : Int) < (l.length : Int) by omega), decide_eq_true (show (0 : Int) ≤ ((d + k : Nat) : Int) by omega), Nat.ble_eq_true_of_le (show (k + 1) * 4 ≤ 140737488355328 by omega), w64_mid (by omega) (by omega), show ((d + k : Nat) : Int) + 1 = ((d + (k + 1) : Nat) : Int) by omega]
    exact hf
theorem pow_pair {s : Nat} (h : s ≤ 16) : 2 ^ (16 - s) * 2 ^ s = 65536 := by rw [← Nat.pow_add, show 16 - s + s = 16 by omega]
theorem go_sr (R : Type) (n : Nat) (vs : List AV) (kk : Nat → List AV → Option R) (r : R) (h : leSr.go R n vs kk = some r) : ∃ m, loopN (stepSr R) m vs kk = some r := by
  simp only [leSr] at h
  split at h
  · rename_i m l b p d
    obtain ⟨hg, hk⟩ := chk_some h
    unfold goSr at hg
    rw [stk_eq] at hg
    simp only [Bool.and_eq_true, decide_eq_true_eq] at hg
    obtain ⟨⟨⟨⟨⟨g1, g2⟩, ⟨s, hs⟩⟩, g3⟩, g4⟩, g5⟩ := hg
    subst g1 hs
    obtain ⟨a, rfl⟩ : ∃ a : Nat, d = a := ⟨d.toNat, (Int.toNat_of_nonneg g3).symm⟩
    obtain ⟨f, hf⟩ := sr_loop R g2 g5 b (p := 2 ^ s.val) (q := 2 ^ (16 - s.val)) (pow_pair (by have := s.isLt; omega)) a kk (l.length - a) 0 (by omega)
    refine ⟨f, hf.trans ?_⟩
    unfold srN srD at hk
    rw [stk_eq, stk_eq, Int.toNat_natCast, Int.toNat_natCast] at hk
    exact hk
  · cases h
/-! ### Shr -/
def lostD (l : List Int) (i : Int) : Bool := stk (decide (valD l % 2 ^ i.toNat ≠ 0))
def mayR (n : Nat) (l : List Int) (i : Int) : Bool := stk (decide (n = l.length) && okD l && decide (n ≤ 200000) && decide (1 ≤ i) && decide (i ≤ 1000000))
def rsB (m : Nat) (l : List Int) (c : Bool) (p d : Int) : Option AV :=
  chk (goSr m l p d) (chk (mayT (srN m d) (srD l p d)) (some (.tup [.sl (.ints (dgl (valD (srD l p d))) .u32 (dg (valD (srD l p d)))), .bool c])))
def rsA (m : Nat) (l : List Int) (i d : Int) : Option AV :=
  chk (goLs m l d) (bif decide (d ≥ (m : Int)) then some (.tup [.nils, .bool (lsA l d)]) else chk (goPw i) (bif lsA l d then rsB m l true (pwI i) d else
    chk (decide (0 ≤ d) && decide (d < (m : Int)) && true) (chk (!(pwI i == 0)) (rsB m l ((l.getD d.toNat 0).tmod (pwI i) != 0) (pwI i) d))))
theorem run_dShr (m : Nat) (l : List Int) (i : Int) : callA (env Tryz.f100.ntmps orcAT [(0, leLs), (2, leRp), (4, leSr)]) (bodyC Tryz.f100) Tryz.f100.results.toList (slots 0 [.sl (.ints m .u32 l), .int .i64 i]) some =
    bif decide (i ≤ 0) then some (.tup [.sl (.ints m .u32 l), .bool false]) else rsA m l i (w64 (i.tdiv 16)) := by kernel_rfl
def sp_dShr : List AV → Option Br
  | [.sl (.ints n .u32 l), .int .i64 i] => some (.chk (mayR n l i) (.br (decide (i.tdiv 16 ≥ (n : Int))) (.leaf (.tup [.nils, .bool (lostD l i)])) (.leaf (.tup [.sl (.ints (dgl (valD l / 2 ^ i.toNat)) .u32 (dg (valD l / 2 ^ i.toNat))), .bool (lostD l i)]))))
  | _ => none
theorem pow_cut (a : Nat) : 65536 ^ (a / 16) * 2 ^ (a % 16) = 2 ^ a := by rw [pow16, ← Nat.pow_add, show 16 * (a / 16) + a % 16 = a by omega]
theorem dShr_at {l : List Int} (hl : okD l = true) (hn : l.length ≤ 200000) {a : Nat} (h1 : 1 ≤ a) (h2 : a ≤ 1000000) :
    rsA l.length l (a : Int) ((a / 16 : Nat) : Int) = bif decide (((a / 16 : Nat) : Int) ≥ (l.length : Int)) then some (.tup [.nils, .bool (decide (valD l % 2 ^ a ≠ 0))]) else some (.tup [.sl (.ints (dgl (valD l / 2 ^ a)) .u32 (dg (valD l / 2 ^ a))), .bool (decide (valD l % 2 ^ a ≠ 0))]) := by
  have q1 : goLs l.length l ((a / 16 : Nat) : Int) = true := by
    unfold goLs
    rw [stk_eq, hl, decide_eq_true rfl, decide_eq_true (show (0 : Int) ≤ ((a / 16 : Nat) : Int) by omega), decide_eq_true (show ((a / 16 : Nat) : Int) ≤ 1000000 by omega), decide_eq_true (show l.length ≤ 1000000 by omega)]
    rfl
  have q2 : lsA l ((a / 16 : Nat) : Int) = decide (valD l % 65536 ^ (a / 16) ≠ 0) := by unfold lsA; rw [stk_eq, Int.toNat_natCast]
  have q3 : goPw (a : Int) = true := by unfold goPw; rw [stk_eq, decide_eq_true (show (0 : Int) ≤ (a : Int) by omega), decide_eq_true (show (a : Int) ≤ 10000000 by omega)]; rfl
  have q4 : pwI (a : Int) = ((2 ^ (a % 16) : Nat) : Int) := by unfold pwI; rw [stk_eq, Int.toNat_natCast]
  have hm : valD l % 2 ^ a = valD l % 65536 ^ (a / 16) + 65536 ^ (a / 16) * (valD l / 65536 ^ (a / 16) % 2 ^ (a % 16)) := by rw [← pow_cut, Nat.mod_mul]
  have hP : 0 < 65536 ^ (a / 16) := Nat.pow_pos (by decide)
  unfold rsA
  rw [q1, q2, q3, q4]
  by_cases hge : ((a / 16 : Nat) : Int) ≥ (l.length : Int)
  · have hlt : valD l < 65536 ^ (a / 16) := Nat.lt_of_lt_of_le (val_lt l hl) (Nat.pow_le_pow_right (by decide) (by omega))
    rw [Nat.div_eq_of_lt hlt, Nat.zero_mod, Nat.mul_zero, Nat.add_zero] at hm
    rw [decide_eq_true hge, hm]
    rfl
  · rw [decide_eq_false hge]
    have hlen : a / 16 ≤ l.length := by omega
    have q5 : goSr l.length l ((2 ^ (a % 16) : Nat) : Int) ((a / 16 : Nat) : Int) = true := by
      unfold goSr
      rw [stk_eq, hl, decide_eq_true rfl, decide_eq_true (show ∃ s : Fin 16, ((2 ^ (a % 16) : Nat) : Int) = ((2 ^ s.val : Nat) : Int) from ⟨⟨a % 16, by omega⟩, rfl⟩), decide_eq_true (show (0 : Int) ≤ ((a / 16 : Nat) : Int) by omega), decide_eq_true (show ((a / 16 : Nat) : Int) ≤ (l.length : Int) by omega), decide_eq_true (show l.length ≤ 1000000 by omega)]
      rfl
    have q6 : srD l ((2 ^ (a % 16) : Nat) : Int) ((a / 16 : Nat) : Int) = digP (l.length - a / 16) (valD l / 2 ^ a) := by
      unfold srD
      rw [stk_eq, Int.toNat_natCast, Int.toNat_natCast, pow_cut]
    have q7 : srN l.length ((a / 16 : Nat) : Int) = l.length - a / 16 := by unfold srN; rw [stk_eq, Int.toNat_natCast]
    have q8 : mayT (l.length - a / 16) (digP (l.length - a / 16) (valD l / 2 ^ a)) = true := by
      unfold mayT
      rw [stk_eq, ok_digP, len_digP, decide_eq_true rfl, decide_eq_true (show l.length - a / 16 ≤ 300000 by omega)]
      rfl
    have q9 : valD (digP (l.length - a / 16) (valD l / 2 ^ a)) = valD l / 2 ^ a := by
      rw [val_digP]
      refine Nat.mod_eq_of_lt ?_
      have e1 : valD l / 2 ^ a ≤ valD l / 65536 ^ (a / 16) := by
        rw [← pow_cut, ← Nat.div_div_eq_div_mul]
        exact Nat.div_le_self _ _
      have e2 : valD l / 65536 ^ (a / 16) < 65536 ^ (l.length - a / 16) := by
        rw [Nat.div_lt_iff_lt_mul hP, ← Nat.pow_add, show l.length - a / 16 + a / 16 = l.length by omega]
        exact val_lt l hl
      omega
    have hB : ∀ c : Bool, rsB l.length l c ((2 ^ (a % 16) : Nat) : Int) ((a / 16 : Nat) : Int) = some (.tup [.sl (.ints (dgl (valD l / 2 ^ a)) .u32 (dg (valD l / 2 ^ a))), .bool c]) := by
      intro c
      unfold rsB
      rw [q5, q6, q7, q8, q9]
      rfl
    rw [hB, hB]
    by_cases hz : valD l % 65536 ^ (a / 16) = 0
    · have hg := get_val l (a / 16) hl
      have hp1 : 1 ≤ 2 ^ (a % 16) := Nat.one_le_two_pow
      have hnz : (!(((2 ^ (a % 16) : Nat) : Int) == 0)) = true := by
        have := eqN (2 ^ (a % 16)) 0
        rw [show ((0 : Nat) : Int) = 0 from rfl] at this
        rw [this, decide_eq_false (by omega)]
        rfl
      have hdv : valD l / 65536 ^ (a / 16) % 65536 % 2 ^ (a % 16) = valD l / 65536 ^ (a / 16) % 2 ^ (a % 16) :=
        Nat.mod_mod_of_dvd _ ⟨2 ^ (16 - a % 16), by rw [Nat.mul_comm]; exact (pow_pair (by omega)).symm⟩
      have hbn := bneN (valD l / 65536 ^ (a / 16) % 2 ^ (a % 16)) 0
      rw [show ((0 : Nat) : Int) = 0 from rfl] at hbn
      have hfin : (((valD l / 65536 ^ (a / 16) % 2 ^ (a % 16) : Nat) : Int) != 0) = decide (valD l % 2 ^ a ≠ 0) := by
        rw [hbn, hm, hz, Nat.zero_add, ← decide_not]
        exact decide_eq_decide.2 (not_congr (by rw [Nat.mul_eq_zero]; omega))
      rw [decide_eq_false (not_not_intro hz), hnz, Int.toNat_natCast, hg, tmodN, hdv, hfin, decide_eq_true (show (0 : Int) ≤ ((a / 16 : Nat) : Int) by omega), decide_eq_true (show ((a / 16 : Nat) : Int) < (l.length : Int) by omega)]
      rfl
    · have : decide (valD l % 2 ^ a ≠ 0) = true := decide_eq_true (by rw [hm]; omega)
      rw [decide_eq_true hz, this]
      rfl
theorem ok_dShr : EntOk Tryz.prog 100 (entB true sp_dShr) := by
  refine contractB (orc := orcAT) (lo := [(0, leLs), (2, leRp), (4, leSr)]) Tryz.func100 orcAT_ok (by kernel_rfl) (by kernel_rfl) (by kernel_rfl)
    (loops_three (i0 := 0) (i1 := 2) (i2 := 4) (y0 := .loop (loopOf 0 (bodyC Tryz.f100))) (y1 := .loop (loopOf 2 (bodyC Tryz.f100))) (y2 := .loop (loopOf 4 (bodyC Tryz.f100))) (by kernel_rfl)
      (loopS (le := leLs) (orc := orcAT) (lo' := []) orcAT_ok (by kernel_rfl) rfl (loops_none (by kernel_rfl)) stepLs (fun R vs k1 k2 r h => ?_) go_ls)
      (loopS (le := leRp) (orc := orcAT) (lo' := []) orcAT_ok (by kernel_rfl) rfl (loops_none (by kernel_rfl)) stepRp (fun R vs k1 k2 r h => ?_) go_rp)
      (loopS (le := leSr) (orc := orcAT) (lo' := []) orcAT_ok (by kernel_rfl) rfl (loops_none (by kernel_rfl)) stepSr (fun R vs k1 k2 r h => ?_) go_sr)) fun args t h => ?_
  · have h0 := h
    unfold stepLs at h
    split at h
    · exact (step_ls R _ _ _ _ _ _ k1 k2).trans h0
    · cases h
  · have h0 := h
    unfold stepRp at h
    split at h
    · exact (step_rp R _ _ _ _ _ _ _ k1 k2).trans h0
    · cases h
  · have h0 := h
    unfold stepSr at h
    split at h
    · exact (step_sr R _ _ _ _ _ _ _ k1 k2).trans h0
    · cases h
  · unfold sp_dShr at h
    split at h
    · rename_i n l i
      simp only [Option.some.injEq] at h
      subst h
      refine ⟨by kernel_rfl, .inl rfl, fun r hr => (run_dShr n l i).trans ?_⟩
      simp only [Br.run] at hr
      obtain ⟨hg, hr⟩ := chk_some hr
      unfold mayR at hg
      rw [stk_eq] at hg
      simp only [Bool.and_eq_true, decide_eq_true_eq] at hg
      obtain ⟨⟨⟨⟨g1, g2⟩, g3⟩, g4⟩, g5⟩ := hg
      subst g1
      obtain ⟨a, rfl⟩ : ∃ a : Nat, i = a := ⟨i.toNat, (Int.toNat_of_nonneg (by omega)).symm⟩
      have e := tdivN a 16
      rw [show ((16 : Nat) : Int) = 16 from rfl] at e
      unfold lostD at hr
      rw [e, stk_eq, Int.toNat_natCast] at hr
      rw [decide_eq_false (show ¬ (a : Int) ≤ 0 by omega), cond_false, e, w64_mid (by omega) (by omega), dShr_at g2 g3 (by omega) (by omega)]
      exact hr
    · cases h
def sp_shr : List AV → Option (Bool × AV)
  | [.sl (.ints n .u32 l), .int .i64 i] => some (mayR n l i, .tup [.sl (.ints (dgl (valD l / 2 ^ i.toNat)) .u32 (dg (valD l / 2 ^ i.toNat))), .bool (lostD l i)])
  | _ => none
theorem ok_shr : EntOk Tryz.prog 100 (entS true sp_shr) := by
  refine ent_wk ok_dShr (entS_law _ _) rfl fun _ args r' h9 => ?_
  have h := entS_some h9
  clear h9
  unfold sp_shr at h
  split at h
  · rename_i n l i
    simp only [Option.some.injEq, Prod.mk.injEq] at h
    obtain ⟨hg, rfl⟩ := h
    have hg' := hg
    unfold mayR at hg'
    rw [stk_eq] at hg'
    simp only [Bool.and_eq_true, decide_eq_true_eq] at hg'
    obtain ⟨⟨⟨⟨g1, g2⟩, g3⟩, g4⟩, g5⟩ := hg'
    subst g1
    obtain ⟨a, rfl⟩ : ∃ a : Nat, i = a := ⟨i.toNat, (Int.toNat_of_nonneg (by omega)).symm⟩
    simp only [entB, sp_dShr, Br.run]
    rw [hg]
    by_cases h0 : (a : Int).tdiv 16 ≥ (l.length : Int)
    · have e := tdivN a 16
      rw [show ((16 : Nat) : Int) = 16 from rfl] at e
      rw [e] at h0
      have hlt : valD l < 65536 ^ (a / 16) := Nat.lt_of_lt_of_le (val_lt l g2) (Nat.pow_le_pow_right (by decide) (by omega))
      have hz : valD l / 2 ^ a = 0 := by rw [← pow_cut, ← Nat.div_div_eq_div_mul, Nat.div_eq_of_lt hlt, Nat.zero_div]
      rw [e, decide_eq_true h0]
      refine ⟨_, rfl, .inr ⟨.nils, _, _, .inr ⟨rfl, .u32, ?_⟩, rfl, rfl⟩⟩
      rw [Int.toNat_natCast, hz]
      unfold dgl dg
      rw [stk_eq, stk_eq]
      rfl
    · rw [decide_eq_false h0]
      exact ⟨_, rfl, .inl (.inl rfl)⟩
  · cases h
end
end Go.Proofs.YtbakldcbaikgpaaGreatDoor
