/- wide.Mul: math/bits.Mul64, a row, all rows. Own work. -/
import Derived.Test.YtbakldcbaikgpaaGreatDoorRnd3
namespace Go.Proofs.YtbakldcbaikgpaaGreatDoor
set_option maxRecDepth 100000
noncomputable section

def mulHi (x y : Int) : Int := x * y / 18446744073709551616
def mulLo (x y : Int) : Int := x * y % 18446744073709551616
def sp_mul64 : List AV → Option (Bool × AV)
  | [.int .u64 x, .int .u64 y] => some (inU x && inU y, .tup [.int .u64 (mulHi x y), .int .u64 (mulLo x y)])
  | _ => none
theorem run_mul64 (x y : Int) : callA (env Tryz.f143.ntmps [] []) (bodyC Tryz.f143) Tryz.f143.results.toList (slots 0 [.int .u64 x, .int .u64 y]) some =
    some (.tup [.int .u64 (u64 ((u64 ((u64 ((shrI .u64 x 32) * (shrI .u64 y 32))) + (shrI .u64 (u64 ((u64 ((shrI .u64 x 32) * (andI .u64 y 4294967295))) + (shrI .u64 (u64 ((andI .u64 x 4294967295) * (andI .u64 y 4294967295))) 32))) 32))) + (shrI .u64 (u64 ((andI .u64 (u64 ((u64 ((shrI .u64 x 32) * (andI .u64 y 4294967295))) + (shrI .u64 (u64 ((andI .u64 x 4294967295) * (andI .u64 y 4294967295))) 32))) 4294967295) + (u64 ((andI .u64 x 4294967295) * (shrI .u64 y 32))))) 32))), .int .u64 (u64 (x * y))]) := by kernel_rfl

theorem andI_low (m : Nat) (h : m < 18446744073709551616) : andI .u64 (m : Int) 4294967295 = ((m % 4294967296 : Nat) : Int) := by
  unfold andI
  rw [IntKind.wrap_u64]
  have h1 : (BitVec.ofInt IntKind.u64.bits (m : Int) &&& BitVec.ofInt IntKind.u64.bits 4294967295).toNat = m % 4294967296 := by
    rw [BitVec.toNat_and]
    simp only [IntKind.bits, BitVec.toNat_ofInt]
    have e1 : ((m : Int) % ((2 ^ 64 : Nat) : Int)).toNat = m := by omega
    have e2 : ((4294967295 : Int) % ((2 ^ 64 : Nat) : Int)).toNat = 2 ^ 32 - 1 := by decide
    rw [e1, e2, Nat.and_two_pow_sub_one_eq_mod]
  rw [h1]
  omega
theorem u64_of {x : Int} {n : Nat} (e : x = (n : Int)) (h : n < 18446744073709551616) : u64 x = (n : Int) := by
  unfold u64; rw [IntKind.wrap_u64, e]; omega
theorem half_mul {a b c d : Nat} (ha : a < 4294967296) (hb : b < 4294967296) (hc : c < 4294967296) (hd : d < 4294967296) :
    a * b + d + c ≤ 18446744073709551615 ∧ a * b ≤ 18446744065119617025 := by
  have : a * b ≤ 4294967295 * 4294967295 := Nat.mul_le_mul (by omega) (by omega)
  omega
/-- A product by halves. -/
theorem mul_halves (x0 x1 y0 y1 : Nat) (h0 : x0 < 4294967296) (h1 : x1 < 4294967296) (g0 : y0 < 4294967296) (g1 : y1 < 4294967296) :
    x1 * y1 + (x1 * y0 + x0 * y0 / 4294967296) / 4294967296 + ((x1 * y0 + x0 * y0 / 4294967296) % 4294967296 + x0 * y1) / 4294967296 = (x0 + 4294967296 * x1) * (y0 + 4294967296 * y1) / 18446744073709551616 := by
  have e : (x0 + 4294967296 * x1) * (y0 + 4294967296 * y1) = x0 * y0 + 4294967296 * (x1 * y0) + 4294967296 * (x0 * y1) + 18446744073709551616 * (x1 * y1) := by
    rw [Nat.add_mul, Nat.mul_add, Nat.mul_add]
    have : 4294967296 * x1 * y0 = 4294967296 * (x1 * y0) := Nat.mul_assoc _ _ _
    have h2 : x0 * (4294967296 * y1) = 4294967296 * (x0 * y1) := Nat.mul_left_comm _ _ _
    have h3 : 4294967296 * x1 * (4294967296 * y1) = 18446744073709551616 * (x1 * y1) := by
      rw [Nat.mul_assoc, Nat.mul_left_comm x1, ← Nat.mul_assoc]
    rw [this, h2, h3]; omega
  rw [e]
  generalize x0 * y0 = a
  generalize x1 * y0 = b
  generalize x0 * y1 = c
  generalize x1 * y1 = d
  omega

theorem ok_mul64 : EntOk Tryz.prog 143 (entS false sp_mul64) := by
  refine contractS (orc := []) (lo := []) Tryz.func143 orc_nil (by kernel_rfl) (by kernel_rfl) (by kernel_rfl) (loops_none (by kernel_rfl)) fun args r h => ?_
  unfold sp_mul64 at h
  split at h
  · rename_i x y
    simp only [Option.some.injEq, Prod.mk.injEq, Bool.and_eq_true] at h
    obtain ⟨⟨hx, hy⟩, rfl⟩ := h
    obtain ⟨m, rfl, hm⟩ := nat_of hx
    obtain ⟨n, rfl, hn⟩ := nat_of hy
    refine ⟨by kernel_rfl, .inr rfl, (run_mul64 m n).trans ?_⟩
    have s1 : shrI .u64 (m : Int) 32 = ((m / 4294967296 : Nat) : Int) := shrI_nat m 32 (by decide)
    have s2 : shrI .u64 (n : Int) 32 = ((n / 4294967296 : Nat) : Int) := shrI_nat n 32 (by decide)
    rw [s1, s2, andI_low m hm, andI_low n hn]
    obtain ⟨x0, ex0⟩ : ∃ x0, m % 4294967296 = x0 := ⟨_, rfl⟩
    obtain ⟨x1, ex1⟩ : ∃ x1, m / 4294967296 = x1 := ⟨_, rfl⟩
    obtain ⟨y0, ey0⟩ : ∃ y0, n % 4294967296 = y0 := ⟨_, rfl⟩
    obtain ⟨y1, ey1⟩ : ∃ y1, n / 4294967296 = y1 := ⟨_, rfl⟩
    have hmx : m = x0 + 4294967296 * x1 := by omega
    have hny : n = y0 + 4294967296 * y1 := by omega
    have h0 : x0 < 4294967296 := by omega
    have h1 : x1 < 4294967296 := by omega
    have g0 : y0 < 4294967296 := by omega
    have g1 : y1 < 4294967296 := by omega
    have key := mul_halves x0 x1 y0 y1 h0 h1 g0 g1
    rw [← hmx, ← hny] at key
    rw [ex0, ex1, ey0, ey1]
    have b1 := (half_mul h1 g1 h0 h0).2
    have b2 := (half_mul h1 g0 h0 h0).2
    have b3 := (half_mul h0 g0 h0 h0).2
    have b4 := (half_mul h0 g1 h0 h0).2
    have hlo : u64 ((m : Int) * (n : Int)) = mulLo m n := by unfold u64 mulLo; rw [IntKind.wrap_u64]
    have hle : m * n / 18446744073709551616 < 18446744073709551616 := by
      rw [Nat.div_lt_iff_lt_mul (by decide)]
      exact Nat.lt_of_lt_of_le (Nat.mul_lt_mul_of_lt_of_le hm (Nat.le_of_lt hn) (by decide)) (Nat.le_refl _)
    generalize hA : x1 * y1 = A at *
    generalize hB : x1 * y0 = B at *
    generalize hC : x0 * y0 = C at *
    generalize hD : x0 * y1 = D at *
    have p1 : u64 ((x1 : Int) * (y1 : Int)) = (A : Int) := u64_of (by rw [← hA]; norm_cast) (by omega)
    have p2 : u64 ((x1 : Int) * (y0 : Int)) = (B : Int) := u64_of (by rw [← hB]; norm_cast) (by omega)
    have p3 : u64 ((x0 : Int) * (y0 : Int)) = (C : Int) := u64_of (by rw [← hC]; norm_cast) (by omega)
    have p4 : u64 ((x0 : Int) * (y1 : Int)) = (D : Int) := u64_of (by rw [← hD]; norm_cast) (by omega)
    have s3 : shrI .u64 (C : Int) 32 = ((C / 4294967296 : Nat) : Int) := shrI_nat C 32 (by decide)
    rw [p1, p2, p3, p4, s3, hlo]
    have q1 : u64 ((B : Int) + ((C / 4294967296 : Nat) : Int)) = ((B + C / 4294967296 : Nat) : Int) := u64_of (by omega) (by omega)
    rw [q1]
    generalize hT : B + C / 4294967296 = T at *
    have s4 : shrI .u64 (T : Int) 32 = ((T / 4294967296 : Nat) : Int) := shrI_nat T 32 (by decide)
    rw [s4, andI_low T (by omega)]
    have q2 : u64 (((T % 4294967296 : Nat) : Int) + (D : Int)) = ((T % 4294967296 + D : Nat) : Int) := u64_of (by omega) (by omega)
    rw [q2]
    have s5 : shrI .u64 ((T % 4294967296 + D : Nat) : Int) 32 = (((T % 4294967296 + D) / 4294967296 : Nat) : Int) := shrI_nat _ 32 (by decide)
    have q3 : u64 ((A : Int) + ((T / 4294967296 : Nat) : Int)) = ((A + T / 4294967296 : Nat) : Int) := u64_of (by omega) (by omega)
    rw [s5, q3]
    have q4 : u64 (((A + T / 4294967296 : Nat) : Int) + (((T % 4294967296 + D) / 4294967296 : Nat) : Int)) = ((m * n / 18446744073709551616 : Nat) : Int) := u64_of (by omega) hle
    have hhi : mulHi m n = ((m * n / 18446744073709551616 : Nat) : Int) := by unfold mulHi; rw [← Int.natCast_mul]; omega
    rw [q4, hhi]
  · cases h

/-! ### A row -/
/-- Digits of 64 bits. -/
def valL : List Int → Nat
  | [] => 0
  | d :: l => d.toNat + 18446744073709551616 * valL l
def okU (l : List Int) : Prop := ∀ d ∈ l, 0 ≤ d ∧ d < 18446744073709551616
theorem valL_set : ∀ (l : List Int) (i : Nat) (d : Int), i < l.length → valL (l.set i d) + (l.getD i 0).toNat * 18446744073709551616 ^ i = valL l + d.toNat * 18446744073709551616 ^ i
  | [], i, d, h => by simp at h
  | c :: l, 0, d, _ => by
    rw [List.set_cons_zero, valL, List.getD_cons_zero, Nat.pow_zero, Nat.mul_one, Nat.mul_one, valL]
    omega
  | c :: l, i + 1, d, h => by
    have := valL_set l i d (by simpa using h)
    simp only [List.set_cons_succ, valL, List.getD_cons_succ, Nat.pow_succ]
    generalize (l.getD i 0).toNat = a at *
    generalize d.toNat = b at *
    generalize 18446744073709551616 ^ i = p at *
    have e1 : a * (p * 18446744073709551616) = 18446744073709551616 * (a * p) := by rw [← Nat.mul_assoc, Nat.mul_comm]
    have e2 : b * (p * 18446744073709551616) = 18446744073709551616 * (b * p) := by rw [← Nat.mul_assoc, Nat.mul_comm]
    rw [e1, e2]
    omega
theorem okU_set {l : List Int} {i : Nat} {d : Int} (h : okU l) (hd : 0 ≤ d ∧ d < 18446744073709551616) : okU (l.set i d) := by
  intro x hx
  rcases List.mem_or_eq_of_mem_set hx with h1 | h1
  · exact h x h1
  · rw [h1]; exact hd
theorem okU_get {l : List Int} (h : okU l) (i : Nat) : 0 ≤ l.getD i 0 ∧ l.getD i 0 < 18446744073709551616 := by
  rw [List.getD_eq_getElem?_getD]
  cases hi : l[i]? with
  | none => exact ⟨by decide, by decide⟩
  | some d => exact h d (List.mem_of_getElem? hi)

/-- What a product, a carry and a digit make. -/
def rowT (x : Int) (b : List Int) (i k : Nat) (s : List Int × Int) : Int := x * b.getD k 0 + s.2 + s.1.getD (i + k) 0
def rowM (x : Int) (b : List Int) (i : Nat) : Nat → List Int × Int → List Int × Int
  | 0, s => s
  | k + 1, s => ((rowM x b i k s).1.set (i + k) (rowT x b i k (rowM x b i k s) % 18446744073709551616), rowT x b i k (rowM x b i k s) / 18446744073709551616)

theorem rowT_le {x y c o : Int} (hx : 0 ≤ x ∧ x < 18446744073709551616) (hy : 0 ≤ y ∧ y < 18446744073709551616) (hc : 0 ≤ c ∧ c < 18446744073709551616) (ho : 0 ≤ o ∧ o < 18446744073709551616) :
    0 ≤ x * y ∧ x * y + c + o ≤ 340282366920938463463374607431768211455 := by
  have h1 : x * y ≤ 18446744073709551615 * 18446744073709551615 := Int.mul_le_mul (by omega) (by omega) hy.1 (by decide)
  have h0 : 0 ≤ x * y := Int.mul_nonneg hx.1 hy.1
  omega

/-- One step, as the program does it. -/
theorem row_step {x y c o : Int} (hx : 0 ≤ x ∧ x < 18446744073709551616) (hy : 0 ≤ y ∧ y < 18446744073709551616) (hc : 0 ≤ c ∧ c < 18446744073709551616) (ho : 0 ≤ o ∧ o < 18446744073709551616) :
    okC (mulLo x y) c 0 = true ∧ okC o (addLo (mulLo x y) c 0) 0 = true ∧ addLo o (addLo (mulLo x y) c 0) 0 = (x * y + c + o) % 18446744073709551616 ∧
      u64 (u64 (mulHi x y + addHi (mulLo x y) c 0) + addHi o (addLo (mulLo x y) c 0) 0) = (x * y + c + o) / 18446744073709551616 := by
  obtain ⟨h0, h1⟩ := rowT_le hx hy hc ho
  unfold mulLo mulHi addLo addHi okC u64
  rw [IntKind.wrap_u64, IntKind.wrap_u64]
  simp only [Bool.and_eq_true, inU_iff, decide_eq_true_eq]
  generalize x * y = p at *
  refine ⟨⟨⟨⟨by omega, by omega⟩, by omega⟩, by omega⟩, ⟨⟨⟨by omega, by omega⟩, by omega⟩, by omega⟩, by omega, by omega⟩

theorem rowM_ok {x : Int} {b : List Int} {i : Nat} (hx : 0 ≤ x ∧ x < 18446744073709551616) (hb : okU b) : ∀ (k : Nat) (s : List Int × Int), okU s.1 → 0 ≤ s.2 ∧ s.2 < 18446744073709551616 →
    okU (rowM x b i k s).1 ∧ (0 ≤ (rowM x b i k s).2 ∧ (rowM x b i k s).2 < 18446744073709551616) ∧ (rowM x b i k s).1.length = s.1.length
  | 0, s, h1, h2 => ⟨h1, h2, rfl⟩
  | k + 1, s, h1, h2 => by
    obtain ⟨g1, g2, g3⟩ := rowM_ok (i := i) hx hb k s h1 h2
    obtain ⟨t0, t1⟩ := rowT_le hx (okU_get hb k) g2 (okU_get g1 (i + k))
    have o1 := okU_get g1 (i + k)
    have ht : 0 ≤ rowT x b i k (rowM x b i k s) ∧ rowT x b i k (rowM x b i k s) ≤ 340282366920938463463374607431768211455 := by
      unfold rowT; omega
    refine ⟨okU_set g1 (by omega), by simp only [rowM]; omega, by simp only [rowM, List.length_set]; exact g3⟩

theorem valL_take : ∀ (b : List Int) (k : Nat), k < b.length → valL (b.take (k + 1)) = valL (b.take k) + (b.getD k 0).toNat * 18446744073709551616 ^ k
  | [], k, h => by simp at h
  | c :: b, 0, _ => by
    show c.toNat + 18446744073709551616 * 0 = 0 + c.toNat * 18446744073709551616 ^ 0
    rw [Nat.pow_zero]; omega
  | c :: b, k + 1, h => by
    have := valL_take b k (by simpa using h)
    simp only [List.take_succ_cons, valL, List.getD_cons_succ, Nat.pow_succ]
    rw [this]
    generalize (b.getD k 0).toNat = a
    generalize 18446744073709551616 ^ k = p
    have e1 : a * (p * 18446744073709551616) = 18446744073709551616 * (a * p) := by rw [← Nat.mul_assoc, Nat.mul_comm]
    rw [e1, Nat.mul_add]
    omega

/-- What a row adds. -/
theorem rowM_val {x : Int} {b : List Int} {i : Nat} (hx : 0 ≤ x ∧ x < 18446744073709551616) (hb : okU b) : ∀ (k : Nat) (s : List Int × Int), okU s.1 → 0 ≤ s.2 ∧ s.2 < 18446744073709551616 → i + k ≤ s.1.length → k ≤ b.length →
    valL (rowM x b i k s).1 + (rowM x b i k s).2.toNat * 18446744073709551616 ^ (i + k) = valL s.1 + s.2.toNat * 18446744073709551616 ^ i + x.toNat * valL (b.take k) * 18446744073709551616 ^ i
  | 0, s, h1, h2, h3, h4 => by
    simp only [rowM, Nat.add_zero, List.take_zero, valL, Nat.mul_zero, Nat.zero_mul]
  | k + 1, s, h1, h2, h3, h4 => by
    have ih := rowM_val (i := i) hx hb k s h1 h2 (by omega) (by omega)
    obtain ⟨g1, g2, g3⟩ := rowM_ok (i := i) hx hb k s h1 h2
    have hs := valL_set (rowM x b i k s).1 (i + k) (rowT x b i k (rowM x b i k s) % 18446744073709551616) (by omega)
    have y1 := okU_get hb k
    have o1 := okU_get g1 (i + k)
    obtain ⟨t0, t1⟩ := rowT_le hx y1 g2 o1
    have htake : valL (b.take (k + 1)) = valL (b.take k) + (b.getD k 0).toNat * 18446744073709551616 ^ k := valL_take b k (by omega)
    show valL ((rowM x b i k s).1.set (i + k) _) + (rowT x b i k (rowM x b i k s) / 18446744073709551616).toNat * 18446744073709551616 ^ (i + (k + 1)) = _
    rw [htake, Nat.mul_add, Nat.add_mul, ← Nat.mul_assoc]
    have hT : (rowT x b i k (rowM x b i k s) % 18446744073709551616).toNat + 18446744073709551616 * (rowT x b i k (rowM x b i k s) / 18446744073709551616).toNat = x.toNat * (b.getD k 0).toNat + (rowM x b i k s).2.toNat + ((rowM x b i k s).1.getD (i + k) 0).toNat := by
      have hxy : x * b.getD k 0 = ((x.toNat * (b.getD k 0).toNat : Nat) : Int) := by
        rw [Int.natCast_mul, Int.toNat_of_nonneg hx.1, Int.toNat_of_nonneg y1.1]
      unfold rowT
      rw [hxy]
      omega
    generalize (rowT x b i k (rowM x b i k s) % 18446744073709551616) = lo at *
    generalize (rowT x b i k (rowM x b i k s) / 18446744073709551616) = hi at *
    generalize valL ((rowM x b i k s).1.set (i + k) lo) = V' at *
    generalize valL (rowM x b i k s).1 = V at *
    generalize ((rowM x b i k s).1.getD (i + k) 0).toNat = o at *
    generalize (rowM x b i k s).2.toNat = c at *
    generalize (b.getD k 0).toNat = y at *
    generalize x.toNat = X at *
    have ep : 18446744073709551616 ^ (i + (k + 1)) = 18446744073709551616 ^ (i + k) * 18446744073709551616 := by rw [← Nat.add_assoc, Nat.pow_succ]
    have ep2 : X * y * 18446744073709551616 ^ k * 18446744073709551616 ^ i = X * y * 18446744073709551616 ^ (i + k) := by
      rw [Nat.mul_assoc, ← Nat.pow_add, Nat.add_comm k i]
    rw [ep, ep2]
    generalize 18446744073709551616 ^ (i + k) = p at *
    have e1 : hi.toNat * (p * 18446744073709551616) = 18446744073709551616 * hi.toNat * p := by
      rw [← Nat.mul_assoc, Nat.mul_comm (hi.toNat * p), ← Nat.mul_assoc]
    have e2 := congrArg (· * p) hT
    simp only [Nat.add_mul] at e2
    rw [e1]
    omega

/-! ### The inner loop -/
def hMIn : Hint := { fuel := none, keep := [7, 8, 9, 15, 16, 20, 21], refs := [(3, 3, 118, .dead), (4, 4, 118, .dead), (5, 5, 118, .dead), (6, 6, 200, .dead)] }
def hMInO : Hint := { fuel := none, keep := [7, 9, 15, 16], refs := [(3, 3, 118, .dead), (4, 4, 118, .dead), (5, 5, 118, .dead), (6, 6, 200, .dead)] }
def okM (x : Int) (b : List Int) (i : Int) (out : List Int) : Bool := stk (decide (0 ≤ x ∧ x < 18446744073709551616) && okW b && (out.all fun d => decide (0 ≤ d) && decide (d < 18446744073709551616)) && decide (out.length = 8) && decide (0 ≤ i) && decide (i ≤ 3))
def rowO (x : Int) (b : List Int) (i : Int) (out : List Int) : List Int := stk (rowM x b i.toNat 4 (out, 0)).1
def rowC (x : Int) (b : List Int) (i : Int) (out : List Int) : Int := stk (rowM x b i.toNat 4 (out, 0)).2
theorem okM_iff {x : Int} {b : List Int} {i : Int} {out : List Int} : okM x b i out = true ↔ ((((((0 ≤ x ∧ x < 18446744073709551616) ∧ okW b = true) ∧ okU out) ∧ out.length = 8) ∧ 0 ≤ i) ∧ i ≤ 3) := by
  unfold okM okU
  rw [stk_eq]
  simp only [Bool.and_eq_true, decide_eq_true_eq, List.all_eq_true]
noncomputable def stepMIn (R : Type) (vs : List AV) (k1 : List AV → Option R) (k2 : Nat → List AV → Option R) : Option R :=
  match vs with
  | [.ints 4 .u64 r3, .ints 4 .u64 r4, .ints 4 .u64 r5, .ints 8 .u64 out, .int .i64 i, .int .u64 x, .int .u64 c, .ints 4 .u64 a, .int .i64 i2, .ints 4 .u64 b, .int .i64 k] =>
    bif decide (k < 4) then chk (decide (0 ≤ k) && decide (k < 4)) (chk (inU x && inU (b.getD k.toNat 0)) (chk (okC (mulLo x (b.getD k.toNat 0)) c 0) (chk (decide (0 ≤ (w64 (i + k))) && decide ((w64 (i + k)) < 8)) (chk (okC (out.getD ((w64 (i + k)).toNat) 0) (addLo (mulLo x (b.getD k.toNat 0)) c 0) 0) (chk (decide (0 ≤ (w64 (i + k))) && decide ((w64 (i + k)) < 8))
      (k1 [.ints 4 .u64 r3, .ints 4 .u64 r4, .ints 4 .u64 r5, .ints 8 .u64 (out.set ((w64 (i + k)).toNat) (addLo (out.getD ((w64 (i + k)).toNat) 0) (addLo (mulLo x (b.getD k.toNat 0)) c 0) 0)), .int .i64 i, .int .u64 x, .int .u64 (u64 ((u64 ((mulHi x (b.getD k.toNat 0)) + (addHi (mulLo x (b.getD k.toNat 0)) c 0))) + (addHi (out.getD ((w64 (i + k)).toNat) 0) (addLo (mulLo x (b.getD k.toNat 0)) c 0) 0))), .ints 4 .u64 a, .int .i64 i2, .ints 4 .u64 b, .int .i64 (w64 (k + 1))]))))))
    else k2 0 [.ints 4 .u64 r3, .ints 4 .u64 r4, .ints 4 .u64 r5, .ints 8 .u64 out, .int .i64 i, .int .u64 c, .ints 4 .u64 a, .int .i64 i2]
  | _ => none
noncomputable def leMIn : LEnt :=
  { inn := hMIn
    out := hMInO
    ret := hMInO
    go := fun _ _ vs kk => match vs with
      | [.ints 4 .u64 r3, .ints 4 .u64 r4, .ints 4 .u64 r5, .ints 8 .u64 out, .int .i64 i, .int .u64 x, .int .u64 0, .ints 4 .u64 a, .int .i64 i2, .ints 4 .u64 b, .int .i64 0] =>
        chk (okM x b i out) (kk 0 [.ints 4 .u64 r3, .ints 4 .u64 r4, .ints 4 .u64 r5, .ints 8 .u64 (rowO x b i out), .int .i64 i, .int .u64 (rowC x b i out), .ints 4 .u64 a, .int .i64 i2])
      | _ => none }
def orcMul : List (FuncId × Ent) := [(143, entS false sp_mul64), (144, entS false sp_add64)]
noncomputable def inMul : Code := loopOf 2 (loopOf 0 (bodyC Tryz.f113))
theorem step_mIn (R : Type) (r3 r4 r5 out a b : List Int) (i x c i2 k : Int) (k1 : List AV → Option R) (k2 : Nat → List AV → Option R) :
    runA (env Tryz.f113.ntmps orcMul []) inMul 2 (stateOf leMIn.inn [.ints 4 .u64 r3, .ints 4 .u64 r4, .ints 4 .u64 r5, .ints 8 .u64 out, .int .i64 i, .int .u64 x, .int .u64 c, .ints 4 .u64 a, .int .i64 i2, .ints 4 .u64 b, .int .i64 k]) (bodyK leMIn 2 k1 k2) =
    stepMIn R [.ints 4 .u64 r3, .ints 4 .u64 r4, .ints 4 .u64 r5, .ints 8 .u64 out, .int .i64 i, .int .u64 x, .int .u64 c, .ints 4 .u64 a, .int .i64 i2, .ints 4 .u64 b, .int .i64 k] k1 k2 := by kernel_rfl

theorem okW_okU {b : List Int} (h : okW b = true) : okU b := by
  obtain ⟨a, b', c, d, rfl, h1, h2, h3, h4⟩ := okW_split h
  intro x hx
  simp only [List.mem_cons, List.not_mem_nil, or_false] at hx
  rcases hx with rfl | rfl | rfl | rfl <;> assumption

theorem mIn_round (R : Type) {r3 r4 r5 a b : List Int} {i2 x : Int} {s : List Int × Int} {i k : Nat} (hx : 0 ≤ x ∧ x < 18446744073709551616) (hb : okU b) (hs : okU s.1) (hc : 0 ≤ s.2 ∧ s.2 < 18446744073709551616) (hi : i ≤ 3) (hk : k < 4) (f : Nat) (kk : Nat → List AV → Option R) :
    loopN (stepMIn R) (f + 1) [.ints 4 .u64 r3, .ints 4 .u64 r4, .ints 4 .u64 r5, .ints 8 .u64 (rowM x b i k s).1, .int .i64 i, .int .u64 x, .int .u64 (rowM x b i k s).2, .ints 4 .u64 a, .int .i64 i2, .ints 4 .u64 b, .int .i64 k] kk =
    loopN (stepMIn R) f [.ints 4 .u64 r3, .ints 4 .u64 r4, .ints 4 .u64 r5, .ints 8 .u64 (rowM x b i (k + 1) s).1, .int .i64 i, .int .u64 x, .int .u64 (rowM x b i (k + 1) s).2, .ints 4 .u64 a, .int .i64 i2, .ints 4 .u64 b, .int .i64 ((k + 1 : Nat) : Int)] kk := by
  obtain ⟨g1, g2, g3⟩ := rowM_ok (i := i) hx hb k s hs hc
  have y1 := okU_get hb k
  have o1 := okU_get g1 (i + k)
  obtain ⟨q1, q2, q3, q4⟩ := row_step hx y1 g2 o1
  have hw : w64 ((i : Int) + (k : Int)) = ((i + k : Nat) : Int) := by rw [w64_small (by omega) (by omega)]; omega
  have hw1 : w64 ((k : Int) + 1) = ((k + 1 : Nat) : Int) := by rw [w64_small (by omega) (by omega)]; omega
  rw [loopN]
  simp only [stepMIn, hw, hw1, Int.toNat_natCast]
  rw [decide_eq_true (show (k : Int) < 4 by omega), decide_eq_true (show (0 : Int) ≤ (k : Int) by omega), decide_eq_true (show (0 : Int) ≤ ((i + k : Nat) : Int) by omega), decide_eq_true (show ((i + k : Nat) : Int) < 8 by omega), inU_iff.2 hx, inU_iff.2 y1, q1, q2, q3, q4]
  rfl
theorem go_mIn (R : Type) (n : Nat) (vs : List AV) (kk : Nat → List AV → Option R) (r : R) (h : leMIn.go R n vs kk = some r) : ∃ m, loopN (stepMIn R) m vs kk = some r := by
  simp only [leMIn] at h
  split at h
  · rename_i r3 r4 r5 out i x a i2 b
    obtain ⟨hg, hk⟩ := chk_some h
    clear h
    obtain ⟨⟨⟨⟨⟨hx, hb⟩, ho⟩, hl⟩, i0⟩, i3⟩ := okM_iff.1 hg
    obtain ⟨j, rfl⟩ : ∃ j : Nat, i = j := ⟨i.toNat, (Int.toNat_of_nonneg i0).symm⟩
    unfold rowO rowC at hk
    rw [stk_eq, stk_eq, Int.toNat_natCast] at hk
    have hb := okW_okU hb
    have c0 : (0 : Int) ≤ ((out, (0 : Int)) : List Int × Int).2 ∧ ((out, (0 : Int)) : List Int × Int).2 < 18446744073709551616 := ⟨Int.le_refl 0, by show (0 : Int) < _; decide⟩
    have rd := fun (k f : Nat) (hk : k < 4) => mIn_round R (r3 := r3) (r4 := r4) (r5 := r5) (a := a) (i2 := i2) (s := (out, 0)) (i := j) (k := k) hx hb ho c0 (by omega) hk f kk
    refine ⟨5, ?_⟩
    refine (rd 0 4 (by decide)).trans ((rd 1 3 (by decide)).trans ((rd 2 2 (by decide)).trans ((rd 3 1 (by decide)).trans ?_)))
    exact hk
  · cases h

/-! ### All rows -/
theorem rowM_get {x : Int} {b : List Int} {i : Nat} (s : List Int × Int) (j : Nat) : ∀ k, i + k ≤ j → (rowM x b i k s).1.getD j 0 = s.1.getD j 0
  | 0, _ => rfl
  | k + 1, h => by
    rw [← rowM_get (x := x) (b := b) (i := i) s j k (by omega)]
    simp only [rowM, List.getD_eq_getElem?_getD, List.getElem?_set]
    rw [if_neg (by omega)]
def outM (a b : List Int) : Nat → List Int
  | 0 => [0, 0, 0, 0, 0, 0, 0, 0]
  | i + 1 => (rowM (a.getD i 0) b i 4 (outM a b i, 0)).1.set (i + 4) (rowM (a.getD i 0) b i 4 (outM a b i, 0)).2
theorem outM_ok {a b : List Int} (ha : okU a) (hb : okU b) (hal : a.length = 4) (hbl : b.length = 4) : ∀ i, i ≤ 4 → okU (outM a b i) ∧ (outM a b i).length = 8 ∧ valL (outM a b i) = valL (a.take i) * valL b ∧ ∀ j, i + 4 ≤ j → (outM a b i).getD j 0 = 0
  | 0, _ => by
    refine ⟨fun d hd => ?_, rfl, by rw [List.take_zero, valL, Nat.zero_mul]; rfl, fun j hj => ?_⟩
    · simp only [outM, List.mem_cons, List.not_mem_nil, or_false, or_self] at hd
      subst hd; exact ⟨Int.le_refl 0, by decide⟩
    · match j, hj with
      | 4, _ => rfl
      | 5, _ => rfl
      | 6, _ => rfl
      | 7, _ => rfl
      | j + 8, _ => rfl
  | i + 1, hi => by
    obtain ⟨h1, h2, h3, h4⟩ := outM_ok ha hb hal hbl i (by omega)
    have hx := okU_get ha i
    have c0 : (0 : Int) ≤ ((outM a b i, (0 : Int)) : List Int × Int).2 ∧ ((outM a b i, (0 : Int)) : List Int × Int).2 < 18446744073709551616 := ⟨Int.le_refl 0, by show (0 : Int) < _; decide⟩
    obtain ⟨g1, g2, g3⟩ := rowM_ok (i := i) hx hb 4 (outM a b i, 0) h1 c0
    have hv := rowM_val (i := i) hx hb 4 (outM a b i, 0) h1 c0 (by rw [h2]; omega) (by omega)
    have hz : (rowM (a.getD i 0) b i 4 (outM a b i, 0)).1.getD (i + 4) 0 = 0 := (rowM_get _ _ 4 (Nat.le_refl _)).trans (h4 (i + 4) (Nat.le_refl _))
    have hs := valL_set (rowM (a.getD i 0) b i 4 (outM a b i, 0)).1 (i + 4) (rowM (a.getD i 0) b i 4 (outM a b i, 0)).2 (by rw [g3, h2]; omega)
    rw [hz] at hs
    rw [List.take_of_length_le (by omega)] at hv
    have ht := valL_take a i (by omega)
    refine ⟨okU_set g1 g2, by simp only [outM, List.length_set]; rw [g3, h2], ?_, fun j hj => ?_⟩
    · simp only [outM]
      rw [ht, Nat.add_mul, ← h3]
      simp only [Int.toNat_zero, Nat.zero_mul, Nat.add_zero] at hs hv
      rw [hs, hv]
      rw [Nat.mul_assoc, Nat.mul_assoc, Nat.mul_comm (valL b)]
    · simp only [outM, List.getD_eq_getElem?_getD, List.getElem?_set]
      rw [if_neg (by omega), ← List.getD_eq_getElem?_getD, rowM_get _ _ 4 (by omega)]
      exact h4 j (by omega)

def mulL (v : Nat) : List Int := stk (toW v ++ toW (v / 115792089237316195423570985008687907853269984665640564039457584007913129639936))
theorem valL_four (a b c d : Int) : valL [a, b, c, d] = valW [a, b, c, d] := by
  show a.toNat + 18446744073709551616 * (b.toNat + 18446744073709551616 * (c.toNat + 18446744073709551616 * (d.toNat + 18446744073709551616 * 0))) = a.toNat + 18446744073709551616 * b.toNat + 340282366920938463463374607431768211456 * c.toNat + 6277101735386680763835789423207666416102355444464034512896 * d.toNat
  omega
theorem mulL_of {l : List Int} (h : okU l) (hl : l.length = 8) : l = mulL (valL l) := by
  match l, hl with
  | [a, b, c, d, e, f, g, k], _ =>
    have ha := h a (by simp)
    have hb := h b (by simp)
    have hc := h c (by simp)
    have hd := h d (by simp)
    have he := h e (by simp)
    have hf := h f (by simp)
    have hg := h g (by simp)
    have hk := h k (by simp)
    obtain ⟨a, rfl⟩ := Int.eq_ofNat_of_zero_le ha.1
    obtain ⟨b, rfl⟩ := Int.eq_ofNat_of_zero_le hb.1
    obtain ⟨c, rfl⟩ := Int.eq_ofNat_of_zero_le hc.1
    obtain ⟨d, rfl⟩ := Int.eq_ofNat_of_zero_le hd.1
    obtain ⟨e, rfl⟩ := Int.eq_ofNat_of_zero_le he.1
    obtain ⟨f, rfl⟩ := Int.eq_ofNat_of_zero_le hf.1
    obtain ⟨g, rfl⟩ := Int.eq_ofNat_of_zero_le hg.1
    obtain ⟨k, rfl⟩ := Int.eq_ofNat_of_zero_le hk.1
    have ev : valL [(a : Int), b, c, d, e, f, g, k] = a + 18446744073709551616 * b + 340282366920938463463374607431768211456 * c + 6277101735386680763835789423207666416102355444464034512896 * d + 115792089237316195423570985008687907853269984665640564039457584007913129639936 * (e + 18446744073709551616 * f + 340282366920938463463374607431768211456 * g + 6277101735386680763835789423207666416102355444464034512896 * k) := by
      simp only [valL, Int.toNat_natCast]
      omega
    have hlow : a + 18446744073709551616 * b + 340282366920938463463374607431768211456 * c + 6277101735386680763835789423207666416102355444464034512896 * d < 115792089237316195423570985008687907853269984665640564039457584007913129639936 := by omega
    unfold mulL
    rw [stk_eq, ev]
    generalize hX : e + 18446744073709551616 * f + 340282366920938463463374607431768211456 * g + 6277101735386680763835789423207666416102355444464034512896 * k = X
    have e1 : toW (a + 18446744073709551616 * b + 340282366920938463463374607431768211456 * c + 6277101735386680763835789423207666416102355444464034512896 * d + 115792089237316195423570985008687907853269984665640564039457584007913129639936 * X) = [(a : Int), b, c, d] :=
      toW_of _ a b c d X (by omega) (by omega) (by omega) (by omega) rfl
    have e3 : (a + 18446744073709551616 * b + 340282366920938463463374607431768211456 * c + 6277101735386680763835789423207666416102355444464034512896 * d + 115792089237316195423570985008687907853269984665640564039457584007913129639936 * X) / 115792089237316195423570985008687907853269984665640564039457584007913129639936 = X := by
      generalize a + 18446744073709551616 * b + 340282366920938463463374607431768211456 * c + 6277101735386680763835789423207666416102355444464034512896 * d = Y at *
      omega
    have e2 : toW X = [(e : Int), f, g, k] := toW_of _ e f g k 0 (by omega) (by omega) (by omega) (by omega) (by rw [← hX]; rfl)
    rw [e1, e3, e2]
    rfl

def hMOut : Hint := { fuel := none, keep := [15, 16], refs := [(3, 3, 118, .dead), (4, 4, 118, .dead), (5, 5, 118, .dead), (6, 6, 200, .dead)] }
def hMOutO : Hint := { fuel := none, keep := [], refs := [(4, 4, 118, .dead), (5, 5, 118, .dead), (6, 6, 200, .dead)] }
noncomputable def stepMOut (R : Type) (vs : List AV) (k1 : List AV → Option R) (k2 : Nat → List AV → Option R) : Option R :=
  match vs with
  | [.ints 4 .u64 b, .ints 4 .u64 r4, .ints 4 .u64 r5, .ints 8 .u64 out, .ints 4 .u64 a, .int .i64 i] =>
    bif decide (i < 4) then chk (decide (0 ≤ i) && decide (i < 4)) (chk (okM (a.getD i.toNat 0) b i out) (chk (decide (0 ≤ (w64 (i + 4))) && decide ((w64 (i + 4)) < 8))
      (k1 [.ints 4 .u64 b, .ints 4 .u64 r4, .ints 4 .u64 r5, .ints 8 .u64 ((rowO (a.getD i.toNat 0) b i out).set (w64 (i + 4)).toNat (rowC (a.getD i.toNat 0) b i out)), .ints 4 .u64 a, .int .i64 (w64 (i + 1))])))
    else k2 0 [.ints 4 .u64 r4, .ints 4 .u64 r5, .ints 8 .u64 out]
  | _ => none
noncomputable def leMOut : LEnt :=
  { inn := hMOut
    out := hMOutO
    ret := hMOutO
    go := fun _ _ vs kk => match vs with
      | [.ints 4 .u64 b, .ints 4 .u64 r4, .ints 4 .u64 r5, .ints 8 .u64 [0, 0, 0, 0, 0, 0, 0, 0], .ints 4 .u64 a, .int .i64 0] =>
        chk (okW a && okW b) (kk 0 [.ints 4 .u64 r4, .ints 4 .u64 r5, .ints 8 .u64 (mulL (valW a * valW b))])
      | _ => none }
theorem step_mOut (R : Type) (b r4 r5 out a : List Int) (i : Int) (k1 : List AV → Option R) (k2 : Nat → List AV → Option R) :
    runA (env Tryz.f113.ntmps orcMul [(2, leMIn)]) (loopOf 0 (bodyC Tryz.f113)) 0 (stateOf leMOut.inn [.ints 4 .u64 b, .ints 4 .u64 r4, .ints 4 .u64 r5, .ints 8 .u64 out, .ints 4 .u64 a, .int .i64 i]) (bodyK leMOut 0 k1 k2) =
    stepMOut R [.ints 4 .u64 b, .ints 4 .u64 r4, .ints 4 .u64 r5, .ints 8 .u64 out, .ints 4 .u64 a, .int .i64 i] k1 k2 := by kernel_rfl
theorem go_mOut (R : Type) (n : Nat) (vs : List AV) (kk : Nat → List AV → Option R) (r : R) (h : leMOut.go R n vs kk = some r) : ∃ m, loopN (stepMOut R) m vs kk = some r := by
  simp only [leMOut] at h
  split at h
  · rename_i b r4 r5 a
    obtain ⟨hg, hk⟩ := chk_some h
    clear h
    simp only [Bool.and_eq_true] at hg
    obtain ⟨ha, hb⟩ := hg
    have ha' := okW_okU ha
    have hb' := okW_okU hb
    obtain ⟨a0, a1, a2, a3, rfl, _⟩ := okW_split ha
    obtain ⟨b0, b1, b2, b3, rfl, _⟩ := okW_split hb
    have ok := outM_ok ha' hb' rfl rfl
    have hfin : outM [a0, a1, a2, a3] [b0, b1, b2, b3] 4 = mulL (valW [a0, a1, a2, a3] * valW [b0, b1, b2, b3]) := by
      obtain ⟨o1, o2, o3, _⟩ := ok 4 (by decide)
      rw [← valL_four, ← valL_four]
      rw [show ([a0, a1, a2, a3] : List Int).take 4 = [a0, a1, a2, a3] from rfl] at o3
      rw [← o3]
      exact mulL_of o1 o2
    rw [← hfin] at hk
    have rd : ∀ (i f : Nat), i < 4 → loopN (stepMOut R) (f + 1) [.ints 4 .u64 [b0, b1, b2, b3], .ints 4 .u64 r4, .ints 4 .u64 r5, .ints 8 .u64 (outM [a0, a1, a2, a3] [b0, b1, b2, b3] i), .ints 4 .u64 [a0, a1, a2, a3], .int .i64 i] kk =
        loopN (stepMOut R) f [.ints 4 .u64 [b0, b1, b2, b3], .ints 4 .u64 r4, .ints 4 .u64 r5, .ints 8 .u64 (outM [a0, a1, a2, a3] [b0, b1, b2, b3] (i + 1)), .ints 4 .u64 [a0, a1, a2, a3], .int .i64 ((i + 1 : Nat) : Int)] kk := by
      intro i f hi
      obtain ⟨o1, o2, _, _⟩ := ok i (by omega)
      have hx := okU_get ha' i
      have hM : okM ([a0, a1, a2, a3].getD i 0) [b0, b1, b2, b3] i (outM [a0, a1, a2, a3] [b0, b1, b2, b3] i) = true := okM_iff.2 ⟨⟨⟨⟨⟨hx, hb⟩, o1⟩, o2⟩, by omega⟩, by omega⟩
      have hw : w64 ((i : Int) + 4) = ((i + 4 : Nat) : Int) := by rw [w64_small (by omega) (by omega)]; omega
      have hw1 : w64 ((i : Int) + 1) = ((i + 1 : Nat) : Int) := by rw [w64_small (by omega) (by omega)]; omega
      rw [loopN]
      simp only [stepMOut, hw, hw1, Int.toNat_natCast]
      rw [decide_eq_true (show (i : Int) < 4 by omega), decide_eq_true (show (0 : Int) ≤ (i : Int) by omega), decide_eq_true (show (0 : Int) ≤ ((i + 4 : Nat) : Int) by omega), decide_eq_true (show ((i + 4 : Nat) : Int) < 8 by omega), hM]
      unfold rowO rowC
      rw [stk_eq, stk_eq, Int.toNat_natCast]
      rfl
    refine ⟨5, ?_⟩
    refine (rd 0 4 (by decide)).trans ((rd 1 3 (by decide)).trans ((rd 2 2 (by decide)).trans ((rd 3 1 (by decide)).trans ?_)))
    exact hk
  · cases h

def sp_wMul : List AV → Option (Bool × AV)
  | [.ints 4 .u64 a, .ints 4 .u64 b] => some (okW a && okW b, .tup [.ints 4 .u64 (toW (valW a * valW b)), .ints 4 .u64 (toW (valW a * valW b / 115792089237316195423570985008687907853269984665640564039457584007913129639936))])
  | _ => none
theorem run_wMul (a b : List Int) : callA (env Tryz.f113.ntmps orcMul [(0, leMOut)]) (bodyC Tryz.f113) Tryz.f113.results.toList (slots 0 [.ints 4 .u64 a, .ints 4 .u64 b]) some =
    chk (okW a && okW b) (some (.tup [.ints 4 .u64 (((mulL (valW a * valW b)).drop 0).take 4), .ints 4 .u64 (((mulL (valW a * valW b)).drop 4).take 4)])) := by kernel_rfl
theorem mulL_parts (v : Nat) : ((mulL v).drop 0).take 4 = toW v ∧ ((mulL v).drop 4).take 4 = toW (v / 115792089237316195423570985008687907853269984665640564039457584007913129639936) := by
  unfold mulL
  rw [stk_eq]
  generalize v / 115792089237316195423570985008687907853269984665640564039457584007913129639936 = q
  rw [toW_def v, toW_def q]
  exact ⟨rfl, rfl⟩
theorem ok_wMul : EntOk Tryz.prog 113 (entS false sp_wMul) := by
  have hin : LoopOk Tryz.prog Tryz.f113.ntmps [(2, leMIn)] 2 (.loop inMul) := by
    refine loopS (le := leMIn) (orc := orcMul) (lo' := []) (orc_cons ok_mul64 (orc_cons ok_add64 orc_nil)) (by kernel_rfl) rfl (loops_none (by kernel_rfl)) stepMIn (fun R vs k1 k2 r h => ?_) go_mIn
    have h0 := h
    unfold stepMIn at h
    split at h
    · exact (step_mIn R _ _ _ _ _ _ _ _ _ _ _ k1 k2).trans h0
    · cases h
  refine contractS (orc := orcMul) (lo := [(0, leMOut)]) Tryz.func113 (orc_cons ok_mul64 (orc_cons ok_add64 orc_nil)) (by kernel_rfl) (by kernel_rfl) (by kernel_rfl)
    (loops_one (id := 0) (y := .loop (loopOf 0 (bodyC Tryz.f113))) (by kernel_rfl)
      (loopS (le := leMOut) (orc := orcMul) (lo' := [(2, leMIn)]) (orc_cons ok_mul64 (orc_cons ok_add64 orc_nil)) (by kernel_rfl) rfl (loops_one (id := 2) (y := .loop inMul) (by kernel_rfl) hin) stepMOut (fun R vs k1 k2 r h => ?_) go_mOut)) fun args r h => ?_
  · have h0 := h
    unfold stepMOut at h
    split at h
    · exact (step_mOut R _ _ _ _ _ _ k1 k2).trans h0
    · cases h
  · unfold sp_wMul at h
    split at h
    · rename_i a b
      simp only [Option.some.injEq, Prod.mk.injEq] at h
      obtain ⟨hg, rfl⟩ := h
      refine ⟨by kernel_rfl, .inr rfl, (run_wMul a b).trans ?_⟩
      rw [hg, (mulL_parts _).1, (mulL_parts _).2]
      rfl
    · cases h
end
end Go.Proofs.YtbakldcbaikgpaaGreatDoor
