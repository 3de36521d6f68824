/- The texts WMul, Prod, Cplx, Fly1, joined. Own work. -/
import Derived.Test.YtbakldcbaikgpaaGreatDoorRndA
import Derived.Test.YtbakldcbaikgpaaGreatDoorSumA
/- wide.Mul: math/bits.Mul64, a row, all rows. Own work. -/
namespace Go.Proofs.YtbakldcbaikgpaaGreatDoor
set_option maxRecDepth 100000
noncomputable section
def mulHi (x y : Int) : Int := x * y / 18446744073709551616
def mulLo (x y : Int) : Int := x * y % 18446744073709551616
def sp_mul64 : List AV → Option (Bool × AV)
  | [.int .u64 x, .int .u64 y] => some (inU x && inU y, .tup [.int .u64 (mulHi x y), .int .u64 (mulLo x y)])
  | _ => none
theorem run_mul64 (x y : Int) : callA (env Tryz.f143.ntmps [] []) (bodyC Tryz.f143) Tryz.f143.results.toList (slots 0 [.int .u64 x, .int .u64 y]) some =
    some (.tup [.int .u64 (u64 ((u64 ((u64 ((shrI .u64 x 32) * (shrI .u64 y 32))) + (shrI .u64 (u64 ((u64 ((shrI .u64 x 32) * (andI .u64 y 4294967295))) + (shrI .u64 (u64 ((andI .u64 x 4294967295) * (andI .u64 y 4294967295))) 32))) 32))) + (shrI .u64 (u64 ((andI .u64 (u64 ((u64 ((shrI .u64 x 32) * (andI .u64 y 4294967295))) + (shrI .u64 (u64 ((andI .u64 x 4294967295) * (andI .u64 y 4294967295))) 32))) 4294967295) + (u64 ((andI .u64 x 4294967295) * (shrI .u64 y 32))))) 32))), .int .u64 (u64 (x * y))]) := by kernel_rfl
theorem andI_low (m : Nat) (h : m < 18446744073709551616) : andI .u64 (m : Int) 4294967295 = ((m % 4294967296 : Nat) : Int) := by
  unfold andI
  rw [IntKind.wrap_u64]
  have h1 : (BitVec.ofInt IntKind.u64.bits (m : Int) &&& BitVec.ofInt IntKind.u64.bits 4294967295).toNat = m % 4294967296 := by
    rw [BitVec.toNat_and]
    simp only [IntKind.bits, BitVec.toNat_ofInt]
    have e1 : ((m : Int) % ((2 ^ 64 : Nat) : Int)).toNat = m := by omega
    have e2 : ((4294967295 : Int) % ((2 ^ 64 : Nat) : Int)).toNat = 2 ^ 32 - 1 := by decide
    rw [e1, e2, Nat.and_two_pow_sub_one_eq_mod]
  rw [h1]
  omega
theorem u64_of {x : Int} {n : Nat} (e : x = (n : Int)) (h : n < 18446744073709551616) : u64 x = (n : Int) := by
  unfold u64; rw [IntKind.wrap_u64, e]; omega
theorem half_mul {a b c d : Nat} (ha : a < 4294967296) (hb : b < 4294967296) (hc : c < 4294967296) (hd : d < 4294967296) :
    a * b + d + c ≤ 18446744073709551615 ∧ a * b ≤ 18446744065119617025 := by
  have : a * b ≤ 4294967295 * 4294967295 := Nat.mul_le_mul (by omega) (by omega)
  omega
/-- A product by halves. -/
theorem mul_halves (x0 x1 y0 y1 : Nat) (_ : x0 < 4294967296) (_ : x1 < 4294967296) (_ : y0 < 4294967296) (_ : y1 < 4294967296) :
    x1 * y1 + (x1 * y0 + x0 * y0 / 4294967296) / 4294967296 + ((x1 * y0 + x0 * y0 / 4294967296) % 4294967296 + x0 * y1) / 4294967296 = (x0 + 4294967296 * x1) * (y0 + 4294967296 * y1) / 18446744073709551616 := by
  have e : (x0 + 4294967296 * x1) * (y0 + 4294967296 * y1) = x0 * y0 + 4294967296 * (x1 * y0) + 4294967296 * (x0 * y1) + 18446744073709551616 * (x1 * y1) := by
    rw [Nat.add_mul, Nat.mul_add, Nat.mul_add]
    have : 4294967296 * x1 * y0 = 4294967296 * (x1 * y0) := Nat.mul_assoc _ _ _
    have h2 : x0 * (4294967296 * y1) = 4294967296 * (x0 * y1) := Nat.mul_left_comm _ _ _
    have h3 : 4294967296 * x1 * (4294967296 * y1) = 18446744073709551616 * (x1 * y1) := by
      rw [Nat.mul_assoc, Nat.mul_left_comm x1, ← Nat.mul_assoc]
    rw [this, h2, h3]; omega
  rw [e]
  generalize x0 * y0 = a
  generalize x1 * y0 = b
  generalize x0 * y1 = c
  generalize x1 * y1 = d
  omega
theorem ok_mul64 : EntOk Tryz.prog 143 (entS false sp_mul64) := by
  refine contractS (orc := []) (lo := []) Tryz.func143 orc_nil (by kernel_rfl) (by kernel_rfl) (by kernel_rfl) (loops_none (by kernel_rfl)) fun args r h => ?_
  unfold sp_mul64 at h
  split at h
  · rename_i x y
    simp only [Option.some.injEq, Prod.mk.injEq, Bool.and_eq_true] at h
    obtain ⟨⟨hx, hy⟩, rfl⟩ := h
    obtain ⟨m, rfl, hm⟩ := nat_of hx
    obtain ⟨n, rfl, hn⟩ := nat_of hy
    refine ⟨by kernel_rfl, .inr rfl, (run_mul64 m n).trans ?_⟩
    have s1 : shrI .u64 (m : Int) 32 = ((m / 4294967296 : Nat) : Int) := shrI_nat m 32 (by decide)
    have s2 : shrI .u64 (n : Int) 32 = ((n / 4294967296 : Nat) : Int) := shrI_nat n 32 (by decide)
    rw [s1, s2, andI_low m hm, andI_low n hn]
    obtain ⟨x0, ex0⟩ : ∃ x0, m % 4294967296 = x0 := ⟨_, rfl⟩
    obtain ⟨x1, ex1⟩ : ∃ x1, m / 4294967296 = x1 := ⟨_, rfl⟩
    obtain ⟨y0, ey0⟩ : ∃ y0, n % 4294967296 = y0 := ⟨_, rfl⟩
    obtain ⟨y1, ey1⟩ : ∃ y1, n / 4294967296 = y1 := ⟨_, rfl⟩
    have hmx : m = x0 + 4294967296 * x1 := by omega
    have hny : n = y0 + 4294967296 * y1 := by omega
    have h0 : x0 < 4294967296 := by omega
    have h1 : x1 < 4294967296 := by omega
    have g0 : y0 < 4294967296 := by omega
    have g1 : y1 < 4294967296 := by omega
    have key := mul_halves x0 x1 y0 y1 h0 h1 g0 g1
    rw [← hmx, ← hny] at key
    rw [ex0, ex1, ey0, ey1]
    have b1 := (half_mul h1 g1 h0 h0).2
    have b2 := (half_mul h1 g0 h0 h0).2
    have b3 := (half_mul h0 g0 h0 h0).2
    have b4 := (half_mul h0 g1 h0 h0).2
    have hlo : u64 ((m : Int) * (n : Int)) = mulLo m n := by unfold u64 mulLo; rw [IntKind.wrap_u64]
    have hle : m * n / 18446744073709551616 < 18446744073709551616 := by
      rw [Nat.div_lt_iff_lt_mul (by decide)]
      exact Nat.lt_of_lt_of_le (Nat.mul_lt_mul_of_lt_of_le hm (Nat.le_of_lt hn) (by decide)) (Nat.le_refl _)
    generalize hA : x1 * y1 = A at *
    generalize hB : x1 * y0 = B at *
    generalize hC : x0 * y0 = C at *
    generalize hD : x0 * y1 = D at *
    have p1 : u64 ((x1 : Int) * (y1 : Int)) = (A : Int) := u64_of (by rw [← hA]; norm_cast) (by omega)
    have p2 : u64 ((x1 : Int) * (y0 : Int)) = (B : Int) := u64_of (by rw [← hB]; norm_cast) (by omega)
    have p3 : u64 ((x0 : Int) * (y0 : Int)) = (C : Int) := u64_of (by rw [← hC]; norm_cast) (by omega)
    have p4 : u64 ((x0 : Int) * (y1 : Int)) = (D : Int) := u64_of (by rw [← hD]; norm_cast) (by omega)
    have s3 : shrI .u64 (C : Int) 32 = ((C / 4294967296 : Nat) : Int) := shrI_nat C 32 (by decide)
    rw [p1, p2, p3, p4, s3, hlo]
    have q1 : u64 ((B : Int) + ((C / 4294967296 : Nat) : Int)) = ((B + C / 4294967296 : Nat) : Int) := u64_of (by omega) (by omega)
    rw [q1]
    generalize hT : B + C / 4294967296 = T at *
    have s4 : shrI .u64 (T : Int) 32 = ((T / 4294967296 : Nat) : Int) := shrI_nat T 32 (by decide)
    rw [s4, andI_low T (by omega)]
    have q2 : u64 (((T % 4294967296 : Nat) : Int) + (D : Int)) = ((T % 4294967296 + D : Nat) : Int) := u64_of (by omega) (by omega)
    rw [q2]
    have s5 : shrI .u64 ((T % 4294967296 + D : Nat) : Int) 32 = (((T % 4294967296 + D) / 4294967296 : Nat) : Int) := shrI_nat _ 32 (by decide)
    have q3 : u64 ((A : Int) + ((T / 4294967296 : Nat) : Int)) = ((A + T / 4294967296 : Nat) : Int) := u64_of (by omega) (by omega)
    rw [s5, q3]
    have q4 : u64 (((A + T / 4294967296 : Nat) : Int) + (((T % 4294967296 + D) / 4294967296 : Nat) : Int)) = ((m * n / 18446744073709551616 : Nat) : Int) := u64_of (by omega) hle
    have hhi : mulHi m n = ((m * n / 18446744073709551616 : Nat) : Int) := by unfold mulHi; rw [← Int.natCast_mul]; omega
    rw [q4, hhi]
  · cases h
/-! ### A row -/
/-- Digits of 64 bits. -/
def valL : List Int → Nat
  | [] => 0
  | d :: l => d.toNat + 18446744073709551616 * valL l
def okU (l : List Int) : Prop := ∀ d ∈ l, 0 ≤ d ∧ d < 18446744073709551616
theorem valL_set : ∀ (l : List Int) (i : Nat) (d : Int), i < l.length → valL (l.set i d) + (l.getD i 0).toNat * 18446744073709551616 ^ i = valL l + d.toNat * 18446744073709551616 ^ i
  | [], i, d, h => by simp at h
  | c :: l, 0, d, _ => by
    rw [List.set_cons_zero, valL, List.getD_cons_zero, Nat.pow_zero, Nat.mul_one, Nat.mul_one, valL]
    omega
  | c :: l, i + 1, d, h => by
    have := valL_set l i d (by simpa using h)
    simp only [List.set_cons_succ, valL, List.getD_cons_succ, Nat.pow_succ]
    generalize (l.getD i 0).toNat = a at *
    generalize d.toNat = b at *
    generalize 18446744073709551616 ^ i = p at *
    have e1 : a * (p * 18446744073709551616) = 18446744073709551616 * (a * p) := by rw [← Nat.mul_assoc, Nat.mul_comm]
    have e2 : b * (p * 18446744073709551616) = 18446744073709551616 * (b * p) := by rw [← Nat.mul_assoc, Nat.mul_comm]
    rw [e1, e2]
    omega
theorem okU_set {l : List Int} {i : Nat} {d : Int} (h : okU l) (hd : 0 ≤ d ∧ d < 18446744073709551616) : okU (l.set i d) := by
  intro x hx
  rcases List.mem_or_eq_of_mem_set hx with h1 | h1
  · exact h x h1
  · rw [h1]; exact hd
theorem okU_get {l : List Int} (h : okU l) (i : Nat) : 0 ≤ l.getD i 0 ∧ l.getD i 0 < 18446744073709551616 := by
  rw [List.getD_eq_getElem?_getD]
  cases hi : l[i]? with
  | none => exact ⟨by decide, by decide⟩
  | some d => exact h d (List.mem_of_getElem? hi)
/-- What a product, a carry and a digit make. -/
def rowT (x : Int) (b : List Int) (i k : Nat) (s : List Int × Int) : Int := x * b.getD k 0 + s.2 + s.1.getD (i + k) 0
def rowM (x : Int) (b : List Int) (i : Nat) : Nat → List Int × Int → List Int × Int
  | 0, s => s
  | k + 1, s => ((rowM x b i k s).1.set (i + k) (rowT x b i k (rowM x b i k s) % 18446744073709551616), rowT x b i k (rowM x b i k s) / 18446744073709551616)
theorem rowT_le {x y c o : Int} (hx : 0 ≤ x ∧ x < 18446744073709551616) (hy : 0 ≤ y ∧ y < 18446744073709551616) (hc : 0 ≤ c ∧ c < 18446744073709551616) (ho : 0 ≤ o ∧ o < 18446744073709551616) :
    0 ≤ x * y ∧ x * y + c + o ≤ 340282366920938463463374607431768211455 := by
  have h1 : x * y ≤ 18446744073709551615 * 18446744073709551615 := Int.mul_le_mul (by omega) (by omega) hy.1 (by decide)
  have h0 : 0 ≤ x * y := Int.mul_nonneg hx.1 hy.1
  omega
/-- One step, as the program does it. -/
theorem row_step {x y c o : Int} (hx : 0 ≤ x ∧ x < 18446744073709551616) (hy : 0 ≤ y ∧ y < 18446744073709551616) (hc : 0 ≤ c ∧ c < 18446744073709551616) (ho : 0 ≤ o ∧ o < 18446744073709551616) :
    okC (mulLo x y) c 0 = true ∧ okC o (addLo (mulLo x y) c 0) 0 = true ∧ addLo o (addLo (mulLo x y) c 0) 0 = (x * y + c + o) % 18446744073709551616 ∧
      u64 (u64 (mulHi x y + addHi (mulLo x y) c 0) + addHi o (addLo (mulLo x y) c 0) 0) = (x * y + c + o) / 18446744073709551616 := by
  obtain ⟨h0, h1⟩ := rowT_le hx hy hc ho
  unfold mulLo mulHi addLo addHi okC u64
  rw [IntKind.wrap_u64, IntKind.wrap_u64]
  simp only [Bool.and_eq_true, inU_iff, decide_eq_true_eq]
  generalize x * y = p at *
  refine ⟨⟨⟨⟨by omega, by omega⟩, by omega⟩, by omega⟩, ⟨⟨⟨by omega, by omega⟩, by omega⟩, by omega⟩, by omega, by omega⟩
theorem rowM_ok {x : Int} {b : List Int} {i : Nat} (hx : 0 ≤ x ∧ x < 18446744073709551616) (hb : okU b) : ∀ (k : Nat) (s : List Int × Int), okU s.1 → 0 ≤ s.2 ∧ s.2 < 18446744073709551616 →
    okU (rowM x b i k s).1 ∧ (0 ≤ (rowM x b i k s).2 ∧ (rowM x b i k s).2 < 18446744073709551616) ∧ (rowM x b i k s).1.length = s.1.length
  | 0, s, h1, h2 => ⟨h1, h2, rfl⟩
  | k + 1, s, h1, h2 => by
    obtain ⟨g1, g2, g3⟩ := rowM_ok (i := i) hx hb k s h1 h2
    obtain ⟨t0, t1⟩ := rowT_le hx (okU_get hb k) g2 (okU_get g1 (i + k))
    have o1 := okU_get g1 (i + k)
    have ht : 0 ≤ rowT x b i k (rowM x b i k s) ∧ rowT x b i k (rowM x b i k s) ≤ 340282366920938463463374607431768211455 := by
      unfold rowT; omega
    refine ⟨okU_set g1 (by omega), by simp only [rowM]; omega, by simp only [rowM, List.length_set]; exact g3⟩
theorem valL_take : ∀ (b : List Int) (k : Nat), k < b.length → valL (b.take (k + 1)) = valL (b.take k) + (b.getD k 0).toNat * 18446744073709551616 ^ k
  | [], k, h => by simp at h
  | c :: b, 0, _ => by
    show c.toNat + 18446744073709551616 * 0 = 0 + c.toNat * 18446744073709551616 ^ 0
    rw [Nat.pow_zero]; omega
  | c :: b, k + 1, h => by
    have := valL_take b k (by simpa using h)
    simp only [List.take_succ_cons, valL, List.getD_cons_succ, Nat.pow_succ]
    rw [this]
    generalize (b.getD k 0).toNat = a
    generalize 18446744073709551616 ^ k = p
    have e1 : a * (p * 18446744073709551616) = 18446744073709551616 * (a * p) := by rw [← Nat.mul_assoc, Nat.mul_comm]
    rw [e1, Nat.mul_add]
    omega
/-- What a row adds. -/
theorem rowM_val {x : Int} {b : List Int} {i : Nat} (hx : 0 ≤ x ∧ x < 18446744073709551616) (hb : okU b) : ∀ (k : Nat) (s : List Int × Int), okU s.1 → 0 ≤ s.2 ∧ s.2 < 18446744073709551616 → i + k ≤ s.1.length → k ≤ b.length →
    valL (rowM x b i k s).1 + (rowM x b i k s).2.toNat * 18446744073709551616 ^ (i + k) = valL s.1 + s.2.toNat * 18446744073709551616 ^ i + x.toNat * valL (b.take k) * 18446744073709551616 ^ i
  | 0, s, h1, h2, h3, h4 => by
    simp only [rowM, Nat.add_zero, List.take_zero, valL, Nat.mul_zero, Nat.zero_mul]
  | k + 1, s, h1, h2, h3, h4 => by
    have ih := rowM_val (i := i) hx hb k s h1 h2 (by omega) (by omega)
    obtain ⟨g1, g2, g3⟩ := rowM_ok (i := i) hx hb k s h1 h2
    have hs := valL_set (rowM x b i k s).1 (i + k) (rowT x b i k (rowM x b i k s) % 18446744073709551616) (by omega)
    have y1 := okU_get hb k
    have o1 := okU_get g1 (i + k)
    obtain ⟨t0, t1⟩ := rowT_le hx y1 g2 o1
    have htake : valL (b.take (k + 1)) = valL (b.take k) + (b.getD k 0).toNat * 18446744073709551616 ^ k := valL_take b k (by omega)
    show valL ((rowM x b i k s).1.set (i + k) _) + (rowT x b i k (rowM x b i k s) / 18446744073709551616).toNat * 18446744073709551616 ^ (i + (k + 1)) = _
    rw [htake, Nat.mul_add, Nat.add_mul, ← Nat.mul_assoc]
    have hT : (rowT x b i k (rowM x b i k s) % 18446744073709551616).toNat + 18446744073709551616 * (rowT x b i k (rowM x b i k s) / 18446744073709551616).toNat = x.toNat * (b.getD k 0).toNat + (rowM x b i k s).2.toNat + ((rowM x b i k s).1.getD (i + k) 0).toNat := by
      have hxy : x * b.getD k 0 = ((x.toNat * (b.getD k 0).toNat : Nat) : Int) := by
        rw [Int.natCast_mul, Int.toNat_of_nonneg hx.1, Int.toNat_of_nonneg y1.1]
      unfold rowT
      rw [hxy]
      omega
    generalize (rowT x b i k (rowM x b i k s) % 18446744073709551616) = lo at *
    generalize (rowT x b i k (rowM x b i k s) / 18446744073709551616) = hi at *
    generalize valL ((rowM x b i k s).1.set (i + k) lo) = V' at *
    generalize valL (rowM x b i k s).1 = V at *
    generalize ((rowM x b i k s).1.getD (i + k) 0).toNat = o at *
    generalize (rowM x b i k s).2.toNat = c at *
    generalize (b.getD k 0).toNat = y at *
    generalize x.toNat = X at *
    have ep : 18446744073709551616 ^ (i + (k + 1)) = 18446744073709551616 ^ (i + k) * 18446744073709551616 := by rw [← Nat.add_assoc, Nat.pow_succ]
    have ep2 : X * y * 18446744073709551616 ^ k * 18446744073709551616 ^ i = X * y * 18446744073709551616 ^ (i + k) := by
      rw [Nat.mul_assoc, ← Nat.pow_add, Nat.add_comm k i]
    rw [ep, ep2]
    generalize 18446744073709551616 ^ (i + k) = p at *
    have e1 : hi.toNat * (p * 18446744073709551616) = 18446744073709551616 * hi.toNat * p := by
      rw [← Nat.mul_assoc, Nat.mul_comm (hi.toNat * p), ← Nat.mul_assoc]
    have e2 := congrArg (· * p) hT
    simp only [Nat.add_mul] at e2
    rw [e1]
    omega
/-! ### The inner loop -/
def hMIn : Hint := { fuel := none, keep := [7, 8, 9, 15, 16, 20, 21], refs := [(3, 3, 118, .dead), (4, 4, 118, .dead), (5, 5, 118, .dead), (6, 6, 200, .dead)] }
def hMInO : Hint := { fuel := none, keep := [7, 9, 15, 16], refs := [(3, 3, 118, .dead), (4, 4, 118, .dead), (5, 5, 118, .dead), (6, 6, 200, .dead)] }
def okM (x : Int) (b : List Int) (i : Int) (out : List Int) : Bool := stk (decide (0 ≤ x ∧ x < 18446744073709551616) && okW b && (out.all fun d => decide (0 ≤ d) && decide (d < 18446744073709551616)) && decide (out.length = 8) && decide (0 ≤ i) && decide (i ≤ 3))
def rowO (x : Int) (b : List Int) (i : Int) (out : List Int) : List Int := stk (rowM x b i.toNat 4 (out, 0)).1
def rowC (x : Int) (b : List Int) (i : Int) (out : List Int) : Int := stk (rowM x b i.toNat 4 (out, 0)).2
theorem okM_iff {x : Int} {b : List Int} {i : Int} {out : List Int} : okM x b i out = true ↔ ((((((0 ≤ x ∧ x < 18446744073709551616) ∧ okW b = true) ∧ okU out) ∧ out.length = 8) ∧ 0 ≤ i) ∧ i ≤ 3) := by
  unfold okM okU
  rw [stk_eq]
  simp only [Bool.and_eq_true, decide_eq_true_eq, List.all_eq_true]
noncomputable def stepMIn (R : Type) (vs : List AV) (k1 : List AV → Option R) (k2 : Nat → List AV → Option R) : Option R :=
  match vs with
  | [.ints 4 .u64 r3, .ints 4 .u64 r4, .ints 4 .u64 r5, .ints 8 .u64 out, .int .i64 i, .int .u64 x, .int .u64 c, .ints 4 .u64 a, .int .i64 i2, .ints 4 .u64 b, .int .i64 k] =>
    bif decide (k < 4) then chk (decide (0 ≤ k) && decide (k < 4)) (chk (inU x && inU (b.getD k.toNat 0)) (chk (okC (mulLo x (b.getD k.toNat 0)) c 0) (chk (decide (0 ≤ (w64 (i + k))) && decide ((w64 (i + k)) < 8)) (chk (okC (out.getD ((w64 (i + k)).toNat) 0) (addLo (mulLo x (b.getD k.toNat 0)) c 0) 0) (chk (decide (0 ≤ (w64 (i + k))) && decide ((w64 (i + k)) < 8))
      (k1 [.ints 4 .u64 r3, .ints 4 .u64 r4, .ints 4 .u64 r5, .ints 8 .u64 (out.set ((w64 (i + k)).toNat) (addLo (out.getD ((w64 (i + k)).toNat) 0) (addLo (mulLo x (b.getD k.toNat 0)) c 0) 0)), .int .i64 i, .int .u64 x, .int .u64 (u64 ((u64 ((mulHi x (b.getD k.toNat 0)) + (addHi (mulLo x (b.getD k.toNat 0)) c 0))) + (addHi (out.getD ((w64 (i + k)).toNat) 0) (addLo (mulLo x (b.getD k.toNat 0)) c 0) 0))), .ints 4 .u64 a, .int .i64 i2, .ints 4 .u64 b, .int .i64 (w64 (k + 1))]))))))
    else k2 0 [.ints 4 .u64 r3, .ints 4 .u64 r4, .ints 4 .u64 r5, .ints 8 .u64 out, .int .i64 i, .int .u64 c, .ints 4 .u64 a, .int .i64 i2]
  | _ => none
noncomputable def leMIn : LEnt :=
  { inn := hMIn
    out := hMInO
    ret := hMInO
    go := fun _ _ vs kk => match vs with
      | [.ints 4 .u64 r3, .ints 4 .u64 r4, .ints 4 .u64 r5, .ints 8 .u64 out, .int .i64 i, .int .u64 x, .int .u64 0, .ints 4 .u64 a, .int .i64 i2, .ints 4 .u64 b, .int .i64 0] =>
        chk (okM x b i out) (kk 0 [.ints 4 .u64 r3, .ints 4 .u64 r4, .ints 4 .u64 r5, .ints 8 .u64 (rowO x b i out), .int .i64 i, .int .u64 (rowC x b i out), .ints 4 .u64 a, .int .i64 i2])
      | _ => none }
def orcMul : List (FuncId × Ent) := [(143, entS false sp_mul64), (144, entS false sp_add64)]
noncomputable def inMul : Code := loopOf 2 (loopOf 0 (bodyC Tryz.f113))
theorem step_mIn (R : Type) (r3 r4 r5 out a b : List Int) (i x c i2 k : Int) (k1 : List AV → Option R) (k2 : Nat → List AV → Option R) :
    runA (env Tryz.f113.ntmps orcMul []) inMul 2 (stateOf leMIn.inn [.ints 4 .u64 r3, .ints 4 .u64 r4, .ints 4 .u64 r5, .ints 8 .u64 out, .int .i64 i, .int .u64 x, .int .u64 c, .ints 4 .u64 a, .int .i64 i2, .ints 4 .u64 b, .int .i64 k]) (bodyK leMIn 2 k1 k2) =
    stepMIn R [.ints 4 .u64 r3, .ints 4 .u64 r4, .ints 4 .u64 r5, .ints 8 .u64 out, .int .i64 i, .int .u64 x, .int .u64 c, .ints 4 .u64 a, .int .i64 i2, .ints 4 .u64 b, .int .i64 k] k1 k2 := by kernel_rfl
theorem okW_okU {b : List Int} (h : okW b = true) : okU b := by
  obtain ⟨a, b', c, d, rfl, h1, h2, h3, h4⟩ := okW_split h
  intro x hx
  simp only [List.mem_cons, List.not_mem_nil, or_false] at hx
  rcases hx with rfl | rfl | rfl | rfl <;> assumption
theorem mIn_round (R : Type) {r3 r4 r5 a b : List Int} {i2 x : Int} {s : List Int × Int} {i k : Nat} (hx : 0 ≤ x ∧ x < 18446744073709551616) (hb : okU b) (hs : okU s.1) (hc : 0 ≤ s.2 ∧ s.2 < 18446744073709551616) (hi : i ≤ 3) (hk : k < 4) (f : Nat) (kk : Nat → List AV → Option R) :
    loopN (stepMIn R) (f + 1) [.ints 4 .u64 r3, .ints 4 .u64 r4, .ints 4 .u64 r5, .ints 8 .u64 (rowM x b i k s).1, .int .i64 i, .int .u64 x, .int .u64 (rowM x b i k s).2, .ints 4 .u64 a, .int .i64 i2, .ints 4 .u64 b, .int .i64 k] kk =
    loopN (stepMIn R) f [.ints 4 .u64 r3, .ints 4 .u64 r4, .ints 4 .u64 r5, .ints 8 .u64 (rowM x b i (k + 1) s).1, .int .i64 i, .int .u64 x, .int .u64 (rowM x b i (k + 1) s).2, .ints 4 .u64 a, .int .i64 i2, .ints 4 .u64 b, .int .i64 ((k + 1 : Nat) : Int)] kk := by
  obtain ⟨g1, g2, g3⟩ := rowM_ok (i := i) hx hb k s hs hc
  have y1 := okU_get hb k
  have o1 := okU_get g1 (i + k)
  obtain ⟨q1, q2, q3, q4⟩ := row_step hx y1 g2 o1
  have hw : w64 ((i : Int) + (k : Int)) = ((i + k : Nat) : Int) := by rw [w64_small (by omega) (by omega)]; omega
  have hw1 : w64 ((k : Int) + 1) = ((k + 1 : Nat) : Int) := by rw [w64_small (by omega) (by omega)]; omega
  rw [loopN]
  simp only [stepMIn, hw, hw1, Int.toNat_natCast]
  rw [decide_eq_true (show (k : Int) < 4 by omega), decide_eq_true (show (0 : Int) ≤ (k : Int) by omega), decide_eq_true (show (0 : Int) ≤ ((i + k : Nat) : Int) by omega), decide_eq_true (show ((i + k : Nat) : Int) < 8 by omega), inU_iff.2 hx, inU_iff.2 y1, q1, q2, q3, q4]
  rfl
theorem go_mIn (R : Type) (n : Nat) (vs : List AV) (kk : Nat → List AV → Option R) (r : R) (h : leMIn.go R n vs kk = some r) : ∃ m, loopN (stepMIn R) m vs kk = some r := by
  simp only [leMIn] at h
  split at h
  · rename_i r3 r4 r5 out i x a i2 b
    obtain ⟨hg, hk⟩ := chk_some h
    clear h
    obtain ⟨⟨⟨⟨⟨hx, hb⟩, ho⟩, hl⟩, i0⟩, i3⟩ := okM_iff.1 hg
    obtain ⟨j, rfl⟩ : ∃ j : Nat, i = j := ⟨i.toNat, (Int.toNat_of_nonneg i0).symm⟩
    unfold rowO rowC at hk
    rw [stk_eq, stk_eq, Int.toNat_natCast] at hk
    have hb := okW_okU hb
    have c0 : (0 : Int) ≤ ((out, (0 : Int)) : List Int × Int).2 ∧ ((out, (0 : Int)) : List Int × Int).2 < 18446744073709551616 := ⟨Int.le_refl 0, by show (0 : Int) < _; decide⟩
    have rd := fun (k f : Nat) (hk : k < 4) => mIn_round R (r3 := r3) (r4 := r4) (r5 := r5) (a := a) (i2 := i2) (s := (out, 0)) (i := j) (k := k) hx hb ho c0 (by omega) hk f kk
    refine ⟨5, ?_⟩
    refine (rd 0 4 (by decide)).trans ((rd 1 3 (by decide)).trans ((rd 2 2 (by decide)).trans ((rd 3 1 (by decide)).trans ?_)))
    exact hk
  · cases h
/-! ### All rows -/
theorem rowM_get {x : Int} {b : List Int} {i : Nat} (s : List Int × Int) (j : Nat) : ∀ k, i + k ≤ j → (rowM x b i k s).1.getD j 0 = s.1.getD j 0
  | 0, _ => rfl
  | k + 1, h => by
    rw [← rowM_get (x := x) (b := b) (i := i) s j k (by omega)]
    simp only [rowM, List.getD_eq_getElem?_getD, List.getElem?_set]
    rw [if_neg (by omega)]
def outM (a b : List Int) : Nat → List Int
  | 0 => [0, 0, 0, 0, 0, 0, 0, 0]
  | i + 1 => (rowM (a.getD i 0) b i 4 (outM a b i, 0)).1.set (i + 4) (rowM (a.getD i 0) b i 4 (outM a b i, 0)).2
theorem outM_ok {a b : List Int} (ha : okU a) (hb : okU b) (hal : a.length = 4) (hbl : b.length = 4) : ∀ i, i ≤ 4 → okU (outM a b i) ∧ (outM a b i).length = 8 ∧ valL (outM a b i) = valL (a.take i) * valL b ∧ ∀ j, i + 4 ≤ j → (outM a b i).getD j 0 = 0
  | 0, _ => by
    refine ⟨fun d hd => ?_, rfl, by rw [List.take_zero, valL, Nat.zero_mul]; rfl, fun j hj => ?_⟩
    · simp only [outM, List.mem_cons, List.not_mem_nil, or_false, or_self] at hd
      subst hd; exact ⟨Int.le_refl 0, by decide⟩
    · match j, hj with
      | 4, _ => rfl
      | 5, _ => rfl
      | 6, _ => rfl
      | 7, _ => rfl
      | j + 8, _ => rfl
  | i + 1, hi => by
    obtain ⟨h1, h2, h3, h4⟩ := outM_ok ha hb hal hbl i (by omega)
    have hx := okU_get ha i
    have c0 : (0 : Int) ≤ ((outM a b i, (0 : Int)) : List Int × Int).2 ∧ ((outM a b i, (0 : Int)) : List Int × Int).2 < 18446744073709551616 := ⟨Int.le_refl 0, by show (0 : Int) < _; decide⟩
    obtain ⟨g1, g2, g3⟩ := rowM_ok (i := i) hx hb 4 (outM a b i, 0) h1 c0
    have hv := rowM_val (i := i) hx hb 4 (outM a b i, 0) h1 c0 (by rw [h2]; omega) (by omega)
    have hz : (rowM (a.getD i 0) b i 4 (outM a b i, 0)).1.getD (i + 4) 0 = 0 := (rowM_get _ _ 4 (Nat.le_refl _)).trans (h4 (i + 4) (Nat.le_refl _))
    have hs := valL_set (rowM (a.getD i 0) b i 4 (outM a b i, 0)).1 (i + 4) (rowM (a.getD i 0) b i 4 (outM a b i, 0)).2 (by rw [g3, h2]; omega)
    rw [hz] at hs
    rw [List.take_of_length_le (by omega)] at hv
    have ht := valL_take a i (by omega)
    refine ⟨okU_set g1 g2, by simp only [outM, List.length_set]; rw [g3, h2], ?_, fun j hj => ?_⟩
    · simp only [outM]
      rw [ht, Nat.add_mul, ← h3]
      simp only [Int.toNat_zero, Nat.zero_mul, Nat.add_zero] at hs hv
      rw [hs, hv]
      rw [Nat.mul_assoc, Nat.mul_assoc, Nat.mul_comm (valL b)]
    · simp only [outM, List.getD_eq_getElem?_getD, List.getElem?_set]
      rw [if_neg (by omega), ← List.getD_eq_getElem?_getD, rowM_get _ _ 4 (by omega)]
      exact h4 j (by omega)
def mulL (v : Nat) : List Int := stk (toW v ++ toW (v / 115792089237316195423570985008687907853269984665640564039457584007913129639936))
theorem valL_four (a b c d : Int) : valL [a, b, c, d] = valW [a, b, c, d] := by
  show a.toNat + 18446744073709551616 * (b.toNat + 18446744073709551616 * (c.toNat + 18446744073709551616 * (d.toNat + 18446744073709551616 * 0))) = a.toNat + 18446744073709551616 * b.toNat + 340282366920938463463374607431768211456 * c.toNat + 6277101735386680763835789423207666416102355444464034512896 * d.toNat
  omega
theorem mulL_of {l : List Int} (h : okU l) (hl : l.length = 8) : l = mulL (valL l) := by
  match l, hl with
  | [a, b, c, d, e, f, g, k], _ =>
    have ha := h a (by simp)
    have hb := h b (by simp)
    have hc := h c (by simp)
    have hd := h d (by simp)
    have he := h e (by simp)
    have hf := h f (by simp)
    have hg := h g (by simp)
    have hk := h k (by simp)
    obtain ⟨a, rfl⟩ := Int.eq_ofNat_of_zero_le ha.1
    obtain ⟨b, rfl⟩ := Int.eq_ofNat_of_zero_le hb.1
    obtain ⟨c, rfl⟩ := Int.eq_ofNat_of_zero_le hc.1
    obtain ⟨d, rfl⟩ := Int.eq_ofNat_of_zero_le hd.1
    obtain ⟨e, rfl⟩ := Int.eq_ofNat_of_zero_le he.1
    obtain ⟨f, rfl⟩ := Int.eq_ofNat_of_zero_le hf.1
    obtain ⟨g, rfl⟩ := Int.eq_ofNat_of_zero_le hg.1
    obtain ⟨k, rfl⟩ := Int.eq_ofNat_of_zero_le hk.1
    have ev : valL [(a : Int), b, c, d, e, f, g, k] = a + 18446744073709551616 * b + 340282366920938463463374607431768211456 * c + 6277101735386680763835789423207666416102355444464034512896 * d + 115792089237316195423570985008687907853269984665640564039457584007913129639936 * (e + 18446744073709551616 * f + 340282366920938463463374607431768211456 * g + 6277101735386680763835789423207666416102355444464034512896 * k) := by
      simp only [valL, Int.toNat_natCast]
      omega
    have hlow : a + 18446744073709551616 * b + 340282366920938463463374607431768211456 * c + 6277101735386680763835789423207666416102355444464034512896 * d < 115792089237316195423570985008687907853269984665640564039457584007913129639936 := by omega
    unfold mulL
    rw [stk_eq, ev]
    generalize hX : e + 18446744073709551616 * f + 340282366920938463463374607431768211456 * g + 6277101735386680763835789423207666416102355444464034512896 * k = X
    have e1 : toW (a + 18446744073709551616 * b + 340282366920938463463374607431768211456 * c + 6277101735386680763835789423207666416102355444464034512896 * d + 115792089237316195423570985008687907853269984665640564039457584007913129639936 * X) = [(a : Int), b, c, d] :=
      toW_of _ a b c d X (by omega) (by omega) (by omega) (by omega) rfl
    have e3 : (a + 18446744073709551616 * b + 340282366920938463463374607431768211456 * c + 6277101735386680763835789423207666416102355444464034512896 * d + 115792089237316195423570985008687907853269984665640564039457584007913129639936 * X) / 115792089237316195423570985008687907853269984665640564039457584007913129639936 = X := by
      generalize a + 18446744073709551616 * b + 340282366920938463463374607431768211456 * c + 6277101735386680763835789423207666416102355444464034512896 * d = Y at *
      omega
    have e2 : toW X = [(e : Int), f, g, k] := toW_of _ e f g k 0 (by omega) (by omega) (by omega) (by omega) (by rw [← hX]; rfl)
    rw [e1, e3, e2]
    rfl
def hMOut : Hint := { fuel := none, keep := [15, 16], refs := [(3, 3, 118, .dead), (4, 4, 118, .dead), (5, 5, 118, .dead), (6, 6, 200, .dead)] }
def hMOutO : Hint := { fuel := none, keep := [], refs := [(4, 4, 118, .dead), (5, 5, 118, .dead), (6, 6, 200, .dead)] }
noncomputable def stepMOut (R : Type) (vs : List AV) (k1 : List AV → Option R) (k2 : Nat → List AV → Option R) : Option R :=
  match vs with
  | [.ints 4 .u64 b, .ints 4 .u64 r4, .ints 4 .u64 r5, .ints 8 .u64 out, .ints 4 .u64 a, .int .i64 i] =>
    bif decide (i < 4) then chk (decide (0 ≤ i) && decide (i < 4)) (chk (okM (a.getD i.toNat 0) b i out) (chk (decide (0 ≤ (w64 (i + 4))) && decide ((w64 (i + 4)) < 8))
      (k1 [.ints 4 .u64 b, .ints 4 .u64 r4, .ints 4 .u64 r5, .ints 8 .u64 ((rowO (a.getD i.toNat 0) b i out).set (w64 (i + 4)).toNat (rowC (a.getD i.toNat 0) b i out)), .ints 4 .u64 a, .int .i64 (w64 (i + 1))])))
    else k2 0 [.ints 4 .u64 r4, .ints 4 .u64 r5, .ints 8 .u64 out]
  | _ => none
noncomputable def leMOut : LEnt :=
  { inn := hMOut
    out := hMOutO
    ret := hMOutO
    go := fun _ _ vs kk => match vs with
      | [.ints 4 .u64 b, .ints 4 .u64 r4, .ints 4 .u64 r5, .ints 8 .u64 [0, 0, 0, 0, 0, 0, 0, 0], .ints 4 .u64 a, .int .i64 0] =>
        chk (okW a && okW b) (kk 0 [.ints 4 .u64 r4, .ints 4 .u64 r5, .ints 8 .u64 (mulL (valW a * valW b))])
      | _ => none }
theorem step_mOut (R : Type) (b r4 r5 out a : List Int) (i : Int) (k1 : List AV → Option R) (k2 : Nat → List AV → Option R) :
    runA (env Tryz.f113.ntmps orcMul [(2, leMIn)]) (loopOf 0 (bodyC Tryz.f113)) 0 (stateOf leMOut.inn [.ints 4 .u64 b, .ints 4 .u64 r4, .ints 4 .u64 r5, .ints 8 .u64 out, .ints 4 .u64 a, .int .i64 i]) (bodyK leMOut 0 k1 k2) =
    stepMOut R [.ints 4 .u64 b, .ints 4 .u64 r4, .ints 4 .u64 r5, .ints 8 .u64 out, .ints 4 .u64 a, .int .i64 i] k1 k2 := by kernel_rfl
theorem go_mOut (R : Type) (n : Nat) (vs : List AV) (kk : Nat → List AV → Option R) (r : R) (h : leMOut.go R n vs kk = some r) : ∃ m, loopN (stepMOut R) m vs kk = some r := by
  simp only [leMOut] at h
  split at h
  · rename_i b r4 r5 a
    obtain ⟨hg, hk⟩ := chk_some h
    clear h
    simp only [Bool.and_eq_true] at hg
    obtain ⟨ha, hb⟩ := hg
    have ha' := okW_okU ha
    have hb' := okW_okU hb
    obtain ⟨a0, a1, a2, a3, rfl, _⟩ := okW_split ha
    obtain ⟨b0, b1, b2, b3, rfl, _⟩ := okW_split hb
    have ok := outM_ok ha' hb' rfl rfl
    have hfin : outM [a0, a1, a2, a3] [b0, b1, b2, b3] 4 = mulL (valW [a0, a1, a2, a3] * valW [b0, b1, b2, b3]) := by
      obtain ⟨o1, o2, o3, _⟩ := ok 4 (by decide)
      rw [← valL_four, ← valL_four]
      rw [show ([a0, a1, a2, a3] : List Int).take 4 = [a0, a1, a2, a3] from rfl] at o3
      rw [← o3]
      exact mulL_of o1 o2
    rw [← hfin] at hk
    have rd : ∀ (i f : Nat), i < 4 → loopN (stepMOut R) (f + 1) [.ints 4 .u64 [b0, b1, b2, b3], .ints 4 .u64 r4, .ints 4 .u64 r5, .ints 8 .u64 (outM [a0, a1, a2, a3] [b0, b1, b2, b3] i), .ints 4 .u64 [a0, a1, a2, a3], .int .i64 i] kk =
        loopN (stepMOut R) f [.ints 4 .u64 [b0, b1, b2, b3], .ints 4 .u64 r4, .ints 4 .u64 r5, .ints 8 .u64 (outM [a0, a1, a2, a3] [b0, b1, b2, b3] (i + 1)), .ints 4 .u64 [a0, a1, a2, a3], .int .i64 ((i + 1 : Nat) : Int)] kk := by
      intro i f hi
      obtain ⟨o1, o2, _, _⟩ := ok i (by omega)
      have hx := okU_get ha' i
      have hM : okM ([a0, a1, a2, a3].getD i 0) [b0, b1, b2, b3] i (outM [a0, a1, a2, a3] [b0, b1, b2, b3] i) = true := okM_iff.2 ⟨⟨⟨⟨⟨hx, hb⟩, o1⟩, o2⟩, by omega⟩, by omega⟩
      have hw : w64 ((i : Int) + 4) = ((i + 4 : Nat) : Int) := by rw [w64_small (by omega) (by omega)]; omega
      have hw1 : w64 ((i : Int) + 1) = ((i + 1 : Nat) : Int) := by rw [w64_small (by omega) (by omega)]; omega
      rw [loopN]
      simp only [stepMOut, hw, hw1, Int.toNat_natCast]
      rw [decide_eq_true (show (i : Int) < 4 by omega), decide_eq_true (show (0 : Int) ≤ (i : Int) by omega), decide_eq_true (show (0 : Int) ≤ ((i + 4 : Nat) : Int) by omega), decide_eq_true (show ((i + 4 : Nat) : Int) < 8 by omega), hM]
      unfold rowO rowC
      rw [stk_eq, stk_eq, Int.toNat_natCast]
      rfl
    refine ⟨5, ?_⟩
    refine (rd 0 4 (by decide)).trans ((rd 1 3 (by decide)).trans ((rd 2 2 (by decide)).trans ((rd 3 1 (by decide)).trans ?_)))
    exact hk
  · cases h
def sp_wMul : List AV → Option (Bool × AV)
  | [.ints 4 .u64 a, .ints 4 .u64 b] => some (okW a && okW b, .tup [.ints 4 .u64 (toW (valW a * valW b)), .ints 4 .u64 (toW (valW a * valW b / 115792089237316195423570985008687907853269984665640564039457584007913129639936))])
  | _ => none
theorem run_wMul (a b : List Int) : callA (env Tryz.f113.ntmps orcMul [(0, leMOut)]) (bodyC Tryz.f113) Tryz.f113.results.toList (slots 0 [.ints 4 .u64 a, .ints 4 .u64 b]) some =
    chk (okW a && okW b) (some (.tup [.ints 4 .u64 (((mulL (valW a * valW b)).drop 0).take 4), .ints 4 .u64 (((mulL (valW a * valW b)).drop 4).take 4)])) := by kernel_rfl
theorem mulL_parts (v : Nat) : ((mulL v).drop 0).take 4 = toW v ∧ ((mulL v).drop 4).take 4 = toW (v / 115792089237316195423570985008687907853269984665640564039457584007913129639936) := by
  unfold mulL
  rw [stk_eq]
  generalize v / 115792089237316195423570985008687907853269984665640564039457584007913129639936 = q
  rw [toW_def v, toW_def q]
  exact ⟨rfl, rfl⟩
theorem ok_wMul : EntOk Tryz.prog 113 (entS false sp_wMul) := by
  have hin : LoopOk Tryz.prog Tryz.f113.ntmps [(2, leMIn)] 2 (.loop inMul) := by
    refine loopS (le := leMIn) (orc := orcMul) (lo' := []) (orc_cons ok_mul64 (orc_cons ok_add64 orc_nil)) (by kernel_rfl) rfl (loops_none (by kernel_rfl)) stepMIn (fun R vs k1 k2 r h => ?_) go_mIn
    have h0 := h
    unfold stepMIn at h
    split at h
    · exact (step_mIn R _ _ _ _ _ _ _ _ _ _ _ k1 k2).trans h0
    · cases h
  refine contractS (orc := orcMul) (lo := [(0, leMOut)]) Tryz.func113 (orc_cons ok_mul64 (orc_cons ok_add64 orc_nil)) (by kernel_rfl) (by kernel_rfl) (by kernel_rfl)
    (loops_one (id := 0) (y := .loop (loopOf 0 (bodyC Tryz.f113))) (by kernel_rfl)
      (loopS (le := leMOut) (orc := orcMul) (lo' := [(2, leMIn)]) (orc_cons ok_mul64 (orc_cons ok_add64 orc_nil)) (by kernel_rfl) rfl (loops_one (id := 2) (y := .loop inMul) (by kernel_rfl) hin) stepMOut (fun R vs k1 k2 r h => ?_) go_mOut)) fun args r h => ?_
  · have h0 := h
    unfold stepMOut at h
    split at h
    · exact (step_mOut R _ _ _ _ _ _ k1 k2).trans h0
    · cases h
  · unfold sp_wMul at h
    split at h
    · rename_i a b
      simp only [Option.some.injEq, Prod.mk.injEq] at h
      obtain ⟨hg, rfl⟩ := h
      refine ⟨by kernel_rfl, .inr rfl, (run_wMul a b).trans ?_⟩
      rw [hg, (mulL_parts _).1, (mulL_parts _).2]
      rfl
    · cases h
end
end Go.Proofs.YtbakldcbaikgpaaGreatDoor
/- prod: sign, nothing, loud, exact, Mul, Fma. Own work. -/
namespace Go.Proofs.YtbakldcbaikgpaaGreatDoor
set_option maxRecDepth 100000
noncomputable section
/-! ### sign -/
def sgX (a b : Nat) : Nat := if sgB a = sgB b then 0 else 9223372036854775808
def pgK (a b : Int) : Int := ((stk (sgX a.toNat b.toNat) : Nat) : Int)
def sp_pSign : List AV → Option (Bool × AV)
  | [.int .u64 a, .int .u64 b] => some (inU a && inU b, .int .u64 (pgK a b))
  | _ => none
theorem run_pSign (a b : Int) : callA (env Tryz.f70.ntmps [] []) (bodyC Tryz.f70) Tryz.f70.results.toList (slots 0 [.int .u64 a, .int .u64 b]) some =
    some (.int .u64 (andI .u64 (xorI .u64 a b) 9223372036854775808)) := by kernel_rfl
theorem xorU (x y : Nat) (hx : x < 18446744073709551616) (hy : y < 18446744073709551616) : xorI .u64 (x : Int) (y : Int) = ((x ^^^ y : Nat) : Int) ∧ x ^^^ y < 18446744073709551616 := by
  have hlt : x ^^^ y < 2 ^ 64 := Nat.xor_lt_two_pow hx hy
  have hlt' : x ^^^ y < 18446744073709551616 := hlt
  refine ⟨?_, hlt'⟩
  unfold xorI
  rw [IntKind.wrap_u64, BitVec.toNat_xor]
  simp only [IntKind.bits]
  rw [ofInt_nat x hx, ofInt_nat y hy]
  omega
theorem sign_xor (x y : Nat) (hx : x < 18446744073709551616) (hy : y < 18446744073709551616) : andI .u64 (xorI .u64 (x : Int) (y : Int)) 9223372036854775808 = ((sgX x y : Nat) : Int) := by
  obtain ⟨h1, h2⟩ := xorU x y hx hy
  rw [h1, and63 _ h2]
  unfold sgnN sgX sgB
  have h3 : (x ^^^ y) / 2 ^ 63 = x / 2 ^ 63 ^^^ y / 2 ^ 63 := Nat.xor_div_two_pow
  rw [show (2 : Nat) ^ 63 = 9223372036854775808 from rfl] at h3
  rw [h3]
  have a1 : x / 9223372036854775808 = 0 ∧ decide (9223372036854775808 ≤ x) = false ∨ x / 9223372036854775808 = 1 ∧ decide (9223372036854775808 ≤ x) = true := by
    by_cases h : 9223372036854775808 ≤ x
    · exact .inr ⟨by omega, decide_eq_true h⟩
    · exact .inl ⟨by omega, decide_eq_false h⟩
  have a2 : y / 9223372036854775808 = 0 ∧ decide (9223372036854775808 ≤ y) = false ∨ y / 9223372036854775808 = 1 ∧ decide (9223372036854775808 ≤ y) = true := by
    by_cases h : 9223372036854775808 ≤ y
    · exact .inr ⟨by omega, decide_eq_true h⟩
    · exact .inl ⟨by omega, decide_eq_false h⟩
  rcases a1 with ⟨e1, e2⟩ | ⟨e1, e2⟩ <;> rcases a2 with ⟨e3, e4⟩ | ⟨e3, e4⟩ <;> rw [e1, e2, e3, e4] <;> rfl
theorem ok_pSign : EntOk Tryz.prog 70 (entS false sp_pSign) := by
  refine contractS (orc := []) (lo := []) Tryz.func70 orc_nil (by kernel_rfl) (by kernel_rfl) (by kernel_rfl) (loops_none (by kernel_rfl)) fun args r h => ?_
  unfold sp_pSign at h
  split at h
  · rename_i a b
    simp only [Option.some.injEq, Prod.mk.injEq, Bool.and_eq_true] at h
    obtain ⟨⟨ha, hb⟩, rfl⟩ := h
    obtain ⟨a, rfl, ha'⟩ := nat_of ha
    obtain ⟨b, rfl, hb'⟩ := nat_of hb
    refine ⟨by kernel_rfl, .inr rfl, (run_pSign a b).trans ?_⟩
    rw [sign_xor a b ha' hb']
    unfold pgK
    rw [stk_eq, Int.toNat_natCast, Int.toNat_natCast]
  · cases h
/-! ### nothing -/
def noXN (a b : Nat) : Bool := decide (absN a = 0 ∧ absN b = infN ∨ absN a = infN ∧ absN b = 0)
def noX (a b : Int) : Bool := stk (noXN a.toNat b.toNat)
def sp_pNo : List AV → Option (Bool × AV)
  | [.int .u64 a, .int .u64 b] => some (inU a && inU b, .bool (noX a b))
  | _ => none
def pnT (x y : Int) : Option AV := bif x == 0 then bif y == 9218868437227405312 then some (.bool true) else bif x == 9218868437227405312 then some (.bool (y == 0)) else some (.bool false) else bif x == 9218868437227405312 then some (.bool (y == 0)) else some (.bool false)
theorem run_pNo (a b : Int) : callA (env Tryz.f68.ntmps orcAbs []) (bodyC Tryz.f68) Tryz.f68.results.toList (slots 0 [.int .u64 a, .int .u64 b]) some =
    chk (inU a) (chk (inU b) (pnT ((absN a.toNat : Nat) : Int) ((absN b.toNat : Nat) : Int))) := by kernel_rfl
theorem pnT_at (x y : Nat) : pnT (x : Int) (y : Int) = some (.bool (decide (x = 0 ∧ y = infN ∨ x = infN ∧ y = 0))) := by
  unfold pnT infN
  by_cases h1 : x = 0
  · subst h1
    by_cases h2 : y = 9218868437227405312
    · rw [beq_iff_eq.2 (show (y : Int) = 9218868437227405312 by omega), decide_eq_true (.inl ⟨rfl, h2⟩)]; rfl
    · rw [beq_eq_false_iff_ne.2 (show (y : Int) ≠ 9218868437227405312 by omega), decide_eq_false (by omega)]; rfl
  · rw [beq_eq_false_iff_ne.2 (show (x : Int) ≠ 0 by omega)]
    by_cases h2 : x = 9218868437227405312
    · rw [beq_iff_eq.2 (show (x : Int) = 9218868437227405312 by omega)]
      by_cases h3 : y = 0
      · rw [beq_iff_eq.2 (show (y : Int) = 0 by omega), decide_eq_true (.inr ⟨h2, h3⟩)]; rfl
      · rw [beq_eq_false_iff_ne.2 (show (y : Int) ≠ 0 by omega), decide_eq_false (by omega)]; rfl
    · rw [beq_eq_false_iff_ne.2 (show (x : Int) ≠ 9218868437227405312 by omega), decide_eq_false (by omega)]; rfl
theorem ok_pNo : EntOk Tryz.prog 68 (entS false sp_pNo) := by
  refine contractS (orc := orcAbs) (lo := []) Tryz.func68 (orc_cons ok_pAbs orc_nil) (by kernel_rfl) (by kernel_rfl) (by kernel_rfl) (loops_none (by kernel_rfl)) fun args r h => ?_
  unfold sp_pNo at h
  split at h
  · rename_i a b
    simp only [Option.some.injEq, Prod.mk.injEq, Bool.and_eq_true] at h
    obtain ⟨⟨ha, hb⟩, rfl⟩ := h
    refine ⟨by kernel_rfl, .inr rfl, (run_pNo a b).trans ?_⟩
    rw [ha, hb, pnT_at]
    unfold noX noXN
    rw [stk_eq]
    rfl
  · cases h
/-! ### loud -/
def ld3N (a b c : Nat) : Nat := if clN a = 5 ∨ clN b = 5 ∨ clN c = 5 then 1 else 0
def ld2 (a b : Int) : Int := ((noG a.toNat b.toNat : Nat) : Int)
def ld3 (a b c : Int) : Int := ((stk (ld3N a.toNat b.toNat c.toNat) : Nat) : Int)
def sp_loud : List AV → Option (Bool × AV)
  | [.sl (.ints 2 .u64 [p, q])] => some (inU p && inU q, .int .u8 (ld2 p q))
  | [.sl (.ints 3 .u64 [p, q, r])] => some (inU p && inU q && inU r, .int .u8 (ld3 p q r))
  | _ => none
def ldT (f : Int) : Option AV := some (.int .u8 f)
theorem run_loud2 (p q : Int) : callA (env Tryz.f67.ntmps [(76, entS false sp_class)] []) (bodyC Tryz.f67) Tryz.f67.results.toList (slots 0 [.sl (.ints 2 .u64 [p, q])]) some =
    chk (inU p) (bif tC p.toNat == 5 then ldT 1 else chk (inU q) (bif tC q.toNat == 5 then ldT 1 else ldT 0)) := by kernel_rfl
theorem run_loud3 (p q r : Int) : callA (env Tryz.f67.ntmps [(76, entS false sp_class)] []) (bodyC Tryz.f67) Tryz.f67.results.toList (slots 0 [.sl (.ints 3 .u64 [p, q, r])]) some =
    chk (inU p) (bif tC p.toNat == 5 then ldT 1 else chk (inU q) (bif tC q.toNat == 5 then ldT 1 else chk (inU r) (bif tC r.toNat == 5 then ldT 1 else ldT 0))) := by kernel_rfl
theorem ok_loud : EntOk Tryz.prog 67 (entS false sp_loud) := by
  refine contractS (orc := [(76, entS false sp_class)]) (lo := []) Tryz.func67 (orc_cons ok_class orc_nil) (by kernel_rfl) (by kernel_rfl) (by kernel_rfl) (loops_none (by kernel_rfl)) fun args r h => ?_
  unfold sp_loud at h
  split at h
  · rename_i p q
    simp only [Option.some.injEq, Prod.mk.injEq, Bool.and_eq_true] at h
    obtain ⟨⟨hp, hq⟩, rfl⟩ := h
    refine ⟨by kernel_rfl, .inr rfl, (run_loud2 p q).trans ?_⟩
    unfold ld2 noG noGN tC
    rw [stk_eq, stk_eq, stk_eq, hp, hq]
    by_cases h5 : clN p.toNat = 5
    · rw [h5, if_pos (.inl rfl)]; rfl
    · rw [beq_eq_false_iff_ne.2 h5]
      by_cases h6 : clN q.toNat = 5
      · rw [h6, if_pos (.inr rfl)]; rfl
      · rw [beq_eq_false_iff_ne.2 h6, if_neg (show ¬ (clN p.toNat = 5 ∨ clN q.toNat = 5) by simp [h5, h6])]; rfl
  · rename_i p q r
    simp only [Option.some.injEq, Prod.mk.injEq, Bool.and_eq_true] at h
    obtain ⟨⟨⟨hp, hq⟩, hr⟩, rfl⟩ := h
    refine ⟨by kernel_rfl, .inr rfl, (run_loud3 p q r).trans ?_⟩
    unfold ld3 ld3N tC
    rw [stk_eq, stk_eq, stk_eq, stk_eq, hp, hq, hr]
    by_cases h5 : clN p.toNat = 5
    · rw [h5, if_pos (.inl rfl)]; rfl
    · rw [beq_eq_false_iff_ne.2 h5]
      by_cases h6 : clN q.toNat = 5
      · rw [h6, if_pos (.inr (.inl rfl))]; rfl
      · rw [beq_eq_false_iff_ne.2 h6]
        by_cases h7 : clN r.toNat = 5
        · rw [h7, if_pos (.inr (.inr rfl))]; rfl
        · rw [beq_eq_false_iff_ne.2 h7, if_neg (show ¬ (clN p.toNat = 5 ∨ clN q.toNat = 5 ∨ clN r.toNat = 5) by simp [h5, h6, h7])]; rfl
  · cases h
/-! ### exact -/
def pdM (a b : Nat) : Bool := !(sgB a == sgB b)
def pdX (a b : Nat) : Int := exN a + exN b
def pdS (a b : Nat) : Nat := sigN a * sigN b
def pdMk (a b : Int) : Bool := stk (pdM a.toNat b.toNat)
def pdXk (a b : Int) : Int := stk (pdX a.toNat b.toNat)
def pdSk (a b : Int) : Nat := stk (pdS a.toNat b.toNat)
def sp_pExact : List AV → Option (Bool × AV)
  | [.int .u64 a, .int .u64 b] => some (inU a && inU b, .st [.bool (pdMk a b), .int .i64 (pdXk a b), .ints 4 .u64 (toW (pdSk a b)), .bool false])
  | _ => none
def orcPE : List (FuncId × Ent) := [(112, entS false sp_take), (114, entS false sp_wOf), (113, entS false sp_wMul)]
theorem run_pExact (a b : Int) : callA (env Tryz.f72.ntmps orcPE []) (bodyC Tryz.f72) Tryz.f72.results.toList (slots 0 [.int .u64 a, .int .u64 b]) some =
    chk (inU a) (chk (inU b) (chk (inU ((tS a.toNat : Nat) : Int)) (chk (inU ((tS b.toNat : Nat) : Int)) (chk (okW (toW ((tS a.toNat : Nat) : Int).toNat) && okW (toW ((tS b.toNat : Nat) : Int).toNat))
      (some (.st [.bool (!((tM a.toNat) == (tM b.toNat))), .int .i64 (w64 ((tX a.toNat) + (tX b.toNat))), .ints 4 .u64 (toW (valW (toW ((tS a.toNat : Nat) : Int).toNat) * valW (toW ((tS b.toNat : Nat) : Int).toNat))), .bool false])))))) := by kernel_rfl
theorem ok_pExact : EntOk Tryz.prog 72 (entS false sp_pExact) := by
  refine contractS (orc := orcPE) (lo := []) Tryz.func72 (orc_cons ok_take (orc_cons ok_wOf (orc_cons ok_wMul orc_nil))) (by kernel_rfl) (by kernel_rfl) (by kernel_rfl) (loops_none (by kernel_rfl)) fun args r h => ?_
  unfold sp_pExact at h
  split at h
  · rename_i a b
    simp only [Option.some.injEq, Prod.mk.injEq, Bool.and_eq_true] at h
    obtain ⟨⟨ha, hb⟩, rfl⟩ := h
    refine ⟨by kernel_rfl, .inr rfl, (run_pExact a b).trans ?_⟩
    have x1 := ex_range a.toNat
    have x2 := ex_range b.toNat
    unfold pdMk pdXk pdSk pdM pdX pdS sgB tS tX tM
    simp only [stk_eq]
    rw [ha, hb, inU_sig, inU_sig, Int.toNat_natCast, Int.toNat_natCast, okW_toW, okW_toW, valW_sig, valW_sig, w64_mid (by omega) (by omega)]
    rfl
  · cases h
theorem pdS_lt (a b : Nat) : pdS a b < 2 ^ 106 := by
  have h1 := sig_lt a
  have h2 := sig_lt b
  have h3 : sigN a * sigN b ≤ 9007199254740991 * 9007199254740991 := Nat.mul_le_mul (by omega) (by omega)
  unfold pdS
  exact Nat.lt_of_le_of_lt h3 (by decide)
theorem valW_pdS (a b : Nat) : valW (toW (pdS a b)) = pdS a b := by
  rw [valW_toW]
  exact Nat.mod_eq_of_lt (Nat.lt_trans (pdS_lt a b) (by decide))
/-! ### Mul -/
def infX (a b : Nat) : Nat := infN + sgX a b
theorem or_inf (a b : Nat) : orI .u64 9218868437227405312 ((sgX a b : Nat) : Int) = ((infX a b : Nat) : Int) := by
  unfold infX infN sgX
  split <;> decide +kernel
def nzz (a b : Nat) : Prop := absN a = 0 ∧ absN b = infN ∨ absN a = infN ∧ absN b = 0
instance (a b : Nat) : Decidable (nzz a b) := by unfold nzz; infer_instance
def orcMul6 : List (FuncId × Ent) := [(66, entS false sp_isNaN), (69, entS false sp_fin), (70, entS false sp_pSign), (68, entS false sp_pNo), (67, entS false sp_loud), (72, entS false sp_pExact), (71, entS false sp_round)]
def tup6 (p f : Int) : Option AV := some (.tup [.int .u64 p, .int .u8 f])
/-! ### Fma -/
def fmJ (a b c : Nat) (k : Int) : Nm := jn (pdM a b) (pdX a b) (pdS a b) (sgB c) (exN c) (sigN c) k
def fmPN (a b c : Nat) (k : Int) : Nat :=
  if nzz a b then nanC else if infN < absN a ∨ infN < absN b ∨ infN < absN c then nanC else if absN a = infN ∨ absN b = infN then adPN (infX a b) c k else if absN c = infN then c else
    rndP (fmJ a b c k).m (nS (fmJ a b c k).s (fmJ a b c k).r) (nE (fmJ a b c k).x (fmJ a b c k).r) k
def fmFN (a b c : Nat) (k : Int) : Nat :=
  if nzz a b then 1 else if infN < absN a ∨ infN < absN b ∨ infN < absN c then ld3N a b c else if absN a = infN ∨ absN b = infN then adFN (infX a b) c k else if absN c = infN then 0 else
    rndF (fmJ a b c k).m (nS (fmJ a b c k).s (fmJ a b c k).r) (nE (fmJ a b c k).x (fmJ a b c k).r) k
def fmP (a b c : Nat) (k : Int) : Nat := stk (fmPN a b c k)
def fmF (a b c : Nat) (k : Int) : Nat := stk (fmFN a b c k)
def sp_fma : List AV → Option (Bool × AV)
  | [.int .u64 a, .int .u64 b, .int .u64 c, .int .i64 k] => some (inU a && inU b && inU c, .tup [.int .u64 ((fmP a.toNat b.toNat c.toNat k : Nat) : Int), .int .u8 ((fmF a.toNat b.toNat c.toNat k : Nat) : Int)])
  | _ => none
def orcFma : List (FuncId × Ent) := (48, entS false sp_add) :: (74, entB false sp_exact5) :: (73, entB false sp_rOf) :: orcMul6
def fm3 (a b c : Int) : Option AV := chk (inU a && inU b && inU c) (tup6 9221120237041090560 (ld3 a b c))
def fmA (s c k : Int) : Option AV := chk (inU s && inU c) (tup6 ((adP s.toNat c.toNat k : Nat) : Int) ((adF s.toNat c.toNat k : Nat) : Int))
def fmZ (J : Nm) (k : Int) : Option AV := chk (okW (toW J.s)) (tup6 ((pR J.m (toW J.s) J.x J.r k : Nat) : Int) ((fR J.m (toW J.s) J.x J.r k : Nat) : Int))
def fmE (a b c k : Int) : Option AV :=
  chk (inU a && inU b) (chk (okW (toW (pdSk a b)) && okW (toW (tS c.toNat))) (bif !(rtB (toW (pdSk a b)) (pdXk a b) false) then tup6 9221120237041090560 1 else bif !(rtB (toW (tS c.toNat)) (tX c.toNat) false) then tup6 9221120237041090560 1 else
    fmZ (jJ (pdMk a b) (pdXk a b) (toW (pdSk a b)) (tM c.toNat) (tX c.toNat) (toW (tS c.toNat)) k) k))
theorem run_fma (a b c k : Int) : callA (env Tryz.f45.ntmps orcFma []) (bodyC Tryz.f45) Tryz.f45.results.toList (slots 0 [.int .u64 a, .int .u64 b, .int .u64 c, .int .i64 k]) some =
    chk (inU a && inU b) (chk (inU a && inU b) (bif noX a b then tup6 9221120237041090560 1 else chk (inU a) (bif nanB a.toNat then fm3 a b c else chk (inU b) (bif nanB b.toNat then fm3 a b c else chk (inU c) (bif nanB c.toNat then fm3 a b c else
      chk (inU a) (bif !(finB a.toNat) then fmA (orI .u64 9218868437227405312 (pgK a b)) c k else chk (inU b) (bif !(finB b.toNat) then fmA (orI .u64 9218868437227405312 (pgK a b)) c k else chk (inU c) (bif !(finB c.toNat) then tup6 c 0 else
        chk (inU c) (bif finB c.toNat then fmE a b c k else tup6 9221120237041090560 1))))))))) := by kernel_rfl
theorem infX_abs (a b : Nat) : infX a b < 18446744073709551616 := by
  unfold infX sgX infN
  split <;> omega
theorem fmE_at (a b c : Nat) (k : Int) (ha : inU (a : Int) = true) (hb : inU (b : Int) = true) : fmE a b c k = tup6 ((rndP (fmJ a b c k).m (nS (fmJ a b c k).s (fmJ a b c k).r) (nE (fmJ a b c k).x (fmJ a b c k).r) k : Nat) : Int) ((rndF (fmJ a b c k).m (nS (fmJ a b c k).s (fmJ a b c k).r) (nE (fmJ a b c k).x (fmJ a b c k).r) k : Nat) : Int) := by
  have l1 : lenN (pdS a b) ≤ 106 := lenN_le.2 (pdS_lt a b)
  have l2 := len_sig c
  have x1 := ex_range a
  have x2 := ex_range b
  have x3 := ex_range c
  have hs := jn_small (S := pdS a b) (T := sigN c) (by omega) (by omega) (pdM a b) (sgB c) (pdX a b) (exN c) k
  have hx : pdX a b = exN a + exN b := rfl
  have r1 : rtB (toW (pdS a b)) (pdX a b) false = true := rtB_iff.2 ⟨by rw [valW_pdS]; omega, rfl, by omega, by omega⟩
  have r2 : rtB (toW (sigN c)) (exN c) false = true := rtB_iff.2 ⟨by rw [valW_sig]; omega, rfl, by omega, by omega⟩
  unfold fmE fmZ pdMk pdXk pdSk tM tX tS jJ pR fR
  simp only [stk_eq, Int.toNat_natCast]
  rw [ha, hb, okW_toW, okW_toW, r1, r2, valW_pdS, valW_sig]
  show chk (okW (toW (fmJ a b c k).s)) (tup6 ((rndP (fmJ a b c k).m (nS (valW (toW (fmJ a b c k).s)) (fmJ a b c k).r) (nE (fmJ a b c k).x (fmJ a b c k).r) k : Nat) : Int) ((rndF (fmJ a b c k).m (nS (valW (toW (fmJ a b c k).s)) (fmJ a b c k).r) (nE (fmJ a b c k).x (fmJ a b c k).r) k : Nat) : Int)) = _
  rw [okW_toW, valW_toW, Nat.mod_eq_of_lt (show (fmJ a b c k).s < 115792089237316195423570985008687907853269984665640564039457584007913129639936 from hs)]
  rfl
theorem ok_fma : EntOk Tryz.prog 45 (entS false sp_fma) := by
  refine contractS (orc := orcFma) (lo := []) Tryz.func45 (orc_cons ok_add5 (orc_cons ok_exact5 (orc_cons ok_rOf (orc_cons ok_isNaN (orc_cons ok_fin (orc_cons ok_pSign (orc_cons ok_pNo (orc_cons ok_loud (orc_cons ok_pExact (orc_cons ok_round orc_nil)))))))))) (by kernel_rfl) (by kernel_rfl) (by kernel_rfl) (loops_none (by kernel_rfl)) fun args r h => ?_
  unfold sp_fma at h
  split at h
  · rename_i a b c k
    simp only [Option.some.injEq, Prod.mk.injEq, Bool.and_eq_true] at h
    obtain ⟨⟨⟨ha, hb⟩, hc⟩, rfl⟩ := h
    obtain ⟨m, rfl, hm⟩ := nat_of ha
    obtain ⟨n, rfl, hn⟩ := nat_of hb
    obtain ⟨c, rfl, hc'⟩ := nat_of hc
    refine ⟨by kernel_rfl, .inr rfl, (run_fma m n c k).trans ?_⟩
    have hE := fmE_at m n c k ha hb
    have hi : inU ((infX m n : Nat) : Int) = true := inU_iff.2 (by have := infX_abs m n; omega)
    unfold fm3 fmA noX noXN pgK ld3 nanB finB fmP fmF
    simp only [stk_eq, Int.toNat_natCast]
    rw [ha, hb, hc, or_inf, hi, hE]
    unfold fmPN fmFN adP adF
    simp only [stk_eq, Int.toNat_natCast]
    clear hE
    by_cases z : nzz m n
    · rw [if_pos z, if_pos z]
      unfold nzz at z
      rw [decide_eq_true z]; rfl
    rw [if_neg z, if_neg z]
    unfold nzz at z
    rw [decide_eq_false z]
    by_cases n1 : infN < absN m
    · rw [decide_eq_true n1, if_pos (.inl n1), if_pos (.inl n1)]; rfl
    by_cases n2 : infN < absN n
    · rw [decide_eq_false n1, decide_eq_true n2, if_pos (.inr (.inl n2)), if_pos (.inr (.inl n2))]; rfl
    by_cases n4 : infN < absN c
    · rw [decide_eq_false n1, decide_eq_false n2, decide_eq_true n4, if_pos (.inr (.inr n4)), if_pos (.inr (.inr n4))]; rfl
    have n3 : ¬ (infN < absN m ∨ infN < absN n ∨ infN < absN c) := by simp [n1, n2, n4]
    rw [decide_eq_false n1, decide_eq_false n2, decide_eq_false n4, if_neg n3, if_neg n3]
    by_cases i1 : absN m = infN
    · rw [if_pos (.inl i1), if_pos (.inl i1), decide_eq_false (show ¬ absN m < infN by omega)]; rfl
    rw [decide_eq_true (show absN m < infN by omega)]
    by_cases i2 : absN n = infN
    · rw [if_pos (.inr i2), if_pos (.inr i2), decide_eq_false (show ¬ absN n < infN by omega)]; rfl
    rw [if_neg (show ¬ (absN m = infN ∨ absN n = infN) by simp [i1, i2]), if_neg (show ¬ (absN m = infN ∨ absN n = infN) by simp [i1, i2]), decide_eq_true (show absN n < infN by omega)]
    by_cases i3 : absN c = infN
    · rw [if_pos i3, if_pos i3, decide_eq_false (show ¬ absN c < infN by omega)]; rfl
    rw [if_neg i3, if_neg i3, decide_eq_true (show absN c < infN by omega)]
    rfl
  · cases h
end
end Go.Proofs.YtbakldcbaikgpaaGreatDoor
/- cplx: both, Add, Sub, More, Mul, Turn. Own work. -/
namespace Go.Proofs.YtbakldcbaikgpaaGreatDoor
set_option maxRecDepth 100000
noncomputable section
abbrev PZ := Int × Int
def okPr (x : PZ) : Bool := inU x.1 && inU x.2
def cAdd (x y : PZ) : PZ := (((adP x.1.toNat y.1.toNat 0 : Nat) : Int), ((adP x.2.toNat y.2.toNat 0 : Nat) : Int))
def cAddF (x y : PZ) : Int := orI .u8 ((adF x.1.toNat y.1.toNat 0 : Nat) : Int) ((adF x.2.toNat y.2.toNat 0 : Nat) : Int)
def cSub (x y : PZ) : PZ := (((adP x.1.toNat (stk (sbQ y.1.toNat)) 0 : Nat) : Int), ((adP x.2.toNat (stk (sbQ y.2.toNat)) 0 : Nat) : Int))
def cSubF (x y : PZ) : Int := orI .u8 ((adF x.1.toNat (stk (sbQ y.1.toNat)) 0 : Nat) : Int) ((adF x.2.toNat (stk (sbQ y.2.toNat)) 0 : Nat) : Int)
def cMore (x : PZ) (b : Int) (y : PZ) : PZ := (((fmP x.1.toNat b.toNat y.1.toNat 0 : Nat) : Int), ((fmP x.2.toNat b.toNat y.2.toNat 0 : Nat) : Int))
def cMoreF (x : PZ) (b : Int) (y : PZ) : Int := orI .u8 ((fmF x.1.toNat b.toNat y.1.toNat 0 : Nat) : Int) ((fmF x.2.toNat b.toNat y.2.toNat 0 : Nat) : Int)
def cTurn (x : PZ) (back : Bool) : PZ := bif back then (x.2, ((negN x.1.toNat : Nat) : Int)) else (((negN x.2.toNat : Nat) : Int), x.1)
/-! ### Patterns stay patterns -/
theorem ad_lt {p q : Nat} (hp : p < 18446744073709551616) (hq : q < 18446744073709551616) (k : Int) : adPN p q k < 18446744073709551616 := by
  unfold adPN
  split
  · decide
  · split
    · decide
    · split
      · exact hp
      · split
        · exact hq
        · unfold rndP
          have := rndP_lt (smM p q k) (smS p q) (min (exN p) (exN q)) k
          unfold sgnOf
          split <;> omega
theorem rnd_lt (m : Bool) (S : Nat) (x k : Int) : rndP m S x k < 18446744073709551616 := by
  have := rndP_lt m S x k
  unfold rndP sgnOf
  split <;> omega
theorem fm_lt (a b : Nat) {c : Nat} (hc : c < 18446744073709551616) (k : Int) : fmPN a b c k < 18446744073709551616 := by
  unfold fmPN
  split
  · decide
  · split
    · decide
    · split
      · exact ad_lt (infX_abs a b) hc k
      · split
        · exact hc
        · exact rnd_lt _ _ _ _
theorem inU_lt {a : Int} (h : inU a = true) : a.toNat < 18446744073709551616 := by have := inU_iff.1 h; omega
theorem inU_nat {n : Nat} (h : n < 18446744073709551616) : inU (n : Int) = true := inU_iff.2 (by omega)
theorem sbQ_lt {q : Nat} (h : q < 18446744073709551616) : sbQ q < 18446744073709551616 := by
  unfold sbQ
  split
  · exact h
  · exact neg_lt q
theorem okPr_iff {x : PZ} : okPr x = true ↔ inU x.1 = true ∧ inU x.2 = true := by unfold okPr; rw [Bool.and_eq_true]
theorem okPr_add {x y : PZ} (hx : okPr x = true) (hy : okPr y = true) : okPr (cAdd x y) = true := by
  obtain ⟨h1, h2⟩ := okPr_iff.1 hx
  obtain ⟨h3, h4⟩ := okPr_iff.1 hy
  unfold cAdd adP
  rw [stk_eq, stk_eq]
  exact okPr_iff.2 ⟨inU_nat (ad_lt (inU_lt h1) (inU_lt h3) 0), inU_nat (ad_lt (inU_lt h2) (inU_lt h4) 0)⟩
theorem okPr_sub {x y : PZ} (hx : okPr x = true) (hy : okPr y = true) : okPr (cSub x y) = true := by
  obtain ⟨h1, h2⟩ := okPr_iff.1 hx
  obtain ⟨h3, h4⟩ := okPr_iff.1 hy
  unfold cSub adP
  simp only [stk_eq]
  exact okPr_iff.2 ⟨inU_nat (ad_lt (inU_lt h1) (sbQ_lt (inU_lt h3)) 0), inU_nat (ad_lt (inU_lt h2) (sbQ_lt (inU_lt h4)) 0)⟩
theorem okPr_more (x : PZ) (b : Int) {y : PZ} (hy : okPr y = true) : okPr (cMore x b y) = true := by
  obtain ⟨h3, h4⟩ := okPr_iff.1 hy
  unfold cMore fmP
  rw [stk_eq, stk_eq]
  exact okPr_iff.2 ⟨inU_nat (fm_lt _ _ (inU_lt h3) 0), inU_nat (fm_lt _ _ (inU_lt h4) 0)⟩
theorem okPr_turn {x : PZ} (hx : okPr x = true) (b : Bool) : okPr (cTurn x b) = true := by
  obtain ⟨h1, h2⟩ := okPr_iff.1 hx
  unfold cTurn
  cases b
  · exact okPr_iff.2 ⟨inU_nat (neg_lt _), h1⟩
  · exact okPr_iff.2 ⟨h2, inU_nat (neg_lt _)⟩
/-! ### both, Add, Sub -/
def sp_both : List AV → Option (Bool × AV)
  | [.func 48, .st [.int .u64 a, .int .u64 b], .st [.int .u64 c, .int .u64 d]] => some (okPr (a, b) && okPr (c, d), .tup [.st [.int .u64 (cAdd (a, b) (c, d)).1, .int .u64 (cAdd (a, b) (c, d)).2], .int .u8 (cAddF (a, b) (c, d))])
  | [.func 90, .st [.int .u64 a, .int .u64 b], .st [.int .u64 c, .int .u64 d]] => some (okPr (a, b) && okPr (c, d), .tup [.st [.int .u64 (cSub (a, b) (c, d)).1, .int .u64 (cSub (a, b) (c, d)).2], .int .u8 (cSubF (a, b) (c, d))])
  | _ => none
def orcBoth : List (FuncId × Ent) := [(48, entS false sp_add), (90, entS false sp_sub)]
theorem run_bothA (a b c d : Int) : callA (env Tryz.f47.ntmps orcBoth []) (bodyC Tryz.f47) Tryz.f47.results.toList (slots 0 [.func 48, .st [.int .u64 a, .int .u64 b], .st [.int .u64 c, .int .u64 d]]) some =
    chk (inU a && inU c) (chk (inU b && inU d) (some (.tup [.st [.int .u64 (cAdd (a, b) (c, d)).1, .int .u64 (cAdd (a, b) (c, d)).2], .int .u8 (cAddF (a, b) (c, d))]))) := by kernel_rfl
theorem run_bothS (a b c d : Int) : callA (env Tryz.f47.ntmps orcBoth []) (bodyC Tryz.f47) Tryz.f47.results.toList (slots 0 [.func 90, .st [.int .u64 a, .int .u64 b], .st [.int .u64 c, .int .u64 d]]) some =
    chk (inU a && inU c) (chk (inU b && inU d) (some (.tup [.st [.int .u64 (cSub (a, b) (c, d)).1, .int .u64 (cSub (a, b) (c, d)).2], .int .u8 (cSubF (a, b) (c, d))]))) := by kernel_rfl
theorem ok_both : EntOk Tryz.prog 47 (entS false sp_both) := by
  refine contractS (orc := orcBoth) (lo := []) Tryz.func47 (orc_cons ok_add5 (orc_cons ok_sub5 orc_nil)) (by kernel_rfl) (by kernel_rfl) (by kernel_rfl) (loops_none (by kernel_rfl)) fun args r h => ?_
  unfold sp_both at h
  split at h
  · rename_i a b c d
    simp only [Option.some.injEq, Prod.mk.injEq, Bool.and_eq_true] at h
    obtain ⟨⟨hx, hy⟩, rfl⟩ := h
    obtain ⟨h1, h2⟩ := okPr_iff.1 hx
    obtain ⟨h3, h4⟩ := okPr_iff.1 hy
    refine ⟨by kernel_rfl, .inr rfl, (run_bothA a b c d).trans ?_⟩
    rw [h1, h2, h3, h4]; rfl
  · rename_i a b c d
    simp only [Option.some.injEq, Prod.mk.injEq, Bool.and_eq_true] at h
    obtain ⟨⟨hx, hy⟩, rfl⟩ := h
    obtain ⟨h1, h2⟩ := okPr_iff.1 hx
    obtain ⟨h3, h4⟩ := okPr_iff.1 hy
    refine ⟨by kernel_rfl, .inr rfl, (run_bothS a b c d).trans ?_⟩
    rw [h1, h2, h3, h4]; rfl
  · cases h
def sp_cAdd : List AV → Option (Bool × AV)
  | [.st [.int .u64 a, .int .u64 b], .st [.int .u64 c, .int .u64 d]] => some (okPr (a, b) && okPr (c, d), .tup [.st [.int .u64 (cAdd (a, b) (c, d)).1, .int .u64 (cAdd (a, b) (c, d)).2], .int .u8 (cAddF (a, b) (c, d))])
  | _ => none
def sp_cSub : List AV → Option (Bool × AV)
  | [.st [.int .u64 a, .int .u64 b], .st [.int .u64 c, .int .u64 d]] => some (okPr (a, b) && okPr (c, d), .tup [.st [.int .u64 (cSub (a, b) (c, d)).1, .int .u64 (cSub (a, b) (c, d)).2], .int .u8 (cSubF (a, b) (c, d))])
  | _ => none
theorem run_cAdd (a b c d : Int) : callA (env Tryz.f29.ntmps [(47, entS false sp_both)] []) (bodyC Tryz.f29) Tryz.f29.results.toList (slots 0 [.st [.int .u64 a, .int .u64 b], .st [.int .u64 c, .int .u64 d]]) some =
    chk (okPr (a, b) && okPr (c, d)) (some (.tup [.st [.int .u64 (cAdd (a, b) (c, d)).1, .int .u64 (cAdd (a, b) (c, d)).2], .int .u8 (cAddF (a, b) (c, d))])) := by kernel_rfl
theorem run_cSub (a b c d : Int) : callA (env Tryz.f58.ntmps [(47, entS false sp_both)] []) (bodyC Tryz.f58) Tryz.f58.results.toList (slots 0 [.st [.int .u64 a, .int .u64 b], .st [.int .u64 c, .int .u64 d]]) some =
    chk (okPr (a, b) && okPr (c, d)) (some (.tup [.st [.int .u64 (cSub (a, b) (c, d)).1, .int .u64 (cSub (a, b) (c, d)).2], .int .u8 (cSubF (a, b) (c, d))])) := by kernel_rfl
theorem ok_cAdd : EntOk Tryz.prog 29 (entS false sp_cAdd) := by
  refine contractS (orc := [(47, entS false sp_both)]) (lo := []) Tryz.func29 (orc_cons ok_both orc_nil) (by kernel_rfl) (by kernel_rfl) (by kernel_rfl) (loops_none (by kernel_rfl)) fun args r h => ?_
  unfold sp_cAdd at h
  split at h
  · rename_i a b c d
    simp only [Option.some.injEq, Prod.mk.injEq] at h
    obtain ⟨hx, rfl⟩ := h
    refine ⟨by kernel_rfl, .inr rfl, (run_cAdd a b c d).trans ?_⟩
    rw [hx]; rfl
  · cases h
theorem ok_cSub : EntOk Tryz.prog 58 (entS false sp_cSub) := by
  refine contractS (orc := [(47, entS false sp_both)]) (lo := []) Tryz.func58 (orc_cons ok_both orc_nil) (by kernel_rfl) (by kernel_rfl) (by kernel_rfl) (loops_none (by kernel_rfl)) fun args r h => ?_
  unfold sp_cSub at h
  split at h
  · rename_i a b c d
    simp only [Option.some.injEq, Prod.mk.injEq] at h
    obtain ⟨hx, rfl⟩ := h
    refine ⟨by kernel_rfl, .inr rfl, (run_cSub a b c d).trans ?_⟩
    rw [hx]; rfl
  · cases h
/-! ### More, Turn -/
def sp_cMore : List AV → Option (Bool × AV)
  | [.st [.int .u64 a, .int .u64 b], .int .u64 y, .st [.int .u64 c, .int .u64 d]] => some (okPr (a, b) && inU y && okPr (c, d), .tup [.st [.int .u64 (cMore (a, b) y (c, d)).1, .int .u64 (cMore (a, b) y (c, d)).2], .int .u8 (cMoreF (a, b) y (c, d))])
  | _ => none
theorem run_cMore (a b y c d : Int) : callA (env Tryz.f61.ntmps [(45, entS false sp_fma)] []) (bodyC Tryz.f61) Tryz.f61.results.toList (slots 0 [.st [.int .u64 a, .int .u64 b], .int .u64 y, .st [.int .u64 c, .int .u64 d]]) some =
    chk (inU a && inU y && inU c) (chk (inU b && inU y && inU d) (some (.tup [.st [.int .u64 (cMore (a, b) y (c, d)).1, .int .u64 (cMore (a, b) y (c, d)).2], .int .u8 (cMoreF (a, b) y (c, d))]))) := by kernel_rfl
theorem ok_cMore : EntOk Tryz.prog 61 (entS false sp_cMore) := by
  refine contractS (orc := [(45, entS false sp_fma)]) (lo := []) Tryz.func61 (orc_cons ok_fma orc_nil) (by kernel_rfl) (by kernel_rfl) (by kernel_rfl) (loops_none (by kernel_rfl)) fun args r h => ?_
  unfold sp_cMore at h
  split at h
  · rename_i a b y c d
    simp only [Option.some.injEq, Prod.mk.injEq, Bool.and_eq_true] at h
    obtain ⟨⟨⟨hx, hy⟩, hz⟩, rfl⟩ := h
    obtain ⟨h1, h2⟩ := okPr_iff.1 hx
    obtain ⟨h3, h4⟩ := okPr_iff.1 hz
    refine ⟨by kernel_rfl, .inr rfl, (run_cMore a b y c d).trans ?_⟩
    rw [h1, h2, h3, h4, hy]; rfl
  · cases h
def sp_cTurn : List AV → Option (Bool × AV)
  | [.st [.int .u64 a, .int .u64 b], .bool bk] => some (okPr (a, b), .st [.int .u64 (cTurn (a, b) bk).1, .int .u64 (cTurn (a, b) bk).2])
  | _ => none
theorem run_cTurn (a b : Int) (bk : Bool) : callA (env Tryz.f59.ntmps [(46, entS false sp_pNeg)] []) (bodyC Tryz.f59) Tryz.f59.results.toList (slots 0 [.st [.int .u64 a, .int .u64 b], .bool bk]) some =
    bif bk then chk (inU a) (some (.st [.int .u64 b, .int .u64 ((negN a.toNat : Nat) : Int)])) else chk (inU b) (some (.st [.int .u64 ((negN b.toNat : Nat) : Int), .int .u64 a])) := by kernel_rfl
theorem ok_cTurn : EntOk Tryz.prog 59 (entS false sp_cTurn) := by
  refine contractS (orc := [(46, entS false sp_pNeg)]) (lo := []) Tryz.func59 (orc_cons ok_pNeg orc_nil) (by kernel_rfl) (by kernel_rfl) (by kernel_rfl) (loops_none (by kernel_rfl)) fun args r h => ?_
  unfold sp_cTurn at h
  split at h
  · rename_i a b bk
    simp only [Option.some.injEq, Prod.mk.injEq] at h
    obtain ⟨hx, rfl⟩ := h
    obtain ⟨h1, h2⟩ := okPr_iff.1 hx
    refine ⟨by kernel_rfl, .inr rfl, (run_cTurn a b bk).trans ?_⟩
    rw [h1, h2]
    cases bk <;> rfl
  · cases h
/-! ### Mul -/
end
end Go.Proofs.YtbakldcbaikgpaaGreatDoor
/- fly: did, add, sub, four. Own work. -/
namespace Go.Proofs.YtbakldcbaikgpaaGreatDoor
set_option maxRecDepth 100000
noncomputable section
def sp_did : List AV → Option (Bool × AV × List AV)
  | [.rf 64 (.st [.int .u8 f]), .st [.int .u64 a, .int .u64 b], .int .u8 g] => some (true, .st [.int .u64 a, .int .u64 b], [.rf 64 (.st [.int .u8 (orI .u8 f g)])])
  | _ => none
theorem run_did (f a b g : Int) : callM (env Tryz.f57.ntmps [] []) (bodyC Tryz.f57) Tryz.f57.results.toList [.rf 64 (.st [.int .u8 f]), .st [.int .u64 a, .int .u64 b], .int .u8 g] some =
    some (.mt (.st [.int .u64 a, .int .u64 b]) [.rf 64 (.st [.int .u8 (orI .u8 f g)])]) := by kernel_rfl
theorem ok_did : EntOk Tryz.prog 57 (entM false sp_did) := by
  refine contractMS (orc := []) (lo := []) Tryz.func57 orc_nil (by kernel_rfl) (by kernel_rfl) (by kernel_rfl) (loops_none (by kernel_rfl)) fun args r cs h => ?_
  unfold sp_did at h
  split at h
  · rename_i f a b g
    simp only [Option.some.injEq, Prod.mk.injEq] at h
    obtain ⟨-, rfl, rfl⟩ := h
    exact ⟨by kernel_rfl, .inr rfl, run_did f a b g⟩
  · cases h
def sp_fAdd : List AV → Option (Bool × AV × List AV)
  | [.rf 64 (.st [.int .u8 f]), .st [.int .u64 a, .int .u64 b], .st [.int .u64 c, .int .u64 d]] => some (okPr (a, b) && okPr (c, d), .st [.int .u64 (cAdd (a, b) (c, d)).1, .int .u64 (cAdd (a, b) (c, d)).2], [.rf 64 (.st [.int .u8 (orI .u8 f (cAddF (a, b) (c, d)))])])
  | _ => none
def sp_fSub : List AV → Option (Bool × AV × List AV)
  | [.rf 64 (.st [.int .u8 f]), .st [.int .u64 a, .int .u64 b], .st [.int .u64 c, .int .u64 d]] => some (okPr (a, b) && okPr (c, d), .st [.int .u64 (cSub (a, b) (c, d)).1, .int .u64 (cSub (a, b) (c, d)).2], [.rf 64 (.st [.int .u8 (orI .u8 f (cSubF (a, b) (c, d)))])])
  | _ => none
def orcFly : List (FuncId × Ent) := [(29, entS false sp_cAdd), (58, entS false sp_cSub), (57, entM false sp_did)]
theorem run_fAdd (f a b c d : Int) : callM (env Tryz.f34.ntmps orcFly []) (bodyC Tryz.f34) Tryz.f34.results.toList [.rf 64 (.st [.int .u8 f]), .st [.int .u64 a, .int .u64 b], .st [.int .u64 c, .int .u64 d]] some =
    chk (okPr (a, b) && okPr (c, d)) (some (.mt (.st [.int .u64 (cAdd (a, b) (c, d)).1, .int .u64 (cAdd (a, b) (c, d)).2]) [.rf 64 (.st [.int .u8 (orI .u8 f (cAddF (a, b) (c, d)))])])) := by kernel_rfl
theorem run_fSub (f a b c d : Int) : callM (env Tryz.f35.ntmps orcFly []) (bodyC Tryz.f35) Tryz.f35.results.toList [.rf 64 (.st [.int .u8 f]), .st [.int .u64 a, .int .u64 b], .st [.int .u64 c, .int .u64 d]] some =
    chk (okPr (a, b) && okPr (c, d)) (some (.mt (.st [.int .u64 (cSub (a, b) (c, d)).1, .int .u64 (cSub (a, b) (c, d)).2]) [.rf 64 (.st [.int .u8 (orI .u8 f (cSubF (a, b) (c, d)))])])) := by kernel_rfl
theorem ok_fAdd : EntOk Tryz.prog 34 (entM false sp_fAdd) := by
  refine contractMS (orc := orcFly) (lo := []) Tryz.func34 (orc_cons ok_cAdd (orc_cons ok_cSub (orc_cons ok_did orc_nil))) (by kernel_rfl) (by kernel_rfl) (by kernel_rfl) (loops_none (by kernel_rfl)) fun args r cs h => ?_
  unfold sp_fAdd at h
  split at h
  · rename_i f a b c d
    simp only [Option.some.injEq, Prod.mk.injEq] at h
    obtain ⟨hx, rfl, rfl⟩ := h
    refine ⟨by kernel_rfl, .inr rfl, (run_fAdd f a b c d).trans ?_⟩
    rw [hx]; rfl
  · cases h
theorem ok_fSub : EntOk Tryz.prog 35 (entM false sp_fSub) := by
  refine contractMS (orc := orcFly) (lo := []) Tryz.func35 (orc_cons ok_cAdd (orc_cons ok_cSub (orc_cons ok_did orc_nil))) (by kernel_rfl) (by kernel_rfl) (by kernel_rfl) (loops_none (by kernel_rfl)) fun args r cs h => ?_
  unfold sp_fSub at h
  split at h
  · rename_i f a b c d
    simp only [Option.some.injEq, Prod.mk.injEq] at h
    obtain ⟨hx, rfl, rfl⟩ := h
    refine ⟨by kernel_rfl, .inr rfl, (run_fSub f a b c d).trans ?_⟩
    rw [hx]; rfl
  · cases h
end
end Go.Proofs.YtbakldcbaikgpaaGreatDoor
