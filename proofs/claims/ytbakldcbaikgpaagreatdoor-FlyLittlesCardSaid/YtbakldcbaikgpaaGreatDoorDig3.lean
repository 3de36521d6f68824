/- tillerref02: Len, Bit, Low, Of. Own work. -/
import Derived.Test.YtbakldcbaikgpaaGreatDoorDig2
namespace Go.Proofs.YtbakldcbaikgpaaGreatDoor
set_option maxRecDepth 100000
noncomputable section
def u32 (x : Int) : Int := IntKind.u32.wrap x
theorem u32_nat {n : Nat} (h : n < 4294967296) : u32 (n : Int) = n := by
  unfold u32
  rw [IntKind.wrap_u32]
  omega
/-! ### Len -/
def goLen (n x : Int) : Bool := stk (decide (0 ≤ x) && decide (x < 4294967296) && decide (0 ≤ n) && decide (n ≤ 100000000))
def lnI (n x : Int) : Int := stk (n + ((lenN x.toNat : Nat) : Int))
def stepLen (R : Type) (vs : List AV) (k1 : List AV → Option R) (k2 : Nat → List AV → Option R) : Option R :=
  match vs with
  | [.int .i64 n, .int .u32 x] => bif decide (x > 0) then k1 [.int .i64 (w64 (n + 1)), .int .u32 (u32 (x.tdiv 2))] else k2 0 [.int .i64 n]
  | _ => none
def leLen : LEnt :=
  { inn := { fuel := none, keep := [3, 4], refs := [] }
    out := { fuel := none, keep := [3], refs := [] }
    ret := { fuel := none, keep := [], refs := [] }
    go := fun _ _ vs kk => match vs with
      | [.int .i64 n, .int .u32 x] => chk (goLen n x) (kk 0 [.int .i64 (lnI n x)])
      | _ => none }
theorem step_len (R : Type) (n x : Int) (k1 : List AV → Option R) (k2 : Nat → List AV → Option R) :
    runA (env Tryz.f121.ntmps [] []) (loopOf 0 (bodyC Tryz.f121)) 0 (stateOf leLen.inn [.int .i64 n, .int .u32 x]) (bodyK leLen 0 k1 k2) =
    stepLen R [.int .i64 n, .int .u32 x] k1 k2 := by kernel_rfl
theorem lenN_half {x : Nat} (h : 0 < x) : lenN x = lenN (x / 2) + 1 := by
  have := lenN_add (m := x) (k := 1)
  by_cases h1 : 2 ≤ x
  · have h2 := this h1
    rw [Nat.pow_one] at h2
    omega
  · have : x = 1 := by omega
    subst this
    decide +kernel
theorem len_loop (R : Type) (kk : Nat → List AV → Option R) : ∀ (j x n : Nat), x ≤ j → x < 4294967296 → n ≤ 200000000 - lenN x →
    ∃ f, loopN (stepLen R) f [.int .i64 (n : Int), .int .u32 (x : Int)] kk = kk 0 [.int .i64 ((n + lenN x : Nat) : Int)]
  | 0, x, n, h, _, _ => by
    have : x = 0 := by omega
    subst this
    exact ⟨1, rfl⟩
  | j + 1, x, n, h, h32, hn => by
    by_cases h0 : x = 0
    · subst h0
      exact ⟨1, rfl⟩
    · have hl := lenN_half (x := x) (by omega)
      have hl2 : lenN x ≤ 32 := lenN_le.2 h32
      obtain ⟨f, hf⟩ := len_loop R kk j (x / 2) (n + 1) (by omega) (by omega) (by omega)
      refine ⟨f + 1, ?_⟩
      rw [loopN]
      simp only [stepLen]
      have e1 : decide ((x : Int) > 0) = true := decide_eq_true (by omega)
      have e2 : w64 ((n : Int) + 1) = ((n + 1 : Nat) : Int) := by rw [w64_mid (by omega) (by omega)]; omega
      have e3 : u32 ((x : Int).tdiv 2) = ((x / 2 : Nat) : Int) := by
        have := tdivN x 2
        rw [show ((2 : Nat) : Int) = 2 from rfl] at this
        rw [this, u32_nat (by omega)]
      rw [e1, e2, e3, cond_true, hf, hl]
      congr 4
      omega
theorem go_len (R : Type) (n : Nat) (vs : List AV) (kk : Nat → List AV → Option R) (r : R) (h : leLen.go R n vs kk = some r) : ∃ m, loopN (stepLen R) m vs kk = some r := by
  simp only [leLen] at h
  split at h
  · rename_i n x
    obtain ⟨hg, hk⟩ := chk_some h
    unfold goLen at hg
    rw [stk_eq] at hg
    simp only [Bool.and_eq_true, decide_eq_true_eq] at hg
    obtain ⟨⟨⟨g1, g2⟩, g3⟩, g4⟩ := hg
    obtain ⟨a, rfl⟩ : ∃ a : Nat, n = a := ⟨n.toNat, (Int.toNat_of_nonneg g3).symm⟩
    obtain ⟨b, rfl⟩ : ∃ b : Nat, x = b := ⟨x.toNat, (Int.toNat_of_nonneg g1).symm⟩
    have hl2 : lenN b ≤ 32 := lenN_le.2 (by omega)
    obtain ⟨f, hf⟩ := len_loop R kk b b a (Nat.le_refl _) (by omega) (by omega)
    refine ⟨f, hf.trans ?_⟩
    unfold lnI at hk
    rw [stk_eq, Int.toNat_natCast] at hk
    exact hk
  · cases h
def lenI (v : Nat) : Int := stk ((lenN v : Nat) : Int)
def sp_dLen : List AV → Option (Bool × AV)
  | [.sl (.ints n .u32 l)] => some (mayD n l, .int .i64 (lenI (valD l)))
  | _ => none
theorem run_dLen (n : Nat) (l : List Int) : callA (env Tryz.f121.ntmps [] [(0, leLen)]) (bodyC Tryz.f121) Tryz.f121.results.toList (slots 0 [.sl (.ints n .u32 l)]) some =
    bif (n : Int) == 0 then some (.int .i64 0) else chk (decide (0 ≤ w64 ((n : Int) - 1)) && decide (w64 ((n : Int) - 1) < (n : Int)) && true) (chk (goLen (w64 (16 * w64 ((n : Int) - 1))) (l.getD (w64 ((n : Int) - 1)).toNat 0))
      (some (.int .i64 (lnI (w64 (16 * w64 ((n : Int) - 1))) (l.getD (w64 ((n : Int) - 1)).toNat 0))))) := by kernel_rfl
theorem pow16 (k : Nat) : (65536 : Nat) ^ k = 2 ^ (16 * k) := by rw [Nat.pow_mul]
theorem ok_dLen : EntOk Tryz.prog 121 (entS false sp_dLen) := by
  refine contractS (orc := []) (lo := [(0, leLen)]) Tryz.func121 orc_nil (by kernel_rfl) (by kernel_rfl) (by kernel_rfl)
    (loops_one (id := 0) (y := .loop (loopOf 0 (bodyC Tryz.f121))) (by kernel_rfl)
      (loopS (le := leLen) (orc := []) (lo' := []) orc_nil (by kernel_rfl) rfl (loops_none (by kernel_rfl)) stepLen (fun R vs k1 k2 r h => ?_) go_len)) fun args r h => ?_
  · have h0 := h
    unfold stepLen at h
    split at h
    · exact (step_len R _ _ k1 k2).trans h0
    · cases h
  · unfold sp_dLen at h
    split at h
    · rename_i n l
      simp only [Option.some.injEq, Prod.mk.injEq, mayD_iff] at h
      obtain ⟨⟨⟨g1, g2⟩, g3⟩, rfl⟩ := h
      refine ⟨by kernel_rfl, .inr rfl, (run_dLen n l).trans ?_⟩
      have hok := ok_dig (valD l)
      rw [← g2] at hok
      unfold lenI
      rw [stk_eq]
      rcases Nat.eq_zero_or_pos n with h0 | h0
      · have hl : l = [] := List.length_eq_zero_iff.1 (by omega)
        subst h0 hl
        rfl
      · have e1 : ((n : Int) == 0) = false := beq_eq_false_iff_ne.2 (by omega)
        have e2 : w64 ((n : Int) - 1) = ((n - 1 : Nat) : Int) := by rw [w64_mid (by omega) (by omega)]; omega
        have e3 : w64 (16 * ((n - 1 : Nat) : Int)) = ((16 * (n - 1) : Nat) : Int) := by rw [w64_mid (by omega) (by omega)]; omega
        have hlen : l.length = (digN (valD l)).length := congrArg List.length g2
        have hge : 65536 ^ (n - 1) ≤ valD l := by
          rcases Nat.lt_or_ge (valD l) (65536 ^ (n - 1)) with h | h
          · have := (len_dig (n - 1) (valD l)).2 h
            omega
          · exact h
        have hd : l.getD (n - 1) 0 = ((valD l / 65536 ^ (n - 1) : Nat) : Int) := by
          have hlt := val_lt l hok
          have : valD l / 65536 ^ (n - 1) < 65536 := by
            rw [Nat.div_lt_iff_lt_mul (Nat.pow_pos (by decide)), Nat.mul_comm, ← Nat.pow_succ, show (n - 1).succ = n by omega, g1]
            exact hlt
          rw [get_val l (n - 1) hok, Nat.mod_eq_of_lt this]
        have hlt2 : valD l / 65536 ^ (n - 1) < 65536 := by
          rw [Nat.div_lt_iff_lt_mul (Nat.pow_pos (by decide)), Nat.mul_comm, ← Nat.pow_succ, show (n - 1).succ = n by omega, g1]
          exact val_lt l hok
        have hln := lenN_add (m := valD l) (k := 16 * (n - 1)) (by rw [← pow16]; exact hge)
        rw [← pow16] at hln
        rw [e1, e2, e3, Int.toNat_natCast, hd, decide_eq_true (show (0 : Int) ≤ ((n - 1 : Nat) : Int) by omega), decide_eq_true (show ((n - 1 : Nat) : Int) < (n : Int) by omega)]
        generalize valD l / 65536 ^ (n - 1) = d at *
        unfold goLen lnI
        rw [stk_eq, stk_eq, decide_eq_true (show (0 : Int) ≤ (d : Int) by omega), decide_eq_true (show (d : Int) < 4294967296 by omega), decide_eq_true (show (0 : Int) ≤ ((16 * (n - 1) : Nat) : Int) by omega), decide_eq_true (show ((16 * (n - 1) : Nat) : Int) ≤ 100000000 by omega), Int.toNat_natCast, ← hln]
        rfl
    · cases h
/-! ### Bit -/
def shI (x : Int) (n : Int) : Int := stk ((x.toNat / 2 ^ (n.toNat % 16) : Nat) : Int)
def goBit (n x : Int) : Bool := stk (decide (0 ≤ x) && decide (x < 4294967296) && decide (0 ≤ n) && decide (n ≤ 10000000))
def stepBit (R : Type) (vs : List AV) (k1 : List AV → Option R) (k2 : Nat → List AV → Option R) : Option R :=
  match vs with
  | [.int .i64 n, .int .u32 x, .int .i64 i] => bif decide (i < n.tmod 16) then k1 [.int .i64 n, .int .u32 (u32 (x.tdiv 2)), .int .i64 (w64 (i + 1))] else k2 0 [.int .u32 x]
  | _ => none
def leBit : LEnt :=
  { inn := { fuel := none, keep := [1, 5, 6], refs := [] }
    out := { fuel := none, keep := [5], refs := [] }
    ret := { fuel := none, keep := [], refs := [] }
    go := fun _ _ vs kk => match vs with
      | [.int .i64 n, .int .u32 x, .int .i64 0] => chk (goBit n x) (kk 0 [.int .u32 (shI x n)])
      | _ => none }
theorem step_bit (R : Type) (n x i : Int) (k1 : List AV → Option R) (k2 : Nat → List AV → Option R) :
    runA (env Tryz.f147.ntmps orcAt []) (loopOf 0 (bodyC Tryz.f147)) 0 (stateOf leBit.inn [.int .i64 n, .int .u32 x, .int .i64 i]) (bodyK leBit 0 k1 k2) =
    stepBit R [.int .i64 n, .int .u32 x, .int .i64 i] k1 k2 := by kernel_rfl
theorem bit_loop (R : Type) (kk : Nat → List AV → Option R) (n : Nat) : ∀ (j i x : Nat), i + j = n % 16 → x < 4294967296 →
    ∃ f, loopN (stepBit R) f [.int .i64 (n : Int), .int .u32 (x : Int), .int .i64 (i : Int)] kk = kk 0 [.int .u32 ((x / 2 ^ j : Nat) : Int)]
  | 0, i, x, h, _ => by
    refine ⟨1, ?_⟩
    rw [loopN]
    simp only [stepBit]
    have e := tmodN n 16
    rw [show ((16 : Nat) : Int) = 16 from rfl] at e
    rw [e, decide_eq_false (show ¬ (i : Int) < ((n % 16 : Nat) : Int) by omega), Nat.pow_zero, Nat.div_one]
    rfl
  | j + 1, i, x, h, hx => by
    obtain ⟨f, hf⟩ := bit_loop R kk n j (i + 1) (x / 2) (by omega) (by omega)
    refine ⟨f + 1, ?_⟩
    rw [loopN]
    simp only [stepBit]
    have e := tmodN n 16
    rw [show ((16 : Nat) : Int) = 16 from rfl] at e
    have e2 : w64 ((i : Int) + 1) = ((i + 1 : Nat) : Int) := by rw [w64_mid (by omega) (by omega)]; omega
    have e3 : u32 ((x : Int).tdiv 2) = ((x / 2 : Nat) : Int) := by
      have := tdivN x 2
      rw [show ((2 : Nat) : Int) = 2 from rfl] at this
      rw [this, u32_nat (by omega)]
    rw [e, decide_eq_true (show (i : Int) < ((n % 16 : Nat) : Int) by omega), e2, e3, cond_true, hf, Nat.div_div_eq_div_mul, Nat.pow_succ, Nat.mul_comm 2]
theorem go_bit (R : Type) (n : Nat) (vs : List AV) (kk : Nat → List AV → Option R) (r : R) (h : leBit.go R n vs kk = some r) : ∃ m, loopN (stepBit R) m vs kk = some r := by
  simp only [leBit] at h
  split at h
  · rename_i n x
    obtain ⟨hg, hk⟩ := chk_some h
    unfold goBit at hg
    rw [stk_eq] at hg
    simp only [Bool.and_eq_true, decide_eq_true_eq] at hg
    obtain ⟨⟨⟨g1, g2⟩, g3⟩, g4⟩ := hg
    obtain ⟨a, rfl⟩ : ∃ a : Nat, n = a := ⟨n.toNat, (Int.toNat_of_nonneg g3).symm⟩
    obtain ⟨b, rfl⟩ : ∃ b : Nat, x = b := ⟨x.toNat, (Int.toNat_of_nonneg g1).symm⟩
    obtain ⟨f, hf⟩ := bit_loop R kk a (a % 16) 0 b (by omega) (by omega)
    refine ⟨f, hf.trans ?_⟩
    unfold shI at hk
    rw [stk_eq, Int.toNat_natCast, Int.toNat_natCast] at hk
    exact hk
  · cases h
def btI' (v : Nat) (n : Int) : Int := stk ((v / 2 ^ n.toNat % 2 : Nat) : Int)
def mayB1 (n : Nat) (l : List Int) (i : Int) : Bool := stk (decide (n = l.length) && okD l && decide (0 ≤ i) && decide (i ≤ 10000000))
def sp_dBit : List AV → Option (Bool × AV)
  | [.sl (.ints n .u32 l), .int .i64 i] => some (mayB1 n l i, .int .i64 (btI' (valD l) i))
  | _ => none
theorem run_dBit (n : Nat) (l : List Int) (i : Int) : callA (env Tryz.f147.ntmps orcAt [(0, leBit)]) (bodyC Tryz.f147) Tryz.f147.results.toList (slots 0 [.sl (.ints n .u32 l), .int .i64 i]) some =
    chk (mayL n l) (chk (goBit i (atI l (w64 (i.tdiv 16)))) (some (.int .i64 (w64 ((shI (atI l (w64 (i.tdiv 16))) i).tmod 2))))) := by kernel_rfl
theorem ok_dBit : EntOk Tryz.prog 147 (entS false sp_dBit) := by
  refine contractS (orc := orcAt) (lo := [(0, leBit)]) Tryz.func147 orcAt_ok (by kernel_rfl) (by kernel_rfl) (by kernel_rfl)
    (loops_one (id := 0) (y := .loop (loopOf 0 (bodyC Tryz.f147))) (by kernel_rfl)
      (loopS (le := leBit) (orc := orcAt) (lo' := []) orcAt_ok (by kernel_rfl) rfl (loops_none (by kernel_rfl)) stepBit (fun R vs k1 k2 r h => ?_) go_bit)) fun args r h => ?_
  · have h0 := h
    unfold stepBit at h
    split at h
    · exact (step_bit R _ _ _ k1 k2).trans h0
    · cases h
  · unfold sp_dBit at h
    split at h
    · rename_i n l i
      simp only [Option.some.injEq, Prod.mk.injEq] at h
      obtain ⟨hg, rfl⟩ := h
      unfold mayB1 at hg
      rw [stk_eq] at hg
      simp only [Bool.and_eq_true, decide_eq_true_eq] at hg
      obtain ⟨⟨⟨g1, g2⟩, g3⟩, g4⟩ := hg
      subst g1
      obtain ⟨a, rfl⟩ : ∃ a : Nat, i = a := ⟨i.toNat, (Int.toNat_of_nonneg g3).symm⟩
      refine ⟨by kernel_rfl, .inr rfl, (run_dBit l.length l a).trans ?_⟩
      have e := tdivN a 16
      rw [show ((16 : Nat) : Int) = 16 from rfl] at e
      have hv := at_val g2 (a / 16)
      rw [mayL_self, e, w64_mid (by omega) (by omega), hv]
      have hd : valD l / 65536 ^ (a / 16) % 65536 < 65536 := Nat.mod_lt _ (by decide)
      have hfin : valD l / 65536 ^ (a / 16) % 65536 / 2 ^ (a % 16) % 2 = valD l / 2 ^ a % 2 := by
        rw [pow16, show (65536 : Nat) = 2 ^ (a % 16) * 2 ^ (16 - a % 16) by rw [← Nat.pow_add, show a % 16 + (16 - a % 16) = 16 by omega], Nat.mod_mul_right_div_self, Nat.div_div_eq_div_mul, ← Nat.pow_add, show 16 * (a / 16) + a % 16 = a by omega, show 16 - a % 16 = (15 - a % 16) + 1 by omega, Nat.pow_succ, Nat.mul_comm, Nat.mod_mul_right_mod]
      unfold goBit shI btI'
      rw [stk_eq, stk_eq, stk_eq, Int.toNat_natCast, Int.toNat_natCast]
      generalize hx : valD l / 65536 ^ (a / 16) % 65536 = x at *
      have e2 := tmodN (x / 2 ^ (a % 16)) 2
      rw [show ((2 : Nat) : Int) = 2 from rfl] at e2
      rw [decide_eq_true (show (0 : Int) ≤ (x : Int) by omega), decide_eq_true (show (x : Int) < 4294967296 by omega), decide_eq_true g3, decide_eq_true g4, e2, w64_mid (by omega) (by omega), hfin]
      rfl
    · cases h
/-! ### Low -/
def goLow (n : Nat) (l : List Int) (i : Int) : Bool := stk (decide (n = l.length) && okD l && decide (i = min (n : Int) 4 - 1))
def lwI (v : Nat) : Int := stk ((v % 18446744073709551616 : Nat) : Int)
def stepLow (R : Type) (vs : List AV) (k1 : List AV → Option R) (k2 : Nat → List AV → Option R) : Option R :=
  match vs with
  | [.sl (.ints n .u32 l), .int .u64 x, .int .i64 i] => bif decide (i ≥ 0) then chk (decide (0 ≤ i) && decide (i < (n : Int)) && true) (k1 [.sl (.ints n .u32 l), .int .u64 (u64 (u64 (65536 * x) + u64 (l.getD i.toNat 0))), .int .i64 (w64 (i - 1))]) else k2 0 [.int .u64 x]
  | _ => none
def leLow : LEnt :=
  { inn := { fuel := none, keep := [0, 3, 4], refs := [] }
    out := { fuel := none, keep := [3], refs := [] }
    ret := { fuel := none, keep := [], refs := [] }
    go := fun _ _ vs kk => match vs with
      | [.sl (.ints n .u32 l), .int .u64 0, .int .i64 i] => chk (goLow n l i) (kk 0 [.int .u64 (lwI (valD l))])
      | _ => none }
theorem step_low (R : Type) (n : Nat) (l : List Int) (x i : Int) (k1 : List AV → Option R) (k2 : Nat → List AV → Option R) :
    runA (env Tryz.f124.ntmps [] []) (loopOf 0 (bodyC Tryz.f124)) 0 (stateOf leLow.inn [.sl (.ints n .u32 l), .int .u64 x, .int .i64 i]) (bodyK leLow 0 k1 k2) =
    stepLow R [.sl (.ints n .u32 l), .int .u64 x, .int .i64 i] k1 k2 := by kernel_rfl
theorem low_loop (R : Type) {l : List Int} (hl : okD l = true) (kk : Nat → List AV → Option R) : ∀ (k : Nat), k ≤ l.length → k ≤ 4 →
    ∃ f, loopN (stepLow R) f [.sl (.ints l.length .u32 l), .int .u64 ((valD l / 65536 ^ k % 65536 ^ (4 - k) : Nat) : Int), .int .i64 ((k : Int) - 1)] kk = kk 0 [.int .u64 ((valD l % 18446744073709551616 : Nat) : Int)]
  | 0, _, _ => ⟨1, by rw [Nat.pow_zero, Nat.div_one]; rfl⟩
  | k + 1, h, h4 => by
    obtain ⟨f, hf⟩ := low_loop R hl kk k (by omega) (by omega)
    refine ⟨f + 1, ?_⟩
    have hd := get_val l k hl
    have td := top_digit (valD l) k
    have hx : 65536 * (valD l / 65536 ^ (k + 1) % 65536 ^ (4 - (k + 1))) + valD l / 65536 ^ k % 65536 = valD l / 65536 ^ k % 65536 ^ (4 - k) := by
      have p : 65536 ^ (4 - k) = 65536 * 65536 ^ (4 - (k + 1)) := by rw [show 4 - k = (4 - (k + 1)) + 1 by omega, Nat.pow_succ, Nat.mul_comm]
      have q : valD l / 65536 ^ (k + 1) = valD l / 65536 ^ k / 65536 := by rw [Nat.pow_succ, Nat.div_div_eq_div_mul]
      rw [p, q, Nat.mod_mul]
      exact Nat.add_comm _ _
    have hb : valD l / 65536 ^ k % 65536 ^ (4 - k) < 18446744073709551616 := Nat.lt_of_lt_of_le (Nat.mod_lt _ (Nat.pow_pos (by decide))) (Nat.le_trans (Nat.pow_le_pow_right (by decide) (show 4 - k ≤ 4 by omega)) (by decide))
    have hdl : valD l / 65536 ^ k % 65536 < 65536 := Nat.mod_lt _ (by decide)
    rw [loopN]
    simp only [stepLow]
    rw [show (((k + 1 : Nat) : Int) - 1) = (k : Int) by omega, decide_eq_true (show (k : Int) ≥ 0 by omega), decide_eq_true (show (k : Int) < (l.length : Int) by omega), Int.toNat_natCast, hd, w64_mid (by omega) (by omega)]
    generalize valD l / 65536 ^ (k + 1) % 65536 ^ (4 - (k + 1)) = x at *
    generalize valD l / 65536 ^ k % 65536 = d at *
    generalize valD l / 65536 ^ k % 65536 ^ (4 - k) = y at *
    have u1 : u64 (65536 * (x : Int)) = ((65536 * x : Nat) : Int) := by
      rw [show 65536 * (x : Int) = ((65536 * x : Nat) : Int) by omega, u64_nat (by omega)]
    have u2 : u64 (d : Int) = (d : Int) := u64_nat (by omega)
    have u3 : u64 (((65536 * x : Nat) : Int) + (d : Int)) = (y : Int) := by
      rw [show ((65536 * x : Nat) : Int) + (d : Int) = (y : Int) by omega, u64_nat (by omega)]
    rw [u1, u2, u3]
    exact hf
theorem go_low (R : Type) (n : Nat) (vs : List AV) (kk : Nat → List AV → Option R) (r : R) (h : leLow.go R n vs kk = some r) : ∃ m, loopN (stepLow R) m vs kk = some r := by
  simp only [leLow] at h
  split at h
  · rename_i n l i
    obtain ⟨hg, hk⟩ := chk_some h
    unfold goLow at hg
    rw [stk_eq] at hg
    simp only [Bool.and_eq_true, decide_eq_true_eq] at hg
    obtain ⟨⟨g1, g2⟩, g3⟩ := hg
    subst g1
    have hz : valD l / 65536 ^ (min l.length 4) % 65536 ^ (4 - min l.length 4) = 0 := by
      by_cases h : l.length ≤ 4
      · rw [Nat.min_eq_left h, Nat.div_eq_of_lt (val_lt l g2), Nat.zero_mod]
      · rw [show 4 - min l.length 4 = 0 by omega, Nat.pow_zero, Nat.mod_one]
    obtain ⟨f, hf⟩ := low_loop R g2 kk (min l.length 4) (Nat.min_le_left _ _) (Nat.min_le_right _ _)
    rw [hz] at hf
    have hi : i = ((min l.length 4 : Nat) : Int) - 1 := by omega
    refine ⟨f, ?_⟩
    unfold lwI at hk
    rw [stk_eq] at hk
    rw [hi]
    exact hf.trans hk
  · cases h
def mayO (n : Nat) (l : List Int) : Bool := stk (decide (n = l.length) && okD l && decide (n ≤ 200000))
def sp_dLow : List AV → Option (Bool × AV)
  | [.sl (.ints n .u32 l)] => some (mayO n l, .int .u64 (lwI (valD l)))
  | _ => none
theorem run_dLow (n : Nat) (l : List Int) : callA (env Tryz.f124.ntmps [] [(0, leLow)]) (bodyC Tryz.f124) Tryz.f124.results.toList (slots 0 [.sl (.ints n .u32 l)]) some =
    chk (goLow n l (w64 ((if (4 : Int) < (n : Int) then 4 else (n : Int)) - 1))) (some (.int .u64 (lwI (valD l)))) := by kernel_rfl
theorem ok_dLow : EntOk Tryz.prog 124 (entS false sp_dLow) := by
  refine contractS (orc := []) (lo := [(0, leLow)]) Tryz.func124 orc_nil (by kernel_rfl) (by kernel_rfl) (by kernel_rfl)
    (loops_one (id := 0) (y := .loop (loopOf 0 (bodyC Tryz.f124))) (by kernel_rfl)
      (loopS (le := leLow) (orc := []) (lo' := []) orc_nil (by kernel_rfl) rfl (loops_none (by kernel_rfl)) stepLow (fun R vs k1 k2 r h => ?_) go_low)) fun args r h => ?_
  · have h0 := h
    unfold stepLow at h
    split at h
    · exact (step_low R _ _ _ _ k1 k2).trans h0
    · cases h
  · unfold sp_dLow at h
    split at h
    · rename_i n l
      simp only [Option.some.injEq, Prod.mk.injEq] at h
      obtain ⟨hg, rfl⟩ := h
      unfold mayO at hg
      rw [stk_eq] at hg
      simp only [Bool.and_eq_true, decide_eq_true_eq] at hg
      obtain ⟨⟨g1, g2⟩, g3⟩ := hg
      subst g1
      refine ⟨by kernel_rfl, .inr rfl, (run_dLow l.length l).trans ?_⟩
      have e1 : w64 ((if (4 : Int) < (l.length : Int) then 4 else (l.length : Int)) - 1) = min (l.length : Int) 4 - 1 := by
        rw [w64_mid (by split <;> omega) (by split <;> omega)]
        split <;> omega
      have e2 : goLow l.length l (min (l.length : Int) 4 - 1) = true := by
        unfold goLow
        rw [stk_eq, g2, decide_eq_true rfl, decide_eq_true rfl]
        rfl
      rw [e1, e2]
      rfl
    · cases h
/-! ### Of -/
def sp_dOf : List AV → Option (Bool × AV)
  | [.int .u64 n] => some (inU n, .sl (.ints (dgl n.toNat) .u32 (dg n.toNat)))
  | _ => none
def orcTrim : List (FuncId × Ent) := [(132, entS true sp_trim)]
theorem orcTrim_ok {nt : Nat} {lo : List (Nat × LEnt)} : OrcOk Tryz.prog (env nt orcTrim lo) := orc_cons ok_trim orc_nil
def ofL (n : Int) : List Int := [u32 (n.tmod 65536), u32 ((u64 (n.tdiv 65536)).tmod 65536), u32 ((u64 (n.tdiv 4294967296)).tmod 65536), u32 (u64 (n.tdiv 281474976710656))]
theorem run_dOf (n : Int) : callA (env Tryz.f96.ntmps orcTrim []) (bodyC Tryz.f96) Tryz.f96.results.toList (slots 0 [.int .u64 n]) some =
    chk (mayT 4 (ofL n)) (some (.sl (.ints (dgl (valD (ofL n))) .u32 (dg (valD (ofL n)))))) := by kernel_rfl
theorem ok_dOf : EntOk Tryz.prog 96 (entS true sp_dOf) := by
  refine contractS (orc := orcTrim) (lo := []) Tryz.func96 orcTrim_ok (by kernel_rfl) (by kernel_rfl) (by kernel_rfl) (loops_none (by kernel_rfl)) fun args r h => ?_
  unfold sp_dOf at h
  split at h
  · rename_i n
    simp only [Option.some.injEq, Prod.mk.injEq] at h
    obtain ⟨hp, rfl⟩ := h
    obtain ⟨m, rfl, hm⟩ := nat_of hp
    refine ⟨by kernel_rfl, .inl rfl, (run_dOf m).trans ?_⟩
    have a0 : u32 ((m : Int).tmod 65536) = ((m % 65536 : Nat) : Int) := by
      have := tmodN m 65536
      rw [show ((65536 : Nat) : Int) = 65536 from rfl] at this
      rw [this, u32_nat (by omega)]
    have ad : ∀ c : Nat, 0 < c → u32 ((u64 ((m : Int).tdiv (c : Int))).tmod 65536) = ((m / c % 65536 : Nat) : Int) := by
      intro c hc
      have h1 : m / c ≤ m := Nat.div_le_self _ _
      have := tmodN (m / c) 65536
      rw [show ((65536 : Nat) : Int) = 65536 from rfl] at this
      rw [tdivN m c, u64_nat (by omega), this, u32_nat (by omega)]
    have a1 := ad 65536 (by decide)
    have a2 := ad 4294967296 (by decide)
    have a3 : u32 (u64 ((m : Int).tdiv 281474976710656)) = ((m / 281474976710656 : Nat) : Int) := by
      have := tdivN m 281474976710656
      rw [show ((281474976710656 : Nat) : Int) = 281474976710656 from rfl] at this
      rw [this, u64_nat (by omega), u32_nat (by omega)]
    rw [show ((65536 : Nat) : Int) = 65536 from rfl] at a1
    rw [show ((4294967296 : Nat) : Int) = 4294967296 from rfl] at a2
    have hl : ofL m = [((m % 65536 : Nat) : Int), ((m / 65536 % 65536 : Nat) : Int), ((m / 4294967296 % 65536 : Nat) : Int), ((m / 281474976710656 : Nat) : Int)] := by
      unfold ofL
      rw [a0, a1, a2, a3]
    have hv : valD (ofL m) = m := by
      rw [hl]
      simp only [valD, Int.toNat_natCast]
      omega
    have hok : okD (ofL m) = true := by
      rw [hl]
      simp only [okD_cons]
      refine ⟨by omega, by omega, by omega, by omega, rfl⟩
    have hm4 : mayT 4 (ofL m) = true := by
      unfold mayT
      rw [stk_eq, hok, hl]
      rfl
    rw [hm4, hv, Int.toNat_natCast]
    rfl
  · cases h
end
end Go.Proofs.YtbakldcbaikgpaaGreatDoor
