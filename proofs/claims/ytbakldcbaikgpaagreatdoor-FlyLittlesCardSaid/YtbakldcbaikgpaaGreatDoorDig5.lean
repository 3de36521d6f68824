/- tillerref02: Shl. Own work. -/
import Derived.Test.YtbakldcbaikgpaaGreatDoorDig4
namespace Go.Proofs.YtbakldcbaikgpaaGreatDoor
set_option maxRecDepth 100000
noncomputable section
/-! ### Powers of two below 2^16 -/
def pwI (n : Int) : Int := stk ((2 ^ (n.toNat % 16) : Nat) : Int)
def goPw (n : Int) : Bool := stk (decide (0 ≤ n) && decide (n ≤ 10000000))
def stepPw (R : Type) (vs : List AV) (k1 : List AV → Option R) (k2 : Nat → List AV → Option R) : Option R :=
  match vs with
  | [.ints k .u32 out, .sl (.ints m .u32 l), .int .i64 n, .int .u32 x, .int .i64 i] => bif decide (i < n.tmod 16) then k1 [.ints k .u32 out, .sl (.ints m .u32 l), .int .i64 n, .int .u32 (u32 (2 * x)), .int .i64 (w64 (i + 1))] else k2 0 [.ints k .u32 out, .sl (.ints m .u32 l), .int .u32 x]
  | _ => none
def lePw : LEnt :=
  { inn := { fuel := none, keep := [0, 1, 6, 7], refs := [(5, 5, 190, .ints 0 .u32 [])] }
    out := { fuel := none, keep := [0, 6], refs := [(5, 5, 190, .ints 0 .u32 [])] }
    ret := { fuel := none, keep := [], refs := [] }
    go := fun _ _ vs kk => match vs with
      | [.ints k .u32 out, .sl (.ints m .u32 l), .int .i64 n, .int .u32 1, .int .i64 0] => chk (goPw n) (kk 0 [.ints k .u32 out, .sl (.ints m .u32 l), .int .u32 (pwI n)])
      | _ => none }
theorem step_pw (R : Type) (k : Nat) (out : List Int) (m : Nat) (l : List Int) (n x i : Int) (k1 : List AV → Option R) (k2 : Nat → List AV → Option R) :
    runA (env Tryz.f99.ntmps orcTrim []) (loopOf 0 (bodyC Tryz.f99)) 0 (stateOf lePw.inn [.ints k .u32 out, .sl (.ints m .u32 l), .int .i64 n, .int .u32 x, .int .i64 i]) (bodyK lePw 0 k1 k2) =
    stepPw R [.ints k .u32 out, .sl (.ints m .u32 l), .int .i64 n, .int .u32 x, .int .i64 i] k1 k2 := by kernel_rfl
theorem two_u32 {i : Nat} (h : i < 16) : u32 (2 * ((2 ^ i : Nat) : Int)) = ((2 ^ (i + 1) : Nat) : Int) := by
  have h1 : 2 ^ (i + 1) ≤ 2 ^ 16 := Nat.pow_le_pow_right (by decide) (by omega)
  have h2 : (2 : Nat) ^ (i + 1) = 2 * 2 ^ i := by rw [Nat.pow_succ, Nat.mul_comm]
  rw [show 2 * ((2 ^ i : Nat) : Int) = ((2 ^ (i + 1) : Nat) : Int) by rw [h2]; omega, u32_nat (by omega)]
theorem pw_loop (R : Type) (k : Nat) (out : List Int) (m : Nat) (l : List Int) (n : Nat) (kk : Nat → List AV → Option R) : ∀ (j i : Nat), i + j = n % 16 →
    ∃ f, loopN (stepPw R) f [.ints k .u32 out, .sl (.ints m .u32 l), .int .i64 (n : Int), .int .u32 ((2 ^ i : Nat) : Int), .int .i64 (i : Int)] kk = kk 0 [.ints k .u32 out, .sl (.ints m .u32 l), .int .u32 ((2 ^ (n % 16) : Nat) : Int)]
  | 0, i, h => by
    refine ⟨1, ?_⟩
    rw [loopN]
    simp only [stepPw]
    have e := tmodN n 16
    rw [show ((16 : Nat) : Int) = 16 from rfl] at e
    rw [e, decide_eq_false (show ¬ (i : Int) < ((n % 16 : Nat) : Int) by omega), show i = n % 16 by omega]
    rfl
  | j + 1, i, h => by
    obtain ⟨f, hf⟩ := pw_loop R k out m l n kk j (i + 1) (by omega)
    refine ⟨f + 1, ?_⟩
    rw [loopN]
    simp only [stepPw]
    have e := tmodN n 16
    rw [show ((16 : Nat) : Int) = 16 from rfl] at e
    rw [e, decide_eq_true (show (i : Int) < ((n % 16 : Nat) : Int) by omega), two_u32 (by omega), w64_mid (by omega) (by omega)]
    exact hf
theorem go_pw (R : Type) (n : Nat) (vs : List AV) (kk : Nat → List AV → Option R) (r : R) (h : lePw.go R n vs kk = some r) : ∃ m, loopN (stepPw R) m vs kk = some r := by
  simp only [lePw] at h
  split at h
  · rename_i k out m l n
    obtain ⟨hg, hk⟩ := chk_some h
    unfold goPw at hg
    rw [stk_eq] at hg
    simp only [Bool.and_eq_true, decide_eq_true_eq] at hg
    obtain ⟨a, rfl⟩ : ∃ a : Nat, n = a := ⟨n.toNat, (Int.toNat_of_nonneg hg.1).symm⟩
    obtain ⟨f, hf⟩ := pw_loop R k out m l a kk (a % 16) 0 (by omega)
    refine ⟨f, hf.trans ?_⟩
    unfold pwI at hk
    rw [stk_eq, Int.toNat_natCast] at hk
    exact hk
  · cases h
/-! ### The product -/
def slD (z : List Int) (l : List Int) (p : Int) : List Int := stk (z ++ digP l.length (valD l * p.toNat))
def slC (l : List Int) (p : Int) : Int := stk ((valD l * p.toNat / 65536 ^ l.length : Nat) : Int)
def slN (k : Nat) (l : List Int) : Nat := stk (k + l.length)
def goSl (k : Nat) (_z : List Int) (m : Nat) (l : List Int) (p : Int) : Bool := stk (decide (m = l.length) && okD l && decide (1 ≤ p) && decide (p ≤ 32768) && decide (k ≤ 1000000) && decide (m ≤ 1000000))
def stepSl (R : Type) (vs : List AV) (k1 : List AV → Option R) (k2 : Nat → List AV → Option R) : Option R :=
  match vs with
  | [.ints k .u32 out, .sl (.ints m .u32 l), .int .u32 p, .int .u32 c, .int .i64 i] =>
    bif decide (i < (m : Int)) then chk (decide (0 ≤ i) && decide (i < (m : Int)) && true) (chk (Nat.ble ((k + 1) * 4) 140737488355328) (k1 [.ints (k + 1) .u32 (out ++ [(u32 (c + u32 (l.getD i.toNat 0 * p))).tmod 65536]), .sl (.ints m .u32 l), .int .u32 p, .int .u32 (u32 ((u32 (c + u32 (l.getD i.toNat 0 * p))).tdiv 65536)), .int .i64 (w64 (i + 1))]))
    else k2 0 [.ints k .u32 out, .int .u32 c]
  | _ => none
def leSl : LEnt :=
  { inn := { fuel := none, keep := [0, 6, 8, 9], refs := [(5, 5, 190, .ints 0 .u32 [])] }
    out := { fuel := none, keep := [8], refs := [(5, 5, 190, .ints 0 .u32 [])] }
    ret := { fuel := none, keep := [], refs := [] }
    go := fun _ _ vs kk => match vs with
      | [.ints k .u32 z, .sl (.ints m .u32 l), .int .u32 p, .int .u32 0, .int .i64 0] => chk (goSl k z m l p) (kk 0 [.ints (slN k l) .u32 (slD z l p), .int .u32 (slC l p)])
      | _ => none }
theorem step_sl (R : Type) (k : Nat) (out : List Int) (m : Nat) (l : List Int) (p c i : Int) (k1 : List AV → Option R) (k2 : Nat → List AV → Option R) :
    runA (env Tryz.f99.ntmps orcTrim []) (loopOf 2 (bodyC Tryz.f99)) 2 (stateOf leSl.inn [.ints k .u32 out, .sl (.ints m .u32 l), .int .u32 p, .int .u32 c, .int .i64 i]) (bodyK leSl 2 k1 k2) =
    stepSl R [.ints k .u32 out, .sl (.ints m .u32 l), .int .u32 p, .int .u32 c, .int .i64 i] k1 k2 := by kernel_rfl
/-- One round of a product with a small number. -/
theorem sl_round {A P d p c : Nat} (hA : A % (P * 65536) = A % P + P * d) (hS : A * p % P + P * c = A % P * p) (hP : 0 < P) :
    A * p / P % 65536 = (c + d * p) % 65536 ∧ A * p % (P * 65536) + P * 65536 * ((c + d * p) / 65536) = A % (P * 65536) * p := by
  have e : A % (P * 65536) * p = A * p % P + P * (c + d * p) := by
    rw [hA, Nat.add_mul, ← hS, Nat.mul_add, Nat.mul_assoc]
    omega
  have hm : A % (P * 65536) * p % (P * 65536) = A * p % (P * 65536) := by rw [Nat.mod_mul_mod]
  have h3 : A * p % (P * 65536) = A * p % P + P * (A * p / P % 65536) := Nat.mod_mul
  have h1 : A * p % (P * 65536) / P = A * p / P % 65536 := Nat.mod_mul_right_div_self _ _ _
  have hdig : A * p / P % 65536 = (c + d * p) % 65536 := by
    rw [← h1, ← hm, e, Nat.mod_mul_right_div_self, Nat.add_mul_div_left _ _ hP, Nat.div_eq_of_lt (Nat.mod_lt _ hP), Nat.zero_add]
  have key : P * (c + d * p) = P * ((c + d * p) % 65536) + P * 65536 * ((c + d * p) / 65536) := by
    rw [Nat.mul_assoc, ← Nat.mul_add, Nat.mod_add_div]
  refine ⟨hdig, ?_⟩
  rw [e, h3, hdig]
  omega
theorem sl_loop (R : Type) {l : List Int} (hl : okD l = true) (hn : l.length ≤ 1000000) (k : Nat) (hk : k ≤ 1000000) (z : List Int) {p : Nat} (hp : 1 ≤ p ∧ p ≤ 32768) (kk : Nat → List AV → Option R) : ∀ (j i c : Nat), i + j = l.length → c < 65536 → valD l * p % 65536 ^ i + 65536 ^ i * c = valD l % 65536 ^ i * p →
    ∃ f, loopN (stepSl R) f [.ints (k + i) .u32 (z ++ digP i (valD l * p)), .sl (.ints l.length .u32 l), .int .u32 (p : Int), .int .u32 (c : Int), .int .i64 (i : Int)] kk = kk 0 [.ints (k + l.length) .u32 (z ++ digP l.length (valD l * p)), .int .u32 ((valD l * p / 65536 ^ l.length : Nat) : Int)]
  | 0, i, c, hij, _, hS => by
    have hi : i = l.length := by omega
    have hA : valD l % 65536 ^ i = valD l := Nat.mod_eq_of_lt (by rw [hi]; exact val_lt l hl)
    rw [hA] at hS
    have hc : c = valD l * p / 65536 ^ i := by
      have hP : 0 < 65536 ^ i := Nat.pow_pos (by decide)
      rw [← hS, Nat.add_mul_div_left _ _ hP, Nat.div_eq_of_lt (Nat.mod_lt _ hP), Nat.zero_add]
    refine ⟨1, ?_⟩
    rw [loopN]
    simp only [stepSl]
    rw [decide_eq_false (show ¬ (i : Int) < (l.length : Int) by omega), hc, hi]
    rfl
  | j + 1, i, c, hij, hc, hS => by
    have hA := mod_pow_succ (valD l) i
    rw [Nat.pow_succ] at hA
    have hd := Nat.mod_lt (valD l / 65536 ^ i) (show 0 < 65536 by decide)
    obtain ⟨r1, r2⟩ := sl_round (p := p) hA hS (Nat.pow_pos (by decide))
    have hg := get_val l i hl
    have hsn := dig_len_pos i (valD l * p)
    generalize hx : valD l / 65536 ^ i % 65536 = d at *
    have hdp : d * p ≤ 65535 * 32768 := Nat.mul_le_mul (by omega) hp.2
    obtain ⟨f, hf⟩ := sl_loop R hl hn k hk z hp kk j (i + 1) ((c + d * p) / 65536) (by omega) (by omega) (by rw [Nat.pow_succ]; exact r2)
    refine ⟨f + 1, ?_⟩
    rw [loopN]
    simp only [stepSl]
    have s1 : u32 ((d : Int) * (p : Int)) = ((d * p : Nat) : Int) := by
      rw [← Int.natCast_mul, u32_nat (by omega)]
    have s2 : u32 ((c : Int) + ((d * p : Nat) : Int)) = ((c + d * p : Nat) : Int) := by
      rw [show (c : Int) + ((d * p : Nat) : Int) = ((c + d * p : Nat) : Int) by omega, u32_nat (by omega)]
    have t1 := tdivN (c + d * p) 65536
    have t2 := tmodN (c + d * p) 65536
    rw [show ((65536 : Nat) : Int) = 65536 from rfl] at t1 t2
    rw [Int.toNat_natCast, hg, s1, s2, t1, t2, ← r1, List.append_assoc, hsn, u32_nat (by omega), decide_eq_true (show (i : Int) < (l.length : Int) by omega), decide_eq_true (show (0 : Int) ≤ (i : Int) by omega), Nat.ble_eq_true_of_le (show (k + i + 1) * 4 ≤ 140737488355328 by omega), w64_mid (by omega) (by omega), Nat.add_assoc k i 1]
    exact hf
theorem go_sl (R : Type) (n : Nat) (vs : List AV) (kk : Nat → List AV → Option R) (r : R) (h : leSl.go R n vs kk = some r) : ∃ m, loopN (stepSl R) m vs kk = some r := by
  simp only [leSl] at h
  split at h
  · rename_i k z m l p
    obtain ⟨hg, hk⟩ := chk_some h
    unfold goSl at hg
    rw [stk_eq] at hg
    simp only [Bool.and_eq_true, decide_eq_true_eq] at hg
    obtain ⟨⟨⟨⟨⟨g1, g2⟩, g3⟩, g4⟩, g5⟩, g6⟩ := hg
    subst g1
    obtain ⟨q, rfl⟩ : ∃ q : Nat, p = q := ⟨p.toNat, (Int.toNat_of_nonneg (by omega)).symm⟩
    obtain ⟨f, hf⟩ := sl_loop R g2 g6 k g5 z (p := q) (by omega) kk l.length 0 0 (by omega) (by omega) (by rw [Nat.pow_zero, Nat.mod_one, Nat.mod_one, Nat.zero_mul])
    rw [Nat.add_zero, show digP 0 (valD l * q) = [] from rfl, List.append_nil] at hf
    refine ⟨f, hf.trans ?_⟩
    unfold slN slD slC at hk
    rw [stk_eq, stk_eq, stk_eq, Int.toNat_natCast] at hk
    exact hk
  · cases h
/-! ### Shl -/
def mayS (n : Nat) (l : List Int) (i : Int) : Bool := stk (decide (n = l.length) && okD l && decide (n ≤ 100000) && decide (0 ≤ i) && decide (i ≤ 1000000))
def sp_dShl : List AV → Option Br
  | [.sl (.ints n .u32 l), .int .i64 i] => some (.chk (mayS n l i) (.br ((n : Int) == 0) (.leaf .nils) (.leaf (.sl (.ints (dgl (valD l * 2 ^ i.toNat)) .u32 (dg (valD l * 2 ^ i.toNat)))))))
  | _ => none
def shlZ (n : Nat) (l : List Int) (i : Int) (z : Int) : Option AV :=
  chk (goPw i) (chk (goSl z.toNat (List.replicate z.toNat 0) n l (pwI i)) (chk (Nat.ble ((slN z.toNat l + 1) * 4) 140737488355328) (chk (mayT (slN z.toNat l + 1) (slD (List.replicate z.toNat 0) l (pwI i) ++ [slC l (pwI i)]))
    (some (.sl (.ints (dgl (valD (slD (List.replicate z.toNat 0) l (pwI i) ++ [slC l (pwI i)]))) .u32 (dg (valD (slD (List.replicate z.toNat 0) l (pwI i) ++ [slC l (pwI i)])))))))))
theorem run_dShl (n : Nat) (l : List Int) (i : Int) : callA (env Tryz.f99.ntmps orcTrim [(0, lePw), (2, leSl)]) (bodyC Tryz.f99) Tryz.f99.results.toList (slots 0 [.sl (.ints n .u32 l), .int .i64 i]) some =
    bif (n : Int) == 0 then some .nils else chk (true && (w64 (i.tdiv 16) == w64 (i.tdiv 16)) && decide (0 ≤ w64 (i.tdiv 16)) && decide (((4 : Nat) : Int) * w64 (i.tdiv 16) ≤ 140737488355328) && decide (w64 (i.tdiv 16) < 9223372036854775808)) (shlZ n l i (w64 (i.tdiv 16))) := by kernel_rfl
theorem valD_zeros : ∀ n : Nat, valD (List.replicate n 0) = 0
  | 0 => rfl
  | n + 1 => by rw [List.replicate_succ, valD, valD_zeros n]; rfl
theorem okD_zeros : ∀ n : Nat, okD (List.replicate n 0) = true
  | 0 => rfl
  | n + 1 => by rw [List.replicate_succ, okD_cons]; exact ⟨by decide, okD_zeros n⟩
theorem okD_append {l m : List Int} (hl : okD l = true) (hm : okD m = true) : okD (l ++ m) = true := by
  unfold okD at *
  rw [List.all_append, hl, hm]
  rfl
theorem ok_dShl : EntOk Tryz.prog 99 (entB true sp_dShl) := by
  refine contractB (orc := orcTrim) (lo := [(0, lePw), (2, leSl)]) Tryz.func99 orcTrim_ok (by kernel_rfl) (by kernel_rfl) (by kernel_rfl)
    (loops_two (id := 0) (id' := 2) (y := .loop (loopOf 0 (bodyC Tryz.f99))) (y' := .loop (loopOf 2 (bodyC Tryz.f99))) (by kernel_rfl)
      (loopS (le := lePw) (orc := orcTrim) (lo' := []) orcTrim_ok (by kernel_rfl) rfl (loops_none (by kernel_rfl)) stepPw (fun R vs k1 k2 r h => ?_) go_pw)
      (loopS (le := leSl) (orc := orcTrim) (lo' := []) orcTrim_ok (by kernel_rfl) rfl (loops_none (by kernel_rfl)) stepSl (fun R vs k1 k2 r h => ?_) go_sl)) fun args t h => ?_
  · have h0 := h
    unfold stepPw at h
    split at h
    · exact (step_pw R _ _ _ _ _ _ _ k1 k2).trans h0
    · cases h
  · have h0 := h
    unfold stepSl at h
    split at h
    · exact (step_sl R _ _ _ _ _ _ _ k1 k2).trans h0
    · cases h
  · unfold sp_dShl at h
    split at h
    · rename_i n l i
      simp only [Option.some.injEq] at h
      subst h
      refine ⟨by kernel_rfl, .inl rfl, fun r hr => (run_dShl n l i).trans ?_⟩
      simp only [Br.run] at hr
      obtain ⟨hg, hr⟩ := chk_some hr
      unfold mayS at hg
      rw [stk_eq] at hg
      simp only [Bool.and_eq_true, decide_eq_true_eq] at hg
      obtain ⟨⟨⟨⟨g1, g2⟩, g3⟩, g4⟩, g5⟩ := hg
      subst g1
      obtain ⟨a, rfl⟩ : ∃ a : Nat, i = a := ⟨i.toNat, (Int.toNat_of_nonneg g4).symm⟩
      cases hz : ((l.length : Int) == 0) with
      | true => rw [hz] at hr; exact hr
      | false =>
        rw [hz, cond_false] at hr
        rw [cond_false, ← hr]
        have e := tdivN a 16
        rw [show ((16 : Nat) : Int) = 16 from rfl] at e
        rw [e, w64_mid (by omega) (by omega), beq_self_eq_true, decide_eq_true (show (0 : Int) ≤ ((a / 16 : Nat) : Int) by omega), decide_eq_true (show ((4 : Nat) : Int) * ((a / 16 : Nat) : Int) ≤ 140737488355328 by omega), decide_eq_true (show ((a / 16 : Nat) : Int) < 9223372036854775808 by omega)]
        have hp1 : 1 ≤ 2 ^ (a % 16) := Nat.one_le_two_pow
        have hp2 : 2 ^ (a % 16) ≤ 32768 := Nat.le_trans (Nat.pow_le_pow_right (by decide) (show a % 16 ≤ 15 by omega)) (by decide)
        have hc : valD l * 2 ^ (a % 16) / 65536 ^ l.length < 65536 := by
          rw [Nat.div_lt_iff_lt_mul (Nat.pow_pos (by decide)), Nat.mul_comm 65536]
          exact Nat.mul_lt_mul_of_lt_of_le (val_lt l g2) (by omega) (by omega)
        unfold shlZ
        rw [Int.toNat_natCast]
        have q1 : goPw (a : Int) = true := by unfold goPw; rw [stk_eq, decide_eq_true g4, decide_eq_true (show (a : Int) ≤ 10000000 by omega)]; rfl
        have q2 : pwI (a : Int) = ((2 ^ (a % 16) : Nat) : Int) := by unfold pwI; rw [stk_eq, Int.toNat_natCast]
        have q3 : goSl (a / 16) (List.replicate (a / 16) 0) l.length l ((2 ^ (a % 16) : Nat) : Int) = true := by
          unfold goSl
          rw [stk_eq, g2, decide_eq_true rfl, decide_eq_true (show (1 : Int) ≤ ((2 ^ (a % 16) : Nat) : Int) by omega), decide_eq_true (show ((2 ^ (a % 16) : Nat) : Int) ≤ 32768 by omega), decide_eq_true (show a / 16 ≤ 1000000 by omega), decide_eq_true (show l.length ≤ 1000000 by omega)]
          rfl
        have q4 : slN (a / 16) l = a / 16 + l.length := by unfold slN; rw [stk_eq]
        have q5 : slD (List.replicate (a / 16) 0) l ((2 ^ (a % 16) : Nat) : Int) = List.replicate (a / 16) 0 ++ digP l.length (valD l * 2 ^ (a % 16)) := by unfold slD; rw [stk_eq, Int.toNat_natCast]
        have q6 : slC l ((2 ^ (a % 16) : Nat) : Int) = ((valD l * 2 ^ (a % 16) / 65536 ^ l.length : Nat) : Int) := by unfold slC; rw [stk_eq, Int.toNat_natCast]
        have hv : valD (List.replicate (a / 16) 0 ++ digP l.length (valD l * 2 ^ (a % 16)) ++ [((valD l * 2 ^ (a % 16) / 65536 ^ l.length : Nat) : Int)]) = valD l * 2 ^ a := by
          rw [List.append_assoc, val_append, valD_zeros, Nat.zero_add, List.length_replicate, val_append, val_digP, len_digP]
          simp only [valD, Int.toNat_natCast, Nat.mul_zero, Nat.add_zero]
          rw [Nat.mod_add_div, pow16, Nat.mul_left_comm, ← Nat.pow_add, show 16 * (a / 16) + a % 16 = a by omega]
        have ho : okD (List.replicate (a / 16) 0 ++ digP l.length (valD l * 2 ^ (a % 16)) ++ [((valD l * 2 ^ (a % 16) / 65536 ^ l.length : Nat) : Int)]) = true :=
          okD_append (okD_append (okD_zeros _) (ok_digP _ _)) (okD_cons.2 ⟨⟨Int.natCast_nonneg _, Int.ofNat_lt.2 hc⟩, rfl⟩)
        have q7 : mayT (a / 16 + l.length + 1) (List.replicate (a / 16) 0 ++ digP l.length (valD l * 2 ^ (a % 16)) ++ [((valD l * 2 ^ (a % 16) / 65536 ^ l.length : Nat) : Int)]) = true := by
          unfold mayT
          rw [stk_eq, ho, decide_eq_true (show a / 16 + l.length + 1 ≤ 300000 by omega)]
          rw [List.length_append, List.length_append, List.length_replicate, len_digP, List.length_singleton, decide_eq_true rfl]
          rfl
        rw [q1, q2, q3, q4, q5, q6, q7, hv, Nat.ble_eq_true_of_le (show (a / 16 + l.length + 1) * 4 ≤ 140737488355328 by omega), Int.toNat_natCast]
        rfl
    · cases h
end
end Go.Proofs.YtbakldcbaikgpaaGreatDoor
