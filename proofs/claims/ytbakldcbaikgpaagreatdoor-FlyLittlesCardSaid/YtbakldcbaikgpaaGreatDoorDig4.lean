/- tillerref02: Add, Sub. Own work. -/
import Derived.Test.YtbakldcbaikgpaaGreatDoorDig3
namespace Go.Proofs.YtbakldcbaikgpaaGreatDoor
set_option maxRecDepth 100000
noncomputable section
def orcAT : List (FuncId × Ent) := [(133, entS false sp_at), (132, entS true sp_trim)]
theorem orcAT_ok {nt : Nat} {lo : List (Nat × LEnt)} : OrcOk Tryz.prog (env nt orcAT lo) := orc_cons ok_at (orc_cons ok_trim orc_nil)
theorem mod_pow_succ (v i : Nat) : v % 65536 ^ (i + 1) = v % 65536 ^ i + 65536 ^ i * (v / 65536 ^ i % 65536) := by rw [Nat.pow_succ, Nat.mod_mul]
/-! ### Add -/
def adLen (a b : List Int) : Nat := if valD a + valD b < 65536 ^ max a.length b.length then max a.length b.length else max a.length b.length + 1
def adL (a b : List Int) : Nat := stk (adLen a b)
def adD (a b : List Int) : List Int := stk (digP (adLen a b) (valD a + valD b))
def stepAdd (R : Type) (vs : List AV) (k1 : List AV → Option R) (k2 : Nat → List AV → Option R) : Option R :=
  match vs with
  | [.ints k .u32 out, .sl (.ints n .u32 a), .sl (.ints m .u32 b), .int .u32 c, .int .i64 i] =>
    bif decide (i < (n : Int)) then chk (mayL n a) (chk (mayL m b) (chk (Nat.ble ((k + 1) * 4) 140737488355328) (k1 [.ints (k + 1) .u32 (out ++ [(u32 (u32 (c + atI a i) + atI b i)).tmod 65536]), .sl (.ints n .u32 a), .sl (.ints m .u32 b), .int .u32 (u32 ((u32 (u32 (c + atI a i) + atI b i)).tdiv 65536)), .int .i64 (w64 (i + 1))])))
    else bif decide (i < (m : Int)) then chk (mayL n a) (chk (mayL m b) (chk (Nat.ble ((k + 1) * 4) 140737488355328) (k1 [.ints (k + 1) .u32 (out ++ [(u32 (u32 (c + atI a i) + atI b i)).tmod 65536]), .sl (.ints n .u32 a), .sl (.ints m .u32 b), .int .u32 (u32 ((u32 (u32 (c + atI a i) + atI b i)).tdiv 65536)), .int .i64 (w64 (i + 1))])))
    else bif decide (c > 0) then chk (mayL n a) (chk (mayL m b) (chk (Nat.ble ((k + 1) * 4) 140737488355328) (k1 [.ints (k + 1) .u32 (out ++ [(u32 (u32 (c + atI a i) + atI b i)).tmod 65536]), .sl (.ints n .u32 a), .sl (.ints m .u32 b), .int .u32 (u32 ((u32 (u32 (c + atI a i) + atI b i)).tdiv 65536)), .int .i64 (w64 (i + 1))])))
    else k2 0 [.ints k .u32 out]
  | _ => none
def leAdd : LEnt :=
  { inn := { fuel := none, keep := [0, 1, 6, 7], refs := [(5, 5, 190, .ints 0 .u32 [])] }
    out := { fuel := none, keep := [], refs := [(5, 5, 190, .ints 0 .u32 [])] }
    ret := { fuel := none, keep := [], refs := [] }
    go := fun _ _ vs kk => match vs with
      | [.ints 0 .u32 [], .sl (.ints n .u32 a), .sl (.ints m .u32 b), .int .u32 0, .int .i64 0] => chk (mayC2 n a m b) (kk 0 [.ints (adL a b) .u32 (adD a b)])
      | _ => none }
theorem step_add (R : Type) (k : Nat) (out : List Int) (n : Nat) (a : List Int) (m : Nat) (b : List Int) (c i : Int) (k1 : List AV → Option R) (k2 : Nat → List AV → Option R) :
    runA (env Tryz.f125.ntmps orcAT []) (loopOf 0 (bodyC Tryz.f125)) 0 (stateOf leAdd.inn [.ints k .u32 out, .sl (.ints n .u32 a), .sl (.ints m .u32 b), .int .u32 c, .int .i64 i]) (bodyK leAdd 0 k1 k2) =
    stepAdd R [.ints k .u32 out, .sl (.ints n .u32 a), .sl (.ints m .u32 b), .int .u32 c, .int .i64 i] k1 k2 := by kernel_rfl
/-- One round of a sum. -/
theorem add_round {A B P da db c : Nat} (hA : A % (P * 65536) = A % P + P * da) (hB : B % (P * 65536) = B % P + P * db) (hS : (A + B) % P + P * c = A % P + B % P) (hc : c ≤ 1) (hda : da < 65536) (hdb : db < 65536) (hP : 0 < P) :
    (A + B) / P % 65536 = (c + da + db) % 65536 ∧ (A + B) % (P * 65536) + P * 65536 * ((c + da + db) / 65536) = A % (P * 65536) + B % (P * 65536) ∧ (c + da + db) / 65536 ≤ 1 := by
  have e : A % (P * 65536) + B % (P * 65536) = (A + B) % P + P * (c + da + db) := by
    rw [hA, hB, Nat.mul_add, Nat.mul_add]
    omega
  have hm : (A % (P * 65536) + B % (P * 65536)) % (P * 65536) = (A + B) % (P * 65536) := by rw [← Nat.add_mod]
  have hdig : (A + B) / P % 65536 = (c + da + db) % 65536 := by
    have h1 : (A + B) % (P * 65536) / P = (A + B) / P % 65536 := Nat.mod_mul_right_div_self _ _ _
    rw [← h1, ← hm, e]
    have h2 : ((A + B) % P + P * (c + da + db)) % (P * 65536) / P = ((A + B) % P + P * (c + da + db)) / P % 65536 := Nat.mod_mul_right_div_self _ _ _
    rw [h2, Nat.add_mul_div_left _ _ hP, Nat.div_eq_of_lt (Nat.mod_lt _ hP), Nat.zero_add]
  refine ⟨hdig, ?_, by omega⟩
  have h3 : (A + B) % (P * 65536) = (A + B) % P + P * ((A + B) / P % 65536) := Nat.mod_mul
  rw [e, h3, hdig, Nat.mul_assoc, Nat.add_assoc, ← Nat.mul_add]
  congr 2
  omega
theorem dig_len_pos (n v : Nat) : digP n v ++ [((v / 65536 ^ n % 65536 : Nat) : Int)] = digP (n + 1) v := (digP_snoc n v).symm
theorem add_loop (R : Type) {a b : List Int} (ha : okD a = true) (hb : okD b = true) (hn : a.length ≤ 200000) (hm : b.length ≤ 200000) (kk : Nat → List AV → Option R) : ∀ (j i c : Nat), i + j = max a.length b.length → c ≤ 1 → (valD a + valD b) % 65536 ^ i + 65536 ^ i * c = valD a % 65536 ^ i + valD b % 65536 ^ i →
    ∃ f, loopN (stepAdd R) f [.ints i .u32 (digP i (valD a + valD b)), .sl (.ints a.length .u32 a), .sl (.ints b.length .u32 b), .int .u32 (c : Int), .int .i64 (i : Int)] kk = kk 0 [.ints (adLen a b) .u32 (digP (adLen a b) (valD a + valD b))] := by
  have round : ∀ i c : Nat, i ≤ 200001 → c ≤ 1 → (valD a + valD b) % 65536 ^ i + 65536 ^ i * c = valD a % 65536 ^ i + valD b % 65536 ^ i →
      ∃ c' : Nat, c' ≤ 1 ∧ (valD a + valD b) % 65536 ^ (i + 1) + 65536 ^ (i + 1) * c' = valD a % 65536 ^ (i + 1) + valD b % 65536 ^ (i + 1) ∧ u32 ((u32 (u32 ((c : Int) + atI a (i : Int)) + atI b (i : Int))).tdiv 65536) = (c' : Int) ∧
        digP i (valD a + valD b) ++ [(u32 (u32 ((c : Int) + atI a (i : Int)) + atI b (i : Int))).tmod 65536] = digP (i + 1) (valD a + valD b) ∧ Nat.ble ((i + 1) * 4) 140737488355328 = true ∧ w64 ((i : Int) + 1) = ((i + 1 : Nat) : Int) := by
    intro i c hi hc hS
    have da := Nat.mod_lt (valD a / 65536 ^ i) (show 0 < 65536 by decide)
    have db := Nat.mod_lt (valD b / 65536 ^ i) (show 0 < 65536 by decide)
    have hA := mod_pow_succ (valD a) i
    have hB := mod_pow_succ (valD b) i
    rw [Nat.pow_succ] at hA hB
    obtain ⟨r1, r2, r3⟩ := add_round hA hB hS hc da db (Nat.pow_pos (by decide))
    have ea := at_val ha i
    have eb := at_val hb i
    generalize valD a / 65536 ^ i % 65536 = x at *
    generalize valD b / 65536 ^ i % 65536 = y at *
    have s1 : u32 ((c : Int) + (x : Int)) = ((c + x : Nat) : Int) := by
      rw [show (c : Int) + (x : Int) = ((c + x : Nat) : Int) by omega, u32_nat (by omega)]
    have s2 : u32 (((c + x : Nat) : Int) + (y : Int)) = ((c + x + y : Nat) : Int) := by
      rw [show ((c + x : Nat) : Int) + (y : Int) = ((c + x + y : Nat) : Int) by omega, u32_nat (by omega)]
    have t1 := tdivN (c + x + y) 65536
    have t2 := tmodN (c + x + y) 65536
    rw [show ((65536 : Nat) : Int) = 65536 from rfl] at t1 t2
    refine ⟨(c + x + y) / 65536, r3, by rw [Nat.pow_succ]; exact r2, ?_, ?_, ?_, ?_⟩
    · rw [ea, eb, s1, s2, t1, u32_nat (by omega)]
    · rw [ea, eb, s1, s2, t2, ← r1]
      exact dig_len_pos _ _
    · exact Nat.ble_eq_true_of_le (by omega)
    · rw [w64_mid (by omega) (by omega)]; omega
  intro j
  induction j with
  | zero =>
    intro i c hij hc hS
    have hA : valD a % 65536 ^ i = valD a := Nat.mod_eq_of_lt (Nat.lt_of_lt_of_le (val_lt a ha) (Nat.pow_le_pow_right (by decide) (by omega)))
    have hB : valD b % 65536 ^ i = valD b := Nat.mod_eq_of_lt (Nat.lt_of_lt_of_le (val_lt b hb) (Nat.pow_le_pow_right (by decide) (by omega)))
    rw [hA, hB] at hS
    have hi : i = max a.length b.length := by omega
    have d1 : decide ((i : Int) < (a.length : Int)) = false := decide_eq_false (by omega)
    have d2 : decide ((i : Int) < (b.length : Int)) = false := decide_eq_false (by omega)
    have hml : (valD a + valD b) % 65536 ^ i < 65536 ^ i := Nat.mod_lt _ (Nat.pow_pos (by decide))
    by_cases h0 : c = 0
    · subst h0
      have hlt : valD a + valD b < 65536 ^ i := by omega
      have hl : adLen a b = i := by unfold adLen; rw [← hi, if_pos hlt]
      refine ⟨1, ?_⟩
      rw [loopN, hl]
      simp only [stepAdd]
      rw [d1, d2]
      rfl
    · have h1 : c = 1 := by omega
      subst h1
      have hge : ¬ valD a + valD b < 65536 ^ i := by omega
      have hl : adLen a b = i + 1 := by unfold adLen; rw [← hi, if_neg hge]
      obtain ⟨c', q1, q2, q3, q4, q5, q6⟩ := round i 1 (by omega) (Nat.le_refl 1) (by rw [hA, hB]; exact hS)
      have hA2 : valD a % 65536 ^ (i + 1) = valD a := Nat.mod_eq_of_lt (Nat.lt_of_lt_of_le (val_lt a ha) (Nat.pow_le_pow_right (by decide) (by omega)))
      have hB2 : valD b % 65536 ^ (i + 1) = valD b := Nat.mod_eq_of_lt (Nat.lt_of_lt_of_le (val_lt b hb) (Nat.pow_le_pow_right (by decide) (by omega)))
      have hc0 : c' = 0 := by
        rw [hA2, hB2] at q2
        have la := Nat.lt_of_lt_of_le (val_lt a ha) (Nat.pow_le_pow_right (n := 65536) (by decide) (show a.length ≤ i by omega))
        have lb := Nat.lt_of_lt_of_le (val_lt b hb) (Nat.pow_le_pow_right (n := 65536) (by decide) (show b.length ≤ i by omega))
        rw [Nat.pow_succ] at q2
        rcases Nat.eq_zero_or_pos c' with h | h
        · exact h
        · exfalso
          have : 65536 ^ i * 65536 * 1 ≤ 65536 ^ i * 65536 * c' := Nat.mul_le_mul_left _ h
          omega
      subst hc0
      refine ⟨2, ?_⟩
      rw [loopN, hl]
      simp only [stepAdd]
      rw [d1, d2, mayL_self, mayL_self, decide_eq_true (show ((1 : Nat) : Int) > 0 by decide), q3, q4, q5, q6]
      simp only [cond_true, cond_false, chk]
      rw [loopN]
      simp only [stepAdd]
      have d3 : decide (((i + 1 : Nat) : Int) < (a.length : Int)) = false := decide_eq_false (by omega)
      have d4 : decide (((i + 1 : Nat) : Int) < (b.length : Int)) = false := decide_eq_false (by omega)
      rw [d3, d4]
      rfl
  | succ j ih =>
    intro i c hij hc hS
    obtain ⟨c', q1, q2, q3, q4, q5, q6⟩ := round i c (by omega) hc hS
    obtain ⟨f, hf⟩ := ih (i + 1) c' (by omega) q1 q2
    refine ⟨f + 1, ?_⟩
    rw [loopN]
    simp only [stepAdd]
    rw [mayL_self, mayL_self, q3, q4, q5, q6]
    simp only [cond_true, chk]
    by_cases h1 : (i : Int) < (a.length : Int)
    · rw [decide_eq_true h1]; exact hf
    · rw [decide_eq_false h1, decide_eq_true (show (i : Int) < (b.length : Int) by omega)]; exact hf
theorem mayC2_iff {n : Nat} {a : List Int} {m : Nat} {b : List Int} : mayC2 n a m b = true ↔ ((n = a.length ∧ m = b.length) ∧ okD a = true ∧ okD b = true) ∧ n ≤ 200000 ∧ m ≤ 200000 := by
  unfold mayC2
  rw [stk_eq]
  simp only [Bool.and_eq_true, decide_eq_true_eq, and_assoc]
theorem go_add (R : Type) (n : Nat) (vs : List AV) (kk : Nat → List AV → Option R) (r : R) (h : leAdd.go R n vs kk = some r) : ∃ m, loopN (stepAdd R) m vs kk = some r := by
  simp only [leAdd] at h
  split at h
  · rename_i n a m b
    obtain ⟨hg, hk⟩ := chk_some h
    obtain ⟨⟨⟨g1, g2⟩, g3, g4⟩, g5, g6⟩ := mayC2_iff.1 hg
    subst g1 g2
    obtain ⟨f, hf⟩ := add_loop R g3 g4 g5 g6 kk (max a.length b.length) 0 0 (by omega) (by omega) (by rw [Nat.pow_zero, Nat.mod_one, Nat.mod_one, Nat.mod_one])
    refine ⟨f, hf.trans ?_⟩
    unfold adL adD at hk
    rw [stk_eq, stk_eq] at hk
    exact hk
  · cases h
def sp_dAdd : List AV → Option (Bool × AV)
  | [.sl (.ints n .u32 a), .sl (.ints m .u32 b)] => some (mayC2 n a m b, .sl (.ints (dgl (valD a + valD b)) .u32 (dg (valD a + valD b))))
  | _ => none
theorem run_dAdd (n : Nat) (a : List Int) (m : Nat) (b : List Int) : callA (env Tryz.f125.ntmps orcAT [(0, leAdd)]) (bodyC Tryz.f125) Tryz.f125.results.toList (slots 0 [.sl (.ints n .u32 a), .sl (.ints m .u32 b)]) some =
    chk (mayC2 n a m b) (chk (mayT (adL a b) (adD a b)) (some (.sl (.ints (dgl (valD (adD a b))) .u32 (dg (valD (adD a b))))))) := by kernel_rfl
theorem ok_dAdd : EntOk Tryz.prog 125 (entS true sp_dAdd) := by
  refine contractS (orc := orcAT) (lo := [(0, leAdd)]) Tryz.func125 orcAT_ok (by kernel_rfl) (by kernel_rfl) (by kernel_rfl)
    (loops_one (id := 0) (y := .loop (loopOf 0 (bodyC Tryz.f125))) (by kernel_rfl)
      (loopS (le := leAdd) (orc := orcAT) (lo' := []) orcAT_ok (by kernel_rfl) rfl (loops_none (by kernel_rfl)) stepAdd (fun R vs k1 k2 r h => ?_) go_add)) fun args r h => ?_
  · have h0 := h
    unfold stepAdd at h
    split at h
    · exact (step_add R _ _ _ _ _ _ _ _ k1 k2).trans h0
    · cases h
  · unfold sp_dAdd at h
    split at h
    · rename_i n a m b
      simp only [Option.some.injEq, Prod.mk.injEq] at h
      obtain ⟨hg, rfl⟩ := h
      refine ⟨by kernel_rfl, .inl rfl, (run_dAdd n a m b).trans ?_⟩
      obtain ⟨⟨⟨g1, g2⟩, g3, g4⟩, g5, g6⟩ := mayC2_iff.1 hg
      subst g1 g2
      have la := val_lt a g3
      have lb := val_lt b g4
      have la2 := Nat.lt_of_lt_of_le la (Nat.pow_le_pow_right (n := 65536) (by decide) (Nat.le_max_left a.length b.length))
      have lb2 := Nat.lt_of_lt_of_le lb (Nat.pow_le_pow_right (n := 65536) (by decide) (Nat.le_max_right a.length b.length))
      have hlt : valD a + valD b < 65536 ^ adLen a b := by
        unfold adLen
        split
        · assumption
        · rw [Nat.pow_succ]; omega
      have hle : adLen a b ≤ 200001 := by
        unfold adLen
        split <;> omega
      have hv : valD (adD a b) = valD a + valD b := by unfold adD; rw [stk_eq, val_digP, Nat.mod_eq_of_lt hlt]
      have ht : mayT (adL a b) (adD a b) = true := by
        unfold mayT adL adD
        rw [stk_eq, stk_eq, stk_eq, ok_digP, len_digP, decide_eq_true rfl, decide_eq_true (show adLen a b ≤ 300000 by omega)]
        rfl
      rw [hg, ht, hv]
      rfl
    · cases h
/-! ### Sub -/
def sbD (a b : List Int) : List Int := stk (digP a.length (valD a - valD b))
def maySub (n : Nat) (a : List Int) (m : Nat) (b : List Int) : Bool := mayC2 n a m b && stk (decide (valD b ≤ valD a))
def sX (a b : List Int) (c i : Int) : Int := u32 (u32 (u32 (65536 + atI a i) - atI b i) - c)
def stepSub (R : Type) (vs : List AV) (k1 : List AV → Option R) (k2 : Nat → List AV → Option R) : Option R :=
  match vs with
  | [.ints k .u32 out, .sl (.ints n .u32 a), .sl (.ints m .u32 b), .int .u32 c, .int .i64 i] =>
    bif decide (i < (n : Int)) then chk (mayL n a) (chk (mayL m b) (chk (Nat.ble ((k + 1) * 4) 140737488355328) (k1 [.ints (k + 1) .u32 (out ++ [(sX a b c i).tmod 65536]), .sl (.ints n .u32 a), .sl (.ints m .u32 b), .int .u32 (u32 (1 - u32 ((sX a b c i).tdiv 65536))), .int .i64 (w64 (i + 1))])))
    else k2 0 [.ints k .u32 out]
  | _ => none
def leSub : LEnt :=
  { inn := { fuel := none, keep := [0, 1, 6, 7], refs := [(5, 5, 190, .ints 0 .u32 [])] }
    out := { fuel := none, keep := [], refs := [(5, 5, 190, .ints 0 .u32 [])] }
    ret := { fuel := none, keep := [], refs := [] }
    go := fun _ _ vs kk => match vs with
      | [.ints 0 .u32 [], .sl (.ints n .u32 a), .sl (.ints m .u32 b), .int .u32 0, .int .i64 0] => chk (maySub n a m b) (kk 0 [.ints n .u32 (sbD a b)])
      | _ => none }
theorem step_sub (R : Type) (k : Nat) (out : List Int) (n : Nat) (a : List Int) (m : Nat) (b : List Int) (c i : Int) (k1 : List AV → Option R) (k2 : Nat → List AV → Option R) :
    runA (env Tryz.f101.ntmps orcAT []) (loopOf 0 (bodyC Tryz.f101)) 0 (stateOf leSub.inn [.ints k .u32 out, .sl (.ints n .u32 a), .sl (.ints m .u32 b), .int .u32 c, .int .i64 i]) (bodyK leSub 0 k1 k2) =
    stepSub R [.ints k .u32 out, .sl (.ints n .u32 a), .sl (.ints m .u32 b), .int .u32 c, .int .i64 i] k1 k2 := by kernel_rfl
/-- One round of a difference: D and B are what A is made of. -/
theorem sub_round {D B P da db c : Nat} (hA : (D + B) % (P * 65536) = (D + B) % P + P * da) (hB : B % (P * 65536) = B % P + P * db) (hS : D % P + B % P = (D + B) % P + P * c) (hc : c ≤ 1) (_hda : da < 65536) (hdb : db < 65536) (hP : 0 < P) :
    ∃ c' : Nat, c' ≤ 1 ∧ D / P % 65536 + db + c = da + 65536 * c' ∧ D % (P * 65536) + B % (P * 65536) = (D + B) % (P * 65536) + P * 65536 * c' := by
  have hD : D % (P * 65536) = D % P + P * (D / P % 65536) := Nat.mod_mul
  have hdd : D / P % 65536 < 65536 := Nat.mod_lt _ (by decide)
  have hm : (D % (P * 65536) + B % (P * 65536)) % (P * 65536) = (D + B) % (P * 65536) := by rw [← Nat.add_mod]
  generalize D / P % 65536 = dd at *
  have e : D % (P * 65536) + B % (P * 65536) = (D + B) % P + P * (dd + db + c) := by
    rw [hD, hB, Nat.mul_add, Nat.mul_add]
    omega
  have h2 : ((D + B) % P + P * (dd + db + c)) % (P * 65536) / P = ((D + B) % P + P * (dd + db + c)) / P % 65536 := Nat.mod_mul_right_div_self _ _ _
  have h3 : ((D + B) % P + P * da) / P = da := by rw [Nat.add_mul_div_left _ _ hP, Nat.div_eq_of_lt (Nat.mod_lt _ hP), Nat.zero_add]
  rw [← e, hm, hA, h3, e, Nat.add_mul_div_left _ _ hP, Nat.div_eq_of_lt (Nat.mod_lt _ hP), Nat.zero_add] at h2
  have k0 : dd + db + c = da + 65536 * ((dd + db + c) / 65536) := by omega
  have key : P * (dd + db + c) = P * da + P * 65536 * ((dd + db + c) / 65536) := by
    rw [Nat.mul_assoc, ← Nat.mul_add, ← k0]
  refine ⟨(dd + db + c) / 65536, by omega, by omega, ?_⟩
  rw [e, hA]
  omega
theorem sub_loop (R : Type) {a b : List Int} (ha : okD a = true) (hb : okD b = true) (hn : a.length ≤ 200000) (hle : valD b ≤ valD a) (kk : Nat → List AV → Option R) : ∀ (j i c : Nat), i + j = a.length → c ≤ 1 → (valD a - valD b) % 65536 ^ i + valD b % 65536 ^ i = valD a % 65536 ^ i + 65536 ^ i * c →
    ∃ f, loopN (stepSub R) f [.ints i .u32 (digP i (valD a - valD b)), .sl (.ints a.length .u32 a), .sl (.ints b.length .u32 b), .int .u32 (c : Int), .int .i64 (i : Int)] kk = kk 0 [.ints a.length .u32 (digP a.length (valD a - valD b))]
  | 0, i, c, hij, _, _ => by
    refine ⟨1, ?_⟩
    rw [loopN]
    simp only [stepSub]
    rw [decide_eq_false (show ¬ (i : Int) < (a.length : Int) by omega), show i = a.length by omega]
    rfl
  | j + 1, i, c, hij, hc, hS => by
    have da := Nat.mod_lt (valD a / 65536 ^ i) (show 0 < 65536 by decide)
    have db := Nat.mod_lt (valD b / 65536 ^ i) (show 0 < 65536 by decide)
    have hA := mod_pow_succ (valD a) i
    have hB := mod_pow_succ (valD b) i
    obtain ⟨D, hD⟩ : ∃ D, valD a = D + valD b := ⟨valD a - valD b, by omega⟩
    have hDs : valD a - valD b = D := by omega
    have ea := at_val ha i
    have eb := at_val hb i
    rw [hDs] at hS ⊢
    rw [hD] at hS hA ea da
    rw [Nat.pow_succ] at hA hB
    obtain ⟨c', r1, r2, r3⟩ := sub_round hA hB hS hc da db (Nat.pow_pos (by decide))
    obtain ⟨f, hf⟩ := sub_loop R ha hb hn hle kk j (i + 1) c' (by omega) r1 (by rw [hDs, hD, Nat.pow_succ]; exact r3)
    rw [hDs] at hf
    have hdd : D / 65536 ^ i % 65536 < 65536 := Nat.mod_lt _ (by decide)
    have hsn := dig_len_pos i D
    refine ⟨f + 1, ?_⟩
    rw [loopN]
    simp only [stepSub]
    unfold sX
    rw [ea, eb]
    generalize (D + valD b) / 65536 ^ i % 65536 = x at *
    generalize valD b / 65536 ^ i % 65536 = y at *
    generalize D / 65536 ^ i % 65536 = d at *
    have s1 : u32 (65536 + (x : Int)) = ((65536 + x : Nat) : Int) := by
      rw [show 65536 + (x : Int) = ((65536 + x : Nat) : Int) by omega, u32_nat (by omega)]
    have s2 : u32 (((65536 + x : Nat) : Int) - (y : Int)) = ((65536 + x - y : Nat) : Int) := by
      rw [show ((65536 + x : Nat) : Int) - (y : Int) = ((65536 + x - y : Nat) : Int) by omega, u32_nat (by omega)]
    have s3 : u32 (((65536 + x - y : Nat) : Int) - (c : Int)) = ((65536 + x - y - c : Nat) : Int) := by
      rw [show ((65536 + x - y : Nat) : Int) - (c : Int) = ((65536 + x - y - c : Nat) : Int) by omega, u32_nat (by omega)]
    have t1 := tdivN (65536 + x - y - c) 65536
    have t2 := tmodN (65536 + x - y - c) 65536
    rw [show ((65536 : Nat) : Int) = 65536 from rfl] at t1 t2
    have v1 : (65536 + x - y - c) % 65536 = d := by omega
    have v2 : u32 (1 - u32 (((65536 + x - y - c) / 65536 : Nat) : Int)) = (c' : Int) := by
      rw [u32_nat (by omega), show (1 : Int) - (((65536 + x - y - c) / 65536 : Nat) : Int) = (c' : Int) by omega, u32_nat (by omega)]
    rw [s1, s2, s3, t1, t2, v1, v2, mayL_self, mayL_self, decide_eq_true (show (i : Int) < (a.length : Int) by omega), hsn, Nat.ble_eq_true_of_le (show (i + 1) * 4 ≤ 140737488355328 by omega), w64_mid (by omega) (by omega)]
    exact hf
theorem go_sub (R : Type) (n : Nat) (vs : List AV) (kk : Nat → List AV → Option R) (r : R) (h : leSub.go R n vs kk = some r) : ∃ m, loopN (stepSub R) m vs kk = some r := by
  simp only [leSub] at h
  split at h
  · rename_i n a m b
    obtain ⟨hg, hk⟩ := chk_some h
    unfold maySub at hg
    rw [Bool.and_eq_true, stk_eq, decide_eq_true_iff] at hg
    obtain ⟨⟨⟨g1, g2⟩, g3, g4⟩, g5, g6⟩ := mayC2_iff.1 hg.1
    subst g1 g2
    obtain ⟨f, hf⟩ := sub_loop R g3 g4 g5 hg.2 kk a.length 0 0 (by omega) (by omega) (by rw [Nat.pow_zero, Nat.mod_one, Nat.mod_one, Nat.mod_one])
    refine ⟨f, hf.trans ?_⟩
    unfold sbD at hk
    rw [stk_eq] at hk
    exact hk
  · cases h
def sp_dSub : List AV → Option (Bool × AV)
  | [.sl (.ints n .u32 a), .sl (.ints m .u32 b)] => some (maySub n a m b, .sl (.ints (dgl (valD a - valD b)) .u32 (dg (valD a - valD b))))
  | _ => none
theorem run_dSub (n : Nat) (a : List Int) (m : Nat) (b : List Int) : callA (env Tryz.f101.ntmps orcAT [(0, leSub)]) (bodyC Tryz.f101) Tryz.f101.results.toList (slots 0 [.sl (.ints n .u32 a), .sl (.ints m .u32 b)]) some =
    chk (maySub n a m b) (chk (mayT n (sbD a b)) (some (.sl (.ints (dgl (valD (sbD a b))) .u32 (dg (valD (sbD a b))))))) := by kernel_rfl
theorem ok_dSub : EntOk Tryz.prog 101 (entS true sp_dSub) := by
  refine contractS (orc := orcAT) (lo := [(0, leSub)]) Tryz.func101 orcAT_ok (by kernel_rfl) (by kernel_rfl) (by kernel_rfl)
    (loops_one (id := 0) (y := .loop (loopOf 0 (bodyC Tryz.f101))) (by kernel_rfl)
      (loopS (le := leSub) (orc := orcAT) (lo' := []) orcAT_ok (by kernel_rfl) rfl (loops_none (by kernel_rfl)) stepSub (fun R vs k1 k2 r h => ?_) go_sub)) fun args r h => ?_
  · have h0 := h
    unfold stepSub at h
    split at h
    · exact (step_sub R _ _ _ _ _ _ _ _ k1 k2).trans h0
    · cases h
  · unfold sp_dSub at h
    split at h
    · rename_i n a m b
      simp only [Option.some.injEq, Prod.mk.injEq] at h
      obtain ⟨hg, rfl⟩ := h
      refine ⟨by kernel_rfl, .inl rfl, (run_dSub n a m b).trans ?_⟩
      have hg' := hg
      unfold maySub at hg'
      rw [Bool.and_eq_true, stk_eq, decide_eq_true_iff] at hg'
      obtain ⟨⟨⟨g1, g2⟩, g3, g4⟩, g5, g6⟩ := mayC2_iff.1 hg'.1
      subst g1 g2
      have la := val_lt a g3
      have hv : valD (sbD a b) = valD a - valD b := by unfold sbD; rw [stk_eq, val_digP, Nat.mod_eq_of_lt (by omega)]
      have ht : mayT a.length (sbD a b) = true := by
        unfold mayT sbD
        rw [stk_eq, stk_eq, ok_digP, len_digP, decide_eq_true rfl, decide_eq_true (show a.length ≤ 300000 by omega)]
        rfl
      rw [hg, ht, hv]
      rfl
    · cases h
end
end Go.Proofs.YtbakldcbaikgpaaGreatDoor
