/- The texts Dig10, Dig11, joined. Own work. -/
import Derived.Test.YtbakldcbaikgpaaGreatDoorDig4
import Derived.Test.YtbakldcbaikgpaaGreatDoorDig9
import Derived.Test.YtbakldcbaikgpaaGreatDoorDig6
/- tillerref02: Small. Own work. -/
namespace Go.Proofs.YtbakldcbaikgpaaGreatDoor
set_option maxRecDepth 100000
noncomputable section
/-- What is carried after so many digits. -/
def smC (A y m i : Nat) : Nat := (A % 65536 ^ i * y + m) / 65536 ^ i
theorem smC_lt {A y m i : Nat} (hy : y < 65536) (hm : m < 65536) : smC A y m i < 65536 := by
  unfold smC
  have hP : 0 < 65536 ^ i := Nat.pow_pos (by decide)
  rw [Nat.div_lt_iff_lt_mul hP]
  have h1 := Nat.mod_lt A hP
  generalize 65536 ^ i = P at *
  have h2 : A % P * y ≤ (P - 1) * 65535 := Nat.mul_le_mul (by omega) (by omega)
  omega
theorem smC_step {A y m : Nat} (i : Nat) :
    smC A y m (i + 1) = (smC A y m i + A / 65536 ^ i % 65536 * y) / 65536 ∧ (smC A y m i + A / 65536 ^ i % 65536 * y) % 65536 = (A * y + m) / 65536 ^ i % 65536 := by
  unfold smC
  have hP : 0 < 65536 ^ i := Nat.pow_pos (by decide)
  have h1 := mod_pow_succ A i
  have h2 : A % 65536 ^ (i + 1) + 65536 ^ (i + 1) * (A / 65536 ^ (i + 1)) = A := Nat.mod_add_div _ _
  have h3 : (65536 : Nat) ^ (i + 1) = 65536 ^ i * 65536 := Nat.pow_succ ..
  have e1 : (A % 65536 ^ i * y + m) / 65536 ^ i + A / 65536 ^ i % 65536 * y = (A % 65536 ^ (i + 1) * y + m) / 65536 ^ i := by
    rw [h1, ← Nat.add_mul_div_left _ _ hP, Nat.add_mul, Nat.mul_assoc]
    congr 1
    omega
  rw [e1]
  refine ⟨by rw [h3, Nat.div_div_eq_div_mul], ?_⟩
  have e2 : A * y + m = A % 65536 ^ (i + 1) * y + m + 65536 ^ i * (65536 * (A / 65536 ^ (i + 1) * y)) := by
    have : A * y = (A % 65536 ^ (i + 1) + 65536 ^ (i + 1) * (A / 65536 ^ (i + 1))) * y := by rw [h2]
    rw [this, Nat.add_mul, h3]
    have : 65536 ^ i * 65536 * (A / (65536 ^ i * 65536)) * y = 65536 ^ i * (65536 * (A / (65536 ^ i * 65536) * y)) := by ac_rfl
    omega
  rw [e2, Nat.add_mul_div_left _ _ hP, Nat.add_mul_mod_self_left]
def smLen (a : List Int) (y m : Nat) : Nat := if valD a * y + m < 65536 ^ a.length then a.length else a.length + 1
def smL (a : List Int) (y m : Int) : Nat := stk (smLen a y.toNat m.toNat)
def smD (a : List Int) (y m : Int) : List Int := stk (digP (smLen a y.toNat m.toNat) (valD a * y.toNat + m.toNat))
def smX (c : Int) (a : List Int) (y i : Int) : Int := u64 (c + u64 (u64 (atI a i) * u64 y))
def stepSd (R : Type) (vs : List AV) (k1 : List AV → Option R) (k2 : Nat → List AV → Option R) : Option R :=
  match vs with
  | [.ints k .u32 out, .sl (.ints n .u32 a), .int .u32 y, .int .u64 c, .int .i64 i] =>
    bif decide (i < (n : Int)) then chk (mayL n a) (chk (Nat.ble ((k + 1) * 4) 140737488355328) (k1 [.ints (k + 1) .u32 (out ++ [u32 ((smX c a y i).tmod 65536)]), .sl (.ints n .u32 a), .int .u32 y, .int .u64 (u64 ((smX c a y i).tdiv 65536)), .int .i64 (w64 (i + 1))]))
    else bif decide (c > 0) then chk (mayL n a) (chk (Nat.ble ((k + 1) * 4) 140737488355328) (k1 [.ints (k + 1) .u32 (out ++ [u32 ((smX c a y i).tmod 65536)]), .sl (.ints n .u32 a), .int .u32 y, .int .u64 (u64 ((smX c a y i).tdiv 65536)), .int .i64 (w64 (i + 1))]))
    else k2 0 [.ints k .u32 out]
  | _ => none
def fitSd (n : Nat) (a : List Int) (y c : Int) : Bool := stk (decide (n = a.length ∧ n ≤ 200000 ∧ 0 ≤ y ∧ y < 65536 ∧ 0 ≤ c ∧ c < 65536)) && okD a
def leSd : LEnt :=
  { inn := { fuel := none, keep := [0, 1, 8, 9], refs := [(7, 7, 190, .ints 0 .u32 [])] }
    out := { fuel := none, keep := [], refs := [(7, 7, 190, .ints 0 .u32 [])] }
    ret := { fuel := none, keep := [], refs := [] }
    go := fun _ _ vs kk => match vs with
      | [.ints 0 .u32 [], .sl (.ints n .u32 a), .int .u32 y, .int .u64 c, .int .i64 0] => chk (fitSd n a y c) (kk 0 [.ints (smL a y c) .u32 (smD a y c)])
      | _ => none }
theorem step_sm (R : Type) (k : Nat) (out : List Int) (n : Nat) (a : List Int) (y c i : Int) (k1 : List AV → Option R) (k2 : Nat → List AV → Option R) :
    runA (env Tryz.f134.ntmps orcAT []) (loopOf 0 (bodyC Tryz.f134)) 0 (stateOf leSd.inn [.ints k .u32 out, .sl (.ints n .u32 a), .int .u32 y, .int .u64 c, .int .i64 i]) (bodyK leSd 0 k1 k2) =
    stepSd R [.ints k .u32 out, .sl (.ints n .u32 a), .int .u32 y, .int .u64 c, .int .i64 i] k1 k2 := by kernel_rfl
theorem fitSm_parts {n : Nat} {a : List Int} {y c : Int} (h : fitSd n a y c = true) : (n = a.length ∧ n ≤ 200000 ∧ 0 ≤ y ∧ y < 65536 ∧ 0 ≤ c ∧ c < 65536) ∧ okD a = true := by
  unfold fitSd at h
  rw [stk_eq, Bool.and_eq_true, decide_eq_true_eq] at h
  exact h
theorem sm_round {a : List Int} (ha : okD a = true) {y m : Nat} (hy : y < 65536) (hm : m < 65536) (i : Nat) (hi : i ≤ 200000) :
    u64 ((smX ((smC (valD a) y m i : Nat) : Int) a (y : Int) (i : Int)).tdiv 65536) = ((smC (valD a) y m (i + 1) : Nat) : Int) ∧
    digP i (valD a * y + m) ++ [u32 ((smX ((smC (valD a) y m i : Nat) : Int) a (y : Int) (i : Int)).tmod 65536)] = digP (i + 1) (valD a * y + m) ∧ Nat.ble ((i + 1) * 4) 140737488355328 = true ∧ w64 ((i : Int) + 1) = ((i + 1 : Nat) : Int) := by
  have hc := smC_lt (A := valD a) (i := i) hy hm
  obtain ⟨s1, s2⟩ := smC_step (A := valD a) (y := y) (m := m) i
  have ea := at_val ha i
  have hd : valD a / 65536 ^ i % 65536 < 65536 := Nat.mod_lt _ (by decide)
  generalize valD a / 65536 ^ i % 65536 = d at *
  have hb : d * y ≤ 65535 * 65535 := Nat.mul_le_mul (by omega) (by omega)
  have e : smX ((smC (valD a) y m i : Nat) : Int) a (y : Int) (i : Int) = ((smC (valD a) y m i + d * y : Nat) : Int) := by
    unfold smX
    rw [ea, u64_nat (n := d) (by omega), u64_nat (n := y) (by omega), ← Int.natCast_mul, u64_nat (n := d * y) (by omega), ← Int.natCast_add, u64_nat (by omega)]
  have t1 := tdivN (smC (valD a) y m i + d * y) 65536
  have t2 := tmodN (smC (valD a) y m i + d * y) 65536
  rw [show ((65536 : Nat) : Int) = 65536 from rfl] at t1 t2
  refine ⟨?_, ?_, Nat.ble_eq_true_of_le (by omega), by rw [w64_mid (by omega) (by omega)]; omega⟩
  · rw [e, t1, u64_nat (by omega), s1]
  · rw [e, t2, u32_nat (by omega), s2]
    exact dig_len_pos _ _
theorem sm_loop (R : Type) {a : List Int} (ha : okD a = true) (hn : a.length ≤ 200000) {y m : Nat} (hy : y < 65536) (hm : m < 65536) (kk : Nat → List AV → Option R) : ∀ (j i : Nat), i + j = a.length →
    ∃ f, loopN (stepSd R) f [.ints i .u32 (digP i (valD a * y + m)), .sl (.ints a.length .u32 a), .int .u32 (y : Int), .int .u64 ((smC (valD a) y m i : Nat) : Int), .int .i64 (i : Int)] kk = kk 0 [.ints (smLen a y m) .u32 (digP (smLen a y m) (valD a * y + m))]
  | j + 1, i, hij => by
    obtain ⟨q1, q2, q3, q4⟩ := sm_round ha hy hm i (by omega)
    obtain ⟨f, hf⟩ := sm_loop R ha hn hy hm kk j (i + 1) (by omega)
    refine ⟨f + 1, ?_⟩
    rw [loopN]
    simp only [stepSd]
    rw [mayL_self, q1, q2, q3, q4, decide_eq_true (show (i : Int) < (a.length : Int) by omega)]
    exact hf
  | 0, i, hij => by
    have hi : i = a.length := by omega
    have hA : valD a % 65536 ^ i = valD a := Nat.mod_eq_of_lt (by rw [hi]; exact val_lt a ha)
    have hP : 0 < 65536 ^ i := Nat.pow_pos (by decide)
    have d1 : decide ((i : Int) < (a.length : Int)) = false := decide_eq_false (by omega)
    by_cases h0 : smC (valD a) y m i = 0
    · have hlt : valD a * y + m < 65536 ^ i := by
        unfold smC at h0
        rw [hA] at h0
        rcases Nat.lt_or_ge (valD a * y + m) (65536 ^ i) with h | h
        · exact h
        · have := Nat.div_pos h hP
          omega
      have hl : smLen a y m = i := by unfold smLen; rw [← hi, if_pos hlt]
      refine ⟨1, ?_⟩
      rw [loopN, hl]
      simp only [stepSd]
      rw [d1, h0]
      rfl
    · have hge : ¬ valD a * y + m < 65536 ^ i := fun h => h0 (by unfold smC; rw [hA]; exact Nat.div_eq_of_lt h)
      have hl : smLen a y m = i + 1 := by unfold smLen; rw [← hi, if_neg hge]
      obtain ⟨q1, q2, q3, q4⟩ := sm_round ha hy hm i (by omega)
      have hc := smC_lt (A := valD a) (i := i) hy hm
      have h1 : smC (valD a) y m (i + 1) = 0 := by
        have hd : valD a / 65536 ^ i = 0 := Nat.div_eq_of_lt (by rw [hi]; exact val_lt a ha)
        rw [(smC_step i).1, hd, Nat.zero_mod, Nat.zero_mul]
        omega
      rw [h1] at q1
      refine ⟨2, ?_⟩
      rw [loopN, hl]
      simp only [stepSd]
      rw [d1, decide_eq_true (show ((smC (valD a) y m i : Nat) : Int) > 0 by omega), mayL_self, q1, q2, q3, q4]
      simp only [cond_true, cond_false, chk]
      rw [loopN]
      simp only [stepSd]
      have d3 : decide (((i + 1 : Nat) : Int) < (a.length : Int)) = false := decide_eq_false (by omega)
      rw [d3]
      rfl
theorem go_sm (R : Type) (n : Nat) (vs : List AV) (kk : Nat → List AV → Option R) (r : R) (h : leSd.go R n vs kk = some r) : ∃ m, loopN (stepSd R) m vs kk = some r := by
  simp only [leSd] at h
  split at h
  · rename_i n a y c
    obtain ⟨hg, hk⟩ := chk_some h
    obtain ⟨⟨g1, g2, g3, g4, g5, g6⟩, ha⟩ := fitSm_parts hg
    subst g1
    obtain ⟨y, rfl⟩ : ∃ q : Nat, y = q := ⟨y.toNat, (Int.toNat_of_nonneg g3).symm⟩
    obtain ⟨c, rfl⟩ : ∃ q : Nat, c = q := ⟨c.toNat, (Int.toNat_of_nonneg g5).symm⟩
    obtain ⟨f, hf⟩ := sm_loop R ha g2 (y := y) (m := c) (by omega) (by omega) kk a.length 0 (by omega)
    have e : smC (valD a) y c 0 = c := by unfold smC; rw [Nat.pow_zero, Nat.mod_one, Nat.zero_mul, Nat.zero_add, Nat.div_one]
    rw [e] at hf
    refine ⟨f, hf.trans ?_⟩
    unfold smL smD at hk
    rw [stk_eq, stk_eq, Int.toNat_natCast, Int.toNat_natCast] at hk
    exact hk
  · cases h
def sp_dSmall : List AV → Option (Bool × AV)
  | [.sl (.ints n .u32 a), .int .u32 y, .int .u32 m] => some (stk (decide (0 ≤ m ∧ m < 65536)) && fitSd n a y m, .sl (.ints (dgl (valD a * y.toNat + m.toNat)) .u32 (dg (valD a * y.toNat + m.toNat))))
  | _ => none
theorem run_dSmall (n : Nat) (a : List Int) (y m : Int) : callA (env Tryz.f134.ntmps orcAT [(0, leSd)]) (bodyC Tryz.f134) Tryz.f134.results.toList (slots 0 [.sl (.ints n .u32 a), .int .u32 y, .int .u32 m]) some =
    chk (fitSd n a y (u64 m)) (chk (mayT (smL a y (u64 m)) (smD a y (u64 m))) (some (.sl (.ints (dgl (valD (smD a y (u64 m)))) .u32 (dg (valD (smD a y (u64 m)))))))) := by kernel_rfl
theorem ok_dSmall : EntOk Tryz.prog 134 (entS true sp_dSmall) := by
  refine contractS (orc := orcAT) (lo := [(0, leSd)]) Tryz.func134 orcAT_ok (by kernel_rfl) (by kernel_rfl) (by kernel_rfl)
    (loops_one (id := 0) (y := .loop (loopOf 0 (bodyC Tryz.f134))) (by kernel_rfl)
      (loopS (le := leSd) (orc := orcAT) (lo' := []) orcAT_ok (by kernel_rfl) rfl (loops_none (by kernel_rfl)) stepSd (fun R vs k1 k2 r h => ?_) go_sm)) fun args r h => ?_
  · have h0 := h
    unfold stepSd at h
    split at h
    · exact (step_sm R _ _ _ _ _ _ _ k1 k2).trans h0
    · cases h
  · unfold sp_dSmall at h
    split at h
    · rename_i n a y m
      simp only [Option.some.injEq, Prod.mk.injEq] at h
      obtain ⟨hg, rfl⟩ := h
      rw [Bool.and_eq_true, stk_eq, decide_eq_true_eq] at hg
      obtain ⟨⟨m1, m2⟩, hg⟩ := hg
      have hm : u64 m = m := by
        have := u64_nat (n := m.toNat) (by omega)
        rwa [Int.toNat_of_nonneg m1] at this
      refine ⟨by kernel_rfl, .inl rfl, (run_dSmall n a y m).trans ?_⟩
      obtain ⟨⟨g1, g2, g3, g4, g5, g6⟩, ha⟩ := fitSm_parts hg
      subst g1
      have hlt : valD a * y.toNat + m.toNat < 65536 ^ smLen a y.toNat m.toNat := by
        unfold smLen
        split
        · assumption
        · have h1 := val_lt a ha
          rw [Nat.pow_succ]
          generalize 65536 ^ a.length = P at *
          have h2 : valD a * y.toNat ≤ (P - 1) * 65535 := Nat.mul_le_mul (by omega) (by omega)
          omega
      have hle : smLen a y.toNat m.toNat ≤ 200001 := by
        unfold smLen
        split <;> omega
      have hv : valD (smD a y m) = valD a * y.toNat + m.toNat := by unfold smD; rw [stk_eq, val_digP, Nat.mod_eq_of_lt hlt]
      have ht : mayT (smL a y m) (smD a y m) = true := by
        unfold mayT smL smD
        rw [stk_eq, stk_eq, stk_eq, ok_digP, len_digP, decide_eq_true rfl, decide_eq_true (show smLen a y.toNat m.toNat ≤ 300000 by omega)]
        rfl
      rw [hm, hg, ht, hv]
      rfl
    · cases h
end
end Go.Proofs.YtbakldcbaikgpaaGreatDoor
/- tillerref02: Parts, by one digit. Own work. -/
namespace Go.Proofs.YtbakldcbaikgpaaGreatDoor
set_option maxRecDepth 100000
noncomputable section
/-! ### Plain -/
/-- What is left over ahead of a digit; the quotient so far. -/
def paR (A d k : Nat) : Nat := A / 65536 ^ k % d
def paQ (A d k : Nat) : Nat := 65536 ^ k * (A / 65536 ^ k / d)
theorem pa_step {A d k : Nat} (hd : 0 < d) :
    let v := A / 65536 ^ k % 65536 + 65536 * paR A d (k + 1)
    paR A d k = v % d ∧ paQ A d k = paQ A d (k + 1) + v / d * 65536 ^ k ∧ v < d * 65536 ∧ v / d < 65536 := by
  have h1 := top_digit A k
  have hx : A / 65536 ^ k % 65536 < 65536 := Nat.mod_lt _ (by decide)
  unfold paR paQ
  rw [Nat.pow_succ] at h1
  rw [show (65536 : Nat) ^ (k + 1) = 65536 ^ k * 65536 from Nat.pow_succ ..]
  generalize A / 65536 ^ k = t at *
  generalize A / (65536 ^ k * 65536) = H at *
  generalize 65536 ^ k = P at *
  generalize t % 65536 = x at *
  subst h1
  have e := Nat.mod_add_div H d
  have hr := Nat.mod_lt H hd
  generalize H / d = q at *
  generalize H % d = r at *
  have e1 : H * 65536 + x = x + 65536 * r + d * (q * 65536) := by rw [← e, Nat.add_mul, Nat.mul_assoc]; omega
  have e2 : (r + 1) * 65536 ≤ d * 65536 := Nat.mul_le_mul_right _ hr
  have e3 : x + 65536 * r < d * 65536 := by omega
  refine ⟨?_, ?_, e3, ?_⟩
  · rw [e1, Nat.add_mul_mod_self_left]
  · rw [e1, Nat.add_mul_div_left _ _ hd, Nat.mul_add, Nat.add_comm, Nat.mul_comm P ((x + 65536 * r) / d)]
    congr 1
    ac_rfl
  · rw [Nat.div_lt_iff_lt_mul hd, Nat.mul_comm 65536 d]
    exact e3
/-! ### The walk -/
def orcPa : List (FuncId × Ent) := [(133, entS false sp_at), (132, entS true sp_trim), (126, entS false sp_dCmp), (134, entS true sp_dSmall), (101, entS true sp_dSub)]
theorem orcPa_ok {nt : Nat} {lo : List (Nat × LEnt)} : OrcOk Tryz.prog (env nt orcPa lo) := orc_cons ok_at (orc_cons ok_trim (orc_cons ok_dCmp (orc_cons ok_dSmall (orc_cons ok_dSub orc_nil))))
def avD (v : Nat) : AV := .sl (.ints (dgl v) .u32 (dg v))
def stepIn (R : Type) (vs : List AV) (k1 : List AV → Option R) (k2 : Nat → List AV → Option R) : Option R :=
  match vs with
  | [.ints p .u32 Q, .sl (.ints n .u32 a), .sl (.ints m .u32 b), .sl (.ints ln .u32 L), .int .i64 nb, .int .i64 i, .int .u64 g, .sl (.ints pn .u32 S)] =>
    chk (mayC2 pn S ln L) (bif decide (cmpD S L > 0) then
      chk (maySub pn S m b) (k1 [.ints p .u32 Q, .sl (.ints n .u32 a), .sl (.ints m .u32 b), .sl (.ints ln .u32 L), .int .i64 nb, .int .i64 i, .int .u64 (u64 (g - 1)), avD (valD S - valD b)])
    else k2 0 [.ints p .u32 Q, .sl (.ints n .u32 a), .sl (.ints m .u32 b), .sl (.ints ln .u32 L), .int .i64 nb, .int .i64 i, .int .u64 g, .sl (.ints pn .u32 S)])
  | _ => none
def leD (a b : List Int) : Bool := stk (decide (valD a ≤ valD b))
def leIn : LEnt :=
  { inn := { fuel := none, keep := [0, 1, 6, 8, 9, 11, 12], refs := [(7, 7, 190, .ints 0 .u32 [])] }
    out := { fuel := none, keep := [0, 1, 6, 8, 9, 11, 12], refs := [(7, 7, 190, .ints 0 .u32 [])] }
    ret := { fuel := none, keep := [], refs := [] }
    go := fun _ _ vs kk => match vs with
      | [.ints p .u32 Q, .sl (.ints n .u32 a), .sl (.ints m .u32 b), .sl (.ints ln .u32 L), .int .i64 nb, .int .i64 i, .int .u64 g, .sl (.ints pn .u32 S)] =>
        chk (mayC2 pn S ln L && leD S L) (kk 0 [.ints p .u32 Q, .sl (.ints n .u32 a), .sl (.ints m .u32 b), .sl (.ints ln .u32 L), .int .i64 nb, .int .i64 i, .int .u64 g, .sl (.ints pn .u32 S)])
      | _ => none }
theorem step_In (R : Type) (p n m ln pn : Nat) (Q a b L S : List Int) (nb i g : Int) (k1 : List AV → Option R) (k2 : Nat → List AV → Option R) :
    runA (env Tryz.f93.ntmps orcPa []) (loopOf 2 (bodyC Tryz.f93)) 2 (stateOf leIn.inn [.ints p .u32 Q, .sl (.ints n .u32 a), .sl (.ints m .u32 b), .sl (.ints ln .u32 L), .int .i64 nb, .int .i64 i, .int .u64 g, .sl (.ints pn .u32 S)]) (bodyK leIn 2 k1 k2) =
    stepIn R [.ints p .u32 Q, .sl (.ints n .u32 a), .sl (.ints m .u32 b), .sl (.ints ln .u32 L), .int .i64 nb, .int .i64 i, .int .u64 g, .sl (.ints pn .u32 S)] k1 k2 := by kernel_rfl
theorem go_In (R : Type) (n : Nat) (vs : List AV) (kk : Nat → List AV → Option R) (r : R) (h : leIn.go R n vs kk = some r) : ∃ m, loopN (stepIn R) m vs kk = some r := by
  simp only [leIn] at h
  split at h
  · rename_i p Q n a m b ln L nb i g pn S
    obtain ⟨hg, hk⟩ := chk_some h
    rw [Bool.and_eq_true] at hg
    obtain ⟨h1, h2⟩ := hg
    unfold leD at h2
    rw [stk_eq, decide_eq_true_eq] at h2
    have hc : decide (cmpD S L > 0) = false := by
      unfold cmpD cmpN
      rw [stk_eq]
      refine decide_eq_false ?_
      split
      · decide
      · rw [if_neg (by omega)]; decide
    refine ⟨1, ?_⟩
    rw [loopN]
    simp only [stepIn]
    rw [h1, hc]
    exact hk
  · cases h
def paT (L : List Int) (nb : Int) : Int := u64 (u64 (shlI .u64 (u64 (atI L nb)) 32 + shlI .u64 (u64 (atI L (w64 (nb - 1)))) 16) + u64 (atI L (w64 (nb - 2))))
def paV (b : List Int) (nb : Int) : Int := u64 (shlI .u64 (u64 (b.getD (w64 (nb - 1)).toNat 0)) 16 + u64 (atI b (w64 (nb - 2))))
def paG (L b : List Int) (nb : Int) : Int := if 65535 < u64 ((paT L nb).tdiv (paV b nb)) then 65535 else u64 ((paT L nb).tdiv (paV b nb))
def paI (p n m : Nat) (Q a b : List Int) (ln : Nat) (L : List Int) (nb i g : Int) (R : Type) (k1 : List AV → Option R) : Option R :=
  chk (stk (decide ((0 : Int) ≤ 0 ∧ (0 : Int) < 65536)) && fitSd m b (u32 g) 0)
    (chk (mayC2 (dgl (valD b * (u32 g).toNat + (0 : Int).toNat)) (dg (valD b * (u32 g).toNat + (0 : Int).toNat)) ln L && leD (dg (valD b * (u32 g).toNat + (0 : Int).toNat)) L)
      (chk (maySub ln L (dgl (valD b * (u32 g).toNat + (0 : Int).toNat)) (dg (valD b * (u32 g).toNat + (0 : Int).toNat)))
        (chk (inD i p) (k1 [.ints p .u32 (Q.set i.toNat (u32 g)), .sl (.ints n .u32 a), .sl (.ints m .u32 b), avD (valD L - valD (dg (valD b * (u32 g).toNat + (0 : Int).toNat))), .int .i64 nb, .int .i64 (w64 (i - 1))]))))
def paH (p n m : Nat) (Q a b : List Int) (ln : Nat) (L : List Int) (nb i : Int) (R : Type) (k1 : List AV → Option R) : Option R :=
  chk (mayC2 ln L m b) (bif decide (cmpD L b < 0) then k1 [.ints p .u32 Q, .sl (.ints n .u32 a), .sl (.ints m .u32 b), .sl (.ints ln .u32 L), .int .i64 nb, .int .i64 (w64 (i - 1))]
    else chk (mayL ln L) (chk (mayL ln L) (chk (mayL ln L) (chk (inD (w64 (nb - 1)) m) (chk (mayL m b) (chk (!(paV b nb == 0)) (paI p n m Q a b ln L nb i (paG L b nb) R k1)))))))
def paJ (p n m : Nat) (Q a b : List Int) (ln : Nat) (L : List Int) (nb i : Int) (R : Type) (k1 : List AV → Option R) : Option R :=
  chk (mayT ln L) (paH p n m Q a b (dgl (valD L)) (dg (valD L)) nb i R k1)
def stepPa (R : Type) (vs : List AV) (k1 : List AV → Option R) (k2 : Nat → List AV → Option R) : Option R :=
  match vs with
  | [.ints p .u32 Q, .sl (.ints n .u32 a), .sl (.ints m .u32 b), .sl (.ints rn .u32 r), .int .i64 nb, .int .i64 i] =>
    bif decide (i ≥ 0) then chk (inD i n) (chk (Nat.ble ((1 + rn) * 4) 140737488355328) (paJ p n m Q a b (1 + rn) (a.getD i.toNat 0 :: r) nb i R k1))
    else k2 0 [.ints p .u32 Q, .sl (.ints rn .u32 r)]
  | [.ints p .u32 Q, .sl (.ints n .u32 a), .sl (.ints m .u32 b), .nils, .int .i64 nb, .int .i64 i] =>
    bif decide (i ≥ 0) then chk (inD i n) (paJ p n m Q a b 1 [a.getD i.toNat 0] nb i R k1)
    else k2 0 [.ints p .u32 Q, .nils]
  | _ => none
def fitPa (p n m : Nat) (Q a b : List Int) (nb i : Int) : Bool := stk (decide (n = a.length ∧ p = n ∧ Q = List.replicate n 0 ∧ m = 1 ∧ b.length = 1 ∧ nb = 1 ∧ i = (n : Int) - 1 ∧ n ≤ 100000 ∧ 0 < valD b)) && okD a && okD b
def paL (n : Nat) (a b : List Int) : List Int := stk (digP n (valD a / valD b))
def lePa : LEnt :=
  { inn := { fuel := none, keep := [0, 1, 6, 8, 9], refs := [(7, 7, 190, .ints 0 .u32 [])] }
    out := { fuel := none, keep := [6], refs := [(7, 7, 190, .ints 0 .u32 [])] }
    ret := { fuel := none, keep := [], refs := [] }
    go := fun _ _ vs kk => match vs with
      | [.ints p .u32 Q, .sl (.ints n .u32 a), .sl (.ints m .u32 b), .nils, .int .i64 nb, .int .i64 i] =>
        chk (fitPa p n m Q a b nb i) (bif Nat.beq n 0 then kk 0 [.ints p .u32 Q, .nils] else kk 0 [.ints p .u32 (paL n a b), avD (valD a % valD b)])
      | _ => none }
theorem step_Pa (R : Type) (p n m rn : Nat) (Q a b r : List Int) (nb i : Int) (k1 : List AV → Option R) (k2 : Nat → List AV → Option R) :
    runA (env Tryz.f93.ntmps orcPa [(2, leIn)]) (loopOf 0 (bodyC Tryz.f93)) 0 (stateOf lePa.inn [.ints p .u32 Q, .sl (.ints n .u32 a), .sl (.ints m .u32 b), .sl (.ints rn .u32 r), .int .i64 nb, .int .i64 i]) (bodyK lePa 0 k1 k2) =
    stepPa R [.ints p .u32 Q, .sl (.ints n .u32 a), .sl (.ints m .u32 b), .sl (.ints rn .u32 r), .int .i64 nb, .int .i64 i] k1 k2 := by kernel_rfl
theorem step_Pn (R : Type) (p n m : Nat) (Q a b : List Int) (nb i : Int) (k1 : List AV → Option R) (k2 : Nat → List AV → Option R) :
    runA (env Tryz.f93.ntmps orcPa [(2, leIn)]) (loopOf 0 (bodyC Tryz.f93)) 0 (stateOf lePa.inn [.ints p .u32 Q, .sl (.ints n .u32 a), .sl (.ints m .u32 b), .nils, .int .i64 nb, .int .i64 i]) (bodyK lePa 0 k1 k2) =
    stepPa R [.ints p .u32 Q, .sl (.ints n .u32 a), .sl (.ints m .u32 b), .nils, .int .i64 nb, .int .i64 i] k1 k2 := by kernel_rfl
theorem digP_self : ∀ (l : List Int), okD l = true → digP l.length (valD l) = l
  | [], _ => rfl
  | d :: l, h => by
    obtain ⟨hd, hl⟩ := okD_cons.1 h
    rw [List.length_cons, digP, valD, show (d.toNat + 65536 * valD l) / 65536 = valD l by omega, show (d.toNat + 65536 * valD l) % 65536 = d.toNat by omega, digP_self l hl, Int.toNat_of_nonneg hd.1]
theorem dg_fit {v k : Nat} (h : v < 65536 ^ k) : dgl v = (dg v).length ∧ okD (dg v) = true ∧ (dg v).length ≤ k ∧ valD (dg v) = v := by
  refine ⟨dg_len v, ?_, ?_, val_dg v⟩ <;> unfold dg <;> rw [stk_eq]
  · exact ok_dig v
  · exact (len_dig k v).2 h
theorem one_dig {b : List Int} (hl : b.length = 1) (hb : okD b = true) : ∃ d : Nat, d < 65536 ∧ b = [(d : Int)] ∧ valD b = d := by
  match b, hl with
  | [x], _ =>
    obtain ⟨hd, _⟩ := okD_cons.1 hb
    refine ⟨x.toNat, by omega, by rw [Int.toNat_of_nonneg hd.1], by show x.toNat + 65536 * 0 = _; omega⟩
theorem atI_neg (l : List Int) : atI l (w64 (1 - 2)) = 0 := by
  unfold atI
  rw [stk_eq, show w64 (1 - 2) = -1 by decide, if_neg (by decide)]
theorem paJ_run {n : Nat} {a b Q l : List Int} {d v j : Nat} {ln : Nat} (hd0 : 0 < d) (hd : d < 65536) (hb : b = [(d : Int)]) (hl : okD l = true) (hln : ln = l.length) (hll : ln ≤ 200001) (hv : valD l = v) (hlt : v < d * 65536) (hj : j < n) (R : Type) (k1 : List AV → Option R) :
    paJ n n 1 Q a b ln l 1 (j : Int) R k1 = k1 [.ints n .u32 (if v < d then Q else Q.set j ((v / d : Nat) : Int)), .sl (.ints n .u32 a), .sl (.ints 1 .u32 b), avD (v % d), .int .i64 1, .int .i64 (w64 ((j : Int) - 1))] := by
  have hv2 : v < 65536 ^ 2 := by have : d * 65536 ≤ 65535 * 65536 := Nat.mul_le_mul_right _ (by omega); omega
  have hbv : valD b = d := by subst hb; show ((d : Int)).toNat + 65536 * 0 = d; omega
  have hbo : okD b = true := by subst hb; rw [okD_cons]; exact ⟨by omega, rfl⟩
  have hbl : b.length = 1 := by subst hb; rfl
  obtain ⟨f1, f2, f3, f4⟩ := dg_fit hv2
  have e1 : mayT ln l = true := by
    unfold mayT
    rw [stk_eq, hl, decide_eq_true hln, decide_eq_true (show ln ≤ 300000 by omega)]; rfl
  have e2 : mayC2 (dgl v) (dg v) 1 b = true := mayC2_iff.2 ⟨⟨⟨f1, hbl.symm⟩, f2, hbo⟩, by omega, by decide⟩
  have e3 : decide (cmpD (dg v) b < 0) = decide (v < d) := by
    unfold cmpD cmpN
    rw [stk_eq, f4, hbv]
    by_cases h : v < d
    · rw [if_pos h, decide_eq_true h]; rfl
    · rw [if_neg h, decide_eq_false h]
      split <;> rfl
  unfold paJ
  rw [e1, hv]
  show paH n n 1 Q a b (dgl v) (dg v) 1 (j : Int) R k1 = _
  unfold paH
  rw [e2, e3]
  simp only [chk]
  by_cases h : v < d
  · rw [decide_eq_true h, if_pos h, Nat.mod_eq_of_lt h]
    rfl
  · rw [decide_eq_false h, if_neg h]
    have e4 : mayL (dgl v) (dg v) = true := by unfold mayL; rw [stk_eq, decide_eq_true f1]
    have e5 : inD (w64 (1 - 1)) 1 = true := by decide
    have e6 : mayL 1 b = true := by unfold mayL; rw [stk_eq, decide_eq_true hbl.symm]
    have hT1 := at_val f2 1
    have hT0 := at_val f2 0
    rw [f4] at hT1 hT0
    have g1 : v / 65536 ^ 1 % 65536 = v / 65536 := by rw [Nat.pow_one]; omega
    have g0 : v / 65536 ^ 0 % 65536 = v % 65536 := by rw [Nat.pow_zero, Nat.div_one]
    rw [g1] at hT1
    rw [g0] at hT0
    have e7 : paV b 1 = ((d * 65536 : Nat) : Int) := by
      unfold paV
      rw [atI_neg, hb, show (w64 (1 - 1)).toNat = 0 by decide, List.getD_cons_zero, u64_nat (by omega)]
      have := shlI_nat d 16 (by decide)
      rw [show ((16 : Nat) : Int) = 16 from rfl] at this
      rw [this, show d * 2 ^ 16 % 18446744073709551616 = d * 65536 by omega]
      rw [show u64 0 = 0 by decide, Int.add_zero]
      exact u64_nat (n := d * 65536) (by omega)
    have e8 : paT (dg v) 1 = ((v * 65536 : Nat) : Int) := by
      unfold paT
      rw [atI_neg, show w64 (1 - 1) = ((0 : Nat) : Int) by decide, show (1 : Int) = ((1 : Nat) : Int) from rfl, hT1, hT0, u64_nat (n := v / 65536) (by omega), u64_nat (n := v % 65536) (by omega)]
      have s1 := shlI_nat (v / 65536) 32 (by decide)
      have s2 := shlI_nat (v % 65536) 16 (by decide)
      rw [show ((16 : Nat) : Int) = 16 from rfl] at s2
      rw [show ((32 : Nat) : Int) = 32 from rfl] at s1
      rw [s1, s2, show v / 65536 * 2 ^ 32 % 18446744073709551616 = v / 65536 * 4294967296 by omega, show v % 65536 * 2 ^ 16 % 18446744073709551616 = v % 65536 * 65536 by omega, ← Int.natCast_add, show v / 65536 * 4294967296 + v % 65536 * 65536 = v * 65536 by omega, u64_nat (n := v * 65536) (by omega), show u64 0 = 0 by decide, Int.add_zero]
      exact u64_nat (n := v * 65536) (by omega)
    have hq : v / d < 65536 := by rw [Nat.div_lt_iff_lt_mul hd0, Nat.mul_comm]; exact hlt
    have e9 : paG (dg v) b 1 = ((v / d : Nat) : Int) := by
      unfold paG
      rw [e7, e8, tdivN, Nat.mul_div_mul_right _ _ (by decide), u64_nat (by omega), if_neg (by omega)]
    have e10 : (!(paV b 1 == 0)) = true := by
      rw [e7, beq_eq_false_iff_ne.2 (by omega)]; rfl
    have hS : d * (v / d) ≤ v := Nat.mul_div_le v d
    obtain ⟨p1, p2, p3, p4⟩ := dg_fit (v := d * (v / d)) (k := 2) (by omega)
    have e11 : u32 ((v / d : Nat) : Int) = ((v / d : Nat) : Int) := u32_nat (by omega)
    have e12 : fitSd 1 b ((v / d : Nat) : Int) 0 = true := by
      unfold fitSd
      rw [stk_eq, hbo, decide_eq_true ⟨hbl.symm, by decide, Int.natCast_nonneg _, Int.ofNat_lt.2 hq, by decide, by decide⟩]; rfl
    have e13 : mayC2 (dgl (d * (v / d))) (dg (d * (v / d))) (dgl v) (dg v) = true := mayC2_iff.2 ⟨⟨⟨p1, f1⟩, p2, f2⟩, by omega, by omega⟩
    have e14 : leD (dg (d * (v / d))) (dg v) = true := by unfold leD; rw [stk_eq, p4, f4, decide_eq_true hS]
    have e15 : maySub (dgl v) (dg v) (dgl (d * (v / d))) (dg (d * (v / d))) = true := by
      unfold maySub
      rw [stk_eq, p4, f4, decide_eq_true hS, mayC2_iff.2 ⟨⟨⟨f1, p1⟩, f2, p2⟩, by omega, by omega⟩]; rfl
    have e16 : inD (j : Int) n = true := inD_at hj
    have e17 : v - d * (v / d) = v % d := by have := Nat.mod_add_div v d; omega
    rw [e4, e5, e6, e9, e10]
    simp only [cond_false]
    unfold paI
    rw [e11, Int.toNat_natCast, show (0 : Int).toNat = 0 from rfl, hbv, Nat.add_zero, e12, e13, e14, e15, e16, f4, p4, e17, stk_eq, decide_eq_true (show (0 : Int) ≤ 0 ∧ (0 : Int) < 65536 from ⟨by decide, by decide⟩), Int.toNat_natCast]
    rfl
structure PaS (n A d k : Nat) (Q : List Int) : Prop where
  ok : okD Q = true
  len : Q.length = n
  val : valD Q = paQ A d k
  low : ∀ j, j < k → Q.getD j 0 = 0
theorem PaS.step {n A d k : Nat} {Q : List Int} (h : PaS n A d (k + 1) Q) (hd : 0 < d) (hk : k < n) : PaS n A d k (if A / 65536 ^ k % 65536 + 65536 * paR A d (k + 1) < d then Q else Q.set k (((A / 65536 ^ k % 65536 + 65536 * paR A d (k + 1)) / d : Nat) : Int)) := by
  obtain ⟨s1, s2, s3, s4⟩ := pa_step (A := A) (k := k) hd
  generalize A / 65536 ^ k % 65536 + 65536 * paR A d (k + 1) = v at *
  split
  · rename_i hv
    rw [Nat.div_eq_of_lt hv, Nat.zero_mul, Nat.add_zero] at s2
    exact ⟨h.ok, h.len, by rw [h.val, s2], fun j hj => h.low j (by omega)⟩
  · refine ⟨okD_set h.ok k (Int.natCast_nonneg _) (Int.ofNat_lt.2 s4), by rw [List.length_set]; exact h.len, ?_, fun j hj => ?_⟩
    · have := valD_set Q k ((v / d : Nat) : Int) (by rw [h.len]; exact hk)
      rw [h.low k (by omega), Int.toNat_natCast, h.val] at this
      rw [s2]
      have e0 : (0 : Int).toNat * 65536 ^ k = 0 := Nat.zero_mul _
      omega
    · rw [List.getD_eq_getElem?_getD, List.getElem?_set_ne (by omega), ← List.getD_eq_getElem?_getD]
      exact h.low j (by omega)
theorem pa_end {n A d : Nat} {Q : List Int} (h : PaS n A d 0 Q) : Q = digP n (A / d) ∧ paR A d 0 = A % d := by
  have h1 := digP_self Q h.ok
  have hv := h.val
  unfold paQ at hv
  rw [Nat.pow_zero, Nat.div_one, Nat.one_mul] at hv
  rw [h.len, hv] at h1
  exact ⟨h1.symm, by unfold paR; rw [Nat.pow_zero, Nat.div_one]⟩
theorem pa_loop (R : Type) {a b : List Int} {d n : Nat} (ha : okD a = true) (hn : n = a.length) (hn2 : n ≤ 100000) (hd0 : 0 < d) (hd : d < 65536) (hb : b = [(d : Int)]) (kk : Nat → List AV → Option R) : ∀ (k : Nat) (Q : List Int), k ≤ n → PaS n (valD a) d k Q →
    ∃ f, loopN (stepPa R) f [.ints n .u32 Q, .sl (.ints n .u32 a), .sl (.ints 1 .u32 b), avD (paR (valD a) d k), .int .i64 1, .int .i64 ((k : Int) - 1)] kk = kk 0 [.ints n .u32 (digP n (valD a / d)), avD (valD a % d)]
  | 0, Q, _, h => by
    obtain ⟨e1, e2⟩ := pa_end h
    refine ⟨1, ?_⟩
    rw [loopN, e2, ← e1]
    unfold avD
    simp only [stepPa]
    rfl
  | k + 1, Q, hk, h => by
    obtain ⟨s1, s2, s3, s4⟩ := pa_step (A := valD a) (k := k) hd0
    obtain ⟨f, hf⟩ := pa_loop R ha hn hn2 hd0 hd hb kk k _ (by omega) (h.step hd0 (by omega))
    refine ⟨f + 1, ?_⟩
    have hr : paR (valD a) d (k + 1) < 65536 ^ 1 := by unfold paR; have := Nat.mod_lt (valD a / 65536 ^ (k + 1)) hd0; omega
    obtain ⟨r1, r2, r3, r4⟩ := dg_fit hr
    have e0 : (((k + 1 : Nat) : Int) - 1) = (k : Int) := by omega
    have e1 : inD (k : Int) n = true := inD_at (by omega)
    have e2 : Nat.ble ((1 + dgl (paR (valD a) d (k + 1))) * 4) 140737488355328 = true := Nat.ble_eq_true_of_le (by omega)
    have hx := get_val a k ha
    have hxo := okD_get ha k
    have e3 : valD (a.getD k 0 :: dg (paR (valD a) d (k + 1))) = valD a / 65536 ^ k % 65536 + 65536 * paR (valD a) d (k + 1) := by
      rw [valD, r4, hx, Int.toNat_natCast]
    rw [loopN, e0]
    unfold avD
    simp only [stepPa]
    rw [decide_eq_true (show (k : Int) ≥ 0 by omega), e1, e2, Int.toNat_natCast]
    simp only [cond_true, chk]
    rw [paJ_run (v := valD a / 65536 ^ k % 65536 + 65536 * paR (valD a) d (k + 1)) hd0 hd hb (by rw [okD_cons]; exact ⟨hxo, r2⟩) (by rw [List.length_cons, r1, Nat.add_comm]) (by omega) e3 s3 (by omega)]
    rw [← s1, show w64 ((k : Int) - 1) = (k : Int) - 1 from w64_mid (by omega) (by omega)]
    exact hf
theorem pa_start {n : Nat} {A d : Nat} (hA : A < 65536 ^ n) : PaS n A d n (List.replicate n 0) ∧ paR A d n = 0 := by
  have h0 : A / 65536 ^ n = 0 := Nat.div_eq_of_lt hA
  have hg : ∀ j, (List.replicate n (0 : Int)).getD j 0 = 0 := fun j => by
    rw [List.getD_eq_getElem?_getD, List.getElem?_replicate]
    split <;> rfl
  have hv : ∀ m, valD (List.replicate m (0 : Int)) = 0 := by
    intro m
    induction m with
    | zero => rfl
    | succ m ih => rw [List.replicate_succ, valD, ih]; rfl
  refine ⟨⟨okD_rep _, List.length_replicate, ?_, fun j _ => hg j⟩, by unfold paR; rw [h0, Nat.zero_mod]⟩
  unfold paQ
  rw [hv, h0, Nat.zero_div, Nat.mul_zero]
theorem go_Pa (R : Type) (n : Nat) (vs : List AV) (kk : Nat → List AV → Option R) (r : R) (h : lePa.go R n vs kk = some r) : ∃ m, loopN (stepPa R) m vs kk = some r := by
  simp only [lePa] at h
  split at h
  · rename_i p Q n a m b nb i
    obtain ⟨hg, hk⟩ := chk_some h
    clear h
    unfold fitPa at hg
    simp only [stk_eq, Bool.and_eq_true, decide_eq_true_eq] at hg
    obtain ⟨⟨⟨g1, g2, g3, g4, g5, g6, g7, g8, g9⟩, ha⟩, hb⟩ := hg
    obtain ⟨d, hd, hbd, hbv⟩ := one_dig g5 hb
    subst g2 g4 g6 g7
    rw [hbv] at g9 hk
    rcases Nat.eq_zero_or_pos p with h0 | h0
    · subst h0
      refine ⟨1, ?_⟩
      rw [loopN, g3]
      rw [g3] at hk
      exact hk
    · have hA : valD a < 65536 ^ p := by rw [g1]; exact val_lt a ha
      obtain ⟨k, rfl⟩ : ∃ k, p = k + 1 := ⟨p - 1, by omega⟩
      obtain ⟨st, hr⟩ := pa_start (d := d) hA
      obtain ⟨s1, s2, s3, s4⟩ := pa_step (A := valD a) (k := k) g9
      obtain ⟨f, hf⟩ := pa_loop R ha g1 g8 g9 hd hbd kk k _ (by omega) (st.step g9 (by omega))
      have e0 : (((k + 1 : Nat) : Int) - 1) = (k : Int) := by omega
      have e1 : inD (k : Int) (k + 1) = true := inD_at (by omega)
      have hx := get_val a k ha
      have hxo := okD_get ha k
      have e3 : valD [a.getD k 0] = valD a / 65536 ^ k % 65536 + 65536 * paR (valD a) d (k + 1) := by
        rw [hr, hx]
        show ((valD a / 65536 ^ k % 65536 : Nat) : Int).toNat + 65536 * 0 = _
        rw [Int.toNat_natCast]
      refine ⟨f + 1, ?_⟩
      rw [loopN, g3, e0]
      simp only [stepPa]
      rw [decide_eq_true (show (k : Int) ≥ 0 by omega), e1, Int.toNat_natCast]
      simp only [cond_true, chk]
      rw [paJ_run (v := valD a / 65536 ^ k % 65536 + 65536 * paR (valD a) d (k + 1)) g9 hd hbd (by rw [okD_cons]; exact ⟨hxo, rfl⟩) (show 1 = [a.getD k 0].length from rfl) (by decide) e3 s3 (by omega)]
      rw [← s1, show w64 ((k : Int) - 1) = (k : Int) - 1 from w64_mid (by omega) (by omega)]
      refine hf.trans ?_
      unfold paL at hk
      rw [stk_eq, hbv, show Nat.beq (k + 1) 0 = false from rfl] at hk
      exact hk
  · cases h
def mayPa (n : Nat) (a : List Int) (m : Nat) (b : List Int) : Bool := stk (decide (n = a.length ∧ m = 1 ∧ b.length = 1 ∧ n ≤ 100000 ∧ 0 < valD b)) && okD a && okD b
def sp_pt : List AV → Option Br
  | [.sl (.ints n .u32 a), .sl (.ints m .u32 b)] => some (.chk (mayPa n a m b) (.br (Nat.beq n 0) (.leaf (.tup [avD (valD a / valD b), .nils])) (.leaf (.tup [avD (valD a / valD b), avD (valD a % valD b)]))))
  | _ => none
def ptE (p n m : Nat) (Q a b : List Int) (nb i : Int) : Option AV :=
  chk (fitPa p n m Q a b nb i) (bif Nat.beq n 0 then chk (mayT p Q) (some (.tup [avD (valD Q), .nils])) else chk (mayT p (paL n a b)) (some (.tup [avD (valD (paL n a b)), avD (valD a % valD b)])))
theorem run_pt (n m : Nat) (a b : List Int) : callA (env Tryz.f93.ntmps orcPa [(0, lePa)]) (bodyC Tryz.f93) Tryz.f93.results.toList (slots 0 [.sl (.ints n .u32 a), .sl (.ints m .u32 b)]) some =
    chk (mkD (n : Int)) (ptE (n : Int).toNat n m (List.replicate (n : Int).toNat 0) a b (m : Int) (w64 ((n : Int) - 1))) := by kernel_rfl
theorem ok_pt : EntOk Tryz.prog 93 (entB true sp_pt) := by
  refine contractB (orc := orcPa) (lo := [(0, lePa)]) Tryz.func93 orcPa_ok (by kernel_rfl) (by kernel_rfl) (by kernel_rfl)
    (loops_one (id := 0) (y := .loop (loopOf 0 (bodyC Tryz.f93))) (by kernel_rfl)
      (loopS (le := lePa) (orc := orcPa) (lo' := [(2, leIn)]) orcPa_ok (by kernel_rfl) rfl
        (loops_one (id := 2) (y := .loop (loopOf 2 (bodyC Tryz.f93))) (by kernel_rfl)
          (loopS (le := leIn) (orc := orcPa) (lo' := []) orcPa_ok (by kernel_rfl) rfl (loops_none (by kernel_rfl)) stepIn (fun R vs k1 k2 r h => ?_) go_In))
        stepPa (fun R vs k1 k2 r h => ?_) go_Pa)) fun args t h => ?_
  · have h0 := h
    unfold stepIn at h
    split at h
    · exact (step_In R _ _ _ _ _ _ _ _ _ _ _ _ _ k1 k2).trans h0
    · cases h
  · have h0 := h
    unfold stepPa at h
    split at h
    · exact (step_Pa R _ _ _ _ _ _ _ _ _ _ k1 k2).trans h0
    · exact (step_Pn R _ _ _ _ _ _ _ _ k1 k2).trans h0
    · cases h
  · unfold sp_pt at h
    split at h
    · rename_i n a m b
      simp only [Option.some.injEq] at h
      subst h
      refine ⟨by kernel_rfl, .inl rfl, fun r h => ?_⟩
      rw [run_pt]
      simp only [Br.run] at h
      obtain ⟨hg, h3⟩ := chk_some h
      clear h
      unfold mayPa at hg
      rw [stk_eq] at hg
      simp only [Bool.and_eq_true, decide_eq_true_eq] at hg
      obtain ⟨⟨⟨g1, g2, g3, g4, g5⟩, ha⟩, hb⟩ := hg
      subst g2
      have e1 : mkD (n : Int) = true := by
        unfold mkD
        rw [beq_self_eq_true, decide_eq_true (show (0 : Int) ≤ (n : Int) by omega), decide_eq_true (show (4 : Int) * (n : Int) ≤ 140737488355328 by omega), decide_eq_true (show (n : Int) < 9223372036854775808 by omega)]
        rfl
      have e2 : w64 ((n : Int) - 1) = (n : Int) - 1 := w64_mid (by omega) (by omega)
      have e3 : fitPa n n 1 (List.replicate n 0) a b ((1 : Nat) : Int) ((n : Int) - 1) = true := by
        unfold fitPa
        rw [stk_eq, ha, hb, decide_eq_true ⟨g1, rfl, rfl, rfl, g3, rfl, rfl, g4, g5⟩]; rfl
      rw [e1, e2, Int.toNat_natCast]
      unfold ptE
      rw [e3]
      simp only [chk]
      by_cases h0 : n = 0
      · subst h0
        have ha0 : a = [] := List.eq_nil_of_length_eq_zero g1.symm
        subst ha0
        rw [show valD [] / valD b = 0 from Nat.zero_div _] at h3
        rw [show mayT 0 (List.replicate 0 0) = true by unfold mayT; rw [stk_eq]; rfl]
        exact h3
      · have hA : valD a / valD b < 65536 ^ n := Nat.lt_of_le_of_lt (Nat.div_le_self _ _) (by rw [g1]; exact val_lt a ha)
        have hz : Nat.beq n 0 = false := by
          cases n with
          | zero => exact absurd rfl h0
          | succ n => rfl
        have ht : mayT n (paL n a b) = true := by
          unfold mayT paL
          rw [stk_eq, stk_eq, ok_digP, len_digP, decide_eq_true rfl, decide_eq_true (show n ≤ 300000 by omega)]; rfl
        have hv : valD (paL n a b) = valD a / valD b := by unfold paL; rw [stk_eq, val_digP, Nat.mod_eq_of_lt hA]
        rw [hz] at h3 ⊢
        rw [ht, hv]
        exact h3
    · cases h
/-! ### Nil as a list of no digits -/
def wkR2 (r r' : AV) : Prop := r = r' ∨ ∃ a b b', wkV b b' ∧ r = .tup [a, b] ∧ r' = .tup [a, b']
theorem rr_wk2 {A : Nat → Prop} {w : World} {r r' : AV} {v : Value} {bs : List Nat} (h : wkR2 r r') (hv : RR A w r v bs) : RR A w r' v bs := by
  rcases h with rfl | ⟨a, b, b', hb, rfl, rfl⟩
  · exact hv
  · simp only [RR, Rs] at hv ⊢
    obtain ⟨vs, ⟨v1, vs1, b1, b2, h1, ⟨v2, vs2, b3, b4, k1, k2⟩, h3⟩, h5⟩ := hv
    exact ⟨vs, ⟨v1, vs1, b1, b2, h1, ⟨v2, vs2, b3, b4, r1_wk hb k1, k2⟩, h3⟩, h5⟩
theorem ent_wk2 {P : Program} {f : FuncId} {en en' : Ent} (h : EntOk P f en) (hl : EntLaw en') (hf : en'.frz = en.frz) (hg : ∀ n args r', en'.go AV n args some = some r' → ∃ r, en.go AV n args some = some r ∧ wkR2 r r') (hw : en.wr = false := by rfl) (hw' : en'.wr = false := by rfl) : EntOk P f en' := by
  refine ⟨hl, fun _ n args r' hr A w vs hA hv hG => ?_, fun hc => by rw [hw'] at hc; cases hc⟩
  obtain ⟨r, h1, h2⟩ := hg n args r' hr
  have hi := h.ok hw n args r h1 A w vs hA hv hG
  unfold Inv at hi ⊢
  rw [hf]
  split at hi
  · obtain ⟨q1, Ar, bs, q2, q3, q4, q5⟩ := hi
    exact ⟨q1, Ar, bs, q2, q3, q4, rr_wk2 h2 q5⟩
  · refine hi.mono ?_
    rintro e w' ⟨x, rfl, q1, Ar, bs, q2, q3, q4, q5⟩
    exact ⟨x, rfl, q1, Ar, bs, q2, q3, q4, rr_wk2 h2 q5⟩
  · exact hi
def sp_parts2 : List AV → Option (Bool × AV)
  | [.sl (.ints n .u32 a), .sl (.ints m .u32 b)] => some (mayPa n a m b, .tup [avD (valD a / valD b), avD (valD a % valD b)])
  | _ => none
theorem ok_parts2 : EntOk Tryz.prog 93 (entS true sp_parts2) := by
  refine ent_wk2 ok_pt (entS_law _ _) rfl fun _ args r' h9 => ?_
  have h := entS_some h9
  clear h9
  unfold sp_parts2 at h
  split at h
  · rename_i n a m b
    simp only [Option.some.injEq, Prod.mk.injEq] at h
    obtain ⟨hg, rfl⟩ := h
    have hg' := hg
    unfold mayPa at hg'
    rw [stk_eq] at hg'
    simp only [Bool.and_eq_true, decide_eq_true_eq] at hg'
    obtain ⟨⟨⟨g1, g2, g3, g4, g5⟩, ha⟩, hb⟩ := hg'
    simp only [entB, sp_pt]
    by_cases h0 : n = 0
    · subst h0
      have ha0 : a = [] := List.eq_nil_of_length_eq_zero g1.symm
      subst ha0
      refine ⟨.tup [avD (valD [] / valD b), .nils], ?_, .inr ⟨_, _, _, .inr ⟨rfl, .u32, ?_⟩, rfl, rfl⟩⟩
      · simp only [Br.run, hg, chk]
        rfl
      · rw [show valD [] % valD b = 0 from Nat.zero_mod _]
        unfold avD dgl dg
        rw [stk_eq, stk_eq]
        rfl
    · have hz : Nat.beq n 0 = false := by
        cases n with
        | zero => exact absurd rfl h0
        | succ n => rfl
      exact ⟨_, by simp only [Br.run, hg, chk, hz, cond_false]; rfl, .inl rfl⟩
  · cases h
end
end Go.Proofs.YtbakldcbaikgpaaGreatDoor
