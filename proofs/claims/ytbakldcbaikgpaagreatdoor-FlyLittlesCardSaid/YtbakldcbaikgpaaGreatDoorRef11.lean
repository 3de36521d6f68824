/- tillerref15: small, cut, Pi. Own work. -/
import Derived.Test.YtbakldcbaikgpaaGreatDoorDigB
import Derived.Test.YtbakldcbaikgpaaGreatDoorRef8
namespace Go.Proofs.YtbakldcbaikgpaaGreatDoor
set_option maxRecDepth 100000
noncomputable section
/-! ### small: division by one digit, in place -/
def sqV (O : List Int) (r i : Int) : Int := u64 (u64 (65536 * r) + u64 (O.getD i.toNat 0))
def stepS0 (R : Type) (vs : List AV) (k1 : List AV → Option R) (k2 : Nat → List AV → Option R) : Option R :=
  match vs with
  | [.ints p .u32 O, .int .u32 y, .int .u64 r, .int .i64 i] =>
    bif decide (i ≥ 0) then chk (inD i p) (chk (!(u64 y == 0)) (chk (inD i p) (chk (!(u64 y == 0)) (k1 [.ints p .u32 (O.set i.toNat (u32 (u64 ((sqV O r i).tdiv (u64 y))))), .int .u32 y, .int .u64 ((sqV O r i).tmod (u64 y)), .int .i64 (w64 (i - 1))]))))
    else k2 0 [.ints p .u32 O]
  | _ => none
def fitS0 (p : Nat) (O : List Int) (y i : Int) : Bool := stk (decide (p = O.length ∧ p ≤ 100000 ∧ 0 < y ∧ y < 65536 ∧ i = (p : Int) - 1)) && okD O
def s0D (p : Nat) (O : List Int) (y : Int) : List Int := stk (digP p (valD O / y.toNat))
def leS0 : LEnt :=
  { inn := { fuel := none, keep := [1, 6, 7], refs := [(5, 5, 190, .ints 0 .u32 [])] }
    out := { fuel := none, keep := [], refs := [(5, 5, 190, .ints 0 .u32 [])] }
    ret := { fuel := none, keep := [], refs := [] }
    go := fun _ _ vs kk => match vs with
      | [.ints p .u32 O, .int .u32 y, .int .u64 0, .int .i64 i] => chk (fitS0 p O y i) (kk 0 [.ints p .u32 (s0D p O y)])
      | _ => none }
theorem step_s0 (R : Type) (p : Nat) (O : List Int) (y r i : Int) (k1 : List AV → Option R) (k2 : Nat → List AV → Option R) :
    runA (env Tryz.f152.ntmps [] []) (loopOf 0 (bodyC Tryz.f152)) 0 (stateOf leS0.inn [.ints p .u32 O, .int .u32 y, .int .u64 r, .int .i64 i]) (bodyK leS0 0 k1 k2) =
    stepS0 R [.ints p .u32 O, .int .u32 y, .int .u64 r, .int .i64 i] k1 k2 := by kernel_rfl
def stepS2 (R : Type) (vs : List AV) (k1 : List AV → Option R) (k2 : Nat → List AV → Option R) : Option R :=
  match vs with
  | [.ints p .u32 O, .int .i64 i] =>
    bif decide (i > 0) then chk (inD (w64 (i - 1)) p) (bif O.getD (w64 (i - 1)).toNat 0 == 0 then k1 [.ints p .u32 O, .int .i64 (w64 (i - 1))] else k2 0 [.ints p .u32 O, .int .i64 i])
    else k2 0 [.ints p .u32 O, .int .i64 i]
  | _ => none
def leS2 : LEnt :=
  { inn := { fuel := none, keep := [8], refs := [(5, 5, 190, .ints 0 .u32 [])] }
    out := { fuel := none, keep := [8], refs := [(5, 5, 190, .ints 0 .u32 [])] }
    ret := { fuel := none, keep := [], refs := [] }
    go := fun _ _ vs kk => match vs with
      | [.ints p .u32 O, .int .i64 i] => chk (goTrim p O i) (kk 0 [.ints p .u32 O, .int .i64 (tI O)])
      | _ => none }
theorem step_s2 (R : Type) (p : Nat) (O : List Int) (i : Int) (k1 : List AV → Option R) (k2 : Nat → List AV → Option R) :
    runA (env Tryz.f152.ntmps [] []) (loopOf 2 (bodyC Tryz.f152)) 2 (stateOf leS2.inn [.ints p .u32 O, .int .i64 i]) (bodyK leS2 2 k1 k2) =
    stepS2 R [.ints p .u32 O, .int .i64 i] k1 k2 := by kernel_rfl
theorem s2_loop (R : Type) (l : List Int) (hl : l.length ≤ 300000) (kk : Nat → List AV → Option R) : ∀ (m : Nat), m ≤ l.length → tlen l = tlen (l.take m) →
    ∃ f, loopN (stepS2 R) f [.ints l.length .u32 l, .int .i64 (m : Int)] kk = kk 0 [.ints l.length .u32 l, .int .i64 ((tlen l : Nat) : Int)]
  | 0, _, ht => by
    refine ⟨1, ?_⟩
    rw [ht, List.take_zero, loopN]
    rfl
  | m + 1, hm, ht => by
    have hs := take_snoc l (m := m) (by omega)
    have e1 : decide (((m + 1 : Nat) : Int) > 0) = true := decide_eq_true (by omega)
    have e2 : w64 (((m + 1 : Nat) : Int) - 1) = (m : Int) := by rw [w64_mid (by omega) (by omega)]; omega
    have e3 : inD (m : Int) l.length = true := inD_at (by omega)
    by_cases hd : l.getD m 0 = 0
    · rw [hs, hd, tlen_snoc0] at ht
      obtain ⟨f, hf⟩ := s2_loop R l hl kk m (by omega) ht
      refine ⟨f + 1, ?_⟩
      rw [loopN]
      simp only [stepS2]
      rw [e1, e2, e3, Int.toNat_natCast, hd]
      exact hf
    · rw [hs, tlen_snoc hd, List.length_take, Nat.min_eq_left (by omega)] at ht
      refine ⟨1, ?_⟩
      rw [loopN]
      simp only [stepS2]
      rw [e1, e2, e3, Int.toNat_natCast, beq_eq_false_iff_ne.2 hd, ht]
      rfl
theorem go_s2 (R : Type) (n : Nat) (vs : List AV) (kk : Nat → List AV → Option R) (r : R) (h : leS2.go R n vs kk = some r) : ∃ m, loopN (stepS2 R) m vs kk = some r := by
  simp only [leS2] at h
  split at h
  · rename_i n l i
    obtain ⟨hg, hk⟩ := chk_some h
    unfold goTrim at hg
    rw [stk_eq] at hg
    simp only [Bool.and_eq_true, decide_eq_true_eq] at hg
    obtain ⟨⟨g1, g2⟩, g3⟩ := hg
    subst g1 g2
    obtain ⟨f, hf⟩ := s2_loop R l g3 kk l.length (Nat.le_refl _) (by rw [List.take_length])
    refine ⟨f, hf.trans ?_⟩
    unfold tI at hk
    rw [stk_eq] at hk
    exact hk
  · cases h
structure SqS (n A d k : Nat) (O : List Int) : Prop where
  ok : okD O = true
  len : O.length = n
  val : valD O = A % 65536 ^ k + paQ A d k
theorem SqS.digit {n A d k : Nat} {O : List Int} (h : SqS n A d (k + 1) O) : O.getD k 0 = ((A / 65536 ^ k % 65536 : Nat) : Int) := by
  rw [get_val O k h.ok, h.val]
  unfold paQ
  rw [Nat.pow_succ, Nat.mul_assoc, Nat.add_mul_div_left _ _ (Nat.pow_pos (by decide)), Nat.mod_mul_right_div_self, Nat.add_mul_mod_self_left, Nat.mod_mod]
theorem SqS.step {n A d k : Nat} {O : List Int} (h : SqS n A d (k + 1) O) (hd : 0 < d) (hk : k < n) : SqS n A d k (O.set k (((A / 65536 ^ k % 65536 + 65536 * paR A d (k + 1)) / d : Nat) : Int)) := by
  obtain ⟨s1, s2, s3, s4⟩ := pa_step (A := A) (k := k) hd
  have hg := h.digit
  have hm := mod_pow_succ A k
  generalize A / 65536 ^ k % 65536 + 65536 * paR A d (k + 1) = v at *
  refine ⟨okD_set h.ok k (Int.natCast_nonneg _) (Int.ofNat_lt.2 s4), by rw [List.length_set]; exact h.len, ?_⟩
  have hv := valD_set O k ((v / d : Nat) : Int) (by rw [h.len]; exact hk)
  rw [hg, Int.toNat_natCast, Int.toNat_natCast, h.val, hm] at hv
  rw [s2]
  rw [Nat.mul_comm (A / 65536 ^ k % 65536)] at hv
  omega
theorem s0_loop (R : Type) {A d n : Nat} (hd0 : 0 < d) (hd : d < 65536) (hn : n ≤ 100000) (kk : Nat → List AV → Option R) : ∀ (k : Nat) (O : List Int), k ≤ n → SqS n A d k O →
    ∃ f, loopN (stepS0 R) f [.ints n .u32 O, .int .u32 (d : Int), .int .u64 ((paR A d k : Nat) : Int), .int .i64 ((k : Int) - 1)] kk = kk 0 [.ints n .u32 (digP n (A / d))]
  | 0, O, _, h => by
    have h1 := digP_self O h.ok
    have hv := h.val
    unfold paQ at hv
    rw [Nat.pow_zero, Nat.div_one, Nat.one_mul, Nat.mod_one, Nat.zero_add] at hv
    rw [h.len, hv] at h1
    refine ⟨1, ?_⟩
    rw [loopN, h1]
    rfl
  | k + 1, O, hk, h => by
    obtain ⟨s1, s2, s3, s4⟩ := pa_step (A := A) (k := k) hd0
    obtain ⟨f, hf⟩ := s0_loop R hd0 hd hn kk k _ (by omega) (h.step hd0 (by omega))
    have hr : paR A d (k + 1) < d := Nat.mod_lt _ hd0
    have hx : A / 65536 ^ k % 65536 < 65536 := Nat.mod_lt _ (by decide)
    have e0 : (((k + 1 : Nat) : Int) - 1) = (k : Int) := by omega
    have e1 : inD (k : Int) n = true := inD_at (by omega)
    have e2 : u64 (d : Int) = (d : Int) := u64_nat (by omega)
    have e3 : (!((d : Int) == 0)) = true := by rw [beq_eq_false_iff_ne.2 (by omega)]; rfl
    have e4 : sqV O ((paR A d (k + 1) : Nat) : Int) (k : Int) = ((A / 65536 ^ k % 65536 + 65536 * paR A d (k + 1) : Nat) : Int) := by
      unfold sqV
      rw [Int.toNat_natCast, h.digit]
      generalize A / 65536 ^ k % 65536 = x at *
      rw [u64_nat (n := x) (by omega), show (65536 : Int) * ((paR A d (k + 1) : Nat) : Int) = ((65536 * paR A d (k + 1) : Nat) : Int) by omega, u64_nat (n := 65536 * paR A d (k + 1)) (by omega), ← Int.natCast_add, u64_nat (by omega), Nat.add_comm]
    have t1 := tdivN (A / 65536 ^ k % 65536 + 65536 * paR A d (k + 1)) d
    have t2 := tmodN (A / 65536 ^ k % 65536 + 65536 * paR A d (k + 1)) d
    refine ⟨f + 1, ?_⟩
    rw [loopN, e0]
    simp only [stepS0]
    rw [decide_eq_true (show (k : Int) ≥ 0 by omega), e1, e2, e3, e4, t1, t2, u64_nat (Nat.lt_trans s4 (by decide)), u32_nat (Nat.lt_trans s4 (by decide)), Int.toNat_natCast, ← s1, show w64 ((k : Int) - 1) = (k : Int) - 1 from w64_mid (by omega) (by omega)]
    exact hf
theorem go_s0 (R : Type) (n : Nat) (vs : List AV) (kk : Nat → List AV → Option R) (r : R) (h : leS0.go R n vs kk = some r) : ∃ m, loopN (stepS0 R) m vs kk = some r := by
  simp only [leS0] at h
  split at h
  · rename_i p O y i
    obtain ⟨hg, hk⟩ := chk_some h
    clear h
    unfold fitS0 at hg
    simp only [stk_eq, Bool.and_eq_true, decide_eq_true_eq] at hg
    obtain ⟨⟨g1, g2, g3, g4, g5⟩, ha⟩ := hg
    subst g5
    obtain ⟨d, rfl⟩ : ∃ d : Nat, y = d := ⟨y.toNat, (Int.toNat_of_nonneg (by omega)).symm⟩
    have hA : valD O < 65536 ^ p := by rw [g1]; exact val_lt O ha
    have h0 : valD O / 65536 ^ p = 0 := Nat.div_eq_of_lt hA
    have st : SqS p (valD O) d p O := ⟨ha, g1.symm, by unfold paQ; rw [h0, Nat.zero_div, Nat.mul_zero, Nat.add_zero, Nat.mod_eq_of_lt hA]⟩
    obtain ⟨f, hf⟩ := s0_loop R (d := d) (by omega) (by omega) g2 kk p O (Nat.le_refl _) st
    rw [show paR (valD O) d p = 0 by unfold paR; rw [h0, Nat.zero_mod]] at hf
    refine ⟨f, hf.trans ?_⟩
    unfold s0D at hk
    rw [stk_eq, Int.toNat_natCast] at hk
    exact hk
  · cases h
def maySq (n : Nat) (a : List Int) (y : Int) : Bool := stk (decide (n = a.length ∧ n ≤ 100000 ∧ 0 < y ∧ y < 65536)) && okD a
def sp_sq : List AV → Option (Bool × AV)
  | [.sl (.ints n .u32 a), .int .u32 y] => some (maySq n a y, avD (valD a / y.toNat))
  | _ => none
def sqT (p : Nat) (O : List Int) (N : Int) : Option AV := chk (decide ((0 : Int) ≤ 0) && decide ((0 : Int) ≤ N) && decide (N ≤ (p : Int))) (some (.sl (.ints (N.toNat - (0 : Int).toNat) .u32 ((O.drop (0 : Int).toNat).take (N.toNat - (0 : Int).toNat)))))
theorem run_sq (n : Nat) (a : List Int) (y : Int) : callA (env Tryz.f152.ntmps [] [(0, leS0), (2, leS2)]) (bodyC Tryz.f152) Tryz.f152.results.toList (slots 0 [.sl (.ints n .u32 a), .int .u32 y]) some =
    chk (Nat.ble (n * 4) 140737488355328) (chk (fitS0 n a y (w64 ((n : Int) - 1))) (chk (goTrim n (s0D n a y) (n : Int)) (sqT n (s0D n a y) (tI (s0D n a y))))) := by kernel_rfl
theorem ok_sq : EntOk Tryz.prog 152 (entS true sp_sq) := by
  refine contractS (orc := []) (lo := [(0, leS0), (2, leS2)]) Tryz.func152 orc_nil (by kernel_rfl) (by kernel_rfl) (by kernel_rfl)
    (loops_two (id := 0) (id' := 2) (y := .loop (loopOf 0 (bodyC Tryz.f152))) (y' := .loop (loopOf 2 (bodyC Tryz.f152))) (by kernel_rfl)
      (loopS (le := leS0) (orc := []) (lo' := []) orc_nil (by kernel_rfl) rfl (loops_none (by kernel_rfl)) stepS0 (fun R vs k1 k2 r h => ?_) go_s0)
      (loopS (le := leS2) (orc := []) (lo' := []) orc_nil (by kernel_rfl) rfl (loops_none (by kernel_rfl)) stepS2 (fun R vs k1 k2 r h => ?_) go_s2)) fun args r h => ?_
  · have h0 := h
    unfold stepS0 at h
    split at h
    · exact (step_s0 R _ _ _ _ _ k1 k2).trans h0
    · cases h
  · have h0 := h
    unfold stepS2 at h
    split at h
    · exact (step_s2 R _ _ _ k1 k2).trans h0
    · cases h
  · unfold sp_sq at h
    split at h
    · rename_i n a y
      simp only [Option.some.injEq, Prod.mk.injEq] at h
      obtain ⟨hg, rfl⟩ := h
      unfold maySq at hg
      rw [Bool.and_eq_true, stk_eq, decide_eq_true_eq] at hg
      obtain ⟨⟨g1, g2, g3, g4⟩, ha⟩ := hg
      refine ⟨by kernel_rfl, .inl rfl, (run_sq n a y).trans ?_⟩
      have hV : valD a / y.toNat < 65536 ^ n := Nat.lt_of_le_of_lt (Nat.div_le_self _ _) (by rw [g1]; exact val_lt a ha)
      have hO : s0D n a y = digP n (valD a / y.toNat) := by unfold s0D; rw [stk_eq]
      have e1 : Nat.ble (n * 4) 140737488355328 = true := Nat.ble_eq_true_of_le (by omega)
      have e2 : w64 ((n : Int) - 1) = (n : Int) - 1 := w64_mid (by omega) (by omega)
      have e3 : fitS0 n a y ((n : Int) - 1) = true := by
        unfold fitS0
        rw [stk_eq, ha, decide_eq_true ⟨g1, g2, g3, g4, rfl⟩]; rfl
      have e4 : goTrim n (s0D n a y) (n : Int) = true := by
        unfold goTrim
        rw [hO, stk_eq, len_digP, decide_eq_true rfl, decide_eq_true rfl, decide_eq_true (show n ≤ 300000 by omega)]; rfl
      obtain ⟨t1, t2⟩ := take_tlen (s0D n a y) (by rw [hO]; exact ok_digP _ _)
      have hv : valD (s0D n a y) = valD a / y.toNat := by rw [hO, val_digP, Nat.mod_eq_of_lt hV]
      have hle := tlen_le (s0D n a y)
      have hlen : (s0D n a y).length = n := by rw [hO, len_digP]
      rw [e1, e2, e3, e4]
      simp only [chk]
      unfold sqT tI avD dg dgl
      rw [stk_eq, stk_eq, stk_eq, decide_eq_true (show (0 : Int) ≤ 0 by decide), decide_eq_true (show (0 : Int) ≤ ((tlen (s0D n a y) : Nat) : Int) by omega), decide_eq_true (show ((tlen (s0D n a y) : Nat) : Int) ≤ (n : Int) by omega)]
      rw [Int.toNat_natCast, show (0 : Int).toNat = 0 from rfl, Nat.sub_zero, List.drop_zero, t1, t2, hv]
      rfl
    · cases h
/-! ### cut -/
def sp_qCut : List AV → Option (Bool × AV)
  | [.sl (.ints n .u32 a), .sl (.ints m .u32 b)] => some (mayMul n a m b, avD (valD a * valD b / 2 ^ (320 : Int).toNat))
  | _ => none
theorem run_qCut (n m : Nat) (a b : List Int) : callA (env Tryz.f137.ntmps [(94, entS true sp_dMul), (100, entS true sp_shr)] []) (bodyC Tryz.f137) Tryz.f137.results.toList (slots 0 [.sl (.ints n .u32 a), .sl (.ints m .u32 b)]) some =
    chk (mayMul n a m b) (chk (mayR (dgl (valD a * valD b)) (dg (valD a * valD b)) 320) (some (avD (valD (dg (valD a * valD b)) / 2 ^ (320 : Int).toNat)))) := by kernel_rfl
theorem ok_qCut : EntOk Tryz.prog 137 (entS true sp_qCut) := by
  refine contractS (orc := [(94, entS true sp_dMul), (100, entS true sp_shr)]) (lo := []) Tryz.func137 (orc_cons ok_dMul (orc_cons ok_shr orc_nil)) (by kernel_rfl) (by kernel_rfl) (by kernel_rfl) (loops_none (by kernel_rfl)) fun args r h => ?_
  unfold sp_qCut at h
  split at h
  · rename_i n a m b
    simp only [Option.some.injEq, Prod.mk.injEq] at h
    obtain ⟨hg, rfl⟩ := h
    refine ⟨by kernel_rfl, .inl rfl, (run_qCut n m a b).trans ?_⟩
    have hg' := hg
    unfold mayMul at hg'
    rw [Bool.and_eq_true, stk_eq, decide_eq_true_eq] at hg'
    obtain ⟨h1, h2, h3⟩ := hg'
    obtain ⟨⟨⟨g1, g2⟩, g3, g4⟩, g5, g6⟩ := mayC2_iff.1 h1
    have hV : valD a * valD b < 65536 ^ (n + m) := by
      rw [Nat.pow_add]
      exact Nat.mul_lt_mul_of_lt_of_le (by rw [g1]; exact val_lt a g3) (by rw [g2]; exact Nat.le_of_lt (val_lt b g4)) (Nat.pow_pos (by decide))
    obtain ⟨f1, f2, f3, f4⟩ := dg_fit hV
    have e1 : mayR (dgl (valD a * valD b)) (dg (valD a * valD b)) 320 = true := by
      unfold mayR
      rw [stk_eq, decide_eq_true f1, f2, decide_eq_true (show dgl (valD a * valD b) ≤ 200000 by omega)]; rfl
    rw [hg, e1, f4]
    rfl
  · cases h
/-! ### Pi -/
def sp_fr11 : List AV → Option (Bool × AV)
  | [.sl (.ints 11 .u32 [a0, a1, a2, a3, a4, a5, a6, a7, a8, a9, b0])] => some (may8 [a0, a1, a2, a3, a4, a5, a6, a7, a8, a9, b0], avD (frV [a0, a1, a2, a3, a4, a5, a6, a7, a8, a9, b0]))
  | _ => none
theorem run_fr11 (a0 a1 a2 a3 a4 a5 a6 a7 a8 a9 b0 : Int) : callA (env Tryz.f135.ntmps orcTrim []) (bodyC Tryz.f135) Tryz.f135.results.toList (slots 0 [.sl (.ints 11 .u32 [a0, a1, a2, a3, a4, a5, a6, a7, a8, a9, b0])]) some =
    chk (mayT 22 (frL [a0, a1, a2, a3, a4, a5, a6, a7, a8, a9, b0])) (some (avD (valD (frL [a0, a1, a2, a3, a4, a5, a6, a7, a8, a9, b0])))) := by kernel_rfl
theorem ok_fr11 : EntOk Tryz.prog 135 (entS true sp_fr11) := by
  refine contractS (orc := orcTrim) (lo := []) Tryz.func135 (orc_cons ok_trim orc_nil) (by kernel_rfl) (by kernel_rfl) (by kernel_rfl) (loops_none (by kernel_rfl)) fun args r h => ?_
  unfold sp_fr11 at h
  split at h
  · rename_i a0 a1 a2 a3 a4 a5 a6 a7 a8 a9 b0
    simp only [Option.some.injEq, Prod.mk.injEq] at h
    obtain ⟨hg, rfl⟩ := h
    unfold may8 at hg
    rw [stk_eq] at hg
    obtain ⟨v1, v2, v3⟩ := fr_val _ hg
    refine ⟨by kernel_rfl, .inl rfl, (run_fr11 a0 a1 a2 a3 a4 a5 a6 a7 a8 a9 b0).trans ?_⟩
    have e : mayT 22 (frL [a0, a1, a2, a3, a4, a5, a6, a7, a8, a9, b0]) = true := by
      unfold mayT
      rw [stk_eq, v2, v3]; rfl
    rw [e, v1]
    rfl
  · cases h
def piW : List Int := [953160567, 1160258022, 3964562569, 137296536, 698298832, 2752067618, 57701188, 320440878, 2242054355, 608135816, 3]
def sp_pi : List AV → Option (Bool × AV)
  | [] => some (true, avD (frV piW))
  | _ => none
theorem run_pi : callA (env Tryz.f95.ntmps [(135, entS true sp_fr11)] []) (bodyC Tryz.f95) Tryz.f95.results.toList (slots 0 []) some =
    chk (may8 piW) (some (avD (frV piW))) := by kernel_rfl
theorem ok_pi : EntOk Tryz.prog 95 (entS true sp_pi) := by
  refine contractS (orc := [(135, entS true sp_fr11)]) (lo := []) Tryz.func95 (orc_cons ok_fr11 orc_nil) (by kernel_rfl) (by kernel_rfl) (by kernel_rfl) (loops_none (by kernel_rfl)) fun args r h => ?_
  unfold sp_pi at h
  split at h
  · simp only [Option.some.injEq, Prod.mk.injEq] at h
    obtain ⟨-, rfl⟩ := h
    refine ⟨by kernel_rfl, .inl rfl, run_pi.trans ?_⟩
    have e : may8 piW = true := by unfold may8; rw [stk_eq]; decide
    rw [e]
    rfl
  · cases h
end
end Go.Proofs.YtbakldcbaikgpaaGreatDoor
