/- tillerref02: Mul, the walk. Own work. -/
import Derived.Test.YtbakldcbaikgpaaGreatDoorDig8
namespace Go.Proofs.YtbakldcbaikgpaaGreatDoor
set_option maxRecDepth 100000
noncomputable section
def inD (i : Int) (n : Nat) : Bool := decide (0 ≤ i) && decide (i < n) && true
theorem inD_at {j n : Nat} (h : j < n) : inD (j : Int) n = true := by
  unfold inD
  rw [decide_eq_true (show (0 : Int) ≤ j by omega), decide_eq_true (show (j : Int) < n by omega)]
  rfl
def mU (O b : List Int) (ai c : Int) (ik : Int) (k : Int) : Int := u64 (u64 (c + u64 (O.getD ik.toNat 0)) + u64 (u64 ai * u64 (b.getD k.toNat 0)))
def stepMi (R : Type) (vs : List AV) (k1 : List AV → Option R) (k2 : Nat → List AV → Option R) : Option R :=
  match vs with
  | [.ints p .u32 O, .sl (.ints n .u32 a), .sl (.ints m .u32 b), .int .i64 i, .int .u64 c, .int .i64 k] =>
    bif decide (k < (m : Int)) then
      chk (inD (w64 (i + k)) p) (chk (inD i n) (chk (inD k m) (chk (inD (w64 (i + k)) p)
        (k1 [.ints p .u32 (O.set (w64 (i + k)).toNat (u32 ((mU O b (a.getD i.toNat 0) c (w64 (i + k)) k).tmod 65536))), .sl (.ints n .u32 a), .sl (.ints m .u32 b), .int .i64 i, .int .u64 (u64 ((mU O b (a.getD i.toNat 0) c (w64 (i + k)) k).tdiv 65536)), .int .i64 (w64 (k + 1))]))))
    else k2 0 [.ints p .u32 O, .sl (.ints n .u32 a), .sl (.ints m .u32 b), .int .i64 i, .int .u64 c]
  | _ => none
def fitMi (p n m : Nat) (O a b : List Int) (i : Int) : Bool := stk (decide (n = a.length ∧ m = b.length ∧ O.length = p ∧ 0 ≤ i ∧ i < n ∧ i + m < p ∧ p ≤ 300000) && okD a && okD b && okD O)
def mSk (a b O : List Int) (i : Int) : MS := stk (mS b (a.getD i.toNat 0).toNat i.toNat b.length 0 (0, O))
def leMi : LEnt :=
  { inn := { fuel := none, keep := [0, 1, 6, 7, 8], refs := [(5, 5, 190, .ints 0 .u32 [])] }
    out := { fuel := none, keep := [0, 1, 6, 7], refs := [(5, 5, 190, .ints 0 .u32 [])] }
    ret := { fuel := none, keep := [], refs := [] }
    go := fun _ _ vs kk => match vs with
      | [.ints p .u32 O, .sl (.ints n .u32 a), .sl (.ints m .u32 b), .int .i64 i, .int .u64 0, .int .i64 0] =>
        chk (fitMi p n m O a b i) (kk 0 [.ints p .u32 (mSk a b O i).2, .sl (.ints n .u32 a), .sl (.ints m .u32 b), .int .i64 i, .int .u64 (((mSk a b O i).1 : Nat) : Int)])
      | _ => none }
def orcDM : List (FuncId × Ent) := [(132, entS true sp_trim)]
theorem step_Mi (R : Type) (p n m : Nat) (O a b : List Int) (i c k : Int) (k1 : List AV → Option R) (k2 : Nat → List AV → Option R) :
    runA (env Tryz.f94.ntmps orcDM []) (loopOf 2 (bodyC Tryz.f94)) 2 (stateOf leMi.inn [.ints p .u32 O, .sl (.ints n .u32 a), .sl (.ints m .u32 b), .int .i64 i, .int .u64 c, .int .i64 k]) (bodyK leMi 2 k1 k2) =
    stepMi R [.ints p .u32 O, .sl (.ints n .u32 a), .sl (.ints m .u32 b), .int .i64 i, .int .u64 c, .int .i64 k] k1 k2 := by kernel_rfl
theorem Mi_loop (R : Type) {p : Nat} {a b : List Int} (ha : okD a = true) (hb : okD b = true) (i : Nat) (hi : i < a.length) (hp : i + b.length < p) (hp2 : p ≤ 300000) (kk : Nat → List AV → Option R) : ∀ (q k : Nat) (s : MS), k + q = b.length → mOk p s →
    loopN (stepMi R) (q + 1) [.ints p .u32 s.2, .sl (.ints a.length .u32 a), .sl (.ints b.length .u32 b), .int .i64 i, .int .u64 ((s.1 : Nat) : Int), .int .i64 k] kk =
    kk 0 [.ints p .u32 (mS b (a.getD i 0).toNat i q k s).2, .sl (.ints a.length .u32 a), .sl (.ints b.length .u32 b), .int .i64 i, .int .u64 (((mS b (a.getD i 0).toNat i q k s).1 : Nat) : Int)]
  | 0, k, s, hk, _ => by
    rw [loopN]
    unfold stepMi
    simp only [show ¬ ((k : Int) < (b.length : Int)) by omega, decide_false, cond_false]
    rfl
  | q + 1, k, s, hk, h => by
    obtain ⟨h1, h2, h3⟩ := h
    have hx := okD_get ha i
    have hx2 : (a.getD i 0).toNat < 65536 := by omega
    obtain ⟨a1, a2⟩ := mX_lt (i := i) (k := k) h1 hb hx2 h3
    have ho := okD_get h1 (i + k)
    have hbk := okD_get hb k
    have e1 : w64 ((k : Int) + 1) = ((k + 1 : Nat) : Int) := by rw [w64_mid (by omega) (by omega)]; omega
    have e2 : w64 ((i : Int) + k) = ((i + k : Nat) : Int) := by rw [w64_mid (by omega) (by omega)]; omega
    have c1 : inD ((i + k : Nat) : Int) p = true := inD_at (by omega)
    have c2 : inD (i : Int) a.length = true := inD_at hi
    have c3 : inD (k : Int) b.length = true := inD_at (by omega)
    have eU : mU s.2 b (a.getD i 0) ((s.1 : Nat) : Int) ((i + k : Nat) : Int) (k : Int) = ((mX s.2 b (a.getD i 0).toNat i k s.1 : Nat) : Int) := by
      unfold mU mX at *
      rw [Int.toNat_natCast, Int.toNat_natCast]
      generalize s.2.getD (i + k) 0 = o at *
      generalize b.getD k 0 = y at *
      generalize a.getD i 0 = x at *
      obtain ⟨o, rfl⟩ : ∃ n : Nat, o = n := ⟨o.toNat, (Int.toNat_of_nonneg ho.1).symm⟩
      obtain ⟨y, rfl⟩ : ∃ n : Nat, y = n := ⟨y.toNat, (Int.toNat_of_nonneg hbk.1).symm⟩
      obtain ⟨x, rfl⟩ : ∃ n : Nat, x = n := ⟨x.toNat, (Int.toNat_of_nonneg hx.1).symm⟩
      simp only [Int.toNat_natCast] at *
      rw [u64_nat (by omega), u64_nat (n := x) (by omega), u64_nat (n := y) (by omega), ← Int.natCast_add, ← Int.natCast_mul, u64_nat (n := x * y) (by omega), u64_nat (n := s.1 + o) (by omega), ← Int.natCast_add, u64_nat (by omega)]
    have eM : u32 (((mX s.2 b (a.getD i 0).toNat i k s.1 : Nat) : Int).tmod 65536) = ((mX s.2 b (a.getD i 0).toNat i k s.1 % 65536 : Nat) : Int) := by
      have := tmodN (mX s.2 b (a.getD i 0).toNat i k s.1) 65536
      rw [show ((65536 : Nat) : Int) = 65536 from rfl] at this
      rw [this, u32_nat (by omega)]
    have eD : u64 (((mX s.2 b (a.getD i 0).toNat i k s.1 : Nat) : Int).tdiv 65536) = ((mX s.2 b (a.getD i 0).toNat i k s.1 / 65536 : Nat) : Int) := by
      have := tdivN (mX s.2 b (a.getD i 0).toNat i k s.1) 65536
      rw [show ((65536 : Nat) : Int) = 65536 from rfl] at this
      rw [this, u64_nat (by omega)]
    have hs : ∀ k1 k2, stepMi R [.ints p .u32 s.2, .sl (.ints a.length .u32 a), .sl (.ints b.length .u32 b), .int .i64 i, .int .u64 ((s.1 : Nat) : Int), .int .i64 k] k1 k2 =
        k1 [.ints p .u32 (s.2.set (i + k) ((mX s.2 b (a.getD i 0).toNat i k s.1 % 65536 : Nat) : Int)), .sl (.ints a.length .u32 a), .sl (.ints b.length .u32 b), .int .i64 i, .int .u64 ((mX s.2 b (a.getD i 0).toNat i k s.1 / 65536 : Nat) : Int), .int .i64 ((k + 1 : Nat) : Int)] := by
      intro k1 k2
      unfold stepMi
      simp only [decide_eq_true (show (k : Int) < (b.length : Int) by omega), cond_true, e1, e2, c1, c2, c3, Int.toNat_natCast, eU, eM, eD, chk]
    rw [loopN, hs]
    exact Mi_loop R ha hb i hi hp hp2 kk q (k + 1) (mX s.2 b (a.getD i 0).toNat i k s.1 / 65536, s.2.set (i + k) ((mX s.2 b (a.getD i 0).toNat i k s.1 % 65536 : Nat) : Int)) (by omega) ⟨okD_set h1 _ (by omega) (by omega), by rw [List.length_set]; exact h2, a2⟩
theorem fitMi_parts {p n m : Nat} {O a b : List Int} {i : Int} (h : fitMi p n m O a b i = true) : (n = a.length ∧ m = b.length ∧ O.length = p ∧ 0 ≤ i ∧ i < n ∧ i + m < p ∧ p ≤ 300000) ∧ okD a = true ∧ okD b = true ∧ okD O = true := by
  unfold fitMi at h
  simp only [stk_eq, Bool.and_eq_true, decide_eq_true_eq] at h
  exact ⟨h.1.1.1, h.1.1.2, h.1.2, h.2⟩
theorem go_Mi (R : Type) (n : Nat) (vs : List AV) (kk : Nat → List AV → Option R) (r : R) (h : leMi.go R n vs kk = some r) : ∃ m, loopN (stepMi R) m vs kk = some r := by
  simp only [leMi] at h
  split at h
  · rename_i p O n a m b i
    obtain ⟨hg, hk⟩ := chk_some h
    clear h
    obtain ⟨⟨g1, g2, g3, g4, g5, g6, g7⟩, ha, hb, hO⟩ := fitMi_parts hg
    subst g1 g2
    obtain ⟨i, rfl⟩ : ∃ q : Nat, i = q := ⟨i.toNat, (Int.toNat_of_nonneg (by omega)).symm⟩
    refine ⟨b.length + 1, (Mi_loop R ha hb i (by omega) (by omega) g7 kk b.length 0 (0, O) (by omega) ⟨hO, g3, (by decide : 0 < 65536)⟩).trans ?_⟩
    unfold mSk at hk
    rw [stk_eq, Int.toNat_natCast] at hk
    exact hk
  · cases h
/-! ### All digits -/
def stepMo (R : Type) (vs : List AV) (k1 : List AV → Option R) (k2 : Nat → List AV → Option R) : Option R :=
  match vs with
  | [.ints p .u32 O, .sl (.ints n .u32 a), .sl (.ints m .u32 b), .int .i64 i] =>
    bif decide (i < (n : Int)) then
      chk (fitMi p n m O a b i) (chk (inD (w64 (i + m)) p) (k1 [.ints p .u32 ((mSk a b O i).2.set (w64 (i + m)).toNat (u32 (((mSk a b O i).1 : Nat) : Int))), .sl (.ints n .u32 a), .sl (.ints m .u32 b), .int .i64 (w64 (i + 1))]))
    else k2 0 [.ints p .u32 O]
  | _ => none
def fitMo (p n m : Nat) (O a b : List Int) : Bool := stk (decide (n = a.length ∧ m = b.length ∧ p = n + m ∧ p ≤ 300000 ∧ O = List.replicate p 0) && okD a && okD b)
def mulK (a b : List Int) : List Int := stk (mulD a b)
def leMo : LEnt :=
  { inn := { fuel := none, keep := [0, 1, 6], refs := [(5, 5, 190, .ints 0 .u32 [])] }
    out := { fuel := none, keep := [], refs := [(5, 5, 190, .ints 0 .u32 [])] }
    ret := { fuel := none, keep := [], refs := [] }
    go := fun _ _ vs kk => match vs with
      | [.ints p .u32 O, .sl (.ints n .u32 a), .sl (.ints m .u32 b), .int .i64 0] => chk (fitMo p n m O a b) (kk 0 [.ints p .u32 (mulK a b)])
      | _ => none }
theorem step_Mo (R : Type) (p n m : Nat) (O a b : List Int) (i : Int) (k1 : List AV → Option R) (k2 : Nat → List AV → Option R) :
    runA (env Tryz.f94.ntmps orcDM [(2, leMi)]) (loopOf 0 (bodyC Tryz.f94)) 0 (stateOf leMo.inn [.ints p .u32 O, .sl (.ints n .u32 a), .sl (.ints m .u32 b), .int .i64 i]) (bodyK leMo 0 k1 k2) =
    stepMo R [.ints p .u32 O, .sl (.ints n .u32 a), .sl (.ints m .u32 b), .int .i64 i] k1 k2 := by kernel_rfl
theorem Mo_loop (R : Type) {p : Nat} {a b : List Int} (ha : okD a = true) (hb : okD b = true) (hp : p = a.length + b.length) (hp2 : p ≤ 300000) (kk : Nat → List AV → Option R) : ∀ (q i : Nat) (O : List Int), i + q = a.length → okD O = true → O.length = p → (∀ j, i + b.length ≤ j → O.getD j 0 = 0) →
    loopN (stepMo R) (q + 1) [.ints p .u32 O, .sl (.ints a.length .u32 a), .sl (.ints b.length .u32 b), .int .i64 i] kk = kk 0 [.ints p .u32 (mT a b q i O)]
  | 0, i, O, hi, _, _, _ => by
    rw [loopN]
    unfold stepMo
    simp only [show ¬ ((i : Int) < (a.length : Int)) by omega, decide_false, cond_false]
    rfl
  | q + 1, i, O, hi, h1, h2, hz => by
    obtain ⟨a1, a2, a3, a4⟩ := mT1_ok ha hb (p := p) (i := i) h1 h2 (by omega) hz
    have hx := okD_get ha i
    obtain ⟨⟨m1, m2, m3⟩, -⟩ := mS_ok hb (p := p) (i := i) (show (a.getD i 0).toNat < 65536 by omega) b.length 0 (0, O) ⟨h1, h2, (by decide : 0 < 65536)⟩
    have e1 : w64 ((i : Int) + 1) = ((i + 1 : Nat) : Int) := by rw [w64_mid (by omega) (by omega)]; omega
    have e2 : w64 ((i : Int) + b.length) = ((i + b.length : Nat) : Int) := by rw [w64_mid (by omega) (by omega)]; omega
    have c1 : inD ((i + b.length : Nat) : Int) p = true := inD_at (by omega)
    have c2 : fitMi p a.length b.length O a b (i : Int) = true := by
      unfold fitMi
      rw [stk_eq, decide_eq_true ⟨rfl, rfl, h2, by omega, by omega, by omega, hp2⟩, ha, hb, h1]; rfl
    have e3 : mSk a b O (i : Int) = mS b (a.getD i 0).toNat i b.length 0 (0, O) := by unfold mSk; rw [stk_eq, Int.toNat_natCast]
    have e4 : u32 (((mS b (a.getD i 0).toNat i b.length 0 (0, O)).1 : Nat) : Int) = (((mS b (a.getD i 0).toNat i b.length 0 (0, O)).1 : Nat) : Int) := u32_nat (by omega)
    have hs : ∀ k1 k2, stepMo R [.ints p .u32 O, .sl (.ints a.length .u32 a), .sl (.ints b.length .u32 b), .int .i64 i] k1 k2 = k1 [.ints p .u32 (mT1 a b i O), .sl (.ints a.length .u32 a), .sl (.ints b.length .u32 b), .int .i64 ((i + 1 : Nat) : Int)] := by
      intro k1 k2
      unfold stepMo
      simp only [decide_eq_true (show (i : Int) < (a.length : Int) by omega), cond_true, e1, e2, e3, e4, c1, c2, Int.toNat_natCast, chk]
      rfl
    rw [loopN, hs]
    exact Mo_loop R ha hb hp hp2 kk q (i + 1) _ (by omega) a1 a2 a3
theorem go_Mo (R : Type) (n : Nat) (vs : List AV) (kk : Nat → List AV → Option R) (r : R) (h : leMo.go R n vs kk = some r) : ∃ m, loopN (stepMo R) m vs kk = some r := by
  simp only [leMo] at h
  split at h
  · rename_i p O n a m b
    obtain ⟨hg, hk⟩ := chk_some h
    clear h
    unfold fitMo at hg
    simp only [stk_eq, Bool.and_eq_true, decide_eq_true_eq] at hg
    obtain ⟨⟨⟨g1, g2, g3, g4, g5⟩, ha⟩, hb⟩ := hg
    subst g1 g2 g3 g5
    refine ⟨a.length + 1, (Mo_loop R ha hb rfl g4 kk a.length 0 _ (by omega) (okD_rep _) List.length_replicate (fun j _ => by
      rw [List.getD_eq_getElem?_getD, List.getElem?_replicate]
      split <;> rfl)).trans ?_⟩
    unfold mulK mulD at hk
    rw [stk_eq] at hk
    exact hk
  · cases h
def mayMul (n : Nat) (a : List Int) (m : Nat) (b : List Int) : Bool := mayC2 n a m b && stk (decide (n ≤ 100000 ∧ m ≤ 100000))
def sp_dMul : List AV → Option (Bool × AV)
  | [.sl (.ints n .u32 a), .sl (.ints m .u32 b)] => some (mayMul n a m b, .sl (.ints (dgl (valD a * valD b)) .u32 (dg (valD a * valD b))))
  | _ => none
def mkD (z : Int) : Bool := (z == z) && decide (0 ≤ z) && decide ((4 : Int) * z ≤ 140737488355328) && decide (z < 9223372036854775808)
def dmE (p n m : Nat) (O a b : List Int) : Option AV := chk (fitMo p n m O a b) (chk (mayT p (mulK a b)) (some (.sl (.ints (dgl (valD (mulK a b))) .u32 (dg (valD (mulK a b)))))))
theorem run_dMul (n : Nat) (a : List Int) (m : Nat) (b : List Int) : callA (env Tryz.f94.ntmps orcDM [(0, leMo)]) (bodyC Tryz.f94) Tryz.f94.results.toList (slots 0 [.sl (.ints n .u32 a), .sl (.ints m .u32 b)]) some =
    chk (mkD (w64 ((n : Int) + m))) (dmE (w64 ((n : Int) + m)).toNat n m (List.replicate (w64 ((n : Int) + m)).toNat 0) a b) := by kernel_rfl
theorem ok_dMul : EntOk Tryz.prog 94 (entS true sp_dMul) := by
  refine contractS (orc := orcDM) (lo := [(0, leMo)]) Tryz.func94 (orc_cons ok_trim orc_nil) (by kernel_rfl) (by kernel_rfl) (by kernel_rfl)
    (loops_one (id := 0) (y := .loop (loopOf 0 (bodyC Tryz.f94))) (by kernel_rfl)
      (loopS (le := leMo) (orc := orcDM) (lo' := [(2, leMi)]) (orc_cons ok_trim orc_nil) (by kernel_rfl) rfl
        (loops_one (id := 2) (y := .loop (loopOf 2 (bodyC Tryz.f94))) (by kernel_rfl)
          (loopS (le := leMi) (orc := orcDM) (lo' := []) (orc_cons ok_trim orc_nil) (by kernel_rfl) rfl (loops_none (by kernel_rfl)) stepMi (fun R vs k1 k2 r h => ?_) go_Mi))
        stepMo (fun R vs k1 k2 r h => ?_) go_Mo)) fun args r h => ?_
  · have h0 := h
    unfold stepMi at h
    split at h
    · exact (step_Mi R _ _ _ _ _ _ _ _ _ k1 k2).trans h0
    · cases h
  · have h0 := h
    unfold stepMo at h
    split at h
    · exact (step_Mo R _ _ _ _ _ _ _ k1 k2).trans h0
    · cases h
  · unfold sp_dMul at h
    split at h
    · rename_i n a m b
      simp only [Option.some.injEq, Prod.mk.injEq] at h
      obtain ⟨hg, rfl⟩ := h
      unfold mayMul at hg
      rw [Bool.and_eq_true, stk_eq, decide_eq_true_eq] at hg
      obtain ⟨⟨⟨g1, g2⟩, g3, g4⟩, g5, g6⟩ := mayC2_iff.1 hg.1
      subst g1 g2
      refine ⟨by kernel_rfl, .inl rfl, (run_dMul a.length a b.length b).trans ?_⟩
      obtain ⟨v1, v2, v3⟩ := mulD_ok g3 g4
      have e1 : w64 ((a.length : Int) + b.length) = ((a.length + b.length : Nat) : Int) := by rw [w64_mid (by omega) (by omega)]; omega
      have e2 : mkD ((a.length + b.length : Nat) : Int) = true := by
        unfold mkD
        rw [beq_self_eq_true, decide_eq_true (show (0 : Int) ≤ ((a.length + b.length : Nat) : Int) by omega), decide_eq_true (show (4 : Int) * ((a.length + b.length : Nat) : Int) ≤ 140737488355328 by omega), decide_eq_true (show ((a.length + b.length : Nat) : Int) < 9223372036854775808 by omega)]
        rfl
      have e3 : fitMo (a.length + b.length) a.length b.length (List.replicate (a.length + b.length) 0) a b = true := by
        unfold fitMo
        rw [stk_eq, decide_eq_true ⟨rfl, rfl, rfl, by omega, rfl⟩, g3, g4]; rfl
      have e4 : mulK a b = mulD a b := by unfold mulK; rw [stk_eq]
      have e5 : mayT (a.length + b.length) (mulD a b) = true := by
        unfold mayT
        rw [stk_eq, v1, v2, decide_eq_true rfl, decide_eq_true (show a.length + b.length ≤ 300000 by omega)]; rfl
      rw [e1, e2, Int.toNat_natCast]
      unfold dmE
      rw [e3, e4, e5, v3]
      rfl
    · cases h
end
end Go.Proofs.YtbakldcbaikgpaaGreatDoor
