/- tillerref02: trim, at, Cmp. Own work. -/
import Derived.Test.YtbakldcbaikgpaaGreatDoorDig1
namespace Go.Proofs.YtbakldcbaikgpaaGreatDoor
set_option maxRecDepth 100000
noncomputable section
/-! ### trim -/
def tI (l : List Int) : Int := stk ((tlen l : Nat) : Int)
def goTrim (n : Nat) (l : List Int) (i : Int) : Bool := stk (decide (n = l.length) && decide (i = n) && decide (n ≤ 300000))
def stepTrim (R : Type) (vs : List AV) (k1 : List AV → Option R) (k2 : Nat → List AV → Option R) : Option R :=
  match vs with
  | [.sl (.ints n .u32 l), .int .i64 i] =>
    bif decide (i > 0) then chk (decide (0 ≤ w64 (i - 1)) && decide (w64 (i - 1) < (n : Int)) && true) (bif l.getD (w64 (i - 1)).toNat 0 == 0 then k1 [.sl (.ints n .u32 l), .int .i64 (w64 (i - 1))] else k2 0 [.sl (.ints n .u32 l), .int .i64 i])
    else k2 0 [.sl (.ints n .u32 l), .int .i64 i]
  | _ => none
def leTrim : LEnt :=
  { inn := { fuel := none, keep := [0, 3], refs := [] }
    out := { fuel := none, keep := [0, 3], refs := [] }
    ret := { fuel := none, keep := [], refs := [] }
    go := fun _ _ vs kk => match vs with
      | [.sl (.ints n .u32 l), .int .i64 i] => chk (goTrim n l i) (kk 0 [.sl (.ints n .u32 l), .int .i64 (tI l)])
      | _ => none }
theorem step_trim (R : Type) (n : Nat) (l : List Int) (i : Int) (k1 : List AV → Option R) (k2 : Nat → List AV → Option R) :
    runA (env Tryz.f132.ntmps [] []) (loopOf 0 (bodyC Tryz.f132)) 0 (stateOf leTrim.inn [.sl (.ints n .u32 l), .int .i64 i]) (bodyK leTrim 0 k1 k2) =
    stepTrim R [.sl (.ints n .u32 l), .int .i64 i] k1 k2 := by kernel_rfl
theorem take_snoc (l : List Int) {m : Nat} (h : m < l.length) : l.take (m + 1) = l.take m ++ [l.getD m 0] := by
  rw [List.take_add_one, List.getD, List.getElem?_eq_getElem h]
  rfl
theorem trim_loop (R : Type) (l : List Int) (hl : l.length ≤ 300000) (kk : Nat → List AV → Option R) : ∀ (m : Nat), m ≤ l.length → tlen l = tlen (l.take m) →
    ∃ f, loopN (stepTrim R) f [.sl (.ints l.length .u32 l), .int .i64 (m : Int)] kk = kk 0 [.sl (.ints l.length .u32 l), .int .i64 ((tlen l : Nat) : Int)]
  | 0, _, ht => by
    refine ⟨1, ?_⟩
    rw [ht, List.take_zero, loopN]
    rfl
  | m + 1, hm, ht => by
    have hs := take_snoc l (m := m) (by omega)
    have e1 : decide (((m + 1 : Nat) : Int) > 0) = true := decide_eq_true (by omega)
    have e2 : w64 (((m + 1 : Nat) : Int) - 1) = (m : Int) := by rw [w64_mid (by omega) (by omega)]; omega
    have e3 : (decide ((0 : Int) ≤ (m : Int)) && decide ((m : Int) < (l.length : Int)) && true) = true := by rw [decide_eq_true (by omega), decide_eq_true (by omega)]; rfl
    by_cases hd : l.getD m 0 = 0
    · rw [hs, hd, tlen_snoc0] at ht
      obtain ⟨f, hf⟩ := trim_loop R l hl kk m (by omega) ht
      refine ⟨f + 1, ?_⟩
      rw [loopN]
      simp only [stepTrim]
      rw [e1, e2, e3, Int.toNat_natCast, hd]
      exact hf
    · rw [hs, tlen_snoc hd, List.length_take, Nat.min_eq_left (by omega)] at ht
      refine ⟨1, ?_⟩
      rw [loopN]
      simp only [stepTrim]
      rw [e1, e2, e3, Int.toNat_natCast, beq_eq_false_iff_ne.2 hd, ht]
      rfl
theorem go_trim (R : Type) (n : Nat) (vs : List AV) (kk : Nat → List AV → Option R) (r : R) (h : leTrim.go R n vs kk = some r) : ∃ m, loopN (stepTrim R) m vs kk = some r := by
  simp only [leTrim] at h
  split at h
  · rename_i n l i
    obtain ⟨hg, hk⟩ := chk_some h
    unfold goTrim at hg
    rw [stk_eq] at hg
    simp only [Bool.and_eq_true, decide_eq_true_eq] at hg
    obtain ⟨⟨g1, g2⟩, g3⟩ := hg
    subst g1 g2
    obtain ⟨f, hf⟩ := trim_loop R l g3 kk l.length (Nat.le_refl _) (by rw [List.take_length])
    refine ⟨f, hf.trans ?_⟩
    unfold tI at hk
    rw [stk_eq] at hk
    exact hk
  · cases h
def mayT (n : Nat) (l : List Int) : Bool := stk (decide (n = l.length) && okD l && decide (n ≤ 300000))
def sp_trim : List AV → Option (Bool × AV)
  | [.sl (.ints n .u32 l)] => some (mayT n l, .sl (.ints (dgl (valD l)) .u32 (dg (valD l))))
  | _ => none
theorem run_trim (n : Nat) (l : List Int) : callA (env Tryz.f132.ntmps [] [(0, leTrim)]) (bodyC Tryz.f132) Tryz.f132.results.toList (slots 0 [.sl (.ints n .u32 l)]) some =
    chk (goTrim n l (n : Int)) (chk ((decide (tI l ≤ tI l) && decide (tI l ≤ (n : Int))) && (decide (0 ≤ tI l) && decide (tI l ≤ (n : Int)))) (some (.sl (.ints ((tI l).toNat - (0 : Int).toNat) .u32 ((l.drop (0 : Int).toNat).take ((tI l).toNat - (0 : Int).toNat)))))) := by kernel_rfl
theorem ok_trim : EntOk Tryz.prog 132 (entS true sp_trim) := by
  refine contractS (orc := []) (lo := [(0, leTrim)]) Tryz.func132 orc_nil (by kernel_rfl) (by kernel_rfl) (by kernel_rfl)
    (loops_one (id := 0) (y := .loop (loopOf 0 (bodyC Tryz.f132))) (by kernel_rfl)
      (loopS (le := leTrim) (orc := []) (lo' := []) orc_nil (by kernel_rfl) rfl (loops_none (by kernel_rfl)) stepTrim (fun R vs k1 k2 r h => ?_) go_trim)) fun args r h => ?_
  · have h0 := h
    unfold stepTrim at h
    split at h
    · exact (step_trim R _ _ _ k1 k2).trans h0
    · cases h
  · unfold sp_trim at h
    split at h
    · rename_i n l
      simp only [Option.some.injEq, Prod.mk.injEq] at h
      obtain ⟨hg, rfl⟩ := h
      unfold mayT at hg
      rw [stk_eq] at hg
      simp only [Bool.and_eq_true, decide_eq_true_eq] at hg
      obtain ⟨⟨g1, g2⟩, g3⟩ := hg
      subst g1
      refine ⟨by kernel_rfl, .inl rfl, (run_trim l.length l).trans ?_⟩
      obtain ⟨t1, t2⟩ := take_tlen l g2
      have hle := tlen_le l
      have e1 : goTrim l.length l (l.length : Int) = true := by
        unfold goTrim
        rw [stk_eq, decide_eq_true rfl, decide_eq_true rfl, decide_eq_true g3]
        rfl
      unfold tI dg dgl
      rw [e1, stk_eq, stk_eq, stk_eq, decide_eq_true (show ((tlen l : Nat) : Int) ≤ (tlen l : Nat) by omega), decide_eq_true (show ((tlen l : Nat) : Int) ≤ (l.length : Int) by omega), decide_eq_true (show (0 : Int) ≤ ((tlen l : Nat) : Int) by omega)]
      rw [Int.toNat_natCast, show (0 : Int).toNat = 0 from rfl, Nat.sub_zero, List.drop_zero, t1, t2]
      rfl
    · cases h
/-! ### at -/
def atI (l : List Int) (i : Int) : Int := stk (if 0 ≤ i then l.getD i.toNat 0 else 0)
def mayL (n : Nat) (l : List Int) : Bool := stk (decide (n = l.length))
theorem mayL_self (l : List Int) : mayL l.length l = true := by unfold mayL; rw [stk_eq, decide_eq_true rfl]
def sp_at : List AV → Option (Bool × AV)
  | [.sl (.ints n .u32 l), .int .i64 i] => some (mayL n l, .int .u32 (atI l i))
  | _ => none
theorem run_at (n : Nat) (l : List Int) (i : Int) : callA (env Tryz.f133.ntmps [] []) (bodyC Tryz.f133) Tryz.f133.results.toList (slots 0 [.sl (.ints n .u32 l), .int .i64 i]) some =
    bif decide (i ≥ 0) then bif decide (i < (n : Int)) then chk (decide (0 ≤ i) && decide (i < (n : Int)) && true) (some (.int .u32 (l.getD i.toNat 0))) else some (.int .u32 0) else some (.int .u32 0) := by kernel_rfl
theorem ok_at : EntOk Tryz.prog 133 (entS false sp_at) := by
  refine contractS (orc := []) (lo := []) Tryz.func133 orc_nil (by kernel_rfl) (by kernel_rfl) (by kernel_rfl) (loops_none (by kernel_rfl)) fun args r h => ?_
  unfold sp_at at h
  split at h
  · rename_i n l i
    simp only [Option.some.injEq, Prod.mk.injEq] at h
    obtain ⟨hg, rfl⟩ := h
    unfold mayL at hg
    rw [stk_eq, decide_eq_true_iff] at hg
    subst hg
    refine ⟨by kernel_rfl, .inr rfl, (run_at l.length l i).trans ?_⟩
    unfold atI
    rw [stk_eq]
    by_cases h0 : 0 ≤ i
    · have hge : decide (i ≥ 0) = true := decide_eq_true h0
      rw [hge, if_pos h0]
      by_cases h1 : i < (l.length : Int)
      · rw [decide_eq_true h1]; rfl
      · have : l.getD i.toNat 0 = 0 := by
          rw [List.getD, List.getElem?_eq_none (by omega)]
          rfl
        rw [decide_eq_false h1, this]
        rfl
    · rw [decide_eq_false (show ¬ i ≥ 0 from h0), if_neg h0]
      rfl
  · cases h
theorem at_val {l : List Int} (h : okD l = true) (i : Nat) : atI l (i : Int) = ((valD l / 65536 ^ i % 65536 : Nat) : Int) := by
  unfold atI
  rw [stk_eq, if_pos (by omega), Int.toNat_natCast, get_val l i h]
/-! ### Cmp -/
def orcAt : List (FuncId × Ent) := [(133, entS false sp_at)]
theorem orcAt_ok {nt : Nat} {lo : List (Nat × LEnt)} : OrcOk Tryz.prog (env nt orcAt lo) := orc_cons ok_at orc_nil
def cmpD (a b : List Int) : Int := stk (cmpN (valD a) (valD b))
def sameD (a b : List Int) : Bool := stk (decide (valD a = valD b))
def goCmp (n : Nat) (a : List Int) (m : Nat) (b : List Int) (i : Int) : Bool := stk (decide (n = a.length) && decide (m = b.length) && okD a && okD b && decide (i = max (n : Int) (m : Int) - 1) && decide (n ≤ 200000) && decide (m ≤ 200000))
def stepCmp (R : Type) (vs : List AV) (k1 : List AV → Option R) (k2 : Nat → List AV → Option R) : Option R :=
  match vs with
  | [.sl (.ints n .u32 a), .sl (.ints m .u32 b), .int .i64 i] =>
    bif decide (i ≥ 0) then chk (mayL n a) (chk (mayL m b) (bif decide (atI a i < atI b i) then k2 1 [.int .i64 (-1)] else chk (mayL n a) (chk (mayL m b) (bif decide (atI a i > atI b i) then k2 1 [.int .i64 1] else k1 [.sl (.ints n .u32 a), .sl (.ints m .u32 b), .int .i64 (w64 (i - 1))]))))
    else k2 0 []
  | _ => none
def leCmp : LEnt :=
  { inn := { fuel := none, keep := [0, 1, 5], refs := [] }
    out := { fuel := none, keep := [], refs := [] }
    ret := { fuel := none, keep := [4], refs := [] }
    go := fun _ _ vs kk => match vs with
      | [.sl (.ints n .u32 a), .sl (.ints m .u32 b), .int .i64 i] => chk (goCmp n a m b i) (bif sameD a b then kk 0 [] else kk 1 [.int .i64 (cmpD a b)])
      | _ => none }
theorem step_cmp (R : Type) (n : Nat) (a : List Int) (m : Nat) (b : List Int) (i : Int) (k1 : List AV → Option R) (k2 : Nat → List AV → Option R) :
    runA (env Tryz.f126.ntmps orcAt []) (loopOf 0 (bodyC Tryz.f126)) 0 (stateOf leCmp.inn [.sl (.ints n .u32 a), .sl (.ints m .u32 b), .int .i64 i]) (bodyK leCmp 0 k1 k2) =
    stepCmp R [.sl (.ints n .u32 a), .sl (.ints m .u32 b), .int .i64 i] k1 k2 := by kernel_rfl
theorem top_digit (v i : Nat) : v / 65536 ^ i = v / 65536 ^ (i + 1) * 65536 + v / 65536 ^ i % 65536 := by
  rw [Nat.pow_succ, ← Nat.div_div_eq_div_mul]
  omega
theorem cmp_loop (R : Type) {a b : List Int} (ha : okD a = true) (hb : okD b = true) (kk : Nat → List AV → Option R) : ∀ (i : Nat), i ≤ 300000 → valD a / 65536 ^ i = valD b / 65536 ^ i →
    ∃ f, loopN (stepCmp R) f [.sl (.ints a.length .u32 a), .sl (.ints b.length .u32 b), .int .i64 ((i : Int) - 1)] kk = (bif decide (valD a = valD b) then kk 0 [] else kk 1 [.int .i64 (cmpN (valD a) (valD b))])
  | 0, _, he => by
    refine ⟨1, ?_⟩
    rw [Nat.pow_zero, Nat.div_one, Nat.div_one] at he
    rw [loopN, decide_eq_true he]
    rfl
  | i + 1, hi, he => by
    have ta := top_digit (valD a) i
    have tb := top_digit (valD b) i
    have e0 : (((i + 1 : Nat) : Int) - 1) = (i : Int) := by omega
    have e1 : decide ((i : Int) ≥ 0) = true := decide_eq_true (by omega)
    have e2 : w64 ((i : Int) - 1) = (i : Int) - 1 := w64_mid (by omega) (by omega)
    have va := at_val ha i
    have vb := at_val hb i
    rw [he] at ta
    have key : ∀ x y : Nat, x / 65536 ^ i < y / 65536 ^ i → x < y := by
      intro x y h
      rcases Nat.lt_or_ge x y with h' | h'
      · exact h'
      · have := Nat.div_le_div_right (c := 65536 ^ i) h'
        omega
    generalize hda : valD a / 65536 ^ i % 65536 = da at *
    generalize hdb : valD b / 65536 ^ i % 65536 = db at *
    by_cases h1 : da < db
    · have hlt : valD a < valD b := key _ _ (by omega)
      refine ⟨1, ?_⟩
      rw [e0, loopN]
      simp only [stepCmp]
      rw [e1, mayL_self, mayL_self, va, vb, decide_eq_true (show (da : Int) < (db : Int) by omega), decide_eq_false (show ¬ valD a = valD b by omega)]
      unfold cmpN
      rw [if_pos hlt]
      rfl
    · by_cases h2 : db < da
      · have hlt : valD b < valD a := key _ _ (by omega)
        refine ⟨1, ?_⟩
        rw [e0, loopN]
        simp only [stepCmp]
        rw [e1, mayL_self, mayL_self, va, vb, decide_eq_false (show ¬ (da : Int) < (db : Int) by omega), decide_eq_true (show (da : Int) > (db : Int) by omega), decide_eq_false (show ¬ valD a = valD b by omega)]
        unfold cmpN
        rw [if_neg (show ¬ valD a < valD b by omega), if_pos hlt]
        rfl
      · obtain ⟨f, hf⟩ := cmp_loop R ha hb kk i (by omega) (by omega)
        refine ⟨f + 1, ?_⟩
        rw [e0, loopN]
        simp only [stepCmp]
        rw [e1, mayL_self, mayL_self, va, vb, decide_eq_false (show ¬ (da : Int) < (db : Int) by omega), decide_eq_false (show ¬ (da : Int) > (db : Int) by omega), e2]
        exact hf
theorem go_cmp (R : Type) (n : Nat) (vs : List AV) (kk : Nat → List AV → Option R) (r : R) (h : leCmp.go R n vs kk = some r) : ∃ m, loopN (stepCmp R) m vs kk = some r := by
  simp only [leCmp] at h
  split at h
  · rename_i n a m b i
    obtain ⟨hg, hk⟩ := chk_some h
    unfold goCmp at hg
    rw [stk_eq] at hg
    simp only [Bool.and_eq_true, decide_eq_true_eq] at hg
    obtain ⟨⟨⟨⟨⟨⟨g1, g2⟩, g3⟩, g4⟩, g5⟩, g6⟩, g7⟩ := hg
    subst g1 g2
    have la := val_lt a g3
    have lb := val_lt b g4
    have ha : valD a / 65536 ^ (max a.length b.length) = 0 := Nat.div_eq_of_lt (Nat.lt_of_lt_of_le la (Nat.pow_le_pow_right (by decide) (Nat.le_max_left _ _)))
    have hb : valD b / 65536 ^ (max a.length b.length) = 0 := Nat.div_eq_of_lt (Nat.lt_of_lt_of_le lb (Nat.pow_le_pow_right (by decide) (Nat.le_max_right _ _)))
    obtain ⟨f, hf⟩ := cmp_loop R g3 g4 kk (max a.length b.length) (by omega) (by rw [ha, hb])
    have hi : i = ((max a.length b.length : Nat) : Int) - 1 := by omega
    refine ⟨f, ?_⟩
    rw [hi, hf]
    unfold sameD cmpD at hk
    rw [stk_eq, stk_eq] at hk
    exact hk
  · cases h
def mayC2 (n : Nat) (a : List Int) (m : Nat) (b : List Int) : Bool := stk (decide (n = a.length) && decide (m = b.length) && okD a && okD b && decide (n ≤ 200000) && decide (m ≤ 200000))
def sp_dCmp : List AV → Option (Bool × AV)
  | [.sl (.ints n .u32 a), .sl (.ints m .u32 b)] => some (mayC2 n a m b, .int .i64 (cmpD a b))
  | _ => none
theorem run_dCmp (n : Nat) (a : List Int) (m : Nat) (b : List Int) : callA (env Tryz.f126.ntmps orcAt [(0, leCmp)]) (bodyC Tryz.f126) Tryz.f126.results.toList (slots 0 [.sl (.ints n .u32 a), .sl (.ints m .u32 b)]) some =
    chk (goCmp n a m b (w64 ((if (m : Int) > (n : Int) then (m : Int) else (n : Int)) - 1))) (bif sameD a b then some (.int .i64 0) else some (.int .i64 (cmpD a b))) := by kernel_rfl
theorem ok_dCmp : EntOk Tryz.prog 126 (entS false sp_dCmp) := by
  refine contractS (orc := orcAt) (lo := [(0, leCmp)]) Tryz.func126 orcAt_ok (by kernel_rfl) (by kernel_rfl) (by kernel_rfl)
    (loops_one (id := 0) (y := .loop (loopOf 0 (bodyC Tryz.f126))) (by kernel_rfl)
      (loopS (le := leCmp) (orc := orcAt) (lo' := []) orcAt_ok (by kernel_rfl) rfl (loops_none (by kernel_rfl)) stepCmp (fun R vs k1 k2 r h => ?_) go_cmp)) fun args r h => ?_
  · have h0 := h
    unfold stepCmp at h
    split at h
    · exact (step_cmp R _ _ _ _ _ k1 k2).trans h0
    · cases h
  · unfold sp_dCmp at h
    split at h
    · rename_i n a m b
      simp only [Option.some.injEq, Prod.mk.injEq] at h
      obtain ⟨hg, rfl⟩ := h
      unfold mayC2 at hg
      rw [stk_eq] at hg
      simp only [Bool.and_eq_true, decide_eq_true_eq] at hg
      obtain ⟨⟨⟨⟨⟨g1, g2⟩, g3⟩, g4⟩, g5⟩, g6⟩ := hg
      subst g1 g2
      refine ⟨by kernel_rfl, .inr rfl, (run_dCmp a.length a b.length b).trans ?_⟩
      have e1 : w64 ((if (b.length : Int) > (a.length : Int) then (b.length : Int) else (a.length : Int)) - 1) = max (a.length : Int) (b.length : Int) - 1 := by
        rw [w64_mid (by split <;> omega) (by split <;> omega)]
        split <;> omega
      have e2 : goCmp a.length a b.length b (max (a.length : Int) (b.length : Int) - 1) = true := by
        unfold goCmp
        rw [stk_eq, g3, g4, decide_eq_true rfl, decide_eq_true rfl, decide_eq_true rfl, decide_eq_true g5, decide_eq_true g6]
        rfl
      rw [e1, e2]
      unfold sameD cmpD
      rw [stk_eq, stk_eq]
      by_cases h : valD a = valD b
      · have : cmpN (valD a) (valD b) = 0 := by unfold cmpN; rw [if_neg (show ¬ valD a < valD b by omega), if_neg (show ¬ valD a > valD b by omega)]
        rw [decide_eq_true h, this]; rfl
      · rw [decide_eq_false h]; rfl
    · cases h
end
end Go.Proofs.YtbakldcbaikgpaaGreatDoor
