/- tillerref06: Exact, bad, signed, Mul, Fma. Own work. -/
import Derived.Test.YtbakldcbaikgpaaGreatDoorRef7
import Derived.Test.YtbakldcbaikgpaaGreatDoorDig9
import Derived.Test.YtbakldcbaikgpaaGreatDoorProA
namespace Go.Proofs.YtbakldcbaikgpaaGreatDoor
set_option maxRecDepth 100000
noncomputable section
/-! ### Exact -/
def sp_rExact : List AV → Option (Bool × AV)
  | [.int .u64 a, .int .u64 b] => some (inU a && inU b, .st [.bool (pdMk a b), .int .i64 (pdXk a b), .sl (.ints (dgl (pdSk a b)) .u32 (dg (pdSk a b)))])
  | _ => none
def orcRExact : List (FuncId × Ent) := [(86, entS true sp_pattern), (94, entS true sp_dMul)]
def rxE (m : Bool) (x : Int) (V : Nat) (m2 : Bool) (y : Int) (W : Nat) : Option AV :=
  chk (mayMul (dgl V) (dg V) (dgl W) (dg W)) (some (.st [.bool (!(m == m2)), .int .i64 (w64 (x + y)), .sl (.ints (dgl (valD (dg V) * valD (dg W))) .u32 (dg (valD (dg V) * valD (dg W))))]))
theorem run_rExact (a b : Int) : callA (env Tryz.f84.ntmps orcRExact []) (bodyC Tryz.f84) Tryz.f84.results.toList (slots 0 [.int .u64 a, .int .u64 b]) some =
    chk (inU a) (chk (inU b) (rxE (tM a.toNat) (tX a.toNat) (tS a.toNat) (tM b.toNat) (tX b.toNat) (tS b.toNat))) := by kernel_rfl
theorem dgl_le {v n : Nat} (h : lenN v ≤ 16 * n) : dgl v ≤ n := by
  unfold dgl
  rw [stk_eq, len_dig]
  have := lenN_le.1 h
  rwa [Nat.pow_mul] at this
theorem mayMul_dg {V W : Nat} (hV : lenN V ≤ 1600) (hW : lenN W ≤ 1600) : mayMul (dgl V) (dg V) (dgl W) (dg W) = true := by
  have l1 := dgl_le (n := 100) hV
  have l2 := dgl_le (n := 100) hW
  unfold mayMul
  rw [Bool.and_eq_true, stk_eq, decide_eq_true_eq, mayC2_iff]
  have e : ∀ v, dgl v = (dg v).length ∧ okD (dg v) = true := fun v => by unfold dgl dg; rw [stk_eq, stk_eq]; exact ⟨rfl, ok_dig v⟩
  exact ⟨⟨⟨⟨(e V).1, (e W).1⟩, (e V).2, (e W).2⟩, by omega, by omega⟩, by omega, by omega⟩
theorem ok_rExact : EntOk Tryz.prog 84 (entS true sp_rExact) := by
  refine contractS (orc := orcRExact) (lo := []) Tryz.func84 (orc_cons ok_pattern (orc_cons ok_dMul orc_nil)) (by kernel_rfl) (by kernel_rfl) (by kernel_rfl) (loops_none (by kernel_rfl)) fun args r h => ?_
  unfold sp_rExact at h
  split at h
  · rename_i a b
    simp only [Option.some.injEq, Prod.mk.injEq, Bool.and_eq_true] at h
    obtain ⟨⟨ha, hb⟩, rfl⟩ := h
    refine ⟨by kernel_rfl, .inl rfl, (run_rExact a b).trans ?_⟩
    have x1 := ex_range a.toNat
    have x2 := ex_range b.toNat
    have l1 := len_sig a.toNat
    have l2 := len_sig b.toNat
    unfold rxE pdMk pdXk pdSk pdM pdX pdS tM tX tS
    simp only [stk_eq]
    rw [ha, hb, mayMul_dg (by omega) (by omega), val_dg, val_dg, w64_mid (by omega) (by omega)]
    rfl
  · cases h
/-! ### bad, signed -/
def rbT (x y : Int) : Option AV := bif x == 0 then (bif y == 9218868437227405312 then some (.bool true) else (bif y == 0 then some (.bool (x == 9218868437227405312)) else some (.bool false))) else (bif y == 0 then some (.bool (x == 9218868437227405312)) else some (.bool false))
theorem run_rBad (a b : Int) : callA (env Tryz.f80.ntmps [(81, entS false sp_pAbs)] []) (bodyC Tryz.f80) Tryz.f80.results.toList (slots 0 [.int .u64 a, .int .u64 b]) some =
    chk (inU a) (chk (inU b) (rbT ((absN a.toNat : Nat) : Int) ((absN b.toNat : Nat) : Int))) := by kernel_rfl
theorem rbT_at (x y : Nat) : rbT (x : Int) (y : Int) = some (.bool (decide (x = 0 ∧ y = infN ∨ x = infN ∧ y = 0))) := by
  unfold rbT infN
  by_cases h1 : x = 0
  · subst h1
    by_cases h2 : y = 9218868437227405312
    · rw [beq_iff_eq.2 (show (y : Int) = 9218868437227405312 by omega), decide_eq_true (.inl ⟨rfl, h2⟩)]; rfl
    · rw [beq_eq_false_iff_ne.2 (show (y : Int) ≠ 9218868437227405312 by omega), decide_eq_false (show ¬ (0 = 0 ∧ y = 9218868437227405312 ∨ 0 = 9218868437227405312 ∧ y = 0) by omega)]
      by_cases h3 : y = 0
      · rw [beq_iff_eq.2 (show (y : Int) = 0 by omega)]; rfl
      · rw [beq_eq_false_iff_ne.2 (show (y : Int) ≠ 0 by omega)]; rfl
  · rw [beq_eq_false_iff_ne.2 (show (x : Int) ≠ 0 by omega)]
    by_cases h3 : y = 0
    · rw [beq_iff_eq.2 (show (y : Int) = 0 by omega)]
      by_cases h2 : x = 9218868437227405312
      · rw [beq_iff_eq.2 (show (x : Int) = 9218868437227405312 by omega), decide_eq_true (.inr ⟨h2, h3⟩)]; rfl
      · rw [beq_eq_false_iff_ne.2 (show (x : Int) ≠ 9218868437227405312 by omega), decide_eq_false (by omega)]; rfl
    · rw [beq_eq_false_iff_ne.2 (show (y : Int) ≠ 0 by omega), decide_eq_false (by omega)]; rfl
theorem ok_rBad : EntOk Tryz.prog 80 (entS false sp_pNo) := by
  refine contractS (orc := [(81, entS false sp_pAbs)]) (lo := []) Tryz.func80 (orc_cons ok_rAbs orc_nil) (by kernel_rfl) (by kernel_rfl) (by kernel_rfl) (loops_none (by kernel_rfl)) fun args r h => ?_
  unfold sp_pNo at h
  split at h
  · rename_i a b
    simp only [Option.some.injEq, Prod.mk.injEq, Bool.and_eq_true] at h
    obtain ⟨⟨ha, hb⟩, rfl⟩ := h
    refine ⟨by kernel_rfl, .inr rfl, (run_rBad a b).trans ?_⟩
    rw [ha, hb, rbT_at]
    unfold noX noXN
    rw [stk_eq]
    rfl
  · cases h
def ixK (a b : Int) : Int := ((stk (infX a.toNat b.toNat) : Nat) : Int)
def sp_rSg : List AV → Option (Bool × AV)
  | [.int .u64 9218868437227405312, .int .u64 a, .int .u64 b] => some (inU a && inU b, .int .u64 (ixK a b))
  | _ => none
theorem run_rSg (a b : Int) : callA (env Tryz.f82.ntmps [] []) (bodyC Tryz.f82) Tryz.f82.results.toList (slots 0 [.int .u64 9218868437227405312, .int .u64 a, .int .u64 b]) some =
    bif !(decide (a ≥ 9223372036854775808) == decide (b ≥ 9223372036854775808)) then some (.int .u64 (u64 (9218868437227405312 + 9223372036854775808))) else some (.int .u64 9218868437227405312) := by kernel_rfl
theorem ok_rSg : EntOk Tryz.prog 82 (entS false sp_rSg) := by
  refine contractS (orc := []) (lo := []) Tryz.func82 orc_nil (by kernel_rfl) (by kernel_rfl) (by kernel_rfl) (loops_none (by kernel_rfl)) fun args r h => ?_
  unfold sp_rSg at h
  split at h
  · rename_i a b
    simp only [Option.some.injEq, Prod.mk.injEq, Bool.and_eq_true] at h
    obtain ⟨⟨ha, hb⟩, rfl⟩ := h
    obtain ⟨a, rfl, ha'⟩ := nat_of ha
    obtain ⟨b, rfl, hb'⟩ := nat_of hb
    refine ⟨by kernel_rfl, .inr rfl, (run_rSg a b).trans ?_⟩
    unfold ixK infX sgX sgB
    rw [stk_eq, Int.toNat_natCast, Int.toNat_natCast, show decide ((a : Int) ≥ 9223372036854775808) = decide (9223372036854775808 ≤ a) from decide_eq_decide.2 (by omega), show decide ((b : Int) ≥ 9223372036854775808) = decide (9223372036854775808 ≤ b) from decide_eq_decide.2 (by omega)]
    by_cases h : decide (9223372036854775808 ≤ a) = decide (9223372036854775808 ≤ b)
    · rw [if_pos h, h, beq_self_eq_true]; rfl
    · rw [if_neg h, beq_eq_false_iff_ne.2 h]; rfl
  · cases h
/-! ### Mul -/
def orcRMul : List (FuncId × Ent) := [(78, entS false sp_isNaN), (79, entS false sp_rNone), (81, entS false sp_pAbs), (80, entS false sp_pNo), (82, entS false sp_rSg), (84, entS true sp_rExact), (83, entS true sp_round4)]
def tup7 (p f : Int) : Option AV := some (.tup [.int .u64 p, .int .i64 f])
theorem raZ_at {M : Bool} {L : Int} {S : Nat} (k : Int) (h1 : lenN S ≤ 9000) (h2 : -290000 ≤ L) (h3 : L ≤ 290000) : raZ M L S k = tup7 ((rndP M S L k : Nat) : Int) ((rndF M S L k : Nat) : Int) := by
  unfold raZ zP zF
  rw [stk_eq, stk_eq, val_dg, mayZ_iff.2 ⟨mayD_dg (by omega), by rw [val_dg]; exact h1, h2, h3⟩]
  rfl
/-! ### Fma -/
theorem raS_any (a : Bool) {x : Int} {V : Nat} (b : Bool) {y : Int} {W : Nat} (k : Int) (hV : lenN V ≤ 120) (hW : lenN W ≤ 120) (hx : -2200 ≤ x ∧ x ≤ 2000) (hy : -2200 ≤ y ∧ y ≤ 2000) :
    raS a x V b y W k = tup7 ((rndP (sumM a b (exA V x y) (exA W y x) k) (sumS a b (exA V x y) (exA W y x)) (min x y) k : Nat) : Int) ((rndF (sumM a b (exA V x y) (exA W y x) k) (sumS a b (exA V x y) (exA W y x)) (min x y) k : Nat) : Int) := by
  obtain ⟨hm, hk⟩ := sum_any a b x V y W k
  obtain ⟨h1, h2⟩ := hk k
  obtain ⟨l1, l2, l3, l4⟩ := suLow_ge x V y W
  unfold raS s5M s5S s5A s5B s5L
  rw [stk_eq, stk_eq, stk_eq, val_dg, val_dg]
  have g1 : mayS5 x (dgl V) (dg V) y (dgl W) (dg W) = true := mayS5_iff.2 ⟨⟨mayD_dg (by omega), mayD_dg (by omega)⟩, by rw [val_dg]; omega, by rw [val_dg]; omega, by omega, by omega, by omega, by omega, by omega, by omega⟩
  generalize suLow x V y W = low at *
  have len : ∀ {V : Nat} {x : Int}, lenN V ≤ 120 → x - low ≤ 4200 → lenN (suA V x low) ≤ 4400 := by
    intro V x h3 h4
    unfold suA
    by_cases h0 : V = 0
    · subst h0; rw [Nat.zero_mul]; exact Nat.zero_le _
    · rw [lenN_shl (show 0 < V by omega)]; omega
  have hA := len hV (x := x) (by omega)
  have hB := len hW (x := y) (by omega)
  have hS : lenN (sumS a b (suA V x low) (suA W y low)) ≤ 4500 := by
    have := lenN_sum a b hA hB
    omega
  rw [g1, raZ_at k (by omega) (by omega) (by omega)]
  unfold rndP
  rw [h1, h2, hm]
  rfl
def sp_rFma : List AV → Option (Bool × AV)
  | [.int .u64 a, .int .u64 b, .int .u64 c, .int .i64 k] => some (inU a && inU b && inU c, .tup [.int .u64 ((fmP a.toNat b.toNat c.toNat k : Nat) : Int), .int .i64 ((fmF a.toNat b.toNat c.toNat k : Nat) : Int)])
  | _ => none
def orcRFma : List (FuncId × Ent) := (85, entS true sp_sum5) :: (86, entS true sp_pattern) :: orcRMul
def mxI (x y : Int) : Int := if y > x then y else x
def rf3 (a b c : Int) : Option AV := chk (inU a && inU b) (chk (inU c && inU c) (tup7 9221120237041090560 (mxI ((noG a.toNat b.toNat : Nat) : Int) ((noG c.toNat c.toNat : Nat) : Int))))
def rfI2 (c p : Int) : Option AV := chk (inU c) (bif ((absN c.toNat : Nat) : Int) == 9218868437227405312 then (bif c != p then tup7 9221120237041090560 1 else tup7 p 0) else tup7 p 0)
def rfI (a b c : Int) : Option AV := chk (inU a && inU b) (rfI2 c (ixK a b))
theorem run_rFma (a b c k : Int) : callA (env Tryz.f50.ntmps orcRFma []) (bodyC Tryz.f50) Tryz.f50.results.toList (slots 0 [.int .u64 a, .int .u64 b, .int .u64 c, .int .i64 k]) some =
    chk (inU a && inU b) (bif noX a b then tup7 9221120237041090560 1 else chk (inU a) (bif nanB a.toNat then rf3 a b c else chk (inU b) (bif nanB b.toNat then rf3 a b c else chk (inU c) (bif nanB c.toNat then rf3 a b c else
      chk (inU a) (bif ((absN a.toNat : Nat) : Int) == 9218868437227405312 then rfI a b c else chk (inU b) (bif ((absN b.toNat : Nat) : Int) == 9218868437227405312 then rfI a b c else chk (inU c) (bif ((absN c.toNat : Nat) : Int) == 9218868437227405312 then tup7 c 0 else
        chk (inU a && inU b) (chk (inU c) (raS (pdMk a b) (pdXk a b) (pdSk a b) (tM c.toNat) (tX c.toNat) (tS c.toNat) k))))))))) := by kernel_rfl
end
end Go.Proofs.YtbakldcbaikgpaaGreatDoor
