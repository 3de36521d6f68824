/- tillerref05: Add, Sub; SumsAdds, SumsSubs. Own work. -/
import Derived.Test.YtbakldcbaikgpaaGreatDoorRef6
namespace Go.Proofs.YtbakldcbaikgpaaGreatDoor
set_option maxRecDepth 100000
noncomputable section
/-! ### A sum, whatever the powers are -/
theorem sumM_mul (a b : Bool) (A B n : Nat) (k : Int) : sumM a b (A * 2 ^ n) (B * 2 ^ n) k = sumM a b A B k := by
  have hp := Nat.two_pow_pos n
  have e1 : (A * 2 ^ n = B * 2 ^ n) ↔ A = B := Nat.mul_right_cancel_iff hp
  have e2 : (B * 2 ^ n < A * 2 ^ n) ↔ B < A := Nat.mul_lt_mul_right hp
  unfold sumM
  simp only [e1, e2]
theorem sumS_mul (a b : Bool) (A B n : Nat) : sumS a b (A * 2 ^ n) (B * 2 ^ n) = sumS a b A B * 2 ^ n := by
  have hp := Nat.two_pow_pos n
  have e2 : (B * 2 ^ n ≤ A * 2 ^ n) ↔ B ≤ A := Nat.mul_le_mul_right_iff hp
  unfold sumS
  by_cases h : a = b
  · rw [if_pos h, if_pos h, Nat.add_mul]
  · rw [if_neg h, if_neg h]
    by_cases h2 : B ≤ A
    · rw [if_pos h2, if_pos (e2.2 h2), Nat.sub_mul]
    · rw [if_neg h2, if_neg (fun h3 => h2 (e2.1 h3)), Nat.sub_mul]
/-- The least power that counts is at least the least one. -/
theorem suLow_ge (e : Int) (V : Nat) (e2 : Int) (W : Nat) : min e e2 ≤ suLow e V e2 W ∧ (V ≠ 0 → suLow e V e2 W ≤ e) ∧ (W ≠ 0 → suLow e V e2 W ≤ e2) ∧ suLow e V e2 W ≤ max e e2 := by
  unfold suLow
  by_cases h1 : W = 0
  · rw [if_pos h1]; omega
  · rw [if_neg h1]
    by_cases h2 : V = 0
    · rw [if_pos h2]; omega
    · rw [if_neg h2]; omega
theorem suA_mul {V : Nat} {e e2 low : Int} (h1 : min e e2 ≤ low) (h2 : V ≠ 0 → low ≤ e) : suA V e low * 2 ^ (low - min e e2).toNat = exA V e e2 := by
  unfold suA exA
  by_cases h0 : V = 0
  · subst h0; rw [Nat.zero_mul, Nat.zero_mul, Nat.zero_mul]
  · have := h2 h0
    rw [Nat.mul_assoc, ← Nat.pow_add, show (e - low).toNat + (low - min e e2).toNat = (e - min e e2).toNat by omega]
theorem sum_any (a b : Bool) (e : Int) (V : Nat) (e2 : Int) (W : Nat) (k : Int) :
    alike (sumM a b (suA V e (suLow e V e2 W)) (suA W e2 (suLow e V e2 W)) k) (sumS a b (suA V e (suLow e V e2 W)) (suA W e2 (suLow e V e2 W))) (suLow e V e2 W)
      (sumM a b (exA V e e2) (exA W e2 e) k) (sumS a b (exA V e e2) (exA W e2 e)) (min e e2) := by
  obtain ⟨h1, h2, h3, -⟩ := suLow_ge e V e2 W
  generalize suLow e V e2 W = low at *
  have e1 := suA_mul (V := V) h1 h2
  have e3 := suA_mul (V := W) (e := e2) (e2 := e) (low := low) (by omega) h3
  have hc : min e2 e = min e e2 := by omega
  rw [hc] at e3
  rw [← e1, ← e3, sumM_mul, sumS_mul]
  have := alike_shift (sumM a b (suA V e low) (suA W e2 low) k) (sumS a b (suA V e low) (suA W e2 low)) (low - min e e2).toNat low
  rw [show low - ((low - min e e2).toNat : Nat) = min e e2 by omega] at this
  exact this
/-! ### Add -/
def orcRAdd : List (FuncId × Ent) := [(78, entS false sp_isNaN), (79, entS false sp_rNone), (81, entS false sp_pAbs), (86, entS true sp_pattern), (85, entS true sp_sum5), (83, entS true sp_round4)]
def raN (p q : Int) : Option AV := chk (inU p && inU q) (some (.tup [.int .u64 9221120237041090560, .int .i64 ((noG p.toNat q.toNat : Nat) : Int)]))
def raI (p q : Int) : Option AV := chk (inU p) (bif ((absN p.toNat : Nat) : Int) == 9218868437227405312 then some (.tup [.int .u64 p, .int .i64 0]) else some (.tup [.int .u64 q, .int .i64 0]))
def raE (p q : Int) : Option AV := chk (inU p) (chk (inU q) (bif ((absN p.toNat : Nat) : Int) == ((absN q.toNat : Nat) : Int) then bif p != q then some (.tup [.int .u64 9221120237041090560, .int .i64 1]) else raI p q else raI p q))
def raZ (M : Bool) (L : Int) (S : Nat) (k : Int) : Option AV := chk (mayZ L (dgl S) (dg S)) (some (.tup [.int .u64 ((zP M L (dg S) k : Nat) : Int), .int .i64 ((zF M L (dg S) k : Nat) : Int)]))
def raS (a : Bool) (x : Int) (V : Nat) (b : Bool) (y : Int) (W : Nat) (k : Int) : Option AV :=
  chk (mayS5 x (dgl V) (dg V) y (dgl W) (dg W)) (raZ (s5M a x (dg V) b y (dg W) k) (s5L x (dg V) y (dg W)) (s5S a x (dg V) b y (dg W)) k)
theorem run_rAdd (p q k : Int) : callA (env Tryz.f52.ntmps orcRAdd []) (bodyC Tryz.f52) Tryz.f52.results.toList (slots 0 [.int .u64 p, .int .u64 q, .int .i64 k]) some =
    chk (inU p) (bif nanB p.toNat then raN p q else chk (inU q) (bif nanB q.toNat then raN p q else chk (inU p) (bif ((absN p.toNat : Nat) : Int) == 9218868437227405312 then raE p q else chk (inU q) (bif ((absN q.toNat : Nat) : Int) == 9218868437227405312 then raE p q else
      chk (inU p) (chk (inU q) (raS (tM p.toNat) (tX p.toNat) (tS p.toNat) (tM q.toNat) (tX q.toNat) (tS q.toNat) k)))))) := by kernel_rfl
theorem lenN_sum (a b : Bool) {A B n : Nat} (hA : lenN A ≤ n) (hB : lenN B ≤ n) : lenN (sumS a b A B) ≤ n + 1 := by
  have h1 := lenN_le.1 hA
  have h2 := lenN_le.1 hB
  have h0 : sumS a b A B ≤ A + B := by
    unfold sumS
    split
    · exact Nat.le_refl _
    · split <;> omega
  refine lenN_le.2 ?_
  rw [Nat.pow_succ]
  omega
theorem raS_at (a : Bool) {x : Int} {V : Nat} (b : Bool) {y : Int} {W : Nat} (k : Int) (hV : lenN V ≤ 100) (hW : lenN W ≤ 100) (hx : -1100 ≤ x ∧ x ≤ 1000) (hy : -1100 ≤ y ∧ y ≤ 1000) :
    raS a x V b y W k = some (.tup [.int .u64 ((rndP (sumM a b (exA V x y) (exA W y x) k) (sumS a b (exA V x y) (exA W y x)) (min x y) k : Nat) : Int), .int .i64 ((rndF (sumM a b (exA V x y) (exA W y x) k) (sumS a b (exA V x y) (exA W y x)) (min x y) k : Nat) : Int)]) := by
  obtain ⟨hm, hk⟩ := sum_any a b x V y W k
  obtain ⟨h1, h2⟩ := hk k
  obtain ⟨l1, l2, l3, l4⟩ := suLow_ge x V y W
  unfold raS raZ s5M s5S s5A s5B s5L zP zF
  rw [stk_eq, stk_eq, stk_eq, stk_eq, stk_eq, val_dg, val_dg, val_dg]
  have g1 : mayS5 x (dgl V) (dg V) y (dgl W) (dg W) = true := mayS5_iff.2 ⟨⟨mayD_dg (by omega), mayD_dg (by omega)⟩, by rw [val_dg]; omega, by rw [val_dg]; omega, by omega, by omega, by omega, by omega, by omega, by omega⟩
  generalize suLow x V y W = low at *
  have len : ∀ {V : Nat} {x : Int}, lenN V ≤ 100 → x - low ≤ 2500 → lenN (suA V x low) ≤ 2700 := by
    intro V x h3 h4
    unfold suA
    by_cases h0 : V = 0
    · subst h0; rw [Nat.zero_mul]; omega
    · rw [lenN_shl (show 0 < V by omega)]; omega
  have hA := len hV (x := x) (by omega)
  have hB := len hW (x := y) (by omega)
  have hS : lenN (sumS a b (suA V x low) (suA W y low)) ≤ 3000 := by
    have := lenN_sum a b hA hB
    omega
  have g2 : mayZ low (dgl (sumS a b (suA V x low) (suA W y low))) (dg (sumS a b (suA V x low) (suA W y low))) = true := mayZ_iff.2 ⟨mayD_dg (by omega), by rw [val_dg]; omega, by omega⟩
  rw [g1, g2]
  unfold rndP
  rw [h1, h2, hm]
  rfl
def sp_rAdd : List AV → Option (Bool × AV)
  | [.int .u64 p, .int .u64 q, .int .i64 k] => some (inU p && inU q, .tup [.int .u64 ((adP p.toNat q.toNat k : Nat) : Int), .int .i64 ((adF p.toNat q.toNat k : Nat) : Int)])
  | _ => none
theorem ok_rAdd : EntOk Tryz.prog 52 (entS true sp_rAdd) := by
  refine contractS (orc := orcRAdd) (lo := []) Tryz.func52 (orc_cons ok_rNaN (orc_cons ok_rNone (orc_cons ok_rAbs (orc_cons ok_pattern (orc_cons ok_sum5 (orc_cons ok_round4 orc_nil)))))) (by kernel_rfl) (by kernel_rfl) (by kernel_rfl) (loops_none (by kernel_rfl)) fun args r h => ?_
  unfold sp_rAdd at h
  split at h
  · rename_i p q k
    simp only [Option.some.injEq, Prod.mk.injEq, Bool.and_eq_true] at h
    obtain ⟨⟨hp, hq⟩, rfl⟩ := h
    obtain ⟨m, rfl, hm⟩ := nat_of hp
    obtain ⟨n, rfl, hn⟩ := nat_of hq
    refine ⟨by kernel_rfl, .inl rfl, (run_rAdd m n k).trans ?_⟩
    have r1 := ex_range m
    have r2 := ex_range n
    have l1 := len_sig m
    have l2 := len_sig n
    have hR := raS_at (sgB m) (x := exN m) (V := sigN m) (sgB n) (y := exN n) (W := sigN n) k (by omega) (by omega) (by omega) (by omega)
    have c3 : ((m : Int) != (n : Int)) = decide (m ≠ n) := by
      rw [bne, eqN, ← decide_not]
    have c1 : (((absN m : Nat) : Int) == 9218868437227405312) = decide (absN m = infN) := eqN _ infN
    have c2 : (((absN n : Nat) : Int) == 9218868437227405312) = decide (absN n = infN) := eqN _ infN
    have c4 : (((absN m : Nat) : Int) == ((absN n : Nat) : Int)) = decide (absN m = absN n) := eqN _ _
    have hT : raS (tM m) (tX m) (tS m) (tM n) (tX n) (tS n) k = raS (sgB m) (exN m) (sigN m) (sgB n) (exN n) (sigN n) k := by
      unfold tM tX tS
      rw [stk_eq, stk_eq, stk_eq, stk_eq, stk_eq, stk_eq]
      rfl
    unfold raE raI raN
    rw [Int.toNat_natCast, Int.toNat_natCast, hp, hq, c1, c2, c3, c4, hT, hR]
    unfold nanB noG adP adF
    rw [stk_eq, stk_eq, stk_eq, stk_eq, stk_eq]
    have e1 : smM m n k = sumM (sgB m) (sgB n) (exA (sigN m) (exN m) (exN n)) (exA (sigN n) (exN n) (exN m)) k := rfl
    have e2 : smS m n = sumS (sgB m) (sgB n) (exA (sigN m) (exN m) (exN n)) (exA (sigN n) (exN n) (exN m)) := rfl
    rw [← e1, ← e2]
    unfold adPN adFN
    clear hR c1 c2 c3 c4 hT
    by_cases n1 : infN < absN m
    · rw [decide_eq_true n1, if_pos (show infN < absN m ∨ infN < absN n from .inl n1), if_pos (show infN < absN m ∨ infN < absN n from .inl n1)]; rfl
    by_cases n2 : infN < absN n
    · rw [decide_eq_false n1, decide_eq_true n2, if_pos (show infN < absN m ∨ infN < absN n from .inr n2), if_pos (show infN < absN m ∨ infN < absN n from .inr n2)]; rfl
    have n3 : ¬ (infN < absN m ∨ infN < absN n) := by simp [n1, n2]
    rw [decide_eq_false n1, decide_eq_false n2, if_neg n3, if_neg n3]
    by_cases i1 : absN m = infN
    · rw [decide_eq_true i1, if_pos i1, if_pos i1]
      by_cases i2 : absN n = infN
      · rw [decide_eq_true (show absN m = absN n from i1.trans i2.symm)]
        by_cases i3 : m ≠ n
        · rw [decide_eq_true i3, if_pos (show absN m = infN ∧ absN n = infN ∧ m ≠ n from ⟨i1, i2, i3⟩), if_pos (show absN m = infN ∧ absN n = infN ∧ m ≠ n from ⟨i1, i2, i3⟩)]; rfl
        · have i4 : ¬ (absN m = infN ∧ absN n = infN ∧ m ≠ n) := fun h => i3 h.2.2
          rw [decide_eq_false i3, if_neg i4, if_neg i4]; rfl
      · have i4 : ¬ (absN m = infN ∧ absN n = infN ∧ m ≠ n) := fun h => i2 h.2.1
        rw [decide_eq_false (show ¬ absN m = absN n from fun h => i2 (h.symm.trans i1)), if_neg i4, if_neg i4]; rfl
    · have i4 : ¬ (absN m = infN ∧ absN n = infN ∧ m ≠ n) := fun h => i1 h.1
      rw [decide_eq_false i1, if_neg i1, if_neg i1, if_neg i4, if_neg i4]
      by_cases i2 : absN n = infN
      · rw [decide_eq_true i2, if_pos i2, if_pos i2, decide_eq_false (show ¬ absN m = absN n from fun h => i1 (h.trans i2))]; rfl
      · rw [decide_eq_false i2, if_neg i2, if_neg i2]; rfl
  · cases h
/-! ### Sub -/
def sp_rSub : List AV → Option (Bool × AV)
  | [.int .u64 p, .int .u64 q, .int .i64 k] => some (inU p && inU q, .tup [.int .u64 ((adP p.toNat (stk (sbQ q.toNat)) k : Nat) : Int), .int .i64 ((adF p.toNat (stk (sbQ q.toNat)) k : Nat) : Int)])
  | _ => none
def orcRSub : List (FuncId × Ent) := [(78, entS false sp_isNaN), (52, entS true sp_rAdd), (51, entS false sp_pNeg)]
def rsAA (p q k : Int) : Option AV := chk (inU p && inU q) (some (.tup [.int .u64 ((adP p.toNat q.toNat k : Nat) : Int), .int .i64 ((adF p.toNat q.toNat k : Nat) : Int)]))
theorem run_rSub (p q k : Int) : callA (env Tryz.f62.ntmps orcRSub []) (bodyC Tryz.f62) Tryz.f62.results.toList (slots 0 [.int .u64 p, .int .u64 q, .int .i64 k]) some =
    chk (inU q) (bif nanB q.toNat then rsAA p q k else chk (inU q) (rsAA p ((negN q.toNat : Nat) : Int) k)) := by kernel_rfl
theorem ok_rSub : EntOk Tryz.prog 62 (entS true sp_rSub) := by
  refine contractS (orc := orcRSub) (lo := []) Tryz.func62 (orc_cons ok_rNaN (orc_cons ok_rAdd (orc_cons ok_rNeg orc_nil))) (by kernel_rfl) (by kernel_rfl) (by kernel_rfl) (loops_none (by kernel_rfl)) fun args r h => ?_
  unfold sp_rSub at h
  split at h
  · rename_i p q k
    simp only [Option.some.injEq, Prod.mk.injEq, Bool.and_eq_true] at h
    obtain ⟨⟨hp, hq⟩, rfl⟩ := h
    refine ⟨by kernel_rfl, .inl rfl, (run_rSub p q k).trans ?_⟩
    have hn := neg_lt q.toNat
    have hn2 : inU ((negN q.toNat : Nat) : Int) = true := inU_iff.2 (by omega)
    unfold rsAA nanB
    rw [hp, hq, hn2, stk_eq, stk_eq, Int.toNat_natCast]
    unfold sbQ
    by_cases h1 : infN < absN q.toNat
    · rw [decide_eq_true h1, if_pos h1]; rfl
    · rw [decide_eq_false h1, if_neg h1]; rfl
  · cases h
/-! ### SumsAdds, SumsSubs -/
end
end Go.Proofs.YtbakldcbaikgpaaGreatDoor
