/- Little transforms forth and back. Plain Lean. Own work. -/
import Derived.Test.YtbakldcbaikgpaaGreatDoorFlyA
namespace Go.Proofs.YtbakldcbaikgpaaGreatDoor
set_option maxRecDepth 100000
noncomputable section

/-! ### Flags -/
theorem or8 (x y : Int) : orI .u8 x y = ((BitVec.ofInt 8 x ||| BitVec.ofInt 8 y).toNat : Int) := by
  have h : (BitVec.ofInt 8 x ||| BitVec.ofInt 8 y).toNat < 256 := (BitVec.ofInt 8 x ||| BitVec.ofInt 8 y).isLt
  show IntKind.u8.wrap ((BitVec.ofInt 8 x ||| BitVec.ofInt 8 y).toNat : Int) = _
  rw [IntKind.wrap_u8]
  exact Int.emod_eq_of_lt (by omega) (by omega)
theorem ofInt8 (v : BitVec 8) : BitVec.ofInt 8 ((v.toNat : Nat) : Int) = v := by
  rw [BitVec.ofInt_natCast, BitVec.ofNat_toNat, BitVec.setWidth_eq]
theorem or8_swap (a b c : Int) : orI .u8 (orI .u8 a b) c = orI .u8 (orI .u8 a c) b := by
  rw [or8 (orI .u8 a b), or8 (orI .u8 a c), or8 a b, or8 a c, ofInt8, ofInt8, BitVec.or_assoc, BitVec.or_assoc, BitVec.or_comm (BitVec.ofInt 8 b)]

/-! ### Signs -/
theorem abs_negN (q : Nat) : absN (negN q) = absN q := by unfold absN negN; omega
theorem pE_neg (q : Nat) : pE (negN q) = pE q := by unfold pE negN; omega
theorem pF_neg (q : Nat) : pF (negN q) = pF q := by unfold pF negN; omega
theorem cl_negN (q : Nat) : clN (negN q) = clN q := by unfold clN; rw [pE_neg, pF_neg]
theorem ad_negQ (p q : Nat) (k : Int) : adPN p (negN q) k = adPN p (sbQ q) k ∧ adFN p (negN q) k = adFN p (sbQ q) k := by
  unfold sbQ
  by_cases h : infN < absN q
  · rw [if_pos h]
    have c1 : infN < absN p ∨ infN < absN (negN q) := .inr (by rw [abs_negN]; exact h)
    have c2 : infN < absN p ∨ infN < absN q := .inr h
    refine ⟨?_, ?_⟩
    · unfold adPN
      rw [if_pos c1, if_pos c2]
    · unfold adFN noGN
      rw [if_pos c1, if_pos c2, cl_negN]
  · rw [if_neg h]; exact ⟨rfl, rfl⟩
theorem ad_sbQ (p : Nat) {q : Nat} (hq : q < 18446744073709551616) (k : Int) : adPN p (sbQ (negN q)) k = adPN p q k ∧ adFN p (sbQ (negN q)) k = adFN p q k := by
  have h := ad_negQ p (negN q) k
  have e : negN (negN q) = q := neg_neg hq
  rw [e] at h
  exact ⟨Eq.symm h.1, Eq.symm h.2⟩
def negC (x : PZ) : PZ := (((negN x.1.toNat : Nat) : Int), ((negN x.2.toNat : Nat) : Int))
theorem turn_t (x : PZ) : cTurn x true = (x.2, ((negN x.1.toNat : Nat) : Int)) := rfl
theorem turn_f (x : PZ) : cTurn x false = (((negN x.2.toNat : Nat) : Int), x.1) := rfl
theorem negC_mk (a b : Int) : negC (a, b) = (((negN a.toNat : Nat) : Int), ((negN b.toNat : Nat) : Int)) := rfl
theorem turn_neg {x : PZ} (h : okPr x = true) : cTurn x false = negC (cTurn x true) := by
  obtain ⟨h1, h2⟩ := okPr_iff.1 h
  have g1 := inU_iff.1 h1
  rw [turn_f, turn_t, negC_mk, Int.toNat_natCast, neg_neg (inU_lt h1), Int.toNat_of_nonneg g1.1]
theorem cAdd_v (x y : PZ) : cAdd x y = (((adPN x.1.toNat y.1.toNat 0 : Nat) : Int), ((adPN x.2.toNat y.2.toNat 0 : Nat) : Int)) := by unfold cAdd adP; rw [stk_eq, stk_eq]
theorem cSub_v (x y : PZ) : cSub x y = (((adPN x.1.toNat (sbQ y.1.toNat) 0 : Nat) : Int), ((adPN x.2.toNat (sbQ y.2.toNat) 0 : Nat) : Int)) := by unfold cSub adP; rw [stk_eq, stk_eq, stk_eq, stk_eq]
theorem cAddF_v (x y : PZ) : cAddF x y = orI .u8 ((adFN x.1.toNat y.1.toNat 0 : Nat) : Int) ((adFN x.2.toNat y.2.toNat 0 : Nat) : Int) := by unfold cAddF adF; rw [stk_eq, stk_eq]
theorem cSubF_v (x y : PZ) : cSubF x y = orI .u8 ((adFN x.1.toNat (sbQ y.1.toNat) 0 : Nat) : Int) ((adFN x.2.toNat (sbQ y.2.toNat) 0 : Nat) : Int) := by unfold cSubF adF; rw [stk_eq, stk_eq, stk_eq, stk_eq]
theorem negC1 (e : PZ) : (negC e).1.toNat = negN e.1.toNat := Int.toNat_natCast _
theorem negC2 (e : PZ) : (negC e).2.toNat = negN e.2.toNat := Int.toNat_natCast _
theorem add_neg (a e : PZ) : cAdd a (negC e) = cSub a e ∧ cAddF a (negC e) = cSubF a e := by
  rw [cAdd_v, cSub_v, cAddF_v, cSubF_v, negC1, negC2, (ad_negQ a.1.toNat e.1.toNat 0).1, (ad_negQ a.2.toNat e.2.toNat 0).1, (ad_negQ a.1.toNat e.1.toNat 0).2, (ad_negQ a.2.toNat e.2.toNat 0).2]
  exact ⟨rfl, rfl⟩
theorem sub_neg (a : PZ) {e : PZ} (h : okPr e = true) : cSub a (negC e) = cAdd a e ∧ cSubF a (negC e) = cAddF a e := by
  obtain ⟨h1, h2⟩ := okPr_iff.1 h
  rw [cAdd_v, cSub_v, cAddF_v, cSubF_v, negC1, negC2, (ad_sbQ a.1.toNat (inU_lt h1) 0).1, (ad_sbQ a.2.toNat (inU_lt h2) 0).1, (ad_sbQ a.1.toNat (inU_lt h1) 0).2, (ad_sbQ a.2.toNat (inU_lt h2) 0).2]
  exact ⟨rfl, rfl⟩

/-! ### odd -/
theorem gp_ne {L : List PZ} {i j : Nat} (h : i ≠ j) (x : PZ) : gp (L.set i x) j = gp L j := by
  unfold gp
  rw [List.getD_eq_getElem?_getD, List.getD_eq_getElem?_getD, List.getElem?_set_ne h]
/-- The same the other way round, as far as it is done. -/
def Mir (n k : Nat) (B F : List PZ) : Prop := B.length = n ∧ F.length = n ∧ ∀ i, i < n → (i < k ∨ n < i + k) → gp B ((n - i) % n) = gp F i
theorem mir_step {n h k : Nat} (hn : n = 2 * h + 1) (hk0 : 0 < k) (hk : k ≤ h) {X S D : List PZ} (hX : okL X = true) {f : Int} {B F : List PZ} (hM : Mir n k B F) :
    (oB1 X S D true n h k (f, B)).1 = (oB1 X S D false n h k (f, F)).1 ∧ Mir n (k + 1) (oB1 X S D true n h k (f, B)).2 (oB1 X S D false n h k (f, F)).2 := by
  obtain ⟨lB, lF, hm⟩ := hM
  obtain ⟨q1, q2⟩ := iA_ok S D k n h 0 (f, gp X 0, (0, 0)) (gp_ok hX 0) okPr_zero
  unfold oB1
  simp only [Bool.not_true, Bool.not_false]
  generalize iA S D k n h 0 (f, gp X 0, (0, 0)) = r at q1 q2 ⊢
  have q3 := okPr_turn q2 true
  obtain ⟨x1, x2⟩ := add_neg r.2.1 (cTurn r.2.2 true)
  obtain ⟨x3, x4⟩ := sub_neg r.2.1 q3
  rw [turn_neg q2, x1, x2, x3, x4]
  clear x1 x2 x3 x4
  generalize cAdd r.2.1 (cTurn r.2.2 true) = A
  generalize cSub r.2.1 (cTurn r.2.2 true) = C
  refine ⟨or8_swap _ _ _, ?_⟩
  refine ⟨by rw [List.length_set, List.length_set]; exact lB, by rw [List.length_set, List.length_set]; exact lF, fun i hi hc => ?_⟩
  by_cases e1 : i = k
  · subst e1
    rw [Nat.mod_eq_of_lt (show n - i < n by omega), gp_set (by rw [List.length_set]; omega), gp_ne (show n - i ≠ i by omega), gp_set (by omega)]
  · by_cases e2 : i = n - k
    · subst e2
      rw [show n - (n - k) = k by omega, Nat.mod_eq_of_lt (show k < n by omega), gp_ne (show n - k ≠ k by omega), gp_set (by omega), gp_set (by rw [List.length_set]; omega)]
    · rw [gp_ne (show n - k ≠ i by omega), gp_ne (show k ≠ i by omega)]
      have hz : (n - i) % n ≠ k ∧ (n - i) % n ≠ n - k := by
        by_cases h0 : i = 0
        · subst h0
          rw [Nat.sub_zero, Nat.mod_self]
          omega
        · rw [Nat.mod_eq_of_lt (show n - i < n by omega)]
          omega
      rw [gp_ne (Ne.symm hz.2), gp_ne (Ne.symm hz.1)]
      exact hm i hi (by omega)
theorem mir_loop {n h : Nat} (hn : n = 2 * h + 1) {X S D : List PZ} (hX : okL X = true) : ∀ (q k : Nat) (f : Int) (B F : List PZ), 0 < k → k + q = h + 1 → Mir n k B F →
    (oB X S D true n h q k (f, B)).1 = (oB X S D false n h q k (f, F)).1 ∧ Mir n (h + 1) (oB X S D true n h q k (f, B)).2 (oB X S D false n h q k (f, F)).2
  | 0, k, f, B, F, hk0, hk, hM => by
    obtain rfl : k = h + 1 := by omega
    exact ⟨rfl, hM⟩
  | q + 1, k, f, B, F, hk0, hk, hM => by
    obtain ⟨h1, h2⟩ := mir_step hn hk0 (by omega) hX (S := S) (D := D) (f := f) hM
    rw [oB, oB]
    have e1 : oB1 X S D true n h k (f, B) = ((oB1 X S D false n h k (f, F)).1, (oB1 X S D true n h k (f, B)).2) := by rw [← h1]
    have e2 : oB1 X S D false n h k (f, F) = ((oB1 X S D false n h k (f, F)).1, (oB1 X S D false n h k (f, F)).2) := rfl
    rw [e1, e2]
    exact mir_loop hn hX q (k + 1) _ _ _ (by omega) (by omega) h2
theorem mir_odd {n : Nat} {X : List PZ} (hX : okL X = true) (ho : n % 2 = 1) (hn : 3 ≤ n) (f : Int) :
    (oddR X true n f).1 = (oddR X false n f).1 ∧ (oddR X true n f).2.length = n ∧ (oddR X false n f).2.length = n ∧ ∀ i, i < n → gp (oddR X true n f).2 ((n - i) % n) = gp (oddR X false n f).2 i := by
  unfold oddR
  have lr : ∀ m : Nat, (List.replicate m ((0 : Int), (0 : Int))).length = m := fun m => List.length_replicate
  have hO : okL ((List.replicate n (0, 0)).set 0 (gp X 0)) = true := okL_set (okL_rep n) 0 (gp_ok hX 0)
  have lO : ((List.replicate n ((0 : Int), (0 : Int))).set 0 (gp X 0)).length = n := by rw [List.length_set]; exact lr n
  obtain ⟨h, hh⟩ : ∃ h, (n - 1) / 2 = h := ⟨_, rfl⟩
  have hA := oA_ok (n := n) (h := h) hX h 0 (f, List.replicate h (0, 0), List.replicate h (0, 0), (List.replicate n (0, 0)).set 0 (gp X 0)) (okL_rep h) (okL_rep h) hO (lr h) (lr h) lO (by omega)
  have e : oddSf X n f = oA X n h 0 (f, List.replicate h (0, 0), List.replicate h (0, 0), (List.replicate n (0, 0)).set 0 (gp X 0)) := by unfold oddSf; rw [hh]
  rw [hh, e]
  generalize oA X n h 0 (f, List.replicate h (0, 0), List.replicate h (0, 0), (List.replicate n (0, 0)).set 0 (gp X 0)) = s at hA ⊢
  obtain ⟨_, _, _, _, _, a6⟩ := hA
  have h0 : Mir n 1 s.2.2.2 s.2.2.2 := by
    refine ⟨a6, a6, fun i hi hc => ?_⟩
    obtain rfl : i = 0 := by omega
    rw [Nat.sub_zero, Nat.mod_self]
  obtain ⟨h1, h2, h3, h4⟩ := mir_loop (show n = 2 * h + 1 by omega) hX h 1 s.1 s.2.2.2 s.2.2.2 (by omega) (by omega) h0 (S := s.2.1) (D := s.2.2.1)
  exact ⟨h1, h2, h3, fun i hi => h4 i hi (by omega)⟩

theorem mir2 (a b : PZ) : ∀ i, i < 2 → gp [a, b] ((2 - i) % 2) = gp [a, b] i
  | 0, _ => rfl
  | 1, _ => rfl
theorem mir4 (t u z v : PZ) : ∀ i, i < 4 → gp [t, v, z, u] ((4 - i) % 4) = gp [t, u, z, v] i
  | 0, _ => rfl
  | 1, _ => rfl
  | 2, _ => rfl
  | 3, _ => rfl
theorem four_mir {x0 x1 x2 x3 : PZ} (h1 : okPr x1 = true) (h3 : okPr x3 = true) : ∃ t u z v : PZ, four4 x0 x1 x2 x3 true = [t, v, z, u] ∧ four4 x0 x1 x2 x3 false = [t, u, z, v] := by
  have a4 := okPr_sub h1 h3
  have q3 := okPr_turn a4 true
  refine ⟨cAdd (cAdd x0 x2) (cAdd x1 x3), cAdd (cSub x0 x2) (cTurn (cSub x1 x3) true), cSub (cAdd x0 x2) (cAdd x1 x3), cSub (cSub x0 x2) (cTurn (cSub x1 x3) true), ?_, ?_⟩
  · unfold four4
    rw [Bool.not_true, turn_neg a4, (add_neg (cSub x0 x2) (cTurn (cSub x1 x3) true)).1, (sub_neg (cSub x0 x2) q3).1]
  · unfold four4
    rw [Bool.not_false]
theorem orL8 (z a b t c d e f g : Int) : orL z [a, b, t, c, d, e, f, g] = orL z [a, b, t, c, d, g, f, e] := by
  unfold orL orL orL orL orL orL orL orL orL
  generalize orI .u8 (orI .u8 (orI .u8 (orI .u8 (orI .u8 z a) b) t) c) d = y
  rw [or8_swap (orI .u8 y e) f g, or8_swap y e g, or8_swap (orI .u8 y g) e f]
theorem fourG_mir {x0 x1 x2 x3 : PZ} (h1 : okPr x1 = true) (h3 : okPr x3 = true) (f : Int) : orL f (fourG x0 x1 x2 x3 true) = orL f (fourG x0 x1 x2 x3 false) := by
  have a4 := okPr_sub h1 h3
  have q3 := okPr_turn a4 true
  unfold fourG
  rw [Bool.not_true, Bool.not_false, turn_neg a4, (add_neg (cSub x0 x2) (cTurn (cSub x1 x3) true)).2, (sub_neg (cSub x0 x2) q3).2]
  exact orL8 _ _ _ _ _ _ _ _ _

/-- The theorem of the stage: back is forth with the answers in the other order. -/
theorem mirror_lit {n : Nat} {X : List PZ} (hX : okL X = true) (hc : canN n = true) :
    (litK X true n).1 = (litK X false n).1 ∧ (litK X true n).2.length = n ∧ (litK X false n).2.length = n ∧ ∀ i, i < n → gp (litK X true n).2 ((n - i) % n) = gp (litK X false n).2 i := by
  unfold litK
  rw [stk_eq, stk_eq]
  unfold litR
  unfold canN at hc
  rw [decide_eq_true_eq] at hc
  by_cases h2 : n = 2
  · rw [if_pos h2, if_pos h2]
    subst h2
    exact ⟨rfl, rfl, rfl, mir2 _ _⟩
  · rw [if_neg h2, if_neg h2]
    by_cases h4 : n = 4
    · rw [if_pos h4, if_pos h4]
      subst h4
      obtain ⟨t, u, z, v, e1, e2⟩ := four_mir (x0 := gp X 0) (x2 := gp X 2) (gp_ok hX 1) (gp_ok hX 3)
      have e3 := fourG_mir (x0 := gp X 0) (x2 := gp X 2) (gp_ok hX 1) (gp_ok hX 3) 0
      rw [e1, e2, e3]
      exact ⟨rfl, rfl, rfl, mir4 t u z v⟩
    · rw [if_neg h4, if_neg h4]
      exact mir_odd hX (by omega) (by omega) 0
end
end Go.Proofs.YtbakldcbaikgpaaGreatDoor
