/- The texts Mix3, Mix4, Mix13, Mix14, joined. Own work. -/
import Derived.Test.YtbakldcbaikgpaaFlyA
import Derived.Test.YtbakldcbaikgpaaMixC

/- Noughts and ones. Plain Lean. Own work. -/
namespace Go.Proofs.Ytbakldcbaikgpaa
set_option maxRecDepth 100000

def nt (p : Nat) : Prop := p = 0 ∨ p = 9223372036854775808
instance (p : Nat) : Decidable (nt p) := by unfold nt; infer_instance
theorem ad_nt {p q : Nat} (hp : nt p) (hq : nt q) : nt (adPN p q 0) := by
  rcases hp with rfl | rfl <;> rcases hq with rfl | rfl <;> decide +kernel
theorem ad_one {q : Nat} (hq : nt q) : adPN 4607182418800017408 q 0 = 4607182418800017408 := by
  rcases hq with rfl | rfl <;> decide +kernel
theorem ad_one' {q : Nat} (hq : nt q) : adPN q 4607182418800017408 0 = 4607182418800017408 := by
  rcases hq with rfl | rfl <;> decide +kernel
theorem sbQ_nt {q : Nat} (hq : nt q) : nt (sbQ q) := by
  rcases hq with rfl | rfl <;> decide +kernel
theorem neg_nt {q : Nat} (hq : nt q) : nt (negN q) := by
  rcases hq with rfl | rfl <;> decide +kernel
theorem nt_abs {q : Nat} (hq : nt q) : absN q = 0 ∧ sigN q = 0 := by
  rcases hq with rfl | rfl <;> decide +kernel
theorem fm_zero {a b c : Nat} (ha : nt a) (hb : absN b < infN) (hc : absN c < infN) : fmPN a b c 0 = rndP (fmJ a b c 0).m (nS (fmJ a b c 0).s (fmJ a b c 0).r) (nE (fmJ a b c 0).x (fmJ a b c 0).r) 0 := by
  have h1 := (nt_abs ha).1
  have h0 : 0 < infN := by decide +kernel
  unfold fmPN
  rw [if_neg (show ¬ nzz a b by unfold nzz; omega), if_neg (by omega), if_neg (by omega), if_neg (by omega)]
theorem fm_J {a b c : Nat} (ha : nt a) : fmJ a b c 0 = if sigN c = 0 then ⟨noM (pdM a b) (sgB c) 0, 0, 0, false⟩ else ⟨sgB c, exN c, sigN c, false⟩ := by
  have h : pdS a b = 0 := by unfold pdS; rw [(nt_abs ha).2, Nat.zero_mul]
  unfold fmJ jn
  rw [if_pos h]
theorem fm_nt {a b c : Nat} (ha : nt a) (hb : absN b < infN) (hc : nt c) : nt (fmPN a b c 0) := by
  obtain ⟨c1, c2⟩ := nt_abs hc
  have h0 : 0 < infN := by decide +kernel
  rw [fm_zero ha hb (by omega), fm_J ha, if_pos c2]
  cases noM (pdM a b) (sgB c) 0 <;> decide +kernel
theorem fm_one {a b : Nat} (ha : nt a) (hb : absN b < infN) : fmPN a b 4607182418800017408 0 = 4607182418800017408 := by
  rw [fm_zero ha hb (by decide +kernel), fm_J ha, if_neg (by decide +kernel)]
  decide +kernel
end Go.Proofs.Ytbakldcbaikgpaa

/- Little transforms of 1 and noughts. Plain Lean. Own work. -/
namespace Go.Proofs.Ytbakldcbaikgpaa
set_option maxRecDepth 100000

def zP (x : PZ) : Prop := nt x.1.toNat ∧ nt x.2.toNat
def oP (x : PZ) : Prop := x.1 = 4607182418800017408 ∧ nt x.2.toNat
theorem tonN (n : Nat) : ((n : Nat) : Int).toNat = n := Int.toNat_natCast n
theorem oneN : (4607182418800017408 : Int).toNat = 4607182418800017408 := by decide
theorem z_add {x y : PZ} (hx : zP x) (hy : zP y) : zP (pAdd x y) := by
  unfold pAdd zP
  rw [tonN, tonN]
  exact ⟨ad_nt hx.1 hy.1, ad_nt hx.2 hy.2⟩
theorem z_sub {x y : PZ} (hx : zP x) (hy : zP y) : zP (pSub x y) := by
  unfold pSub zP
  rw [tonN, tonN]
  exact ⟨ad_nt hx.1 (sbQ_nt hy.1), ad_nt hx.2 (sbQ_nt hy.2)⟩
theorem o_add {x y : PZ} (hx : oP x) (hy : zP y) : oP (pAdd x y) := by
  unfold pAdd oP
  rw [tonN, hx.1, oneN, ad_one hy.1]
  exact ⟨rfl, ad_nt hx.2 hy.2⟩
theorem o_sub {x y : PZ} (hx : oP x) (hy : zP y) : oP (pSub x y) := by
  unfold pSub oP
  rw [tonN, hx.1, oneN, ad_one (sbQ_nt hy.1)]
  exact ⟨rfl, ad_nt hx.2 (sbQ_nt hy.2)⟩
theorem z_more {x y : PZ} {b : Int} (hx : zP x) (hb : absN b.toNat < infN) (hy : zP y) : zP (pMore x b y) := by
  unfold pMore zP
  rw [tonN, tonN]
  exact ⟨fm_nt hx.1 hb hy.1, fm_nt hx.2 hb hy.2⟩
theorem o_more {x y : PZ} {b : Int} (hx : zP x) (hb : absN b.toNat < infN) (hy : oP y) : oP (pMore x b y) := by
  unfold pMore oP
  rw [tonN, hy.1, oneN, fm_one hx.1 hb]
  exact ⟨rfl, fm_nt hx.2 hb hy.2⟩
theorem z_turn {x : PZ} (hx : zP x) (b : Bool) : zP (cTurn x b) := by
  cases b
  · exact ⟨by show nt (((negN x.2.toNat : Nat) : Int).toNat); rw [tonN]; exact neg_nt hx.2, hx.1⟩
  · exact ⟨hx.2, by show nt (((negN x.1.toNat : Nat) : Int).toNat); rw [tonN]; exact neg_nt hx.1⟩
theorem z_zero : zP (0, 0) := ⟨.inl rfl, .inl rfl⟩
theorem cos_fin (k n : Int) : absN (pCos k n).toNat < infN := by
  unfold pCos cosZ
  rw [tonN]
  have h := cosK_le (k % n).toNat n.toNat
  unfold absN infN
  omega
theorem sin_fin (k n : Int) : absN (pSin k n).toNat < infN := by
  unfold pSin sinZ
  rw [tonN]
  have h := sinK_le (k % n).toNat n.toNat
  unfold absN infN
  omega
/-- 1 ahead, then noughts. -/
def lead (n : Nat) (X : List PZ) : Prop := oP (gp X 0) ∧ ∀ i, 0 < i → i < n → zP (gp X i)
theorem gpset {L : List PZ} (i j : Nat) (x : PZ) : gp (L.set i x) j = gp L j ∨ gp (L.set i x) j = x := by
  unfold gp
  rw [List.getD_eq_getElem?_getD, List.getD_eq_getElem?_getD, List.getElem?_set]
  split
  · split
    · exact .inr rfl
    · rename_i h1 h2
      left
      rw [List.getElem?_eq_none (by omega)]
  · exact .inl rfl
theorem lead_oA {n : Nat} {X : List PZ} (hX : lead n X) : ∀ (q j : Nat) (s : FS), 2 * (j + q) < n → (∀ i, zP (gp s.2.1 i)) → (∀ i, zP (gp s.2.2.1 i)) → oP (gp s.2.2.2 0) → 0 < s.2.2.2.length →
    (∀ i, zP (gp (oAP X n q j s).2.1 i)) ∧ (∀ i, zP (gp (oAP X n q j s).2.2.1 i)) ∧ oP (gp (oAP X n q j s).2.2.2 0) ∧ (oAP X n q j s).2.2.2.length = s.2.2.2.length
  | 0, _, _, _, h1, h2, h3, _ => ⟨h1, h2, h3, rfl⟩
  | q + 1, j, s, hn, h1, h2, h3, h4 => by
    have x1 := hX.2 (j + 1) (by omega) (by omega)
    have x2 := hX.2 (n - j - 1) (by omega) (by omega)
    have a1 : ∀ i, zP (gp (oA1P X n j s).2.1 i) := fun i => by
      rcases gpset (L := s.2.1) j i (pAdd (gp X (j + 1)) (gp X (n - j - 1))) with h | h
      · show zP (gp (s.2.1.set j _) i); rw [h]; exact h1 i
      · show zP (gp (s.2.1.set j _) i); rw [h]; exact z_add x1 x2
    have a2 : ∀ i, zP (gp (oA1P X n j s).2.2.1 i) := fun i => by
      rcases gpset (L := s.2.2.1) j i (pSub (gp X (j + 1)) (gp X (n - j - 1))) with h | h
      · show zP (gp (s.2.2.1.set j _) i); rw [h]; exact h2 i
      · show zP (gp (s.2.2.1.set j _) i); rw [h]; exact z_sub x1 x2
    have a3 : oP (gp (oA1P X n j s).2.2.2 0) := by
      show oP (gp (s.2.2.2.set 0 (pAdd (gp s.2.2.2 0) (gp (oA1P X n j s).2.1 j))) 0)
      rw [gp_set h4]
      exact o_add h3 (a1 j)
    have a4 : (oA1P X n j s).2.2.2.length = s.2.2.2.length := by
      show (s.2.2.2.set 0 _).length = _
      rw [List.length_set]
    obtain ⟨b1, b2, b3, b4⟩ := lead_oA hX q (j + 1) (oA1P X n j s) (by omega) a1 a2 a3 (by omega)
    exact ⟨b1, b2, b3, b4.trans a4⟩
theorem lead_iA {S D : List PZ} (hS : ∀ i, zP (gp S i)) (hD : ∀ i, zP (gp D i)) (k n : Nat) : ∀ (q j : Nat) (s : IS), oP s.2.1 → zP s.2.2 → oP (iAP S D k n q j s).2.1 ∧ zP (iAP S D k n q j s).2.2
  | 0, _, _, h1, h2 => ⟨h1, h2⟩
  | q + 1, j, s, h1, h2 => lead_iA hS hD k n q (j + 1) (iA1P S D k n j s) (o_more (hS j) (cos_fin _ _) h1) (z_more (hD j) (sin_fin _ _) h2)
theorem gpne {L : List PZ} {i j : Nat} (h : i ≠ j) (x : PZ) : gp (L.set i x) j = gp L j := by
  unfold gp
  rw [List.getD_eq_getElem?_getD, List.getD_eq_getElem?_getD, List.getElem?_set_ne h]
theorem lead_oB {n h : Nat} (hn : n = 2 * h + 1) {X S D : List PZ} (hX : oP (gp X 0)) (hS : ∀ i, zP (gp S i)) (hD : ∀ i, zP (gp D i)) (bk : Bool) : ∀ (q k : Nat) (s : BS), 0 < k → k + q = h + 1 → s.2.length = n → (∀ i, i < n → (i < k ∨ n < i + k) → oP (gp s.2 i)) →
    (oBP X S D bk n h q k s).2.length = n ∧ ∀ i, i < n → oP (gp (oBP X S D bk n h q k s).2 i)
  | 0, k, s, hk0, hk, hl, hs => ⟨hl, fun i hi => hs i hi (by omega)⟩
  | q + 1, k, s, hk0, hk, hl, hs => by
    obtain ⟨r1, r2⟩ := lead_iA hS hD k n h 0 (s.1, gp X 0, (0, 0)) hX z_zero
    have r3 := z_turn r2 (!bk)
    refine lead_oB hn hX hS hD bk q (k + 1) (oB1P X S D bk n h k s) (by omega) (by omega) ?_ ?_
    · show ((s.2.set k _).set (n - k) _).length = n
      rw [List.length_set, List.length_set]
      exact hl
    · intro i hi hc
      show oP (gp ((s.2.set k _).set (n - k) _) i)
      by_cases e1 : i = n - k
      · subst e1
        rw [gp_set (by rw [List.length_set]; omega)]
        exact o_sub r1 r3
      · rw [gpne (Ne.symm e1)]
        by_cases e2 : i = k
        · subst e2
          rw [gp_set (by omega)]
          exact o_add r1 r3
        · rw [gpne (Ne.symm e2)]
          exact hs i hi (by omega)
theorem gp_repl (n i : Nat) : gp (List.replicate n (0, 0)) i = (0, 0) := by
  unfold gp
  rw [List.getD_eq_getElem?_getD, List.getElem?_replicate]
  split <;> rfl
theorem lead_lit {n : Nat} {X : List PZ} (hX : lead n X) (hc : canN n = true) (bk : Bool) : (litP X bk n).2.length = n ∧ ∀ i, i < n → oP (gp (litP X bk n).2 i) := by
  unfold canN at hc
  rw [decide_eq_true_eq] at hc
  unfold litP
  by_cases h2 : n = 2
  · rw [if_pos h2]
    subst h2
    have x1 := hX.2 1 (by omega) (by omega)
    refine ⟨rfl, fun i hi => ?_⟩
    rcases (show i = 0 ∨ i = 1 by omega) with rfl | rfl
    · exact o_add hX.1 x1
    · exact o_sub hX.1 x1
  · rw [if_neg h2]
    by_cases h4 : n = 4
    · rw [if_pos h4]
      subst h4
      have x1 := hX.2 1 (by omega) (by omega)
      have x2 := hX.2 2 (by omega) (by omega)
      have x3 := hX.2 3 (by omega) (by omega)
      have e := z_turn (z_sub x1 x3) (!bk)
      refine ⟨rfl, fun i hi => ?_⟩
      rcases (show i = 0 ∨ i = 1 ∨ i = 2 ∨ i = 3 by omega) with rfl | rfl | rfl | rfl
      · exact o_add (o_add hX.1 x2) (z_add x1 x3)
      · exact o_add (o_sub hX.1 x2) e
      · exact o_sub (o_add hX.1 x2) (z_add x1 x3)
      · exact o_sub (o_sub hX.1 x2) e
    · rw [if_neg h4]
      obtain ⟨h, hh⟩ : ∃ h, (n - 1) / 2 = h := ⟨_, rfl⟩
      have hz : ∀ i, zP (gp (List.replicate h (0, 0)) i) := fun i => by rw [gp_repl]; exact z_zero
      have hO : ((List.replicate n ((0 : Int), (0 : Int))).set 0 (gp X 0)).length = n := by rw [List.length_set, List.length_replicate]
      obtain ⟨a1, a2, a3, a4⟩ := lead_oA hX h 0 ((0 : Int), List.replicate h (0, 0), List.replicate h (0, 0), (List.replicate n (0, 0)).set 0 (gp X 0)) (by omega) hz hz (by show oP (gp ((List.replicate n (0, 0)).set 0 (gp X 0)) 0); rw [gp_set (by rw [List.length_replicate]; omega)]; exact hX.1) (by show 0 < ((List.replicate n ((0 : Int), (0 : Int))).set 0 (gp X 0)).length; omega)
      unfold oddRP oddTP oddSP
      rw [hh]
      refine lead_oB (show n = 2 * h + 1 by omega) hX.1 a1 a2 bk h 1 _ (by omega) (by omega) (a4.trans hO) ?_
      intro i hi hcc
      obtain rfl : i = 0 := by omega
      exact a3

/-! ### Noughts alone -/
theorem z_set {L : List PZ} (h : ∀ i, zP (gp L i)) (j : Nat) {x : PZ} (hx : zP x) : ∀ i, zP (gp (L.set j x) i) := fun i => by
  rcases gpset (L := L) j i x with e | e <;> rw [e]
  · exact h i
  · exact hx
theorem zero_oA {n : Nat} {X : List PZ} (hX : ∀ i, zP (gp X i)) : ∀ (q j : Nat) (s : FS), (∀ i, zP (gp s.2.1 i)) → (∀ i, zP (gp s.2.2.1 i)) → (∀ i, zP (gp s.2.2.2 i)) →
    (∀ i, zP (gp (oAP X n q j s).2.1 i)) ∧ (∀ i, zP (gp (oAP X n q j s).2.2.1 i)) ∧ (∀ i, zP (gp (oAP X n q j s).2.2.2 i)) ∧ (oAP X n q j s).2.2.2.length = s.2.2.2.length
  | 0, _, _, h1, h2, h3 => ⟨h1, h2, h3, rfl⟩
  | q + 1, j, s, h1, h2, h3 => by
    have a1 := z_set h1 j (z_add (hX (j + 1)) (hX (n - j - 1)))
    obtain ⟨b1, b2, b3, b4⟩ := zero_oA hX q (j + 1) (oA1P X n j s) a1 (z_set h2 j (z_sub (hX (j + 1)) (hX (n - j - 1)))) (z_set h3 0 (z_add (h3 0) (a1 j)))
    exact ⟨b1, b2, b3, b4.trans (by show (s.2.2.2.set 0 _).length = _; rw [List.length_set])⟩
theorem zero_iA {S D : List PZ} (hS : ∀ i, zP (gp S i)) (hD : ∀ i, zP (gp D i)) (k n : Nat) : ∀ (q j : Nat) (s : IS), zP s.2.1 → zP s.2.2 → zP (iAP S D k n q j s).2.1 ∧ zP (iAP S D k n q j s).2.2
  | 0, _, _, h1, h2 => ⟨h1, h2⟩
  | q + 1, j, s, h1, h2 => zero_iA hS hD k n q (j + 1) (iA1P S D k n j s) (z_more (hS j) (cos_fin _ _) h1) (z_more (hD j) (sin_fin _ _) h2)
theorem zero_oB {n h : Nat} {X S D : List PZ} (hX : ∀ i, zP (gp X i)) (hS : ∀ i, zP (gp S i)) (hD : ∀ i, zP (gp D i)) (bk : Bool) : ∀ (q k : Nat) (s : BS), s.2.length = n → (∀ i, zP (gp s.2 i)) →
    (oBP X S D bk n h q k s).2.length = n ∧ ∀ i, zP (gp (oBP X S D bk n h q k s).2 i)
  | 0, _, _, hl, hs => ⟨hl, hs⟩
  | q + 1, k, s, hl, hs => by
    obtain ⟨r1, r2⟩ := zero_iA hS hD k n h 0 (s.1, gp X 0, (0, 0)) (hX 0) z_zero
    have r3 := z_turn r2 (!bk)
    refine zero_oB hX hS hD bk q (k + 1) (oB1P X S D bk n h k s) ?_ (z_set (z_set hs k (z_add r1 r3)) (n - k) (z_sub r1 r3))
    show ((s.2.set k _).set (n - k) _).length = n
    rw [List.length_set, List.length_set]
    exact hl
theorem zero_lit {n : Nat} {X : List PZ} (hX : ∀ i, zP (gp X i)) (hc : canN n = true) (bk : Bool) : (litP X bk n).2.length = n ∧ ∀ i, zP (gp (litP X bk n).2 i) := by
  unfold canN at hc
  rw [decide_eq_true_eq] at hc
  unfold litP
  have mem : ∀ (L : List PZ), (∀ x ∈ L, zP x) → ∀ i, zP (gp L i) := fun L h i => by
    unfold gp
    rw [List.getD_eq_getElem?_getD]
    cases hi : L[i]? with
    | none => exact z_zero
    | some x => exact h x (List.mem_of_getElem? hi)
  by_cases h2 : n = 2
  · rw [if_pos h2]
    subst h2
    refine ⟨rfl, mem _ fun x hx => ?_⟩
    rcases List.mem_cons.1 hx with rfl | hx
    · exact z_add (hX 0) (hX 1)
    · rw [List.mem_singleton.1 hx]; exact z_sub (hX 0) (hX 1)
  · rw [if_neg h2]
    by_cases h4 : n = 4
    · rw [if_pos h4]
      subst h4
      have e := z_turn (z_sub (hX 1) (hX 3)) (!bk)
      refine ⟨rfl, mem _ fun x hx => ?_⟩
      unfold four4P at hx
      simp only [List.mem_cons, List.not_mem_nil, or_false] at hx
      rcases hx with rfl | rfl | rfl | rfl
      · exact z_add (z_add (hX 0) (hX 2)) (z_add (hX 1) (hX 3))
      · exact z_add (z_sub (hX 0) (hX 2)) e
      · exact z_sub (z_add (hX 0) (hX 2)) (z_add (hX 1) (hX 3))
      · exact z_sub (z_sub (hX 0) (hX 2)) e
    · rw [if_neg h4]
      obtain ⟨h, hh⟩ : ∃ h, (n - 1) / 2 = h := ⟨_, rfl⟩
      have hz : ∀ m i, zP (gp (List.replicate m (0, 0)) i) := fun m i => by rw [gp_repl]; exact z_zero
      obtain ⟨a1, a2, a3, a4⟩ := zero_oA (n := n) hX h 0 ((0 : Int), List.replicate h (0, 0), List.replicate h (0, 0), (List.replicate n (0, 0)).set 0 (gp X 0)) (hz h) (hz h) (z_set (hz n) 0 (hX 0))
      unfold oddRP oddTP oddSP
      rw [hh]
      exact zero_oB hX a1 a2 bk h 1 _ (a4.trans (by show ((List.replicate n ((0 : Int), (0 : Int))).set 0 (gp X 0)).length = n; rw [List.length_set, List.length_replicate])) a3

/-! ### Noughts times a point -/
theorem mu_nt {a b : Nat} (ha : nt a) (hb : absN b < infN) : nt (muPN a b 0) := by
  have h1 := (nt_abs ha).1
  have h0 : 0 < infN := by decide +kernel
  have hp : pdS a b = 0 := by unfold pdS; rw [(nt_abs ha).2, Nat.zero_mul]
  unfold muPN
  rw [if_neg (by omega), if_neg (show ¬ nzz a b by unfold nzz; omega), if_neg (by omega), hp]
  unfold rndP sizeP sgnOf
  rw [if_pos rfl]
  cases pdM a b
  · exact .inl rfl
  · exact .inr rfl
def pMul (x y : PZ) : PZ := (((fmPN x.1.toNat y.1.toNat (negN (muPN x.2.toNat y.2.toNat 0)) 0 : Nat) : Int), ((fmPN x.1.toNat y.2.toNat (muPN x.2.toNat y.1.toNat 0) 0 : Nat) : Int))
theorem cMul_p : cMul = pMul := by funext x y; unfold cMul pMul cMulP cMulQ fmP muP; simp only [stk_eq]
theorem z_mul {x y : PZ} (hx : zP x) (h1 : absN y.1.toNat < infN) (h2 : absN y.2.toNat < infN) : zP (pMul x y) := by
  unfold pMul zP
  rw [tonN, tonN]
  exact ⟨fm_nt hx.1 h1 (neg_nt (mu_nt hx.2 h2)), fm_nt hx.1 h2 (mu_nt hx.2 h1)⟩
end Go.Proofs.Ytbakldcbaikgpaa

/- A single 1 at the begin, by any radices: plain Lean. Own work. -/
namespace Go.Proofs.Ytbakldcbaikgpaa
set_option maxRecDepth 100000

/-! ### Where the first number goes -/
theorem ordS_ge : ∀ (R : List Int) (rest room a : Int), fits R room → 0 ≤ rest → rest < room → 0 ≤ a → a ≤ ordS R rest room a ∧ (ordS R rest room a = a → rest = 0)
  | [], rest, room, a, hf, h0, h1, _ => by
    have : room = 1 := hf
    exact ⟨Int.le_refl _, fun _ => by omega⟩
  | r :: R, rest, room, a, hf, h0, h1, ha => by
    obtain ⟨f1, f2, f3, f4⟩ := hf
    obtain ⟨q0, q1, q2, q3, q4, q5⟩ := ord_next (B := a + room) f1 f3 h0 h1 ha (Int.le_refl _)
    obtain ⟨i1, i2⟩ := ordS_ge R (rest / r) (room / r) (a + rest % r * (room / r)) f4 q0 q1 q3
    refine ⟨by show a ≤ ordS R _ _ _; omega, fun he => ?_⟩
    have he' : ordS R (rest / r) (room / r) (a + rest % r * (room / r)) = a := he
    have e1 : rest % r * (room / r) = 0 := by omega
    have e2 := i2 (by omega)
    have e3 : rest % r = 0 := by
      rcases Int.mul_eq_zero.1 e1 with h | h
      · exact h
      · omega
    have := Int.mul_ediv_add_emod rest r
    rw [e2, e3] at this
    omega
theorem ordS_zero : ∀ (R : List Int) (room a : Int), ordS R 0 room a = a
  | [], _, _ => rfl
  | r :: R, room, a => by
    show ordS R (0 / r) (room / r) (a + 0 % r * (room / r)) = a
    rw [Int.zero_ediv, Int.zero_emod, Int.zero_mul, Int.add_zero]
    exact ordS_zero R _ _

/-- Of one list: ones ahead, then noughts. -/
def lead2 (n s : Nat) (C : List PZ) : Prop := C.length = n ∧ ∀ x, x < n → (x < s → oP (gp C x)) ∧ (s ≤ x → zP (gp C x))
theorem gp_set_ne {L : List PZ} {i j : Nat} (h : i ≠ j) (x : PZ) : gp (L.set i x) j = gp L j := gpne h x
theorem iS_lead {R : List Int} {n : Nat} (hf : fits R (n : Nat)) (h1 : 1 ≤ n) {X : List PZ} (hX : lead2 n 1 X) : lead2 n 1 (iS (ordP R n) X n 0 (List.replicate n (0, 0))) := by
  have key : ∀ (q i : Nat) (O : List PZ), i + q = n → O.length = n → (∀ x, 0 < x → x < n → zP (gp O x)) → (0 < i → oP (gp O 0)) →
      (iS (ordP R n) X q i O).length = n ∧ (∀ x, 0 < x → x < n → zP (gp (iS (ordP R n) X q i O) x)) ∧ (0 < i + q → oP (gp (iS (ordP R n) X q i O) 0)) := by
    intro q
    induction q with
    | zero => intro i O hi hl hz ho; exact ⟨hl, hz, ho⟩
    | succ q ih =>
      intro i O hi hl hz ho
      have hg := ordP_get R n i (by omega)
      obtain ⟨g1, g2⟩ := ordS_ge R (i : Nat) n 0 hf (by omega) (by omega) (Int.le_refl _)
      have g3 := (ordS_range R (i : Nat) n 0 n hf (by omega) (by omega) (by omega) (by omega)).2
      have e : i + (q + 1) = i + 1 + q := by omega
      have hq : iS (ordP R n) X (q + 1) i O = iS (ordP R n) X q (i + 1) (O.set ((ordP R n).getD i 0).toNat (gp X i)) := rfl
      rw [hq, e, hg]
      by_cases h0 : i = 0
      · subst h0
        have e0 : ordS R ((0 : Nat) : Int) n 0 = 0 := ordS_zero R n 0
        have hO := (hX.2 0 (by omega)).1 (by omega)
        refine ih 1 (O.set (ordS R ((0 : Nat) : Int) n 0).toNat (gp X 0)) (by omega) (by rw [List.length_set]; exact hl) (fun x hx hxn => ?_) (fun _ => ?_)
        · rw [e0]
          show zP (gp (O.set 0 (gp X 0)) x)
          rw [gpne (show 0 ≠ x by omega)]
          exact hz x hx hxn
        · rw [e0]
          show oP (gp (O.set 0 (gp X 0)) 0)
          rw [gp_set (by omega)]
          exact hO
      · have hne : ordS R ((i : Nat) : Int) n 0 ≠ 0 := fun hc => h0 (by have := g2 hc; omega)
        have hZ := (hX.2 i (by omega)).2 (by omega)
        refine ih (i + 1) (O.set (ordS R ((i : Nat) : Int) n 0).toNat (gp X i)) (by omega) (by rw [List.length_set]; exact hl) (fun x hx hxn => ?_) (fun _ => ?_)
        · by_cases hx2 : (ordS R ((i : Nat) : Int) n 0).toNat = x
          · rw [hx2, gp_set (by omega)]
            exact hZ
          · rw [gpne hx2]
            exact hz x hx hxn
        · rw [gpne (show (ordS R ((i : Nat) : Int) n 0).toNat ≠ 0 by omega)]
          exact ho (by omega)
  obtain ⟨a1, a2, a3⟩ := key n 0 (List.replicate n (0, 0)) (by omega) List.length_replicate (fun x _ _ => by rw [gp_repl]; exact z_zero) (fun h => absurd h (by omega))
  refine ⟨a1, fun x hx => ⟨fun h => ?_, fun h => a2 x (by omega) hx⟩⟩
  obtain rfl : x = 0 := by omega
  exact a3 (by omega)

/-! ### Times a point -/
theorem root_p (q n : Int) : absN (rootP q n).1.toNat < infN ∧ absN (rootP q n).2.toNat < infN := by
  unfold rootP cosR sinR
  rw [stk_eq, stk_eq]
  exact ⟨cos_fin q n, sin_fin q n⟩
theorem pnt_z {x : PZ} (hx : zP x) (f : Int) (bk : Bool) (p n : Int) : zP (pnt f x bk p n).1 := by
  unfold pnt
  split
  · exact hx
  · rw [cMul_p]
    obtain ⟨h1, h2⟩ := root_p (ptQ bk p) n
    exact z_mul hx h1 h2
theorem pnt_o {x : PZ} (f : Int) (bk : Bool) (n : Int) : (pnt f x bk 0 n).1 = x := by
  unfold pnt
  rw [if_pos rfl]
/-- What a transform is of: the first one by itself, noughts of noughts. -/
theorem jS_get {C : List PZ} (lo m k N : Nat) (bk : Bool) {nt : Nat} : ∀ (q j : Nat) (s : JS), j + q = nt → s.2.length = nt →
    (jS C lo m k N bk q j s).2.length = nt ∧ (∀ i, i < j → gp (jS C lo m k N bk q j s).2 i = gp s.2 i) ∧ (∀ i, j ≤ i → i < nt → zP (gp C (lo + (i * m + k))) → zP (gp (jS C lo m k N bk q j s).2 i)) ∧ (j = 0 → 0 < nt → gp (jS C lo m k N bk q j s).2 0 = gp C (lo + k))
  | 0, j, s, hj, hl => ⟨hl, fun i _ => rfl, fun i h1 h2 => absurd h1 (by omega), fun h1 h2 => absurd h1 (by omega)⟩
  | q + 1, j, s, hj, hl => by
    have hl' : (s.2.set j (pnt s.1 (gp C (lo + (j * m + k))) bk (j * k : Nat) N).1).length = nt := by rw [List.length_set]; exact hl
    obtain ⟨a1, a2, a3, a4⟩ := jS_get (C := C) lo m k N bk q (j + 1) (jS1 C lo m k N bk j s) (by omega) hl'
    refine ⟨a1, fun i hi => ?_, fun i h1 h2 hz => ?_, fun h1 h2 => ?_⟩
    · refine (a2 i (by omega)).trans ?_
      exact gpne (by omega) _
    · by_cases he : i = j
      · subst he
        have := a2 i (by omega)
        show zP (gp (jS C lo m k N bk q (i + 1) (jS1 C lo m k N bk i s)).2 i)
        rw [this]
        show zP (gp (s.2.set i _) i)
        rw [gp_set (by omega)]
        exact pnt_z hz _ _ _ _
      · exact a3 i (by omega) h2 hz
    · subst h1
      refine (a2 0 (by omega)).trans ?_
      show gp (s.2.set 0 _) 0 = _
      rw [gp_set (by omega), Nat.zero_mul, Nat.zero_mul, Nat.zero_add]
      exact pnt_o _ _ _
theorem qS_get (L : List PZ) (lo m k : Nat) (hm : 0 < m) (hk : k < m) {nt : Nat} : ∀ (q i : Nat) (C : List PZ), i + q = nt → lo + nt * m ≤ C.length →
    (∀ x, gp (qS L lo m k q i C) x = gp C x ∨ ∃ j, i ≤ j ∧ j < nt ∧ x = lo + (k + j * m) ∧ gp (qS L lo m k q i C) x = gp L j) ∧ (∀ j, i ≤ j → j < nt → gp (qS L lo m k q i C) (lo + (k + j * m)) = gp L j)
  | 0, i, C, hi, _ => ⟨fun x => .inl rfl, fun j h1 h2 => absurd h1 (by omega)⟩
  | q + 1, i, C, hi, hl => by
    have him : i * m + m ≤ nt * m := by rw [← Nat.succ_mul]; exact Nat.mul_le_mul_right m (by omega)
    obtain ⟨a1, a2⟩ := qS_get L lo m k hm hk (nt := nt) q (i + 1) (C.set (lo + (k + i * m)) (gp L i)) (by omega) (by rw [List.length_set]; exact hl)
    refine ⟨fun x => ?_, fun j h1 h2 => ?_⟩
    · rcases a1 x with h | ⟨j, h1, h2, h3, h4⟩
      · by_cases hx : lo + (k + i * m) = x
        · right
          refine ⟨i, Nat.le_refl _, by omega, hx.symm, ?_⟩
          refine h.trans ?_
          rw [← hx, gp_set (by omega)]
        · left
          exact h.trans (gpne hx _)
      · exact .inr ⟨j, by omega, h2, h3, h4⟩
    · by_cases he : j = i
      · subst he
        rcases a1 (lo + (k + j * m)) with h | ⟨j', h3, h4, h5, h6⟩
        · refine h.trans ?_
          rw [gp_set (by omega)]
        · exfalso
          have : j * m = j' * m := by omega
          have := Nat.eq_of_mul_eq_mul_right hm this
          omega
      · exact a2 j (by omega) h2
end Go.Proofs.Ytbakldcbaikgpaa

/- A single 1 at the begin, by any radices: all steps. Plain Lean. Own work. -/
namespace Go.Proofs.Ytbakldcbaikgpaa
set_option maxRecDepth 100000

/-- What is a nought, out of a list's end too. -/
theorem zP_out {L : List PZ} {i : Nat} (h : L.length ≤ i) : zP (gp L i) := by
  unfold gp
  rw [List.getD_eq_getElem?_getD, List.getElem?_eq_none h]
  exact z_zero
theorem qS_len (L : List PZ) (lo m k : Nat) : ∀ (q i : Nat) (C : List PZ), (qS L lo m k q i C).length = C.length
  | 0, _, _ => rfl
  | q + 1, i, C => by
    show (qS L lo m k q (i + 1) (C.set _ _)).length = _
    rw [qS_len L lo m k q, List.length_set]
/-- A block of noughts stays one, and nothing else is touched. -/
theorem kS_zero {n lo m N r : Nat} (hc : canN (r : Int) = true) (hm : 0 < m) (hN : m * r = N) (hlo : lo + N ≤ n) (bk : Bool) : ∀ (q k : Nat) (s : KS), k + q = m → s.2.1.length = n → s.2.2.length = r → (∀ x, lo ≤ x → x < lo + N → zP (gp s.2.1 x)) →
    (kS lo m N r bk q k s).2.1.length = n ∧ (∀ x, lo ≤ x → x < lo + N → zP (gp (kS lo m N r bk q k s).2.1 x)) ∧ ∀ x, (x < lo ∨ lo + N ≤ x) → gp (kS lo m N r bk q k s).2.1 x = gp s.2.1 x
  | 0, _, _, _, hl, _, hz => ⟨hl, hz, fun _ _ => rfl⟩
  | q + 1, k, s, hk, hl, hT, hz => by
    have hrm : r * m = N := by rw [Nat.mul_comm]; exact hN
    obtain ⟨t1, t2, t3, -⟩ := jS_get (C := s.2.1) lo m k N bk (nt := r) r 0 (s.1, s.2.2) (by omega) hT
    have hTz : ∀ i, zP (gp (jS s.2.1 lo m k N bk r 0 (s.1, s.2.2)).2 i) := fun i => by
      by_cases hi : i < r
      · exact t3 i (Nat.zero_le _) hi (hz _ (by omega) (by have := blk_idx hi (show k < m by omega) hN; omega))
      · exact zP_out (by omega)
    obtain ⟨l1, l2⟩ := zero_lit (n := r) hTz hc bk
    rw [← litR_p] at l1 l2
    have hlen : lo + r * m ≤ s.2.1.length := by omega
    obtain ⟨q1, -⟩ := qS_get (litR (jS s.2.1 lo m k N bk r 0 (s.1, s.2.2)).2 bk r).2 lo m k hm (by omega) (nt := r) r 0 s.2.1 (by omega) hlen
    have hq : kS lo m N r bk (q + 1) k s = kS lo m N r bk q (k + 1) (kS1 lo m N r bk k s) := rfl
    rw [hq]
    obtain ⟨i1, i2, i3⟩ := kS_zero hc hm hN hlo bk q (k + 1) (kS1 lo m N r bk k s) (by omega) ((qS_len _ _ _ _ _ _ _).trans hl) t1 (fun x h1 h2 => by
      rcases q1 x with h | ⟨j, _, hj, hx, h⟩
      · show zP (gp (qS _ lo m k r 0 s.2.1) x)
        rw [h]; exact hz x h1 h2
      · show zP (gp (qS _ lo m k r 0 s.2.1) x)
        rw [h]; exact l2 j)
    refine ⟨i1, i2, fun x hx => (i3 x hx).trans ?_⟩
    rcases q1 x with h | ⟨j, _, hj, he, _⟩
    · exact h
    · exfalso
      have := blk_idx hj (show k < m by omega) hN
      omega
/-- The first block: ones in its first part become ones. -/
theorem kS_lead {n m N r : Nat} (hc : canN (r : Int) = true) (hm : 0 < m) (hN : m * r = N) (hlo : N ≤ n) (bk : Bool) : ∀ (q k : Nat) (s : KS), k + q = m → s.2.1.length = n → s.2.2.length = r →
    (∀ x, x < N → (x % m < k → oP (gp s.2.1 x)) ∧ (k ≤ x % m → (x < m → oP (gp s.2.1 x)) ∧ (m ≤ x → zP (gp s.2.1 x)))) →
    (kS 0 m N r bk q k s).2.1.length = n ∧ (∀ x, x < N → oP (gp (kS 0 m N r bk q k s).2.1 x)) ∧ ∀ x, N ≤ x → gp (kS 0 m N r bk q k s).2.1 x = gp s.2.1 x
  | 0, k, s, hk, hl, _, hz => ⟨hl, fun x hx => (hz x hx).1 (by have := Nat.mod_lt x hm; omega), fun _ _ => rfl⟩
  | q + 1, k, s, hk, hl, hT, hz => by
    have hrm : r * m = N := by rw [Nat.mul_comm]; exact hN
    have hr : 0 < r := by have := (can_le hc).1; omega
    obtain ⟨t1, t2, t3, t4⟩ := jS_get (C := s.2.1) 0 m k N bk (nt := r) r 0 (s.1, s.2.2) (by omega) hT
    have hkm : k < m := by omega
    have hkN : k < N := by
      have : m * 1 ≤ m * r := Nat.mul_le_mul_left m hr
      omega
    have hmod : ∀ j, (j * m + k) % m = k := fun j => by rw [Nat.mul_comm, Nat.mul_add_mod, Nat.mod_eq_of_lt hkm]
    have hT0 : oP (gp (jS s.2.1 0 m k N bk r 0 (s.1, s.2.2)).2 0) := by
      rw [t4 rfl hr, Nat.zero_add]
      exact ((hz k hkN).2 (by rw [Nat.mod_eq_of_lt hkm]; omega)).1 hkm
    have hTz : ∀ i, 0 < i → i < r → zP (gp (jS s.2.1 0 m k N bk r 0 (s.1, s.2.2)).2 i) := fun i h0 hi => by
      refine t3 i (Nat.zero_le _) hi ?_
      rw [Nat.zero_add]
      have hb := blk_idx hi hkm hN
      have hge : 1 * m ≤ i * m := Nat.mul_le_mul_right m h0
      exact ((hz _ hb).2 (by rw [hmod]; omega)).2 (by omega)
    obtain ⟨l1, l2⟩ := lead_lit (n := r) ⟨hT0, hTz⟩ hc bk
    rw [← litR_p] at l1 l2
    have hlen : 0 + r * m ≤ s.2.1.length := by omega
    obtain ⟨q1, q2⟩ := qS_get (litR (jS s.2.1 0 m k N bk r 0 (s.1, s.2.2)).2 bk r).2 0 m k hm hkm (nt := r) r 0 s.2.1 (by omega) hlen
    have hq : kS 0 m N r bk (q + 1) k s = kS 0 m N r bk q (k + 1) (kS1 0 m N r bk k s) := rfl
    rw [hq]
    obtain ⟨i1, i2, i3⟩ := kS_lead hc hm hN hlo bk q (k + 1) (kS1 0 m N r bk k s) (by omega) ((qS_len _ _ _ _ _ _ _).trans hl) t1 (fun x hx => by
      show (_ → oP (gp (qS _ 0 m k r 0 s.2.1) x)) ∧ (_ → (_ → oP (gp (qS _ 0 m k r 0 s.2.1) x)) ∧ (_ → zP (gp (qS _ 0 m k r 0 s.2.1) x)))
      by_cases he : x % m = k
      · have hx2 : x = 0 + (k + x / m * m) := by
          have := Nat.div_add_mod x m
          rw [Nat.mul_comm] at this
          omega
        have hj : x / m < r := by
          rw [Nat.div_lt_iff_lt_mul hm, hrm]; exact hx
        have h := q2 (x / m) (Nat.zero_le _) hj
        rw [← hx2] at h
        rw [h]
        exact ⟨fun _ => l2 _ hj, fun h2 => absurd h2 (by omega)⟩
      · have h : gp (qS (litR (jS s.2.1 0 m k N bk r 0 (s.1, s.2.2)).2 bk r).2 0 m k r 0 s.2.1) x = gp s.2.1 x := by
          rcases q1 x with h | ⟨j, _, hj, hx2, _⟩
          · exact h
          · exfalso
            apply he
            rw [hx2, Nat.zero_add, Nat.add_comm, hmod]
        rw [h]
        obtain ⟨z1, z2⟩ := hz x hx
        exact ⟨fun h2 => z1 (by omega), fun h2 => z2 (by omega)⟩)
    refine ⟨i1, i2, fun x hx => (i3 x hx).trans ?_⟩
    rcases q1 x with h | ⟨j, _, hj, he, _⟩
    · exact h
    · exfalso
      have := blk_idx hj hkm hN
      omega
theorem blkR_zero {n lo N r : Nat} (hc : canN (r : Int) = true) (hd : N % r = 0) (h0 : 0 < N) (hlo : lo + N ≤ n) (bk : Bool) (f : Int) {C : List PZ} (hl : C.length = n) (hz : ∀ x, lo ≤ x → x < lo + N → zP (gp C x)) :
    (blkR f C lo N r bk).2.length = n ∧ (∀ x, lo ≤ x → x < lo + N → zP (gp (blkR f C lo N r bk).2 x)) ∧ ∀ x, (x < lo ∨ lo + N ≤ x) → gp (blkR f C lo N r bk).2 x = gp C x := by
  have hr := (can_le hc).1
  have hm : N / r * r = N := Nat.div_mul_cancel (Nat.dvd_of_mod_eq_zero hd)
  have hp : 0 < N / r := Nat.div_pos (Nat.le_of_dvd h0 (Nat.dvd_of_mod_eq_zero hd)) (by omega)
  exact kS_zero hc hp hm hlo bk (N / r) 0 (f, C, List.replicate r (0, 0)) (by omega) hl List.length_replicate hz
theorem blkR_lead {n N r : Nat} (hc : canN (r : Int) = true) (hd : N % r = 0) (h0 : 0 < N) (hlo : N ≤ n) (bk : Bool) (f : Int) {C : List PZ} (h : lead2 n (N / r) C) :
    lead2 n N (blkR f C 0 N r bk).2 := by
  have hr := (can_le hc).1
  have hm : N / r * r = N := Nat.div_mul_cancel (Nat.dvd_of_mod_eq_zero hd)
  have hp : 0 < N / r := Nat.div_pos (Nat.le_of_dvd h0 (Nat.dvd_of_mod_eq_zero hd)) (by omega)
  have hle := Nat.div_le_self N r
  obtain ⟨a1, a2, a3⟩ := kS_lead hc hp hm hlo bk (N / r) 0 (f, C, List.replicate r (0, 0)) (by omega) h.1 List.length_replicate (fun x hx => ⟨fun h2 => absurd h2 (by omega), fun _ => h.2 x (by omega)⟩)
  refine ⟨a1, fun x hx => ⟨fun h2 => a2 x h2, fun h2 => ?_⟩⟩
  have := a3 x h2
  show zP (gp (kS 0 (N / r) N r bk (N / r) 0 (f, C, List.replicate r (0, 0))).2.1 x)
  rw [this]
  exact (h.2 x hx).2 (by show N / r ≤ x; omega)
theorem fS_zero {n size r s0 : Nat} (hc : canN (r : Int) = true) (hd : size % r = 0) (h0 : 0 < size) (bk : Bool) : ∀ (q fr : Nat) (s : CS), s0 ≤ fr → fr + q * size = n → lead2 n s0 s.2 → lead2 n s0 (fS bk size r q fr s).2
  | 0, _, _, _, _, h => h
  | q + 1, fr, s, hf, hn, h => by
    rw [Nat.add_mul, Nat.one_mul] at hn
    have hq : 0 ≤ q * size := Nat.zero_le _
    obtain ⟨a1, a2, a3⟩ := blkR_zero (n := n) hc hd h0 (lo := fr) (by omega) bk s.1 h.1 (fun x h1 h2 => (h.2 x (by omega)).2 (by omega))
    refine fS_zero hc hd h0 bk q (fr + size) _ (by omega) (by omega) ⟨a1, fun x hx => ⟨fun h2 => ?_, fun h2 => ?_⟩⟩
    · rw [a3 x (by omega)]; exact (h.2 x hx).1 h2
    · by_cases hx2 : x < fr ∨ fr + size ≤ x
      · rw [a3 x hx2]; exact (h.2 x hx).2 h2
      · exact a2 x (by omega) (by omega)
theorem fS_lead {n size r : Nat} (hc : canN (r : Int) = true) (hd : size % r = 0) (h0 : 0 < size) (hn : n % size = 0) (hn0 : 0 < n) (bk : Bool) (s : CS) (h : lead2 n (size / r) s.2) : lead2 n size (fS bk size r (n / size) 0 s).2 := by
  have hm : n / size * size = n := Nat.div_mul_cancel (Nat.dvd_of_mod_eq_zero hn)
  have hp : 0 < n / size := Nat.div_pos (Nat.le_of_dvd hn0 (Nat.dvd_of_mod_eq_zero hn)) h0
  obtain ⟨q, hq⟩ : ∃ q, n / size = q + 1 := ⟨n / size - 1, by omega⟩
  rw [hq] at hm ⊢
  have hm2 : size + q * size = n := by rw [Nat.add_mul, Nat.one_mul] at hm; omega
  have h1 := blkR_lead hc hd h0 (n := n) (by omega) bk s.1 h
  have := fS_zero (n := n) hc hd h0 bk q (0 + size) (blkR s.1 s.2 0 size r bk) (by omega) (by omega) h1
  exact this
theorem rS_lead {R : List Int} {n : Nat} (hn0 : 0 < n) (hc : ∀ r ∈ R, canN r = true) (bk : Bool) : ∀ (c size : Nat) (s : CS), c ≤ R.length → 1 ≤ size → prN (R.take c) * size = n → lead2 n size s.2 → lead2 n n (rS R bk n c size s).2
  | 0, size, s, _, _, hp, h => by
    have : prN (R.take 0) = 1 := rfl
    rw [this, Nat.one_mul] at hp
    subst hp
    exact h
  | c + 1, size, s, hc1, h1, hp, h => by
    have hlt : c < R.length := by omega
    rw [take_snoc hlt, prN_append] at hp
    have hmem : R.getD c 0 ∈ R := by
      rw [List.getD_eq_getElem?_getD, List.getElem?_eq_getElem hlt]
      exact List.getElem_mem _
    have hcan := hc _ hmem
    have hr2 := can_le hcan
    obtain ⟨r, hr⟩ : ∃ r : Nat, R.getD c 0 = r := ⟨(R.getD c 0).toNat, (Int.toNat_of_nonneg (by omega)).symm⟩
    rw [hr] at hp hcan hr2
    have hp2 : prN (R.take c) * (size * r) = n := by
      rw [← hp]
      show _ = prN (R.take c) * (r * 1) * size
      rw [Nat.mul_one, Nat.mul_assoc, Nat.mul_comm size r]
    have hs1 : 1 ≤ size * r := Nat.mul_le_mul h1 (show 1 ≤ r by omega)
    have hq : rS R bk n (c + 1) size s = rS R bk n c (size * r) (fS bk (size * r) r (n / (size * r)) 0 s) := by
      show rS R bk n c (size * (R.getD c 0).toNat) (fS bk (size * (R.getD c 0).toNat) (R.getD c 0).toNat (n / (size * (R.getD c 0).toNat)) 0 s) = _
      rw [hr, Int.toNat_natCast]
    rw [hq]
    refine rS_lead hn0 hc bk c (size * r) _ (by omega) hs1 hp2 ?_
    refine fS_lead hcan (Nat.mul_mod_left size r) (by omega) (Nat.mod_eq_zero_of_dvd ⟨prN (R.take c), by rw [← hp2, Nat.mul_comm]⟩) hn0 bk s ?_
    rw [Nat.mul_div_cancel _ (by omega)]
    exact h
/-- Of a single 1 at the begin all answers are 1. -/
theorem parR_ones {R : List Int} {X : List PZ} {n : Nat} (hp : prN R = n) (h1 : 1 ≤ n) (hc : ∀ r ∈ R, canN r = true) (hX : lead2 n 1 X) (bk : Bool) : lead2 n n (parR R X bk n).2 := by
  have hf : fits R (n : Nat) := by rw [← hp]; exact fits_pr R hc
  refine rS_lead (by omega) hc bk R.length 1 _ (Nat.le_refl _) (Nat.le_refl _) (by rw [List.take_length, Nat.mul_one]; exact hp) ?_
  exact iS_lead hf h1 hX
end Go.Proofs.Ytbakldcbaikgpaa
