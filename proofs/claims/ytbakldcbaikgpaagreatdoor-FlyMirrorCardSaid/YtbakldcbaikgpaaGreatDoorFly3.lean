/- fly: odd's rounds. Own work. -/
import Derived.Test.YtbakldcbaikgpaaGreatDoorFly2
namespace Go.Proofs.YtbakldcbaikgpaaGreatDoor
set_option maxRecDepth 100000
noncomputable section

theorem okL_iff {L : List PZ} : okL L = true ↔ ∀ x ∈ L, okPr x = true := by unfold okL; rw [stk_eq, List.all_eq_true]
theorem pzE (x : PZ) : (x.1, x.2) = x := rfl
theorem okPr_zero : okPr (0, 0) = true := okPr_iff.2 ⟨inU_iff.2 (by decide), inU_iff.2 (by decide)⟩
theorem gp_ok {L : List PZ} (h : okL L = true) (i : Nat) : okPr (gp L i) = true := by
  unfold gp
  rw [List.getD_eq_getElem?_getD]
  cases hi : L[i]? with
  | none => exact okPr_zero
  | some x => exact okL_iff.1 h x (List.mem_of_getElem? hi)
theorem okL_set {L : List PZ} (h : okL L = true) (i : Nat) {x : PZ} (hx : okPr x = true) : okL (L.set i x) = true := by
  refine okL_iff.2 fun y hy => ?_
  rcases List.mem_or_eq_of_mem_set hy with h1 | h1
  · exact okL_iff.1 h y h1
  · rw [h1]; exact hx
theorem gp_set {L : List PZ} {i : Nat} (h : i < L.length) (x : PZ) : gp (L.set i x) i = x := by
  unfold gp
  rw [List.getD_eq_getElem?_getD, List.getElem?_set_self h]
  rfl
theorem inX_at {j n : Nat} (h : j < n) : inX (j : Int) n = true := by
  unfold inX
  rw [decide_eq_true (show (0 : Int) ≤ j by omega), decide_eq_true (show (j : Int) < n by omega)]
  rfl

/-! ### Sums and differences -/
def vsA (hs hd no n : Nat) (X : List PZ) (bk : Bool) (N H H2 j : Int) (s : FS) : List AV :=
  [.st [.int .u8 s.1], .prs hs .u64 s.2.1, .prs hd .u64 s.2.2.1, .prs no .u64 s.2.2.2, .sl (.prs n .u64 X), .bool bk, .int .i64 N, .int .i64 H, .func 34, .func 35, .int .i64 H2, .int .i64 j]
def vsAo (hs hd no n : Nat) (X : List PZ) (bk : Bool) (N H : Int) (s : FS) : List AV :=
  [.st [.int .u8 s.1], .prs hs .u64 s.2.1, .prs hd .u64 s.2.2.1, .prs no .u64 s.2.2.2, .sl (.prs n .u64 X), .bool bk, .int .i64 N, .int .i64 H]
theorem A0_end (R : Type) (hs hd no n : Nat) (X : List PZ) (bk : Bool) (N H H2 j : Int) (s : FS) (k1 : List AV → Option R) (k2 : Nat → List AV → Option R) (h : ¬ j < H2) :
    stepA0 R (vsA hs hd no n X bk N H H2 j s) k1 k2 = k2 0 (vsAo hs hd no n X bk N H s) := by
  unfold vsA stepA0
  simp only [h, decide_false, cond_false]
  rfl
theorem A0_step (R : Type) (h n : Nat) (X : List PZ) (bk : Bool) (H : Int) (j : Nat) (s : FS) (k1 : List AV → Option R) (k2 : Nat → List AV → Option R) (hj : j < h) (hn : 2 * h < n) (hn2 : n ≤ 1000)
    (hX : okL X = true) (hO : okL s.2.2.2 = true) (hS : s.2.1.length = h) :
    stepA0 R (vsA h h n n X bk n H h j s) k1 k2 = k1 (vsA h h n n X bk n H h ((j + 1 : Nat) : Int) (oA1 X n j s)) := by
  have e1 : w64 ((j : Int) + 1) = ((j + 1 : Nat) : Int) := by rw [w64_mid (by omega) (by omega)]; omega
  have e2 : w64 (w64 ((n : Int) - j) - 1) = ((n - j - 1 : Nat) : Int) := by rw [w64_mid (x := (n : Int) - j) (by omega) (by omega), w64_mid (by omega) (by omega)]; omega
  have c1 : inX (((j + 1 : Nat) : Int)) n = true := inX_at (by omega)
  have c2 : inX (((n - j - 1 : Nat) : Int)) n = true := inX_at (by omega)
  have c3 : inX (j : Int) h = true := inX_at hj
  have c4 : inX 0 n = true := inX_at (show 0 < n by omega)
  have p1 := gp_ok hX (j + 1)
  have p2 := gp_ok hX (n - j - 1)
  have p3 := gp_ok hO 0
  have p4 : okPr (gp (s.2.1.set j (cAdd (gp X (j + 1)) (gp X (n - j - 1)))) j) = true := by rw [gp_set (by omega)]; exact okPr_add p1 p2
  unfold vsA stepA0
  simp only [decide_eq_true (show (j : Int) < (h : Int) by omega), cond_true, e1, e2, Int.toNat_natCast, c1, c2, c3, c4, p1, p2, p3, p4, Bool.and_self, chk]
  rfl
theorem A0_loop (R : Type) (h n : Nat) (X : List PZ) (bk : Bool) (H : Int) (kk : Nat → List AV → Option R) (hn : 2 * h < n) (hn2 : n ≤ 1000) (hX : okL X = true) :
    ∀ (q j : Nat) (s : FS), j + q = h → okL s.2.2.2 = true → s.2.1.length = h →
    loopN (stepA0 R) (q + 1) (vsA h h n n X bk n H h j s) kk = kk 0 (vsAo h h n n X bk n H (oA X n q j s))
  | 0, j, s, hj, _, _ => by
    rw [loopN, A0_end R h h n n X bk n H h j s _ kk (by omega)]
    rfl
  | q + 1, j, s, hj, hO, hS => by
    rw [loopN, A0_step R h n X bk H j s _ kk (by omega) hn hn2 hX hO hS]
    have hO' : okL (oA1 X n j s).2.2.2 = true := okL_set hO 0 (okPr_add (gp_ok hO 0) (by rw [gp_set (by omega)]; exact okPr_add (gp_ok hX _) (gp_ok hX _)))
    rw [A0_loop R h n X bk H kk hn hn2 hX q (j + 1) (oA1 X n j s) (by omega) hO' (by show (s.2.1.set j _).length = h; rw [List.length_set]; exact hS)]
    rfl
theorem oA_ok {X : List PZ} {n h : Nat} (hX : okL X = true) : ∀ (q j : Nat) (s : FS), okL s.2.1 = true → okL s.2.2.1 = true → okL s.2.2.2 = true → s.2.1.length = h → s.2.2.1.length = h → s.2.2.2.length = n → j + q = h →
    okL (oA X n q j s).2.1 = true ∧ okL (oA X n q j s).2.2.1 = true ∧ okL (oA X n q j s).2.2.2 = true ∧ (oA X n q j s).2.1.length = h ∧ (oA X n q j s).2.2.1.length = h ∧ (oA X n q j s).2.2.2.length = n
  | 0, j, s, h1, h2, h3, h4, h5, h6, _ => ⟨h1, h2, h3, h4, h5, h6⟩
  | q + 1, j, s, h1, h2, h3, h4, h5, h6, hj => by
    have p1 := gp_ok hX (j + 1)
    have p2 := gp_ok hX (n - j - 1)
    have p3 : okL (s.2.1.set j (cAdd (gp X (j + 1)) (gp X (n - j - 1)))) = true := okL_set h1 j (okPr_add p1 p2)
    exact oA_ok hX q (j + 1) (oA1 X n j s) p3 (okL_set h2 j (okPr_sub p1 p2)) (okL_set h3 0 (okPr_add (gp_ok h3 0) (gp_ok p3 j)))
      (by show (s.2.1.set j _).length = h; rw [List.length_set]; exact h4) (by show (s.2.2.1.set j _).length = h; rw [List.length_set]; exact h5) (by show (s.2.2.2.set 0 _).length = n; rw [List.length_set]; exact h6) (by omega)
theorem go_A0 (R : Type) (n : Nat) (vs : List AV) (kk : Nat → List AV → Option R) (r : R) (h : leA0.go R n vs kk = some r) : ∃ m, loopN (stepA0 R) m vs kk = some r := by
  simp only [leA0] at h
  split at h
  · rename_i f hs S hd D no O n X bk N H H2
    obtain ⟨hg, hk⟩ := chk_some h
    clear h
    unfold fitA at hg
    rw [stk_eq] at hg
    simp only [Bool.and_eq_true, decide_eq_true_eq] at hg
    obtain ⟨⟨⟨rfl, rfl, rfl, rfl, g1, g2, g3, g4, g5, g6⟩, hX⟩, hO⟩ := hg
    refine ⟨hd + 1, (A0_loop R hd no X bk H kk g5 g6 hX hd 0 (f, S, D, O) (by omega) hO g1).trans ?_⟩
    unfold oAk at hk
    rw [stk_eq] at hk
    exact hk
  · cases h

/-! ### One answer's two parts -/
def vsI (hs hd no n : Nat) (S D O X : List PZ) (bk : Bool) (N H k H2 j : Int) (s : IS) : List AV :=
  [.st [.int .u8 s.1], .prs hs .u64 S, .prs hd .u64 D, .prs no .u64 O, .st [.int .u64 s.2.1.1, .int .u64 s.2.1.2], .st [.int .u64 s.2.2.1, .int .u64 s.2.2.2], .sl (.prs n .u64 X), .bool bk, .int .i64 N, .int .i64 H, .int .i64 k, .int .i64 H2, .int .i64 j]
def vsIo (hs hd no n : Nat) (S D O X : List PZ) (bk : Bool) (N H k : Int) (s : IS) : List AV :=
  [.st [.int .u8 s.1], .prs hs .u64 S, .prs hd .u64 D, .prs no .u64 O, .st [.int .u64 s.2.1.1, .int .u64 s.2.1.2], .st [.int .u64 s.2.2.1, .int .u64 s.2.2.2], .sl (.prs n .u64 X), .bool bk, .int .i64 N, .int .i64 H, .int .i64 k]
theorem I4_end (R : Type) (hs hd no n : Nat) (S D O X : List PZ) (bk : Bool) (N H k H2 j : Int) (s : IS) (k1 : List AV → Option R) (k2 : Nat → List AV → Option R) (h : ¬ j < H2) :
    stepI4 R (vsI hs hd no n S D O X bk N H k H2 j s) k1 k2 = k2 0 (vsIo hs hd no n S D O X bk N H k s) := by
  unfold vsI stepI4
  simp only [h, decide_false, cond_false]
  rfl
theorem inU_cosR (k n : Int) : inU (cosR k n) = true := by
  rw [show cosR k n = (cosZ k n : Int) by unfold cosR; rw [stk_eq]]
  exact inU_nat (cosK_le _ _).2
theorem inU_sinR (k n : Int) : inU (sinR k n) = true := by
  rw [show sinR k n = (sinZ k n : Int) by unfold sinR; rw [stk_eq]]
  exact inU_nat (sinK_le _ _).2
theorem I4_step (R : Type) (h no n : Nat) (S D O X : List PZ) (bk : Bool) (H : Int) (k j : Nat) (s : IS) (k1 : List AV → Option R) (k2 : Nat → List AV → Option R) (hj : j < h) (hn : 2 * h < n) (hn2 : n ≤ 1000) (hk : k ≤ 1000)
    (hS : okL S = true) (hD : okL D = true) (ha : okPr s.2.1 = true) (hb : okPr s.2.2 = true) :
    stepI4 R (vsI h h no n S D O X bk n H k h j s) k1 k2 = k1 (vsI h h no n S D O X bk n H k h ((j + 1 : Nat) : Int) (iA1 S D k n j s)) := by
  have e1 : w64 ((j : Int) + 1) = ((j + 1 : Nat) : Int) := by rw [w64_mid (by omega) (by omega)]; omega
  have hm : (j + 1) * k ≤ 1000 * 1000 := Nat.mul_le_mul (by omega) hk
  have e2 : w64 (((j + 1 : Nat) : Int) * k) = (((j + 1) * k : Nat) : Int) := by rw [← Int.natCast_mul, w64_mid (by omega) (by omega)]
  have c3 : inX (j : Int) h = true := inX_at hj
  have cN : okN (n : Int) = true := okN_iff.2 (by omega)
  have p1 := gp_ok hS j
  have p2 := gp_ok hD j
  unfold vsI stepI4
  simp only [decide_eq_true (show (j : Int) < (h : Int) by omega), cond_true, e1, e2, Int.toNat_natCast, c3, cN, p1, p2, inU_cosR, inU_sinR, ha, hb, pzE, Bool.and_self, chk]
  rfl
theorem iA1_ok (S D : List PZ) (k n j : Nat) (s : IS) (ha : okPr s.2.1 = true) (hb : okPr s.2.2 = true) : okPr (iA1 S D k n j s).2.1 = true ∧ okPr (iA1 S D k n j s).2.2 = true :=
  ⟨okPr_more _ _ ha, okPr_more _ _ hb⟩
theorem I4_loop (R : Type) (h no n : Nat) (S D O X : List PZ) (bk : Bool) (H : Int) (k : Nat) (kk : Nat → List AV → Option R) (hn : 2 * h < n) (hn2 : n ≤ 1000) (hk : k ≤ 1000) (hS : okL S = true) (hD : okL D = true) :
    ∀ (q j : Nat) (s : IS), j + q = h → okPr s.2.1 = true → okPr s.2.2 = true →
    loopN (stepI4 R) (q + 1) (vsI h h no n S D O X bk n H k h j s) kk = kk 0 (vsIo h h no n S D O X bk n H k (iA S D k n q j s))
  | 0, j, s, hj, _, _ => by
    rw [loopN, I4_end R h h no n S D O X bk n H k h j s _ kk (by omega)]
    rfl
  | q + 1, j, s, hj, ha, hb => by
    rw [loopN, I4_step R h no n S D O X bk H k j s _ kk (by omega) hn hn2 hk hS hD ha hb]
    obtain ⟨h1, h2⟩ := iA1_ok S D k n j s ha hb
    rw [I4_loop R h no n S D O X bk H k kk hn hn2 hk hS hD q (j + 1) (iA1 S D k n j s) (by omega) h1 h2]
    rfl
theorem iA_ok (S D : List PZ) (k n : Nat) : ∀ (q j : Nat) (s : IS), okPr s.2.1 = true → okPr s.2.2 = true → okPr (iA S D k n q j s).2.1 = true ∧ okPr (iA S D k n q j s).2.2 = true
  | 0, j, s, h1, h2 => ⟨h1, h2⟩
  | q + 1, j, s, h1, h2 => by
    obtain ⟨h3, h4⟩ := iA1_ok S D k n j s h1 h2
    exact iA_ok S D k n q (j + 1) _ h3 h4
theorem go_I4 (R : Type) (n : Nat) (vs : List AV) (kk : Nat → List AV → Option R) (r : R) (h : leI4.go R n vs kk = some r) : ∃ m, loopN (stepI4 R) m vs kk = some r := by
  simp only [leI4] at h
  split at h
  · rename_i f hs S hd D no O a1 a2 b1 b2 n X bk N H k H2
    obtain ⟨hg, hk⟩ := chk_some h
    clear h
    unfold fitI at hg
    rw [stk_eq] at hg
    simp only [Bool.and_eq_true, decide_eq_true_eq] at hg
    obtain ⟨⟨⟨⟨⟨rfl, rfl, rfl, g1, g2, g3, g4, g5, g6⟩, hS⟩, hD⟩, ha⟩, hb⟩ := hg
    obtain ⟨k, rfl⟩ : ∃ m : Nat, k = m := ⟨k.toNat, (Int.toNat_of_nonneg g5).symm⟩
    refine ⟨hd + 1, (I4_loop R hd no n S D O X bk H k kk g3 g4 (by omega) hS hD hd 0 (f, (a1, a2), (b1, b2)) (by omega) ha hb).trans ?_⟩
    unfold iAk at hk
    rw [stk_eq, Int.toNat_natCast] at hk
    exact hk
  · cases h

/-! ### All answers -/
def vsB (hs hd no n : Nat) (S D X : List PZ) (bk : Bool) (N H k : Int) (s : BS) : List AV :=
  [.st [.int .u8 s.1], .prs hs .u64 S, .prs hd .u64 D, .prs no .u64 s.2, .sl (.prs n .u64 X), .bool bk, .int .i64 N, .int .i64 H, .int .i64 k]
def vsBo (no : Nat) (s : BS) : List AV := [.st [.int .u8 s.1], .prs no .u64 s.2]
theorem B2_end (R : Type) (hs hd no n : Nat) (S D X : List PZ) (bk : Bool) (N H k : Int) (s : BS) (k1 : List AV → Option R) (k2 : Nat → List AV → Option R) (h : ¬ k ≤ H) :
    stepB2 R (vsB hs hd no n S D X bk N H k s) k1 k2 = k2 0 (vsBo no s) := by
  unfold vsB stepB2
  simp only [h, decide_false, cond_false]
  rfl
theorem B2_step (R : Type) (h n : Nat) (S D X : List PZ) (bk : Bool) (k : Nat) (s : BS) (k1 : List AV → Option R) (k2 : Nat → List AV → Option R) (hk0 : 0 < k) (hk : k ≤ h) (hn : 2 * h < n) (hn2 : n ≤ 1000)
    (hX : okL X = true) (hS : okL S = true) (hD : okL D = true) (lS : S.length = h) (lD : D.length = h) :
    stepB2 R (vsB h h n n S D X bk n h k s) k1 k2 = k1 (vsB h h n n S D X bk n h ((k + 1 : Nat) : Int) (oB1 X S D bk n h k s)) := by
  have e1 : w64 ((k : Int) + 1) = ((k + 1 : Nat) : Int) := by rw [w64_mid (by omega) (by omega)]; omega
  have e2 : w64 ((n : Int) - k) = ((n - k : Nat) : Int) := by rw [w64_mid (by omega) (by omega)]; omega
  have c0 : inX 0 n = true := inX_at (show 0 < n by omega)
  have c1 : inX (k : Int) n = true := inX_at (by omega)
  have c2 : inX ((n - k : Nat) : Int) n = true := inX_at (by omega)
  have p0 := gp_ok hX 0
  have fI : fitI h h n S D (gp X 0) (0, 0) (n : Int) (k : Int) (h : Int) = true := by
    unfold fitI
    rw [stk_eq, decide_eq_true ⟨rfl, rfl, rfl, lS, lD, hn, hn2, by omega, by omega⟩, hS, hD, p0, okPr_zero]
    rfl
  have hr : iAk S D (k : Int) n h s.1 (gp X 0) (0, 0) = iA S D k n h 0 (s.1, gp X 0, (0, 0)) := by unfold iAk; rw [stk_eq, Int.toNat_natCast]
  obtain ⟨q1, q2⟩ := iA_ok S D k n h 0 (s.1, gp X 0, (0, 0)) p0 okPr_zero
  have q3 := okPr_turn q2 (!bk)
  unfold vsB stepB2
  simp only [decide_eq_true (show (k : Int) ≤ (h : Int) by omega), cond_true, pzE, hr, e1, e2, Int.toNat_natCast, c0, c1, c2, fI, q1, q2, q3, Bool.and_self, chk]
  rfl
theorem B2_loop (R : Type) (h n : Nat) (S D X : List PZ) (bk : Bool) (kk : Nat → List AV → Option R) (hn : 2 * h < n) (hn2 : n ≤ 1000)
    (hX : okL X = true) (hS : okL S = true) (hD : okL D = true) (lS : S.length = h) (lD : D.length = h) : ∀ (q k : Nat) (s : BS), 0 < k → k + q = h + 1 →
    loopN (stepB2 R) (q + 1) (vsB h h n n S D X bk n h k s) kk = kk 0 (vsBo n (oB X S D bk n h q k s))
  | 0, k, s, hk0, hk => by
    rw [loopN, B2_end R h h n n S D X bk n h k s _ kk (by omega)]
    rfl
  | q + 1, k, s, hk0, hk => by
    rw [loopN, B2_step R h n S D X bk k s _ kk hk0 (by omega) hn hn2 hX hS hD lS lD]
    rw [B2_loop R h n S D X bk kk hn hn2 hX hS hD lS lD q (k + 1) (oB1 X S D bk n h k s) (by omega) (by omega)]
    rfl
theorem go_B2 (R : Type) (n : Nat) (vs : List AV) (kk : Nat → List AV → Option R) (r : R) (h : leB2.go R n vs kk = some r) : ∃ m, loopN (stepB2 R) m vs kk = some r := by
  simp only [leB2] at h
  split at h
  · rename_i f hs S hd D no O n X bk N H
    obtain ⟨hg, hk⟩ := chk_some h
    clear h
    unfold fitB at hg
    rw [stk_eq] at hg
    simp only [Bool.and_eq_true, decide_eq_true_eq] at hg
    obtain ⟨⟨⟨⟨rfl, rfl, rfl, rfl, g1, g2, g3, g4, g5, g6⟩, hX⟩, hS⟩, hD⟩ := hg
    refine ⟨hd + 1, (B2_loop R hd no S D X bk kk g5 g6 hX hS hD g1 g2 hd 1 (f, O) (by omega) (by omega)).trans ?_⟩
    unfold oBk at hk
    rw [stk_eq] at hk
    exact hk
  · cases h
end
end Go.Proofs.YtbakldcbaikgpaaGreatDoor
