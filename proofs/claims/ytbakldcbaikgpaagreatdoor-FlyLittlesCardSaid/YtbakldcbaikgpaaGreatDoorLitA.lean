/- The texts LitN, LitL, joined. Own work. -/
import Derived.Test.YtbakldcbaikgpaaGreatDoorRef16
import Derived.Test.YtbakldcbaikgpaaGreatDoorRef15
import Derived.Test.YtbakldcbaikgpaaGreatDoorFly5
import Derived.Test.YtbakldcbaikgpaaGreatDoorGive18
import Derived.Test.YtbakldcbaikgpaaGreatDoorErr2
/- The little transform: the program's answers are the reference's. Plain Lean. Own work. -/
namespace Go.Proofs.YtbakldcbaikgpaaGreatDoor
set_option maxRecDepth 100000
noncomputable section
def b8 (x : Int) : BitVec 8 := BitVec.ofInt 8 x
theorem b8_or (x y : Int) : b8 (orI .u8 x y) = b8 x ||| b8 y := by unfold b8; rw [or8, ofInt8]
theorem b8_inj {x y : Int} (hx : fl8 x) (hy : fl8 y) (h : b8 x = b8 y) : x = y := by
  obtain ⟨a, rfl⟩ : ∃ n : Nat, x = n := ⟨x.toNat, (Int.toNat_of_nonneg hx.1).symm⟩
  obtain ⟨b, rfl⟩ : ∃ n : Nat, y = n := ⟨y.toNat, (Int.toNat_of_nonneg hy.1).symm⟩
  have h1 := hx.2
  have h2 := hy.2
  have h3 := congrArg BitVec.toNat h
  unfold b8 at h3
  rw [BitVec.ofInt_natCast, BitVec.ofInt_natCast, BitVec.toNat_ofNat, BitVec.toNat_ofNat, Nat.mod_eq_of_lt (by omega), Nat.mod_eq_of_lt (by omega)] at h3
  rw [h3]
theorem or_i1 (w u v : BitVec 8) : w ||| u ||| v ||| u = w ||| u ||| v := by
  ext i hi
  simp only [BitVec.getElem_or]
  cases w[i] <;> cases u[i] <;> cases v[i] <;> rfl
theorem or_i2 (w u v : BitVec 8) : w ||| u ||| v ||| v = w ||| u ||| v := by
  ext i hi
  simp only [BitVec.getElem_or]
  cases w[i] <;> cases u[i] <;> cases v[i] <;> rfl
theorem or_b1 (f w s d t : BitVec 8) : f ||| w ||| s ||| d ||| t = f ||| s ||| t ||| (w ||| s ||| d) := by
  ext i hi
  simp only [BitVec.getElem_or]
  cases f[i] <;> cases w[i] <;> cases s[i] <;> cases d[i] <;> cases t[i] <;> rfl
theorem or_b3 (z w u v x y : BitVec 8) (h : z ||| w = z) : z ||| u ||| v ||| x ||| y ||| (w ||| u ||| v) = z ||| u ||| v ||| x ||| y := by
  have e : z ||| u ||| v ||| x ||| y ||| (w ||| u ||| v) = (z ||| w) ||| u ||| v ||| x ||| y := by
    ext i hi
    simp only [BitVec.getElem_or]
    cases z[i] <;> cases w[i] <;> cases u[i] <;> cases v[i] <;> cases x[i] <;> cases y[i] <;> rfl
  rw [e, h]
theorem or_b4 (z w p q : BitVec 8) (h : z ||| w = z) : z ||| p ||| q ||| w = z ||| p ||| q := by
  have e : z ||| p ||| q ||| w = (z ||| w) ||| p ||| q := by ac_rfl
  rw [e, h]
/-- The flags of the first sums and differences. -/
def sdB (X : List PZ) (n : Nat) : Nat → BitVec 8
  | 0 => 0
  | j + 1 => sdB X n j ||| b8 (cAddF (gp X (j + 1)) (gp X (n - (j + 1)))) ||| b8 (cSubF (gp X (j + 1)) (gp X (n - (j + 1))))
theorem sdB_mem (X : List PZ) (n : Nat) : ∀ (h j : Nat), j < h → sdB X n h ||| b8 (cAddF (gp X (j + 1)) (gp X (n - (j + 1)))) = sdB X n h ∧ sdB X n h ||| b8 (cSubF (gp X (j + 1)) (gp X (n - (j + 1)))) = sdB X n h
  | h + 1, j, hj => by
    by_cases h1 : j = h
    · subst h1
      rw [sdB]
      exact ⟨or_i1 _ _ _, or_i2 _ _ _⟩
    · obtain ⟨e1, e2⟩ := sdB_mem X n h j (by omega)
      rw [sdB]
      generalize b8 (cAddF (gp X (h + 1)) (gp X (n - (h + 1)))) = u at *
      generalize b8 (cSubF (gp X (h + 1)) (gp X (n - (h + 1)))) = v at *
      generalize b8 (cAddF (gp X (j + 1)) (gp X (n - (j + 1)))) = s at *
      generalize b8 (cSubF (gp X (j + 1)) (gp X (n - (j + 1)))) = t at *
      generalize sdB X n h = w at *
      refine ⟨?_, ?_⟩
      · rw [show w ||| u ||| v ||| s = (w ||| s) ||| u ||| v by ac_rfl, e1]
      · rw [show w ||| u ||| v ||| t = (w ||| t) ||| u ||| v by ac_rfl, e2]
/-- The first answer, and the sums and differences. -/
structure RelA (X : List PZ) (n h j : Nat) (s : FS) (t : BS) : Prop where
  o : s.2.2.2 = t.2
  f : b8 s.1 = b8 t.1 ||| sdB X n j
  lS : s.2.1.length = h
  lD : s.2.2.1.length = h
  sd : ∀ i, i < j → gp s.2.1 i = cAdd (gp X (i + 1)) (gp X (n - (i + 1))) ∧ gp s.2.2.1 i = cSub (gp X (i + 1)) (gp X (n - (i + 1)))
theorem RelA.step {X : List PZ} {n h j : Nat} {s : FS} {t : BS} (r : RelA X n h j s t) (hj : j < h) : RelA X n h (j + 1) (oA1 X n j s) (lA1 X n (j + 1) t) := by
  have e : n - j - 1 = n - (j + 1) := by omega
  have g1 : gp (s.2.1.set j (cAdd (gp X (j + 1)) (gp X (n - (j + 1))))) j = cAdd (gp X (j + 1)) (gp X (n - (j + 1))) := gp_set (by rw [r.lS]; exact hj) _
  have g2 : gp (s.2.2.1.set j (cSub (gp X (j + 1)) (gp X (n - (j + 1))))) j = cSub (gp X (j + 1)) (gp X (n - (j + 1))) := gp_set (by rw [r.lD]; exact hj) _
  unfold oA1 lA1
  rw [e]
  refine ⟨?_, ?_, ?_, ?_, ?_⟩
  · show s.2.2.2.set 0 _ = t.2.set 0 _
    rw [r.o, g1]
  · show b8 (orI .u8 (orI .u8 (orI .u8 s.1 _) _) (cAddF (gp s.2.2.2 0) _)) = b8 (orI .u8 (orI .u8 t.1 _) _) ||| sdB X n (j + 1)
    rw [b8_or, b8_or, b8_or, b8_or, b8_or, r.f, r.o, g1, sdB]
    exact or_b1 _ _ _ _ _
  · show (s.2.1.set j _).length = h
    rw [List.length_set]; exact r.lS
  · show (s.2.2.1.set j _).length = h
    rw [List.length_set]; exact r.lD
  · intro i hi
    show gp (s.2.1.set j _) i = _ ∧ gp (s.2.2.1.set j _) i = _
    by_cases h1 : i = j
    · subst h1
      exact ⟨g1, g2⟩
    · rw [gp_ne (fun h => h1 h.symm), gp_ne (fun h => h1 h.symm)]
      exact r.sd i (by omega)
theorem relA_loop {X : List PZ} {n h : Nat} : ∀ (q j : Nat) (s : FS) (t : BS), j + q = h → RelA X n h j s t → RelA X n h h (oA X n q j s) (lA X n q (j + 1) t)
  | 0, j, s, t, hj, r => by
    have e : j = h := by omega
    subst e
    exact r
  | q + 1, j, s, t, hj, r => relA_loop q (j + 1) (oA1 X n j s) (lA1 X n (j + 1) t) (by omega) (r.step (by omega))
/-- One answer's two parts. -/
structure RelI (X : List PZ) (n h : Nat) (s t : IS) : Prop where
  v : s.2 = t.2
  f : b8 s.1 = b8 t.1 ||| sdB X n h
theorem relI_loop {X P S D : List PZ} {n h k : Nat} (hS : ∀ i, i < h → gp S i = cAdd (gp X (i + 1)) (gp X (n - (i + 1))) ∧ gp D i = cSub (gp X (i + 1)) (gp X (n - (i + 1))))
    (hP : ∀ i, i < h → gp P ((i + 1) * k % n) = (cosR (((i + 1) * k : Nat) : Int) n, sinR (((i + 1) * k : Nat) : Int) n)) : ∀ (q j : Nat) (s t : IS), j + q = h → RelI X n h s t → b8 t.1 ||| sdB X n j = b8 t.1 →
    RelI X n h (iA S D k n q j s) (lI X P k n q (j + 1) t) ∧ b8 (lI X P k n q (j + 1) t).1 ||| sdB X n h = b8 (lI X P k n q (j + 1) t).1
  | 0, j, s, t, hj, r, ha => by
    have e : j = h := by omega
    subst e
    exact ⟨r, ha⟩
  | q + 1, j, s, t, hj, r, ha => by
    obtain ⟨e1, e2⟩ := hS j (by omega)
    have e3 := hP j (by omega)
    obtain ⟨m1, m2⟩ := sdB_mem X n h j (by omega)
    have c1 : (gp P ((j + 1) * k % n)).1 = cosR (((j + 1) * k : Nat) : Int) n := by rw [e3]
    have c2 : (gp P ((j + 1) * k % n)).2 = sinR (((j + 1) * k : Nat) : Int) n := by rw [e3]
    refine relI_loop hS hP q (j + 1) (iA1 S D k n j s) (lI1 X P k n (j + 1) t) (by omega) ⟨?_, ?_⟩ ?_
    · simp only [iA1, lI1, e1, e2, c1, c2, r.v]
    · simp only [iA1, lI1, e1, e2, c1, c2, r.v]
      rw [b8_or, b8_or, b8_or, b8_or, b8_or, b8_or, r.f]
      generalize b8 (cAddF (gp X (j + 1)) (gp X (n - (j + 1)))) = u at *
      generalize b8 (cSubF (gp X (j + 1)) (gp X (n - (j + 1)))) = v at *
      generalize sdB X n h = w at *
      generalize b8 (cMoreF _ _ _) = x
      generalize b8 (cMoreF _ _ _) = y
      generalize b8 t.1 = z
      rw [show z ||| u ||| v ||| x ||| y ||| w = z ||| ((w ||| u) ||| v) ||| x ||| y by ac_rfl, m1, m2]
    · unfold lI1
      show b8 (orI .u8 (orI .u8 (orI .u8 (orI .u8 t.1 _) _) _) _) ||| _ = b8 (orI .u8 (orI .u8 (orI .u8 (orI .u8 t.1 _) _) _) _)
      rw [b8_or, b8_or, b8_or, b8_or, sdB]
      exact or_b3 _ _ _ _ _ _ ha
/-- All answers. -/
structure RelB (X : List PZ) (n h : Nat) (s t : BS) : Prop where
  o : s.2 = t.2
  f : b8 s.1 = b8 t.1 ||| sdB X n h
theorem relB_loop {X P S D : List PZ} {bk : Bool} {n h : Nat} (hh : h = (n - 1) / 2) (hS : ∀ i, i < h → gp S i = cAdd (gp X (i + 1)) (gp X (n - (i + 1))) ∧ gp D i = cSub (gp X (i + 1)) (gp X (n - (i + 1))))
    (hP : ∀ i k, i < h → k ≤ h → gp P ((i + 1) * k % n) = (cosR (((i + 1) * k : Nat) : Int) n, sinR (((i + 1) * k : Nat) : Int) n)) : ∀ (q k : Nat) (s t : BS), k + q = h + 1 → RelB X n h s t → (q = 0 → b8 t.1 ||| sdB X n h = b8 t.1) →
    (oB X S D bk n h q k s).2 = (lB X P bk n q k t).2 ∧ b8 (oB X S D bk n h q k s).1 = b8 (lB X P bk n q k t).1
  | 0, k, s, t, hk, r, ha => ⟨r.o, r.f.trans (ha rfl)⟩
  | q + 1, k, s, t, hk, r, ha => by
    obtain ⟨i1, i2⟩ := relI_loop (S := S) (D := D) (P := P) (k := k) hS (fun i hi => hP i k hi (by omega)) h 0 (s.1, gp X 0, (0, 0)) (t.1, gp X 0, (0, 0)) (by omega) ⟨rfl, r.f⟩ (by rw [sdB]; exact BitVec.or_zero)
    have ev := i1.v
    have ef := i1.f
    have hstep : RelB X n h (oB1 X S D bk n h k s) (lB1 X P bk n k t) ∧ b8 (lB1 X P bk n k t).1 ||| sdB X n h = b8 (lB1 X P bk n k t).1 := by
      simp only [Nat.zero_add] at ev ef i2
      simp only [oB1, lB1]
      rw [← hh, ev]
      generalize lI X P k n h 1 (t.1, gp X 0, (0, 0)) = z at *
      generalize iA S D k n h 0 (s.1, gp X 0, (0, 0)) = y at *
      refine ⟨⟨?_, ?_⟩, ?_⟩
      · show (s.2.set k _).set (n - k) _ = (t.2.set k _).set (n - k) _
        rw [r.o]
      · show b8 (orI .u8 (orI .u8 y.1 _) _) = b8 (orI .u8 (orI .u8 z.1 _) _) ||| _
        rw [b8_or, b8_or, b8_or, b8_or, ef]
        ac_rfl
      · show b8 (orI .u8 (orI .u8 z.1 _) _) ||| _ = b8 (orI .u8 (orI .u8 z.1 _) _)
        rw [b8_or, b8_or]
        exact or_b4 _ _ _ _ i2
    exact relB_loop hh hS hP q (k + 1) _ _ (by omega) hstep.1 (fun _ => hstep.2)
theorem or8_fl (x y : Int) : fl8 (orI .u8 x y) := by
  rw [or8]
  exact ⟨by omega, by have := (BitVec.ofInt 8 x ||| BitVec.ofInt 8 y).isLt; omega⟩
theorem oB_fl (X S D : List PZ) (bk : Bool) (n h : Nat) : ∀ (q k : Nat) (s : BS), fl8 s.1 → fl8 (oB X S D bk n h q k s).1
  | 0, _, _, h => h
  | q + 1, k, _, _ => oB_fl X S D bk n h q (k + 1) _ (or8_fl _ _)
theorem lB_fl (X P : List PZ) (bk : Bool) (n : Nat) : ∀ (q k : Nat) (s : BS), fl8 s.1 → fl8 (lB X P bk n q k s).1
  | 0, _, _, h => h
  | q + 1, k, _, _ => lB_fl X P bk n q (k + 1) _ (or8_fl _ _)
theorem oA_fl (X : List PZ) (n : Nat) : ∀ (q k : Nat) (s : FS), fl8 s.1 → fl8 (oA X n q k s).1
  | 0, _, _, h => h
  | q + 1, k, _, _ => oA_fl X n q (k + 1) _ (or8_fl _ _)
theorem lA_fl (X : List PZ) (n : Nat) : ∀ (q k : Nat) (s : BS), fl8 s.1 → fl8 (lA X n q k s).1
  | 0, _, _, h => h
  | q + 1, k, _, _ => lA_fl X n q (k + 1) _ (or8_fl _ _)
theorem fl8_0 : fl8 0 := ⟨by decide, by decide⟩
theorem lit_same {n : Nat} {X : List PZ} (hc : canN n = true) (ho : n % 2 = 1) (bk : Bool) : litR X bk n = rLi X (ptsF n n) bk n := by
  have hc2 := hc
  unfold canN at hc2
  rw [decide_eq_true_eq] at hc2
  obtain ⟨h, hh⟩ : ∃ h, (n - 1) / 2 = h := ⟨_, rfl⟩
  have rA := relA_loop (X := X) (n := n) (h := h) h 0 ((0 : Int), List.replicate h (0, 0), List.replicate h (0, 0), (List.replicate n (0, 0)).set 0 (gp X 0)) (0, (List.replicate n (0, 0)).set 0 (gp X 0)) (by omega)
    ⟨rfl, by rw [sdB]; exact BitVec.or_zero.symm, List.length_replicate, List.length_replicate, fun i hi => absurd hi (by omega)⟩
  have fA := oA_fl X n h 0 ((0 : Int), List.replicate h (0, 0), List.replicate h (0, 0), (List.replicate n (0, 0)).set 0 (gp X 0)) fl8_0
  have fB := lA_fl X n h 1 ((0 : Int), (List.replicate n (0, 0)).set 0 (gp X 0)) fl8_0
  unfold litR rLi
  rw [if_neg (by omega), if_neg (by omega)]
  unfold oddR oddSf
  rw [hh]
  rw [Nat.zero_add] at rA
  generalize oA X n h 0 ((0 : Int), List.replicate h (0, 0), List.replicate h (0, 0), (List.replicate n (0, 0)).set 0 (gp X 0)) = s at *
  generalize lA X n h 1 ((0 : Int), (List.replicate n (0, 0)).set 0 (gp X 0)) = t at *
  have hP : ∀ i k, i < h → k ≤ h → gp (ptsF n n) ((i + 1) * k % n) = (cosR (((i + 1) * k : Nat) : Int) n, sinR (((i + 1) * k : Nat) : Int) n) := by
    intro i k hi hk
    have hm : (i + 1) * k ≤ 6 * 6 := Nat.mul_le_mul (by omega) (by omega)
    rw [cosR_p, sinR_p]
    exact pts_eq hc ho (by omega)
  obtain ⟨e1, e2⟩ := relB_loop (bk := bk) hh.symm rA.sd hP h 1 (s.1, s.2.2.2) t (by omega) ⟨rA.o, rA.f⟩ (fun h0 => absurd h0 (by omega))
  have e3 := b8_inj (oB_fl X s.2.1 s.2.2.1 bk n h h 1 (s.1, s.2.2.2) fA) (lB_fl X (ptsF n n) bk n h 1 t fB) e2
  exact Prod.ext e3 e1
end
end Go.Proofs.YtbakldcbaikgpaaGreatDoor
/- tillerlaw18: FlyLittles. Own work. -/
namespace Go.Proofs.YtbakldcbaikgpaaGreatDoor
set_option maxRecDepth 100000
noncomputable section
theorem run_rcan (n : Int) : callA (env Tryz.f16.ntmps [] []) (bodyC Tryz.f16) Tryz.f16.results.toList (slots 0 [.int .i64 n]) some =
    bif n == 2 then some (.bool true) else bif n == 3 then some (.bool true) else bif n == 4 then some (.bool true) else bif n == 5 then some (.bool true) else bif n == 7 then some (.bool true) else bif n == 11 then some (.bool true) else some (.bool (n == 13)) := by kernel_rfl
theorem ok_rcan : EntOk Tryz.prog 16 (entS false sp_can) := by
  refine contractS (orc := []) (lo := []) Tryz.func16 orc_nil (by kernel_rfl) (by kernel_rfl) (by kernel_rfl) (loops_none (by kernel_rfl)) fun args r h => ?_
  unfold sp_can at h
  split at h
  · rename_i n
    simp only [Option.some.injEq, Prod.mk.injEq] at h
    obtain ⟨-, rfl⟩ := h
    refine ⟨by kernel_rfl, .inr rfl, (run_rcan n).trans ?_⟩
    unfold canK
    rw [stk_eq]
    by_cases h2 : n = 2
    · subst h2; rfl
    by_cases h3 : n = 3
    · subst h3; rfl
    by_cases h4 : n = 4
    · subst h4; rfl
    by_cases h5 : n = 5
    · subst h5; rfl
    by_cases h7 : n = 7
    · subst h7; rfl
    by_cases h11 : n = 11
    · subst h11; rfl
    by_cases h13 : n = 13
    · subst h13; rfl
    rw [beq_eq_false_iff_ne.2 h2, beq_eq_false_iff_ne.2 h3, beq_eq_false_iff_ne.2 h4, beq_eq_false_iff_ne.2 h5, beq_eq_false_iff_ne.2 h7, beq_eq_false_iff_ne.2 h11, beq_eq_false_iff_ne.2 h13]
    unfold canN
    rw [decide_eq_false (by omega)]
    rfl
  · cases h
/-! ### The law -/
def orcFL : List (FuncId × Ent) := [(14, entS false sp_gv), (13, entB false sp_lit), (15, entS false sp_can), (16, entS false sp_can), (17, entS false sp_num), (18, entS false sp_tt), (20, entS true sp_ps), (19, entB true sp_rLi), (21, entS false sp_sm)]
def lT : Option AV := some (.bool true)
def lF : Option AV := some (.bool false)
def flT (n : Nat) (L : BS) (m : Nat) (M : List PZ) (F : Int) : Option AV := chk (fitSm n m L.2 M) (bif w64 L.1 == F then lT else lF)
def flP (n : Nat) (X : List PZ) (bk : Bool) (K : Nat → List PZ → Int → Option AV) : Option AV :=
  chk (fitPs n) (chk (fitLi n X (n : Int).toNat (ptsK n)) (bif (n : Int) == 2 then K 2 (two2 X) (orF2 X) else bif (n : Int) == 4 then K 4 (four_4 X bk) (orF4 X bk) else K n (rLik X (ptsK n) bk n).2 (rLik X (ptsK n) bk n).1))
theorem run_fl (n : Nat) (X : List PZ) (bk : Bool) : callA (env Tryz.f4.ntmps orcFL []) (bodyC Tryz.f4) Tryz.f4.results.toList (slots 0 [.sl (.prs n .u64 X), .bool bk]) some =
    chk (fitG n X) (chk (fitX n X) (bif !(canK n) then (bif !(canK n == canK n) then lF else bif !(canK n) then lT else flP n X bk (fun _ _ _ => lF)) else (bif !(canK n == canK n) then lF else bif !(canK n) then lF else flP n X bk (flT n (litK X bk n))))) := by kernel_rfl
def sp_fl : List AV → Option (Bool × AV)
  | [.sl (.prs n .u64 X), .bool _] => some (fitG n X && fitX n X, .bool true)
  | _ => none
theorem ptsF_ok (n : Nat) : ∀ q, okL (ptsF n q) = true
  | 0 => okL_iff.2 fun x hx => by cases hx
  | q + 1 => okL_iff.2 fun x hx => by
    rw [ptsF, List.mem_append, List.mem_singleton] at hx
    rcases hx with hx | rfl
    · exact okL_iff.1 (ptsF_ok n q) x hx
    · have hr : ∀ m V, inU (rn16 m V) = true := fun m V => by
        unfold rn16
        refine inU_nat ?_
        split
        · decide
        · exact rnd_lt _ _ _ _
      rw [pzR_q]
      exact okPr_iff.2 ⟨hr _ _, hr _ _⟩
theorem lit_fl {n : Nat} {X : List PZ} (bk : Bool) : fl8 (litR X bk n).1 := by
  unfold litR
  split
  · exact or8_fl _ _
  · split
    · exact (show ∀ (l : List Int) (f : Int), fl8 f → fl8 (orL f l) from fun l => by
        induction l with
        | nil => exact fun f h => h
        | cons g l ih => exact fun f _ => ih _ (or8_fl _ _)) _ _ fl8_0
    · unfold oddR oddSf
      exact oB_fl _ _ _ _ _ _ _ _ _ (oA_fl _ _ _ _ _ fl8_0)
theorem flT_ok {n : Nat} {X : List PZ} {bk : Bool} {M : List PZ} {F : Int} (hn : n ≤ 13) (h : litR X bk n = (F, M)) : flT n (litK X bk n) n M F = lT := by
  have hf := lit_fl (X := X) (n := n) bk
  have e : litK X bk n = (F, M) := by unfold litK; rw [stk_eq, h]
  rw [h] at hf
  have e1 : w64 F = F := w64_mid (by have := hf.1; omega) (by have := hf.2; omega)
  have e2 : fitSm n n M M = true := by unfold fitSm; rw [stk_eq, decide_eq_true ⟨rfl, rfl, by omega⟩]
  unfold flT
  rw [e]
  show chk (fitSm n n M M) (bif w64 F == F then lT else lF) = lT
  rw [e1, e2, beq_self_eq_true]
  rfl
theorem ok_fl : EntOk Tryz.prog 4 (entS false sp_fl) := by
  refine contractS (orc := orcFL) (lo := []) Tryz.func4 (orc_cons ok_gv (orc_cons ok_lit (orc_cons ok_can (orc_cons ok_rcan (orc_cons ok_num18 (orc_cons ok_lsure18 (orc_cons ok_ps (orc_cons ok_rLi (orc_cons ok_sm orc_nil))))))))) (by kernel_rfl) (by kernel_rfl) (by kernel_rfl) (loops_none (by kernel_rfl)) fun args r h => ?_
  unfold sp_fl at h
  split at h
  · rename_i n X bk
    simp only [Option.some.injEq, Prod.mk.injEq, Bool.and_eq_true] at h
    obtain ⟨⟨g1, g2⟩, rfl⟩ := h
    refine ⟨by kernel_rfl, .inr rfl, (run_fl n X bk).trans ?_⟩
    have hx := g2
    unfold fitX at hx
    simp only [stk_eq, decide_eq_true_eq, Bool.and_eq_true] at hx
    rw [g1, g2, beq_self_eq_true]
    cases hc : canK (n : Int) with
    | false => rfl
    | true =>
      have hcn : canN (n : Int) = true := by unfold canK at hc; rwa [stk_eq] at hc
      have hc' := hcn
      unfold canN at hc'
      rw [decide_eq_true_eq] at hc'
      have hr := okRs_can hcn
      have f1 : fitPs (n : Int) = true := by
        unfold fitPs
        rw [stk_eq, Int.toNat_natCast, hr, decide_eq_true (by omega)]; rfl
      have f2 : ptsK (n : Int) = ptsF n n := by unfold ptsK; rw [stk_eq, Int.toNat_natCast]
      have f3 : fitLi n X n (ptsF n n) = true := by
        unfold fitLi
        rw [stk_eq, hx.2, ptsF_ok, decide_eq_true ⟨hx.1, rfl, ptsF_len n n, by omega, by omega, by omega⟩]; rfl
      simp only [Bool.not_true, cond_false, chk, cond_true]
      show flP n X bk (flT n (litK X bk n)) = lT
      unfold flP
      rw [f1, f2, Int.toNat_natCast, f3]
      simp only [chk, cond_true]
      by_cases h2 : n = 2
      · subst h2
        rw [show (((2 : Nat) : Int) == 2) = true by decide]
        refine flT_ok (by decide) ?_
        unfold litR orF2 two2
        rw [if_pos rfl, stk_eq, or8_zero (cAddF_fl _ _)]
      · rw [beq_eq_false_iff_ne.2 (show (n : Int) ≠ 2 by omega)]
        by_cases h4 : n = 4
        · subst h4
          rw [show (((4 : Nat) : Int) == 4) = true by decide]
          refine flT_ok (by decide) ?_
          unfold litR orF4 four_4
          rw [if_neg (by decide), if_pos rfl, stk_eq]
        · rw [beq_eq_false_iff_ne.2 (show (n : Int) ≠ 4 by omega)]
          refine flT_ok (by omega) ?_
          unfold rLik
          rw [stk_eq, lit_same hcn (by omega)]
  · cases h
end
end Go.Proofs.YtbakldcbaikgpaaGreatDoor
