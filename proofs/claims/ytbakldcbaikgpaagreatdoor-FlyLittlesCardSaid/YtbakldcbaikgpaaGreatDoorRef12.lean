/- tillerref15: series, Sin, Cos. Own work. -/
import Derived.Test.YtbakldcbaikgpaaGreatDoorRef11
namespace Go.Proofs.YtbakldcbaikgpaaGreatDoor
set_option maxRecDepth 100000
noncomputable section
/-! ### Plain -/
def W320 : Nat := 2 ^ (320 : Int).toNat
theorem W320_pos : 0 < W320 := Nat.two_pow_pos _
/-- The next term. -/
def seT (S T y : Nat) : Nat := T * S / W320 / y / (y + 1)
def seN (S : Nat) : Nat → Nat → Nat → Nat → Nat → Nat → Nat × Nat
  | 0, _, _, _, p, m => (p, m)
  | q + 1, i, T, y, p, m => if T = 0 then (p, m) else if i % 2 = 0 then seN S q (i + 1) (seT S T y) (y + 2) (p + T) m else seN S q (i + 1) (seT S T y) (y + 2) p (m + T)
theorem seT_le {S T y : Nat} (h : S ≤ W320) : T * S / W320 ≤ T ∧ T * S / W320 / y ≤ T ∧ seT S T y ≤ T := by
  have h1 : T * S / W320 ≤ T := by
    refine Nat.le_trans (Nat.div_le_div_right (Nat.mul_le_mul_left T h)) ?_
    rw [Nat.mul_div_cancel _ W320_pos]
    exact Nat.le_refl T
  have h2 : T * S / W320 / y ≤ T := Nat.le_trans (Nat.div_le_self _ _) h1
  exact ⟨h1, h2, Nat.le_trans (Nat.div_le_self _ _) h2⟩
theorem lenN_mo {a b : Nat} (h : a ≤ b) {k : Nat} (hb : lenN b ≤ k) : lenN a ≤ k := lenN_le.2 (Nat.lt_of_le_of_lt h (lenN_le.1 hb))
theorem lenN_ad {a b k : Nat} (ha : lenN a ≤ k) (hb : lenN b ≤ k) : lenN (a + b) ≤ k + 1 := by
  have h1 := lenN_le.1 ha
  have h2 := lenN_le.1 hb
  rw [lenN_le, Nat.pow_succ]
  omega
/-! ### The walk -/
def orcSe : List (FuncId × Ent) := [(125, entS true fun l => sp_dAdd (l.map nilE)), (101, entS true fun l => sp_dSub (l.map nilE)), (137, entS true sp_qCut), (152, entS true sp_sq)]
theorem orcSe_ok {nt : Nat} {lo : List (Nat × LEnt)} : OrcOk Tryz.prog (env nt orcSe lo) := orc_cons (ent_nil ok_dAdd) (orc_cons (ent_nil ok_dSub) (orc_cons ok_qCut (orc_cons ok_sq orc_nil)))
def seR2 (R : Type) (D sn : Nat) (S : List Int) (y i : Int) (P M : AV) (k1 : List AV → Option R) : Option R :=
  chk (maySq (dgl D) (dg D) (u32 (y + 1))) (k1 [avD (valD (dg D) / (u32 (y + 1)).toNat), .sl (.ints sn .u32 S), .int .u32 (u32 (y + 2)), P, M, .int .i64 (w64 (i + 1))])
def seR1 (R : Type) (C sn : Nat) (S : List Int) (y i : Int) (P M : AV) (k1 : List AV → Option R) : Option R :=
  chk (maySq (dgl C) (dg C) y) (seR2 R (valD (dg C) / y.toNat) sn S y i P M k1)
def seR (R : Type) (tn : Nat) (T : List Int) (sn : Nat) (S : List Int) (y i : Int) (P M : AV) (k1 : List AV → Option R) : Option R :=
  chk (mayMul tn T sn S) (seR1 R (valD T * valD S / 2 ^ (320 : Int).toNat) sn S y i P M k1)
def seB (R : Type) (tn : Nat) (T : List Int) (sn : Nat) (S : List Int) (y i : Int) (pn : Nat) (p : List Int) (P : AV) (mn : Nat) (m : List Int) (M : AV) (k1 : List AV → Option R) (k2 : Nat → List AV → Option R) : Option R :=
  bif decide (i < 100) then bif decide ((tn : Int) > 0) then
      bif i.tmod 2 == 0 then chk (mayC2 pn p tn T) (seR R tn T sn S y i (avD (valD p + valD T)) M k1)
      else chk (mayC2 mn m tn T) (seR R tn T sn S y i P (avD (valD m + valD T)) k1)
    else k2 0 [P, M] else k2 0 [P, M]
def stepSe (R : Type) (vs : List AV) (k1 : List AV → Option R) (k2 : Nat → List AV → Option R) : Option R :=
  match vs with
  | [.sl (.ints tn .u32 T), .sl (.ints sn .u32 S), .int .u32 y, .nils, .nils, .int .i64 i] => seB R tn T sn S y i 0 [] .nils 0 [] .nils k1 k2
  | [.sl (.ints tn .u32 T), .sl (.ints sn .u32 S), .int .u32 y, .sl (.ints pn .u32 p), .nils, .int .i64 i] => seB R tn T sn S y i pn p (.sl (.ints pn .u32 p)) 0 [] .nils k1 k2
  | [.sl (.ints tn .u32 T), .sl (.ints sn .u32 S), .int .u32 y, .sl (.ints pn .u32 p), .sl (.ints mn .u32 m), .int .i64 i] => seB R tn T sn S y i pn p (.sl (.ints pn .u32 p)) mn m (.sl (.ints mn .u32 m)) k1 k2
  | _ => none
def fitSe (tn : Nat) (T : List Int) (sn : Nat) (S : List Int) (y : Int) : Bool := stk (decide (lenN (valD T) ≤ 400 ∧ valD S ≤ W320 ∧ 1 ≤ y ∧ y ≤ 1000)) && mayD tn T && mayD sn S
def seZ0 (T : List Int) : Bool := stk (decide (valD T = 0))
def seZ1 (T S : List Int) (y : Int) : Bool := stk (decide (seT (valD S) (valD T) y.toNat = 0))
def seK (T S : List Int) (y : Int) : Nat × Nat := stk (seN (valD S) 100 0 (valD T) y.toNat 0 0)
def leSe : LEnt :=
  { inn := { fuel := none, keep := [0, 1, 2, 7, 8, 9], refs := [] }
    out := { fuel := none, keep := [7, 8], refs := [] }
    ret := { fuel := none, keep := [], refs := [] }
    go := fun _ _ vs kk => match vs with
      | [.sl (.ints tn .u32 T), .sl (.ints sn .u32 S), .int .u32 y, .nils, .nils, .int .i64 0] => chk (fitSe tn T sn S y) (bif seZ0 T then kk 0 [.nils, .nils] else bif seZ1 T S y then kk 0 [avD (0 + valD T), .nils] else kk 0 [avD (seK T S y).1, avD (seK T S y).2])
      | _ => none }
theorem step_se0 (R : Type) (tn : Nat) (T : List Int) (sn : Nat) (S : List Int) (y i : Int) (k1 : List AV → Option R) (k2 : Nat → List AV → Option R) :
    runA (env Tryz.f136.ntmps orcSe []) (loopOf 0 (bodyC Tryz.f136)) 0 (stateOf leSe.inn [.sl (.ints tn .u32 T), .sl (.ints sn .u32 S), .int .u32 y, .nils, .nils, .int .i64 i]) (bodyK leSe 0 k1 k2) =
    stepSe R [.sl (.ints tn .u32 T), .sl (.ints sn .u32 S), .int .u32 y, .nils, .nils, .int .i64 i] k1 k2 := by kernel_rfl
theorem step_se1 (R : Type) (tn : Nat) (T : List Int) (sn : Nat) (S : List Int) (y i : Int) (pn : Nat) (p : List Int) (k1 : List AV → Option R) (k2 : Nat → List AV → Option R) :
    runA (env Tryz.f136.ntmps orcSe []) (loopOf 0 (bodyC Tryz.f136)) 0 (stateOf leSe.inn [.sl (.ints tn .u32 T), .sl (.ints sn .u32 S), .int .u32 y, .sl (.ints pn .u32 p), .nils, .int .i64 i]) (bodyK leSe 0 k1 k2) =
    stepSe R [.sl (.ints tn .u32 T), .sl (.ints sn .u32 S), .int .u32 y, .sl (.ints pn .u32 p), .nils, .int .i64 i] k1 k2 := by kernel_rfl
theorem step_se2 (R : Type) (tn : Nat) (T : List Int) (sn : Nat) (S : List Int) (y i : Int) (pn : Nat) (p : List Int) (mn : Nat) (m : List Int) (k1 : List AV → Option R) (k2 : Nat → List AV → Option R) :
    runA (env Tryz.f136.ntmps orcSe []) (loopOf 0 (bodyC Tryz.f136)) 0 (stateOf leSe.inn [.sl (.ints tn .u32 T), .sl (.ints sn .u32 S), .int .u32 y, .sl (.ints pn .u32 p), .sl (.ints mn .u32 m), .int .i64 i]) (bodyK leSe 0 k1 k2) =
    stepSe R [.sl (.ints tn .u32 T), .sl (.ints sn .u32 S), .int .u32 y, .sl (.ints pn .u32 p), .sl (.ints mn .u32 m), .int .i64 i] k1 k2 := by kernel_rfl
theorem maySq_dg {v : Nat} {y : Int} (h : lenN v ≤ 1000000) (h1 : 0 < y) (h2 : y < 65536) : maySq (dgl v) (dg v) y = true := by
  have := dg_le (v := v) (k := 62500) (by omega)
  unfold maySq
  rw [stk_eq, dg_ok, decide_eq_true ⟨dg_len v, by omega, h1, h2⟩]; rfl
theorem seR_run (R : Type) {T S y i : Nat} (hT : lenN T ≤ 400) (hS : S ≤ W320) (hS2 : lenN S ≤ 400) (hy : 1 ≤ y) (hy2 : y ≤ 2000) (hi : i ≤ 100) (P M : AV) (k1 : List AV → Option R) :
    seR R (dgl T) (dg T) (dgl S) (dg S) (y : Int) (i : Int) P M k1 = k1 [avD (seT S T y), avD S, .int .u32 ((y + 2 : Nat) : Int), P, M, .int .i64 ((i + 1 : Nat) : Int)] := by
  obtain ⟨h1, h2, h3⟩ := seT_le (T := T) (y := y) hS
  have e1 : u32 ((y : Int) + 1) = ((y + 1 : Nat) : Int) := by rw [show (y : Int) + 1 = ((y + 1 : Nat) : Int) by omega, u32_nat (by omega)]
  have e2 : u32 ((y : Int) + 2) = ((y + 2 : Nat) : Int) := by rw [show (y : Int) + 2 = ((y + 2 : Nat) : Int) by omega, u32_nat (by omega)]
  have e3 : w64 ((i : Int) + 1) = ((i + 1 : Nat) : Int) := by rw [w64_mid (by omega) (by omega)]; omega
  unfold seR
  rw [mayMul_dg (by omega) (by omega), val_dg, val_dg]
  show seR1 R (T * S / W320) _ _ _ _ _ _ _ = _
  unfold seR1
  rw [maySq_dg (lenN_mo h1 (by omega)) (by omega) (by omega), val_dg, Int.toNat_natCast]
  show seR2 R (T * S / W320 / y) _ _ _ _ _ _ _ = _
  unfold seR2
  rw [e1, e2, e3, maySq_dg (lenN_mo h2 (by omega)) (by omega) (by omega), val_dg, Int.toNat_natCast]
  rfl
theorem dgl_pos {v : Nat} : decide (((dgl v : Nat) : Int) > 0) = !decide (v = 0) := by
  unfold dgl
  rw [stk_eq]
  by_cases h : v = 0
  · subst h; rfl
  · rw [digN_pos h, List.length_cons, decide_eq_false h, decide_eq_true (by omega)]; rfl
theorem tmod2 (i : Nat) : ((i : Int).tmod 2 == 0) = decide (i % 2 = 0) := by
  have t := tmodN i 2
  rw [show ((2 : Nat) : Int) = 2 from rfl] at t
  rw [t]
  by_cases h : i % 2 = 0
  · rw [h]; rfl
  · rw [decide_eq_false h, beq_eq_false_iff_ne.2 (by omega)]
theorem se_loop (R : Type) {S : Nat} (hS : S ≤ W320) (hS2 : lenN S ≤ 400) (kk : Nat → List AV → Option R) : ∀ (q i T y p m : Nat), i + q = 100 → lenN T ≤ 400 → 1 ≤ y → y + 2 * q ≤ 2000 → lenN p ≤ 400 + i → lenN m ≤ 400 + i →
    ∃ f, loopN (stepSe R) f [avD T, avD S, .int .u32 (y : Int), avD p, avD m, .int .i64 (i : Int)] kk = kk 0 [avD (seN S q i T y p m).1, avD (seN S q i T y p m).2]
  | 0, i, T, y, p, m, hi, _, _, _, _, _ => by
    refine ⟨1, ?_⟩
    have hi : i = 100 := by omega
    subst hi
    rfl
  | q + 1, i, T, y, p, m, hi, hT, hy, hy2, hp, hm => by
    by_cases h0 : T = 0
    · refine ⟨1, ?_⟩
      have e : seN S (q + 1) i T y p m = (p, m) := by rw [seN, if_pos h0]
      rw [e, loopN]
      unfold avD
      simp only [stepSe, seB]
      rw [decide_eq_true (show (i : Int) < 100 by omega), dgl_pos, decide_eq_true h0]
      rfl
    · have hT2 : lenN T ≤ 400 + i := by omega
      by_cases h2 : i % 2 = 0
      · obtain ⟨f, hf⟩ := se_loop R hS hS2 kk q (i + 1) (seT S T y) (y + 2) (p + T) m (by omega) (lenN_mo (seT_le hS).2.2 hT) (by omega) (by omega) (by have := lenN_ad hp hT2; omega) (by omega)
        refine ⟨f + 1, ?_⟩
        rw [seN, if_neg h0, if_pos h2, loopN]
        have hr := seR_run R hT hS hS2 hy (by omega) (show i ≤ 100 by omega) (avD (p + T)) (avD m) (fun vs' => loopN (stepSe R) f vs' kk)
        unfold avD at hr hf ⊢
        simp only [stepSe, seB]
        rw [decide_eq_true (show (i : Int) < 100 by omega), dgl_pos, decide_eq_false h0, tmod2, decide_eq_true h2, mayC2_dg (v := p) (w := T) (by omega) (by omega), val_dg p, val_dg T]
        refine Eq.trans ?_ hf
        unfold avD
        exact hr
      · obtain ⟨f, hf⟩ := se_loop R hS hS2 kk q (i + 1) (seT S T y) (y + 2) p (m + T) (by omega) (lenN_mo (seT_le hS).2.2 hT) (by omega) (by omega) (by omega) (by have := lenN_ad hm hT2; omega)
        refine ⟨f + 1, ?_⟩
        rw [seN, if_neg h0, if_neg h2, loopN]
        have hr := seR_run R hT hS hS2 hy (by omega) (show i ≤ 100 by omega) (avD p) (avD (m + T)) (fun vs' => loopN (stepSe R) f vs' kk)
        unfold avD at hr hf ⊢
        simp only [stepSe, seB]
        rw [decide_eq_true (show (i : Int) < 100 by omega), dgl_pos, decide_eq_false h0, tmod2, decide_eq_false h2, mayC2_dg (v := m) (w := T) (by omega) (by omega), val_dg m, val_dg T]
        refine Eq.trans ?_ hf
        unfold avD
        exact hr
theorem fitSe_parts {tn : Nat} {T : List Int} {sn : Nat} {S : List Int} {y : Int} (h : fitSe tn T sn S y = true) : (lenN (valD T) ≤ 400 ∧ valD S ≤ W320 ∧ 1 ≤ y ∧ y ≤ 1000) ∧ (tn = dgl (valD T) ∧ T = dg (valD T)) ∧ (sn = dgl (valD S) ∧ S = dg (valD S)) := by
  unfold fitSe at h
  simp only [stk_eq, Bool.and_eq_true, decide_eq_true_eq] at h
  exact ⟨h.1.1, mayD_split h.1.2, mayD_split h.2⟩
theorem len_W {S : Nat} (h : S ≤ W320) : lenN S ≤ 400 := by
  have hk : ∀ k, 320 < k → W320 < 2 ^ k := fun k hk => Nat.pow_lt_pow_right (by decide) (show (320 : Int).toNat < k from hk)
  exact lenN_mo h (lenN_le.2 (hk 400 (by decide)))
theorem go_se (R : Type) (n : Nat) (vs : List AV) (kk : Nat → List AV → Option R) (r : R) (h : leSe.go R n vs kk = some r) : ∃ m, loopN (stepSe R) m vs kk = some r := by
  simp only [leSe] at h
  split at h
  · rename_i tn T sn S y
    obtain ⟨hg, hk⟩ := chk_some h
    clear h
    obtain ⟨⟨g1, g2, g3, g4⟩, ⟨t1, t2⟩, s1, s2⟩ := fitSe_parts hg
    clear hg
    obtain ⟨y, rfl⟩ : ∃ q : Nat, y = q := ⟨y.toNat, (Int.toNat_of_nonneg (by omega)).symm⟩
    unfold seZ0 seZ1 seK at hk
    rw [stk_eq, stk_eq, stk_eq, Int.toNat_natCast] at hk
    generalize valD T = V at *
    generalize valD S = W at *
    subst t1 t2 s1 s2
    have hS2 := len_W g2
    have h3 := (seT_le (T := V) (y := y) g2).2.2
    by_cases h0 : V = 0
    · rw [decide_eq_true h0] at hk
      refine ⟨1, ?_⟩
      rw [loopN]
      simp only [stepSe, seB]
      rw [dgl_pos, decide_eq_true h0]
      exact hk
    · rw [decide_eq_false h0] at hk
      have hr0 := fun (k1 : List AV → Option R) => seR_run R g1 g2 hS2 (show 1 ≤ y by omega) (by omega) (show 0 ≤ 100 by decide) (avD (0 + V)) .nils k1
      have u0 : valD ([] : List Int) = 0 := rfl
      have m0 : mayC2 0 [] (dgl V) (dg V) = true := by
        have := mayC2_dg (v := 0) (w := V) (by decide) (by omega)
        rwa [dg_nil.1, dg_nil.2] at this
      by_cases h1 : seT W V y = 0
      · rw [decide_eq_true h1] at hk
        refine ⟨2, ?_⟩
        rw [loopN]
        simp only [stepSe, seB]
        rw [dgl_pos, decide_eq_false h0, m0, val_dg V, u0]
        refine (hr0 _).trans ?_
        rw [loopN]
        unfold avD at hk ⊢
        simp only [stepSe, seB]
        rw [dgl_pos, decide_eq_true h1]
        exact hk
      · rw [decide_eq_false h1] at hk
        have l1 := lenN_mo h3 g1
        have hr1 := fun (k1 : List AV → Option R) => seR_run R l1 g2 hS2 (show 1 ≤ y + 2 by omega) (by omega) (show 1 ≤ 100 by decide) (avD (0 + V)) (avD (0 + seT W V y)) k1
        have m1 : mayC2 0 [] (dgl (seT W V y)) (dg (seT W V y)) = true := by
          have := mayC2_dg (v := 0) (w := seT W V y) (by decide) (by omega)
          rwa [dg_nil.1, dg_nil.2] at this
        obtain ⟨f, hf⟩ := se_loop R g2 hS2 kk 98 2 (seT W (seT W V y) (y + 2)) (y + 2 + 2) (0 + V) (0 + seT W V y) (by decide) (lenN_mo (seT_le g2).2.2 l1) (by omega) (by omega) (by rw [Nat.zero_add]; omega) (by rw [Nat.zero_add]; omega)
        have e : seN W 100 0 V y 0 0 = seN W 98 2 (seT W (seT W V y) (y + 2)) (y + 2 + 2) (0 + V) (0 + seT W V y) := by
          rw [seN, if_neg h0, if_pos (by decide), seN, if_neg h1, if_neg (by decide)]
        rw [e] at hk
        refine ⟨f + 2, ?_⟩
        rw [loopN]
        simp only [stepSe, seB]
        rw [dgl_pos, decide_eq_false h0, m0, val_dg V, u0]
        refine (hr0 _).trans ?_
        rw [loopN]
        unfold avD at hr1 hf ⊢
        simp only [stepSe, seB]
        rw [dgl_pos, decide_eq_false h1, m1, val_dg (seT W V y), u0]
        refine (hr1 _).trans ?_
        refine Eq.trans ?_ (hf.trans hk)
        rfl
  · cases h
def sp_ser : List AV → Option (Bool × AV)
  | [.sl (.ints tn .u32 T), .sl (.ints sn .u32 S), .int .u32 y] => some (fitSe tn T sn S y && stk (decide ((seN (valD S) 100 0 (valD T) y.toNat 0 0).2 ≤ (seN (valD S) 100 0 (valD T) y.toNat 0 0).1)), avD ((seN (valD S) 100 0 (valD T) y.toNat 0 0).1 - (seN (valD S) 100 0 (valD T) y.toNat 0 0).2))
  | _ => none
def serE (p m : Nat) : Option AV := chk (maySub (dgl p) (dg p) (dgl m) (dg m)) (some (avD (valD (dg p) - valD (dg m))))
def serE1 (p : Nat) : Option AV := chk (maySub (dgl p) (dg p) 0 []) (some (avD (valD (dg p) - valD [])))
theorem run_ser (tn : Nat) (T : List Int) (sn : Nat) (S : List Int) (y : Int) : callA (env Tryz.f136.ntmps orcSe [(0, leSe)]) (bodyC Tryz.f136) Tryz.f136.results.toList (slots 0 [.sl (.ints tn .u32 T), .sl (.ints sn .u32 S), .int .u32 y]) some =
    chk (fitSe tn T sn S y) (bif seZ0 T then chk (maySub 0 [] 0 []) (some (avD (valD [] - valD []))) else bif seZ1 T S y then serE1 (0 + valD T) else serE (seK T S y).1 (seK T S y).2) := by kernel_rfl
theorem seN_len {S : Nat} (hS : S ≤ W320) : ∀ (q i T y p m : Nat), lenN T ≤ 400 → lenN p ≤ 400 + i → lenN m ≤ 400 + i → lenN (seN S q i T y p m).1 ≤ 400 + i + q ∧ lenN (seN S q i T y p m).2 ≤ 400 + i + q
  | 0, i, T, y, p, m, _, hp, hm => ⟨hp, hm⟩
  | q + 1, i, T, y, p, m, hT, hp, hm => by
    have hT2 : lenN T ≤ 400 + i := by omega
    rw [seN]
    split
    · show lenN p ≤ _ ∧ lenN m ≤ _
      exact ⟨by omega, by omega⟩
    · split
      · obtain ⟨a, b⟩ := seN_len hS q (i + 1) (seT S T y) (y + 2) (p + T) m (lenN_mo (seT_le hS).2.2 hT) (by have := lenN_ad hp hT2; omega) (by omega)
        exact ⟨by omega, by omega⟩
      · obtain ⟨a, b⟩ := seN_len hS q (i + 1) (seT S T y) (y + 2) p (m + T) (lenN_mo (seT_le hS).2.2 hT) (by omega) (by have := lenN_ad hm hT2; omega)
        exact ⟨by omega, by omega⟩
theorem ok_ser : EntOk Tryz.prog 136 (entS true sp_ser) := by
  refine contractS (orc := orcSe) (lo := [(0, leSe)]) Tryz.func136 orcSe_ok (by kernel_rfl) (by kernel_rfl) (by kernel_rfl)
    (loops_one (id := 0) (y := .loop (loopOf 0 (bodyC Tryz.f136))) (by kernel_rfl)
      (loopS (le := leSe) (orc := orcSe) (lo' := []) orcSe_ok (by kernel_rfl) rfl (loops_none (by kernel_rfl)) stepSe (fun R vs k1 k2 r h => ?_) go_se)) fun args r h => ?_
  · have h0 := h
    unfold stepSe at h
    split at h
    · exact (step_se0 R _ _ _ _ _ _ k1 k2).trans h0
    · exact (step_se1 R _ _ _ _ _ _ _ _ k1 k2).trans h0
    · exact (step_se2 R _ _ _ _ _ _ _ _ _ _ k1 k2).trans h0
    · cases h
  · unfold sp_ser at h
    split at h
    · rename_i tn T sn S y
      simp only [Option.some.injEq, Prod.mk.injEq, Bool.and_eq_true] at h
      obtain ⟨⟨hg, hle⟩, rfl⟩ := h
      rw [stk_eq, decide_eq_true_eq] at hle
      refine ⟨by kernel_rfl, .inl rfl, (run_ser tn T sn S y).trans ?_⟩
      obtain ⟨⟨g1, g2, g3, g4⟩, -, -⟩ := fitSe_parts hg
      rw [hg]
      unfold seZ0 seZ1 seK
      rw [stk_eq, stk_eq, stk_eq]
      generalize valD T = V at *
      generalize valD S = W at *
      generalize y.toNat = y' at *
      have ms0 : maySub 0 [] 0 [] = true := by
        have := maySub_dg (v := 0) (w := 0) (by decide) (Nat.le_refl 0)
        rwa [dg_nil.1, dg_nil.2] at this
      by_cases h0 : V = 0
      · have e : seN W 100 0 V y' 0 0 = (0, 0) := by rw [seN, if_pos h0]
        rw [decide_eq_true h0, ms0, e]
        rfl
      · by_cases h1 : seT W V y' = 0
        · have e : seN W 100 0 V y' 0 0 = (0 + V, 0) := by rw [seN, if_neg h0, if_pos (by decide), seN, if_pos h1]
          have ms1 : maySub (dgl (0 + V)) (dg (0 + V)) 0 [] = true := by
            have := maySub_dg (v := 0 + V) (w := 0) (by rw [Nat.zero_add]; omega) (Nat.zero_le _)
            rwa [dg_nil.1, dg_nil.2] at this
          rw [decide_eq_false h0, decide_eq_true h1, e]
          unfold serE1
          rw [ms1, val_dg]
          rfl
        · obtain ⟨l1, l2⟩ := seN_len (S := W) g2 100 0 V y' 0 0 g1 (by decide) (by decide)
          rw [decide_eq_false h0, decide_eq_false h1]
          generalize seN W 100 0 V y' 0 0 = z at *
          unfold serE
          rw [maySub_dg (v := z.1) (w := z.2) (by omega) hle, val_dg, val_dg]
          rfl
    · cases h
/-! ### Sin, Cos -/
def sinS (x : Nat) : Nat × Nat := seN (x * x / W320) 100 0 x 2 0 0
def cosS (x : Nat) : Nat × Nat := seN (x * x / W320) 100 0 W320 1 0 0
def maySin (n : Nat) (x : List Int) : Bool := stk (decide (valD x ≤ W320 ∧ (sinS (valD x)).2 ≤ (sinS (valD x)).1)) && mayD n x
def mayCos (n : Nat) (x : List Int) : Bool := stk (decide (valD x ≤ W320 ∧ (cosS (valD x)).2 ≤ (cosS (valD x)).1)) && mayD n x
def sp_sin : List AV → Option (Bool × AV)
  | [.sl (.ints n .u32 x)] => some (maySin n x, avD ((sinS (valD x)).1 - (sinS (valD x)).2))
  | _ => none
def sp_cos : List AV → Option (Bool × AV)
  | [.sl (.ints n .u32 x)] => some (mayCos n x, avD ((cosS (valD x)).1 - (cosS (valD x)).2))
  | _ => none
def serR (tn : Nat) (T : List Int) (C : Nat) (y : Int) : Option AV :=
  chk (fitSe tn T (dgl C) (dg C) y && stk (decide ((seN (valD (dg C)) 100 0 (valD T) y.toNat 0 0).2 ≤ (seN (valD (dg C)) 100 0 (valD T) y.toNat 0 0).1))) (some (avD ((seN (valD (dg C)) 100 0 (valD T) y.toNat 0 0).1 - (seN (valD (dg C)) 100 0 (valD T) y.toNat 0 0).2)))
def orcSin : List (FuncId × Ent) := [(137, entS true sp_qCut), (136, entS true sp_ser), (96, entS true sp_dOf), (99, entS true sp_shl)]
theorem orcSin_ok {nt : Nat} {lo : List (Nat × LEnt)} : OrcOk Tryz.prog (env nt orcSin lo) := orc_cons ok_qCut (orc_cons ok_ser (orc_cons ok_dOf (orc_cons ok_shl orc_nil)))
theorem run_sin (n : Nat) (x : List Int) : callA (env Tryz.f97.ntmps orcSin []) (bodyC Tryz.f97) Tryz.f97.results.toList (slots 0 [.sl (.ints n .u32 x)]) some =
    chk (mayMul n x n x) (serR n x (valD x * valD x / W320) 2) := by kernel_rfl
def cosR5 (n : Nat) (x : List Int) (V : Nat) : Option AV := chk (mayMul n x n x) (serR (dgl V) (dg V) (valD x * valD x / W320) 1)
theorem run_cos (n : Nat) (x : List Int) : callA (env Tryz.f98.ntmps orcSin []) (bodyC Tryz.f98) Tryz.f98.results.toList (slots 0 [.sl (.ints n .u32 x)]) some =
    chk (inU 1) (chk (mayS (dgl (1 : Int).toNat) (dg (1 : Int).toNat) 320) (cosR5 n x (valD (dg (1 : Int).toNat) * W320))) := by kernel_rfl
theorem serR_run {tn : Nat} {T : List Int} {V C : Nat} {y : Int} (hn : tn = dgl V) (hT : T = dg V) (hV : lenN V ≤ 400) (hC : C ≤ W320) (hy : 1 ≤ y ∧ y ≤ 1000) (hle : (seN C 100 0 V y.toNat 0 0).2 ≤ (seN C 100 0 V y.toNat 0 0).1) : serR tn T C y = some (avD ((seN C 100 0 V y.toNat 0 0).1 - (seN C 100 0 V y.toNat 0 0).2)) := by
  subst hn hT
  have hC2 := len_W hC
  have e : fitSe (dgl V) (dg V) (dgl C) (dg C) y = true := by
    unfold fitSe
    rw [stk_eq, val_dg, val_dg, decide_eq_true ⟨hV, hC, hy.1, hy.2⟩, mayD_dg (by omega), mayD_dg (by omega)]; rfl
  unfold serR
  rw [e, val_dg, val_dg, stk_eq, decide_eq_true hle]
  rfl
theorem sq_le {x : Nat} (h : x ≤ W320) : x * x / W320 ≤ W320 := by
  refine Nat.le_trans (Nat.div_le_div_right (Nat.mul_le_mul h h)) ?_
  rw [Nat.mul_div_cancel _ W320_pos]
  exact Nat.le_refl _
theorem ok_sin : EntOk Tryz.prog 97 (entS true sp_sin) := by
  refine contractS (orc := orcSin) (lo := []) Tryz.func97 orcSin_ok (by kernel_rfl) (by kernel_rfl) (by kernel_rfl) (loops_none (by kernel_rfl)) fun args r h => ?_
  unfold sp_sin at h
  split at h
  · rename_i n x
    simp only [Option.some.injEq, Prod.mk.injEq] at h
    obtain ⟨hg, rfl⟩ := h
    refine ⟨by kernel_rfl, .inl rfl, (run_sin n x).trans ?_⟩
    unfold maySin at hg
    rw [Bool.and_eq_true, stk_eq, decide_eq_true_eq] at hg
    obtain ⟨⟨h1, h2⟩, hd⟩ := hg
    obtain ⟨d1, d2⟩ := mayD_split hd
    have hl := len_W h1
    have e : mayMul n x n x = true := by rw [d1, d2, val_dg]; exact mayMul_dg (by omega) (by omega)
    rw [e]
    exact serR_run (y := 2) d1 d2 hl (sq_le h1) (by decide) h2
  · cases h
theorem ok_cos : EntOk Tryz.prog 98 (entS true sp_cos) := by
  refine contractS (orc := orcSin) (lo := []) Tryz.func98 orcSin_ok (by kernel_rfl) (by kernel_rfl) (by kernel_rfl) (loops_none (by kernel_rfl)) fun args r h => ?_
  unfold sp_cos at h
  split at h
  · rename_i n x
    simp only [Option.some.injEq, Prod.mk.injEq] at h
    obtain ⟨hg, rfl⟩ := h
    refine ⟨by kernel_rfl, .inl rfl, (run_cos n x).trans ?_⟩
    unfold mayCos at hg
    rw [Bool.and_eq_true, stk_eq, decide_eq_true_eq] at hg
    obtain ⟨⟨h1, h2⟩, hd⟩ := hg
    obtain ⟨d1, d2⟩ := mayD_split hd
    have hl := len_W h1
    have e : mayMul n x n x = true := by rw [d1, d2, val_dg]; exact mayMul_dg (by omega) (by omega)
    have e1 : inU 1 = true := inU_nat (n := 1) (by decide)
    have e2 : mayS (dgl (1 : Int).toNat) (dg (1 : Int).toNat) 320 = true := mayS_dg (by decide) (by decide) (by decide)
    rw [e1, e2, val_dg, show (1 : Int).toNat = 1 from rfl, Nat.one_mul]
    simp only [chk, cond_true]
    unfold cosR5
    rw [e]
    exact serR_run (y := 1) rfl rfl (len_W (Nat.le_refl _)) (sq_le h1) (by decide) h2
  · cases h
end
end Go.Proofs.YtbakldcbaikgpaaGreatDoor
