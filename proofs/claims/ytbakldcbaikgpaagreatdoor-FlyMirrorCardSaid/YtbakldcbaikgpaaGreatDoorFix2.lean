/- fix: series, Sin, Cos. Own work. -/
import Derived.Test.YtbakldcbaikgpaaGreatDoorFix
namespace Go.Proofs.YtbakldcbaikgpaaGreatDoor
set_option maxRecDepth 100000
noncomputable section

/-! ### series -/
/-- Both sums. -/
def serP : Nat → Bool → Nat → Nat → Nat → Nat → Nat → Nat × Nat
  | 0, _, p, m, _, _, _ => (p, m)
  | n + 1, b, p, m, t, s, f => if mulF t s / (f * (f + 1)) = 0 then (if b then (p + t) % big2 else p, if b then m else (m + t) % big2) else serP n (!b) (if b then (p + t) % big2 else p) (if b then m else (m + t) % big2) (mulF t s / (f * (f + 1))) s (f + 2)
theorem serF_P : ∀ (n : Nat) (b : Bool) (p m t s f : Nat), serF n b p m t s f = ((serP n b p m t s f).1 + big2 - (serP n b p m t s f).2) % big2
  | 0, _, _, _, _, _, _ => rfl
  | n + 1, b, p, m, t, s, f => by
    unfold serF serP
    simp only []
    split
    · rfl
    · exact serF_P n _ _ _ _ _ _
def hSer : Hint := { fuel := none, keep := [2, 12], refs := [(3, 3, 118, .dead), (4, 4, 118, .dead), (6, 6, 118, .dead), (7, 7, 118, .dead), (8, 8, 118, .dead)] }
def hSerO : Hint := { fuel := none, keep := [], refs := [(6, 6, 118, .dead), (7, 7, 118, .dead), (8, 8, 118, .dead)] }
noncomputable def serT {R : Type} (r6 s p m v : List Int) (f i : Int) (k1 : List AV → Option R) (k2 : Nat → List AV → Option R) : Option R :=
  bif decide (v = [0, 0, 0, 0]) then k2 0 [.ints 4 .u64 r6, .ints 4 .u64 p, .ints 4 .u64 m]
  else k1 [.ints 4 .u64 v, .ints 4 .u64 s, .ints 4 .u64 r6, .ints 4 .u64 p, .ints 4 .u64 m, .int .u64 (u64 (f + 2)), .int .i64 (w64 (i + 1))]
noncomputable def serQ {R : Type} (t r6 s p m : List Int) (f i : Int) (k1 : List AV → Option R) (k2 : Nat → List AV → Option R) : Option R :=
  chk (okW t && okW s) (chk (inU (u64 (f * (u64 (f + 1))))) (chk (okW (toW (stk (mulF (valW t) (valW s)))) && okW (toW (u64 (f * (u64 (f + 1)))).toNat) && nzW (toW (u64 (f * (u64 (f + 1)))).toNat))
    (serT r6 s p m (toW (valW (toW (stk (mulF (valW t) (valW s)))) / valW (toW (u64 (f * (u64 (f + 1)))).toNat))) f i k1 k2)))
noncomputable def stepSer (R : Type) (vs : List AV) (k1 : List AV → Option R) (k2 : Nat → List AV → Option R) : Option R :=
  match vs with
  | [.ints 4 .u64 t, .ints 4 .u64 s, .ints 4 .u64 r6, .ints 4 .u64 p, .ints 4 .u64 m, .int .u64 f, .int .i64 i] =>
    bif decide (i < 80) then bif (i.tmod 2) == 0 then chk (okW p && okW t) (serQ t r6 s (toW (valW p + valW t)) m f i k1 k2) else chk (okW m && okW t) (serQ t r6 s p (toW (valW m + valW t)) f i k1 k2)
    else k2 0 [.ints 4 .u64 r6, .ints 4 .u64 p, .ints 4 .u64 m]
  | _ => none
def okF (f : Int) : Bool := stk (decide (1 ≤ f ∧ f ≤ 100))
noncomputable def leSer : LEnt :=
  { inn := hSer
    out := hSerO
    ret := hSerO
    go := fun _ _ vs kk => match vs with
      | [.ints 4 .u64 t, .ints 4 .u64 s, .ints 4 .u64 r6, .ints 4 .u64 [0, 0, 0, 0], .ints 4 .u64 [0, 0, 0, 0], .int .u64 f, .int .i64 0] =>
        chk (okW t && okW s && okF f) (kk 0 [.ints 4 .u64 r6, .ints 4 .u64 (toW (stk (serP 80 true 0 0 (valW t) (valW s) f.toNat)).1), .ints 4 .u64 (toW (stk (serP 80 true 0 0 (valW t) (valW s) f.toNat)).2)])
      | _ => none }
def orcSer : List (FuncId × Ent) := [(138, entS false sp_wAdd), (156, entS false sp_fMul), (114, entS false sp_wOf), (161, entS false sp_wDiv)]
theorem step_ser (R : Type) (t s r6 p m : List Int) (f i : Int) (k1 : List AV → Option R) (k2 : Nat → List AV → Option R) :
    runA (env Tryz.f158.ntmps orcSer []) (loopOf 0 (bodyC Tryz.f158)) 0 (stateOf leSer.inn [.ints 4 .u64 t, .ints 4 .u64 s, .ints 4 .u64 r6, .ints 4 .u64 p, .ints 4 .u64 m, .int .u64 f, .int .i64 i]) (bodyK leSer 0 k1 k2) =
    stepSer R [.ints 4 .u64 t, .ints 4 .u64 s, .ints 4 .u64 r6, .ints 4 .u64 p, .ints 4 .u64 m, .int .u64 f, .int .i64 i] k1 k2 := by kernel_rfl

theorem mulF_lt (a b : Nat) : mulF a b < big2 := Nat.mod_lt _ (by decide)
theorem toW_zero_iff {v : Nat} (h : v < big2) : toW v = [0, 0, 0, 0] ↔ v = 0 := by
  have hz : toW 0 = [0, 0, 0, 0] := toW_of 0 0 0 0 0 0 (by decide) (by decide) (by decide) (by decide) rfl
  rw [← hz]
  constructor
  · intro e
    have := congrArg valW e
    rwa [valT h, valT (by decide)] at this
  · intro e; rw [e]
theorem toW_sum (a b : Nat) (ha : a < big2) (hb : b < big2) : toW (valW (toW a) + valW (toW b)) = toW ((a + b) % big2) := by
  rw [valT ha, valT hb, toW_md]

theorem serQ_at (R : Type) {t s f i : Nat} {r6 p m : List Int} (ht : t < big2) (hs : s < big2) (hf : 1 ≤ f) (hf2 : f ≤ 1000) (hi : i < 1000) (k1 : List AV → Option R) (k2 : Nat → List AV → Option R) :
    serQ (toW t) r6 (toW s) p m f i k1 k2 = if mulF t s / (f * (f + 1)) = 0 then k2 0 [.ints 4 .u64 r6, .ints 4 .u64 p, .ints 4 .u64 m]
      else k1 [.ints 4 .u64 (toW (mulF t s / (f * (f + 1)))), .ints 4 .u64 (toW s), .ints 4 .u64 r6, .ints 4 .u64 p, .ints 4 .u64 m, .int .u64 ((f + 2 : Nat) : Int), .int .i64 ((i + 1 : Nat) : Int)] := by
  have hff : f * (f + 1) ≤ 1000 * 1001 := Nat.mul_le_mul hf2 (by omega)
  have hpos : 0 < f * (f + 1) := Nat.mul_pos (by omega) (by omega)
  have e1 : u64 ((f : Int) + 1) = ((f + 1 : Nat) : Int) := u64_of (by omega) (by omega)
  have e2 : u64 ((f : Int) * u64 ((f : Int) + 1)) = ((f * (f + 1) : Nat) : Int) := by rw [e1]; exact u64_of (by rw [Int.natCast_mul]) (by omega)
  have e3 : u64 ((f : Int) + 2) = ((f + 2 : Nat) : Int) := u64_of (by omega) (by omega)
  have e4 : w64 ((i : Int) + 1) = ((i + 1 : Nat) : Int) := by rw [w64_small (by omega) (by omega)]; omega
  have hin : inU ((f * (f + 1) : Nat) : Int) = true := inU_iff.2 (by omega)
  have hml := mulF_lt t s
  have hql : mulF t s / (f * (f + 1)) < big2 := Nat.lt_of_le_of_lt (Nat.div_le_self _ _) hml
  unfold serQ serT
  have vf : valW (toW (f * (f + 1))) = f * (f + 1) := valT (by omega)
  rw [e2, e3, e4, Int.toNat_natCast, hin, stk_eq, valT ht, valT hs, vf, valT hml]
  have hz : nzW (toW (f * (f + 1))) = true := by unfold nzW; rw [stk_eq, vf]; exact decide_eq_true (by omega)
  rw [hz]
  simp only [okW_toW, Bool.and_self, chk, cond_true]
  by_cases h0 : mulF t s / (f * (f + 1)) = 0
  · rw [if_pos h0, decide_eq_true ((toW_zero_iff hql).2 h0)]; rfl
  · rw [if_neg h0, decide_eq_false (fun e => h0 ((toW_zero_iff hql).1 e))]; rfl

theorem ser_rounds (R : Type) {r6 : List Int} {s : Nat} (hs : s < big2) (kk : Nat → List AV → Option R) : ∀ (n i t p m f : Nat) (b : Bool), n + i = 80 → b = decide (i % 2 = 0) → t < big2 → p < big2 → m < big2 → 1 ≤ f → f ≤ 100 + 2 * i →
    loopN (stepSer R) (n + 1) [.ints 4 .u64 (toW t), .ints 4 .u64 (toW s), .ints 4 .u64 r6, .ints 4 .u64 (toW p), .ints 4 .u64 (toW m), .int .u64 f, .int .i64 i] kk =
    kk 0 [.ints 4 .u64 r6, .ints 4 .u64 (toW (serP n b p m t s f).1), .ints 4 .u64 (toW (serP n b p m t s f).2)]
  | 0, i, t, p, m, f, b, hi, hb, ht, hp, hm, hf, hf2 => by
    have : i = 80 := by omega
    subst this
    rw [loopN]
    rfl
  | n + 1, i, t, p, m, f, b, hi, hb, ht, hp, hm, hf, hf2 => by
    rw [loopN]
    simp only [stepSer]
    rw [decide_eq_true (show (i : Int) < 80 by omega)]
    have hmod : ((i : Int).tmod 2 == 0) = b := by
      have : (i : Int).tmod 2 = ((i % 2 : Nat) : Int) := rfl
      rw [this, hb]
      by_cases h : i % 2 = 0
      · rw [decide_eq_true h, h]; rfl
      · rw [decide_eq_false h]; exact beq_eq_false_iff_ne.2 (by omega)
    rw [hmod, okW_toW, okW_toW, okW_toW]
    simp only [Bool.and_self, chk, cond_true]
    have hnext : ∀ b' : Bool, b' = !b → b' = decide ((i + 1) % 2 = 0) := by
      intro b' e
      rw [e, hb, ← decide_not]
      exact decide_eq_decide.2 (by omega)
    have hql : mulF t s / (f * (f + 1)) < big2 := Nat.lt_of_le_of_lt (Nat.div_le_self _ _) (mulF_lt t s)
    cases b with
    | true =>
      simp only [cond_true]
      rw [serQ_at R ht hs hf (by omega) (by omega), toW_sum p t hp ht]
      unfold serP
      by_cases h0 : mulF t s / (f * (f + 1)) = 0
      · rw [if_pos h0, if_pos h0]; rfl
      · rw [if_neg h0, if_neg h0]
        exact ser_rounds R hs kk n (i + 1) _ _ m (f + 2) false (by omega) (hnext _ rfl) hql (Nat.mod_lt _ (by decide)) hm (by omega) (by omega)
    | false =>
      simp only [cond_false]
      rw [serQ_at R ht hs hf (by omega) (by omega), toW_sum m t hm ht]
      unfold serP
      by_cases h0 : mulF t s / (f * (f + 1)) = 0
      · rw [if_pos h0, if_pos h0]; rfl
      · rw [if_neg h0, if_neg h0]
        exact ser_rounds R hs kk n (i + 1) _ p _ (f + 2) true (by omega) (hnext _ rfl) hql hp (Nat.mod_lt _ (by decide)) (by omega) (by omega)

theorem go_ser (R : Type) (n : Nat) (vs : List AV) (kk : Nat → List AV → Option R) (r : R) (h : leSer.go R n vs kk = some r) : ∃ m, loopN (stepSer R) m vs kk = some r := by
  simp only [leSer] at h
  split at h
  · rename_i t s r6 f
    obtain ⟨hg, hk⟩ := chk_some h
    clear h
    simp only [Bool.and_eq_true] at hg
    obtain ⟨⟨ht, hs⟩, hf⟩ := hg
    unfold okF at hf
    rw [stk_eq, decide_eq_true_iff] at hf
    obtain ⟨f, rfl⟩ : ∃ g : Nat, f = g := ⟨f.toNat, (Int.toNat_of_nonneg (by omega)).symm⟩
    have hz : ([0, 0, 0, 0] : List Int) = toW 0 := (toW_of 0 0 0 0 0 0 (by decide) (by decide) (by decide) (by decide) rfl).symm
    have := ser_rounds R (r6 := r6) (valW_lt hs) kk 80 0 (valW t) 0 0 f true rfl rfl (valW_lt ht) (by decide) (by decide) (by omega) (by omega)
    rw [toW_valW ht, toW_valW hs, ← hz] at this
    refine ⟨81, ?_⟩
    rw [stk_eq, Int.toNat_natCast] at hk
    rw [← hk]
    exact this
  · cases h

def serV (t s f : Nat) : Nat := stk (serF 80 true 0 0 t s f)
def sp_fSer : List AV → Option (Bool × AV)
  | [.ints 4 .u64 t, .ints 4 .u64 s, .int .u64 f] => some (okW t && okW s && okF f, .ints 4 .u64 (toW (serV (valW t) (valW s) f.toNat)))
  | _ => none
theorem run_fSer (t s : List Int) (f : Int) : callA (env Tryz.f158.ntmps [(146, entS false sp_wSub)] [(0, leSer)]) (bodyC Tryz.f158) Tryz.f158.results.toList (slots 0 [.ints 4 .u64 t, .ints 4 .u64 s, .int .u64 f]) some =
    chk (okW t && okW s && okF f) (chk (okW (toW (stk (serP 80 true 0 0 (valW t) (valW s) f.toNat)).1) && okW (toW (stk (serP 80 true 0 0 (valW t) (valW s) f.toNat)).2))
      (some (.ints 4 .u64 (toW (valW (toW (stk (serP 80 true 0 0 (valW t) (valW s) f.toNat)).1) + big256 - valW (toW (stk (serP 80 true 0 0 (valW t) (valW s) f.toNat)).2)))))) := by kernel_rfl
theorem serP_lt : ∀ (n : Nat) (b : Bool) (p m t s f : Nat), p < big2 → m < big2 → (serP n b p m t s f).1 < big2 ∧ (serP n b p m t s f).2 < big2
  | 0, _, _, _, _, _, _, hp, hm => ⟨hp, hm⟩
  | n + 1, b, p, m, t, s, f, hp, hm => by
    have h1 : (if b = true then (p + t) % big2 else p) < big2 := by cases b <;> first | exact hp | exact Nat.mod_lt _ (by decide)
    have h2 : (if b = true then m else (m + t) % big2) < big2 := by cases b <;> first | exact hm | exact Nat.mod_lt _ (by decide)
    unfold serP
    split
    · exact ⟨h1, h2⟩
    · exact serP_lt n _ _ _ _ _ _ h1 h2
theorem ok_fSer : EntOk Tryz.prog 158 (entS false sp_fSer) := by
  refine contractS (orc := [(146, entS false sp_wSub)]) (lo := [(0, leSer)]) Tryz.func158 (orc_cons ok_wSub orc_nil) (by kernel_rfl) (by kernel_rfl) (by kernel_rfl)
    (loops_one (id := 0) (y := .loop (loopOf 0 (bodyC Tryz.f158))) (by kernel_rfl)
      (loopS (le := leSer) (orc := orcSer) (lo' := []) (orc_cons ok_wAdd (orc_cons ok_fMul (orc_cons ok_wOf (orc_cons ok_wDiv orc_nil)))) (by kernel_rfl) rfl (loops_none (by kernel_rfl)) stepSer (fun R vs k1 k2 r h => ?_) go_ser)) fun args r h => ?_
  · have h0 := h
    unfold stepSer at h
    split at h
    · exact (step_ser R _ _ _ _ _ _ _ k1 k2).trans h0
    · cases h
  · unfold sp_fSer at h
    split at h
    · rename_i t s f
      simp only [Option.some.injEq, Prod.mk.injEq] at h
      obtain ⟨hg, rfl⟩ := h
      refine ⟨by kernel_rfl, .inr rfl, (run_fSer t s f).trans ?_⟩
      rw [hg, okW_toW, okW_toW]
      obtain ⟨h1, h2⟩ := serP_lt 80 true 0 0 (valW t) (valW s) f.toNat (by decide) (by decide)
      unfold serV
      rw [stk_eq, stk_eq, serF_P]
      generalize serP 80 true 0 0 (valW t) (valW s) f.toNat = P at *
      rw [valT h1, valT h2, toW_md]
      rfl
    · cases h

/-! ### around, Sin, Cos -/
def lowV (a : Nat) : Nat := stk (lowF a)
def highV (a : Nat) : Nat := stk (highF a)
def sp_fAround : List AV → Option (Bool × AV)
  | [.ints 4 .u64 a] => some (okW a, .tup [.ints 4 .u64 (toW (lowV (valW a))), .ints 4 .u64 (toW (highV (valW a))), .nili])
  | _ => none
def orcAr : List (FuncId × Ent) := [(114, entS false sp_wOf), (146, entS false sp_wSub), (138, entS false sp_wAdd)]
def arT (a l : List Int) : Option AV := chk (inU 512) (chk (okW a && okW (toW (512 : Int).toNat)) (some (.tup [.ints 4 .u64 l, .ints 4 .u64 (toW (valW a + valW (toW (512 : Int).toNat))), .nili])))
theorem run_fAround (a : List Int) : callA (env Tryz.f157.ntmps orcAr []) (bodyC Tryz.f157) Tryz.f157.results.toList (slots 0 [.ints 4 .u64 a]) some =
    chk (inU 512) (chk (okW a && okW (toW (512 : Int).toNat)) (bif decide (valW a < valW (toW (512 : Int).toNat)) then arT a [0, 0, 0, 0] else arT a (toW (valW a + big256 - valW (toW (512 : Int).toNat))))) := by kernel_rfl
theorem ok_fAround : EntOk Tryz.prog 157 (entS false sp_fAround) := by
  refine contractS (orc := orcAr) (lo := []) Tryz.func157 (orc_cons ok_wOf (orc_cons ok_wSub (orc_cons ok_wAdd orc_nil))) (by kernel_rfl) (by kernel_rfl) (by kernel_rfl) (loops_none (by kernel_rfl)) fun args r h => ?_
  unfold sp_fAround at h
  split at h
  · rename_i a
    simp only [Option.some.injEq, Prod.mk.injEq] at h
    obtain ⟨ha, rfl⟩ := h
    refine ⟨by kernel_rfl, .inr rfl, (run_fAround a).trans ?_⟩
    have h1 : inU 512 = true := inU_iff.2 (by omega)
    have h2 : valW (toW (512 : Int).toNat) = 512 := valT (by decide)
    unfold arT lowV highV lowF highF
    rw [h1, ha, okW_toW, h2, stk_eq, stk_eq, toW_md]
    have hz : ([0, 0, 0, 0] : List Int) = toW 0 := (toW_of 0 0 0 0 0 0 (by decide) (by decide) (by decide) (by decide) rfl).symm
    by_cases h : valW a < 512
    · rw [decide_eq_true h, if_pos h, hz]; rfl
    · rw [decide_eq_false h, if_neg h]
      have : toW (valW a + big256 - 512) = toW (valW a - 512) := by
        rw [show valW a + big256 - 512 = (valW a - 512) + big256 by omega]
        exact toW_up _
      rw [this]; rfl
  · cases h

def sp_fSin : List AV → Option (Bool × AV)
  | [.ints 4 .u64 a] => some (okW a && stk (decide (valW a ≤ oneF)), .tup [.ints 4 .u64 (toW (lowV (serV (valW a) (stk (mulF (valW a) (valW a))) 2))), .ints 4 .u64 (toW (highV (serV (valW a) (stk (mulF (valW a) (valW a))) 2))), .nili])
  | _ => none
def sp_fCos : List AV → Option (Bool × AV)
  | [.ints 4 .u64 a] => some (okW a && stk (decide (valW a ≤ oneF)), .tup [.ints 4 .u64 (toW (lowV (serV oneF (stk (mulF (valW a) (valW a))) 1))), .ints 4 .u64 (toW (highV (serV oneF (stk (mulF (valW a) (valW a))) 1))), .nili])
  | _ => none
def orcSC : List (FuncId × Ent) := [(155, entS false sp_fOne), (145, entS false sp_wCmp), (156, entS false sp_fMul), (158, entS false sp_fSer), (157, entS false sp_fAround)]
def scT (t s : List Int) (f : Int) : Option AV := chk (okW t && okW s && okF f) (chk (okW (toW (serV (valW t) (valW s) f.toNat))) (some (.tup [.ints 4 .u64 (toW (lowV (valW (toW (serV (valW t) (valW s) f.toNat))))), .ints 4 .u64 (toW (highV (valW (toW (serV (valW t) (valW s) f.toNat))))), .nili])))
theorem run_fSin (a : List Int) : callA (env Tryz.f148.ntmps orcSC []) (bodyC Tryz.f148) Tryz.f148.results.toList (slots 0 [.ints 4 .u64 a]) some =
    chk (okW a && okW (toW oneF)) (bif decide (cmpN (valW a) (valW (toW oneF)) > 0) then some (.tup [.ints 4 .u64 [0, 0, 0, 0], .ints 4 .u64 [0, 0, 0, 0], .iface 59 (.int .i64 1)]) else
      chk (okW a && okW a) (scT a (toW (stk (mulF (valW a) (valW a)))) 2)) := by kernel_rfl
theorem run_fCos (a : List Int) : callA (env Tryz.f151.ntmps orcSC []) (bodyC Tryz.f151) Tryz.f151.results.toList (slots 0 [.ints 4 .u64 a]) some =
    chk (okW a && okW (toW oneF)) (bif decide (cmpN (valW a) (valW (toW oneF)) > 0) then some (.tup [.ints 4 .u64 [0, 0, 0, 0], .ints 4 .u64 [0, 0, 0, 0], .iface 59 (.int .i64 1)]) else
      chk (okW a && okW a) (scT (toW oneF) (toW (stk (mulF (valW a) (valW a)))) 1)) := by kernel_rfl
theorem serV_lt (t s f : Nat) : serV t s f < big2 := by
  unfold serV
  rw [stk_eq, serF_P]
  exact Nat.mod_lt _ (by decide)
theorem valOne : valW (toW oneF) = oneF := valT (by decide)
theorem cmp_one {v : Nat} (h : v ≤ oneF) : decide (cmpN v oneF > 0) = false := by
  refine decide_eq_false ?_
  unfold cmpN
  split
  · decide
  · rw [if_neg (by omega)]; decide
theorem ok_fSin : EntOk Tryz.prog 148 (entS false sp_fSin) := by
  refine contractS (orc := orcSC) (lo := []) Tryz.func148 (orc_cons ok_fOne (orc_cons ok_wCmp (orc_cons ok_fMul (orc_cons ok_fSer (orc_cons ok_fAround orc_nil))))) (by kernel_rfl) (by kernel_rfl) (by kernel_rfl) (loops_none (by kernel_rfl)) fun args r h => ?_
  unfold sp_fSin at h
  split at h
  · rename_i a
    simp only [Option.some.injEq, Prod.mk.injEq, Bool.and_eq_true] at h
    obtain ⟨⟨ha, hl⟩, rfl⟩ := h
    rw [stk_eq, decide_eq_true_iff] at hl
    refine ⟨by kernel_rfl, .inr rfl, (run_fSin a).trans ?_⟩
    have hf : okF 2 = true := by unfold okF; rw [stk_eq]; rfl
    have hm : valW (toW (stk (mulF (valW a) (valW a)))) = mulF (valW a) (valW a) := by rw [stk_eq]; exact valT (mulF_lt _ _)
    unfold scT
    rw [valOne, cmp_one hl, ha, okW_toW, okW_toW, okW_toW, hf, hm, valT (serV_lt _ _ _), stk_eq]
    rfl
  · cases h
theorem ok_fCos : EntOk Tryz.prog 151 (entS false sp_fCos) := by
  refine contractS (orc := orcSC) (lo := []) Tryz.func151 (orc_cons ok_fOne (orc_cons ok_wCmp (orc_cons ok_fMul (orc_cons ok_fSer (orc_cons ok_fAround orc_nil))))) (by kernel_rfl) (by kernel_rfl) (by kernel_rfl) (loops_none (by kernel_rfl)) fun args r h => ?_
  unfold sp_fCos at h
  split at h
  · rename_i a
    simp only [Option.some.injEq, Prod.mk.injEq, Bool.and_eq_true] at h
    obtain ⟨⟨ha, hl⟩, rfl⟩ := h
    rw [stk_eq, decide_eq_true_iff] at hl
    refine ⟨by kernel_rfl, .inr rfl, (run_fCos a).trans ?_⟩
    have hf : okF 1 = true := by unfold okF; rw [stk_eq]; rfl
    have hm : valW (toW (stk (mulF (valW a) (valW a)))) = mulF (valW a) (valW a) := by rw [stk_eq]; exact valT (mulF_lt _ _)
    unfold scT
    rw [valOne, cmp_one hl, ha, okW_toW, okW_toW, okW_toW, hf, hm, valT (serV_lt _ _ _), stk_eq]
    rfl
  · cases h
end
end Go.Proofs.YtbakldcbaikgpaaGreatDoor
