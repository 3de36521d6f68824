/- tillerref04.Pattern; tillerref09: Scale, Step, power, Log; ScaleScales, ScaleLogs. Own work. -/
import Derived.Test.YtbakldcbaikgpaaGreatDoorRef5
import Derived.Test.YtbakldcbaikgpaaGreatDoorPatB
namespace Go.Proofs.YtbakldcbaikgpaaGreatDoor
set_option maxRecDepth 100000
noncomputable section

theorem inU_nat' {m : Nat} (h : m < 18446744073709551616) : inU (m : Int) = true := inU_iff.2 (by omega)

/-! ### Pattern -/
def sp_pattern : List AV → Option (Bool × AV)
  | [.int .u64 p] => some (inU p, .st [.bool (tM p.toNat), .int .i64 (tX p.toNat), .sl (.ints (dgl (tS p.toNat)) .u32 (dg (tS p.toNat)))])
  | _ => none
def orcPattern : List (FuncId × Ent) := [(119, entS false sp_take), (96, entS true sp_dOf)]
theorem run_pattern (p : Int) : callA (env Tryz.f86.ntmps orcPattern []) (bodyC Tryz.f86) Tryz.f86.results.toList (slots 0 [.int .u64 p]) some =
    chk (inU p) (chk (inU ((tS p.toNat : Nat) : Int)) (some (.st [.bool (tM p.toNat), .int .i64 (tX p.toNat), .sl (.ints (dgl ((tS p.toNat : Nat) : Int).toNat) .u32 (dg ((tS p.toNat : Nat) : Int).toNat))]))) := by kernel_rfl
theorem ok_pattern : EntOk Tryz.prog 86 (entS true sp_pattern) := by
  refine contractS (orc := orcPattern) (lo := []) Tryz.func86 (orc_cons ok_rTake (orc_cons ok_dOf orc_nil)) (by kernel_rfl) (by kernel_rfl) (by kernel_rfl) (loops_none (by kernel_rfl)) fun args r h => ?_
  unfold sp_pattern at h
  split at h
  · rename_i p
    simp only [Option.some.injEq, Prod.mk.injEq] at h
    obtain ⟨hp, rfl⟩ := h
    refine ⟨by kernel_rfl, .inl rfl, (run_pattern p).trans ?_⟩
    have hs : inU ((tS p.toNat : Nat) : Int) = true := by unfold tS; rw [stk_eq]; exact inU_sig _
    rw [hp, hs, Int.toNat_natCast]
    rfl
  · cases h

/-! ### Scale -/
def orcScale9 : List (FuncId × Ent) := [(78, entS false sp_isNaN), (79, entS false sp_rNone), (81, entS false sp_pAbs), (86, entS true sp_pattern), (83, entS true sp_round4)]
theorem orcScale9_ok {nt : Nat} : OrcOk Tryz.prog (env nt orcScale9 []) := orc_cons ok_rNaN (orc_cons ok_rNone (orc_cons ok_rAbs (orc_cons ok_pattern (orc_cons ok_round4 orc_nil))))
def sp_rScale : List AV → Option (Bool × AV)
  | [.int .u64 p, .int .i64 n, .int .i64 k] => some (inU p, .tup [.int .u64 ((scP p.toNat n k : Nat) : Int), .int .i64 ((scF p.toNat n k : Nat) : Int)])
  | _ => none
def rsZ (p : Nat) (x k : Int) : Option AV := chk (mayZ x (dgl (tS p)) (dg (tS p))) (ruT ((zP (tM p) x (dg (tS p)) k : Nat) : Int) ((zF (tM p) x (dg (tS p)) k : Nat) : Int))
/-- A pattern's number scaled so much that nothing is left to say. -/
theorem sc_same {S : Nat} (hS : S ≠ 0) (hl : lenN S ≤ 64) {x : Int} (hx : -1074 ≤ x ∧ x ≤ 971) (n k : Int) (m : Bool) : sizeP m S (x + clampI 8192 n) k = sizeP m S (x + clampI 9000 n) k ∧ rndF m S (x + clampI 8192 n) k = rndF m S (x + clampI 9000 n) k := by
  have hp : 0 < S := by omega
  by_cases h1 : n > 8192
  · have e1 : clampI 8192 n = 8192 := by unfold clampI; omega
    have e2 : 8192 ≤ clampI 9000 n := by unfold clampI; omega
    obtain ⟨p1, p2⟩ := far_hi hp (x := x + clampI 8192 n) (by unfold topN; omega) k m
    obtain ⟨p3, p4⟩ := far_hi hp (x := x + clampI 9000 n) (by unfold topN; omega) k m
    rw [p1, p2, p3, p4]
    exact ⟨rfl, rfl⟩
  · by_cases h2 : n < -8192
    · have e1 : clampI 8192 n = -8192 := by unfold clampI; omega
      have e2 : clampI 9000 n ≤ -8192 := by unfold clampI; omega
      obtain ⟨p1, p2⟩ := far_lo hp (x := x + clampI 8192 n) (by unfold topN; omega) k m
      obtain ⟨p3, p4⟩ := far_lo hp (x := x + clampI 9000 n) (by unfold topN; omega) k m
      rw [p1, p2, p3, p4]
      exact ⟨rfl, rfl⟩
    · have e1 : clampI 8192 n = n := by unfold clampI; omega
      have e2 : clampI 9000 n = n := by unfold clampI; omega
      rw [e1, e2]
      exact ⟨rfl, rfl⟩

theorem rsZ_at (p : Nat) (n k : Int) (h0 : sigN p ≠ 0) : rsZ p (w64 ((tX p) + (if 9000 < (if (-9000) > n then (-9000) else n) then 9000 else (if (-9000) > n then (-9000) else n)))) k =
    ruT ((rndP (decide (9223372036854775808 ≤ p)) (sigN p) (exN p + clampI 8192 n) k : Nat) : Int) ((rndF (decide (9223372036854775808 ≤ p)) (sigN p) (exN p + clampI 8192 n) k : Nat) : Int) := by
  have e1 : (if 9000 < (if (-9000) > n then (-9000) else n) then 9000 else (if (-9000) > n then (-9000) else n)) = clampI 9000 n := by unfold clampI; split <;> split at * <;> omega
  have hc : -9000 ≤ clampI 9000 n ∧ clampI 9000 n ≤ 9000 := by unfold clampI; omega
  have hx := ex_range p
  have hl := len_sig p
  obtain ⟨s1, s2⟩ := sc_same h0 (by omega) hx n k (decide (9223372036854775808 ≤ p))
  have hz : mayZ (exN p + clampI 9000 n) (dgl (sigN p)) (dg (sigN p)) = true := mayZ_iff.2 ⟨mayD_dg (by omega), by rw [val_dg]; omega, by omega⟩
  unfold rsZ zP zF tM tX tS
  rw [stk_eq, stk_eq, stk_eq, stk_eq, stk_eq, e1, w64_mid (by omega) (by omega), hz, val_dg]
  unfold rndP
  rw [s1, s2]
  rfl

theorem sig_ne {p : Nat} (h : absN p < infN) (h0 : absN p ≠ 0) : sigN p ≠ 0 := fun e => h0 ((sig_zero h).1 e)

/-! ### ScaleScales -/
def sp_lawUII : List AV → Option (Bool × AV)
  | [.int .u64 p, .int .i64 _, .int .i64 _] => some (inU p, .bool true)
  | _ => none
theorem scF_small (p : Nat) (n k : Int) : w64 ((scF p n k : Nat) : Int) = (scF p n k : Nat) := by
  unfold scF
  rw [stk_eq]
  unfold scFN noFN
  split
  · split <;> exact w64_mid (by omega) (by omega)
  · split
    · exact w64_mid (by omega) (by omega)
    · exact F_small _ _ _ _
/-! ### Step -/
def orcStep9 : List (FuncId × Ent) := [(78, entS false sp_isNaN), (79, entS false sp_rNone), (81, entS false sp_pAbs), (119, entS false sp_take), (96, entS true sp_dOf), (83, entS true sp_round4)]
def sp_rStep : List AV → Option (Bool × AV)
  | [.int .u64 p] => some (inU p, .tup [.int .u64 ((stP p.toNat : Nat) : Int), .int .i64 ((stF p.toNat : Nat) : Int)])
  | _ => none
theorem abs_E (p : Nat) : pE (absN p) = pE p := by unfold pE absN; omega
theorem abs_F (p : Nat) : pF (absN p) = pF p := by unfold pF absN; omega
theorem abs_cl (p : Nat) : clN (absN p) = clN p := by unfold clN; rw [abs_E, abs_F]
theorem abs_ex (p : Nat) : exN (absN p) = exN p := by unfold exN; rw [abs_E]
theorem abs_sig (p : Nat) : sigN (absN p) = sigN p := by unfold sigN; rw [abs_E, abs_F]
theorem step_zero : rndP false 1 (-1074) 0 = 1 ∧ rndF false 1 (-1074) 0 = 0 := by decide +kernel
theorem ex_zero {p : Nat} (h : absN p = 0) : exN p = -1074 := by
  have h1 := abs_parts p
  have h2 : pE p = 0 := by omega
  unfold exN
  rw [h2]
  rfl

/-! ### power -/
def pw9 (e : Int) (l : List Int) : Int := stk (e + ((lenN (valD l) : Nat) : Int) - 1)
def goP9 (e : Int) (n : Nat) (l : List Int) : Bool := mayD n l && stk (decide (-2000 ≤ e + ((lenN (valD l) : Nat) : Int)) && decide (e + ((lenN (valD l) : Nat) : Int) ≤ 1101) && decide (-5000 ≤ e) && decide (e ≤ 5000))
def stepP9 (R : Type) (vs : List AV) (k1 : List AV → Option R) (k2 : Nat → List AV → Option R) : Option R :=
  match vs with
  | [.st [.bool b, .int .i64 e, .sl (.ints n .u32 l)], .int .i64 i] => chk (mayD n l) (bif decide (i > w64 (w64 (e + lenI (valD l)) - 1)) then k1 [.st [.bool b, .int .i64 e, .sl (.ints n .u32 l)], .int .i64 (w64 (i - 1))] else k2 0 [.int .i64 i])
  | _ => none
def leP9 : LEnt :=
  { inn := { fuel := none, keep := [4], refs := [(3, 3, 107, .dead)] }
    out := { fuel := none, keep := [4], refs := [] }
    ret := { fuel := none, keep := [], refs := [] }
    go := fun _ _ vs kk => match vs with
      | [.st [.bool _, .int .i64 e, .sl (.ints n .u32 l)], .int .i64 1100] => chk (goP9 e n l) (kk 0 [.int .i64 (pw9 e l)])
      | _ => none }
def orcP9 : List (FuncId × Ent) := [(86, entS true sp_pattern), (121, entS false sp_dLen)]
theorem p9_loop (R : Type) (b : Bool) {e : Int} {n : Nat} {l : List Int} (hd : mayD n l = true) {t : Int} (ht : e + ((lenN (valD l) : Nat) : Int) - 1 = t) (h1 : -3000 ≤ t ∧ t ≤ 1100) (he : -5000 ≤ e ∧ e ≤ 5000) (kk : Nat → List AV → Option R) : ∀ (j : Nat), t + j ≤ 1100 →
    ∃ f, loopN (stepP9 R) f [.st [.bool b, .int .i64 e, .sl (.ints n .u32 l)], .int .i64 (t + j)] kk = kk 0 [.int .i64 t]
  | 0, _ => by
    have hli : lenI (valD l) = ((lenN (valD l) : Nat) : Int) := by unfold lenI; rw [stk_eq]
    refine ⟨1, ?_⟩
    rw [loopN]
    simp only [stepP9]
    rw [hd, hli, w64_mid (x := e + _) (by omega) (by omega), ht, w64_mid (by omega) (by omega), decide_eq_false (show ¬ t + ((0 : Nat) : Int) > t by omega), show t + ((0 : Nat) : Int) = t by omega]
    rfl
  | j + 1, hj => by
    obtain ⟨f, hf⟩ := p9_loop R b hd ht h1 he kk j (by omega)
    have hli : lenI (valD l) = ((lenN (valD l) : Nat) : Int) := by unfold lenI; rw [stk_eq]
    refine ⟨f + 1, ?_⟩
    rw [loopN]
    simp only [stepP9]
    rw [hd, hli, w64_mid (x := e + _) (by omega) (by omega), ht, w64_mid (x := t) (by omega) (by omega), decide_eq_true (show t + ((j + 1 : Nat) : Int) > t by omega), w64_mid (by omega) (by omega), show t + ((j + 1 : Nat) : Int) - 1 = t + (j : Int) by omega]
    exact hf
theorem go_p9 (R : Type) (n : Nat) (vs : List AV) (kk : Nat → List AV → Option R) (r : R) (h : leP9.go R n vs kk = some r) : ∃ m, loopN (stepP9 R) m vs kk = some r := by
  simp only [leP9] at h
  split at h
  · rename_i b e n l
    obtain ⟨hg, hk⟩ := chk_some h
    unfold goP9 at hg
    rw [stk_eq] at hg
    simp only [Bool.and_eq_true, decide_eq_true_eq] at hg
    obtain ⟨g1, ⟨⟨g2, g3⟩, g4⟩, g5⟩ := hg
    obtain ⟨j, hj⟩ : ∃ j : Nat, (1100 : Int) = e + ((lenN (valD l) : Nat) : Int) - 1 + j := ⟨(1100 - (e + ((lenN (valD l) : Nat) : Int) - 1)).toNat, by omega⟩
    obtain ⟨f, hf⟩ := p9_loop R b g1 rfl (by omega) ⟨g4, g5⟩ kk j (by omega)
    rw [← hj] at hf
    refine ⟨f, hf.trans ?_⟩
    unfold pw9 at hk
    rw [stk_eq] at hk
    exact hk
  · cases h
/-! ### Log -/
def sp_rLog : List AV → Option (Bool × AV)
  | [.int .u64 p] => some (inU p, .tup [.int .u64 ((lgP p.toNat : Nat) : Int), .int .i64 ((lgF p.toNat : Nat) : Int)])
  | _ => none
def rlZ (b : Bool) (v : Int) : Option AV := chk (inU v) (chk (mayZ 0 (dgl v.toNat) (dg v.toNat)) (ruT ((zP b 0 (dg v.toNat) 0 : Nat) : Int) ((zF b 0 (dg v.toNat) 0 : Nat) : Int)))
theorem rlZ_at (b : Bool) {v : Nat} (h : v ≤ 3000) : rlZ b (v : Int) = ruT ((rndP b v 0 0 : Nat) : Int) ((rndF b v 0 0 : Nat) : Int) := by
  have hl : lenN v ≤ 12 := lenN_le.2 (by omega)
  have hz : mayZ 0 (dgl v) (dg v) = true := mayZ_iff.2 ⟨mayD_dg (by omega), by rw [val_dg]; omega, by decide⟩
  unfold rlZ zP zF
  rw [inU_nat' (by omega), Int.toNat_natCast, hz, stk_eq, stk_eq, val_dg]
  rfl
/-! ### ScaleLogs -/
theorem lgF_small (p : Nat) : w64 ((lgF p : Nat) : Int) = (lgF p : Nat) := by
  unfold lgF
  rw [stk_eq]
  unfold lgFN noFN
  split
  · split <;> exact w64_mid (by omega) (by omega)
  · split
    · exact w64_mid (by omega) (by omega)
    · split
      · exact w64_mid (by omega) (by omega)
      · exact F_small _ _ _ _
theorem stF_small (p : Nat) : w64 ((stF p : Nat) : Int) = (stF p : Nat) := by
  unfold stF
  rw [stk_eq]
  unfold stFN noFN
  split
  · split <;> exact w64_mid (by omega) (by omega)
  · split
    · exact w64_mid (by omega) (by omega)
    · split
      · exact w64_mid (by omega) (by omega)
      · exact F_small _ _ _ _
end
end Go.Proofs.YtbakldcbaikgpaaGreatDoor
