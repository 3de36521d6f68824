/- tillerref03.Finite; RndOf, RndAgain. Own work. -/
import Derived.Test.YtdkebceiljdgjaaDoorScale5
import Derived.Test.YtdkebceiljdgjaaDoorErr2
namespace Go.Proofs.YtdkebceiljdgjaaDoor
set_option maxRecDepth 100000
noncomputable section

def sp_rFin : List AV → Option (Bool × AV)
  | [.int .u64 p] => some (inU p, .bool (finB p.toNat))
  | _ => none
theorem run_rFin (p : Int) : callA (env Tryd.f13.ntmps [(16, entS false sp_take)] []) (bodyC Tryd.f13) Tryd.f13.results.toList (slots 0 [.int .u64 p]) some =
    chk (inU p) (some (.bool (decide (tC p.toNat < 3)))) := by kernel_rfl
theorem class_fin (p : Nat) : decide (clN p < 3) = decide (absN p < infN) := by
  have h1 := abs_parts p
  have h2 := pE_lt p
  have h3 := pF_lt p
  refine decide_eq_decide.2 ?_
  unfold clN infN
  rw [h1]
  generalize pE p = E at *
  generalize pF p = F at *
  by_cases e1 : E = 2047
  · rw [if_pos e1]
    by_cases e2 : F = 0
    · rw [if_pos e2]; omega
    · rw [if_neg e2]
      by_cases e3 : F / 2251799813685248 % 2 = 1
      · rw [if_pos e3]; omega
      · rw [if_neg e3]; omega
  · rw [if_neg e1]
    by_cases e2 : 0 < E
    · rw [if_pos e2]; omega
    · rw [if_neg e2]
      by_cases e3 : 0 < F
      · rw [if_pos e3]; omega
      · rw [if_neg e3]; omega
theorem ok_rFin : EntOk Tryd.prog 13 (entS false sp_rFin) := by
  refine contractS (orc := [(16, entS false sp_take)]) (lo := []) Tryd.func13 (orc_cons ok_rTake orc_nil) (by kernel_rfl) (by kernel_rfl) (by kernel_rfl) (loops_none (by kernel_rfl)) fun args r h => ?_
  unfold sp_rFin at h
  split at h
  · rename_i p
    simp only [Option.some.injEq, Prod.mk.injEq] at h
    obtain ⟨hp, rfl⟩ := h
    refine ⟨by kernel_rfl, .inr rfl, (run_rFin p).trans ?_⟩
    unfold tC finB
    rw [hp, stk_eq, stk_eq, class_fin]
    rfl
  · cases h

/-- A finite pattern's number is rounded to it. -/
theorem pat_self {p : Nat} (hp : p < 18446744073709551616) (h : absN p < infN) (k : Int) : pR (tM p) (toW (tS p)) (tX p) false k = p ∧ fR (tM p) (toW (tS p)) (tX p) false k = 0 := by
  unfold pR fR tM tS tX
  rw [stk_eq, stk_eq, stk_eq, stk_eq, stk_eq, valW_sig]
  obtain ⟨h1, h2⟩ := size_self h k (decide (9223372036854775808 ≤ p))
  have e1 : nS (sigN p) false = sigN p := rfl
  have e2 : nE (exN p) false = exN p := rfl
  rw [e1, e2, h2]
  unfold rndP
  rw [h1, sgn_self hp]
  exact ⟨rfl, rfl⟩

/-! ### RndOf -/
def orcROf : List (FuncId × Ent) := [(12, entB false sp_rOf), (13, entS false sp_rFin), (14, entS false sp_num), (16, entS false sp_take), (17, entS false sp_round), (18, entS false sp_wOf), (15, entS false sp_true)]
def ofT (b : Bool) (t : Option AV) : Option AV := bif b then t else some (.bool false)
def ofZ (p k : Int) (m2 : Bool) (x2 s2 : Int) : Option AV :=
  chk (okW (toW (tS p.toNat))) (chk (inU s2) (ofT ((tM p.toNat == m2) && ((tX p.toNat == x2) && (decide (toW (tS p.toNat) = toW s2.toNat) && (true && true)))) (ofT (((pR (tM p.toNat) (toW (tS p.toNat)) (tX p.toNat) false k : Nat) : Int) == p) (ofT (((fR (tM p.toNat) (toW (tS p.toNat)) (tX p.toNat) false k : Nat) : Int) == 0) (some (.bool true))))))
theorem run_rndOf (p k : Int) : callA (env Tryd.f4.ntmps orcROf []) (bodyC Tryd.f4) Tryd.f4.results.toList (slots 0 [.int .u64 p, .int .i64 k]) some =
    chk (inU p) (bif finB p.toNat then chk (inU p) (bif !(finB p.toNat) then some (.bool false) else chk (inU p) (ofZ p k (tM p.toNat) (tX p.toNat) ((tS p.toNat : Nat) : Int)))
      else chk (inU p) (bif !(finB p.toNat) then some (.bool true) else chk (inU p) (chk (okW [0, 0, 0, 0]) (some (.bool false))))) := by kernel_rfl
def sp_dUI : List AV → Option (Bool × AV)
  | [.int .u64 p, .int .i64 _] => some (inU p, .bool true)
  | _ => none
theorem ok_rndOf : EntOk Tryd.prog 4 (entS false sp_dUI) := by
  refine contractS (orc := orcROf) (lo := []) Tryd.func4 (orc_cons ok_rOf (orc_cons ok_rFin (orc_cons ok_num4 (orc_cons ok_rTake (orc_cons ok_round (orc_cons ok_wOf (orc_cons ok_sure4 orc_nil))))))) (by kernel_rfl) (by kernel_rfl) (by kernel_rfl) (loops_none (by kernel_rfl)) fun args r h => ?_
  unfold sp_dUI at h
  split at h
  · rename_i p k
    simp only [Option.some.injEq, Prod.mk.injEq] at h
    obtain ⟨hp, rfl⟩ := h
    obtain ⟨m, rfl, hm⟩ := nat_of hp
    refine ⟨by kernel_rfl, .inr rfl, (run_rndOf m k).trans ?_⟩
    rw [hp]
    have hf : finB m = decide (absN m < infN) := by unfold finB; rw [stk_eq]
    rw [Int.toNat_natCast, hf]
    by_cases h1 : absN m < infN
    · obtain ⟨e1, e2⟩ := pat_self hm h1 k
      have hs : inU ((tS m : Nat) : Int) = true := by unfold tS; rw [stk_eq]; exact inU_sig _
      rw [decide_eq_true h1]
      unfold ofZ
      rw [Int.toNat_natCast, Int.toNat_natCast, e1, e2, okW_toW, hs, beq_self_eq_true, beq_self_eq_true, beq_self_eq_true, decide_eq_true rfl]
      rfl
    · rw [decide_eq_false h1]
      rfl
  · cases h

/-! ### RndAgain -/
def orcAgain : List (FuncId × Ent) := [(19, entS false sp_give), (17, entS false sp_round), (12, entB false sp_rOf), (15, entS false sp_true), (14, entS false sp_num)]
def agZ (v k : Int) : Option AV :=
  chk (inU v) (bif finB v.toNat then chk (okW (toW (tS v.toNat))) (ofT (((pR (tM v.toNat) (toW (tS v.toNat)) (tX v.toNat) false k : Nat) : Int) == v) (ofT (((fR (tM v.toNat) (toW (tS v.toNat)) (tX v.toNat) false k : Nat) : Int) == 0) (some (.bool true))))
    else ofT (andNotI .u64 v 9223372036854775808 == 9218868437227405312) (some (.bool true)))
theorem run_again (m : Bool) (e : Int) (s : List Int) (r : Bool) (k k2 : Int) : callA (env Tryd.f5.ntmps orcAgain []) (bodyC Tryd.f5) Tryd.f5.results.toList (slots 0 [.st [.bool m, .int .i64 e, .ints 4 .u64 s, .bool r], .int .i64 k, .int .i64 k2]) some =
    chk (okW s) (agZ ((pR m s e r k : Nat) : Int) k2) := by kernel_rfl
def sp_lawNII : List AV → Option (Bool × AV)
  | [.st [.bool _, .int .i64 _, .ints 4 .u64 s, .bool _], .int .i64 _, .int .i64 _] => some (okW s, .bool true)
  | _ => none
theorem ok_again : EntOk Tryd.prog 5 (entS false sp_lawNII) := by
  refine contractS (orc := orcAgain) (lo := []) Tryd.func5 (orc_cons ok_give (orc_cons ok_round (orc_cons ok_rOf (orc_cons ok_sure4 (orc_cons ok_num4 orc_nil))))) (by kernel_rfl) (by kernel_rfl) (by kernel_rfl) (loops_none (by kernel_rfl)) fun args r h => ?_
  unfold sp_lawNII at h
  split at h
  · rename_i m e s r k k2
    simp only [Option.some.injEq, Prod.mk.injEq] at h
    obtain ⟨hs, rfl⟩ := h
    refine ⟨by kernel_rfl, .inr rfl, (run_again m e s r k k2).trans ?_⟩
    rw [hs]
    have hP : pR m s e r k < 18446744073709551616 ∧ absN (pR m s e r k) ≤ infN := by
      unfold pR
      rw [stk_eq]
      unfold rndP
      have h1 := size_le m (nS (valW s) r) (nE e r) k
      have h2 := rndP_lt m (nS (valW s) r) (nE e r) k
      generalize sizeP m (nS (valW s) r) (nE e r) k = z at *
      have h3 : sgnOf m = 0 ∨ sgnOf m = 9223372036854775808 := by unfold sgnOf; cases m <;> simp
      have h4 : absN (z + sgnOf m) = z := by
        unfold absN
        omega
      rw [h4]
      omega
    generalize pR m s e r k = P at *
    obtain ⟨hl, hi⟩ := hP
    have hf : finB P = decide (absN P < infN) := by unfold finB; rw [stk_eq]
    unfold agZ
    rw [Int.toNat_natCast, hf, inU_iff.2 (show (0 : Int) ≤ (P : Int) ∧ (P : Int) < 18446744073709551616 by omega), andNot63 P hl]
    by_cases h1 : absN P < infN
    · obtain ⟨e1, e2⟩ := pat_self hl h1 k2
      rw [decide_eq_true h1, e1, e2, okW_toW, beq_self_eq_true]
      rfl
    · have e1 : absN P = infN := by omega
      rw [decide_eq_false h1, e1]
      rfl
  · cases h
end
end Go.Proofs.YtdkebceiljdgjaaDoor
