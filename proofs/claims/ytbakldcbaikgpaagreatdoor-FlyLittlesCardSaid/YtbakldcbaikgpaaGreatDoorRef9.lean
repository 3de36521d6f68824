/- tillerref06: Fma; tillerref17. Own work. -/
import Derived.Test.YtbakldcbaikgpaaGreatDoorRef8
namespace Go.Proofs.YtbakldcbaikgpaaGreatDoor
set_option maxRecDepth 100000
noncomputable section
theorem infX_absN (a b : Nat) : absN (infX a b) = infN := by
  unfold infX sgX infN absN
  split <;> omega
theorem noG_ld3 (a b c : Nat) : mxI ((noGN a b : Nat) : Int) ((noGN c c : Nat) : Int) = ((ld3N a b c : Nat) : Int) := by
  unfold mxI noGN ld3N
  by_cases h1 : clN a = 5 <;> by_cases h2 : clN b = 5 <;> by_cases h3 : clN c = 5 <;> simp [h1, h2, h3]
theorem raS_fm (a b c : Nat) (k : Int) : raS (pdM a b) (pdX a b) (pdS a b) (sgB c) (exN c) (sigN c) k =
    tup7 ((rndP (fmJ a b c k).m (nS (fmJ a b c k).s (fmJ a b c k).r) (nE (fmJ a b c k).x (fmJ a b c k).r) k : Nat) : Int) ((rndF (fmJ a b c k).m (nS (fmJ a b c k).s (fmJ a b c k).r) (nE (fmJ a b c k).x (fmJ a b c k).r) k : Nat) : Int) := by
  have l1 : lenN (pdS a b) ≤ 106 := lenN_le.2 (pdS_lt a b)
  have l2 := len_sig c
  have x1 := ex_range a
  have x2 := ex_range b
  have x3 := ex_range c
  have hx : pdX a b = exN a + exN b := rfl
  obtain ⟨h1, h2⟩ := jn_law (S := pdS a b) (T := sigN c) (by omega) (by omega) (pdM a b) (sgB c) (pdX a b) (exN c) k
  obtain ⟨h3, h4⟩ := h2 k
  rw [raS_any (pdM a b) (sgB c) k (by omega) (by omega) (by omega) (by omega)]
  unfold fmJ rndP
  rw [h3, h4, h1]
theorem ok_rFma : EntOk Tryz.prog 50 (entS true sp_rFma) := by
  refine contractS (orc := orcRFma) (lo := []) Tryz.func50 (orc_cons ok_sum5 (orc_cons ok_pattern (orc_cons ok_rNaN (orc_cons ok_rNone (orc_cons ok_rAbs (orc_cons ok_rBad (orc_cons ok_rSg (orc_cons ok_rExact (orc_cons ok_round4 orc_nil))))))))) (by kernel_rfl) (by kernel_rfl) (by kernel_rfl) (loops_none (by kernel_rfl)) fun args r h => ?_
  unfold sp_rFma at h
  split at h
  · rename_i a b c k
    simp only [Option.some.injEq, Prod.mk.injEq, Bool.and_eq_true] at h
    obtain ⟨⟨⟨ha, hb⟩, hc⟩, rfl⟩ := h
    obtain ⟨m, rfl, hm⟩ := nat_of ha
    obtain ⟨n, rfl, hn⟩ := nat_of hb
    obtain ⟨c, rfl, hc'⟩ := nat_of hc
    refine ⟨by kernel_rfl, .inl rfl, (run_rFma m n c k).trans ?_⟩
    have hS := raS_fm m n c k
    have c1 : (((absN m : Nat) : Int) == 9218868437227405312) = decide (absN m = infN) := eqN _ infN
    have c2 : (((absN n : Nat) : Int) == 9218868437227405312) = decide (absN n = infN) := eqN _ infN
    have c3 : (((absN c : Nat) : Int) == 9218868437227405312) = decide (absN c = infN) := eqN _ infN
    have c4 : ((c : Int) != ((infX m n : Nat) : Int)) = decide (c ≠ infX m n) := by rw [bne, eqN, ← decide_not]
    have hI := infX_absN m n
    unfold rf3 rfI rfI2 ixK noX noXN pdMk pdXk pdSk nanB noG fmP fmF tM tX tS
    simp only [stk_eq, Int.toNat_natCast]
    rw [show decide (9223372036854775808 ≤ c) = sgB c from rfl] at *
    rw [hS, ha, hb, hc, c1, c2, c3, c4, noG_ld3]
    clear hS c1 c2 c3 c4
    unfold fmPN fmFN
    by_cases z : nzz m n
    · rw [if_pos z, if_pos z]
      unfold nzz at z
      rw [decide_eq_true z]; rfl
    rw [if_neg z, if_neg z]
    unfold nzz at z
    rw [decide_eq_false z]
    by_cases n1 : infN < absN m
    · rw [decide_eq_true n1, if_pos (.inl n1), if_pos (.inl n1)]; rfl
    by_cases n2 : infN < absN n
    · rw [decide_eq_false n1, decide_eq_true n2, if_pos (.inr (.inl n2)), if_pos (.inr (.inl n2))]; rfl
    by_cases n4 : infN < absN c
    · rw [decide_eq_false n1, decide_eq_false n2, decide_eq_true n4, if_pos (.inr (.inr n4)), if_pos (.inr (.inr n4))]; rfl
    have n3 : ¬ (infN < absN m ∨ infN < absN n ∨ infN < absN c) := by simp [n1, n2, n4]
    rw [decide_eq_false n1, decide_eq_false n2, decide_eq_false n4, if_neg n3, if_neg n3]
    have hA : (if absN c = infN then (if c ≠ infX m n then tup7 9221120237041090560 1 else tup7 ((infX m n : Nat) : Int) 0) else tup7 ((infX m n : Nat) : Int) 0) = tup7 ((adPN (infX m n) c k : Nat) : Int) ((adFN (infX m n) c k : Nat) : Int) := by
      unfold adPN adFN
      rw [if_neg (show ¬ (infN < absN (infX m n) ∨ infN < absN c) by rw [hI]; omega), if_neg (show ¬ (infN < absN (infX m n) ∨ infN < absN c) by rw [hI]; omega)]
      by_cases h1 : absN c = infN
      · rw [if_pos h1]
        by_cases h2 : c ≠ infX m n
        · have h3 : absN (infX m n) = infN ∧ absN c = infN ∧ infX m n ≠ c := ⟨hI, h1, Ne.symm h2⟩
          rw [if_pos h2, if_pos h3, if_pos h3]; rfl
        · have h3 : ¬ (absN (infX m n) = infN ∧ absN c = infN ∧ infX m n ≠ c) := fun h => h2 (Ne.symm h.2.2)
          rw [if_neg h2, if_neg h3, if_neg h3, if_pos hI, if_pos hI]; rfl
      · have h3 : ¬ (absN (infX m n) = infN ∧ absN c = infN ∧ infX m n ≠ c) := fun h => h1 h.2.1
        rw [if_neg h1, if_neg h3, if_neg h3, if_pos hI, if_pos hI]; rfl
    have hB : (bif decide (absN c = infN) then bif decide (c ≠ infX m n) then tup7 9221120237041090560 1 else tup7 ((infX m n : Nat) : Int) 0 else tup7 ((infX m n : Nat) : Int) 0) = tup7 ((adPN (infX m n) c k : Nat) : Int) ((adFN (infX m n) c k : Nat) : Int) := by
      rw [← hA]
      by_cases h1 : absN c = infN
      · rw [decide_eq_true h1, if_pos h1]
        by_cases h2 : c ≠ infX m n
        · rw [decide_eq_true h2, if_pos h2]; rfl
        · rw [decide_eq_false h2, if_neg h2]; rfl
      · rw [decide_eq_false h1, if_neg h1]; rfl
    by_cases i1 : absN m = infN
    · rw [if_pos (.inl i1), if_pos (.inl i1), decide_eq_true i1]
      exact hB
    rw [decide_eq_false i1]
    by_cases i2 : absN n = infN
    · rw [if_pos (.inr i2), if_pos (.inr i2), decide_eq_true i2]
      exact hB
    rw [if_neg (show ¬ (absN m = infN ∨ absN n = infN) by simp [i1, i2]), if_neg (show ¬ (absN m = infN ∨ absN n = infN) by simp [i1, i2]), decide_eq_false i2]
    by_cases i3 : absN c = infN
    · rw [if_pos i3, if_pos i3, decide_eq_true i3]; rfl
    rw [if_neg i3, if_neg i3, decide_eq_false i3]
    rfl
  · cases h
end
end Go.Proofs.YtbakldcbaikgpaaGreatDoor
