/- turn: Cos, Sin, Root. Own work. -/
import Derived.Test.YtbakldcbaikgpaaGreatDoorTurn1
namespace Go.Proofs.YtbakldcbaikgpaaGreatDoor
set_option maxRecDepth 100000
noncomputable section

theorem rouF_lt (a : Nat) : rouF a < 9223372036854775808 := by
  unfold rouF rndP sgnOf
  rw [if_neg (by decide), Nat.add_zero]
  exact rndP_lt _ _ _ _
theorem sinF_lt (o n : Nat) : sinF o n < 9223372036854775808 := by
  unfold sinF
  split
  · decide
  · split
    · decide
    · split
      · decide
      · exact rouF_lt _
theorem cosF_lt (o n : Nat) : cosF o n < 9223372036854775808 := by
  unfold cosF
  split
  · decide
  · split
    · decide
    · exact rouF_lt _
theorem oct_lt {j n : Nat} (h : j < n) : octN j n < 8 := (Nat.div_lt_iff_lt_mul (by omega)).2 (by omega)
theorem ovr_le {j n : Nat} (h : j < n) : ovrN j n ≤ n := by
  have := Nat.mod_lt (8 * j) (show 0 < n by omega)
  unfold ovrN
  split <;> omega

def cosR (k n : Int) : Int := ((stk (cosZ k n) : Nat) : Int)
def sinR (k n : Int) : Int := ((stk (sinZ k n) : Nat) : Int)
def errV : AV := .iface 59 (.int .i64 1)
def sp_tCos : List AV → Option Br
  | [.int .i64 k, .int .i64 n] => some (.br (decide (n < 1)) (.leaf (.tup [.int .u64 0, .iface 59 (.int .i64 1)])) (.br (decide (n > 67108864)) (.leaf (.tup [.int .u64 0, .iface 59 (.int .i64 1)])) (.leaf (.tup [.int .u64 (cosR k n), .nili]))))
  | _ => none
def sp_tSin : List AV → Option Br
  | [.int .i64 k, .int .i64 n] => some (.br (decide (n < 1)) (.leaf (.tup [.int .u64 0, .iface 59 (.int .i64 1)])) (.br (decide (n > 67108864)) (.leaf (.tup [.int .u64 0, .iface 59 (.int .i64 1)])) (.leaf (.tup [.int .u64 (sinR k n), .nili]))))
  | _ => none
def orcTC : List (FuncId × Ent) := [(127, entB false sp_tCheck), (128, entS false sp_tRed), (130, entS false sp_tSine), (131, entS false sp_tCosine), (129, entS false sp_tSigned)]
def tcE : Option AV := some (.tup [.int .u64 0, .iface 59 (.int .i64 1)])
def tcS (o n : Int) (m : Bool) : Option AV := chk (okT o n) (chk (okP (sinV o n)) (some (.tup [.int .u64 (sgnV (sinV o n) m), .nili])))
def tcC (o n : Int) (m : Bool) : Option AV := chk (okT o n) (chk (okP (cosV o n)) (some (.tup [.int .u64 (sgnV (cosV o n) m), .nili])))
def tcM (q o n : Int) (m : Bool) : Option AV := bif (q.tmod 4) == 1 then tcS o n m else bif (q.tmod 4) == 2 then tcS o n m else tcC o n m
def tsM (q o n : Int) (m : Bool) : Option AV := bif (q.tmod 4) == 1 then tcC o n m else bif (q.tmod 4) == 2 then tcC o n m else tcS o n m
theorem run_tCos (k n : Int) : callA (env Tryz.f91.ntmps orcTC []) (bodyC Tryz.f91) Tryz.f91.results.toList (slots 0 [.int .i64 k, .int .i64 n]) some =
    bif decide (n < 1) then tcE else bif decide (n > 67108864) then tcE else chk (okN n) (bif decide ((octZ k n) ≥ 2) then tcM (octZ k n) (ovrZ k n) n (decide ((octZ k n) ≤ 5)) else tcM (octZ k n) (ovrZ k n) n false) := by kernel_rfl
theorem run_tSin (k n : Int) : callA (env Tryz.f92.ntmps orcTC []) (bodyC Tryz.f92) Tryz.f92.results.toList (slots 0 [.int .i64 k, .int .i64 n]) some =
    bif decide (n < 1) then tcE else bif decide (n > 67108864) then tcE else chk (okN n) (tsM (octZ k n) (ovrZ k n) n (decide ((octZ k n) ≥ 4))) := by kernel_rfl

theorem tc_at {j n : Nat} (hj : j < n) (hn : n ≤ 67108864) (m : Bool) :
    tcS (ovrN j n : Nat) n m = some (.tup [.int .u64 ((sgdN (sinF (ovrN j n) n) m : Nat) : Int), .nili]) ∧ tcC (ovrN j n : Nat) n m = some (.tup [.int .u64 ((sgdN (cosF (ovrN j n) n) m : Nat) : Int), .nili]) := by
  have h1 := ovr_le hj
  have hT : okT (ovrN j n : Nat) n = true := okT_iff.2 (by omega)
  have hs := sinF_lt (ovrN j n) n
  have hc := cosF_lt (ovrN j n) n
  unfold tcS tcC sgnV sinV cosV
  rw [hT, stk_eq, stk_eq, stk_eq, stk_eq, Int.toNat_natCast, Int.toNat_natCast, okP_iff.2 (by omega), okP_iff.2 (by omega)]
  exact ⟨rfl, rfl⟩
theorem ok_tCos : EntOk Tryz.prog 91 (entB false sp_tCos) := by
  refine contractB (orc := orcTC) (lo := []) Tryz.func91 (orc_cons ok_tCheck (orc_cons ok_tRed (orc_cons ok_tSine (orc_cons ok_tCosine (orc_cons ok_tSigned orc_nil))))) (by kernel_rfl) (by kernel_rfl) (by kernel_rfl) (loops_none (by kernel_rfl)) fun args t h => ?_
  unfold sp_tCos at h
  split at h
  · rename_i k n
    simp only [Option.some.injEq] at h
    subst h
    refine ⟨by kernel_rfl, .inr rfl, fun z hz => (run_tCos k n).trans ?_⟩
    rw [← hz]
    simp only [Br.run]
    by_cases c1 : n < 1
    · rw [decide_eq_true c1]; rfl
    by_cases c2 : n > 67108864
    · rw [decide_eq_false c1, decide_eq_true c2]; rfl
    rw [decide_eq_false c1, decide_eq_false c2, okN_iff.2 (by omega)]
    simp only [cond_false, chk, cond_true]
    have hm1 := Int.emod_nonneg k (show n ≠ 0 by omega)
    have hm2 := Int.emod_lt_of_pos k (show 0 < n by omega)
    unfold octZ ovrZ cosR cosZ cosK
    rw [stk_eq, stk_eq, stk_eq]
    obtain ⟨n, rfl⟩ : ∃ m : Nat, n = m := ⟨n.toNat, (Int.toNat_of_nonneg (by omega)).symm⟩
    obtain ⟨j, hj⟩ : ∃ j : Nat, (k % (n : Int)).toNat = j := ⟨_, rfl⟩
    have hjn : j < n := by omega
    rw [hj, Int.toNat_natCast]
    have hq := oct_lt hjn
    have t1 : ((octN j n : Nat) : Int).tmod 4 = ((octN j n % 4 : Nat) : Int) := rfl
    have hM : ∀ m : Bool, tcM (octN j n : Nat) (ovrN j n : Nat) n m = some (.tup [.int .u64 ((sgdN (if octN j n % 4 = 1 ∨ octN j n % 4 = 2 then sinF (ovrN j n) n else cosF (ovrN j n) n) m : Nat) : Int), .nili]) := by
      intro m
      unfold tcM
      rw [t1, (tc_at hjn (by omega) m).1, (tc_at hjn (by omega) m).2]
      by_cases a1 : octN j n % 4 = 1
      · rw [if_pos (.inl a1), a1]; rfl
      · rw [beq_eq_false_iff_ne.2 (show ((octN j n % 4 : Nat) : Int) ≠ 1 by omega)]
        by_cases a2 : octN j n % 4 = 2
        · rw [if_pos (.inr a2), a2]; rfl
        · rw [beq_eq_false_iff_ne.2 (show ((octN j n % 4 : Nat) : Int) ≠ 2 by omega), if_neg (by omega)]; rfl
    rw [hM, hM]
    by_cases b1 : 2 ≤ octN j n
    · rw [decide_eq_true (show ((octN j n : Nat) : Int) ≥ 2 by omega), decide_eq_true b1, show decide (((octN j n : Nat) : Int) ≤ 5) = decide (octN j n ≤ 5) from decide_eq_decide.2 (by omega)]
      rfl
    · rw [decide_eq_false (show ¬ ((octN j n : Nat) : Int) ≥ 2 by omega), decide_eq_false b1]
      rfl
  · cases h
theorem ok_tSin : EntOk Tryz.prog 92 (entB false sp_tSin) := by
  refine contractB (orc := orcTC) (lo := []) Tryz.func92 (orc_cons ok_tCheck (orc_cons ok_tRed (orc_cons ok_tSine (orc_cons ok_tCosine (orc_cons ok_tSigned orc_nil))))) (by kernel_rfl) (by kernel_rfl) (by kernel_rfl) (loops_none (by kernel_rfl)) fun args t h => ?_
  unfold sp_tSin at h
  split at h
  · rename_i k n
    simp only [Option.some.injEq] at h
    subst h
    refine ⟨by kernel_rfl, .inr rfl, fun z hz => (run_tSin k n).trans ?_⟩
    rw [← hz]
    simp only [Br.run]
    by_cases c1 : n < 1
    · rw [decide_eq_true c1]; rfl
    by_cases c2 : n > 67108864
    · rw [decide_eq_false c1, decide_eq_true c2]; rfl
    rw [decide_eq_false c1, decide_eq_false c2, okN_iff.2 (by omega)]
    simp only [cond_false, chk, cond_true]
    have hm1 := Int.emod_nonneg k (show n ≠ 0 by omega)
    have hm2 := Int.emod_lt_of_pos k (show 0 < n by omega)
    unfold octZ ovrZ sinR sinZ sinK
    rw [stk_eq, stk_eq, stk_eq]
    obtain ⟨n, rfl⟩ : ∃ m : Nat, n = m := ⟨n.toNat, (Int.toNat_of_nonneg (by omega)).symm⟩
    obtain ⟨j, hj⟩ : ∃ j : Nat, (k % (n : Int)).toNat = j := ⟨_, rfl⟩
    have hjn : j < n := by omega
    rw [hj, Int.toNat_natCast]
    have hq := oct_lt hjn
    have t1 : ((octN j n : Nat) : Int).tmod 4 = ((octN j n % 4 : Nat) : Int) := rfl
    have hM : ∀ m : Bool, tsM (octN j n : Nat) (ovrN j n : Nat) n m = some (.tup [.int .u64 ((sgdN (if octN j n % 4 = 1 ∨ octN j n % 4 = 2 then cosF (ovrN j n) n else sinF (ovrN j n) n) m : Nat) : Int), .nili]) := by
      intro m
      unfold tsM
      rw [t1, (tc_at hjn (by omega) m).1, (tc_at hjn (by omega) m).2]
      by_cases a1 : octN j n % 4 = 1
      · rw [if_pos (.inl a1), a1]; rfl
      · rw [beq_eq_false_iff_ne.2 (show ((octN j n % 4 : Nat) : Int) ≠ 1 by omega)]
        by_cases a2 : octN j n % 4 = 2
        · rw [if_pos (.inr a2), a2]; rfl
        · rw [beq_eq_false_iff_ne.2 (show ((octN j n % 4 : Nat) : Int) ≠ 2 by omega), if_neg (by omega)]; rfl
    rw [hM, show decide (((octN j n : Nat) : Int) ≥ 4) = decide (4 ≤ octN j n) from decide_eq_decide.2 (by omega)]
  · cases h

def sp_tRoot : List AV → Option Br
  | [.int .i64 k, .int .i64 n] => some (.br (decide (n < 1)) (.leaf (.tup [.st [.int .u64 0, .int .u64 0], .iface 59 (.int .i64 1)])) (.br (decide (n > 67108864)) (.leaf (.tup [.st [.int .u64 0, .int .u64 0], .iface 59 (.int .i64 1)]))
      (.leaf (.tup [.st [.int .u64 (cosR k n), .int .u64 (sinR k n)], .nili]))))
  | _ => none
def trE : Option AV := some (.tup [.st [.int .u64 0, .int .u64 0], .iface 59 (.int .i64 1)])
theorem run_tRoot (k n : Int) : callA (env Tryz.f60.ntmps [(91, entB false sp_tCos), (92, entB false sp_tSin)] []) (bodyC Tryz.f60) Tryz.f60.results.toList (slots 0 [.int .i64 k, .int .i64 n]) some =
    bif decide (n < 1) then trE else bif decide (n > 67108864) then trE else bif decide (n < 1) then some (.tup [.st [.int .u64 (cosR k n), .int .u64 0], .iface 59 (.int .i64 1)]) else bif decide (n > 67108864) then some (.tup [.st [.int .u64 (cosR k n), .int .u64 0], .iface 59 (.int .i64 1)]) else
      some (.tup [.st [.int .u64 (cosR k n), .int .u64 (sinR k n)], .nili]) := by kernel_rfl
theorem ok_tRoot : EntOk Tryz.prog 60 (entB false sp_tRoot) := by
  refine contractB (orc := [(91, entB false sp_tCos), (92, entB false sp_tSin)]) (lo := []) Tryz.func60 (orc_cons ok_tCos (orc_cons ok_tSin orc_nil)) (by kernel_rfl) (by kernel_rfl) (by kernel_rfl) (loops_none (by kernel_rfl)) fun args t h => ?_
  unfold sp_tRoot at h
  split at h
  · rename_i k n
    simp only [Option.some.injEq] at h
    subst h
    refine ⟨by kernel_rfl, .inr rfl, fun z hz => (run_tRoot k n).trans ?_⟩
    rw [← hz]
    simp only [Br.run]
    by_cases c1 : n < 1
    · rw [decide_eq_true c1]; rfl
    by_cases c2 : n > 67108864
    · rw [decide_eq_false c1, decide_eq_true c2]; rfl
    rw [decide_eq_false c1, decide_eq_false c2]
    rfl
  · cases h
/-- Root, where there is such a turn. -/
def sp_tRootG : List AV → Option (Bool × AV)
  | [.int .i64 k, .int .i64 n] => some (okN n, .tup [.st [.int .u64 (cosR k n), .int .u64 (sinR k n)], .nili])
  | _ => none
theorem ok_tRootG : EntOk Tryz.prog 60 (entS false sp_tRootG) := by
  refine contractS (orc := [(91, entB false sp_tCos), (92, entB false sp_tSin)]) (lo := []) Tryz.func60 (orc_cons ok_tCos (orc_cons ok_tSin orc_nil)) (by kernel_rfl) (by kernel_rfl) (by kernel_rfl) (loops_none (by kernel_rfl)) fun args r h => ?_
  unfold sp_tRootG at h
  split at h
  · rename_i k n
    simp only [Option.some.injEq, Prod.mk.injEq] at h
    obtain ⟨hg, rfl⟩ := h
    obtain ⟨h1, h2⟩ := okN_iff.1 hg
    refine ⟨by kernel_rfl, .inr rfl, (run_tRoot k n).trans ?_⟩
    rw [decide_eq_false (show ¬ n < 1 by omega), decide_eq_false (show ¬ n > 67108864 by omega)]
    rfl
  · cases h
end
end Go.Proofs.YtbakldcbaikgpaaGreatDoor
