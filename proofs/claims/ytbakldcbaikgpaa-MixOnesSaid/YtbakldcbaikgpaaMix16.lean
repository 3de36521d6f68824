/- tillerref20.Product; MixOnes. Own work. -/
import Derived.Test.YtbakldcbaikgpaaMix15
namespace Go.Proofs.Ytbakldcbaikgpaa
set_option maxRecDepth 100000
noncomputable section

/-! ### The reference's Can, and its product -/
theorem run_rcan (n : Int) : callA (env Try.f22.ntmps [] []) (bodyC Try.f22) Try.f22.results.toList (slots 0 [.int .i64 n]) some =
    (bif n == 2 then some (.bool true) else bif n == 3 then some (.bool true) else bif n == 4 then some (.bool true) else bif n == 5 then some (.bool true) else bif n == 7 then some (.bool true) else bif n == 11 then some (.bool true) else some (.bool (n == 13))) := by kernel_rfl
theorem ok_rcan : EntOk Try.prog 22 (entS false sp_can) := by
  refine contractS (orc := []) (lo := []) Try.func22 orc_nil (by kernel_rfl) (by kernel_rfl) (by kernel_rfl) (loops_none (by kernel_rfl)) fun args r h => ?_
  unfold sp_can at h
  split at h
  · rename_i n
    simp only [Option.some.injEq, Prod.mk.injEq] at h
    obtain ⟨-, rfl⟩ := h
    refine ⟨by kernel_rfl, .inr rfl, (run_rcan n).trans ?_⟩
    rw [canK_eq]
    unfold canN
    by_cases h2 : n = 2
    · subst h2; rfl
    by_cases h3 : n = 3
    · subst h3; rfl
    by_cases h4 : n = 4
    · subst h4; rfl
    by_cases h5 : n = 5
    · subst h5; rfl
    by_cases h7 : n = 7
    · subst h7; rfl
    by_cases h11 : n = 11
    · subst h11; rfl
    rw [beq_eq_false_iff_ne.2 h2, beq_eq_false_iff_ne.2 h3, beq_eq_false_iff_ne.2 h4, beq_eq_false_iff_ne.2 h5, beq_eq_false_iff_ne.2 h7, beq_eq_false_iff_ne.2 h11]
    by_cases h13 : n = 13
    · subst h13; rfl
    · rw [beq_eq_false_iff_ne.2 h13, decide_eq_false (by omega)]; rfl
  · cases h
def refL : List Int → Int → Int
  | [], n => if n > 67108864 then 0 else n
  | r :: R, n => if canN r = true ∧ n ≤ 67108864 then refL R (n * r) else 0
theorem refL_big : ∀ (R : List Int) (n : Int), 67108864 < n → refL R n = 0
  | [], n, h => by unfold refL; rw [if_pos (by omega)]
  | r :: R, n, h => by unfold refL; rw [if_neg (by omega)]
theorem refL_prod : ∀ (R : List Int) (n : Int), 1 ≤ n → n ≤ 67108864 → refL R n = (prodL R n).getD 0
  | [], n, h1, h2 => by unfold refL prodL; rw [if_neg (by omega)]; rfl
  | r :: R, n, h1, h2 => by
    unfold refL prodL
    by_cases hc : canN r = true
    · have hr := can_le hc
      rw [if_pos ⟨hc, h2⟩]
      have h4 : 1 * 1 ≤ n * r := Int.mul_le_mul h1 (by omega) (by omega) (by omega)
      by_cases hn : n ≤ 67108864 / r
      · have q2 : (67108864 : Int) / r * r ≤ 67108864 := Int.ediv_mul_le _ (by omega)
        have q3 : n * r ≤ (67108864 : Int) / r * r := Int.mul_le_mul_of_nonneg_right hn (by omega)
        rw [if_pos ⟨hc, hn⟩]
        exact refL_prod R (n * r) (by omega) (by omega)
      · rw [if_neg (fun h => hn h.2)]
        have : 67108864 < n * r := by
          exact Int.lt_mul_of_ediv_lt (show 0 < r by omega) (show (67108864 : Int) / r < n by omega)
        exact refL_big R _ this
    · rw [if_neg (fun h => hc h.1), if_neg (fun h => hc h.1)]; rfl
def stepRP (R0 : Type) (vs : List AV) (k1 : List AV → Option R0) (k2 : Nat → List AV → Option R0) : Option R0 :=
  match vs with
  | [.sl (.ints m .i64 R), .int .i64 n, .int .i64 i] =>
    bif decide (i < m) then chk (inX i m) (bif !(canK (R.getD i.toNat 0)) then k2 1 [.int .i64 0] else bif decide (n > 67108864) then k2 1 [.int .i64 0] else
      chk (inX i m) (k1 [.sl (.ints m .i64 R), .int .i64 (w64 (n * (R.getD i.toNat 0))), .int .i64 (w64 (i + 1))]))
    else k2 0 [.int .i64 n]
  | _ => none
/-- How a reference's product ends: early, or with a number. -/
def refE : List Int → Int → Option Int
  | [], n => some n
  | r :: R, n => if canN r = true ∧ n ≤ 67108864 then refE R (n * r) else none
theorem refE_L : ∀ (R : List Int) (n : Int), refL R n = match refE R n with | some p => if p > 67108864 then 0 else p | none => 0
  | [], n => rfl
  | r :: R, n => by
    unfold refL refE
    split
    · exact refE_L R _
    · rfl
def rpB (R : List Int) : Bool := stk (refE R 1).isSome
def rpV (R : List Int) : Int := stk ((refE R 1).getD 0)
def leRP : LEnt :=
  { inn := { fuel := none, keep := [0, 3, 4], refs := [] }
    out := { fuel := none, keep := [3], refs := [] }
    ret := { fuel := none, keep := [2], refs := [] }
    go := fun _ _ vs kk => match vs with
      | [.sl (.ints m .i64 R), .int .i64 1, .int .i64 0] => chk (fitR m R) (bif rpB R then kk 0 [.int .i64 (rpV R)] else kk 1 [.int .i64 0])
      | _ => none }
def orcRPr : List (FuncId × Ent) := [(22, entS false sp_can)]
theorem step_RP (R0 : Type) (m : Nat) (R : List Int) (n i : Int) (k1 : List AV → Option R0) (k2 : Nat → List AV → Option R0) :
    runA (env Try.f12.ntmps orcRPr []) (loopOf 0 (bodyC Try.f12)) 0 (stateOf leRP.inn [.sl (.ints m .i64 R), .int .i64 n, .int .i64 i]) (bodyK leRP 0 k1 k2) =
    stepRP R0 [.sl (.ints m .i64 R), .int .i64 n, .int .i64 i] k1 k2 := by kernel_rfl
theorem RP_loop (R0 : Type) (m : Nat) (R : List Int) (kk : Nat → List AV → Option R0) (hm : R.length = m) (hm2 : m < 9223372036854775808) : ∀ (q i : Nat) (n : Int), i + q = m → 1 ≤ n → n ≤ 872415232 →
    loopN (stepRP R0) (q + 1) [.sl (.ints m .i64 R), .int .i64 n, .int .i64 i] kk = (match refE (R.drop i) n with | some p => kk 0 [.int .i64 p] | none => kk 1 [.int .i64 0])
  | 0, i, n, hi, h1, h2 => by
    have e : R.drop i = [] := List.drop_of_length_le (by omega)
    rw [loopN, e]
    unfold stepRP
    simp only [show ¬ ((i : Int) < (m : Int)) by omega, decide_false, cond_false]
    rfl
  | q + 1, i, n, hi, h1, h2 => by
    have hlt : i < R.length := by omega
    have hd : R.drop i = R.getD i 0 :: R.drop (i + 1) := by
      rw [List.drop_eq_getElem_cons hlt, List.getD_eq_getElem?_getD, List.getElem?_eq_getElem hlt]; rfl
    have c1 : inX (i : Int) m = true := inX_at (by omega)
    have e1 : w64 ((i : Int) + 1) = ((i + 1 : Nat) : Int) := by unfold w64; rw [IntKind.wrap_i64]; omega
    obtain ⟨r, hr⟩ : ∃ r, R.getD i 0 = r := ⟨_, rfl⟩
    have hs : ∀ k1 k2, stepRP R0 [.sl (.ints m .i64 R), .int .i64 n, .int .i64 i] k1 k2 = if canN r = true ∧ n ≤ 67108864 then k1 [.sl (.ints m .i64 R), .int .i64 (n * r), .int .i64 ((i + 1 : Nat) : Int)] else k2 1 [.int .i64 0] := by
      intro k1 k2
      unfold stepRP
      simp only [decide_eq_true (show (i : Int) < (m : Int) by omega), cond_true, Int.toNat_natCast, c1, e1, canK_eq, chk, hr]
      cases hc : canN r with
      | false => rw [if_neg (by simp)]; rfl
      | true =>
        have hr2 := can_le hc
        by_cases hn : n ≤ 67108864
        · have q3 : n * r ≤ 67108864 * 13 := Int.mul_le_mul hn hr2.2 (by omega) (by omega)
          have q4 : 1 * 1 ≤ n * r := Int.mul_le_mul h1 (by omega) (by omega) (by omega)
          rw [if_pos ⟨rfl, hn⟩, decide_eq_false (show ¬ n > 67108864 by omega), w64_mid (x := n * r) (by omega) (by omega)]
          rfl
        · rw [if_neg (fun h => hn h.2), decide_eq_true (show n > 67108864 by omega)]
          rfl
    rw [loopN, hs, hd, hr]
    unfold refE
    by_cases hc : canN r = true ∧ n ≤ 67108864
    · have hr2 := can_le hc.1
      have q3 : n * r ≤ 67108864 * 13 := Int.mul_le_mul hc.2 hr2.2 (by omega) (by omega)
      have q4 : 1 * 1 ≤ n * r := Int.mul_le_mul h1 (by omega) (by omega) (by omega)
      rw [if_pos hc, if_pos hc]
      exact RP_loop R0 m R kk hm hm2 q (i + 1) _ (by omega) (by omega) (by omega)
    · rw [if_neg hc, if_neg hc]
theorem go_RP (R0 : Type) (n : Nat) (vs : List AV) (kk : Nat → List AV → Option R0) (r : R0) (h : leRP.go R0 n vs kk = some r) : ∃ m, loopN (stepRP R0) m vs kk = some r := by
  simp only [leRP] at h
  split at h
  · rename_i m R
    obtain ⟨hg, hk⟩ := chk_some h
    clear h
    unfold fitR at hg
    rw [stk_eq, decide_eq_true_eq] at hg
    have := RP_loop R0 m R kk hg.1 hg.2 m 0 1 (by omega) (by omega) (by omega)
    rw [List.drop_zero] at this
    refine ⟨m + 1, this.trans ?_⟩
    unfold rpB rpV at hk
    rw [stk_eq, stk_eq] at hk
    cases hp : refE R 1 with
    | none => rw [hp] at hk; exact hk
    | some p => rw [hp] at hk; exact hk
  · cases h
def sp_rprod : List AV → Option (Bool × AV)
  | [.sl (.ints m .i64 R)] => some (fitR m R, .int .i64 (prV R))
  | _ => none
theorem run_rprod (m : Nat) (R : List Int) : callA (env Try.f12.ntmps orcRPr [(0, leRP)]) (bodyC Try.f12) Try.f12.results.toList (slots 0 [.sl (.ints m .i64 R)]) some =
    chk (fitR m R) (bif rpB R then (bif decide (rpV R > 67108864) then some (.int .i64 0) else some (.int .i64 (rpV R))) else some (.int .i64 0)) := by kernel_rfl
theorem ok_rprod : EntOk Try.prog 12 (entS false sp_rprod) := by
  refine contractS (orc := orcRPr) (lo := [(0, leRP)]) Try.func12 (orc_cons ok_rcan orc_nil) (by kernel_rfl) (by kernel_rfl) (by kernel_rfl)
    (loops_one (id := 0) (y := .loop (loopOf 0 (bodyC Try.f12))) (by kernel_rfl)
      (loopS (le := leRP) (orc := orcRPr) (lo' := []) (orc_cons ok_rcan orc_nil) (by kernel_rfl) rfl (loops_none (by kernel_rfl)) stepRP (fun R vs k1 k2 r h => ?_) go_RP)) fun args r h => ?_
  · have h0 := h
    unfold stepRP at h
    split at h
    · exact (step_RP R _ _ _ _ k1 k2).trans h0
    · cases h
  · unfold sp_rprod at h
    split at h
    · rename_i m R
      simp only [Option.some.injEq, Prod.mk.injEq] at h
      obtain ⟨hg, rfl⟩ := h
      refine ⟨by kernel_rfl, .inr rfl, (run_rprod m R).trans ?_⟩
      have h1 := refL_prod R 1 (by omega) (by omega)
      rw [refE_L] at h1
      unfold prV rpB rpV
      rw [hg, stk_eq, stk_eq, stk_eq, ← h1]
      cases hp : refE R 1 with
      | none => rfl
      | some p =>
        simp only [Option.isSome_some, Option.getD_some, cond_true, chk]
        by_cases hq : p > 67108864
        · rw [decide_eq_true hq, if_pos hq]; rfl
        · rw [decide_eq_false hq, if_neg hq]; rfl
    · cases h
end
end Go.Proofs.Ytbakldcbaikgpaa
