/- tillerlaw18: give; tillerref18.Can. Own work. -/
import Derived.Test.YtbakldcbaikgpaaGreatDoorFly4
namespace Go.Proofs.YtbakldcbaikgpaaGreatDoor
set_option maxRecDepth 100000
noncomputable section

/-! ### give -/
def fitG (n : Nat) (X : List PZ) : Bool := stk (decide (X.length = n ∧ n * 16 ≤ 140737488355328))
def stepG (R : Type) (vs : List AV) (k1 : List AV → Option R) (k2 : Nat → List AV → Option R) : Option R :=
  match vs with
  | [.prs p .u64 O, .sl (.prs n .u64 X), .int .i64 i] =>
    bif decide (i < n) then chk (inX i n) (chk (inX i n) (chk (Nat.ble ((p + 1) * 16) 140737488355328) (k1 [.prs (p + 1) .u64 (O ++ [((gp X i.toNat).1, (gp X i.toNat).2)]), .sl (.prs n .u64 X), .int .i64 (w64 (i + 1))])))
    else k2 0 [.prs p .u64 O]
  | _ => none
def leG : LEnt :=
  { inn := { fuel := none, keep := [0, 4], refs := [(3, 3, 44, .prs 0 .u64 [])] }
    out := { fuel := none, keep := [], refs := [(3, 3, 44, .prs 0 .u64 [])] }
    ret := { fuel := none, keep := [], refs := [] }
    go := fun _ _ vs kk => match vs with
      | [.prs 0 .u64 [], .sl (.prs n .u64 X), .int .i64 0] => chk (fitG n X) (kk 0 [.prs n .u64 X])
      | _ => none }
theorem step_G (R : Type) (p n : Nat) (O X : List PZ) (i : Int) (k1 : List AV → Option R) (k2 : Nat → List AV → Option R) :
    runA (env Tryz.f14.ntmps [] []) (loopOf 0 (bodyC Tryz.f14)) 0 (stateOf leG.inn [.prs p .u64 O, .sl (.prs n .u64 X), .int .i64 i]) (bodyK leG 0 k1 k2) =
    stepG R [.prs p .u64 O, .sl (.prs n .u64 X), .int .i64 i] k1 k2 := by kernel_rfl
theorem w64_fit {x : Int} (h0 : -9000000000000000000 ≤ x) (h1 : x ≤ 9000000000000000000) : w64 x = x := by unfold w64; rw [IntKind.wrap_i64]; omega
theorem G_step (R : Type) (n i : Nat) (O X : List PZ) (k1 : List AV → Option R) (k2 : Nat → List AV → Option R) (hi : i < n) (hn : n * 16 ≤ 140737488355328) :
    stepG R [.prs i .u64 O, .sl (.prs n .u64 X), .int .i64 i] k1 k2 = k1 [.prs (i + 1) .u64 (O ++ [gp X i]), .sl (.prs n .u64 X), .int .i64 ((i + 1 : Nat) : Int)] := by
  have e1 : w64 ((i : Int) + 1) = ((i + 1 : Nat) : Int) := by rw [w64_fit (by omega) (by omega)]; omega
  have c1 : inX (i : Int) n = true := inX_at hi
  have c2 : Nat.ble ((i + 1) * 16) 140737488355328 = true := Nat.ble_eq_true_of_le (by omega)
  unfold stepG
  simp only [decide_eq_true (show (i : Int) < (n : Int) by omega), cond_true, Int.toNat_natCast, c1, c2, e1, chk]
theorem G_end (R : Type) (n p : Nat) (i : Int) (O X : List PZ) (k1 : List AV → Option R) (k2 : Nat → List AV → Option R) (hi : ¬ i < (n : Int)) :
    stepG R [.prs p .u64 O, .sl (.prs n .u64 X), .int .i64 i] k1 k2 = k2 0 [.prs p .u64 O] := by
  unfold stepG
  simp only [hi, decide_false, cond_false]
theorem G_loop (R : Type) (n : Nat) (X : List PZ) (kk : Nat → List AV → Option R) (hX : X.length = n) (hn : n * 16 ≤ 140737488355328) : ∀ (q i : Nat), i + q = n →
    loopN (stepG R) (q + 1) [.prs i .u64 (X.take i), .sl (.prs n .u64 X), .int .i64 i] kk = kk 0 [.prs n .u64 X]
  | 0, i, hi => by
    obtain rfl : i = n := by omega
    rw [loopN, G_end R i i i _ X _ kk (by omega), ← hX, List.take_length]
  | q + 1, i, hi => by
    have e : X.take i ++ [gp X i] = X.take (i + 1) := by
      unfold gp
      rw [List.getD_eq_getElem?_getD, List.getElem?_eq_getElem (show i < X.length by omega), Option.getD_some, List.take_append_getElem (by omega)]
    rw [loopN, G_step R n i _ X _ kk (by omega) hn, e]
    exact G_loop R n X kk hX hn q (i + 1) (by omega)
theorem go_G (R : Type) (n : Nat) (vs : List AV) (kk : Nat → List AV → Option R) (r : R) (h : leG.go R n vs kk = some r) : ∃ m, loopN (stepG R) m vs kk = some r := by
  simp only [leG] at h
  split at h
  · rename_i n X
    obtain ⟨hg, hk⟩ := chk_some h
    clear h
    unfold fitG at hg
    rw [stk_eq, decide_eq_true_eq] at hg
    exact ⟨n + 1, (G_loop R n X kk hg.1 hg.2 n 0 (by omega)).trans hk⟩
  · cases h
def sp_lgive : List AV → Option (Bool × AV)
  | [.sl (.prs n .u64 X)] => some (fitG n X, .osl 44 (.prs n .u64 X))
  | _ => none
theorem run_lgive (n : Nat) (X : List PZ) : callA (env Tryz.f14.ntmps [] [(0, leG)]) (bodyC Tryz.f14) Tryz.f14.results.toList (slots 0 [.sl (.prs n .u64 X)]) some =
    chk (fitG n X) (some (.osl 44 (.prs n .u64 X))) := by kernel_rfl
theorem ok_lgive : EntOk Tryz.prog 14 (entS false sp_lgive) := by
  refine contractS (orc := []) (lo := [(0, leG)]) Tryz.func14 orc_nil (by kernel_rfl) (by kernel_rfl) (by kernel_rfl)
    (loops_one (id := 0) (y := .loop (loopOf 0 (bodyC Tryz.f14))) (by kernel_rfl)
      (loopS (le := leG) (orc := []) (lo' := []) orc_nil (by kernel_rfl) rfl (loops_none (by kernel_rfl)) stepG (fun R vs k1 k2 r h => ?_) go_G)) fun args r h => ?_
  · have h0 := h
    unfold stepG at h
    split at h
    · exact (step_G R _ _ _ _ _ k1 k2).trans h0
    · cases h
  · unfold sp_lgive at h
    split at h
    · rename_i n X
      simp only [Option.some.injEq, Prod.mk.injEq] at h
      obtain ⟨hg, rfl⟩ := h
      refine ⟨by kernel_rfl, .inr rfl, (run_lgive n X).trans ?_⟩
      rw [hg]; rfl
    · cases h

/-! ### Can, of the reference -/
theorem run_rcan (n : Int) : callA (env Tryz.f16.ntmps [] []) (bodyC Tryz.f16) Tryz.f16.results.toList (slots 0 [.int .i64 n]) some =
    bif n == 2 then some (.bool true) else bif n == 3 then some (.bool true) else bif n == 4 then some (.bool true) else bif n == 5 then some (.bool true) else bif n == 7 then some (.bool true) else bif n == 11 then some (.bool true) else some (.bool (n == 13)) := by kernel_rfl
theorem ok_rcan : EntOk Tryz.prog 16 (entS false sp_can) := by
  refine contractS (orc := []) (lo := []) Tryz.func16 orc_nil (by kernel_rfl) (by kernel_rfl) (by kernel_rfl) (loops_none (by kernel_rfl)) fun args r h => ?_
  unfold sp_can at h
  split at h
  · rename_i n
    simp only [Option.some.injEq, Prod.mk.injEq] at h
    obtain ⟨-, rfl⟩ := h
    refine ⟨by kernel_rfl, .inr rfl, (run_rcan n).trans ?_⟩
    unfold canK
    rw [stk_eq]
    by_cases h2 : n = 2
    · subst h2; rfl
    by_cases h3 : n = 3
    · subst h3; rfl
    by_cases h4 : n = 4
    · subst h4; rfl
    by_cases h5 : n = 5
    · subst h5; rfl
    by_cases h7 : n = 7
    · subst h7; rfl
    by_cases h11 : n = 11
    · subst h11; rfl
    by_cases h13 : n = 13
    · subst h13; rfl
    rw [beq_eq_false_iff_ne.2 h2, beq_eq_false_iff_ne.2 h3, beq_eq_false_iff_ne.2 h4, beq_eq_false_iff_ne.2 h5, beq_eq_false_iff_ne.2 h7, beq_eq_false_iff_ne.2 h11, beq_eq_false_iff_ne.2 h13]
    unfold canN
    rw [decide_eq_false (by omega)]
    rfl
  · cases h
end
end Go.Proofs.YtbakldcbaikgpaaGreatDoor
