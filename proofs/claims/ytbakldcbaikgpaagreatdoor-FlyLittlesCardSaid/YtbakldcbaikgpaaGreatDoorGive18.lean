/- tillerlaw18: give, same. Printed by a program of mine. -/
import Derived.Test.YtbakldcbaikgpaaGreatDoorFlyA
namespace Go.Proofs.YtbakldcbaikgpaaGreatDoor
set_option maxRecDepth 100000
noncomputable section
def fitG (n : Nat) (X : List PZ) : Bool := stk (decide (X.length = n ∧ n * 16 ≤ 140737488355328))
theorem fit_pairs {n : Nat} {X : List PZ} (h1 : X.length = n) (h2 : n * 16 ≤ 140737488355328) (hu : ∀ p ∈ X, inU p.1 = true ∧ inU p.2 = true) : (fitG n X && fitX n X) = true := by
  have h3 : okL X = true := okL_iff.2 fun x hx => okPr_iff.2 (hu x hx)
  unfold fitG fitX
  rw [stk_eq, stk_eq, decide_eq_true ⟨h1, h2⟩, decide_eq_true h1, h3]
  rfl
def stepGv (R : Type) (vs : List AV) (k1 : List AV → Option R) (k2 : Nat → List AV → Option R) : Option R :=
  match vs with
  | [.prs p .u64 O, .sl (.prs n .u64 X), .int .i64 i] =>
    bif decide (i < n) then chk (inX i n) (chk (inX i n) (chk (Nat.ble ((p + 1) * 16) 140737488355328) (k1 [.prs (p + 1) .u64 (O ++ [((gp X i.toNat).1, (gp X i.toNat).2)]), .sl (.prs n .u64 X), .int .i64 (w64 (i + 1))])))
    else k2 0 [.prs p .u64 O]
  | _ => none
def leGv : LEnt :=
  { inn := { fuel := none, keep := [0, 4], refs := [(3, 3, 44, .prs 0 .u64 [])] }
    out := { fuel := none, keep := [], refs := [(3, 3, 44, .prs 0 .u64 [])] }
    ret := { fuel := none, keep := [], refs := [] }
    go := fun _ _ vs kk => match vs with
      | [.prs 0 .u64 [], .sl (.prs n .u64 X), .int .i64 0] => chk (fitG n X) (kk 0 [.prs n .u64 X])
      | _ => none }
theorem step_Gv (R : Type) (p n : Nat) (O X : List PZ) (i : Int) (k1 : List AV → Option R) (k2 : Nat → List AV → Option R) :
    runA (env Tryz.f14.ntmps [] []) (loopOf 0 (bodyC Tryz.f14)) 0 (stateOf leGv.inn [.prs p .u64 O, .sl (.prs n .u64 X), .int .i64 i]) (bodyK leGv 0 k1 k2) =
    stepGv R [.prs p .u64 O, .sl (.prs n .u64 X), .int .i64 i] k1 k2 := by kernel_rfl
theorem w64_far {x : Int} (h0 : -9000000000000000000 ≤ x) (h1 : x ≤ 9000000000000000000) : w64 x = x := by unfold w64; rw [IntKind.wrap_i64]; omega
theorem Gv_loop (R : Type) (n : Nat) (X : List PZ) (kk : Nat → List AV → Option R) (hX : X.length = n) (hn : n * 16 ≤ 140737488355328) : ∀ (q i : Nat), i + q = n →
    loopN (stepGv R) (q + 1) [.prs i .u64 (X.take i), .sl (.prs n .u64 X), .int .i64 i] kk = kk 0 [.prs n .u64 X]
  | 0, i, hi => by
    obtain rfl : i = n := by omega
    rw [loopN]
    unfold stepGv
    simp only [show ¬ ((i : Int) < (i : Int)) by omega, decide_false, cond_false]
    rw [← hX, List.take_length]
  | q + 1, i, hi => by
    have e : X.take i ++ [gp X i] = X.take (i + 1) := by
      unfold gp
      rw [List.getD_eq_getElem?_getD, List.getElem?_eq_getElem (show i < X.length by omega), Option.getD_some, List.take_append_getElem (by omega)]
    have e1 : w64 ((i : Int) + 1) = ((i + 1 : Nat) : Int) := by rw [w64_far (by omega) (by omega)]; omega
    have c1 : inX (i : Int) n = true := inX_at (by omega)
    have c2 : Nat.ble ((i + 1) * 16) 140737488355328 = true := Nat.ble_eq_true_of_le (by omega)
    have hs : ∀ k1 k2, stepGv R [.prs i .u64 (X.take i), .sl (.prs n .u64 X), .int .i64 i] k1 k2 = k1 [.prs (i + 1) .u64 (X.take (i + 1)), .sl (.prs n .u64 X), .int .i64 ((i + 1 : Nat) : Int)] := by
      intro k1 k2
      rw [← e]
      unfold stepGv
      simp only [decide_eq_true (show (i : Int) < (n : Int) by omega), cond_true, Int.toNat_natCast, c1, c2, e1, chk]
    rw [loopN, hs]
    exact Gv_loop R n X kk hX hn q (i + 1) (by omega)
theorem go_Gv (R : Type) (n : Nat) (vs : List AV) (kk : Nat → List AV → Option R) (r : R) (h : leGv.go R n vs kk = some r) : ∃ m, loopN (stepGv R) m vs kk = some r := by
  simp only [leGv] at h
  split at h
  · rename_i n X
    obtain ⟨hg, hk⟩ := chk_some h
    clear h
    unfold fitG at hg
    rw [stk_eq, decide_eq_true_eq] at hg
    exact ⟨n + 1, (Gv_loop R n X kk hg.1 hg.2 n 0 (by omega)).trans hk⟩
  · cases h
def sp_gv : List AV → Option (Bool × AV)
  | [.sl (.prs n .u64 X)] => some (fitG n X, .osl 44 (.prs n .u64 X))
  | _ => none
theorem run_gv (n : Nat) (X : List PZ) : callA (env Tryz.f14.ntmps [] [(0, leGv)]) (bodyC Tryz.f14) Tryz.f14.results.toList (slots 0 [.sl (.prs n .u64 X)]) some =
    chk (fitG n X) (some (.osl 44 (.prs n .u64 X))) := by kernel_rfl
theorem ok_gv : EntOk Tryz.prog 14 (entS false sp_gv) := by
  refine contractS (orc := []) (lo := [(0, leGv)]) Tryz.func14 orc_nil (by kernel_rfl) (by kernel_rfl) (by kernel_rfl)
    (loops_one (id := 0) (y := .loop (loopOf 0 (bodyC Tryz.f14))) (by kernel_rfl)
      (loopS (le := leGv) (orc := []) (lo' := []) orc_nil (by kernel_rfl) rfl (loops_none (by kernel_rfl)) stepGv (fun R vs k1 k2 r h => ?_) go_Gv)) fun args r h => ?_
  · have h0 := h
    unfold stepGv at h
    split at h
    · exact (step_Gv R _ _ _ _ _ k1 k2).trans h0
    · cases h
  · unfold sp_gv at h
    split at h
    · rename_i n X
      simp only [Option.some.injEq, Prod.mk.injEq] at h
      obtain ⟨hg, rfl⟩ := h
      refine ⟨by kernel_rfl, .inr rfl, (run_gv n X).trans ?_⟩
      rw [hg]; rfl
    · cases h
/-! ### same, of what is the same -/
def fitSm (n m : Nat) (X Y : List PZ) : Bool := stk (decide (n = m ∧ X = Y ∧ n ≤ 1000000000))
def stepSm (R : Type) (vs : List AV) (k1 : List AV → Option R) (k2 : Nat → List AV → Option R) : Option R :=
  match vs with
  | [.sl (.prs n .u64 X), .sl (.prs m .u64 Y), .int .i64 i] =>
    bif decide (i < n) then chk (inX i n) (chk (inX i m) (bif (gp X i.toNat).1 != (gp Y i.toNat).1 then k2 1 [.bool false] else chk (inX i n) (chk (inX i m) (bif (gp X i.toNat).2 != (gp Y i.toNat).2 then k2 1 [.bool false] else
      k1 [.sl (.prs n .u64 X), .sl (.prs m .u64 Y), .int .i64 (w64 (i + 1))]))))
    else k2 0 []
  | [.nils, .nils, .int .i64 0] => k2 0 []
  | _ => none
def leSm : LEnt :=
  { inn := { fuel := none, keep := [0, 1, 5], refs := [] }
    out := { fuel := none, keep := [], refs := [] }
    ret := { fuel := none, keep := [4], refs := [] }
    go := fun _ _ vs kk => match vs with
      | [.sl (.prs n .u64 X), .sl (.prs m .u64 Y), .int .i64 0] => chk (fitSm n m X Y) (kk 0 [])
      | [.nils, .nils, .int .i64 0] => kk 0 []
      | _ => none }
theorem step_Sm (R : Type) (n m : Nat) (X Y : List PZ) (i : Int) (k1 : List AV → Option R) (k2 : Nat → List AV → Option R) :
    runA (env Tryz.f21.ntmps [] []) (loopOf 0 (bodyC Tryz.f21)) 0 (stateOf leSm.inn [.sl (.prs n .u64 X), .sl (.prs m .u64 Y), .int .i64 i]) (bodyK leSm 0 k1 k2) =
    stepSm R [.sl (.prs n .u64 X), .sl (.prs m .u64 Y), .int .i64 i] k1 k2 := by kernel_rfl
theorem step_Sn (R : Type) (k1 : List AV → Option R) (k2 : Nat → List AV → Option R) :
    runA (env Tryz.f21.ntmps [] []) (loopOf 0 (bodyC Tryz.f21)) 0 (stateOf leSm.inn [.nils, .nils, .int .i64 0]) (bodyK leSm 0 k1 k2) = k2 0 [] := by kernel_rfl
theorem Sm_loop (R : Type) (n : Nat) (X : List PZ) (kk : Nat → List AV → Option R) (hn : n ≤ 1000000000) : ∀ (q i : Nat), i + q = n →
    loopN (stepSm R) (q + 1) [.sl (.prs n .u64 X), .sl (.prs n .u64 X), .int .i64 i] kk = kk 0 []
  | 0, i, hi => by
    rw [loopN]
    unfold stepSm
    simp only [show ¬ ((i : Int) < (n : Int)) by omega, decide_false, cond_false]
  | q + 1, i, hi => by
    have e1 : w64 ((i : Int) + 1) = ((i + 1 : Nat) : Int) := by rw [w64_far (by omega) (by omega)]; omega
    have c1 : inX (i : Int) n = true := inX_at (by omega)
    have hs : ∀ k1 k2, stepSm R [.sl (.prs n .u64 X), .sl (.prs n .u64 X), .int .i64 i] k1 k2 = k1 [.sl (.prs n .u64 X), .sl (.prs n .u64 X), .int .i64 ((i + 1 : Nat) : Int)] := by
      intro k1 k2
      unfold stepSm
      simp only [decide_eq_true (show (i : Int) < (n : Int) by omega), cond_true, cond_false, Int.toNat_natCast, c1, bne_self_eq_false, e1, chk]
    rw [loopN, hs]
    exact Sm_loop R n X kk hn q (i + 1) (by omega)
theorem go_Sm (R : Type) (n : Nat) (vs : List AV) (kk : Nat → List AV → Option R) (r : R) (h : leSm.go R n vs kk = some r) : ∃ m, loopN (stepSm R) m vs kk = some r := by
  simp only [leSm] at h
  split at h
  · rename_i n X m Y
    obtain ⟨hg, hk⟩ := chk_some h
    clear h
    unfold fitSm at hg
    rw [stk_eq, decide_eq_true_eq] at hg
    obtain ⟨rfl, rfl, g3⟩ := hg
    exact ⟨n + 1, (Sm_loop R n X kk g3 n 0 (by omega)).trans hk⟩
  · exact ⟨1, h⟩
  · cases h
def sp_sm : List AV → Option (Bool × AV)
  | [.sl (.prs n .u64 X), .sl (.prs m .u64 Y)] => some (fitSm n m X Y, .bool true)
  | [.nils, .nils] => some (true, .bool true)
  | _ => none
theorem run_sm (n m : Nat) (X Y : List PZ) : callA (env Tryz.f21.ntmps [] [(0, leSm)]) (bodyC Tryz.f21) Tryz.f21.results.toList (slots 0 [.sl (.prs n .u64 X), .sl (.prs m .u64 Y)]) some =
    (bif (n : Int) != m then some (.bool false) else chk (fitSm n m X Y) (some (.bool true))) := by kernel_rfl
theorem run_sn : callA (env Tryz.f21.ntmps [] [(0, leSm)]) (bodyC Tryz.f21) Tryz.f21.results.toList (slots 0 [.nils, .nils]) some = some (.bool true) := by kernel_rfl
theorem ok_sm : EntOk Tryz.prog 21 (entS false sp_sm) := by
  refine contractS (orc := []) (lo := [(0, leSm)]) Tryz.func21 orc_nil (by kernel_rfl) (by kernel_rfl) (by kernel_rfl)
    (loops_one (id := 0) (y := .loop (loopOf 0 (bodyC Tryz.f21))) (by kernel_rfl)
      (loopS (le := leSm) (orc := []) (lo' := []) orc_nil (by kernel_rfl) rfl (loops_none (by kernel_rfl)) stepSm (fun R vs k1 k2 r h => ?_) go_Sm)) fun args r h => ?_
  · have h0 := h
    unfold stepSm at h
    split at h
    · exact (step_Sm R _ _ _ _ _ k1 k2).trans h0
    · exact (step_Sn R k1 k2).trans h0
    · cases h
  · unfold sp_sm at h
    split at h
    · rename_i n X m Y
      simp only [Option.some.injEq, Prod.mk.injEq] at h
      obtain ⟨hg, rfl⟩ := h
      refine ⟨by kernel_rfl, .inr rfl, (run_sm n m X Y).trans ?_⟩
      have hg2 := hg
      unfold fitSm at hg2
      rw [stk_eq, decide_eq_true_eq] at hg2
      rw [hg, hg2.1, bne_self_eq_false]; rfl
    · simp only [Option.some.injEq, Prod.mk.injEq] at h
      obtain ⟨-, rfl⟩ := h
      exact ⟨by kernel_rfl, .inr rfl, run_sn⟩
    · cases h
end
end Go.Proofs.YtbakldcbaikgpaaGreatDoor
