/- tillerlaw18: usual, scaled, all. Own work. -/
import Derived.Test.YtbakldcbaikgpaaGreatDoorScaL
import Derived.Test.YtbakldcbaikgpaaGreatDoorGive18
namespace Go.Proofs.YtbakldcbaikgpaaGreatDoor
set_option maxRecDepth 100000
noncomputable section

/-! ### usual -/
def anS (x : Int) : Int := andNotI .u64 x 9223372036854775808
def usE (a : Int) : Int := a.fdiv (2 ^ (52 : Int).toNat)
def usB {R : Type} (a : Int) (kF kT : Option R) : Option R := bif a != 0 then (bif decide (usE a < 900) then kF else bif decide (usE a > 1100) then kF else kT) else kT
def usO (a : Int) : Bool := !(a != 0) || (!decide (usE a < 900) && !decide (usE a > 1100))
def usP (x : PZ) : Bool := usO (anS x.1) && usO (anS x.2)
def usK (X : List PZ) : Bool := stk (X.all usP)
def fitUs (n : Nat) (X : List PZ) : Bool := stk (decide (X.length = n ∧ n * 16 ≤ 140737488355328))
def stepUs (R : Type) (vs : List AV) (k1 : List AV → Option R) (k2 : Nat → List AV → Option R) : Option R :=
  match vs with
  | [.sl (.prs n .u64 X), .int .i64 i] =>
    bif decide (i < n) then chk (inX i n) (chk (inX i n) (usB (anS (gp X i.toNat).1) (k2 1 [.bool false]) (usB (anS (gp X i.toNat).2) (k2 1 [.bool false]) (k1 [.sl (.prs n .u64 X), .int .i64 (w64 (i + 1))]))))
    else k2 0 []
  | _ => none
def leUs : LEnt :=
  { inn := { fuel := none, keep := [0, 3], refs := [] }
    out := { fuel := none, keep := [], refs := [] }
    ret := { fuel := none, keep := [2], refs := [] }
    go := fun _ _ vs kk => match vs with
      | [.sl (.prs n .u64 X), .int .i64 0] => chk (fitUs n X) (bif usK X then kk 0 [] else kk 1 [.bool false])
      | _ => none }
theorem step_Us (R : Type) (n : Nat) (X : List PZ) (i : Int) (k1 : List AV → Option R) (k2 : Nat → List AV → Option R) :
    runA (env Tryz.f22.ntmps [] []) (loopOf 0 (bodyC Tryz.f22)) 0 (stateOf leUs.inn [.sl (.prs n .u64 X), .int .i64 i]) (bodyK leUs 0 k1 k2) =
    stepUs R [.sl (.prs n .u64 X), .int .i64 i] k1 k2 := by kernel_rfl
theorem usB_at {R : Type} (a : Int) (kF kT : Option R) : usB a kF kT = if usO a = true then kT else kF := by
  unfold usB usO
  cases a != 0 <;> cases decide (usE a < 900) <;> cases decide (usE a > 1100) <;> rfl
theorem Us_loop (R : Type) (n : Nat) (X : List PZ) (kk : Nat → List AV → Option R) (hX : X.length = n) (hn : n * 16 ≤ 140737488355328) : ∀ (q i : Nat), i + q = n →
    loopN (stepUs R) (q + 1) [.sl (.prs n .u64 X), .int .i64 i] kk = if (X.drop i).all usP = true then kk 0 [] else kk 1 [.bool false]
  | 0, i, hi => by
    rw [loopN, List.drop_of_length_le (by omega), if_pos (show ([] : List PZ).all usP = true from rfl)]
    unfold stepUs
    simp only [show ¬ ((i : Int) < (n : Int)) by omega, decide_false, cond_false]
  | q + 1, i, hi => by
    have hlt : i < X.length := by omega
    have hd : X.drop i = gp X i :: X.drop (i + 1) := by
      rw [List.drop_eq_getElem_cons hlt]
      unfold gp
      rw [List.getD_eq_getElem?_getD, List.getElem?_eq_getElem hlt]
      rfl
    have e1 : w64 ((i : Int) + 1) = ((i + 1 : Nat) : Int) := by rw [w64_far (by omega) (by omega)]; omega
    have c1 : inX (i : Int) n = true := inX_at (by omega)
    have hs : ∀ k1 k2, stepUs R [.sl (.prs n .u64 X), .int .i64 i] k1 k2 = if usP (gp X i) = true then k1 [.sl (.prs n .u64 X), .int .i64 ((i + 1 : Nat) : Int)] else k2 1 [.bool false] := by
      intro k1 k2
      unfold stepUs
      simp only [decide_eq_true (show (i : Int) < (n : Int) by omega), cond_true, Int.toNat_natCast, c1, e1, chk, usB_at]
      unfold usP
      by_cases a1 : usO (anS (gp X i).1) = true
      · by_cases a2 : usO (anS (gp X i).2) = true
        · rw [if_pos a1, if_pos a2, if_pos (by rw [a1, a2]; rfl)]
        · rw [if_pos a1, if_neg a2, if_neg (by rw [Bool.and_eq_true]; exact fun h => a2 h.2)]
      · rw [if_neg a1, if_neg (by rw [Bool.and_eq_true]; exact fun h => a1 h.1)]
    rw [loopN, hs, hd, List.all_cons]
    by_cases hu : usP (gp X i) = true
    · rw [if_pos hu, Us_loop R n X kk hX hn q (i + 1) (by omega), hu, Bool.true_and]
    · rw [if_neg hu, if_neg (by rw [Bool.and_eq_true]; exact fun h => hu h.1)]
theorem go_Us (R : Type) (n : Nat) (vs : List AV) (kk : Nat → List AV → Option R) (r : R) (h : leUs.go R n vs kk = some r) : ∃ m, loopN (stepUs R) m vs kk = some r := by
  simp only [leUs] at h
  split at h
  · rename_i n X
    obtain ⟨hg, hk⟩ := chk_some h
    clear h
    unfold fitUs at hg
    rw [stk_eq, decide_eq_true_eq] at hg
    have := Us_loop R n X kk hg.1 hg.2 n 0 (by omega)
    rw [List.drop_zero] at this
    refine ⟨n + 1, this.trans ?_⟩
    unfold usK at hk
    rw [stk_eq] at hk
    rw [← hk]
    cases X.all usP <;> rfl
  · cases h
def sp_us : List AV → Option (Bool × AV)
  | [.sl (.prs n .u64 X)] => some (fitUs n X, .bool (usK X))
  | _ => none
theorem run_us (n : Nat) (X : List PZ) : callA (env Tryz.f22.ntmps [] [(0, leUs)]) (bodyC Tryz.f22) Tryz.f22.results.toList (slots 0 [.sl (.prs n .u64 X)]) some =
    chk (fitUs n X) (bif usK X then some (.bool true) else some (.bool false)) := by kernel_rfl
theorem ok_us : EntOk Tryz.prog 22 (entS false sp_us) := by
  refine contractS (orc := []) (lo := [(0, leUs)]) Tryz.func22 orc_nil (by kernel_rfl) (by kernel_rfl) (by kernel_rfl)
    (loops_one (id := 0) (y := .loop (loopOf 0 (bodyC Tryz.f22))) (by kernel_rfl)
      (loopS (le := leUs) (orc := []) (lo' := []) orc_nil (by kernel_rfl) rfl (loops_none (by kernel_rfl)) stepUs (fun R vs k1 k2 r h => ?_) go_Us)) fun args r h => ?_
  · have h0 := h
    unfold stepUs at h
    split at h
    · exact (step_Us R _ _ _ k1 k2).trans h0
    · cases h
  · unfold sp_us at h
    split at h
    · rename_i n X
      simp only [Option.some.injEq, Prod.mk.injEq] at h
      obtain ⟨hg, rfl⟩ := h
      refine ⟨by kernel_rfl, .inr rfl, (run_us n X).trans ?_⟩
      rw [hg]
      cases usK X <;> rfl
    · cases h

/-! ### scaled -/
def upI (a : Int) : Int := if (anS a != 0) = true then u64 (a + 1351079888211148800) else a
def upG (x : PZ) : PZ := (upI x.1, upI x.2)
def upK (X : List PZ) : List PZ := stk (X.map upG)
def stepUp (R : Type) (vs : List AV) (k1 : List AV → Option R) (k2 : Nat → List AV → Option R) : Option R :=
  match vs with
  | [.prs p .u64 O, .sl (.prs n .u64 X), .int .i64 i] =>
    let K := fun (a b : Int) => chk (Nat.ble ((p + 1) * 16) 140737488355328) (k1 [.prs (p + 1) .u64 (O ++ [(a, b)]), .sl (.prs n .u64 X), .int .i64 (w64 (i + 1))])
    let a := (gp X i.toNat).1
    let b := (gp X i.toNat).2
    bif decide (i < n) then chk (inX i n) (bif anS a != 0 then (bif anS b != 0 then K (u64 (a + 1351079888211148800)) (u64 (b + 1351079888211148800)) else K (u64 (a + 1351079888211148800)) b) else (bif anS b != 0 then K a (u64 (b + 1351079888211148800)) else K a b))
    else k2 0 [.prs p .u64 O]
  | _ => none
def leUp : LEnt :=
  { inn := { fuel := none, keep := [0, 4], refs := [(3, 3, 44, .prs 0 .u64 [])] }
    out := { fuel := none, keep := [], refs := [(3, 3, 44, .prs 0 .u64 [])] }
    ret := { fuel := none, keep := [], refs := [] }
    go := fun _ _ vs kk => match vs with
      | [.prs 0 .u64 [], .sl (.prs n .u64 X), .int .i64 0] => chk (fitG n X) (kk 0 [.prs n .u64 (upK X)])
      | _ => none }
theorem step_Up (R : Type) (p n : Nat) (O X : List PZ) (i : Int) (k1 : List AV → Option R) (k2 : Nat → List AV → Option R) :
    runA (env Tryz.f23.ntmps [] []) (loopOf 0 (bodyC Tryz.f23)) 0 (stateOf leUp.inn [.prs p .u64 O, .sl (.prs n .u64 X), .int .i64 i]) (bodyK leUp 0 k1 k2) =
    stepUp R [.prs p .u64 O, .sl (.prs n .u64 X), .int .i64 i] k1 k2 := by kernel_rfl
theorem Up_loop (R : Type) (n : Nat) (X : List PZ) (kk : Nat → List AV → Option R) (hX : X.length = n) (hn : n * 16 ≤ 140737488355328) : ∀ (q i : Nat), i + q = n →
    loopN (stepUp R) (q + 1) [.prs i .u64 ((X.take i).map upG), .sl (.prs n .u64 X), .int .i64 i] kk = kk 0 [.prs n .u64 (X.map upG)]
  | 0, i, hi => by
    obtain rfl : i = n := by omega
    rw [loopN]
    unfold stepUp
    simp only [show ¬ ((i : Int) < (i : Int)) by omega, decide_false, cond_false]
    rw [← hX, List.take_length]
  | q + 1, i, hi => by
    have e : X.take i ++ [gp X i] = X.take (i + 1) := by
      unfold gp
      rw [List.getD_eq_getElem?_getD, List.getElem?_eq_getElem (show i < X.length by omega), Option.getD_some, List.take_append_getElem (by omega)]
    have e1 : w64 ((i : Int) + 1) = ((i + 1 : Nat) : Int) := by rw [w64_far (by omega) (by omega)]; omega
    have c1 : inX (i : Int) n = true := inX_at (by omega)
    have c2 : Nat.ble ((i + 1) * 16) 140737488355328 = true := Nat.ble_eq_true_of_le (by omega)
    have hs : ∀ k1 k2, stepUp R [.prs i .u64 ((X.take i).map upG), .sl (.prs n .u64 X), .int .i64 i] k1 k2 = k1 [.prs (i + 1) .u64 ((X.take (i + 1)).map upG), .sl (.prs n .u64 X), .int .i64 ((i + 1 : Nat) : Int)] := by
      intro k1 k2
      rw [← e, List.map_append]
      unfold stepUp
      simp only [decide_eq_true (show (i : Int) < (n : Int) by omega), cond_true, Int.toNat_natCast, c1, c2, e1, chk]
      show _ = k1 [.prs (i + 1) .u64 (List.map upG (X.take i) ++ [(upI (gp X i).1, upI (gp X i).2)]), _, _]
      unfold upI
      cases anS (gp X i).1 != 0 <;> cases anS (gp X i).2 != 0 <;> rfl
    rw [loopN, hs]
    exact Up_loop R n X kk hX hn q (i + 1) (by omega)
theorem go_Up (R : Type) (n : Nat) (vs : List AV) (kk : Nat → List AV → Option R) (r : R) (h : leUp.go R n vs kk = some r) : ∃ m, loopN (stepUp R) m vs kk = some r := by
  simp only [leUp] at h
  split at h
  · rename_i n X
    obtain ⟨hg, hk⟩ := chk_some h
    clear h
    unfold fitG at hg
    rw [stk_eq, decide_eq_true_eq] at hg
    unfold upK at hk
    rw [stk_eq] at hk
    exact ⟨n + 1, (Up_loop R n X kk hg.1 hg.2 n 0 (by omega)).trans hk⟩
  · cases h
def sp_upL : List AV → Option (Bool × AV)
  | [.sl (.prs n .u64 X)] => some (fitG n X, .osl 44 (.prs n .u64 (upK X)))
  | _ => none
theorem run_upL (n : Nat) (X : List PZ) : callA (env Tryz.f23.ntmps [] [(0, leUp)]) (bodyC Tryz.f23) Tryz.f23.results.toList (slots 0 [.sl (.prs n .u64 X)]) some =
    chk (fitG n X) (some (.osl 44 (.prs n .u64 (upK X)))) := by kernel_rfl
theorem ok_upL : EntOk Tryz.prog 23 (entS false sp_upL) := by
  refine contractS (orc := []) (lo := [(0, leUp)]) Tryz.func23 orc_nil (by kernel_rfl) (by kernel_rfl) (by kernel_rfl)
    (loops_one (id := 0) (y := .loop (loopOf 0 (bodyC Tryz.f23))) (by kernel_rfl)
      (loopS (le := leUp) (orc := []) (lo' := []) orc_nil (by kernel_rfl) rfl (loops_none (by kernel_rfl)) stepUp (fun R vs k1 k2 r h => ?_) go_Up)) fun args r h => ?_
  · have h0 := h
    unfold stepUp at h
    split at h
    · exact (step_Up R _ _ _ _ _ k1 k2).trans h0
    · cases h
  · unfold sp_upL at h
    split at h
    · rename_i n X
      simp only [Option.some.injEq, Prod.mk.injEq] at h
      obtain ⟨hg, rfl⟩ := h
      refine ⟨by kernel_rfl, .inr rfl, (run_upL n X).trans ?_⟩
      rw [hg]; rfl
    · cases h

/-! ### all, of what is the same -/
def stepAl (R : Type) (vs : List AV) (k1 : List AV → Option R) (k2 : Nat → List AV → Option R) : Option R :=
  match vs with
  | [.sl (.prs n .u64 X), .sl (.prs m .u64 Y), .int .i64 i] =>
    bif decide (i < n) then chk (inX i n) (chk (inX i m) (bif !((gp X i.toNat).1 == (gp Y i.toNat).1 && ((gp X i.toNat).2 == (gp Y i.toNat).2 && true)) then k2 1 [.bool false] else
      k1 [.sl (.prs n .u64 X), .sl (.prs m .u64 Y), .int .i64 (w64 (i + 1))]))
    else k2 0 []
  | _ => none
def leAl : LEnt :=
  { inn := { fuel := none, keep := [0, 1, 5], refs := [] }
    out := { fuel := none, keep := [], refs := [] }
    ret := { fuel := none, keep := [4], refs := [] }
    go := fun _ _ vs kk => match vs with
      | [.sl (.prs n .u64 X), .sl (.prs m .u64 Y), .int .i64 0] => chk (fitSm n m X Y) (kk 0 [])
      | _ => none }
theorem step_Al (R : Type) (n m : Nat) (X Y : List PZ) (i : Int) (k1 : List AV → Option R) (k2 : Nat → List AV → Option R) :
    runA (env Tryz.f24.ntmps [] []) (loopOf 0 (bodyC Tryz.f24)) 0 (stateOf leAl.inn [.sl (.prs n .u64 X), .sl (.prs m .u64 Y), .int .i64 i]) (bodyK leAl 0 k1 k2) =
    stepAl R [.sl (.prs n .u64 X), .sl (.prs m .u64 Y), .int .i64 i] k1 k2 := by kernel_rfl
theorem Al_loop (R : Type) (n : Nat) (X : List PZ) (kk : Nat → List AV → Option R) (hn : n ≤ 1000000000) : ∀ (q i : Nat), i + q = n →
    loopN (stepAl R) (q + 1) [.sl (.prs n .u64 X), .sl (.prs n .u64 X), .int .i64 i] kk = kk 0 []
  | 0, i, hi => by
    rw [loopN]
    unfold stepAl
    simp only [show ¬ ((i : Int) < (n : Int)) by omega, decide_false, cond_false]
  | q + 1, i, hi => by
    have e1 : w64 ((i : Int) + 1) = ((i + 1 : Nat) : Int) := by rw [w64_far (by omega) (by omega)]; omega
    have c1 : inX (i : Int) n = true := inX_at (by omega)
    have hs : ∀ k1 k2, stepAl R [.sl (.prs n .u64 X), .sl (.prs n .u64 X), .int .i64 i] k1 k2 = k1 [.sl (.prs n .u64 X), .sl (.prs n .u64 X), .int .i64 ((i + 1 : Nat) : Int)] := by
      intro k1 k2
      unfold stepAl
      simp only [decide_eq_true (show (i : Int) < (n : Int) by omega), cond_true, cond_false, Int.toNat_natCast, c1, beq_self_eq_true, Bool.and_self, Bool.not_true, e1, chk]
    rw [loopN, hs]
    exact Al_loop R n X kk hn q (i + 1) (by omega)
theorem go_Al (R : Type) (n : Nat) (vs : List AV) (kk : Nat → List AV → Option R) (r : R) (h : leAl.go R n vs kk = some r) : ∃ m, loopN (stepAl R) m vs kk = some r := by
  simp only [leAl] at h
  split at h
  · rename_i n X m Y
    obtain ⟨hg, hk⟩ := chk_some h
    clear h
    unfold fitSm at hg
    rw [stk_eq, decide_eq_true_eq] at hg
    obtain ⟨rfl, rfl, g3⟩ := hg
    exact ⟨n + 1, (Al_loop R n X kk g3 n 0 (by omega)).trans hk⟩
  · cases h
def sp_al : List AV → Option (Bool × AV)
  | [.sl (.prs n .u64 X), .sl (.prs m .u64 Y)] => some (fitSm n m X Y, .bool true)
  | _ => none
theorem run_al (n m : Nat) (X Y : List PZ) : callA (env Tryz.f24.ntmps [] [(0, leAl)]) (bodyC Tryz.f24) Tryz.f24.results.toList (slots 0 [.sl (.prs n .u64 X), .sl (.prs m .u64 Y)]) some =
    (bif (n : Int) != m then some (.bool false) else chk (fitSm n m X Y) (some (.bool true))) := by kernel_rfl
theorem ok_al : EntOk Tryz.prog 24 (entS false sp_al) := by
  refine contractS (orc := []) (lo := [(0, leAl)]) Tryz.func24 orc_nil (by kernel_rfl) (by kernel_rfl) (by kernel_rfl)
    (loops_one (id := 0) (y := .loop (loopOf 0 (bodyC Tryz.f24))) (by kernel_rfl)
      (loopS (le := leAl) (orc := []) (lo' := []) orc_nil (by kernel_rfl) rfl (loops_none (by kernel_rfl)) stepAl (fun R vs k1 k2 r h => ?_) go_Al)) fun args r h => ?_
  · have h0 := h
    unfold stepAl at h
    split at h
    · exact (step_Al R _ _ _ _ _ k1 k2).trans h0
    · cases h
  · unfold sp_al at h
    split at h
    · rename_i n X m Y
      simp only [Option.some.injEq, Prod.mk.injEq] at h
      obtain ⟨hg, rfl⟩ := h
      refine ⟨by kernel_rfl, .inr rfl, (run_al n m X Y).trans ?_⟩
      have hg2 := hg
      unfold fitSm at hg2
      rw [stk_eq, decide_eq_true_eq] at hg2
      rw [hg, hg2.1, bne_self_eq_false]; rfl
    · cases h
end
end Go.Proofs.YtbakldcbaikgpaaGreatDoor
