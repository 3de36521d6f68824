/- tillerlaw18: FlyMirror. Own work. -/
import Derived.Test.YtbakldcbaikgpaaGreatDoorLaw18
import Derived.Test.YtbakldcbaikgpaaGreatDoorMirN
import Derived.Test.YtbakldcbaikgpaaGreatDoorErr2
import Derived.Test.YtbakldcbaikgpaaGreatDoorFly5
namespace Go.Proofs.YtbakldcbaikgpaaGreatDoor
set_option maxRecDepth 100000
noncomputable section

def okMi (n nl nm : Nat) (L M : List PZ) : Prop := nl = n ∧ nm = n ∧ 1 ≤ n ∧ n ≤ 1000 ∧ ∀ i, i < n → gp M ((n - i) % n) = gp L i
instance (n nl nm : Nat) (L M : List PZ) : Decidable (okMi n nl nm L M) := by unfold okMi; infer_instance
def goodM (n : Int) (nl nm : Nat) (L M : List PZ) : Bool := stk (decide (n = nl ∧ okMi nl nl nm L M))
def df (a b : Int) : Bool := andNotI .u64 (orI .u64 a b) 9223372036854775808 != 0
def stepMi (R : Type) (vs : List AV) (k1 : List AV → Option R) (k2 : Nat → List AV → Option R) : Option R :=
  match vs with
  | [.prs nl .u64 L, .prs nm .u64 M, .int .i64 n, .int .i64 i] =>
    let p := gp L i.toNat
    let q := gp M ((w64 (n - i)).tmod n).toNat
    let K := k1 [.prs nl .u64 L, .prs nm .u64 M, .int .i64 n, .int .i64 (w64 (i + 1))]
    let B := bif p.2 != q.2 then (bif df p.2 q.2 then k2 1 [.bool false] else K) else K
    bif decide (i < n) then chk (inX i nl) (chk (!(n == 0)) (chk (inX ((w64 (n - i)).tmod n) nm) (bif p.1 != q.1 then (bif df p.1 q.1 then k2 1 [.bool false] else B) else B)))
    else k2 0 []
  | _ => none
def leMi : LEnt :=
  { inn := { fuel := none, keep := [3, 10], refs := [(4, 4, 44, .prs 0 .u64 []), (7, 7, 44, .prs 0 .u64 [])] }
    out := { fuel := none, keep := [], refs := [] }
    ret := { fuel := none, keep := [2], refs := [] }
    go := fun _ _ vs kk => match vs with
      | [.prs nl .u64 L, .prs nm .u64 M, .int .i64 n, .int .i64 0] => chk (goodM n nl nm L M) (kk 0 [])
      | _ => none }
theorem step_Mi (R : Type) (nl nm : Nat) (L M : List PZ) (n i : Int) (k1 : List AV → Option R) (k2 : Nat → List AV → Option R) :
    runA (env Tryz.f5.ntmps [] []) (loopOf 0 (bodyC Tryz.f5)) 0 (stateOf leMi.inn [.prs nl .u64 L, .prs nm .u64 M, .int .i64 n, .int .i64 i]) (bodyK leMi 0 k1 k2) =
    stepMi R [.prs nl .u64 L, .prs nm .u64 M, .int .i64 n, .int .i64 i] k1 k2 := by kernel_rfl
theorem Mi_step (R : Type) (n i : Nat) (L M : List PZ) (k1 : List AV → Option R) (k2 : Nat → List AV → Option R) (hi : i < n) (hn : n ≤ 1000) (h : gp M ((n - i) % n) = gp L i) :
    stepMi R [.prs n .u64 L, .prs n .u64 M, .int .i64 n, .int .i64 i] k1 k2 = k1 [.prs n .u64 L, .prs n .u64 M, .int .i64 n, .int .i64 ((i + 1 : Nat) : Int)] := by
  have e1 : w64 ((i : Int) + 1) = ((i + 1 : Nat) : Int) := by rw [w64_mid (by omega) (by omega)]; omega
  have e2 : w64 ((n : Int) - i) = ((n - i : Nat) : Int) := by rw [w64_mid (by omega) (by omega)]; omega
  have e3 : ((n - i : Nat) : Int).tmod n = (((n - i) % n : Nat) : Int) := rfl
  have c1 : inX (i : Int) n = true := inX_at hi
  have c2 : inX (((n - i) % n : Nat) : Int) n = true := inX_at (Nat.mod_lt _ (by omega))
  have c3 : (!((n : Int) == 0)) = true := by rw [beq_eq_false_iff_ne.2 (show (n : Int) ≠ 0 by omega)]; rfl
  unfold stepMi
  simp only [decide_eq_true (show (i : Int) < (n : Int) by omega), cond_true, cond_false, Int.toNat_natCast, e1, e2, e3, c1, c2, c3, h, bne_self_eq_false, chk]
theorem Mi_end (R : Type) (n : Nat) (i : Int) (L M : List PZ) (k1 : List AV → Option R) (k2 : Nat → List AV → Option R) (hi : ¬ i < (n : Int)) :
    stepMi R [.prs n .u64 L, .prs n .u64 M, .int .i64 n, .int .i64 i] k1 k2 = k2 0 [] := by
  unfold stepMi
  simp only [hi, decide_false, cond_false]
theorem Mi_loop (R : Type) (n : Nat) (L M : List PZ) (kk : Nat → List AV → Option R) (hn : n ≤ 1000) (h : ∀ i, i < n → gp M ((n - i) % n) = gp L i) : ∀ (q i : Nat), i + q = n →
    loopN (stepMi R) (q + 1) [.prs n .u64 L, .prs n .u64 M, .int .i64 n, .int .i64 i] kk = kk 0 []
  | 0, i, hi => by rw [loopN, Mi_end R n i L M _ kk (by omega)]
  | q + 1, i, hi => by
    rw [loopN, Mi_step R n i L M _ kk (by omega) hn (h i (by omega))]
    exact Mi_loop R n L M kk hn h q (i + 1) (by omega)
theorem go_Mi (R : Type) (n : Nat) (vs : List AV) (kk : Nat → List AV → Option R) (r : R) (h : leMi.go R n vs kk = some r) : ∃ m, loopN (stepMi R) m vs kk = some r := by
  simp only [leMi] at h
  split at h
  · rename_i nl L nm M n
    obtain ⟨hg, hk⟩ := chk_some h
    clear h
    unfold goodM okMi at hg
    rw [stk_eq, decide_eq_true_eq] at hg
    obtain ⟨rfl, -, rfl, g1, g2, g3⟩ := hg
    exact ⟨nm + 1, (Mi_loop R nm L M kk g2 g3 nm 0 (by omega)).trans hk⟩
  · cases h
def orcMi : List (FuncId × Ent) := [(13, entB false sp_lit), (14, entS false sp_lgive), (17, entS false sp_num), (16, entS false sp_can), (18, entS false sp_tt)]
def miN (n : Nat) : Option AV := bif !(canK n) then some (.bool true) else some (.bool false)
def miL (n : Nat) (L M : List PZ) (f g : Int) : Option AV :=
  bif f != g then some (.bool false) else bif (n : Int) != (n : Int) then some (.bool false) else bif (n : Int) != (n : Int) then some (.bool false) else chk (goodM n n n L M) (some (.bool true))
theorem run_lMirror (n : Nat) (X : List PZ) : callA (env Tryz.f5.ntmps orcMi [(0, leMi)]) (bodyC Tryz.f5) Tryz.f5.results.toList (slots 0 [.sl (.prs n .u64 X)]) some =
    chk (fitG n X) (chk (fitX n X) (bif !(canK n) then chk (fitG n X) (chk (fitX n X) (bif !(canK n) then miN n else some (.bool false))) else chk (fitG n X) (chk (fitX n X) (bif !(canK n) then some (.bool false) else
      miL n (litK X false n).2 (litK X true n).2 (litK X false n).1 (litK X true n).1)))) := by kernel_rfl
theorem fitX_parts {n : Nat} {X : List PZ} (h : fitX n X = true) : X.length = n ∧ okL X = true := by
  unfold fitX at h
  rw [stk_eq] at h
  simpa only [Bool.and_eq_true, decide_eq_true_eq] using h
theorem mi_all {n : Nat} {X : List PZ} (hG : fitG n X = true) (hX : fitX n X = true) :
    (chk (fitG n X) (chk (fitX n X) (bif !(canK n) then chk (fitG n X) (chk (fitX n X) (bif !(canK n) then miN n else some (.bool false))) else chk (fitG n X) (chk (fitX n X) (bif !(canK n) then some (.bool false) else
      miL n (litK X false n).2 (litK X true n).2 (litK X false n).1 (litK X true n).1))))) = some (.bool true) := by
  rw [hG, hX]
  unfold miN
  cases hc : canK n with
  | false => rfl
  | true =>
    have hc2 := hc
    unfold canK at hc2
    rw [stk_eq] at hc2
    obtain ⟨m1, m2, m3, m4⟩ := mirror_lit (fitX_parts hX).2 hc2
    have h2 : n ≤ 13 ∧ 2 ≤ n := by
      unfold canN at hc2
      rw [decide_eq_true_eq] at hc2
      omega
    have hgM : goodM n n n (litK X false n).2 (litK X true n).2 = true := by
      unfold goodM okMi
      rw [stk_eq, decide_eq_true_eq]
      exact ⟨rfl, rfl, rfl, by omega, by omega, m4⟩
    show miL n (litK X false n).2 (litK X true n).2 (litK X false n).1 (litK X true n).1 = some (.bool true)
    unfold miL
    rw [m1, hgM, bne_self_eq_false, bne_self_eq_false]
    rfl
def sp_lMirror : List AV → Option (Bool × AV)
  | [.sl (.prs n .u64 X)] => some (fitG n X && fitX n X, .bool true)
  | _ => none
theorem ok_lMirror : EntOk Tryz.prog 5 (entS false sp_lMirror) := by
  refine contractS (orc := orcMi) (lo := [(0, leMi)]) Tryz.func5 (orc_cons ok_lit (orc_cons ok_lgive (orc_cons ok_num18 (orc_cons ok_rcan (orc_cons ok_lsure18 orc_nil))))) (by kernel_rfl) (by kernel_rfl) (by kernel_rfl)
    (loops_one (id := 0) (y := .loop (loopOf 0 (bodyC Tryz.f5))) (by kernel_rfl)
      (loopS (le := leMi) (orc := []) (lo' := []) orc_nil (by kernel_rfl) rfl (loops_none (by kernel_rfl)) stepMi (fun R vs k1 k2 r h => ?_) go_Mi)) fun args r h => ?_
  · have h0 := h
    unfold stepMi at h
    split at h
    · exact (step_Mi R _ _ _ _ _ _ k1 k2).trans h0
    · cases h
  · unfold sp_lMirror at h
    split at h
    · rename_i n X
      simp only [Option.some.injEq, Prod.mk.injEq, Bool.and_eq_true] at h
      obtain ⟨⟨h1, h2⟩, rfl⟩ := h
      exact ⟨by kernel_rfl, .inr rfl, (run_lMirror n X).trans (mi_all h1 h2)⟩
    · cases h
theorem fit_pairs {n : Nat} {X : List PZ} (hl : X.length = n) (hn : n * 16 ≤ 140737488355328) (hu : ∀ p ∈ X, inU p.1 = true ∧ inU p.2 = true) : (fitG n X && fitX n X) = true := by
  have h2 : okL X = true := okL_iff.2 fun x hx => okPr_iff.2 (hu x hx)
  unfold fitG fitX
  rw [stk_eq, stk_eq, decide_eq_true ⟨hl, hn⟩, decide_eq_true hl, h2]
  rfl
end
end Go.Proofs.YtbakldcbaikgpaaGreatDoor
