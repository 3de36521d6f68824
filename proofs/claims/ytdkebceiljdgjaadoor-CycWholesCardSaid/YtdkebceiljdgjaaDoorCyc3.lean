/- The law CycOnes: what it computes. Own work. -/
import Derived.Test.YtdkebceiljdgjaaDoorCyc2
namespace Go.Proofs.YtdkebceiljdgjaaDoor
set_option maxRecDepth 100000

/-! ### Lists that are the same -/

def stepNums (R : Type) (vs : List AV) (k1 : List AV → Option R) (k2 : Nat → List AV → Option R) : Option R :=
  match vs with
  | [.sl (.ints n .i64 a), .sl (.ints m .i64 b), .int .i64 i] =>
    bif decide (i < n) then chk (decide (0 ≤ i) && decide (i < n) && true) (chk (decide (0 ≤ i) && decide (i < m) && true)
      (bif a.getD i.toNat 0 != b.getD i.toNat 0 then k2 1 [.bool false] else k1 [.sl (.ints n .i64 a), .sl (.ints m .i64 b), .int .i64 (w64 (i + 1))]))
    else k2 0 []
  | _ => none

def sameFrom (a b : List Int) : Nat → Nat → Bool
  | 0, _ => true
  | q + 1, i => bif a.getD i 0 != b.getD i 0 then false else sameFrom a b q (i + 1)

def leNums : LEnt :=
  { inn := { fuel := none, keep := [0, 1, 5], refs := [] }
    out := { fuel := none, keep := [], refs := [] }
    ret := { fuel := none, keep := [4], refs := [] }
    go := fun _ _ vs kk => match vs with
      | [.sl (.ints n .i64 a), .sl (.ints m .i64 b), .int .i64 0] => chk (Nat.beq n m && Nat.ble n 4096) (bif sameFrom a b n 0 then kk 0 [] else kk 1 [.bool false])
      | _ => none }

theorem step_nums (R : Type) (n m : Nat) (a b : List Int) (i : Int) (k1 : List AV → Option R) (k2 : Nat → List AV → Option R) :
    runA (env Tryd.f10.ntmps [] []) (loopOf 0 (bodyC Tryd.f10)) 0 (stateOf leNums.inn [.sl (.ints n .i64 a), .sl (.ints m .i64 b), .int .i64 i]) (bodyK leNums 0 k1 k2) =
    stepNums R [.sl (.ints n .i64 a), .sl (.ints m .i64 b), .int .i64 i] k1 k2 := by kernel_rfl

theorem nums_loop (R : Type) (n : Nat) (a b : List Int) (kk : Nat → List AV → Option R) (hn : n ≤ 4096) : ∀ (q i : Nat), i + q = n →
    loopN (stepNums R) (q + 1) [.sl (.ints n .i64 a), .sl (.ints n .i64 b), .int .i64 i] kk = (bif sameFrom a b q i then kk 0 [] else kk 1 [.bool false])
  | 0, i, h => by
    have hi : ¬ ((i : Int) < (n : Int)) := by omega
    simp only [loopN, stepNums, hi, decide_false, cond_false, sameFrom, cond_true]
  | q + 1, i, h => by
    have hi : ((i : Int) < (n : Int)) := by omega
    have hi0 : (0 : Int) ≤ (i : Int) := by omega
    have hw : w64 ((i : Int) + 1) = ((i + 1 : Nat) : Int) := by unfold w64; rw [IntKind.wrap_i64]; omega
    rw [loopN]
    simp only [stepNums, hi, hi0, decide_true, cond_true, Bool.and_self, chk, Int.toNat_natCast, hw]
    rw [nums_loop R n a b kk hn q (i + 1) (by omega), sameFrom]
    cases (a.getD i 0 != b.getD i 0) <;> rfl

theorem go_nums (R : Type) (n : Nat) (vs : List AV) (kk : Nat → List AV → Option R) (r : R) (h : leNums.go R n vs kk = some r) : ∃ m, loopN (stepNums R) m vs kk = some r := by
  simp only [leNums] at h
  split at h
  · rename_i n a m b
    obtain ⟨hg, hk⟩ := chk_some h
    clear h
    simp only [Bool.and_eq_true] at hg
    have g1 := nat_beq hg.1
    subst g1
    exact ⟨n + 1, (nums_loop R n a b kk (Nat.le_of_ble_eq_true hg.2) n 0 (by omega)).trans hk⟩
  · cases h

def sp_nums : List AV → Option Br
  | [.sl (.ints n .i64 a), .sl (.ints m .i64 b)] => some (.br ((n : Int) != m) (.leaf (.bool false)) (.chk (Nat.beq n m && Nat.ble n 4096) (.br (sameFrom a b n 0) (.leaf (.bool true)) (.leaf (.bool false)))))
  | _ => none

theorem run_nums (n m : Nat) (a b : List Int) : callA (env Tryd.f10.ntmps [] [(0, leNums)]) (bodyC Tryd.f10) Tryd.f10.results.toList (slots 0 [.sl (.ints n .i64 a), .sl (.ints m .i64 b)]) some =
    (Br.br ((n : Int) != m) (.leaf (.bool false)) (.chk (Nat.beq n m && Nat.ble n 4096) (.br (sameFrom a b n 0) (.leaf (.bool true)) (.leaf (.bool false))))).run some := by kernel_rfl

theorem ok_nums : EntOk Tryd.prog 10 (entB false sp_nums) := by
  refine contractB (orc := []) (lo := [(0, leNums)]) Tryd.func10 orc_nil (by kernel_rfl) (by kernel_rfl) (by kernel_rfl)
    (loops_one (id := 0) (y := .loop (loopOf 0 (bodyC Tryd.f10))) (by kernel_rfl)
      (loopS (le := leNums) (orc := []) (lo' := []) orc_nil (by kernel_rfl) rfl (loops_none (by kernel_rfl)) stepNums (fun R vs k1 k2 r h => ?_) go_nums)) fun args t h => ?_
  · have h0 := h
    unfold stepNums at h
    split at h
    · exact (step_nums R _ _ _ _ _ k1 k2).trans h0
    · cases h
  · unfold sp_nums at h
    split at h
    · rename_i n a m b
      simp only [Option.some.injEq] at h
      subst h
      exact ⟨by kernel_rfl, .inr rfl, fun r hr => (run_nums n m a b).trans hr⟩
    · cases h

/-! ### One product that is known -/

def sp_sure : List AV → Option (Bool × AV)
  | [] => some (true, .bool true)
  | _ => none

def orcSure : List (FuncId × Ent) := [(8, entB false sp_whole), (10, entB false sp_nums)]

theorem run_sure : callA (env Tryd.f7.ntmps orcSure []) (bodyC Tryd.f7) Tryd.f7.results.toList (slots 0 []) some = some (.bool true) := by kernel_rfl

theorem ok_sure : EntOk Tryd.prog 7 (entS false sp_sure) := by
  refine contractS (orc := orcSure) (lo := []) Tryd.func7 (orc_cons ok_whole (orc_cons ok_nums orc_nil)) (by kernel_rfl) (by kernel_rfl) (by kernel_rfl) (loops_none (by kernel_rfl)) fun args r h => ?_
  unfold sp_sure at h
  split at h
  · simp only [Option.some.injEq, Prod.mk.injEq, true_and] at h
    subst h
    exact ⟨by kernel_rfl, .inr rfl, run_sure⟩
  · cases h
end Go.Proofs.YtdkebceiljdgjaaDoor
