/- The law CycOnes, as the evaluator tells it. Own work. -/
import Derived.Test.YtdkebceiljdgjaaDoorCyc3
namespace Go.Proofs.YtdkebceiljdgjaaDoor
set_option maxRecDepth 100000

def orcOnes : List (FuncId × Ent) := [(7, entS false sp_sure), (8, entB false sp_whole), (10, entB false sp_nums)]

/-! ### Are all numbers small? -/

def stepSmall (R : Type) (vs : List AV) (k1 : List AV → Option R) (k2 : Nat → List AV → Option R) : Option R :=
  match vs with
  | [.sl (.ints n .i64 x), .int .i64 k, .int .i64 len, .int .i64 i] =>
    bif decide (i < len) then chk (decide (0 ≤ i) && decide (i < n) && true)
      (bif decide (x.getD i.toNat 0 > 1048576) then k2 1 [.bool true] else chk (decide (0 ≤ i) && decide (i < n) && true)
        (bif decide (x.getD i.toNat 0 < -1048576) then k2 1 [.bool true] else k1 [.sl (.ints n .i64 x), .int .i64 k, .int .i64 len, .int .i64 (w64 (i + 1))]))
    else k2 0 [.sl (.ints n .i64 x), .int .i64 k, .int .i64 len]
  | _ => none

def leSmall : LEnt :=
  { inn := { fuel := none, keep := [0, 1, 5, 6], refs := [] }
    out := { fuel := none, keep := [0, 1, 5], refs := [] }
    ret := { fuel := none, keep := [4], refs := [] }
    go := fun _ _ vs kk => match vs with
      | [.sl (.ints n .i64 x), .int .i64 k, .int .i64 len, .int .i64 0] => chk (Nat.beq n x.length && Nat.ble n 4096 && decide (len = n))
        (bif anyBig x then kk 1 [.bool true] else kk 0 [.sl (.ints n .i64 x), .int .i64 k, .int .i64 len])
      | _ => none }

theorem small_loop (R : Type) (x : List Int) (k : Int) (kk : Nat → List AV → Option R) (hn : x.length ≤ 4096) : ∀ (q i : Nat), i + q = x.length →
    loopN (stepSmall R) (q + 1) [.sl (.ints x.length .i64 x), .int .i64 k, .int .i64 x.length, .int .i64 i] kk = (match firstBig (x.drop i) i with
      | some _ => kk 1 [.bool true]
      | none => kk 0 [.sl (.ints x.length .i64 x), .int .i64 k, .int .i64 x.length])
  | 0, i, h => by
    have hi : ¬ ((i : Int) < (x.length : Int)) := by omega
    simp only [loopN, stepSmall, hi, decide_false, cond_false]
    rw [List.drop_eq_nil_of_le (by omega)]
    rfl
  | q + 1, i, h => by
    have hi : ((i : Int) < (x.length : Int)) := by omega
    have hi0 : (0 : Int) ≤ (i : Int) := by omega
    have hil : i < x.length := by omega
    have hw : w64 ((i : Int) + 1) = ((i + 1 : Nat) : Int) := by unfold w64; rw [IntKind.wrap_i64]; omega
    rw [loopN]
    simp only [stepSmall, hi, hi0, decide_true, cond_true, Bool.and_self, chk, Int.toNat_natCast, hw]
    rw [small_loop R x k kk hn q (i + 1) (by omega), List.drop_eq_getElem_cons hil, firstBig]
    have hg : x.getD i 0 = x[i] := by simp [List.getD, hil]
    simp only [hg]
    unfold big
    cases decide (x[i] > 1048576) <;> cases decide (x[i] < -1048576) <;> rfl

theorem anyBig_first (x : List Int) : anyBig x = (firstBig x 0).isSome := by
  unfold anyBig firstI
  cases firstBig x 0 <;> simp

theorem go_small (R : Type) (n : Nat) (vs : List AV) (kk : Nat → List AV → Option R) (r : R) (h : leSmall.go R n vs kk = some r) : ∃ m, loopN (stepSmall R) m vs kk = some r := by
  simp only [leSmall] at h
  split at h
  · rename_i n x k len
    obtain ⟨hg, hk⟩ := chk_some h
    clear h
    simp only [Bool.and_eq_true, decide_eq_true_eq] at hg
    obtain ⟨⟨g1, g2⟩, g3⟩ := hg
    have g1 := nat_beq g1
    subst g1 g3
    refine ⟨x.length + 1, ?_⟩
    have := small_loop R x k kk (Nat.le_of_ble_eq_true g2) x.length 0 (by omega)
    simp only [List.drop_zero] at this
    refine this.trans ?_
    rw [anyBig_first] at hk
    rw [← hk]
    cases firstBig x 0 <;> rfl
  · cases h

/-! ### Is it the list, moved? -/

def movedFrom (n : Nat) (s : Int) (out x : List Int) : Nat → Nat → Bool
  | 0, _ => true
  | q + 1, i => bif out.getD (((i : Int) + s).tmod n).toNat 0 != x.getD i 0 then false else movedFrom n s out x q (i + 1)

def stepMoved (R : Type) (vs : List AV) (k1 : List AV → Option R) (k2 : Nat → List AV → Option R) : Option R :=
  match vs with
  | [.ints n9 .i64 out, .sl (.ints nx .i64 x), .int .i64 len, .int .i64 s, .int .i64 i] =>
    bif decide (i < len) then
      chk (!(len == 0)) (chk (decide (0 ≤ (w64 (i + s)).tmod len) && decide ((w64 (i + s)).tmod len < n9) && true) (chk (decide (0 ≤ i) && decide (i < nx) && true)
        (bif out.getD ((w64 (i + s)).tmod len).toNat 0 != x.getD i.toNat 0 then k2 1 [.bool false] else k1 [.ints n9 .i64 out, .sl (.ints nx .i64 x), .int .i64 len, .int .i64 s, .int .i64 (w64 (i + 1))])))
    else k2 0 []
  | _ => none

def leMoved : LEnt :=
  { inn := { fuel := none, keep := [0, 5, 7, 13], refs := [(9, 9, 2, .ints 0 .i64 [])] }
    out := { fuel := none, keep := [], refs := [] }
    ret := { fuel := none, keep := [4], refs := [] }
    go := fun _ _ vs kk => match vs with
      | [.ints n9 .i64 out, .sl (.ints nx .i64 x), .int .i64 len, .int .i64 s, .int .i64 0] => chk (Nat.beq n9 nx && Nat.ble nx 4096 && decide (len = nx) && decide (0 ≤ s) && decide (s ≤ 4096))
        (bif movedFrom nx s out x nx 0 then kk 0 [] else kk 1 [.bool false])
      | _ => none }

theorem moved_loop (R : Type) (n : Nat) (out x : List Int) (s : Int) (kk : Nat → List AV → Option R) (hn : n ≤ 4096) (h0 : 0 ≤ s) (h1 : s ≤ 4096) : ∀ (q i : Nat), i + q = n →
    loopN (stepMoved R) (q + 1) [.ints n .i64 out, .sl (.ints n .i64 x), .int .i64 n, .int .i64 s, .int .i64 i] kk = (bif movedFrom n s out x q i then kk 0 [] else kk 1 [.bool false])
  | 0, i, h => by
    have hi : ¬ ((i : Int) < (n : Int)) := by omega
    simp only [loopN, stepMoved, hi, decide_false, cond_false, movedFrom, cond_true]
  | q + 1, i, h => by
    have hi : ((i : Int) < (n : Int)) := by omega
    have hi0 : (0 : Int) ≤ (i : Int) := by omega
    have hw : w64 ((i : Int) + 1) = ((i + 1 : Nat) : Int) := by unfold w64; rw [IntKind.wrap_i64]; omega
    have hw' : w64 ((i : Int) + s) = (i : Int) + s := by unfold w64; rw [IntKind.wrap_i64]; omega
    obtain ⟨t1, t2⟩ := tmod_nn (x := (i : Int) + s) (n := n) (by omega) (by omega)
    have hn0 : (!((n : Int) == 0)) = true := by simp; omega
    rw [loopN]
    simp only [stepMoved, hi, hi0, decide_true, cond_true, Bool.and_self, chk, Int.toNat_natCast, hw, hw', t1, t2, hn0]
    rw [moved_loop R n out x s kk hn h0 h1 q (i + 1) (by omega), movedFrom]
    cases (out.getD (((i : Int) + s).tmod n).toNat 0 != x.getD i 0) <;> rfl

theorem go_moved (R : Type) (n : Nat) (vs : List AV) (kk : Nat → List AV → Option R) (r : R) (h : leMoved.go R n vs kk = some r) : ∃ m, loopN (stepMoved R) m vs kk = some r := by
  simp only [leMoved] at h
  split at h
  · rename_i n9 out nx x len s
    obtain ⟨hg, hk⟩ := chk_some h
    clear h
    simp only [Bool.and_eq_true, decide_eq_true_eq] at hg
    obtain ⟨⟨⟨⟨g1, g2⟩, g3⟩, g4⟩, g5⟩ := hg
    have g1 := nat_beq g1
    subst g1 g3
    exact ⟨n9 + 1, (moved_loop R n9 out x s kk (Nat.le_of_ble_eq_true g2) g4 g5 n9 0 (by omega)).trans hk⟩
  · cases h

/-! ### The law -/

def u64 (x : Int) : Int := IntKind.u64.wrap x

/-- Where the single 1 stands. -/
def place (k : Int) (n : Nat) : Int := w64 ((u64 k).tmod (u64 n))

def ones (k : Int) (n : Nat) : List Int := (List.replicate n 0).set (place k n).toNat 1

/-- What is left of the law where the first product is an error. -/
def ones2 (n : Nat) (x : List Int) (k : Int) : Option AV :=
  chk (Nat.beq n (ones k n).length && Nat.beq n x.length && Nat.ble (ones k n).length 4096 && Nat.ble x.length 4096) (bif Nat.beq n 0 then some (.bool false) else bif !Nat.beq n n then some (.bool false) else bif anyBig (ones k n) || anyBig x then some (.bool false) else some (.bool false))

end Go.Proofs.YtdkebceiljdgjaaDoor
