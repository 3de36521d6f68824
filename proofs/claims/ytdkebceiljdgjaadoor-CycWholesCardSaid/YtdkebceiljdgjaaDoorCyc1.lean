/- cyc: the functions that CycOnes reaches. Own work. -/
import Derived.Test.YtdkebceiljdgjaaDoorBase
namespace Go.Proofs.YtdkebceiljdgjaaDoor
set_option maxRecDepth 100000

def okI (n : Int) : Bool := decide (-9223372036854775808 ≤ n) && decide (n < 9223372036854775808)

/-! ### A number too great -/

def big (x : Int) : Bool := decide (x > 1048576) || decide (x < -1048576)

def sp_big : List AV → Option (Bool × AV)
  | [.int .i64 x] => some (true, .bool (big x))
  | _ => none

theorem run_big (x : Int) : callA (env Tryd.f28.ntmps [] []) (bodyC Tryd.f28) Tryd.f28.results.toList (slots 0 [.int .i64 x]) some =
    bif decide (x > 1048576) then some (.bool true) else some (.bool (decide (x < -1048576))) := by kernel_rfl

theorem ok_big : EntOk Tryd.prog 28 (entS false sp_big) := by
  refine contractS (orc := []) (lo := []) Tryd.func28 orc_nil (by kernel_rfl) (by kernel_rfl) (by kernel_rfl) (loops_none (by kernel_rfl)) fun args r h => ?_
  unfold sp_big at h
  split at h
  · rename_i x
    simp only [Option.some.injEq, Prod.mk.injEq, true_and] at h
    subst h
    refine ⟨by kernel_rfl, .inr rfl, ?_⟩
    refine (run_big x).trans ?_
    unfold big
    cases decide (x > 1048576) <;> rfl
  · cases h

/-! ### The first number too great -/

def firstBig : List Int → Nat → Option Nat
  | [], _ => none
  | x :: l, i => bif big x then some i else firstBig l (i + 1)

def stepFirst (R : Type) (vs : List AV) (k1 : List AV → Option R) (k2 : Nat → List AV → Option R) : Option R :=
  match vs with
  | [.sl (.ints n .i64 l), .func 28, .int .i64 len, .int .i64 i] =>
    bif decide (i < len) then chk (decide (0 ≤ i) && decide (i < n) && true) (bif big (l.getD i.toNat 0) then k2 1 [.int .i64 i] else k1 [.sl (.ints n .i64 l), .func 28, .int .i64 len, .int .i64 (IntKind.i64.wrap (i + 1))])
    else k2 0 []
  | _ => none

def leFirst : LEnt :=
  { inn := { fuel := none, keep := [0, 1, 7, 8], refs := [] }
    out := { fuel := none, keep := [], refs := [] }
    ret := { fuel := none, keep := [4], refs := [] }
    go := fun _ _ vs kk => match vs with
      | [.sl (.ints n .i64 l), .func 28, .int .i64 len, .int .i64 0] => chk (decide (len = l.length) && Nat.beq n l.length && Nat.ble l.length 4096)
        (match firstBig l 0 with
        | some i => kk 1 [.int .i64 i]
        | none => kk 0 [])
      | _ => none }

theorem step_first (R : Type) (n : Nat) (l : List Int) (len i : Int) (k1 : List AV → Option R) (k2 : Nat → List AV → Option R) :
    runA (env Tryd.f57.ntmps [(28, entS false sp_big)] []) (loopOf 0 (bodyC Tryd.f57)) 0 (stateOf leFirst.inn [.sl (.ints n .i64 l), .func 28, .int .i64 len, .int .i64 i]) (bodyK leFirst 0 k1 k2) =
    stepFirst R [.sl (.ints n .i64 l), .func 28, .int .i64 len, .int .i64 i] k1 k2 := by kernel_rfl
theorem first_loop (R : Type) (l : List Int) (kk : Nat → List AV → Option R) (hl : l.length ≤ 4096) : ∀ (j i : Nat), i + j = l.length →
    loopN (stepFirst R) (j + 1) [.sl (.ints l.length .i64 l), .func 28, .int .i64 l.length, .int .i64 i] kk = (match firstBig (l.drop i) i with
      | some q => kk 1 [.int .i64 q]
      | none => kk 0 [])
  | 0, i, h => by
    have hi : ¬ ((i : Int) < (l.length : Int)) := by omega
    simp only [loopN, stepFirst, hi, decide_false, cond_false]
    rw [List.drop_eq_nil_of_le (by omega)]
    rfl
  | j + 1, i, h => by
    have hi : ((i : Int) < (l.length : Int)) := by omega
    have hi0 : (0 : Int) ≤ (i : Int) := by omega
    have hil : i < l.length := by omega
    have hw : IntKind.i64.wrap ((i : Int) + 1) = ((i + 1 : Nat) : Int) := by rw [IntKind.wrap_i64]; omega
    rw [loopN]
    simp only [stepFirst, hi, hi0, decide_true, cond_true, Bool.and_self, chk, Int.toNat_natCast, hw]
    rw [first_loop R l kk hl j (i + 1) (by omega), List.drop_eq_getElem_cons hil, firstBig]
    have hg : l.getD i 0 = l[i] := by simp [List.getD, hil]
    rw [hg]
    cases big l[i] <;> rfl

theorem go_first (R : Type) (n : Nat) (vs : List AV) (kk : Nat → List AV → Option R) (r : R) (h : leFirst.go R n vs kk = some r) : ∃ m, loopN (stepFirst R) m vs kk = some r := by
  simp only [leFirst] at h
  split at h
  · rename_i n' l len
    obtain ⟨hg, hk⟩ := chk_some h
    simp only [Bool.and_eq_true, decide_eq_true_eq] at hg
    obtain ⟨⟨rfl, h2⟩, h3⟩ := hg
    have h2 := nat_beq h2
    subst h2
    refine ⟨l.length + 1, ?_⟩
    have := first_loop R l kk (Nat.le_of_ble_eq_true h3) l.length 0 (by omega)
    simp only [List.drop_zero] at this
    exact this.trans hk
  · cases h

def firstI (l : List Int) : Int :=
  match firstBig l 0 with
  | some i => i
  | none => -1

def sp_index : List AV → Option (Bool × AV)
  | [.sl (.ints n .i64 l), .func 28] => some (Nat.beq n l.length && Nat.ble l.length 4096, .int .i64 (firstI l))
  | _ => none

theorem run_index (n : Nat) (l : List Int) : callA (env Tryd.f57.ntmps [(28, entS false sp_big)] [(0, leFirst)]) (bodyC Tryd.f57) Tryd.f57.results.toList (slots 0 [.sl (.ints n .i64 l), .func 28]) some =
    chk (decide ((n : Int) = l.length) && Nat.beq n l.length && Nat.ble l.length 4096) (match firstBig l 0 with
      | some i => some (.int .i64 i)
      | none => some (.int .i64 (-1))) := by kernel_rfl

theorem ok_index : EntOk Tryd.prog 57 (entS false sp_index) := by
  refine contractS (orc := [(28, entS false sp_big)]) (lo := [(0, leFirst)]) Tryd.func57 (orc_cons ok_big orc_nil) (by kernel_rfl) (by kernel_rfl) (by kernel_rfl)
    (loops_one (id := 0) (y := .loop (loopOf 0 (bodyC Tryd.f57))) (by kernel_rfl)
      (loopS (le := leFirst) (orc := [(28, entS false sp_big)]) (lo' := []) (orc_cons ok_big orc_nil) (by kernel_rfl) rfl (loops_none (by kernel_rfl)) stepFirst (fun R vs k1 k2 r h => ?_) go_first)) fun args r h => ?_
  · have h0 := h
    unfold stepFirst at h
    split at h
    · rename_i n l len i
      exact (step_first R n l len i k1 k2).trans h0
    · cases h
  · unfold sp_index at h
    split at h
    · rename_i n l
      simp only [Option.some.injEq, Prod.mk.injEq] at h
      obtain ⟨hg, rfl⟩ := h
      refine ⟨by kernel_rfl, .inr rfl, ?_⟩
      refine (run_index n l).trans ?_
      simp only [Bool.and_eq_true] at hg
      have h2 := nat_beq hg.1
      subst h2
      simp only [hg, decide_true, Bool.and_self, chk, cond_true, firstI]
      cases firstBig l 0 <;> rfl
    · cases h

def sp_contains : List AV → Option (Bool × AV)
  | [.sl (.ints n .i64 l), .func 28] => some (Nat.beq n l.length && Nat.ble l.length 4096, .bool (decide (firstI l ≥ 0)))
  | _ => none

theorem run_contains (n : Nat) (l : List Int) : callA (env Tryd.f29.ntmps [(57, entS false sp_index)] []) (bodyC Tryd.f29) Tryd.f29.results.toList (slots 0 [.sl (.ints n .i64 l), .func 28]) some =
    chk (Nat.beq n l.length && Nat.ble l.length 4096) (some (.bool (decide (firstI l ≥ 0)))) := by kernel_rfl

theorem ok_contains : EntOk Tryd.prog 29 (entS false sp_contains) := by
  refine contractS (orc := [(57, entS false sp_index)]) (lo := []) Tryd.func29 (orc_cons ok_index orc_nil) (by kernel_rfl) (by kernel_rfl) (by kernel_rfl) (loops_none (by kernel_rfl)) fun args r h => ?_
  unfold sp_contains at h
  split at h
  · rename_i n l
    simp only [Option.some.injEq, Prod.mk.injEq] at h
    obtain ⟨hg, rfl⟩ := h
    refine ⟨by kernel_rfl, .inr rfl, ?_⟩
    refine (run_contains n l).trans ?_
    rw [hg]; rfl
  · cases h
end Go.Proofs.YtdkebceiljdgjaaDoor
