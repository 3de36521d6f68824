/- cyc.Whole. Own work. -/
import Derived.Test.YtdkebceiljdgjaaDoorCyc1
namespace Go.Proofs.YtdkebceiljdgjaaDoor
set_option maxRecDepth 100000

/-! ### The lengths -/

def errA (n : Int) : AV := .iface 68 (.int .i64 n)

def sp_check : List AV → Option Br
  | [.int .i64 a, .int .i64 b, .int .i64 c] => some (.br (decide (a < 1)) (.leaf (errA 1)) (.br (decide (a > c)) (.leaf (errA 1)) (.br (b != a) (.leaf (errA 11)) (.leaf .nili))))
  | _ => none

theorem run_check (a b c : Int) : callA (env Tryd.f27.ntmps [] []) (bodyC Tryd.f27) Tryd.f27.results.toList (slots 0 [.int .i64 a, .int .i64 b, .int .i64 c]) some =
    (Br.br (decide (a < 1)) (.leaf (errA 1)) (.br (decide (a > c)) (.leaf (errA 1)) (.br (b != a) (.leaf (errA 11)) (.leaf .nili)))).run some := by kernel_rfl

theorem ok_check : EntOk Tryd.prog 27 (entB false sp_check) := by
  refine contractB (orc := []) (lo := []) Tryd.func27 orc_nil (by kernel_rfl) (by kernel_rfl) (by kernel_rfl) (loops_none (by kernel_rfl)) fun args t h => ?_
  unfold sp_check at h
  split at h
  · rename_i a b c
    simp only [Option.some.injEq] at h
    subst h
    exact ⟨by kernel_rfl, .inr rfl, fun r hr => (run_check a b c).trans hr⟩
  · cases h

/-! ### The loops -/

def w64 (x : Int) : Int := IntKind.i64.wrap x

/-- What one number of the first list adds. -/
def row (n : Nat) (i ai : Int) : List Int → Int → List Int → List Int
  | [], _, out => out
  | b :: r, j, out => row n i ai r (j + 1) (out.set ((i + j).tmod n).toNat (w64 (out.getD ((i + j).tmod n).toNat 0 + w64 (ai * b))))

def rows (n : Nat) (b : List Int) : List Int → Int → List Int → List Int
  | [], _, out => out
  | ai :: r, i, out => rows n b r (i + 1) (row n i ai b 0 out)

def wholeW (a b : List Int) : List Int := rows a.length b a 0 (List.replicate a.length 0)

def hRow : Hint := { fuel := none, keep := [0, 1, 33, 34, 35], refs := [(8, 8, 2, .ints 0 .i64 [])] }

def stepRow (R : Type) (vs : List AV) (k1 : List AV → Option R) (k2 : Nat → List AV → Option R) : Option R :=
  match vs with
  | [.ints n8 .i64 out, .sl (.ints n .i64 a), .sl (.ints m .i64 b), .sl (.ints n' .i64 a'), .int .i64 len, .int .i64 i0, .int .i64 i, .int .i64 ai, .sl (.ints m' .i64 b'), .int .i64 lenb, .int .i64 j] =>
    bif decide (j < lenb) then
      chk (decide (0 ≤ j) && decide (j < m') && true) (chk (!((n : Int) == 0)) (chk (decide (0 ≤ (w64 (i + j)).tmod n) && decide ((w64 (i + j)).tmod n < n8) && true) (chk (decide (0 ≤ (w64 (i + j)).tmod n) && decide ((w64 (i + j)).tmod n < n8) && true)
        (k1 [.ints n8 .i64 (out.set ((w64 (i + j)).tmod n).toNat (w64 (out.getD ((w64 (i + j)).tmod n).toNat 0 + w64 (ai * b'.getD j.toNat 0)))), .sl (.ints n .i64 a), .sl (.ints m .i64 b), .sl (.ints n' .i64 a'), .int .i64 len, .int .i64 i0, .int .i64 i, .int .i64 ai, .sl (.ints m' .i64 b'), .int .i64 lenb, .int .i64 (w64 (j + 1))]))))
    else k2 0 [.ints n8 .i64 out, .sl (.ints n .i64 a), .sl (.ints m .i64 b), .sl (.ints n' .i64 a'), .int .i64 len, .int .i64 i0]
  | _ => none

def leRow : LEnt :=
  { inn := { fuel := none, keep := [0, 1, 33, 34, 35, 9, 10, 40, 41, 42], refs := [(8, 8, 2, .ints 0 .i64 [])] }
    out := hRow
    ret := hRow
    go := fun _ _ vs kk => match vs with
      | [.ints n8 .i64 out, .sl (.ints n .i64 a), .sl (.ints m .i64 b), .sl (.ints n' .i64 a'), .int .i64 len, .int .i64 i0, .int .i64 i, .int .i64 ai, .sl (.ints m' .i64 b'), .int .i64 lenb, .int .i64 0] =>
        chk (Nat.beq n8 n && Nat.blt 0 n && decide (lenb = b'.length) && Nat.beq m' b'.length && Nat.ble b'.length 4096 && decide (0 ≤ i) && decide (i ≤ 4096))
          (kk 0 [.ints n8 .i64 (row n i ai b' 0 out), .sl (.ints n .i64 a), .sl (.ints m .i64 b), .sl (.ints n' .i64 a'), .int .i64 len, .int .i64 i0])
      | _ => none }

theorem step_row (R : Type) (n8 n m n' m' : Nat) (out a b a' b' : List Int) (len i0 i ai lenb j : Int) (k1 : List AV → Option R) (k2 : Nat → List AV → Option R) :
    runA (env Tryd.f8.ntmps [] []) (loopOf 2 (bodyC Tryd.f8)) 2 (stateOf leRow.inn [.ints n8 .i64 out, .sl (.ints n .i64 a), .sl (.ints m .i64 b), .sl (.ints n' .i64 a'), .int .i64 len, .int .i64 i0, .int .i64 i, .int .i64 ai, .sl (.ints m' .i64 b'), .int .i64 lenb, .int .i64 j]) (bodyK leRow 2 k1 k2) =
    stepRow R [.ints n8 .i64 out, .sl (.ints n .i64 a), .sl (.ints m .i64 b), .sl (.ints n' .i64 a'), .int .i64 len, .int .i64 i0, .int .i64 i, .int .i64 ai, .sl (.ints m' .i64 b'), .int .i64 lenb, .int .i64 j] k1 k2 := by kernel_rfl

theorem tmod_nn {x : Int} {n : Nat} (hx : 0 ≤ x) (hn : 0 < n) : 0 ≤ x.tmod n ∧ x.tmod n < n := by
  rw [Int.tmod_eq_emod_of_nonneg hx]
  exact ⟨Int.emod_nonneg _ (by omega), Int.emod_lt_of_pos _ (by omega)⟩

theorem row_loop (R : Type) (n m n' : Nat) (a b a' b' : List Int) (len i0 i ai : Int) (kk : Nat → List AV → Option R) (hn : 0 < n) (hb : b'.length ≤ 4096) (h0 : 0 ≤ i) (h1 : i ≤ 4096) : ∀ (q j : Nat) (out : List Int), j + q = b'.length →
    loopN (stepRow R) (q + 1) [.ints n .i64 out, .sl (.ints n .i64 a), .sl (.ints m .i64 b), .sl (.ints n' .i64 a'), .int .i64 len, .int .i64 i0, .int .i64 i, .int .i64 ai, .sl (.ints b'.length .i64 b'), .int .i64 b'.length, .int .i64 j] kk =
      kk 0 [.ints n .i64 (row n i ai (b'.drop j) j out), .sl (.ints n .i64 a), .sl (.ints m .i64 b), .sl (.ints n' .i64 a'), .int .i64 len, .int .i64 i0]
  | 0, j, out, h => by
    have hi : ¬ ((j : Int) < (b'.length : Int)) := by omega
    simp only [loopN, stepRow, hi, decide_false, cond_false]
    rw [List.drop_eq_nil_of_le (by omega)]
    rfl
  | q + 1, j, out, h => by
    have hi : ((j : Int) < (b'.length : Int)) := by omega
    have hi0 : (0 : Int) ≤ (j : Int) := by omega
    have hil : j < b'.length := by omega
    have hw : w64 ((j : Int) + 1) = ((j + 1 : Nat) : Int) := by unfold w64; rw [IntKind.wrap_i64]; omega
    have hw' : w64 (i + (j : Int)) = i + (j : Int) := by unfold w64; rw [IntKind.wrap_i64]; omega
    obtain ⟨t1, t2⟩ := tmod_nn (x := i + (j : Int)) (n := n) (by omega) hn
    have hn0 : (!((n : Int) == 0)) = true := by
      simp; omega
    rw [loopN]
    simp only [stepRow, hi, hi0, decide_true, cond_true, Bool.and_self, chk, Int.toNat_natCast, hw, hw', t1, t2, hn0]
    rw [row_loop R n m n' a b a' b' len i0 i ai kk hn hb h0 h1 q (j + 1) _ (by omega), List.drop_eq_getElem_cons hil, row]
    have hg : b'.getD j 0 = b'[j] := by simp [List.getD, hil]
    rw [hg]
    congr 5

theorem go_row (R : Type) (n : Nat) (vs : List AV) (kk : Nat → List AV → Option R) (r : R) (h : leRow.go R n vs kk = some r) : ∃ m, loopN (stepRow R) m vs kk = some r := by
  simp only [leRow] at h
  split at h
  · rename_i n8 out n a m b n' a' len i0 i ai m' b' lenb
    obtain ⟨hg, hk⟩ := chk_some h
    clear h
    simp only [Bool.and_eq_true, decide_eq_true_eq] at hg
    obtain ⟨⟨⟨⟨⟨⟨g1, g2⟩, g3⟩, g4⟩, g5⟩, g6⟩, g7⟩ := hg
    have g1 := nat_beq g1
    have g4 := nat_beq g4
    subst g1 g3 g4
    refine ⟨b'.length + 1, ?_⟩
    have := row_loop R n8 m n' a b a' b' len i0 i ai kk (by rw [Nat.blt_eq] at g2; exact g2) (Nat.le_of_ble_eq_true g5) g6 g7 b'.length 0 out (by omega)
    simp only [List.drop_zero] at this
    exact this.trans hk
  · cases h

def stepRows (R : Type) (vs : List AV) (k1 : List AV → Option R) (k2 : Nat → List AV → Option R) : Option R :=
  match vs with
  | [.ints n8 .i64 out, .sl (.ints n .i64 a), .sl (.ints m .i64 b), .sl (.ints n' .i64 a'), .int .i64 len, .int .i64 i] =>
    bif decide (i < len) then
      chk (decide (0 ≤ i) && decide (i < n') && true)
        (chk (Nat.beq n8 n && Nat.blt 0 n && decide ((m : Int) = b.length) && Nat.beq m b.length && Nat.ble b.length 4096 && decide (0 ≤ i) && decide (i ≤ 4096))
          (k1 [.ints n8 .i64 (row n i (a'.getD i.toNat 0) b 0 out), .sl (.ints n .i64 a), .sl (.ints m .i64 b), .sl (.ints n' .i64 a'), .int .i64 len, .int .i64 (w64 (i + 1))]))
    else k2 0 [.ints n8 .i64 out]
  | _ => none

def leRows : LEnt :=
  { inn := hRow
    out := { fuel := none, keep := [], refs := [(8, 8, 2, .ints 0 .i64 [])] }
    ret := { fuel := none, keep := [], refs := [] }
    go := fun _ _ vs kk => match vs with
      | [.ints n8 .i64 out, .sl (.ints n .i64 a), .sl (.ints m .i64 b), .sl (.ints n' .i64 a'), .int .i64 len, .int .i64 0] =>
        chk (Nat.beq n8 n && Nat.blt 0 n && Nat.beq m b.length && Nat.ble b.length 4096 && decide (len = a'.length) && Nat.beq n' a'.length && Nat.ble a'.length 4096)
          (kk 0 [.ints n8 .i64 (rows n b a' 0 out)])
      | _ => none }

theorem step_rows (R : Type) (n8 n m n' : Nat) (out a b a' : List Int) (len i : Int) (k1 : List AV → Option R) (k2 : Nat → List AV → Option R) :
    runA (env Tryd.f8.ntmps [] [(2, leRow)]) (loopOf 0 (bodyC Tryd.f8)) 0 (stateOf leRows.inn [.ints n8 .i64 out, .sl (.ints n .i64 a), .sl (.ints m .i64 b), .sl (.ints n' .i64 a'), .int .i64 len, .int .i64 i]) (bodyK leRows 0 k1 k2) =
    stepRows R [.ints n8 .i64 out, .sl (.ints n .i64 a), .sl (.ints m .i64 b), .sl (.ints n' .i64 a'), .int .i64 len, .int .i64 i] k1 k2 := by kernel_rfl

theorem rows_loop (R : Type) (n : Nat) (a b a' : List Int) (kk : Nat → List AV → Option R) (hn : 0 < n) (hb : b.length ≤ 4096) (ha : a'.length ≤ 4096) : ∀ (q i : Nat) (out : List Int), i + q = a'.length →
    loopN (stepRows R) (q + 1) [.ints n .i64 out, .sl (.ints n .i64 a), .sl (.ints b.length .i64 b), .sl (.ints a'.length .i64 a'), .int .i64 a'.length, .int .i64 i] kk = kk 0 [.ints n .i64 (rows n b (a'.drop i) i out)]
  | 0, j, out, h => by
    have hi : ¬ ((j : Int) < (a'.length : Int)) := by omega
    simp only [loopN, stepRows, hi, decide_false, cond_false]
    rw [List.drop_eq_nil_of_le (by omega)]
    rfl
  | q + 1, j, out, h => by
    have hi : ((j : Int) < (a'.length : Int)) := by omega
    have hi0 : (0 : Int) ≤ (j : Int) := by omega
    have hi1 : (j : Int) ≤ 4096 := by omega
    have hil : j < a'.length := by omega
    have hw : w64 ((j : Int) + 1) = ((j + 1 : Nat) : Int) := by unfold w64; rw [IntKind.wrap_i64]; omega
    have g2 : Nat.blt 0 n = true := by rw [Nat.blt_eq]; exact hn
    have g5 : Nat.ble b.length 4096 = true := Nat.ble_eq_true_of_le hb
    rw [loopN]
    simp only [stepRows, hi, hi0, hi1, decide_true, cond_true, Bool.and_self, chk, Int.toNat_natCast, hw, Nat.beq_refl, g2, g5]
    rw [rows_loop R n a b a' kk hn hb ha q (j + 1) _ (by omega), List.drop_eq_getElem_cons hil, rows]
    have hg : a'.getD j 0 = a'[j] := by simp [List.getD, hil]
    rw [hg]
    congr 5

theorem go_rows (R : Type) (n : Nat) (vs : List AV) (kk : Nat → List AV → Option R) (r : R) (h : leRows.go R n vs kk = some r) : ∃ m, loopN (stepRows R) m vs kk = some r := by
  simp only [leRows] at h
  split at h
  · rename_i n8 out n a m b n' a' len
    obtain ⟨hg, hk⟩ := chk_some h
    clear h
    simp only [Bool.and_eq_true, decide_eq_true_eq] at hg
    obtain ⟨⟨⟨⟨⟨⟨g1, g2⟩, g3⟩, g4⟩, g5⟩, g6⟩, g7⟩ := hg
    have g1 := nat_beq g1
    have g3 := nat_beq g3
    have g6 := nat_beq g6
    subst g1 g3 g5 g6
    refine ⟨a'.length + 1, ?_⟩
    have := rows_loop R n8 a b a' kk (by rw [Nat.blt_eq] at g2; exact g2) (Nat.le_of_ble_eq_true g4) (Nat.le_of_ble_eq_true g7) a'.length 0 out (by omega)
    simp only [List.drop_zero] at this
    exact this.trans hk
  · cases h

/-! ### The whole -/

def orcWhole : List (FuncId × Ent) := [(27, entB false sp_check), (29, entS false sp_contains)]

def anyBig (l : List Int) : Bool := decide (firstI l ≥ 0)

theorem run_whole (n m : Nat) (a b : List Int) : callA (env Tryd.f8.ntmps orcWhole [(0, leRows)]) (bodyC Tryd.f8) Tryd.f8.results.toList (slots 0 [.sl (.ints n .i64 a), .sl (.ints m .i64 b)]) some =
    bif decide ((n : Int) < 1) then some (.tup [.nils, errA 1]) else bif decide ((n : Int) > 4096) then some (.tup [.nils, errA 1]) else bif ((m : Int) != n) then some (.tup [.nils, errA 11]) else
    chk (Nat.beq n a.length && Nat.ble a.length 4096)
      (bif anyBig a then some (.tup [.nils, errA 2]) else
      chk (Nat.beq m b.length && Nat.ble b.length 4096)
        (bif anyBig b then some (.tup [.nils, errA 2]) else
          chk (true && ((n : Int) == (n : Int)) && decide ((0 : Int) ≤ n) && decide (((8 : Nat) : Int) * n ≤ 140737488355328) && decide ((n : Int) < 9223372036854775808))
          (chk (Nat.beq n n && Nat.blt 0 n && Nat.beq m b.length && Nat.ble b.length 4096 && decide ((n : Int) = a.length) && Nat.beq n a.length && Nat.ble a.length 4096)
            (some (.tup [.osl 2 (.ints n .i64 (rows n b a 0 (List.replicate n 0))), .nili]))))) := by kernel_rfl

def sp_whole : List AV → Option Br
  | [.sl (.ints n .i64 a), .sl (.ints m .i64 b)] => some (.chk (Nat.beq n a.length && Nat.beq m b.length && Nat.ble a.length 4096 && Nat.ble b.length 4096)
      (.br (Nat.beq n 0) (.leaf (.tup [.nils, errA 1])) (.br (!Nat.beq m n) (.leaf (.tup [.nils, errA 11])) (.br (anyBig a || anyBig b) (.leaf (.tup [.nils, errA 2])) (.leaf (.tup [.osl 2 (.ints n .i64 (wholeW a b)), .nili]))))))
  | _ => none

theorem beq_iff {a b : Nat} : Nat.beq a b = decide (a = b) := by
  cases h : Nat.beq a b with
  | true => simp [nat_beq h]
  | false =>
    have : a ≠ b := fun e => by subst e; rw [Nat.beq_refl] at h; cases h
    simp [this]

theorem ok_whole : EntOk Tryd.prog 8 (entB false sp_whole) := by
  refine contractB (orc := orcWhole) (lo := [(0, leRows)]) Tryd.func8 (orc_cons ok_check (orc_cons ok_contains orc_nil)) (by kernel_rfl) (by kernel_rfl) (by kernel_rfl)
    (loops_one (id := 0) (y := .loop (loopOf 0 (bodyC Tryd.f8))) (by kernel_rfl)
      (loopS (le := leRows) (orc := []) (lo' := [(2, leRow)]) orc_nil (by kernel_rfl) rfl
        (loops_one (id := 2) (y := .loop (loopOf 2 (bodyC Tryd.f8))) (by kernel_rfl)
          (loopS (le := leRow) (orc := []) (lo' := []) orc_nil (by kernel_rfl) rfl (loops_none (by kernel_rfl)) stepRow (fun R vs k1 k2 r h => ?_) go_row))
        stepRows (fun R vs k1 k2 r h => ?_) go_rows)) fun args t h => ?_
  · have h0 := h
    unfold stepRow at h
    split at h
    · exact (step_row R _ _ _ _ _ _ _ _ _ _ _ _ _ _ _ _ k1 k2).trans h0
    · cases h
  · have h0 := h
    unfold stepRows at h
    split at h
    · exact (step_rows R _ _ _ _ _ _ _ _ _ _ k1 k2).trans h0
    · cases h
  · unfold sp_whole at h
    split at h
    · rename_i n a m b
      simp only [Option.some.injEq] at h
      subst h
      refine ⟨by kernel_rfl, .inr rfl, fun r hr => (run_whole n m a b).trans ?_⟩
      simp only [Br.run] at hr
      obtain ⟨hg, hr⟩ := chk_some hr
      simp only [Bool.and_eq_true] at hg
      obtain ⟨⟨⟨g1, g2⟩, g3⟩, g4⟩ := hg
      have g1' := nat_beq g1
      have g2' := nat_beq g2
      have g3' := Nat.le_of_ble_eq_true g3
      subst g1' g2'
      rw [← hr]
      simp only [g3, g4, Nat.beq_refl, Bool.and_self, chk, cond_true]
      by_cases h0 : a.length = 0
      · have : decide ((a.length : Int) < 1) = true := by simp [h0]
        rw [this]; simp [h0]
      · have e1 : decide ((a.length : Int) < 1) = false := by simp; omega
        have e2 : decide ((a.length : Int) > 4096) = false := by simp; omega
        have e3 : Nat.beq a.length 0 = false := by rw [beq_iff]; simpa using h0
        have e4 : ((b.length : Int) != a.length) = !Nat.beq b.length a.length := by
          rw [beq_iff]
          by_cases he : b.length = a.length
          · simp [he]
          · have : ¬ (b.length : Int) = a.length := by omega
            simp [he, this]
        rw [e1, e2, e3, e4]
        cases hE : Nat.beq b.length a.length with
        | false => rfl
        | true =>
          have g5 : Nat.blt 0 a.length = true := by rw [Nat.blt_eq]; omega
          have g6 : decide (((8 : Nat) : Int) * a.length ≤ 140737488355328) = true := by simp; omega
          have g7 : decide ((a.length : Int) < 9223372036854775808) = true := by simp; omega
          have g8 : decide ((0 : Int) ≤ a.length) = true := by simp
          simp only [g5, g6, g7, g8, Bool.and_self, cond_true, cond_false, Bool.not_true, BEq.rfl, decide_true]
          cases anyBig a <;> cases anyBig b <;> rfl
    · cases h
end Go.Proofs.YtdkebceiljdgjaaDoor
