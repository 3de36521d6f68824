/- cyc.Whole of lists of any lengths; tillerref25: check, Whole. Own work. -/
import Derived.Test.YtdkebceiljdgjaaDoorCyc6
namespace Go.Proofs.YtdkebceiljdgjaaDoor
set_option maxRecDepth 100000
noncomputable section

/-- What the kernel leaves as it is. -/
def wall {α : Type} (x : α) : α := bif (Classical.choice (Nonempty.intro true) : Bool) then x else x
theorem wall_eq {α : Type} (x : α) : wall x = x := by unfold wall; cases (Classical.choice (Nonempty.intro true) : Bool) <;> rfl

/-! ### cyc.Whole, of any lists -/
def sp_wholeB : List AV → Option Br
  | [.sl (.ints n .i64 a), .sl (.ints m .i64 b)] => some (.chk (Nat.beq n a.length && Nat.beq m b.length)
      (.br (Nat.beq n 0) (.leaf (.tup [.nils, errA 1])) (.br (!Nat.ble n 4096) (.leaf (.tup [.nils, errA 1])) (.br (!Nat.beq m n) (.leaf (.tup [.nils, errA 11])) (.br (anyBig a || anyBig b) (.leaf (.tup [.nils, errA 2])) (.leaf (.tup [.osl 2 (.ints n .i64 (wholeW a b)), .nili])))))))
  | _ => none
theorem ok_wholeB : EntOk Tryd.prog 8 (entB false sp_wholeB) := by
  refine contractB (orc := orcWhole) (lo := [(0, leRows)]) Tryd.func8 (orc_cons ok_check (orc_cons ok_contains orc_nil)) (by kernel_rfl) (by kernel_rfl) (by kernel_rfl)
    (loops_one (id := 0) (y := .loop (loopOf 0 (bodyC Tryd.f8))) (by kernel_rfl)
      (loopS (le := leRows) (orc := []) (lo' := [(2, leRow)]) orc_nil (by kernel_rfl) rfl
        (loops_one (id := 2) (y := .loop (loopOf 2 (bodyC Tryd.f8))) (by kernel_rfl)
          (loopS (le := leRow) (orc := []) (lo' := []) orc_nil (by kernel_rfl) rfl (loops_none (by kernel_rfl)) stepRow (fun R vs k1 k2 r h => ?_) go_row))
        stepRows (fun R vs k1 k2 r h => ?_) go_rows)) fun args t h => ?_
  · have h0 := h
    unfold stepRow at h
    split at h
    · exact (step_row R _ _ _ _ _ _ _ _ _ _ _ _ _ _ _ _ k1 k2).trans h0
    · cases h
  · have h0 := h
    unfold stepRows at h
    split at h
    · exact (step_rows R _ _ _ _ _ _ _ _ _ _ k1 k2).trans h0
    · cases h
  · unfold sp_wholeB at h
    split at h
    · rename_i n a m b
      simp only [Option.some.injEq] at h
      subst h
      refine ⟨by kernel_rfl, .inr rfl, fun r hr => (run_whole n m a b).trans ?_⟩
      simp only [Br.run] at hr
      obtain ⟨hg, hr⟩ := chk_some hr
      simp only [Bool.and_eq_true] at hg
      obtain ⟨g1, g2⟩ := hg
      have g1' := nat_beq g1
      have g2' := nat_beq g2
      subst g1' g2'
      rw [← hr]
      by_cases h0 : a.length = 0
      · have : decide ((a.length : Int) < 1) = true := by simp [h0]
        rw [this]; simp [h0]
      · have e1 : decide ((a.length : Int) < 1) = false := by simp; omega
        have e3 : Nat.beq a.length 0 = false := by rw [beq_iff]; simpa using h0
        by_cases h2 : a.length > 4096
        · have e2 : decide ((a.length : Int) > 4096) = true := by simp; omega
          have e5 : Nat.ble a.length 4096 = false := by
            cases hb : Nat.ble a.length 4096 with
            | false => rfl
            | true => have := Nat.le_of_ble_eq_true hb; omega
          rw [e1, e2, e3, e5]
          rfl
        · have g3 : Nat.ble a.length 4096 = true := Nat.ble_eq_true_of_le (by omega)
          have e2 : decide ((a.length : Int) > 4096) = false := by simp; omega
          have e4 : ((b.length : Int) != a.length) = !Nat.beq b.length a.length := by
            rw [beq_iff]
            by_cases he : b.length = a.length
            · simp [he]
            · have : ¬ (b.length : Int) = a.length := by omega
              simp [he, this]
          rw [e1, e2, e3, e4, g3]
          cases hE : Nat.beq b.length a.length with
          | false => rfl
          | true =>
            have hbl := nat_beq hE
            have g4 : Nat.ble b.length 4096 = true := by rw [hbl]; exact g3
            have g5 : Nat.blt 0 a.length = true := by rw [Nat.blt_eq]; omega
            have g6 : decide (((8 : Nat) : Int) * a.length ≤ 140737488355328) = true := by simp; omega
            have g7 : decide ((a.length : Int) < 9223372036854775808) = true := by simp; omega
            have g8 : decide ((0 : Int) ≤ a.length) = true := by simp
            simp only [g4, g5, g6, g7, g8, Nat.beq_refl, chk, Bool.and_self, cond_true, cond_false, Bool.not_true, BEq.rfl, decide_true]
            cases anyBig a <;> cases anyBig b <;> rfl
    · cases h

/-! ### check -/
def rchk (n m k : Int) : Int := wall (if n = 0 ∨ n > k then 1 else if n ≠ m then 11 else 0)
def sp_rcheck : List AV → Option (Bool × AV)
  | [.int .i64 n, .int .i64 m, .int .i64 k] => some (true, .int .i64 (rchk n m k))
  | _ => none
theorem run_rcheck (n m k : Int) : callA (env Tryd.f30.ntmps [] []) (bodyC Tryd.f30) Tryd.f30.results.toList (slots 0 [.int .i64 n, .int .i64 m, .int .i64 k]) some =
    bif n == 0 then some (.int .i64 1) else bif decide (n > k) then some (.int .i64 1) else bif n != m then some (.int .i64 11) else some (.int .i64 0) := by kernel_rfl
theorem ok_rcheck : EntOk Tryd.prog 30 (entS false sp_rcheck) := by
  refine contractS (orc := []) (lo := []) Tryd.func30 orc_nil (by kernel_rfl) (by kernel_rfl) (by kernel_rfl) (loops_none (by kernel_rfl)) fun args r h => ?_
  unfold sp_rcheck at h
  split at h
  · rename_i n m k
    simp only [Option.some.injEq, Prod.mk.injEq] at h
    obtain ⟨-, rfl⟩ := h
    refine ⟨by kernel_rfl, .inr rfl, (run_rcheck n m k).trans ?_⟩
    unfold rchk
    rw [wall_eq]
    by_cases h1 : n = 0
    · rw [beq_iff_eq.2 h1, if_pos (.inl h1)]; rfl
    · rw [beq_eq_false_iff_ne.2 h1]
      by_cases h2 : n > k
      · rw [decide_eq_true h2, if_pos (.inr h2)]; rfl
      · rw [decide_eq_false h2, if_neg (show ¬ (n = 0 ∨ n > k) by omega)]
        by_cases h3 : n = m
        · have : (n != m) = false := by rw [h3]; exact bne_self_eq_false _
          rw [this, if_neg (not_not_intro h3)]; rfl
        · have : (n != m) = true := bne_iff_ne.2 h3
          rw [this, if_pos h3]; rfl
  · cases h

/-! ### Whole: are all numbers small? -/
def bigB (x y : List Int) : Nat → Nat → Bool
  | 0, _ => false
  | q + 1, i => big (x.getD i 0) || big (y.getD i 0) || bigB x y q (i + 1)
def stepBoth (R : Type) (vs : List AV) (k1 : List AV → Option R) (k2 : Nat → List AV → Option R) : Option R :=
  match vs with
  | [.sl (.ints n .i64 x), .sl (.ints m .i64 y), .int .i64 len, .int .i64 i] =>
    bif decide (i < len) then chk (decide (0 ≤ i) && decide (i < n) && true)
      (bif decide (x.getD i.toNat 0 > 1048576) then k2 1 [.nils, .int .i64 2] else chk (decide (0 ≤ i) && decide (i < n) && true)
        (bif decide (x.getD i.toNat 0 < -1048576) then k2 1 [.nils, .int .i64 2] else chk (decide (0 ≤ i) && decide (i < m) && true)
          (bif decide (y.getD i.toNat 0 > 1048576) then k2 1 [.nils, .int .i64 2] else chk (decide (0 ≤ i) && decide (i < m) && true)
            (bif decide (y.getD i.toNat 0 < -1048576) then k2 1 [.nils, .int .i64 2] else k1 [.sl (.ints n .i64 x), .sl (.ints m .i64 y), .int .i64 len, .int .i64 (w64 (i + 1))]))))
    else k2 0 [.sl (.ints n .i64 x), .sl (.ints m .i64 y), .int .i64 len]
  | _ => none
def goB (n m : Nat) (x y : List Int) (len : Int) : Bool := Nat.beq n x.length && Nat.beq m y.length && Nat.beq n m && Nat.ble n 4096 && decide (len = n)
def leBoth : LEnt :=
  { inn := { fuel := none, keep := [0, 1, 6, 8], refs := [] }
    out := { fuel := none, keep := [0, 1, 6], refs := [] }
    ret := { fuel := none, keep := [4, 5], refs := [] }
    go := fun _ _ vs kk => match vs with
      | [.sl (.ints n .i64 x), .sl (.ints m .i64 y), .int .i64 len, .int .i64 0] => chk (goB n m x y len)
        (bif bigB x y n 0 then kk 1 [.nils, .int .i64 2] else kk 0 [.sl (.ints n .i64 x), .sl (.ints m .i64 y), .int .i64 len])
      | _ => none }
theorem step_both (R : Type) (n m : Nat) (x y : List Int) (len i : Int) (k1 : List AV → Option R) (k2 : Nat → List AV → Option R) :
    runA (env Tryd.f9.ntmps [] []) (loopOf 0 (bodyC Tryd.f9)) 0 (stateOf leBoth.inn [.sl (.ints n .i64 x), .sl (.ints m .i64 y), .int .i64 len, .int .i64 i]) (bodyK leBoth 0 k1 k2) =
    stepBoth R [.sl (.ints n .i64 x), .sl (.ints m .i64 y), .int .i64 len, .int .i64 i] k1 k2 := by kernel_rfl
theorem both_loop (R : Type) (n : Nat) (x y : List Int) (kk : Nat → List AV → Option R) (hn : n ≤ 4096) : ∀ (q i : Nat), i + q = n →
    loopN (stepBoth R) (q + 1) [.sl (.ints n .i64 x), .sl (.ints n .i64 y), .int .i64 n, .int .i64 i] kk = (bif bigB x y q i then kk 1 [.nils, .int .i64 2] else kk 0 [.sl (.ints n .i64 x), .sl (.ints n .i64 y), .int .i64 n])
  | 0, i, h => by
    have hi : ¬ ((i : Int) < (n : Int)) := by omega
    simp only [loopN, stepBoth, hi, decide_false, cond_false, bigB]
  | q + 1, i, h => by
    have hi : ((i : Int) < (n : Int)) := by omega
    have hi0 : (0 : Int) ≤ (i : Int) := by omega
    have hw : w64 ((i : Int) + 1) = ((i + 1 : Nat) : Int) := by unfold w64; rw [IntKind.wrap_i64]; omega
    rw [loopN]
    simp only [stepBoth, hi, hi0, decide_true, cond_true, Bool.and_self, chk, Int.toNat_natCast, hw]
    rw [both_loop R n x y kk hn q (i + 1) (by omega), bigB]
    unfold big
    cases decide (x.getD i 0 > 1048576) <;> cases decide (x.getD i 0 < -1048576) <;> cases decide (y.getD i 0 > 1048576) <;> cases decide (y.getD i 0 < -1048576) <;> rfl
theorem go_both (R : Type) (n : Nat) (vs : List AV) (kk : Nat → List AV → Option R) (r : R) (h : leBoth.go R n vs kk = some r) : ∃ m, loopN (stepBoth R) m vs kk = some r := by
  simp only [leBoth] at h
  split at h
  · rename_i n x m y len
    obtain ⟨hg, hk⟩ := chk_some h
    clear h
    unfold goB at hg
    simp only [Bool.and_eq_true, decide_eq_true_eq] at hg
    obtain ⟨⟨⟨⟨_, _⟩, g3⟩, g4⟩, g5⟩ := hg
    have g3 := nat_beq g3
    subst g3 g5
    exact ⟨n + 1, (both_loop R n x y kk (Nat.le_of_ble_eq_true g4) n 0 (by omega)).trans hk⟩
  · cases h

/-! ### Whole: one number -/
def inn (x y : List Int) (n k : Nat) : Nat → Nat → Int → Int
  | 0, _, s => s
  | q + 1, j, s => inn x y n k q (j + 1) (w64 (s + w64 (x.getD j 0 * y.getD ((k + n - j) % n) 0)))
def innW (x y : List Int) (n : Nat) (k : Int) : Int := wall (inn x y n k.toNat n 0 0)
def stepIn (R : Type) (vs : List AV) (k1 : List AV → Option R) (k2 : Nat → List AV → Option R) : Option R :=
  match vs with
  | [.ints p .i64 out, .sl (.ints n .i64 x), .sl (.ints m .i64 y), .int .i64 len, .int .i64 k, .int .i64 s, .int .i64 j] =>
    bif decide (j < len) then chk (decide (0 ≤ j) && decide (j < n) && true) (chk (!(len == 0)) (chk (decide (0 ≤ (w64 (w64 (k + len) - j)).tmod len) && decide ((w64 (w64 (k + len) - j)).tmod len < m) && true)
      (k1 [.ints p .i64 out, .sl (.ints n .i64 x), .sl (.ints m .i64 y), .int .i64 len, .int .i64 k, .int .i64 (w64 (s + w64 (x.getD j.toNat 0 * y.getD ((w64 (w64 (k + len) - j)).tmod len).toNat 0))), .int .i64 (w64 (j + 1))])))
    else k2 0 [.ints p .i64 out, .sl (.ints n .i64 x), .sl (.ints m .i64 y), .int .i64 len, .int .i64 k, .int .i64 s]
  | _ => none
def leIn : LEnt :=
  { inn := { fuel := none, keep := [0, 1, 6, 10, 11, 12], refs := [(9, 9, 2, .ints 0 .i64 [])] }
    out := { fuel := none, keep := [0, 1, 6, 10, 11], refs := [(9, 9, 2, .ints 0 .i64 [])] }
    ret := { fuel := none, keep := [], refs := [] }
    go := fun _ _ vs kk => match vs with
      | [.ints p .i64 out, .sl (.ints n .i64 x), .sl (.ints m .i64 y), .int .i64 len, .int .i64 k, .int .i64 0, .int .i64 0] => chk (goB n m x y len && decide (0 ≤ k) && decide (k < len))
        (kk 0 [.ints p .i64 out, .sl (.ints n .i64 x), .sl (.ints m .i64 y), .int .i64 len, .int .i64 k, .int .i64 (innW x y n k)])
      | _ => none }
theorem step_in (R : Type) (p : Nat) (out : List Int) (n m : Nat) (x y : List Int) (len k s j : Int) (k1 : List AV → Option R) (k2 : Nat → List AV → Option R) :
    runA (env Tryd.f9.ntmps [] []) (loopOf 4 (bodyC Tryd.f9)) 4 (stateOf leIn.inn [.ints p .i64 out, .sl (.ints n .i64 x), .sl (.ints m .i64 y), .int .i64 len, .int .i64 k, .int .i64 s, .int .i64 j]) (bodyK leIn 4 k1 k2) =
    stepIn R [.ints p .i64 out, .sl (.ints n .i64 x), .sl (.ints m .i64 y), .int .i64 len, .int .i64 k, .int .i64 s, .int .i64 j] k1 k2 := by kernel_rfl
theorem in_loop (R : Type) (p : Nat) (out : List Int) (n : Nat) (x y : List Int) (k : Nat) (kk : Nat → List AV → Option R) (hn : n ≤ 4096) (hk : k < n) : ∀ (q j : Nat) (s : Int), j + q = n →
    loopN (stepIn R) (q + 1) [.ints p .i64 out, .sl (.ints n .i64 x), .sl (.ints n .i64 y), .int .i64 n, .int .i64 k, .int .i64 s, .int .i64 j] kk = kk 0 [.ints p .i64 out, .sl (.ints n .i64 x), .sl (.ints n .i64 y), .int .i64 n, .int .i64 k, .int .i64 (inn x y n k q j s)]
  | 0, j, s, h => by
    have hi : ¬ ((j : Int) < (n : Int)) := by omega
    simp only [loopN, stepIn, hi, decide_false, cond_false, inn]
  | q + 1, j, s, h => by
    have hi : ((j : Int) < (n : Int)) := by omega
    have hi0 : (0 : Int) ≤ (j : Int) := by omega
    have hw : w64 ((j : Int) + 1) = ((j + 1 : Nat) : Int) := by unfold w64; rw [IntKind.wrap_i64]; omega
    have hw1 : w64 ((k : Int) + (n : Int)) = ((k + n : Nat) : Int) := by unfold w64; rw [IntKind.wrap_i64]; omega
    have hw2 : w64 (((k + n : Nat) : Int) - (j : Int)) = ((k + n - j : Nat) : Int) := by unfold w64; rw [IntKind.wrap_i64]; omega
    have hm : ((k + n - j : Nat) : Int).tmod n = (((k + n - j) % n : Nat) : Int) := by rw [Int.tmod_eq_emod_of_nonneg (by omega), Int.natCast_emod]
    have hlt : (k + n - j) % n < n := Nat.mod_lt _ (by omega)
    have hm0 : (0 : Int) ≤ (((k + n - j) % n : Nat) : Int) := by omega
    have hm1 : (((k + n - j) % n : Nat) : Int) < (n : Int) := by omega
    have hn0 : (!((n : Int) == 0)) = true := by simp; omega
    rw [loopN]
    simp only [stepIn, hi, hi0, decide_true, cond_true, Bool.and_self, chk, Int.toNat_natCast, hw, hw1, hw2, hm, hm0, hm1, hn0]
    rw [in_loop R p out n x y k kk hn hk q (j + 1) _ (by omega), inn]
theorem go_in (R : Type) (n : Nat) (vs : List AV) (kk : Nat → List AV → Option R) (r : R) (h : leIn.go R n vs kk = some r) : ∃ m, loopN (stepIn R) m vs kk = some r := by
  simp only [leIn] at h
  split at h
  · rename_i p out n x m y len k
    obtain ⟨hg, hk⟩ := chk_some h
    clear h
    unfold goB at hg
    simp only [Bool.and_eq_true, decide_eq_true_eq] at hg
    obtain ⟨⟨⟨⟨⟨⟨_, _⟩, g3⟩, g4⟩, g5⟩, g6⟩, g7⟩ := hg
    have g3 := nat_beq g3
    subst g3 g5
    obtain ⟨c, rfl⟩ : ∃ c : Nat, k = c := ⟨k.toNat, (Int.toNat_of_nonneg g6).symm⟩
    have := in_loop R p out n x y c kk (Nat.le_of_ble_eq_true g4) (by omega) n 0 0 (by omega)
    refine ⟨n + 1, this.trans ?_⟩
    unfold innW at hk
    rw [wall_eq, Int.toNat_natCast] at hk
    exact hk
  · cases h

/-! ### Whole: all numbers -/
def outF (x y : List Int) (n : Nat) : Nat → Nat → List Int → List Int
  | 0, _, out => out
  | q + 1, k, out => outF x y n q (k + 1) (out ++ [inn x y n k n 0 0])
def outW (x y : List Int) (n : Nat) : List Int := wall (outF x y n n 0 [])
def stepOut (R : Type) (vs : List AV) (k1 : List AV → Option R) (k2 : Nat → List AV → Option R) : Option R :=
  match vs with
  | [.ints p .i64 out, .sl (.ints n .i64 x), .sl (.ints m .i64 y), .int .i64 len, .int .i64 k] =>
    bif decide (k < len) then chk (goB n m x y len && decide (0 ≤ k) && decide (k < len)) (chk (Nat.ble ((p + 1) * 8) 70368744177664)
      (k1 [.ints (p + 1) .i64 (out ++ [innW x y n k]), .sl (.ints n .i64 x), .sl (.ints m .i64 y), .int .i64 len, .int .i64 (w64 (k + 1))]))
    else k2 0 [.ints p .i64 out]
  | _ => none
def leOut : LEnt :=
  { inn := { fuel := none, keep := [0, 1, 6, 10], refs := [(9, 9, 2, .ints 0 .i64 [])] }
    out := { fuel := none, keep := [], refs := [(9, 9, 2, .ints 0 .i64 [])] }
    ret := { fuel := none, keep := [], refs := [] }
    go := fun _ _ vs kk => match vs with
      | [.ints 0 .i64 [], .sl (.ints n .i64 x), .sl (.ints m .i64 y), .int .i64 len, .int .i64 0] => chk (goB n m x y len) (kk 0 [.ints n .i64 (outW x y n)])
      | _ => none }
theorem step_out (R : Type) (p : Nat) (out : List Int) (n m : Nat) (x y : List Int) (len k : Int) (k1 : List AV → Option R) (k2 : Nat → List AV → Option R) :
    runA (env Tryd.f9.ntmps [] [(4, leIn)]) (loopOf 2 (bodyC Tryd.f9)) 2 (stateOf leOut.inn [.ints p .i64 out, .sl (.ints n .i64 x), .sl (.ints m .i64 y), .int .i64 len, .int .i64 k]) (bodyK leOut 2 k1 k2) =
    stepOut R [.ints p .i64 out, .sl (.ints n .i64 x), .sl (.ints m .i64 y), .int .i64 len, .int .i64 k] k1 k2 := by kernel_rfl
theorem out_loop (R : Type) (n : Nat) (x y : List Int) (kk : Nat → List AV → Option R) (hx : x.length = n) (hy : y.length = n) (hn : n ≤ 4096) : ∀ (q k : Nat) (out : List Int), k + q = n → 
    loopN (stepOut R) (q + 1) [.ints k .i64 out, .sl (.ints n .i64 x), .sl (.ints n .i64 y), .int .i64 n, .int .i64 k] kk = kk 0 [.ints n .i64 (outF x y n q k out)]
  | 0, k, out, h => by
    have hi : ¬ ((k : Int) < (n : Int)) := by omega
    have hk : k = n := by omega
    subst hk
    simp only [loopN, stepOut, hi, decide_false, cond_false, outF]
  | q + 1, k, out, h => by
    have hi : ((k : Int) < (n : Int)) := by omega
    have hi0 : (0 : Int) ≤ (k : Int) := by omega
    have hw : w64 ((k : Int) + 1) = ((k + 1 : Nat) : Int) := by unfold w64; rw [IntKind.wrap_i64]; omega
    have hg : goB n n x y n = true := by
      unfold goB
      rw [hx, hy, Nat.beq_refl, Nat.ble_eq_true_of_le hn, decide_eq_true rfl]
      rfl
    have hb : Nat.ble ((k + 1) * 8) 70368744177664 = true := Nat.ble_eq_true_of_le (by omega)
    have hI : innW x y n (k : Int) = inn x y n k n 0 0 := by unfold innW; rw [wall_eq, Int.toNat_natCast]
    rw [loopN]
    simp only [stepOut, hi, hi0, decide_true, cond_true, Bool.and_self, chk, hw, hg, hb, hI]
    rw [out_loop R n x y kk hx hy hn q (k + 1) _ (by omega), outF]
theorem go_out (R : Type) (n : Nat) (vs : List AV) (kk : Nat → List AV → Option R) (r : R) (h : leOut.go R n vs kk = some r) : ∃ m, loopN (stepOut R) m vs kk = some r := by
  simp only [leOut] at h
  split at h
  · rename_i n x m y len
    obtain ⟨hg, hk⟩ := chk_some h
    clear h
    unfold goB at hg
    simp only [Bool.and_eq_true, decide_eq_true_eq] at hg
    obtain ⟨⟨⟨⟨g1, g2⟩, g3⟩, g4⟩, g5⟩ := hg
    have g1 := nat_beq g1
    have g2 := nat_beq g2
    have g3 := nat_beq g3
    subst g3 g5
    have := out_loop R n x y kk g1.symm g2.symm (Nat.le_of_ble_eq_true g4) n 0 [] (by omega)
    refine ⟨n + 1, this.trans ?_⟩
    unfold outW at hk
    rw [wall_eq] at hk
    exact hk
  · cases h

def sp_rWhole : List AV → Option Br
  | [.sl (.ints n .i64 x), .sl (.ints m .i64 y)] => some (.chk (Nat.beq n x.length && Nat.beq m y.length)
      (.br (rchk n m 4096 != 0) (.leaf (.tup [.nils, .int .i64 (rchk n m 4096)])) (.br (bigB x y n 0) (.leaf (.tup [.nils, .int .i64 2])) (.leaf (.tup [.osl 2 (.ints n .i64 (outW x y n)), .int .i64 0])))))
  | _ => none
theorem run_rWhole (n m : Nat) (x y : List Int) : callA (env Tryd.f9.ntmps [(30, entS false sp_rcheck)] [(0, leBoth), (2, leOut)]) (bodyC Tryd.f9) Tryd.f9.results.toList (slots 0 [.sl (.ints n .i64 x), .sl (.ints m .i64 y)]) some =
    bif rchk n m 4096 != 0 then some (.tup [.nils, .int .i64 (rchk n m 4096)]) else
      chk (goB n m x y n) (bif bigB x y n 0 then some (.tup [.nils, .int .i64 2]) else chk (goB n m x y n) (some (.tup [.osl 2 (.ints n .i64 (outW x y n)), .int .i64 0]))) := by kernel_rfl
theorem ok_rWhole : EntOk Tryd.prog 9 (entB false sp_rWhole) := by
  refine contractB (orc := [(30, entS false sp_rcheck)]) (lo := [(0, leBoth), (2, leOut)]) Tryd.func9 (orc_cons ok_rcheck orc_nil) (by kernel_rfl) (by kernel_rfl) (by kernel_rfl)
    (loops_two (id := 0) (id' := 2) (y := .loop (loopOf 0 (bodyC Tryd.f9))) (y' := .loop (loopOf 2 (bodyC Tryd.f9))) (by kernel_rfl)
      (loopS (le := leBoth) (orc := []) (lo' := []) orc_nil (by kernel_rfl) rfl (loops_none (by kernel_rfl)) stepBoth (fun R vs k1 k2 r h => ?_) go_both)
      (loopS (le := leOut) (orc := []) (lo' := [(4, leIn)]) orc_nil (by kernel_rfl) rfl
        (loops_one (id := 4) (y := .loop (loopOf 4 (bodyC Tryd.f9))) (by kernel_rfl)
          (loopS (le := leIn) (orc := []) (lo' := []) orc_nil (by kernel_rfl) rfl (loops_none (by kernel_rfl)) stepIn (fun R vs k1 k2 r h => ?_) go_in))
        stepOut (fun R vs k1 k2 r h => ?_) go_out)) fun args t h => ?_
  · have h0 := h
    unfold stepBoth at h
    split at h
    · exact (step_both R _ _ _ _ _ _ k1 k2).trans h0
    · cases h
  · have h0 := h
    unfold stepIn at h
    split at h
    · exact (step_in R _ _ _ _ _ _ _ _ _ _ k1 k2).trans h0
    · cases h
  · have h0 := h
    unfold stepOut at h
    split at h
    · exact (step_out R _ _ _ _ _ _ _ _ k1 k2).trans h0
    · cases h
  · unfold sp_rWhole at h
    split at h
    · rename_i n x m y
      simp only [Option.some.injEq] at h
      subst h
      refine ⟨by kernel_rfl, .inr rfl, fun r hr => (run_rWhole n m x y).trans ?_⟩
      simp only [Br.run] at hr
      obtain ⟨hg, hr⟩ := chk_some hr
      simp only [Bool.and_eq_true] at hg
      obtain ⟨g1, g2⟩ := hg
      have g1 := nat_beq g1
      have g2 := nat_beq g2
      rw [← hr]
      by_cases h0 : rchk n m 4096 = 0
      · have e0 : (rchk n m 4096 != 0) = false := by rw [h0]; rfl
        have hb : goB n m x y n = true := by
          unfold rchk at h0
          rw [wall_eq] at h0
          have h1 : ¬ ((n : Int) = 0 ∨ (n : Int) > 4096) := fun h => by rw [if_pos h] at h0; cases h0
          rw [if_neg h1] at h0
          have h2 : ¬ (n : Int) ≠ m := fun h => by rw [if_pos h] at h0; cases h0
          have h3 : n = m := by omega
          unfold goB
          rw [← g1, ← g2, h3, Nat.beq_refl, Nat.ble_eq_true_of_le (show m ≤ 4096 by omega), decide_eq_true rfl]
          rfl
        rw [e0, hb]
        rfl
      · have e0 : (rchk n m 4096 != 0) = true := bne_iff_ne.2 h0
        rw [e0]
        rfl
    · cases h
end
end Go.Proofs.YtdkebceiljdgjaaDoor
