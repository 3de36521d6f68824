/- The texts Mix1, Mix2, joined. Own work. -/
import Derived.Test.YtbakldcbaikgpaaFlyA

/- mix: product. Own work. -/
namespace Go.Proofs.Ytbakldcbaikgpaa
set_option maxRecDepth 100000
noncomputable section

/-! ### product -/
/-- The product of radices; none: they can't be. -/
def prodL : List Int → Int → Option Int
  | [], n => some n
  | r :: R, n => if canN r = true ∧ n ≤ 67108864 / r then prodL R (n * r) else none
def prB (R : List Int) : Bool := stk (prodL R 1).isSome
def prV (R : List Int) : Int := stk ((prodL R 1).getD 0)
def fitR (m : Nat) (R : List Int) : Bool := stk (decide (R.length = m ∧ m < 9223372036854775808))
def stepP (R0 : Type) (vs : List AV) (k1 : List AV → Option R0) (k2 : Nat → List AV → Option R0) : Option R0 :=
  match vs with
  | [.sl (.ints m .i64 R), .int .i64 n, .int .i64 M, .int .i64 i] =>
    bif decide (i < M) then chk (inX i m) (bif !(canK (R.getD i.toNat 0)) then k2 1 [.int .i64 0, .bool false] else chk (!((R.getD i.toNat 0) == 0)) (bif decide (n > w64 ((67108864 : Int).tdiv (R.getD i.toNat 0))) then k2 1 [.int .i64 0, .bool false] else
      k1 [.sl (.ints m .i64 R), .int .i64 (w64 (n * (R.getD i.toNat 0))), .int .i64 M, .int .i64 (w64 (i + 1))]))
    else k2 0 [.int .i64 n]
  | _ => none
def leP : LEnt :=
  { inn := { fuel := none, keep := [7, 4, 8, 9], refs := [] }
    out := { fuel := none, keep := [4], refs := [] }
    ret := { fuel := none, keep := [2, 3], refs := [] }
    go := fun _ _ vs kk => match vs with
      | [.sl (.ints m .i64 R), .int .i64 1, .int .i64 M, .int .i64 0] => chk (fitR m R && stk (decide (M = m))) (bif prB R then kk 0 [.int .i64 (prV R)] else kk 1 [.int .i64 0, .bool false])
      | _ => none }
def orcPr : List (FuncId × Ent) := [(17, entS false sp_can)]
theorem step_P (R0 : Type) (m : Nat) (R : List Int) (n M i : Int) (k1 : List AV → Option R0) (k2 : Nat → List AV → Option R0) :
    runA (env Try.f23.ntmps orcPr []) (loopOf 0 (bodyC Try.f23)) 0 (stateOf leP.inn [.sl (.ints m .i64 R), .int .i64 n, .int .i64 M, .int .i64 i]) (bodyK leP 0 k1 k2) =
    stepP R0 [.sl (.ints m .i64 R), .int .i64 n, .int .i64 M, .int .i64 i] k1 k2 := by kernel_rfl
theorem can_le {r : Int} (h : canN r = true) : 2 ≤ r ∧ r ≤ 13 := by
  unfold canN at h
  rw [decide_eq_true_eq] at h
  omega
theorem canK_eq (r : Int) : canK r = canN r := by unfold canK; rw [stk_eq]
theorem P_step (R0 : Type) (m : Nat) (R : List Int) (n : Int) (i : Nat) (k1 : List AV → Option R0) (k2 : Nat → List AV → Option R0) (hm2 : m < 9223372036854775808) (hi : i < m) (h1 : 1 ≤ n) (h2 : n ≤ 67108864) :
    stepP R0 [.sl (.ints m .i64 R), .int .i64 n, .int .i64 m, .int .i64 i] k1 k2 = if canN (R.getD i 0) = true ∧ n ≤ 67108864 / R.getD i 0 then k1 [.sl (.ints m .i64 R), .int .i64 (n * R.getD i 0), .int .i64 m, .int .i64 ((i + 1 : Nat) : Int)] else k2 1 [.int .i64 0, .bool false] := by
  have c1 : inX (i : Int) m = true := inX_at hi
  have e1 : w64 ((i : Int) + 1) = ((i + 1 : Nat) : Int) := by unfold w64; rw [IntKind.wrap_i64]; omega
  unfold stepP
  obtain ⟨r, hr⟩ : ∃ r, R.getD i 0 = r := ⟨_, rfl⟩
  simp only [decide_eq_true (show (i : Int) < (m : Int) by omega), cond_true, Int.toNat_natCast, c1, e1, canK_eq, chk, hr]
  cases hc : canN r with
  | false => rw [if_neg (by simp)]; rfl
  | true =>
    obtain ⟨r1, r2⟩ := can_le hc
    have q0 : 0 ≤ (67108864 : Int) / r := Int.ediv_nonneg (by omega) (by omega)
    have q1 : (67108864 : Int) / r ≤ 67108864 := Int.ediv_le_self _ (by omega)
    have q2 : (67108864 : Int) / r * r ≤ 67108864 := Int.ediv_mul_le _ (by omega)
    rw [Int.tdiv_eq_ediv_of_nonneg (show (0 : Int) ≤ 67108864 by omega), w64_mid (x := (67108864 : Int) / r) (by omega) (by omega), beq_eq_false_iff_ne.2 (show r ≠ 0 by omega)]
    by_cases hn : n ≤ 67108864 / r
    · have q3 : n * r ≤ (67108864 : Int) / r * r := Int.mul_le_mul_of_nonneg_right hn (by omega)
      have q4 : 0 ≤ n * r := Int.mul_nonneg (by omega) (by omega)
      rw [if_pos ⟨rfl, hn⟩, decide_eq_false (show ¬ n > 67108864 / r by omega), w64_mid (x := n * r) (by omega) (by omega)]
      rfl
    · rw [if_neg (fun h => hn h.2), decide_eq_true (show n > 67108864 / r by omega)]
      rfl
theorem P_end (R0 : Type) (m : Nat) (R : List Int) (n : Int) (i : Int) (k1 : List AV → Option R0) (k2 : Nat → List AV → Option R0) (hi : ¬ i < (m : Int)) :
    stepP R0 [.sl (.ints m .i64 R), .int .i64 n, .int .i64 m, .int .i64 i] k1 k2 = k2 0 [.int .i64 n] := by
  unfold stepP
  simp only [hi, decide_false, cond_false]
theorem P_loop (R0 : Type) (m : Nat) (R : List Int) (kk : Nat → List AV → Option R0) (hm : R.length = m) (hm2 : m < 9223372036854775808) : ∀ (q i : Nat) (n : Int), i + q = m → 1 ≤ n → n ≤ 67108864 →
    loopN (stepP R0) (q + 1) [.sl (.ints m .i64 R), .int .i64 n, .int .i64 m, .int .i64 i] kk = (match prodL (R.drop i) n with | some p => kk 0 [.int .i64 p] | none => kk 1 [.int .i64 0, .bool false])
  | 0, i, n, hi, h1, h2 => by
    have e : R.drop i = [] := List.drop_of_length_le (by omega)
    rw [loopN, P_end R0 m R n i _ kk (by omega), e]
    rfl
  | q + 1, i, n, hi, h1, h2 => by
    have hlt : i < R.length := by omega
    have hd : R.drop i = R.getD i 0 :: R.drop (i + 1) := by
      rw [List.drop_eq_getElem_cons hlt, List.getD_eq_getElem?_getD, List.getElem?_eq_getElem hlt]; rfl
    rw [loopN, P_step R0 m R n i _ kk hm2 (by omega) h1 h2, hd]
    unfold prodL
    by_cases hc : canN (R.getD i 0) = true ∧ n ≤ 67108864 / R.getD i 0
    · rw [if_pos hc, if_pos hc]
      obtain ⟨r1, r2⟩ := can_le hc.1
      have q2 : (67108864 : Int) / R.getD i 0 * R.getD i 0 ≤ 67108864 := Int.ediv_mul_le _ (by omega)
      have q3 : n * R.getD i 0 ≤ (67108864 : Int) / R.getD i 0 * R.getD i 0 := Int.mul_le_mul_of_nonneg_right hc.2 (by omega)
      have q4 : 1 * 2 ≤ n * R.getD i 0 := Int.mul_le_mul h1 r1 (by omega) (by omega)
      exact P_loop R0 m R kk hm hm2 q (i + 1) _ (by omega) (by omega) (by omega)
    · rw [if_neg hc, if_neg hc]
theorem go_P (R0 : Type) (n : Nat) (vs : List AV) (kk : Nat → List AV → Option R0) (r : R0) (h : leP.go R0 n vs kk = some r) : ∃ m, loopN (stepP R0) m vs kk = some r := by
  simp only [leP] at h
  split at h
  · rename_i m R M
    obtain ⟨hg, hk⟩ := chk_some h
    clear h
    unfold fitR at hg
    rw [stk_eq, stk_eq] at hg
    simp only [Bool.and_eq_true, decide_eq_true_eq] at hg
    obtain ⟨⟨g1, g2⟩, rfl⟩ := hg
    have := P_loop R0 m R kk g1 g2 m 0 1 (by omega) (by omega) (by omega)
    rw [List.drop_zero] at this
    refine ⟨m + 1, this.trans ?_⟩
    unfold prB prV at hk
    rw [stk_eq, stk_eq] at hk
    cases hp : prodL R 1 with
    | none => rw [hp] at hk; exact hk
    | some p => rw [hp] at hk; exact hk
  · cases h
def sp_prod : List AV → Option Br
  | [.sl (.ints m .i64 R)] => some (.chk (fitR m R) (.br (prB R) (.leaf (.tup [.int .i64 (prV R), .bool true])) (.leaf (.tup [.int .i64 0, .bool false]))))
  | _ => none
theorem run_prod (m : Nat) (R : List Int) : callA (env Try.f23.ntmps orcPr [(0, leP)]) (bodyC Try.f23) Try.f23.results.toList (slots 0 [.sl (.ints m .i64 R)]) some =
    chk (fitR m R && stk (decide ((m : Int) = m))) (bif prB R then some (.tup [.int .i64 (prV R), .bool true]) else some (.tup [.int .i64 0, .bool false])) := by kernel_rfl
theorem ok_prod : EntOk Try.prog 23 (entB false sp_prod) := by
  refine contractB (orc := orcPr) (lo := [(0, leP)]) Try.func23 (orc_cons ok_can orc_nil) (by kernel_rfl) (by kernel_rfl) (by kernel_rfl)
    (loops_one (id := 0) (y := .loop (loopOf 0 (bodyC Try.f23))) (by kernel_rfl)
      (loopS (le := leP) (orc := orcPr) (lo' := []) (orc_cons ok_can orc_nil) (by kernel_rfl) rfl (loops_none (by kernel_rfl)) stepP (fun R vs k1 k2 r h => ?_) go_P)) fun args t h => ?_
  · have h0 := h
    unfold stepP at h
    split at h
    · exact (step_P R _ _ _ _ _ k1 k2).trans h0
    · cases h
  · unfold sp_prod at h
    split at h
    · rename_i m R
      simp only [Option.some.injEq] at h
      subst h
      refine ⟨by kernel_rfl, .inr rfl, fun z hz => (run_prod m R).trans ?_⟩
      rw [← hz, stk_eq, decide_eq_true rfl, Bool.and_true]
      rfl
    · cases h
end
end Go.Proofs.Ytbakldcbaikgpaa

/- mix: order. Own work. -/
namespace Go.Proofs.Ytbakldcbaikgpaa
set_option maxRecDepth 100000
noncomputable section

/-- Where a number goes. -/
def ordS : List Int → Int → Int → Int → Int
  | [], _, _, a => a
  | r :: R, rest, room, a => ordS R (rest / r) (room / r) (a + rest % r * (room / r))
/-- Radices whose product is so many. -/
def fits : List Int → Int → Prop
  | [], n => n = 1
  | r :: R, n => 2 ≤ r ∧ r ≤ 13 ∧ n % r = 0 ∧ fits R (n / r)
instance instDecidableFits : (R : List Int) → (n : Int) → Decidable (fits R n)
  | [], n => inferInstanceAs (Decidable (n = 1))
  | r :: R, n => @instDecidableAnd _ _ inferInstance (@instDecidableAnd _ _ inferInstance (@instDecidableAnd _ _ inferInstance (instDecidableFits R (n / r))))
def ordL (R : List Int) (n : Nat) : List Int := (List.range n).map fun i => ordS R (i : Nat) n 0
def ordK (R : List Int) (i n : Int) : Int := stk (ordS R i n 0)
def fitS (m : Nat) (R : List Int) (n M : Int) : Bool := stk (decide (R.length = m ∧ M = m ∧ m < 9223372036854775808 ∧ fits R n ∧ 1 ≤ n ∧ n ≤ 67108864))
def stepR (R0 : Type) (vs : List AV) (k1 : List AV → Option R0) (k2 : Nat → List AV → Option R0) : Option R0 :=
  match vs with
  | [.ints p .i64 O, .sl (.ints m .i64 R), .int .i64 n, .int .i64 i, .int .i64 rest, .int .i64 room, .int .i64 a, .int .i64 L, .int .i64 I, .sl (.ints m2 .i64 R2), .int .i64 M, .int .i64 j] =>
    let r := R2.getD j.toNat 0
    bif decide (j < M) then chk (inX j m2) (chk (!(r == 0)) (chk (!(r == 0)) (chk (!(r == 0)) (k1 [.ints p .i64 O, .sl (.ints m .i64 R), .int .i64 n, .int .i64 i, .int .i64 (w64 (rest.tdiv r)), .int .i64 (w64 (room.tdiv r)), .int .i64 (w64 (a + w64 (rest.tmod r * w64 (room.tdiv r)))), .int .i64 L, .int .i64 I, .sl (.ints m2 .i64 R2), .int .i64 M, .int .i64 (w64 (j + 1))]))))
    else k2 0 [.ints p .i64 O, .sl (.ints m .i64 R), .int .i64 n, .int .i64 i, .int .i64 a, .int .i64 L, .int .i64 I]
  | _ => none
def leR : LEnt :=
  { inn := { fuel := none, keep := [0, 1, 6, 7, 8, 9, 15, 16, 21, 22, 23], refs := [(5, 5, 3, .ints 0 .i64 [])] }
    out := { fuel := none, keep := [0, 1, 6, 9, 15, 16], refs := [(5, 5, 3, .ints 0 .i64 [])] }
    ret := { fuel := none, keep := [], refs := [] }
    go := fun _ _ vs kk => match vs with
      | [.ints p .i64 O, .sl (.ints m .i64 R), .int .i64 n, .int .i64 i, .int .i64 rest, .int .i64 room, .int .i64 0, .int .i64 L, .int .i64 I, .sl (.ints m2 .i64 R2), .int .i64 M, .int .i64 0] =>
        chk (fitS m2 R2 room M && stk (decide (0 ≤ rest ∧ rest < room))) (kk 0 [.ints p .i64 O, .sl (.ints m .i64 R), .int .i64 n, .int .i64 i, .int .i64 (ordK R2 rest room), .int .i64 L, .int .i64 I])
      | _ => none }
theorem step_R (R0 : Type) (p m : Nat) (O R : List Int) (n i rest room a L I : Int) (m2 : Nat) (R2 : List Int) (M j : Int) (k1 : List AV → Option R0) (k2 : Nat → List AV → Option R0) :
    runA (env Try.f24.ntmps [] []) (loopOf 2 (bodyC Try.f24)) 2 (stateOf leR.inn [.ints p .i64 O, .sl (.ints m .i64 R), .int .i64 n, .int .i64 i, .int .i64 rest, .int .i64 room, .int .i64 a, .int .i64 L, .int .i64 I, .sl (.ints m2 .i64 R2), .int .i64 M, .int .i64 j]) (bodyK leR 2 k1 k2) =
    stepR R0 [.ints p .i64 O, .sl (.ints m .i64 R), .int .i64 n, .int .i64 i, .int .i64 rest, .int .i64 room, .int .i64 a, .int .i64 L, .int .i64 I, .sl (.ints m2 .i64 R2), .int .i64 M, .int .i64 j] k1 k2 := by kernel_rfl
theorem ord_next {r rest room a B : Int} (h2 : 2 ≤ r) (hr : room % r = 0) (h0 : 0 ≤ rest) (h1 : rest < room) (ha : 0 ≤ a) (hB : a + room ≤ B) :
    0 ≤ rest / r ∧ rest / r < room / r ∧ 0 ≤ rest % r * (room / r) ∧ 0 ≤ a + rest % r * (room / r) ∧ a + rest % r * (room / r) + room / r ≤ B ∧ room / r ≤ room := by
  have e : room / r * r = room := Int.ediv_mul_cancel (Int.dvd_of_emod_eq_zero hr)
  have q0 : 0 ≤ rest / r := Int.ediv_nonneg h0 (by omega)
  have q1 : rest / r < room / r := by
    refine Int.lt_of_mul_lt_mul_right (a := r) ?_ (by omega)
    rw [e]
    exact Int.lt_of_le_of_lt (Int.ediv_mul_le rest (by omega)) h1
  have m0 := Int.emod_nonneg rest (show r ≠ 0 by omega)
  have m1 := Int.emod_lt_of_pos rest (show 0 < r by omega)
  have p0 : 0 ≤ rest % r * (room / r) := Int.mul_nonneg m0 (by omega)
  have p1 : rest % r * (room / r) ≤ (r - 1) * (room / r) := Int.mul_le_mul_of_nonneg_right (by omega) (by omega)
  have p2 : (r - 1) * (room / r) + room / r = room := by rw [Int.sub_mul, Int.one_mul, Int.mul_comm r, e]; omega
  exact ⟨q0, q1, p0, by omega, by omega, Int.ediv_le_self _ (by omega)⟩
theorem R_step (R0 : Type) (p m : Nat) (O R : List Int) (n i rest room a L I : Int) (m2 : Nat) (R2 : List Int) (j : Nat) (k1 : List AV → Option R0) (k2 : Nat → List AV → Option R0) (hm : m2 < 9223372036854775808) (hj : j < m2)
    (h2 : 2 ≤ R2.getD j 0) (hr : room % R2.getD j 0 = 0) (h0 : 0 ≤ rest) (h1 : rest < room) (ha : 0 ≤ a) (hB : a + room ≤ 67108864) :
    stepR R0 [.ints p .i64 O, .sl (.ints m .i64 R), .int .i64 n, .int .i64 i, .int .i64 rest, .int .i64 room, .int .i64 a, .int .i64 L, .int .i64 I, .sl (.ints m2 .i64 R2), .int .i64 m2, .int .i64 j] k1 k2 =
    k1 [.ints p .i64 O, .sl (.ints m .i64 R), .int .i64 n, .int .i64 i, .int .i64 (rest / R2.getD j 0), .int .i64 (room / R2.getD j 0), .int .i64 (a + rest % R2.getD j 0 * (room / R2.getD j 0)), .int .i64 L, .int .i64 I, .sl (.ints m2 .i64 R2), .int .i64 m2, .int .i64 ((j + 1 : Nat) : Int)] := by
  have c1 : inX (j : Int) m2 = true := inX_at hj
  have e1 : w64 ((j : Int) + 1) = ((j + 1 : Nat) : Int) := by unfold w64; rw [IntKind.wrap_i64]; omega
  obtain ⟨r, er⟩ : ∃ r, R2.getD j 0 = r := ⟨_, rfl⟩
  rw [er] at h2 hr
  obtain ⟨q0, q1, q2, q3, q4, q5⟩ := ord_next h2 hr h0 h1 ha hB
  unfold stepR
  simp only [decide_eq_true (show (j : Int) < (m2 : Int) by omega), cond_true, Int.toNat_natCast, c1, e1, er, chk, beq_eq_false_iff_ne.2 (show r ≠ 0 by omega), Bool.not_false,
    Int.tdiv_eq_ediv_of_nonneg h0, Int.tdiv_eq_ediv_of_nonneg (show 0 ≤ room by omega), Int.tmod_eq_emod_of_nonneg h0,
    w64_mid (x := rest / r) (by omega) (by omega), w64_mid (x := room / r) (by omega) (by omega), w64_mid (x := rest % r * (room / r)) (by omega) (by omega), w64_mid (x := a + rest % r * (room / r)) (by omega) (by omega)]
theorem R_end (R0 : Type) (p m : Nat) (O R : List Int) (n i rest room a L I : Int) (m2 : Nat) (R2 : List Int) (j : Int) (k1 : List AV → Option R0) (k2 : Nat → List AV → Option R0) (hj : ¬ j < (m2 : Int)) :
    stepR R0 [.ints p .i64 O, .sl (.ints m .i64 R), .int .i64 n, .int .i64 i, .int .i64 rest, .int .i64 room, .int .i64 a, .int .i64 L, .int .i64 I, .sl (.ints m2 .i64 R2), .int .i64 m2, .int .i64 j] k1 k2 =
    k2 0 [.ints p .i64 O, .sl (.ints m .i64 R), .int .i64 n, .int .i64 i, .int .i64 a, .int .i64 L, .int .i64 I] := by
  unfold stepR
  simp only [hj, decide_false, cond_false]
theorem R_loop (R0 : Type) (p m : Nat) (O R : List Int) (n i L I : Int) (m2 : Nat) (R2 : List Int) (kk : Nat → List AV → Option R0) (hl : R2.length = m2) (hm : m2 < 9223372036854775808) : ∀ (q j : Nat) (rest room a : Int), j + q = m2 →
    fits (R2.drop j) room → 0 ≤ rest → rest < room → 0 ≤ a → a + room ≤ 67108864 →
    loopN (stepR R0) (q + 1) [.ints p .i64 O, .sl (.ints m .i64 R), .int .i64 n, .int .i64 i, .int .i64 rest, .int .i64 room, .int .i64 a, .int .i64 L, .int .i64 I, .sl (.ints m2 .i64 R2), .int .i64 m2, .int .i64 j] kk =
    kk 0 [.ints p .i64 O, .sl (.ints m .i64 R), .int .i64 n, .int .i64 i, .int .i64 (ordS (R2.drop j) rest room a), .int .i64 L, .int .i64 I]
  | 0, j, rest, room, a, hj, hf, h0, h1, ha, hB => by
    have e : R2.drop j = [] := List.drop_of_length_le (by omega)
    rw [loopN, R_end R0 p m O R n i rest room a L I m2 R2 j _ kk (by omega), e]
    rfl
  | q + 1, j, rest, room, a, hj, hf, h0, h1, ha, hB => by
    have hlt : j < R2.length := by omega
    have hd : R2.drop j = R2.getD j 0 :: R2.drop (j + 1) := by
      rw [List.drop_eq_getElem_cons hlt, List.getD_eq_getElem?_getD, List.getElem?_eq_getElem hlt]; rfl
    rw [hd] at hf
    obtain ⟨f1, f2, f3, f4⟩ := hf
    obtain ⟨q0, q1, q2, q3, q4, q5⟩ := ord_next f1 f3 h0 h1 ha hB
    rw [loopN, R_step R0 p m O R n i rest room a L I m2 R2 j _ kk hm (by omega) f1 f3 h0 h1 ha hB, hd]
    exact R_loop R0 p m O R n i L I m2 R2 kk hl hm q (j + 1) _ _ _ (by omega) f4 q0 q1 q3 q4
theorem go_R (R0 : Type) (n : Nat) (vs : List AV) (kk : Nat → List AV → Option R0) (r : R0) (h : leR.go R0 n vs kk = some r) : ∃ m, loopN (stepR R0) m vs kk = some r := by
  simp only [leR] at h
  split at h
  · rename_i p O m R n i rest room L I m2 R2 M
    obtain ⟨hg, hk⟩ := chk_some h
    clear h
    unfold fitS at hg
    rw [stk_eq, stk_eq] at hg
    simp only [Bool.and_eq_true, decide_eq_true_eq] at hg
    obtain ⟨⟨g1, rfl, g2, g3, g4, g5⟩, g6, g7⟩ := hg
    have := R_loop R0 p m O R n i L I m2 R2 kk g1 g2 m2 0 rest room 0 (by omega) (by rw [List.drop_zero]; exact g3) g6 g7 (by omega) (by omega)
    rw [List.drop_zero] at this
    refine ⟨m2 + 1, this.trans ?_⟩
    unfold ordK at hk
    rw [stk_eq] at hk
    exact hk
  · cases h

/-! ### all numbers -/
def ordO (R : List Int) (n : Int) : Nat → Nat → List Int → List Int
  | 0, _, O => O
  | q + 1, i, O => ordO R n q (i + 1) (O.set i (ordS R (i : Nat) n 0))
def ordOk (R : List Int) (n : Int) (p : Nat) (O : List Int) : List Int := stk (ordO R n p 0 O)
def fitT (m : Nat) (R : List Int) (n L : Int) (p : Nat) : Bool := fitS m R n m && stk (decide (L = p ∧ n = p))
def stepT (R0 : Type) (vs : List AV) (k1 : List AV → Option R0) (k2 : Nat → List AV → Option R0) : Option R0 :=
  match vs with
  | [.ints p .i64 O, .sl (.ints m .i64 R), .int .i64 n, .int .i64 L, .int .i64 i] =>
    bif decide (i < L) then chk (fitS m R n m && stk (decide (0 ≤ i ∧ i < n))) (chk (inX i p) (k1 [.ints p .i64 (O.set i.toNat (ordK R i n)), .sl (.ints m .i64 R), .int .i64 n, .int .i64 L, .int .i64 (w64 (i + 1))]))
    else k2 0 [.ints p .i64 O]
  | _ => none
def leT : LEnt :=
  { inn := { fuel := none, keep := [0, 1, 15, 16], refs := [(5, 5, 3, .ints 0 .i64 [])] }
    out := { fuel := none, keep := [], refs := [(5, 5, 3, .ints 0 .i64 [])] }
    ret := { fuel := none, keep := [], refs := [] }
    go := fun _ _ vs kk => match vs with
      | [.ints p .i64 O, .sl (.ints m .i64 R), .int .i64 n, .int .i64 L, .int .i64 0] => chk (fitT m R n L p) (kk 0 [.ints p .i64 (ordOk R n p O)])
      | _ => none }
theorem step_T (R0 : Type) (p m : Nat) (O R : List Int) (n L i : Int) (k1 : List AV → Option R0) (k2 : Nat → List AV → Option R0) :
    runA (env Try.f24.ntmps [] [(2, leR)]) (loopOf 0 (bodyC Try.f24)) 0 (stateOf leT.inn [.ints p .i64 O, .sl (.ints m .i64 R), .int .i64 n, .int .i64 L, .int .i64 i]) (bodyK leT 0 k1 k2) =
    stepT R0 [.ints p .i64 O, .sl (.ints m .i64 R), .int .i64 n, .int .i64 L, .int .i64 i] k1 k2 := by kernel_rfl
theorem T_loop (R0 : Type) (p m : Nat) (R : List Int) (kk : Nat → List AV → Option R0) (hf : fitS m R (p : Int) m = true) (hp : p ≤ 67108864) : ∀ (q i : Nat) (O : List Int), i + q = p →
    loopN (stepT R0) (q + 1) [.ints p .i64 O, .sl (.ints m .i64 R), .int .i64 p, .int .i64 p, .int .i64 i] kk = kk 0 [.ints p .i64 (ordO R p q i O)]
  | 0, i, O, hi => by
    rw [loopN]
    unfold stepT
    simp only [show ¬ ((i : Int) < (p : Int)) by omega, decide_false, cond_false]
    rfl
  | q + 1, i, O, hi => by
    have c1 : inX (i : Int) p = true := inX_at (by omega)
    have e1 : w64 ((i : Int) + 1) = ((i + 1 : Nat) : Int) := by rw [w64_mid (by omega) (by omega)]; omega
    have e2 : stk (decide ((0 : Int) ≤ i ∧ (i : Int) < p)) = true := by rw [stk_eq, decide_eq_true (by omega)]
    have e3 : ordK R (i : Int) p = ordS R (i : Nat) p 0 := by unfold ordK; rw [stk_eq]
    have hs : ∀ k1 k2, stepT R0 [.ints p .i64 O, .sl (.ints m .i64 R), .int .i64 p, .int .i64 p, .int .i64 i] k1 k2 = k1 [.ints p .i64 (O.set i (ordS R (i : Nat) p 0)), .sl (.ints m .i64 R), .int .i64 p, .int .i64 p, .int .i64 ((i + 1 : Nat) : Int)] := by
      intro k1 k2
      unfold stepT
      simp only [decide_eq_true (show (i : Int) < (p : Int) by omega), cond_true, Int.toNat_natCast, c1, e1, e2, e3, hf, Bool.and_self, chk]
    rw [loopN, hs]
    exact T_loop R0 p m R kk hf hp q (i + 1) _ (by omega)
theorem fitS_parts {m : Nat} {R : List Int} {n M : Int} (h : fitS m R n M = true) : R.length = m ∧ M = m ∧ m < 9223372036854775808 ∧ fits R n ∧ 1 ≤ n ∧ n ≤ 67108864 := by
  unfold fitS at h
  rwa [stk_eq, decide_eq_true_eq] at h
theorem go_T (R0 : Type) (n : Nat) (vs : List AV) (kk : Nat → List AV → Option R0) (r : R0) (h : leT.go R0 n vs kk = some r) : ∃ m, loopN (stepT R0) m vs kk = some r := by
  simp only [leT] at h
  split at h
  · rename_i p O m R n L
    obtain ⟨hg, hk⟩ := chk_some h
    clear h
    unfold fitT at hg
    rw [stk_eq] at hg
    simp only [Bool.and_eq_true, decide_eq_true_eq] at hg
    obtain ⟨g1, rfl, rfl⟩ := hg
    have g2 := fitS_parts g1
    refine ⟨p + 1, (T_loop R0 p m R kk g1 (by omega) p 0 O (by omega)).trans ?_⟩
    unfold ordOk at hk
    rw [stk_eq] at hk
    exact hk
  · cases h
def sp_order : List AV → Option (Bool × AV)
  | [.sl (.ints m .i64 R), .int .i64 n] => some (fitS m R n m, .osl 3 (.ints n.toNat .i64 (ordOk R n n.toNat (List.replicate n.toNat 0))))
  | _ => none
def mkI (z : Int) : Bool := (z == z) && decide (0 ≤ z) && decide ((8 : Int) * z ≤ 140737488355328) && decide (z < 9223372036854775808)
theorem run_order (m : Nat) (R : List Int) (n : Int) : callA (env Try.f24.ntmps [] [(0, leT), (2, leR)]) (bodyC Try.f24) Try.f24.results.toList (slots 0 [.sl (.ints m .i64 R), .int .i64 n]) some =
    chk (mkI n) (chk (fitT m R n (n.toNat : Int) n.toNat) (some (.osl 3 (.ints n.toNat .i64 (ordOk R n n.toNat (List.replicate n.toNat 0)))))) := by kernel_rfl
theorem ok_order : EntOk Try.prog 24 (entS false sp_order) := by
  refine contractS (orc := []) (lo := [(0, leT), (2, leR)]) Try.func24 orc_nil (by kernel_rfl) (by kernel_rfl) (by kernel_rfl)
    (loops_one (id := 0) (y := .loop (loopOf 0 (bodyC Try.f24))) (by kernel_rfl)
      (loopS (le := leT) (orc := []) (lo' := [(2, leR)]) orc_nil (by kernel_rfl) rfl
        (loops_one (id := 2) (y := .loop (loopOf 2 (bodyC Try.f24))) (by kernel_rfl)
          (loopS (le := leR) (orc := []) (lo' := []) orc_nil (by kernel_rfl) rfl (loops_none (by kernel_rfl)) stepR (fun R vs k1 k2 r h => ?_) go_R))
        stepT (fun R vs k1 k2 r h => ?_) go_T)) fun args r h => ?_
  · have h0 := h
    unfold stepR at h
    split at h
    · exact (step_R R _ _ _ _ _ _ _ _ _ _ _ _ _ _ _ k1 k2).trans h0
    · cases h
  · have h0 := h
    unfold stepT at h
    split at h
    · exact (step_T R _ _ _ _ _ _ _ k1 k2).trans h0
    · cases h
  · unfold sp_order at h
    split at h
    · rename_i m R n
      simp only [Option.some.injEq, Prod.mk.injEq] at h
      obtain ⟨hg, rfl⟩ := h
      have g := fitS_parts hg
      have hz : ((n.toNat : Nat) : Int) = n := Int.toNat_of_nonneg (by omega)
      have h1 : mkI n = true := by
        unfold mkI
        rw [beq_self_eq_true, decide_eq_true (show 0 ≤ n by omega), decide_eq_true (show 8 * n ≤ 140737488355328 by omega), decide_eq_true (show n < 9223372036854775808 by omega)]
        rfl
      have h2 : fitT m R n (n.toNat : Int) n.toNat = true := by
        unfold fitT
        rw [stk_eq, hg, decide_eq_true ⟨rfl, hz.symm⟩]
        rfl
      refine ⟨by kernel_rfl, .inr rfl, (run_order m R n).trans ?_⟩
      rw [h1, h2]
      rfl
    · cases h
end
end Go.Proofs.Ytbakldcbaikgpaa
