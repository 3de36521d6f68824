/- CycWholes. Own work. -/
import Derived.Test.YtdkebceiljdgjaaDoorCyc7
import Derived.Test.YtdkebceiljdgjaaDoorErr2
namespace Go.Proofs.YtdkebceiljdgjaaDoor
set_option maxRecDepth 100000
noncomputable section

/-! ### Plain laws -/
theorem anyBig_false (x : List Int) : anyBig x = false ↔ ∀ j, j < x.length → big (x.getD j 0) = false := by
  rw [anyBig_first]
  constructor
  · intro h j hj
    have := firstBig_mem x 0 (by simpa using h) x[j] (List.getElem_mem hj)
    rw [getD_lt _ _ hj]
    exact this
  · intro h
    rw [firstBig_none]
    · rfl
    · intro y hy
      obtain ⟨i, hi, rfl⟩ := List.getElem_of_mem hy
      have := h i hi
      rw [getD_lt _ _ hi] at this
      exact this
theorem bigB_false (x y : List Int) : ∀ (q i : Nat), bigB x y q i = false ↔ ∀ j, i ≤ j → j < i + q → big (x.getD j 0) = false ∧ big (y.getD j 0) = false
  | 0, i => ⟨fun _ j h1 h2 => by omega, fun _ => rfl⟩
  | q + 1, i => by
    simp only [bigB, Bool.or_eq_false_iff]
    rw [bigB_false x y q (i + 1)]
    constructor
    · rintro ⟨⟨h1, h2⟩, h3⟩ j hj hj2
      by_cases e : j = i
      · subst e; exact ⟨h1, h2⟩
      · exact h3 j (by omega) (by omega)
    · intro h
      exact ⟨h i (Nat.le_refl _) (by omega), fun j h1 h2 => h j (by omega) (by omega)⟩
theorem bigB_any {x y : List Int} {n : Nat} (hx : x.length = n) (hy : y.length = n) : bigB x y n 0 = (anyBig x || anyBig y) := by
  cases h : bigB x y n 0 with
  | false =>
    have h1 := (bigB_false x y n 0).1 h
    rw [(anyBig_false x).2 (fun j hj => (h1 j (Nat.zero_le _) (by omega)).1), (anyBig_false y).2 (fun j hj => (h1 j (Nat.zero_le _) (by omega)).2)]
    rfl
  | true =>
    cases hx' : anyBig x with
    | true => rfl
    | false =>
      cases hy' : anyBig y with
      | true => rfl
      | false =>
        have h1 := (anyBig_false x).1 hx'
        have h2 := (anyBig_false y).1 hy'
        have h3 := (bigB_false x y n 0).2 (fun j _ hj => ⟨h1 j (by omega), h2 j (by omega)⟩)
        rw [h3] at h
        cases h

theorem inn_sum (x y : List Int) (n k : Nat) : ∀ (q j : Nat) (s : Int), w64 s = s → inn x y n k q j s = w64 (s + sumF q (fun t => x.getD (j + t) 0 * y.getD ((k + n - (j + t)) % n) 0))
  | 0, j, s, hs => by
    simp only [inn, sumF, Int.add_zero]
    exact hs.symm
  | q + 1, j, s, hs => by
    simp only [inn]
    rw [inn_sum x y n k q (j + 1) _ (w64_w64 _), sumF_front]
    have hf : sumF q (fun t => x.getD (j + 1 + t) 0 * y.getD ((k + n - (j + 1 + t)) % n) 0) = sumF q (fun t => x.getD (j + (t + 1)) 0 * y.getD ((k + n - (j + (t + 1))) % n) 0) := by
      refine sumF_congr _ (fun t _ => ?_)
      rw [show j + 1 + t = j + (t + 1) by omega]
    rw [hf]
    simp only [Nat.add_zero]
    generalize sumF q (fun t => x.getD (j + (t + 1)) 0 * y.getD ((k + n - (j + (t + 1))) % n) 0) = S
    generalize x.getD j 0 * y.getD ((k + n - j) % n) 0 = a
    obtain ⟨k1, e1⟩ := w64_mod a
    obtain ⟨k2, e2⟩ := w64_mod (s + w64 a)
    refine w64_congr ⟨k1 + k2, ?_⟩
    rw [e2, e1]
    omega

theorem conv_one (x y : List Int) {n p : Nat} (hx : x.length = n) (hy : y.length = n) (hp : p < n) : convS x y p = sumF n (fun t => x.getD t 0 * y.getD ((p + n - t) % n) 0) := by
  unfold convS
  rw [hx, hy]
  refine sumF_congr _ (fun s hs => ?_)
  have hlt : (p + n - s) % n < n := Nat.mod_lt _ (by omega)
  have hmod : (s + (p + n - s) % n) % n = p := by
    rw [Nat.add_mod, Nat.mod_mod, ← Nat.add_mod, show s + (p + n - s) = p + n by omega, Nat.add_mod_right]
    exact Nat.mod_eq_of_lt hp
  rw [sumF_one ((p + n - s) % n) n hlt]
  · rw [if_pos hmod]
  · intro t ht hne
    rw [if_neg]
    intro e
    refine hne (mod_inj (s := s) ht hlt ?_)
    rw [Nat.add_comm t s, Nat.add_comm _ s, e, hmod]

theorem outF_get (x y : List Int) (n : Nat) : ∀ (q k : Nat) (out : List Int), out.length = k → ∀ p, p < k + q → (outF x y n q k out).getD p 0 = if p < k then out.getD p 0 else inn x y n p n 0 0
  | 0, k, out, _, p, hp => by
    simp only [outF]
    rw [if_pos (show p < k by omega)]
  | q + 1, k, out, hl, p, hp => by
    simp only [outF]
    rw [outF_get x y n q (k + 1) _ (by simp [hl]) p (by omega)]
    by_cases h1 : p < k
    · rw [if_pos h1, if_pos (show p < k + 1 by omega)]
      simp [List.getD, List.getElem?_append_left (show p < out.length by omega)]
    · rw [if_neg h1]
      by_cases h2 : p = k
      · subst h2
        rw [if_pos (show p < p + 1 by omega)]
        subst hl
        simp [List.getD]
      · rw [if_neg (show ¬ p < k + 1 by omega)]

theorem out_whole (x y : List Int) {n : Nat} (hx : x.length = n) (hy : y.length = n) (hn : 0 < n) : sameFrom (wholeW x y) (outW x y n) n 0 = true := by
  obtain ⟨-, h2⟩ := whole_spec x y (by omega)
  refine sameFrom_true _ _ _ _ (fun j hj => ?_)
  unfold outW
  rw [wall_eq, h2 j (by omega), outF_get x y n n 0 [] rfl j (by omega), if_neg (by omega), inn_sum x y n j n 0 0 rfl, conv_one x y hx hy (by omega), Int.zero_add]
  simp only [Nat.zero_add]

/-! ### A list that is nil, as one of no elements -/
def nilE8 : AV → AV
  | .nils => .sl (.ints 0 .i64 [])
  | a => a
theorem vrs_nil8 {A : Nat → Prop} {w : World} {ρ : Rho} : ∀ (l : List AV) (vs : List Value), VRs A w ρ l vs → VRs A w ρ (l.map nilE8) vs
  | [], _, h => h
  | a :: l, vs, h => by
    simp only [VRs, List.map_cons] at h ⊢
    obtain ⟨v, vs', h1, h2, h3⟩ := h
    refine ⟨v, vs', ?_, vrs_nil8 l vs' h2, h3⟩
    unfold nilE8
    split
    · simp only [VR] at h1 ⊢
      exact ⟨.agg #[], ⟨rfl, rfl⟩, .inl ⟨rfl, none, 0, h1⟩⟩
    · exact h1
theorem entB_nil8 {P : Program} {f : FuncId} {b : Bool} {sp : List AV → Option Br} (h : EntOk P f (entB b sp)) : EntOk P f (entB b fun l => sp (l.map nilE8)) := by
  refine ⟨fun R n l k => ?_, fun n args r' hr A w vs hA hv hG => ?_⟩
  · exact h.law R n (l.map nilE8) k
  · exact h.ok n (args.map nilE8) r' hr A w vs hA (vrs_nil8 _ _ hv) hG
def sp_numsN : List AV → Option Br := fun l => sp_nums (l.map nilE8)

/-! ### CycWholes -/
def orcCW : List (FuncId × Ent) := [(7, entS false sp_sure), (8, entB false sp_wholeB), (9, entB false sp_rWhole), (10, entB false sp_numsN), (11, entS false sp_num)]
def cw3 (p : Nat) (l : List Int) (e : Int) (q : Nat) (r : List Int) (f : Int) : Option AV :=
  bif (p : Int) != q then some (.bool false) else chk (Nat.beq p q && Nat.ble p 4096) (bif sameFrom l r p 0 then (bif e == f then some (.bool true) else some (.bool false)) else some (.bool false))
def cw2 (n m : Nat) (a b : List Int) (p : Nat) (l : List Int) (e : Int) : Option AV :=
  chk (Nat.beq n a.length && Nat.beq m b.length) (bif rchk n m 4096 != 0 then cw3 p l e 0 [] (rchk n m 4096) else bif bigB a b n 0 then cw3 p l e 0 [] 2 else cw3 p l e n (outW a b n) 0)
def cw1 (n m : Nat) (a b : List Int) : Option AV :=
  chk (Nat.beq n a.length && Nat.beq m b.length) (bif Nat.beq n 0 then cw2 n m a b 0 [] 1 else bif !Nat.ble n 4096 then cw2 n m a b 0 [] 1 else bif !Nat.beq m n then cw2 n m a b 0 [] 11 else bif anyBig a || anyBig b then cw2 n m a b 0 [] 2 else cw2 n m a b n (wholeW a b) 0)
theorem run_cw (n m : Nat) (a b : List Int) : callA (env Tryd.f3.ntmps orcCW []) (bodyC Tryd.f3) Tryd.f3.results.toList (slots 0 [.sl (.ints n .i64 a), .sl (.ints m .i64 b)]) some =
    bif decide ((n : Int) > 60) then bif decide ((n : Int) ≤ 4096) then some (.bool true) else cw1 n m a b else cw1 n m a b := by kernel_rfl

theorem cw3_err (e : Int) : cw3 0 [] e 0 [] e = some (.bool true) := by
  unfold cw3
  rw [beq_self_eq_true]
  rfl
theorem cw3_ok {n : Nat} {l r : List Int} (hn : n ≤ 4096) (h : sameFrom l r n 0 = true) : cw3 n l 0 n r 0 = some (.bool true) := by
  unfold cw3
  rw [h, Nat.beq_refl, Nat.ble_eq_true_of_le hn, bne_self_eq_false]
  rfl
theorem cw1_at (a b : List Int) (_h : a.length ≤ 60 ∨ 4096 < a.length) : cw1 a.length b.length a b = some (.bool true) := by
  unfold cw1 cw2
  rw [Nat.beq_refl, Nat.beq_refl, cw3_err, beq_iff, beq_iff]
  by_cases h0 : a.length = 0
  · have e : rchk (a.length : Int) b.length 4096 = 1 := by
      unfold rchk
      rw [wall_eq, if_pos (.inl (show ((a.length : Nat) : Int) = 0 by omega))]
    rw [decide_eq_true h0, e, cw3_err]
    rfl
  · rw [decide_eq_false h0]
    by_cases h1 : 4096 < a.length
    · have e : rchk (a.length : Int) b.length 4096 = 1 := by
        unfold rchk
        rw [wall_eq, if_pos (.inr (show ((a.length : Nat) : Int) > 4096 by omega))]
      have e5 : Nat.ble a.length 4096 = false := by
        cases hb : Nat.ble a.length 4096 with
        | false => rfl
        | true => have := Nat.le_of_ble_eq_true hb; omega
      rw [e5, e, cw3_err]
      rfl
    · rw [Nat.ble_eq_true_of_le (show a.length ≤ 4096 by omega)]
      have e1 : ¬ (((a.length : Nat) : Int) = 0 ∨ ((a.length : Nat) : Int) > 4096) := by omega
      by_cases h2 : b.length = a.length
      · have e : rchk (a.length : Int) b.length 4096 = 0 := by
          unfold rchk
          rw [wall_eq, if_neg e1, if_neg (show ¬ ((a.length : Nat) : Int) ≠ b.length by omega)]
        rw [decide_eq_true h2, e, bigB_any rfl h2]
        rw [cw3_ok (show a.length ≤ 4096 by omega) (out_whole a b rfl h2 (by omega))]
        cases anyBig a || anyBig b <;> rfl
      · have e : rchk (a.length : Int) b.length 4096 = 11 := by
          unfold rchk
          rw [wall_eq, if_neg e1, if_pos (show ((a.length : Nat) : Int) ≠ b.length by omega)]
        rw [decide_eq_false h2, e, cw3_err]
        rfl

def okL (n : Nat) (l : List Int) : Bool := Nat.beq n l.length
def sp_cw : List AV → Option (Bool × AV)
  | [.sl (.ints n .i64 a), .sl (.ints m .i64 b)] => some (okL n a && okL m b, .bool true)
  | _ => none
theorem ok_cw : EntOk Tryd.prog 3 (entS false sp_cw) := by
  refine contractS (orc := orcCW) (lo := []) Tryd.func3 (orc_cons ok_sure (orc_cons ok_wholeB (orc_cons ok_rWhole (orc_cons (entB_nil8 ok_nums) (orc_cons ok_num25 orc_nil))))) (by kernel_rfl) (by kernel_rfl) (by kernel_rfl) (loops_none (by kernel_rfl)) fun args r h => ?_
  unfold sp_cw at h
  split at h
  · rename_i n a m b
    simp only [Option.some.injEq, Prod.mk.injEq, Bool.and_eq_true] at h
    obtain ⟨⟨h1, h2⟩, rfl⟩ := h
    obtain rfl := nat_beq h1
    obtain rfl := nat_beq h2
    refine ⟨by kernel_rfl, .inr rfl, (run_cw _ _ a b).trans ?_⟩
    by_cases h3 : a.length > 60
    · rw [decide_eq_true (show ((a.length : Nat) : Int) > 60 by omega)]
      by_cases h4 : a.length ≤ 4096
      · rw [decide_eq_true (show ((a.length : Nat) : Int) ≤ 4096 by omega)]
        rfl
      · rw [decide_eq_false (show ¬ ((a.length : Nat) : Int) ≤ 4096 by omega)]
        exact cw1_at a b (.inr (by omega))
    · rw [decide_eq_false (show ¬ ((a.length : Nat) : Int) > 60 by omega)]
      exact cw1_at a b (.inl (by omega))
  · cases h
end
end Go.Proofs.YtdkebceiljdgjaaDoor
