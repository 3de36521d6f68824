/- tillerref04: To. Own work. -/
import Derived.Test.YtbakldcbaikgpaaGreatDoorDig7
namespace Go.Proofs.YtbakldcbaikgpaaGreatDoor
set_option maxRecDepth 100000
noncomputable section
theorem maySub_dg {v w : Nat} (h : lenN v ≤ 1000000) (hw : w ≤ v) : maySub (dgl v) (dg v) (dgl w) (dg w) = true := by
  have := lenN_mono hw
  unfold maySub
  rw [mayC2_dg h (by omega), stk_eq, val_dg, val_dg, decide_eq_true hw]
  rfl
theorem mayB1_dg {v : Nat} {i : Int} (h0 : 0 ≤ i) (h1 : i ≤ 10000000) : mayB1 (dgl v) (dg v) i = true := by
  unfold mayB1
  rw [stk_eq, decide_eq_true (dg_len v), dg_ok, decide_eq_true h0, decide_eq_true h1]
  rfl
theorem mayR_dg {v : Nat} {i : Int} (h : lenN v ≤ 1000000) (h0 : 1 ≤ i) (h1 : i ≤ 1000000) : mayR (dgl v) (dg v) i = true := by
  have := dg_le (v := v) (k := 62500) (by omega)
  unfold mayR
  rw [stk_eq, decide_eq_true (dg_len v), dg_ok, decide_eq_true (show dgl v ≤ 200000 by omega), decide_eq_true h0, decide_eq_true h1]
  rfl
theorem mayO_dg {v : Nat} (h : lenN v ≤ 1000000) : mayO (dgl v) (dg v) = true := by
  have := dg_le (v := v) (k := 62500) (by omega)
  unfold mayO
  rw [stk_eq, decide_eq_true (dg_len v), dg_ok, decide_eq_true (show dgl v ≤ 200000 by omega)]
  rfl
theorem mayD_split {n : Nat} {l : List Int} (h : mayD n l = true) : n = dgl (valD l) ∧ l = dg (valD l) := by
  obtain ⟨⟨h1, h2⟩, _⟩ := mayD_iff.1 h
  unfold dgl dg
  rw [stk_eq, stk_eq]
  exact ⟨h1.trans (congrArg List.length h2), h2⟩
/-- What is left at all. -/
theorem inex_mod {S : Nat} {d : Int} (h : 0 < d) : inexN S d = decide (S % 2 ^ d.toNat ≠ 0) := by
  have e := left_split S d.toNat (by omega)
  have hp := Nat.two_pow_pos (d.toNat - 1)
  unfold inexN halfN restN
  rw [decide_eq_true h, Bool.true_and, Bool.true_and, e]
  generalize S % 2 ^ (d.toNat - 1) = a at *
  have hb : S / 2 ^ (d.toNat - 1) % 2 = 0 ∨ S / 2 ^ (d.toNat - 1) % 2 = 1 := by omega
  generalize S / 2 ^ (d.toNat - 1) % 2 = b at *
  rcases hb with rfl | rfl
  · simp
  · rw [decide_eq_true rfl, Bool.true_or, decide_eq_true]
    omega
def taN (Q : Nat) : Option AV := some (.tup [.sl (.ints (dgl Q) .u32 (dg Q)), .bool true])
def taA (Q : Nat) (b : Bool) : Option AV :=
  bif b then chk (inU 1) (chk (mayC2 (dgl Q) (dg Q) (dgl (1 : Int).toNat) (dg (1 : Int).toNat)) (some (.tup [.sl (.ints (dgl (valD (dg Q) + valD (dg (1 : Int).toNat))) .u32 (dg (valD (dg Q) + valD (dg (1 : Int).toNat)))), .bool true]))) else taN Q
def taS (Q : Nat) (m : Bool) (k : Int) (hb up : Bool) : Option AV := bif k == 1 then taA Q hb else bif k == 2 then taN Q else bif k == 3 then taA Q (!m) else bif k == 4 then taA Q m else taA Q up
def taU (Q : Nat) (m : Bool) (k : Int) (hb just : Bool) : Option AV :=
  bif hb then bif !just then taS Q m k hb true else bif decide (((dgl Q : Nat) : Int) > 0) then chk (decide ((0 : Int) ≤ 0) && decide ((0 : Int) < ((dgl Q : Nat) : Int)) && true) (taS Q m k hb (((dg Q).getD 0 0).tmod 2 == 1)) else taS Q m k hb false else taS Q m k hb false
def taP (w : Int) : Nat := valD (dg (1 : Int).toNat) * 2 ^ (w64 (w - 1)).toNat
def taK (Q : Nat) (m : Bool) (k : Int) (hb : Bool) (w : Int) (rn : Nat) (rest : List Int) : Option AV :=
  bif hb then chk (inU 1) (chk (mayS (dgl (1 : Int).toNat) (dg (1 : Int).toNat) (w64 (w - 1))) (chk (mayC2 rn rest (dgl (taP w)) (dg (taP w))) (taU Q m k hb (cmpD rest (dg (taP w)) == 0)))) else taU Q m k hb false
def taL (n : Nat) (l : List Int) (w : Int) (m : Bool) (k : Int) (Q : Nat) : Option AV :=
  chk (mayB1 n l (w64 (w - 1))) (chk (mayD n l) (bif decide (w ≤ lenI (valD l)) then chk (mayS (dgl Q) (dg Q) w) (chk (maySub n l (dgl (valD (dg Q) * 2 ^ w.toNat)) (dg (valD (dg Q) * 2 ^ w.toNat)))
    (taK Q m k (btI' (valD l) (w64 (w - 1)) == 1) w (dgl (valD l - valD (dg (valD (dg Q) * 2 ^ w.toNat)))) (dg (valD l - valD (dg (valD (dg Q) * 2 ^ w.toNat)))))) else taK Q m k (btI' (valD l) (w64 (w - 1)) == 1) w n l))
def taR (n : Nat) (l : List Int) (w : Int) (m : Bool) (k : Int) : Option AV :=
  chk (mayR n l w) (bif !(lostD l w) then some (.tup [.sl (.ints (dgl (valD l / 2 ^ w.toNat)) .u32 (dg (valD l / 2 ^ w.toNat))), .bool false]) else taL n l w m k (valD l / 2 ^ w.toNat))
def orcTo4 : List (FuncId × Ent) := [(99, entS true sp_shl), (100, entS true sp_shr), (147, entS false sp_dBit), (121, entS false sp_dLen), (101, entS true sp_dSub), (96, entS true sp_dOf), (126, entS false sp_dCmp), (125, entS true sp_dAdd)]
theorem run_to4 (m : Bool) (e : Int) (n : Nat) (l : List Int) (j k : Int) : callA (env Tryz.f123.ntmps orcTo4 []) (bodyC Tryz.f123) Tryz.f123.results.toList (slots 0 [.st [.bool m, .int .i64 e, .sl (.ints n .u32 l)], .int .i64 j, .int .i64 k]) some =
    bif decide (e ≥ j) then chk (mayS n l (w64 (e - j))) (some (.tup [.sl (.ints (dgl (valD l * 2 ^ (w64 (e - j)).toNat)) .u32 (dg (valD l * 2 ^ (w64 (e - j)).toNat))), .bool false])) else taR n l (w64 (j - e)) m k := by kernel_rfl
def rQ (m : Bool) (e : Int) (l : List Int) (j k : Int) : Nat := stk (toN (valD l) (j - e) k m)
def rI (e : Int) (l : List Int) (j : Int) : Bool := stk (inexN (valD l) (j - e))
def mayTo (e : Int) (n : Nat) (l : List Int) (j : Int) : Bool := mayD n l && stk (decide (lenN (valD l) ≤ 9000) && decide (-300000 ≤ e) && decide (e ≤ 300000) && decide (-300000 ≤ j) && decide (j ≤ 300000))
def sp_to4 : List AV → Option (Bool × AV)
  | [.st [.bool m, .int .i64 e, .sl (.ints n .u32 l)], .int .i64 j, .int .i64 k] => some (mayTo e n l j, .tup [.sl (.ints (dgl (rQ m e l j k)) .u32 (dg (rQ m e l j k))), .bool (rI e l j)])
  | _ => none
theorem mayTo_iff {e : Int} {n : Nat} {l : List Int} {j : Int} : mayTo e n l j = true ↔ mayD n l = true ∧ lenN (valD l) ≤ 9000 ∧ (-300000 ≤ e ∧ e ≤ 300000) ∧ (-300000 ≤ j ∧ j ≤ 300000) := by
  unfold mayTo
  rw [stk_eq]
  simp only [Bool.and_eq_true, decide_eq_true_eq, and_assoc]
theorem taA_at (Q : Nat) (hQ : lenN Q ≤ 10000) (b : Bool) : taA Q b = some (.tup [.sl (.ints (dgl (Q + b.toNat)) .u32 (dg (Q + b.toNat))), .bool true]) := by
  unfold taA taN
  cases b with
  | false => rfl
  | true =>
    rw [inU_one, val_dg, val_dg, mayC2_dg (by omega) (show lenN (1 : Int).toNat ≤ 1000000 by rw [show (1 : Int).toNat = 1 from rfl, lenN_one']; omega)]
    rfl
theorem taS_at (Q : Nat) (hQ : lenN Q ≤ 10000) (m : Bool) (k : Int) (hb up : Bool) : taS Q m k hb up = some (.tup [.sl (.ints (dgl (Q + (if k = 1 then hb else if k = 2 then false else if k = 3 then !m else if k = 4 then m else up).toNat)) .u32 (dg (Q + (if k = 1 then hb else if k = 2 then false else if k = 3 then !m else if k = 4 then m else up).toNat))), .bool true]) := by
  unfold taS
  rw [taA_at Q hQ, taA_at Q hQ, taA_at Q hQ, taA_at Q hQ]
  by_cases h1 : k = 1
  · subst h1; rfl
  rw [beq_eq_false_iff_ne.2 h1, if_neg h1]
  by_cases h2 : k = 2
  · subst h2; rfl
  rw [beq_eq_false_iff_ne.2 h2, if_neg h2]
  by_cases h3 : k = 3
  · subst h3; rfl
  rw [beq_eq_false_iff_ne.2 h3, if_neg h3]
  by_cases h4 : k = 4
  · subst h4; rfl
  rw [beq_eq_false_iff_ne.2 h4, if_neg h4]
  rfl
theorem dg_odd {Q : Nat} : (((dg Q).getD 0 0).tmod 2 == 1) = decide (Q % 2 = 1) := by
  have h := get_val (dg Q) 0 (dg_ok Q)
  rw [val_dg, Nat.pow_zero, Nat.div_one] at h
  have t := tmodN (Q % 65536) 2
  rw [show ((2 : Nat) : Int) = 2 from rfl] at t
  rw [h, t, show Q % 65536 % 2 = Q % 2 by omega]
  have := eqN (Q % 2) 1
  rw [show ((1 : Nat) : Int) = 1 from rfl] at this
  exact this
theorem taU_at (Q : Nat) (m : Bool) (k : Int) (hb just : Bool) : taU Q m k hb just = taS Q m k hb (hb && (!just || decide (Q % 2 = 1))) := by
  unfold taU
  rw [(dgl_zero Q).2, dg_odd]
  cases hb with
  | false => rfl
  | true =>
    cases just with
    | false => rfl
    | true =>
      by_cases h : Q = 0
      · rw [decide_eq_false (not_not_intro h), h]; rfl
      · rw [decide_eq_true (show Q ≠ 0 from h)]
        rfl
/-- The last steps of a rounding where something is lost. -/
theorem taK_at {S : Nat} (hS : lenN S ≤ 9000) {w : Nat} (hw : 1 ≤ w) (hw2 : w ≤ 600000) (m : Bool) (k : Int) (hlost : S % 2 ^ w ≠ 0) {rn : Nat} {rest : List Int} (hr : rn = dgl (S % 2 ^ w)) (hr2 : rest = dg (S % 2 ^ w)) :
    taK (S / 2 ^ w) m k (halfN S (w : Int)) (w : Int) rn rest = some (.tup [.sl (.ints (dgl (toN S (w : Int) k m)) .u32 (dg (toN S (w : Int) k m))), .bool true]) := by
  have hQ : lenN (S / 2 ^ w) ≤ 10000 := by rw [lenN_div]; omega
  have hR : lenN (S % 2 ^ w) ≤ 1000000 := by
    have := lenN_mono (Nat.mod_le S (2 ^ w))
    omega
  have e1 : w64 ((w : Int) - 1) = ((w - 1 : Nat) : Int) := by rw [w64_mid (by omega) (by omega)]; omega
  have hsp := left_split S w (by omega)
  have h1l : lenN (1 : Int).toNat ≤ 1000000 := by rw [show (1 : Int).toNat = 1 from rfl, lenN_one']; omega
  have hp : taP (w : Int) = 2 ^ (w - 1) := by
    unfold taP
    rw [val_dg, e1, Int.toNat_natCast, show (1 : Int).toNat = 1 from rfl, Nat.one_mul]
  have hpl : lenN (2 ^ (w - 1)) ≤ 1000000 := by
    have := lenN_shl (v := 1) (k := w - 1) (by decide)
    rw [Nat.one_mul, lenN_one'] at this
    omega
  have fin : ∀ just : Bool, (halfN S (w : Int) = true → just = !(restN S (w : Int))) → taU (S / 2 ^ w) m k (halfN S (w : Int)) just = some (.tup [.sl (.ints (dgl (toN S (w : Int) k m)) .u32 (dg (toN S (w : Int) k m))), .bool true]) := by
    intro just hj
    have hx : (halfN S (w : Int) || restN S (w : Int)) = true := by
      have := inex_mod (S := S) (d := (w : Int)) (by omega)
      rw [Int.toNat_natCast, decide_eq_true hlost] at this
      exact this
    have hu : (if k = 1 then halfN S (w : Int) else if k = 2 then false else if k = 3 then !m else if k = 4 then m else halfN S (w : Int) && (!just || decide (S / 2 ^ w % 2 = 1))) = upD S (w : Int) k m := by
      unfold upD upN
      rw [hx, qN_pos (by omega), Int.toNat_natCast]
      by_cases k1 : k = 1
      · subst k1; rfl
      by_cases k2 : k = 2
      · subst k2; rfl
      by_cases k3 : k = 3
      · subst k3; simp
      by_cases k4 : k = 4
      · subst k4; simp
      rw [if_neg k1, if_neg k2, if_neg k3, if_neg k4, if_neg k2, if_neg k3, if_neg k4, if_neg k1]
      cases hh : halfN S (w : Int) with
      | false => rfl
      | true => rw [hj hh, Bool.not_not]
    rw [taU_at _, taS_at _ hQ, hu]
    unfold toN
    rw [qN_pos (by omega), Int.toNat_natCast]
  unfold taK
  rw [hp, e1, hr, hr2, inU_one, mayS_dg h1l (by omega) (by omega), mayC2_dg hR hpl]
  have hc : (cmpD (dg (S % 2 ^ w)) (dg (2 ^ (w - 1))) == 0) = decide (S % 2 ^ w = 2 ^ (w - 1)) := by
    unfold cmpD cmpN
    rw [stk_eq, val_dg, val_dg]
    by_cases c1 : S % 2 ^ w < 2 ^ (w - 1)
    · rw [if_pos c1, decide_eq_false (show ¬ S % 2 ^ w = 2 ^ (w - 1) by omega)]; rfl
    · rw [if_neg c1]
      by_cases c2 : S % 2 ^ w > 2 ^ (w - 1)
      · rw [if_pos c2, decide_eq_false (show ¬ S % 2 ^ w = 2 ^ (w - 1) by omega)]; rfl
      · rw [if_neg c2, decide_eq_true (show S % 2 ^ w = 2 ^ (w - 1) by omega)]; rfl
  rw [hc]
  cases hh : halfN S (w : Int) with
  | false =>
    have := fin false (fun h => by rw [hh] at h; cases h)
    rw [hh] at this
    exact this
  | true =>
    have := fin (decide (S % 2 ^ w = 2 ^ (w - 1))) (fun _ => by
      have hb : S / 2 ^ (w - 1) % 2 = 1 := by
        unfold halfN at hh
        rw [Int.toNat_natCast, decide_eq_true (show (0 : Int) < (w : Int) by omega), Bool.true_and, decide_eq_true_iff] at hh
        exact hh
      unfold restN
      rw [Int.toNat_natCast, decide_eq_true (show (0 : Int) < (w : Int) by omega), Bool.true_and, hsp, hb, Nat.mul_one, ← decide_not]
      exact decide_eq_decide.2 (by omega))
    rw [hh] at this
    exact this
theorem ok_to4 : EntOk Tryz.prog 123 (entS true sp_to4) := by
  refine contractS (orc := orcTo4) (lo := []) Tryz.func123 (orc_cons ok_shl (orc_cons ok_shr (orc_cons ok_dBit (orc_cons ok_dLen (orc_cons ok_dSub (orc_cons ok_dOf (orc_cons ok_dCmp (orc_cons ok_dAdd orc_nil)))))))) (by kernel_rfl) (by kernel_rfl) (by kernel_rfl) (loops_none (by kernel_rfl)) fun args r h => ?_
  unfold sp_to4 at h
  split at h
  · rename_i m e n l j k
    simp only [Option.some.injEq, Prod.mk.injEq, mayTo_iff] at h
    obtain ⟨⟨hd, hl, ⟨e1, e2⟩, j1, j2⟩, rfl⟩ := h
    refine ⟨by kernel_rfl, .inl rfl, (run_to4 m e n l j k).trans ?_⟩
    obtain ⟨hn, hll⟩ := mayD_split hd
    unfold rQ rI
    rw [stk_eq, stk_eq]
    generalize hV : valD l = V at *
    rw [hn, hll]
    by_cases h0 : e ≥ j
    · have hi : inexN V (j - e) = false := by
        unfold inexN halfN restN
        rw [decide_eq_false (show ¬ 0 < j - e by omega)]
        rfl
      have ht : toN V (j - e) k m = V * 2 ^ (e - j).toNat := by
        unfold toN
        rw [up_exact hi, qN_neg (by omega), show -(j - e) = e - j by omega]
        rfl
      rw [decide_eq_true h0, w64_mid (x := e - j) (by omega) (by omega), mayS_dg (by omega) (by omega) (by omega), hi, ht]
      rfl
    · obtain ⟨w, hw⟩ : ∃ w : Nat, j - e = (w : Int) := ⟨(j - e).toNat, by omega⟩
      rw [decide_eq_false h0, cond_false, hw, w64_mid (x := (w : Int)) (by omega) (by omega)]
      have him := inex_mod (S := V) (d := (w : Int)) (by omega)
      rw [Int.toNat_natCast] at him
      have hlo : lostD (dg V) (w : Int) = decide (V % 2 ^ w ≠ 0) := by unfold lostD; rw [stk_eq, val_dg, Int.toNat_natCast]
      unfold taR
      rw [mayR_dg (by omega) (by omega) (by omega), hlo, val_dg, Int.toNat_natCast]
      by_cases hz : V % 2 ^ w = 0
      · have hi : inexN V (w : Int) = false := by rw [him, decide_eq_false (not_not_intro hz)]
        have ht : toN V (w : Int) k m = V / 2 ^ w := by
          unfold toN
          rw [up_exact hi, qN_pos (by omega), Int.toNat_natCast]
          rfl
        rw [decide_eq_false (not_not_intro hz), hi, ht]
        rfl
      · have hi : inexN V (w : Int) = true := by rw [him, decide_eq_true hz]
        have hhb : (btI' V ((w - 1 : Nat) : Int) == 1) = halfN V (w : Int) := by
          unfold btI' halfN
          rw [stk_eq, Int.toNat_natCast, Int.toNat_natCast, decide_eq_true (show (0 : Int) < (w : Int) by omega), Bool.true_and]
          have := eqN (V / 2 ^ (w - 1) % 2) 1
          rw [show ((1 : Nat) : Int) = 1 from rfl] at this
          exact this
        have e3 : w64 ((w : Int) - 1) = ((w - 1 : Nat) : Int) := by rw [w64_mid (by omega) (by omega)]; omega
        have hQ : lenN (V / 2 ^ w) ≤ 10000 := by rw [lenN_div]; omega
        have hli : lenI V = ((lenN V : Nat) : Int) := by unfold lenI; rw [stk_eq]
        have hmul : V / 2 ^ w * 2 ^ w ≤ V := Nat.div_mul_le_self _ _
        have hsub : V - V / 2 ^ w * 2 ^ w = V % 2 ^ w := by
          have := Nat.mod_add_div V (2 ^ w)
          rw [Nat.mul_comm] at this
          omega
        rw [decide_eq_true hz, hi]
        unfold taL
        rw [e3, mayB1_dg (by omega) (by omega), mayD_dg (by omega), val_dg, val_dg, val_dg, hli, hhb, Int.toNat_natCast, hsub, maySub_dg (by omega) hmul, mayS_dg (by omega) (by omega) (by omega), taK_at hl (by omega) (by omega) m k hz rfl rfl]
        by_cases hw3 : (w : Int) ≤ ((lenN V : Nat) : Int)
        · rw [decide_eq_true hw3]; rfl
        · have hlt : V < 2 ^ w := Nat.lt_of_lt_of_le (lt_lenN V) (Nat.pow_le_pow_right (by decide) (by omega))
          rw [decide_eq_false hw3, taK_at hl (by omega) (by omega) m k hz (show dgl V = dgl (V % 2 ^ w) by rw [Nat.mod_eq_of_lt hlt]) (show dg V = dg (V % 2 ^ w) by rw [Nat.mod_eq_of_lt hlt])]
          rfl
  · cases h
end
end Go.Proofs.YtbakldcbaikgpaaGreatDoor
