/- RndOrder. Own work. -/
import Derived.Test.YtdkebceiljdgjaaDig6
namespace Go.Proofs.Ytdkebceiljdgjaa
set_option maxRecDepth 100000
noncomputable section

def orcOrder : List (FuncId × Ent) := [(23, entS false sp_give), (22, entS false sp_round), (25, entS true sp_of4), (27, entS false sp_dLen), (26, entS false sp_true), (29, entS true sp_shl), (28, entS false sp_dCmp)]
def roT : Option AV := some (.bool true)
def roX : Option AV := some (.bool false)
def roC (p q : Int) : Option AV := bif decide (p ≤ q) then roT else roX
def roL (X Y : Int) : Int := if Y < X then Y else X
def ro2 (p q X Y : Int) (S T : Nat) : Option AV :=
  bif decide (w64 (X + lenI (valD (dg S))) < w64 (Y + lenI (valD (dg T)))) then roC p q else bif w64 (X + lenI (valD (dg S))) == w64 (Y + lenI (valD (dg T))) then
    chk (mayS (dgl S) (dg S) (w64 (X - roL X Y))) (chk (mayS (dgl T) (dg T) (w64 (Y - roL X Y))) (chk (mayC2 (dgl (valD (dg S) * 2 ^ (w64 (X - roL X Y)).toNat)) (dg (valD (dg S) * 2 ^ (w64 (X - roL X Y)).toNat)) (dgl (valD (dg T) * 2 ^ (w64 (Y - roL X Y)).toNat)) (dg (valD (dg T) * 2 ^ (w64 (Y - roL X Y)).toNat)))
      (bif !(decide (cmpD (dg (valD (dg S) * 2 ^ (w64 (X - roL X Y)).toNat)) (dg (valD (dg T) * 2 ^ (w64 (Y - roL X Y)).toNat)) < 0)) then roT else roC p q))) else roT
def ro1 (p q X Y : Int) (S T : Nat) : Option AV := chk (mayD (dgl S) (dg S)) (chk (mayD (dgl T) (dg T)) (ro2 p q X Y S T))
def roZ (p q : Int) (T : Nat) : Option AV := bif !(decide (((dgl T : Nat) : Int) > 0)) then roT else roC p q
def ro0 (p q X Y : Int) (S T : Nat) : Option AV :=
  bif decide (p > 9218868437227405312) then roX else bif decide (q > 9218868437227405312) then roX else
    bif ((dgl S : Nat) : Int) == 0 then (bif decide (((dgl S : Nat) : Int) > 0) then (bif decide (((dgl T : Nat) : Int) > 0) then ro1 p q X Y S T else roZ p q T) else roZ p q T)
    else (bif decide (((dgl S : Nat) : Int) > 0) then (bif decide (((dgl T : Nat) : Int) > 0) then ro1 p q X Y S T else roT) else roT)
theorem run_order (a : Bool) (x : Int) (s : List Int) (r : Bool) (b : Bool) (y : Int) (t : List Int) (q : Bool) (k : Int) : callA (env Try.f5.ntmps orcOrder []) (bodyC Try.f5) Try.f5.results.toList (slots 0 [.st [.bool a, .int .i64 x, .ints 4 .u64 s, .bool r], .st [.bool b, .int .i64 y, .ints 4 .u64 t, .bool q], .int .i64 k]) some =
    chk (okW s) (chk (okW t) (chk (okW s) (chk (okW t) (ro0 ((pR false s x r k : Nat) : Int) ((pR false t y q k : Nat) : Int) (oE x r) (oE y q) (oS s r) (oS t q))))) := by kernel_rfl

theorem dgl_zero (v : Nat) : (((dgl v : Nat) : Int) == 0) = decide (v = 0) ∧ decide (((dgl v : Nat) : Int) > 0) = decide (v ≠ 0) := by
  have : (digN v).length = 0 ↔ v = 0 := by
    have := len_dig 0 v
    rw [Nat.pow_zero] at this
    omega
  unfold dgl
  rw [stk_eq]
  refine ⟨?_, decide_eq_decide.2 (by omega)⟩
  have e := eqN (digN v).length 0
  rw [show ((0 : Nat) : Int) = 0 from rfl] at e
  rw [e]
  exact decide_eq_decide.2 this

theorem shift_lt {S T : Nat} {X Y : Int} (_hS : 0 < S) (hT : 0 < T) (h : X + (lenN S : Int) < Y + (lenN T : Int)) : S * 2 ^ (X - min X Y).toNat ≤ T * 2 ^ (Y - min X Y).toNat := by
  have h1 : S * 2 ^ (X - min X Y).toNat < 2 ^ (lenN S + (X - min X Y).toNat) := by
    rw [Nat.pow_add]
    exact Nat.mul_lt_mul_of_pos_right (lt_lenN S) (Nat.two_pow_pos _)
  have h2 : 2 ^ (lenN T - 1 + (Y - min X Y).toNat) ≤ T * 2 ^ (Y - min X Y).toNat := by
    rw [Nat.pow_add]
    exact Nat.mul_le_mul_right _ (le_lenN hT)
  have hl := lenN_pos hT
  have h3 : (2 : Nat) ^ (lenN S + (X - min X Y).toNat) ≤ 2 ^ (lenN T - 1 + (Y - min X Y).toNat) := Nat.pow_le_pow_right (by decide) (by omega)
  omega

theorem ro2_at {p q : Int} {X Y : Int} {S T : Nat} (hX : -200001 ≤ X ∧ X ≤ 200000) (hY : -200001 ≤ Y ∧ Y ≤ 200000) (hS : 0 < S) (hT : 0 < T) (lS : lenN S ≤ 300) (lT : lenN T ≤ 300)
    (h : S * 2 ^ (X - min X Y).toNat ≤ T * 2 ^ (Y - min X Y).toNat → p ≤ q) : ro1 p q X Y S T = roT := by
  have hL : roL X Y = min X Y := by unfold roL; split <;> omega
  have e1 : w64 (X + ((lenN S : Nat) : Int)) = X + ((lenN S : Nat) : Int) := w64_mid (by omega) (by omega)
  have e2 : w64 (Y + ((lenN T : Nat) : Int)) = Y + ((lenN T : Nat) : Int) := w64_mid (by omega) (by omega)
  have e3 : w64 (X - min X Y) = X - min X Y := w64_mid (by omega) (by omega)
  have e4 : w64 (Y - min X Y) = Y - min X Y := w64_mid (by omega) (by omega)
  have sh : ∀ {v : Nat} {n : Int}, 0 < v → lenN v ≤ 300 → 0 ≤ n → n ≤ 500000 → lenN (v * 2 ^ n.toNat) ≤ 1000000 := by
    intro v n h1 h2 h3 h4
    rw [lenN_shl h1]
    omega
  unfold ro1 ro2 lenI
  rw [hL, val_dg, val_dg, mayD_dg (by omega), mayD_dg (by omega), stk_eq, stk_eq, e1, e2, e3, e4, mayS_dg (by omega) (by omega) (by omega), mayS_dg (by omega) (by omega) (by omega), mayC2_dg (sh hS lS (by omega) (by omega)) (sh hT lT (by omega) (by omega))]
  unfold cmpD roC
  rw [stk_eq, val_dg, val_dg]
  simp only [chk, cond_true]
  by_cases c1 : X + ((lenN S : Nat) : Int) < Y + ((lenN T : Nat) : Int)
  · rw [decide_eq_true c1, decide_eq_true (h (shift_lt hS hT c1))]; rfl
  · rw [decide_eq_false c1, cond_false]
    by_cases c2 : S * 2 ^ (X - min X Y).toNat < T * 2 ^ (Y - min X Y).toNat
    · rw [decide_eq_true (h (Nat.le_of_lt c2))]
      cases (X + ((lenN S : Nat) : Int) == Y + ((lenN T : Nat) : Int)) with
      | false => rfl
      | true => cases (!decide (cmpN (S * 2 ^ (X - min X Y).toNat) (T * 2 ^ (Y - min X Y).toNat) < 0)) <;> rfl
    · have : ¬ cmpN (S * 2 ^ (X - min X Y).toNat) (T * 2 ^ (Y - min X Y).toNat) < 0 := by
        unfold cmpN
        rw [if_neg c2]
        split <;> omega
      rw [decide_eq_false this]
      cases (X + ((lenN S : Nat) : Int) == Y + ((lenN T : Nat) : Int)) <;> rfl

def sp_lawNNI : List AV → Option (Bool × AV)
  | [.st [.bool _, .int .i64 _, .ints 4 .u64 s, .bool _], .st [.bool _, .int .i64 _, .ints 4 .u64 t, .bool _], .int .i64 _] => some (okW s && okW t, .bool true)
  | _ => none

theorem lenN_nS {s : List Int} (hs : okW s = true) (r : Bool) : lenN (nS (valW s) r) ≤ 300 := by
  have h1 := lenN_W hs
  have h2 : nS (valW s) r / 2 ^ 1 ≤ valW s := by
    have : nS (valW s) r ≤ 2 * valW s + 1 := by unfold nS; split <;> omega
    omega
  have h3 := lenN_mono h2
  rw [lenN_div] at h3
  omega

theorem ok_order : EntOk Try.prog 5 (entS true sp_lawNNI) := by
  refine contractS (orc := orcOrder) (lo := []) Try.func5 (orc_cons ok_give (orc_cons ok_round (orc_cons ok_of4 (orc_cons ok_dLen (orc_cons ok_sure4 (orc_cons ok_shl (orc_cons ok_dCmp orc_nil))))))) (by kernel_rfl) (by kernel_rfl) (by kernel_rfl) (loops_none (by kernel_rfl)) fun args r h => ?_
  unfold sp_lawNNI at h
  split at h
  · rename_i a x s r b y t q k
    simp only [Option.some.injEq, Prod.mk.injEq, Bool.and_eq_true] at h
    obtain ⟨⟨hs, ht⟩, rfl⟩ := h
    refine ⟨by kernel_rfl, .inl rfl, (run_order a x s r b y t q k).trans ?_⟩
    have lS := lenN_nS hs r
    have lT := lenN_nS ht q
    have c1 := (rnd_clamp lS (c := 200000) (by decide) x k false r).1
    have c2 := (rnd_clamp lT (c := 200000) (by decide) y k false q).1
    have b1 := size_le false (nS (valW s) r) (nE x r) k
    have b2 := size_le false (nS (valW t) q) (nE y q) k
    have hX : -200001 ≤ nE (clampI 200000 x) r ∧ nE (clampI 200000 x) r ≤ 200000 := by unfold nE clampI; split <;> omega
    have hY : -200001 ≤ nE (clampI 200000 y) q ∧ nE (clampI 200000 y) q ≤ 200000 := by unfold nE clampI; split <;> omega
    have z : sgnOf false = 0 := rfl
    unfold pR oE oS rndP
    rw [stk_eq, stk_eq, stk_eq, stk_eq, stk_eq, stk_eq, hs, ht, z, Nat.add_zero, Nat.add_zero, ← c1, ← c2]
    rw [← c1] at b1
    rw [← c2] at b2
    clear c1 c2
    have ho : nS (valW s) r * 2 ^ (nE (clampI 200000 x) r - min (nE (clampI 200000 x) r) (nE (clampI 200000 y) q)).toNat ≤ nS (valW t) q * 2 ^ (nE (clampI 200000 y) q - min (nE (clampI 200000 x) r) (nE (clampI 200000 y) q)).toNat →
        sizeP false (nS (valW s) r) (nE (clampI 200000 x) r) k ≤ sizeP false (nS (valW t) q) (nE (clampI 200000 y) q) k := fun h => size_order h
    generalize nE (clampI 200000 x) r = X at *
    generalize nE (clampI 200000 y) q = Y at *
    generalize nS (valW s) r = S at *
    generalize nS (valW t) q = T at *
    have hz : S = 0 → sizeP false S X k = 0 := fun h => if_pos h
    generalize sizeP false S X k = P at *
    generalize sizeP false T Y k = Q at *
    unfold infN at b1 b2
    unfold ro0 roZ
    rw [(dgl_zero S).1, (dgl_zero S).2, (dgl_zero T).2, decide_eq_false (show ¬ (P : Int) > 9218868437227405312 by omega), decide_eq_false (show ¬ (Q : Int) > 9218868437227405312 by omega)]
    by_cases hS : S = 0
    · have hc : roC (P : Int) (Q : Int) = roT := by unfold roC; rw [decide_eq_true (show (P : Int) ≤ (Q : Int) by rw [hz hS]; omega)]; rfl
      rw [decide_eq_true hS, decide_eq_false (not_not_intro hS), hc]
      cases (!decide (T ≠ 0)) <;> rfl
    · rw [decide_eq_false hS, decide_eq_true (show S ≠ 0 from hS)]
      by_cases hT : T = 0
      · rw [decide_eq_false (not_not_intro hT)]; rfl
      · rw [decide_eq_true (show T ≠ 0 from hT), ro2_at hX hY (by omega) (by omega) lS lT (fun h => by have := ho h; omega)]
        rfl
  · cases h
end
end Go.Proofs.Ytdkebceiljdgjaa
