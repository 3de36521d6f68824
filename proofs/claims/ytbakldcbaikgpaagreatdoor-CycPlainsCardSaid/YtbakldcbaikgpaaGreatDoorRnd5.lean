/- RndOrder. Own work. -/
import Derived.Test.YtbakldcbaikgpaaGreatDoorDig6
namespace Go.Proofs.YtbakldcbaikgpaaGreatDoor
set_option maxRecDepth 100000
noncomputable section

def roT : Option AV := some (.bool true)
def roX : Option AV := some (.bool false)
def roC (p q : Int) : Option AV := bif decide (p ≤ q) then roT else roX
def roL (X Y : Int) : Int := if Y < X then Y else X
def ro2 (p q X Y : Int) (S T : Nat) : Option AV :=
  bif decide (w64 (X + lenI (valD (dg S))) < w64 (Y + lenI (valD (dg T)))) then roC p q else bif w64 (X + lenI (valD (dg S))) == w64 (Y + lenI (valD (dg T))) then
    chk (mayS (dgl S) (dg S) (w64 (X - roL X Y))) (chk (mayS (dgl T) (dg T) (w64 (Y - roL X Y))) (chk (mayC2 (dgl (valD (dg S) * 2 ^ (w64 (X - roL X Y)).toNat)) (dg (valD (dg S) * 2 ^ (w64 (X - roL X Y)).toNat)) (dgl (valD (dg T) * 2 ^ (w64 (Y - roL X Y)).toNat)) (dg (valD (dg T) * 2 ^ (w64 (Y - roL X Y)).toNat)))
      (bif !(decide (cmpD (dg (valD (dg S) * 2 ^ (w64 (X - roL X Y)).toNat)) (dg (valD (dg T) * 2 ^ (w64 (Y - roL X Y)).toNat)) < 0)) then roT else roC p q))) else roT
def ro1 (p q X Y : Int) (S T : Nat) : Option AV := chk (mayD (dgl S) (dg S)) (chk (mayD (dgl T) (dg T)) (ro2 p q X Y S T))
def roZ (p q : Int) (T : Nat) : Option AV := bif !(decide (((dgl T : Nat) : Int) > 0)) then roT else roC p q
def ro0 (p q X Y : Int) (S T : Nat) : Option AV :=
  bif decide (p > 9218868437227405312) then roX else bif decide (q > 9218868437227405312) then roX else
    bif ((dgl S : Nat) : Int) == 0 then (bif decide (((dgl S : Nat) : Int) > 0) then (bif decide (((dgl T : Nat) : Int) > 0) then ro1 p q X Y S T else roZ p q T) else roZ p q T)
    else (bif decide (((dgl S : Nat) : Int) > 0) then (bif decide (((dgl T : Nat) : Int) > 0) then ro1 p q X Y S T else roT) else roT)
theorem dgl_zero (v : Nat) : (((dgl v : Nat) : Int) == 0) = decide (v = 0) ∧ decide (((dgl v : Nat) : Int) > 0) = decide (v ≠ 0) := by
  have : (digN v).length = 0 ↔ v = 0 := by
    have := len_dig 0 v
    rw [Nat.pow_zero] at this
    omega
  unfold dgl
  rw [stk_eq]
  refine ⟨?_, decide_eq_decide.2 (by omega)⟩
  have e := eqN (digN v).length 0
  rw [show ((0 : Nat) : Int) = 0 from rfl] at e
  rw [e]
  exact decide_eq_decide.2 this

theorem shift_lt {S T : Nat} {X Y : Int} (_hS : 0 < S) (hT : 0 < T) (h : X + (lenN S : Int) < Y + (lenN T : Int)) : S * 2 ^ (X - min X Y).toNat ≤ T * 2 ^ (Y - min X Y).toNat := by
  have h1 : S * 2 ^ (X - min X Y).toNat < 2 ^ (lenN S + (X - min X Y).toNat) := by
    rw [Nat.pow_add]
    exact Nat.mul_lt_mul_of_pos_right (lt_lenN S) (Nat.two_pow_pos _)
  have h2 : 2 ^ (lenN T - 1 + (Y - min X Y).toNat) ≤ T * 2 ^ (Y - min X Y).toNat := by
    rw [Nat.pow_add]
    exact Nat.mul_le_mul_right _ (le_lenN hT)
  have hl := lenN_pos hT
  have h3 : (2 : Nat) ^ (lenN S + (X - min X Y).toNat) ≤ 2 ^ (lenN T - 1 + (Y - min X Y).toNat) := Nat.pow_le_pow_right (by decide) (by omega)
  omega

theorem ro2_at {p q : Int} {X Y : Int} {S T : Nat} (hX : -200001 ≤ X ∧ X ≤ 200000) (hY : -200001 ≤ Y ∧ Y ≤ 200000) (hS : 0 < S) (hT : 0 < T) (lS : lenN S ≤ 300) (lT : lenN T ≤ 300)
    (h : S * 2 ^ (X - min X Y).toNat ≤ T * 2 ^ (Y - min X Y).toNat → p ≤ q) : ro1 p q X Y S T = roT := by
  have hL : roL X Y = min X Y := by unfold roL; split <;> omega
  have e1 : w64 (X + ((lenN S : Nat) : Int)) = X + ((lenN S : Nat) : Int) := w64_mid (by omega) (by omega)
  have e2 : w64 (Y + ((lenN T : Nat) : Int)) = Y + ((lenN T : Nat) : Int) := w64_mid (by omega) (by omega)
  have e3 : w64 (X - min X Y) = X - min X Y := w64_mid (by omega) (by omega)
  have e4 : w64 (Y - min X Y) = Y - min X Y := w64_mid (by omega) (by omega)
  have sh : ∀ {v : Nat} {n : Int}, 0 < v → lenN v ≤ 300 → 0 ≤ n → n ≤ 500000 → lenN (v * 2 ^ n.toNat) ≤ 1000000 := by
    intro v n h1 h2 h3 h4
    rw [lenN_shl h1]
    omega
  unfold ro1 ro2 lenI
  rw [hL, val_dg, val_dg, mayD_dg (by omega), mayD_dg (by omega), stk_eq, stk_eq, e1, e2, e3, e4, mayS_dg (by omega) (by omega) (by omega), mayS_dg (by omega) (by omega) (by omega), mayC2_dg (sh hS lS (by omega) (by omega)) (sh hT lT (by omega) (by omega))]
  unfold cmpD roC
  rw [stk_eq, val_dg, val_dg]
  simp only [chk, cond_true]
  by_cases c1 : X + ((lenN S : Nat) : Int) < Y + ((lenN T : Nat) : Int)
  · rw [decide_eq_true c1, decide_eq_true (h (shift_lt hS hT c1))]; rfl
  · rw [decide_eq_false c1, cond_false]
    by_cases c2 : S * 2 ^ (X - min X Y).toNat < T * 2 ^ (Y - min X Y).toNat
    · rw [decide_eq_true (h (Nat.le_of_lt c2))]
      cases (X + ((lenN S : Nat) : Int) == Y + ((lenN T : Nat) : Int)) with
      | false => rfl
      | true => cases (!decide (cmpN (S * 2 ^ (X - min X Y).toNat) (T * 2 ^ (Y - min X Y).toNat) < 0)) <;> rfl
    · have : ¬ cmpN (S * 2 ^ (X - min X Y).toNat) (T * 2 ^ (Y - min X Y).toNat) < 0 := by
        unfold cmpN
        rw [if_neg c2]
        split <;> omega
      rw [decide_eq_false this]
      cases (X + ((lenN S : Nat) : Int) == Y + ((lenN T : Nat) : Int)) <;> rfl

def sp_lawNNI : List AV → Option (Bool × AV)
  | [.st [.bool _, .int .i64 _, .ints 4 .u64 s, .bool _], .st [.bool _, .int .i64 _, .ints 4 .u64 t, .bool _], .int .i64 _] => some (okW s && okW t, .bool true)
  | _ => none

theorem lenN_nS {s : List Int} (hs : okW s = true) (r : Bool) : lenN (nS (valW s) r) ≤ 300 := by
  have h1 := lenN_W hs
  have h2 : nS (valW s) r / 2 ^ 1 ≤ valW s := by
    have : nS (valW s) r ≤ 2 * valW s + 1 := by unfold nS; split <;> omega
    omega
  have h3 := lenN_mono h2
  rw [lenN_div] at h3
  omega

end
end Go.Proofs.YtbakldcbaikgpaaGreatDoor
