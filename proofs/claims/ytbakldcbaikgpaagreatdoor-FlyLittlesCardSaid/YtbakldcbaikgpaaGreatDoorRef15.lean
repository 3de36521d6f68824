/- The points of 2 to 13 parts: the reference's are the program's. Own work. -/
import Derived.Test.YtbakldcbaikgpaaGreatDoorRefP
import Derived.Test.YtbakldcbaikgpaaGreatDoorFlyA
namespace Go.Proofs.YtbakldcbaikgpaaGreatDoor
set_option maxRecDepth 100000
noncomputable section
def qm1 (k n : Nat) : Bool := decide (4 * k / n = 1 ∨ 4 * k / n = 2)
def qm2 (k n : Nat) : Bool := decide (¬ 4 * k / n = 0 ∧ ¬ 4 * k / n = 1)
def qx1 (k n : Nat) : Nat := if 4 * k / n = 0 ∨ 4 * k / n = 2 then poCS k n else poSN k n
def qx2 (k n : Nat) : Nat := if 4 * k / n = 0 ∨ 4 * k / n = 2 then poSN k n else poCS k n
theorem pzR_q (k n : Nat) : pzR k n = (rn16 (qm1 k n) (qx1 k n), rn16 (qm2 k n) (qx2 k n)) := by
  unfold pzR r16A r16B pm1 pm2 px1 px2
  rw [stk_eq, stk_eq, stk_eq, stk_eq]
  rfl
def samePs (n : Nat) : Bool := okRs n && ((List.range 37).all fun m => (rn16 (qm1 (m % n) n) (qx1 (m % n) n), rn16 (qm2 (m % n) n) (qx2 (m % n) n)) == (pCos m n, pSin m n))
theorem same2 : okRs 2 = true := by decide +kernel
theorem same4 : okRs 4 = true := by decide +kernel
theorem same3 : samePs 3 = true := by decide +kernel
theorem same5 : samePs 5 = true := by decide +kernel
theorem same7 : samePs 7 = true := by decide +kernel
theorem same11 : samePs 11 = true := by decide +kernel
theorem same13 : samePs 13 = true := by decide +kernel
theorem okRs_can {n : Nat} (h : canN n = true) : okRs n = true := by
  unfold canN at h
  rw [decide_eq_true_eq] at h
  have h' : n = 2 ∨ n = 3 ∨ n = 4 ∨ n = 5 ∨ n = 7 ∨ n = 11 ∨ n = 13 := by omega
  rcases h' with rfl | rfl | rfl | rfl | rfl | rfl | rfl
  · exact same2
  · exact (Bool.and_eq_true _ _ ▸ same3).1
  · exact same4
  · exact (Bool.and_eq_true _ _ ▸ same5).1
  · exact (Bool.and_eq_true _ _ ▸ same7).1
  · exact (Bool.and_eq_true _ _ ▸ same11).1
  · exact (Bool.and_eq_true _ _ ▸ same13).1
theorem ptsF_len (n : Nat) : ∀ q, (ptsF n q).length = q
  | 0 => rfl
  | q + 1 => by rw [ptsF, List.length_append, ptsF_len n q]; rfl
theorem ptsF_get (n : Nat) : ∀ (q k : Nat), k < q → gp (ptsF n q) k = pzR k n
  | q + 1, k, h => by
    have hl := ptsF_len n q
    unfold gp at *
    rw [ptsF, List.getD_eq_getElem?_getD]
    by_cases hk : k < q
    · rw [List.getElem?_append_left (by omega), ← List.getD_eq_getElem?_getD]
      exact ptsF_get n q k hk
    · have e : k = q := by omega
      subst e
      rw [List.getElem?_append_right (by omega), hl, Nat.sub_self]
      rfl
theorem pts_eq {n : Nat} (h : canN n = true) (ho : n % 2 = 1) {m : Nat} (hm : m < 37) : gp (ptsF n n) (m % n) = (pCos m n, pSin m n) := by
  unfold canN at h
  rw [decide_eq_true_eq] at h
  have h' : n = 3 ∨ n = 5 ∨ n = 7 ∨ n = 11 ∨ n = 13 := by omega
  have hs : samePs n = true := by
    rcases h' with rfl | rfl | rfl | rfl | rfl
    · exact same3
    · exact same5
    · exact same7
    · exact same11
    · exact same13
  unfold samePs at hs
  rw [Bool.and_eq_true, List.all_eq_true] at hs
  rw [ptsF_get n n _ (Nat.mod_lt _ (by omega)), pzR_q]
  exact eq_of_beq (hs.2 m (List.mem_range.2 hm))
end
end Go.Proofs.YtbakldcbaikgpaaGreatDoor
