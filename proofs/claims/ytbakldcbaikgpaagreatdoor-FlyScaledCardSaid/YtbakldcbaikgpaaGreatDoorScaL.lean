/- Little transforms, times a power of two: plain Lean. Own work. -/
import Derived.Test.YtbakldcbaikgpaaGreatDoorScaO
namespace Go.Proofs.YtbakldcbaikgpaaGreatDoor
set_option maxRecDepth 100000

def upZ (x : PZ) : PZ := (((scN x.1.toNat : Nat) : Int), ((scN x.2.toNat : Nat) : Int))
def KP (e t : Nat) (x : PZ) : Prop := Kt e t x.1.toNat ∧ Kt e t x.2.toNat
theorem KP.mono {e t e' t' : Nat} {x : PZ} (h : KP e t x) (h1 : e' ≤ e) (h2 : t ≤ t') : KP e' t' x := ⟨h.1.mono h1 h2, h.2.mono h1 h2⟩
theorem tN (n : Nat) : ((n : Nat) : Int).toNat = n := Int.toNat_natCast n
theorem Kt_zero {e t : Nat} : Kt e t 0 := ⟨by decide, by decide +kernel, by rw [show vL 0 = 0 by decide +kernel]; exact Nat.dvd_zero _, by rw [show vL 0 = 0 by decide +kernel]; exact Nat.zero_le _⟩
theorem KP_zero {e t : Nat} : KP e t (0, 0) := ⟨Kt_zero, Kt_zero⟩
theorem upZ_zero : upZ (0, 0) = (0, 0) := rfl
theorem gp_map (X : List PZ) (i : Nat) : gp (X.map upZ) i = upZ (gp X i) := by
  unfold gp
  rw [List.getD_eq_getElem?_getD, List.getD_eq_getElem?_getD, List.getElem?_map]
  cases X[i]? with
  | none => rfl
  | some x => rfl
theorem add_sc {e t : Nat} {x y : PZ} (hx : KP e t x) (hy : KP e t y) (he : 2000 ≤ e) (ht : t ≤ 3600) : pAdd (upZ x) (upZ y) = upZ (pAdd x y) ∧ pAddF (upZ x) (upZ y) = pAddF x y ∧ KP e (t + 3) (pAdd x y) := by
  obtain ⟨a1, a2, a3⟩ := ad_sc hx.1 hy.1 he ht
  obtain ⟨b1, b2, b3⟩ := ad_sc hx.2 hy.2 he ht
  unfold pAdd pAddF upZ KP
  simp only [tN]
  rw [a1, b1, a2, b2]
  exact ⟨rfl, rfl, a3, b3⟩
theorem sb_sc {e t q : Nat} (h : Kt e t q) (he : 2000 ≤ e) (ht : t ≤ 3600) : sbQ (scN q) = scN (sbQ q) ∧ Kt e t (sbQ q) := by
  obtain ⟨-, s2, -⟩ := h.sc he (by omega)
  have hm : absN q = 0 ∨ pE q ≤ 1720 := by rcases h.mid he (by omega) with h1 | h1 <;> omega
  have h1 := h.fin
  unfold sbQ
  rw [if_neg (by omega), if_neg (by omega), neg_scN hm]
  exact ⟨rfl, h.neg⟩
theorem sub_sc {e t : Nat} {x y : PZ} (hx : KP e t x) (hy : KP e t y) (he : 2000 ≤ e) (ht : t ≤ 3600) : pSub (upZ x) (upZ y) = upZ (pSub x y) ∧ pSubF (upZ x) (upZ y) = pSubF x y ∧ KP e (t + 3) (pSub x y) := by
  obtain ⟨c1, c2⟩ := sb_sc hy.1 he ht
  obtain ⟨d1, d2⟩ := sb_sc hy.2 he ht
  obtain ⟨a1, a2, a3⟩ := ad_sc hx.1 c2 he ht
  obtain ⟨b1, b2, b3⟩ := ad_sc hx.2 d2 he ht
  unfold pSub pSubF upZ KP
  simp only [tN]
  rw [c1, d1, a1, b1, a2, b2]
  exact ⟨rfl, rfl, a3, b3⟩
theorem more_sc {e t : Nat} {x y : PZ} {b : Int} (hx : KP (e + 110) t x) (hb : PtB b.toNat = true) (hy : KP e t y) (he : 2000 ≤ e) (ht : t ≤ 3600) : pMore (upZ x) b (upZ y) = upZ (pMore x b y) ∧ pMoreF (upZ x) b (upZ y) = pMoreF x b y ∧ KP e (t + 4) (pMore x b y) := by
  obtain ⟨a1, a2, a3⟩ := fm_sc hx.1 hb hy.1 he ht
  obtain ⟨b1, b2, b3⟩ := fm_sc hx.2 hb hy.2 he ht
  unfold pMore pMoreF upZ KP
  simp only [tN]
  rw [a1, b1, a2, b2]
  exact ⟨rfl, rfl, a3, b3⟩
theorem turn_sc {e t : Nat} {x : PZ} (hx : KP e t x) (bk : Bool) (he : 2000 ≤ e) (ht : t ≤ 3600) : cTurn (upZ x) bk = upZ (cTurn x bk) ∧ KP e t (cTurn x bk) := by
  have m1 : absN x.1.toNat = 0 ∨ pE x.1.toNat ≤ 1720 := by rcases hx.1.mid he (by omega) with h1 | h1 <;> omega
  have m2 : absN x.2.toNat = 0 ∨ pE x.2.toNat ≤ 1720 := by rcases hx.2.mid he (by omega) with h1 | h1 <;> omega
  cases bk
  · unfold cTurn upZ KP
    simp only [cond_false, tN]
    rw [neg_scN m2]
    exact ⟨rfl, hx.2.neg, hx.1⟩
  · unfold cTurn upZ KP
    simp only [cond_true, tN]
    rw [neg_scN m1]
    exact ⟨rfl, hx.2, hx.1.neg⟩

/-! ### Points -/
def ptsB (n : Nat) : Bool := (List.range n).all fun j => PtB (cosK j n) && PtB (sinK j n)
theorem pts3 : ptsB 3 = true := by decide +kernel
theorem pts5 : ptsB 5 = true := by decide +kernel
theorem pts7 : ptsB 7 = true := by decide +kernel
theorem pts11 : ptsB 11 = true := by decide +kernel
theorem pts13 : ptsB 13 = true := by decide +kernel
theorem pt_of {n : Nat} (hn : 0 < n) (h : ptsB n = true) (k : Int) : PtB (pCos k n).toNat = true ∧ PtB (pSin k n).toNat = true := by
  have hm0 := Int.emod_nonneg k (show (n : Int) ≠ 0 by omega)
  have hm1 := Int.emod_lt_of_pos k (show (0 : Int) < n by omega)
  have := List.all_eq_true.1 h (k % n).toNat (List.mem_range.2 (by omega))
  rw [Bool.and_eq_true] at this
  unfold pCos pSin cosZ sinZ
  rw [tN, tN, tN]
  exact this

/-! ### odd -/
theorem map_set (L : List PZ) (i : Nat) (x : PZ) : (L.map upZ).set i (upZ x) = (L.set i x).map upZ := (List.map_set ..).symm
def sFS (s : FS) : FS := (s.1, s.2.1.map upZ, s.2.2.1.map upZ, s.2.2.2.map upZ)
def kFS (e t j : Nat) (s : FS) : Prop := (∀ i, KP e (t + 3) (gp s.2.1 i)) ∧ (∀ i, KP e (t + 3) (gp s.2.2.1 i)) ∧ ∀ i, KP e (t + 3 + 3 * j) (gp s.2.2.2 i)
theorem kset {e t : Nat} {L : List PZ} (h : ∀ i, KP e t (gp L i)) (j : Nat) {x : PZ} (hx : KP e t x) : ∀ i, KP e t (gp (L.set j x) i) := by
  intro i
  have : gp (L.set j x) i = gp L i ∨ gp (L.set j x) i = x := by
    unfold gp
    rw [List.getD_eq_getElem?_getD, List.getD_eq_getElem?_getD, List.getElem?_set]
    split
    · split
      · exact .inr rfl
      · rename_i h1 h2
        left
        rw [List.getElem?_eq_none (by omega)]
    · exact .inl rfl
  rcases this with h1 | h1 <;> rw [h1]
  · exact h i
  · exact hx
theorem oA1_sc {e t : Nat} (he : 2000 ≤ e) {X : List PZ} (hX : ∀ i, KP e t (gp X i)) (n j : Nat) (s : FS) (h : kFS e t j s) (ht : t + 3 + 3 * j ≤ 3600) : oA1P (X.map upZ) n j (sFS s) = sFS (oA1P X n j s) ∧ kFS e t (j + 1) (oA1P X n j s) := by
  obtain ⟨h1, h2, h3⟩ := h
  obtain ⟨a1, a2, a3⟩ := add_sc (hX (j + 1)) (hX (n - j - 1)) he (by omega)
  obtain ⟨b1, b2, b3⟩ := sub_sc (hX (j + 1)) (hX (n - j - 1)) he (by omega)
  have k1 := kset h1 j a3
  obtain ⟨c1, c2, c3⟩ := add_sc (h3 0) ((k1 j).mono (Nat.le_refl _) (by omega)) he ht
  refine ⟨?_, k1, kset h2 j b3, ?_⟩
  · unfold oA1P sFS
    simp only
    rw [gp_map, gp_map, gp_map, a1, a2, b1, b2, map_set, map_set, gp_map, c1, c2, map_set]
  · intro i
    exact kset (fun i => (h3 i).mono (Nat.le_refl _) (show t + 3 + 3 * j ≤ t + 3 + 3 * (j + 1) by omega)) 0 (c3.mono (Nat.le_refl _) (by omega)) i
theorem oA_sc {e t : Nat} (he : 2000 ≤ e) {X : List PZ} (hX : ∀ i, KP e t (gp X i)) (n : Nat) : ∀ (q j : Nat) (s : FS), kFS e t j s → t + 3 + 3 * (j + q) ≤ 3600 → oAP (X.map upZ) n q j (sFS s) = sFS (oAP X n q j s) ∧ kFS e t (j + q) (oAP X n q j s)
  | 0, _, _, h, _ => ⟨rfl, h⟩
  | q + 1, j, s, h, ht => by
    obtain ⟨a1, a2⟩ := oA1_sc he hX n j s h (by omega)
    obtain ⟨b1, b2⟩ := oA_sc he hX n q (j + 1) (oA1P X n j s) a2 (by omega)
    rw [oAP, a1, b1, show j + (q + 1) = j + 1 + q by omega]
    exact ⟨rfl, b2⟩
def sIS (s : IS) : IS := (s.1, upZ s.2.1, upZ s.2.2)
theorem iA_sc {e t : Nat} (he : 2000 ≤ e) {S D : List PZ} (hS : ∀ i, KP (e + 110) t (gp S i)) (hD : ∀ i, KP (e + 110) t (gp D i)) (k n : Nat) (hn : 0 < n) (hp : ptsB n = true) : ∀ (q j : Nat) (s : IS), KP e (t + 4 * j) s.2.1 → KP e (t + 4 * j) s.2.2 → t + 4 * (j + q) ≤ 3600 →
    iAP (S.map upZ) (D.map upZ) k n q j (sIS s) = sIS (iAP S D k n q j s) ∧ KP e (t + 4 * (j + q)) (iAP S D k n q j s).2.1 ∧ KP e (t + 4 * (j + q)) (iAP S D k n q j s).2.2
  | 0, _, _, h1, h2, _ => ⟨rfl, h1, h2⟩
  | q + 1, j, s, h1, h2, ht => by
    obtain ⟨p1, p2⟩ := pt_of hn hp (((j + 1) * k : Nat) : Int)
    obtain ⟨a1, a2, a3⟩ := more_sc ((hS j).mono (Nat.le_refl _) (show t ≤ t + 4 * j by omega)) p1 h1 he (by omega)
    obtain ⟨b1, b2, b3⟩ := more_sc ((hD j).mono (Nat.le_refl _) (show t ≤ t + 4 * j by omega)) p2 h2 he (by omega)
    have e1 : iA1P (S.map upZ) (D.map upZ) k n j (sIS s) = sIS (iA1P S D k n j s) := by
      unfold iA1P sIS
      simp only
      rw [gp_map, gp_map, a1, a2, b1, b2]
    obtain ⟨c1, c2, c3⟩ := iA_sc he hS hD k n hn hp q (j + 1) (iA1P S D k n j s) a3 b3 (by omega)
    rw [iAP, e1, c1, show j + (q + 1) = j + 1 + q by omega]
    exact ⟨rfl, c2, c3⟩
def sBS (s : BS) : BS := (s.1, s.2.map upZ)
theorem oB_sc {e t : Nat} (he : 2000 ≤ e) {X S D : List PZ} (hX : KP e t (gp X 0)) (hS : ∀ i, KP (e + 110) t (gp S i)) (hD : ∀ i, KP (e + 110) t (gp D i)) (bk : Bool) (n h : Nat) (hn : 0 < n) (hp : ptsB n = true) (ht : t + 4 * h ≤ 3600) : ∀ (q k : Nat) (s : BS),
    oBP (X.map upZ) (S.map upZ) (D.map upZ) bk n h q k (sBS s) = sBS (oBP X S D bk n h q k s)
  | 0, _, _ => rfl
  | q + 1, k, s => by
    obtain ⟨a1, a2, a3⟩ := iA_sc he hS hD k n hn hp h 0 (s.1, gp X 0, (0, 0)) hX KP_zero (by omega)
    rw [Nat.zero_add] at a2 a3
    obtain ⟨b1, b2⟩ := turn_sc a3 (!bk) he ht
    obtain ⟨c1, c2, -⟩ := add_sc a2 b2 he ht
    obtain ⟨d1, d2, -⟩ := sub_sc a2 b2 he ht
    have e0 : iAP (S.map upZ) (D.map upZ) k n h 0 ((sBS s).1, gp (X.map upZ) 0, (0, 0)) = sIS (iAP S D k n h 0 (s.1, gp X 0, (0, 0))) := by
      rw [← a1, gp_map]
      rfl
    have e1 : oB1P (X.map upZ) (S.map upZ) (D.map upZ) bk n h k (sBS s) = sBS (oB1P X S D bk n h k s) := by
      unfold oB1P
      rw [e0]
      unfold oB2P sBS sIS
      simp only
      rw [b1, c1, c2, d1, d2, map_set, map_set]
    rw [oBP, e1]
    exact oB_sc he hX hS hD bk n h hn hp ht q (k + 1) (oB1P X S D bk n h k s)
theorem map_rep (n : Nat) : (List.replicate n ((0 : Int), (0 : Int))).map upZ = List.replicate n (0, 0) := by
  rw [List.map_replicate]; rfl
theorem gp_repl0 (n i : Nat) : gp (List.replicate n (0, 0)) i = (0, 0) := by
  unfold gp
  rw [List.getD_eq_getElem?_getD, List.getElem?_replicate]
  split <;> rfl
theorem oddRP_sc {e t : Nat} (he : 2000 ≤ e) {X : List PZ} (hX : ∀ i, KP (e + 110) t (gp X i)) (bk : Bool) (n : Nat) (hn : 0 < n) (hn2 : n ≤ 13) (hp : ptsB n = true) (ht : t ≤ 3500) (f : Int) :
    oddRP (X.map upZ) bk n f = sBS (oddRP X bk n f) := by
  obtain ⟨h, hh⟩ : ∃ h, (n - 1) / 2 = h := ⟨_, rfl⟩
  have k0 : kFS (e + 110) t 0 ((f, List.replicate h (0, 0), List.replicate h (0, 0), (List.replicate n (0, 0)).set 0 (gp X 0)) : FS) := by
    refine ⟨fun i => ?_, fun i => ?_, fun i => ?_⟩
    · show KP _ _ (gp (List.replicate h (0, 0)) i)
      rw [gp_repl0]; exact KP_zero
    · show KP _ _ (gp (List.replicate h (0, 0)) i)
      rw [gp_repl0]; exact KP_zero
    · exact kset (fun i => by rw [gp_repl0]; exact KP_zero) 0 ((hX 0).mono (Nat.le_refl _) (by omega)) i
  obtain ⟨a1, a2, a3, a4⟩ := oA_sc (by omega) hX n h 0 _ k0 (by omega)
  unfold oddRP oddSP oddTP
  rw [hh, gp_map]
  have e0 : ((f, List.replicate h (0, 0), List.replicate h (0, 0), (List.replicate n (0, 0)).set 0 (upZ (gp X 0))) : FS) = sFS (f, List.replicate h (0, 0), List.replicate h (0, 0), (List.replicate n (0, 0)).set 0 (gp X 0)) := by
    unfold sFS
    simp only
    rw [map_rep, ← map_set, map_rep]
  rw [e0, a1]
  generalize oAP X n h 0 ((f, List.replicate h (0, 0), List.replicate h (0, 0), (List.replicate n (0, 0)).set 0 (gp X 0)) : FS) = s at a2 a3
  exact oB_sc he ((hX 0).mono (show e ≤ e + 110 by omega) (show t ≤ t + 3 by omega)) a2 a3 bk n h hn hp (by omega) h 1 (s.1, s.2.2.2)

/-! ### All lengths -/
theorem lit_sc {e t : Nat} (he : 2000 ≤ e) {X : List PZ} (hX : ∀ i, KP (e + 110) t (gp X i)) (bk : Bool) {n : Nat} (hc : canN (n : Int) = true) (ht : t ≤ 3500) : litP (X.map upZ) bk n = sBS (litP X bk n) := by
  unfold canN at hc
  rw [decide_eq_true_eq] at hc
  have hX' : ∀ i, KP e t (gp X i) := fun i => (hX i).mono (by omega) (Nat.le_refl _)
  unfold litP
  by_cases h2 : n = 2
  · rw [if_pos h2, if_pos h2]
    obtain ⟨a1, a2, -⟩ := add_sc (hX' 0) (hX' 1) he (by omega)
    obtain ⟨b1, b2, -⟩ := sub_sc (hX' 0) (hX' 1) he (by omega)
    rw [gp_map, gp_map, a1, a2, b1, b2]
    rfl
  · rw [if_neg h2, if_neg h2]
    by_cases h4 : n = 4
    · rw [if_pos h4, if_pos h4]
      obtain ⟨a1, a2, a3⟩ := add_sc (hX' 0) (hX' 2) he (by omega)
      obtain ⟨b1, b2, b3⟩ := sub_sc (hX' 0) (hX' 2) he (by omega)
      obtain ⟨c1, c2, c3⟩ := add_sc (hX' 1) (hX' 3) he (by omega)
      obtain ⟨d1, d2, d3⟩ := sub_sc (hX' 1) (hX' 3) he (by omega)
      obtain ⟨f1, f2⟩ := turn_sc d3 (!bk) he (by omega)
      obtain ⟨g1, g2, -⟩ := add_sc a3 c3 he (by omega)
      obtain ⟨i1, i2, -⟩ := add_sc b3 f2 he (by omega)
      obtain ⟨j1, j2, -⟩ := sub_sc a3 c3 he (by omega)
      obtain ⟨k1, k2, -⟩ := sub_sc b3 f2 he (by omega)
      unfold fourGP four4P
      rw [gp_map, gp_map, gp_map, gp_map, a1, a2, b1, b2, c1, c2, d1, d2, f1, g1, g2, i1, i2, j1, j2, k1, k2]
      rfl
    · rw [if_neg h4, if_neg h4]
      have hp : ptsB n = true := by
        rcases (show n = 3 ∨ n = 5 ∨ n = 7 ∨ n = 11 ∨ n = 13 by omega) with rfl | rfl | rfl | rfl | rfl
        · exact pts3
        · exact pts5
        · exact pts7
        · exact pts11
        · exact pts13
      exact oddRP_sc he hX bk n (by omega) (by omega) hp ht 0
end Go.Proofs.YtbakldcbaikgpaaGreatDoor
