/- Little transforms, as plain numbers. Own work. -/
import Derived.Test.YtbakldcbaikgpaaGreatDoorFly4
namespace Go.Proofs.YtbakldcbaikgpaaGreatDoor
set_option maxRecDepth 100000

/-! ### The same without marks -/
def pAdd (x y : PZ) : PZ := (((adPN x.1.toNat y.1.toNat 0 : Nat) : Int), ((adPN x.2.toNat y.2.toNat 0 : Nat) : Int))
def pAddF (x y : PZ) : Int := orI .u8 ((adFN x.1.toNat y.1.toNat 0 : Nat) : Int) ((adFN x.2.toNat y.2.toNat 0 : Nat) : Int)
def pSub (x y : PZ) : PZ := (((adPN x.1.toNat (sbQ y.1.toNat) 0 : Nat) : Int), ((adPN x.2.toNat (sbQ y.2.toNat) 0 : Nat) : Int))
def pSubF (x y : PZ) : Int := orI .u8 ((adFN x.1.toNat (sbQ y.1.toNat) 0 : Nat) : Int) ((adFN x.2.toNat (sbQ y.2.toNat) 0 : Nat) : Int)
def pMore (x : PZ) (b : Int) (y : PZ) : PZ := (((fmPN x.1.toNat b.toNat y.1.toNat 0 : Nat) : Int), ((fmPN x.2.toNat b.toNat y.2.toNat 0 : Nat) : Int))
def pMoreF (x : PZ) (b : Int) (y : PZ) : Int := orI .u8 ((fmFN x.1.toNat b.toNat y.1.toNat 0 : Nat) : Int) ((fmFN x.2.toNat b.toNat y.2.toNat 0 : Nat) : Int)
def pCos (k n : Int) : Int := ((cosZ k n : Nat) : Int)
def pSin (k n : Int) : Int := ((sinZ k n : Nat) : Int)
theorem cAdd_p : cAdd = pAdd := by funext x y; unfold cAdd pAdd adP; simp only [stk_eq]
theorem cAddF_p : cAddF = pAddF := by funext x y; unfold cAddF pAddF adF; simp only [stk_eq]
theorem cSub_p : cSub = pSub := by funext x y; unfold cSub pSub adP; simp only [stk_eq]
theorem cSubF_p : cSubF = pSubF := by funext x y; unfold cSubF pSubF adF; simp only [stk_eq]
theorem cMore_p : cMore = pMore := by funext x b y; unfold cMore pMore fmP; simp only [stk_eq]
theorem cMoreF_p : cMoreF = pMoreF := by funext x b y; unfold cMoreF pMoreF fmF; simp only [stk_eq]
theorem cosR_p : cosR = pCos := by funext k n; unfold cosR pCos; rw [stk_eq]
theorem sinR_p : sinR = pSin := by funext k n; unfold sinR pSin; rw [stk_eq]

def four4P (x0 x1 x2 x3 : PZ) (bk : Bool) : List PZ := [pAdd (pAdd x0 x2) (pAdd x1 x3), pAdd (pSub x0 x2) (cTurn (pSub x1 x3) (!bk)), pSub (pAdd x0 x2) (pAdd x1 x3), pSub (pSub x0 x2) (cTurn (pSub x1 x3) (!bk))]
def fourGP (x0 x1 x2 x3 : PZ) (bk : Bool) : List Int := [pAddF x0 x2, pSubF x0 x2, pAddF x1 x3, pSubF x1 x3, pAddF (pAdd x0 x2) (pAdd x1 x3), pAddF (pSub x0 x2) (cTurn (pSub x1 x3) (!bk)), pSubF (pAdd x0 x2) (pAdd x1 x3), pSubF (pSub x0 x2) (cTurn (pSub x1 x3) (!bk))]
def oA1P (X : List PZ) (n j : Nat) (s : FS) : FS :=
  (orI .u8 (orI .u8 (orI .u8 s.1 (pAddF (gp X (j + 1)) (gp X (n - j - 1)))) (pSubF (gp X (j + 1)) (gp X (n - j - 1)))) (pAddF (gp s.2.2.2 0) (gp (s.2.1.set j (pAdd (gp X (j + 1)) (gp X (n - j - 1)))) j)),
    s.2.1.set j (pAdd (gp X (j + 1)) (gp X (n - j - 1))), s.2.2.1.set j (pSub (gp X (j + 1)) (gp X (n - j - 1))),
    s.2.2.2.set 0 (pAdd (gp s.2.2.2 0) (gp (s.2.1.set j (pAdd (gp X (j + 1)) (gp X (n - j - 1)))) j)))
def oAP (X : List PZ) (n : Nat) : Nat → Nat → FS → FS
  | 0, _, s => s
  | q + 1, j, s => oAP X n q (j + 1) (oA1P X n j s)
def iA1P (S D : List PZ) (k n j : Nat) (s : IS) : IS :=
  (orI .u8 (orI .u8 s.1 (pMoreF (gp S j) (pCos (((j + 1) * k : Nat) : Int) n) s.2.1)) (pMoreF (gp D j) (pSin (((j + 1) * k : Nat) : Int) n) s.2.2),
    pMore (gp S j) (pCos (((j + 1) * k : Nat) : Int) n) s.2.1, pMore (gp D j) (pSin (((j + 1) * k : Nat) : Int) n) s.2.2)
def iAP (S D : List PZ) (k n : Nat) : Nat → Nat → IS → IS
  | 0, _, s => s
  | q + 1, j, s => iAP S D k n q (j + 1) (iA1P S D k n j s)
def oB2P (bk : Bool) (n k : Nat) (s : BS) (r : IS) : BS :=
  (orI .u8 (orI .u8 r.1 (pAddF r.2.1 (cTurn r.2.2 (!bk)))) (pSubF r.2.1 (cTurn r.2.2 (!bk))), (s.2.set k (pAdd r.2.1 (cTurn r.2.2 (!bk)))).set (n - k) (pSub r.2.1 (cTurn r.2.2 (!bk))))
def oB1P (X S D : List PZ) (bk : Bool) (n h k : Nat) (s : BS) : BS := oB2P bk n k s (iAP S D k n h 0 (s.1, gp X 0, (0, 0)))
def oBP (X S D : List PZ) (bk : Bool) (n h : Nat) : Nat → Nat → BS → BS
  | 0, _, s => s
  | q + 1, k, s => oBP X S D bk n h q (k + 1) (oB1P X S D bk n h k s)
def oddSP (X : List PZ) (n : Nat) (f : Int) : FS := oAP X n ((n - 1) / 2) 0 (f, List.replicate ((n - 1) / 2) (0, 0), List.replicate ((n - 1) / 2) (0, 0), (List.replicate n (0, 0)).set 0 (gp X 0))
def oddTP (X : List PZ) (bk : Bool) (n : Nat) (s : FS) : BS := oBP X s.2.1 s.2.2.1 bk n ((n - 1) / 2) ((n - 1) / 2) 1 (s.1, s.2.2.2)
def oddRP (X : List PZ) (bk : Bool) (n : Nat) (f : Int) : BS := oddTP X bk n (oddSP X n f)
def litP (X : List PZ) (bk : Bool) (n : Nat) : BS :=
  if n = 2 then (orI .u8 (orI .u8 0 (pAddF (gp X 0) (gp X 1))) (pSubF (gp X 0) (gp X 1)), [pAdd (gp X 0) (gp X 1), pSub (gp X 0) (gp X 1)])
  else if n = 4 then (orL 0 (fourGP (gp X 0) (gp X 1) (gp X 2) (gp X 3) bk), four4P (gp X 0) (gp X 1) (gp X 2) (gp X 3) bk)
  else oddRP X bk n 0

theorem oA1_p : oA1 = oA1P := by funext X n j s; unfold oA1 oA1P; rw [cAdd_p, cAddF_p, cSub_p, cSubF_p]
theorem oA_p (X : List PZ) (n : Nat) : ∀ (q j : Nat) (s : FS), oA X n q j s = oAP X n q j s
  | 0, _, _ => rfl
  | q + 1, j, s => by rw [oA, oAP, oA1_p]; exact oA_p X n q (j + 1) _
theorem iA1_p : iA1 = iA1P := by funext S D k n j s; unfold iA1 iA1P; rw [cMore_p, cMoreF_p, cosR_p, sinR_p]
theorem iA_p (S D : List PZ) (k n : Nat) : ∀ (q j : Nat) (s : IS), iA S D k n q j s = iAP S D k n q j s
  | 0, _, _ => rfl
  | q + 1, j, s => by rw [iA, iAP, iA1_p]; exact iA_p S D k n q (j + 1) _
theorem oB1_p : oB1 = oB1P := by funext X S D bk n h k s; unfold oB1 oB1P oB2P; rw [iA_p, cAdd_p, cAddF_p, cSub_p, cSubF_p]
theorem oB_p (X S D : List PZ) (bk : Bool) (n h : Nat) : ∀ (q k : Nat) (s : BS), oB X S D bk n h q k s = oBP X S D bk n h q k s
  | 0, _, _ => rfl
  | q + 1, k, s => by rw [oB, oBP, oB1_p]; exact oB_p X S D bk n h q (k + 1) _
theorem oddR_p (X : List PZ) (bk : Bool) (n : Nat) (f : Int) : oddR X bk n f = oddRP X bk n f := by
  unfold oddR oddRP oddTP oddSf oddSP
  rw [oA_p, oB_p]
theorem litR_p (X : List PZ) (bk : Bool) (n : Nat) : litR X bk n = litP X bk n := by
  unfold litR litP fourG fourGP four4 four4P
  rw [oddR_p, cAdd_p, cAddF_p, cSub_p, cSubF_p]

/-! ### Ones -/
def oneX (n : Nat) : List PZ := (List.replicate n (0, 0)).set 0 (4607182418800017408, 0)
def allX (n : Nat) : List PZ := List.replicate n (4607182418800017408, 0)
def nilB (z : Int) : Bool := z == 0 || z == 9223372036854775808
def sizeT : List Int := [4611686018427387904, 4613937818241073152, 4616189618054758400, 4617315517961601024, 4619567317775286272, 4622382067542392832, 4623507967449235456]
def ones1 (n : Nat) : Bool := (litP (oneX n) false n).1 == 0 && (litP (oneX n) false n).2.length == n && (litP (oneX n) false n).2.all (fun x => x.1 == 4607182418800017408 && nilB x.2)
def ones2 (n : Nat) (z : Int) : Bool := ((litP (allX n) false n).1 == 0 || (litP (allX n) false n).1 == 16) && (litP (allX n) false n).2.length == n && (gp (litP (allX n) false n).2 0) == (z, 0) && (!(n == 2 || n == 4) || ((litP (allX n) false n).2.drop 1).all (fun x => nilB x.1 && nilB x.2))
theorem ones1_2 : ones1 2 = true := by decide +kernel
theorem ones1_3 : ones1 3 = true := by decide +kernel
theorem ones1_4 : ones1 4 = true := by decide +kernel
theorem ones1_5 : ones1 5 = true := by decide +kernel
theorem ones1_7 : ones1 7 = true := by decide +kernel
theorem ones1_11 : ones1 11 = true := by decide +kernel
theorem ones1_13 : ones1 13 = true := by decide +kernel
theorem ones2_2 : ones2 2 4611686018427387904 = true := by decide +kernel
theorem ones2_3 : ones2 3 4613937818241073152 = true := by decide +kernel
theorem ones2_4 : ones2 4 4616189618054758400 = true := by decide +kernel
theorem ones2_5 : ones2 5 4617315517961601024 = true := by decide +kernel
theorem ones2_7 : ones2 7 4619567317775286272 = true := by decide +kernel
theorem ones2_11 : ones2 11 4622382067542392832 = true := by decide +kernel
theorem ones2_13 : ones2 13 4623507967449235456 = true := by decide +kernel
end Go.Proofs.YtbakldcbaikgpaaGreatDoor
