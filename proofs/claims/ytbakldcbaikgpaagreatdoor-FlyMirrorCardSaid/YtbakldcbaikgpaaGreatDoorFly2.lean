/- fly: four, odd. Own work. -/
import Derived.Test.YtbakldcbaikgpaaGreatDoorFly1
import Derived.Test.YtbakldcbaikgpaaGreatDoorTurnB
namespace Go.Proofs.YtbakldcbaikgpaaGreatDoor
set_option maxRecDepth 100000
noncomputable section

/-! ### four -/
def orL (f : Int) : List Int → Int
  | [] => f
  | g :: l => orL (orI .u8 f g) l
def four4 (x0 x1 x2 x3 : PZ) (bk : Bool) : List PZ := [cAdd (cAdd x0 x2) (cAdd x1 x3), cAdd (cSub x0 x2) (cTurn (cSub x1 x3) (!bk)), cSub (cAdd x0 x2) (cAdd x1 x3), cSub (cSub x0 x2) (cTurn (cSub x1 x3) (!bk))]
def fourG (x0 x1 x2 x3 : PZ) (bk : Bool) : List Int := [cAddF x0 x2, cSubF x0 x2, cAddF x1 x3, cSubF x1 x3, cAddF (cAdd x0 x2) (cAdd x1 x3), cAddF (cSub x0 x2) (cTurn (cSub x1 x3) (!bk)), cSubF (cAdd x0 x2) (cAdd x1 x3), cSubF (cSub x0 x2) (cTurn (cSub x1 x3) (!bk))]
def orcFour : List (FuncId × Ent) := [(34, entM false sp_fAdd), (35, entM false sp_fSub), (59, entS false sp_cTurn)]
theorem run_four (f : Int) (x0 x1 x2 x3 : PZ) (bk : Bool) : callM (env Tryz.f36.ntmps orcFour []) (bodyC Tryz.f36) Tryz.f36.results.toList [.rf 64 (.st [.int .u8 f]), .sl (.prs 4 .u64 [x0, x1, x2, x3]), .bool bk] some =
    chk (okPr x0 && okPr x2) (chk (okPr x0 && okPr x2) (chk (okPr x1 && okPr x3) (chk (okPr x1 && okPr x3) (chk (okPr (cSub x1 x3)) (chk (okPr (cAdd x0 x2) && okPr (cAdd x1 x3)) (chk (okPr (cSub x0 x2) && okPr (cTurn (cSub x1 x3) (!bk))) (chk (okPr (cAdd x0 x2) && okPr (cAdd x1 x3)) (chk (okPr (cSub x0 x2) && okPr (cTurn (cSub x1 x3) (!bk)))
      (some (.mt (.osl 44 (.prs 4 .u64 (four4 x0 x1 x2 x3 bk))) [.rf 64 (.st [.int .u8 (orL f (fourG x0 x1 x2 x3 bk))])]))))))))))  := by kernel_rfl
/-! ### odd: sums and differences -/
abbrev FS := Int × List PZ × List PZ × List PZ
def gp (X : List PZ) (i : Nat) : PZ := X.getD i (0, 0)
def okL (L : List PZ) : Bool := stk (L.all okPr)
def inX (i : Int) (n : Nat) : Bool := decide (0 ≤ i) && decide (i < n) && true
def oA1 (X : List PZ) (n j : Nat) (s : FS) : FS :=
  (orI .u8 (orI .u8 (orI .u8 s.1 (cAddF (gp X (j + 1)) (gp X (n - j - 1)))) (cSubF (gp X (j + 1)) (gp X (n - j - 1)))) (cAddF (gp s.2.2.2 0) (gp (s.2.1.set j (cAdd (gp X (j + 1)) (gp X (n - j - 1)))) j)),
    s.2.1.set j (cAdd (gp X (j + 1)) (gp X (n - j - 1))), s.2.2.1.set j (cSub (gp X (j + 1)) (gp X (n - j - 1))),
    s.2.2.2.set 0 (cAdd (gp s.2.2.2 0) (gp (s.2.1.set j (cAdd (gp X (j + 1)) (gp X (n - j - 1)))) j)))
def oA (X : List PZ) (n : Nat) : Nat → Nat → FS → FS
  | 0, _, s => s
  | q + 1, j, s => oA X n q (j + 1) (oA1 X n j s)
def oAk (X : List PZ) (n h : Nat) (f : Int) (S D O : List PZ) : FS := stk (oA X n h 0 (f, S, D, O))
def fitA (hs hd no n : Nat) (S D O X : List PZ) (N H : Int) : Bool := stk (decide (N = n ∧ H = hs ∧ hd = hs ∧ no = n ∧ S.length = hs ∧ D.length = hs ∧ O.length = n ∧ X.length = n ∧ 2 * hs < n ∧ n ≤ 1000)) && okL X && okL O
def stepA0 (R : Type) (vs : List AV) (k1 : List AV → Option R) (k2 : Nat → List AV → Option R) : Option R :=
  match vs with
  | [.st [.int .u8 f], .prs hs .u64 S, .prs hd .u64 D, .prs no .u64 O, .sl (.prs n .u64 X), .bool bk, .int .i64 N, .int .i64 H, .func 34, .func 35, .int .i64 H2, .int .i64 j] =>
    bif decide (j < H2) then
      let i1 := (w64 (j + 1)).toNat
      let i2 := (w64 (w64 (N - j) - 1)).toNat
      let p := gp X i1
      let q := gp X i2
      let S' := S.set j.toNat (cAdd p q)
      chk (inX (w64 (j + 1)) n) (chk (inX (w64 (w64 (N - j) - 1)) n) (chk (okPr p && okPr q) (chk (inX (w64 (j + 1)) n) (chk (inX (w64 (w64 (N - j) - 1)) n) (chk (okPr p && okPr q)
      (chk (inX j hs) (chk (inX j hd) (chk (inX 0 no) (chk (inX j hs) (chk (okPr (gp O 0) && okPr (gp S' j.toNat)) (chk (inX 0 no)
      (k1 [.st [.int .u8 (orI .u8 (orI .u8 (orI .u8 f (cAddF p q)) (cSubF p q)) (cAddF (gp O 0) (gp S' j.toNat)))], .prs hs .u64 S', .prs hd .u64 (D.set j.toNat (cSub p q)), .prs no .u64 (O.set 0 (cAdd (gp O 0) (gp S' j.toNat))),
        .sl (.prs n .u64 X), .bool bk, .int .i64 N, .int .i64 H, .func 34, .func 35, .int .i64 H2, .int .i64 (w64 (j + 1))]))))))))))))
    else k2 0 [.st [.int .u8 f], .prs hs .u64 S, .prs hd .u64 D, .prs no .u64 O, .sl (.prs n .u64 X), .bool bk, .int .i64 N, .int .i64 H]
  | _ => none
def refsF : List (Nat × Nat × TypeId × AV) := [(0, 8000, 64, .dead), (12, 12, 44, .prs 0 .u64 []), (13, 13, 44, .prs 0 .u64 []), (14, 14, 44, .prs 0 .u64 [])]
def leA0 : LEnt :=
  { inn := { fuel := none, keep := [1, 2, 8, 9, 10, 11, 39, 40], refs := refsF }
    out := { fuel := none, keep := [1, 2, 8, 9], refs := refsF }
    ret := { fuel := none, keep := [], refs := [] }
    go := fun _ _ vs kk => match vs with
      | [.st [.int .u8 f], .prs hs .u64 S, .prs hd .u64 D, .prs no .u64 O, .sl (.prs n .u64 X), .bool bk, .int .i64 N, .int .i64 H, .func 34, .func 35, .int .i64 H2, .int .i64 0] =>
        chk (fitA hs hd no n S D O X N H2) (kk 0 [.st [.int .u8 (oAk X n hs f S D O).1], .prs hs .u64 (oAk X n hs f S D O).2.1, .prs hd .u64 (oAk X n hs f S D O).2.2.1, .prs no .u64 (oAk X n hs f S D O).2.2.2, .sl (.prs n .u64 X), .bool bk, .int .i64 N, .int .i64 H])
      | _ => none }
def orcOdd : List (FuncId × Ent) := [(34, entM false sp_fAdd), (35, entM false sp_fSub), (57, entM false sp_did), (59, entS false sp_cTurn), (61, entS false sp_cMore), (60, entS false sp_tRootG)]
theorem step_A0 (R : Type) (f : Int) (hs hd no n : Nat) (S D O X : List PZ) (bk : Bool) (N H H2 j : Int) (k1 : List AV → Option R) (k2 : Nat → List AV → Option R) :
    runA (env Tryz.f37.ntmps orcOdd []) (loopOf 0 (bodyC Tryz.f37)) 0 (stateOf leA0.inn [.st [.int .u8 f], .prs hs .u64 S, .prs hd .u64 D, .prs no .u64 O, .sl (.prs n .u64 X), .bool bk, .int .i64 N, .int .i64 H, .func 34, .func 35, .int .i64 H2, .int .i64 j]) (bodyK leA0 0 k1 k2) =
    stepA0 R [.st [.int .u8 f], .prs hs .u64 S, .prs hd .u64 D, .prs no .u64 O, .sl (.prs n .u64 X), .bool bk, .int .i64 N, .int .i64 H, .func 34, .func 35, .int .i64 H2, .int .i64 j] k1 k2 := by kernel_rfl

/-! ### odd: one answer's two parts -/
abbrev IS := Int × PZ × PZ
def iA1 (S D : List PZ) (k n j : Nat) (s : IS) : IS :=
  (orI .u8 (orI .u8 s.1 (cMoreF (gp S j) (cosR (((j + 1) * k : Nat) : Int) n) s.2.1)) (cMoreF (gp D j) (sinR (((j + 1) * k : Nat) : Int) n) s.2.2),
    cMore (gp S j) (cosR (((j + 1) * k : Nat) : Int) n) s.2.1, cMore (gp D j) (sinR (((j + 1) * k : Nat) : Int) n) s.2.2)
def iA (S D : List PZ) (k n : Nat) : Nat → Nat → IS → IS
  | 0, _, s => s
  | q + 1, j, s => iA S D k n q (j + 1) (iA1 S D k n j s)
def iAk (S D : List PZ) (k : Int) (n h : Nat) (f : Int) (a b : PZ) : IS := stk (iA S D k.toNat n h 0 (f, a, b))
def fitI (hs hd n : Nat) (S D : List PZ) (a b : PZ) (N k H : Int) : Bool := stk (decide (N = n ∧ H = hs ∧ hd = hs ∧ S.length = hs ∧ D.length = hs ∧ 2 * hs < n ∧ n ≤ 1000 ∧ 0 ≤ k ∧ k ≤ 1000)) && okL S && okL D && okPr a && okPr b
def stepI4 (R : Type) (vs : List AV) (k1 : List AV → Option R) (k2 : Nat → List AV → Option R) : Option R :=
  match vs with
  | [.st [.int .u8 f], .prs hs .u64 S, .prs hd .u64 D, .prs no .u64 O, .st [.int .u64 a1, .int .u64 a2], .st [.int .u64 b1, .int .u64 b2], .sl (.prs n .u64 X), .bool bk, .int .i64 N, .int .i64 H, .int .i64 k, .int .i64 H2, .int .i64 j] =>
    bif decide (j < H2) then
      let c := cosR (w64 (w64 (j + 1) * k)) N
      let s := sinR (w64 (w64 (j + 1) * k)) N
      chk (okN N) (chk (inX j hs) (chk (okPr (gp S j.toNat) && inU c && okPr (a1, a2)) (chk (inX j hd) (chk (okPr (gp D j.toNat) && inU s && okPr (b1, b2))
      (k1 [.st [.int .u8 (orI .u8 (orI .u8 f (cMoreF (gp S j.toNat) c (a1, a2))) (cMoreF (gp D j.toNat) s (b1, b2)))], .prs hs .u64 S, .prs hd .u64 D, .prs no .u64 O,
        .st [.int .u64 (cMore (gp S j.toNat) c (a1, a2)).1, .int .u64 (cMore (gp S j.toNat) c (a1, a2)).2], .st [.int .u64 (cMore (gp D j.toNat) s (b1, b2)).1, .int .u64 (cMore (gp D j.toNat) s (b1, b2)).2],
        .sl (.prs n .u64 X), .bool bk, .int .i64 N, .int .i64 H, .int .i64 k, .int .i64 H2, .int .i64 (w64 (j + 1))])))))
    else k2 0 [.st [.int .u8 f], .prs hs .u64 S, .prs hd .u64 D, .prs no .u64 O, .st [.int .u64 a1, .int .u64 a2], .st [.int .u64 b1, .int .u64 b2], .sl (.prs n .u64 X), .bool bk, .int .i64 N, .int .i64 H, .int .i64 k]
  | _ => none
def refsI : List (Nat × Nat × TypeId × AV) := [(0, 8000, 64, .dead), (12, 12, 44, .prs 0 .u64 []), (13, 13, 44, .prs 0 .u64 []), (14, 14, 44, .prs 0 .u64 []), (17, 17, 44, .dead), (18, 18, 44, .dead)]
def leI4 : LEnt :=
  { inn := { fuel := none, keep := [1, 2, 8, 9, 16, 100, 101], refs := refsI }
    out := { fuel := none, keep := [1, 2, 8, 9, 16], refs := refsI }
    ret := { fuel := none, keep := [], refs := [] }
    go := fun _ _ vs kk => match vs with
      | [.st [.int .u8 f], .prs hs .u64 S, .prs hd .u64 D, .prs no .u64 O, .st [.int .u64 a1, .int .u64 a2], .st [.int .u64 b1, .int .u64 b2], .sl (.prs n .u64 X), .bool bk, .int .i64 N, .int .i64 H, .int .i64 k, .int .i64 H2, .int .i64 0] =>
        chk (fitI hs hd n S D (a1, a2) (b1, b2) N k H2) (kk 0 [.st [.int .u8 (iAk S D k n hs f (a1, a2) (b1, b2)).1], .prs hs .u64 S, .prs hd .u64 D, .prs no .u64 O,
          .st [.int .u64 (iAk S D k n hs f (a1, a2) (b1, b2)).2.1.1, .int .u64 (iAk S D k n hs f (a1, a2) (b1, b2)).2.1.2], .st [.int .u64 (iAk S D k n hs f (a1, a2) (b1, b2)).2.2.1, .int .u64 (iAk S D k n hs f (a1, a2) (b1, b2)).2.2.2],
          .sl (.prs n .u64 X), .bool bk, .int .i64 N, .int .i64 H, .int .i64 k])
      | _ => none }
theorem step_I4 (R : Type) (f : Int) (hs hd no n : Nat) (S D O X : List PZ) (a1 a2 b1 b2 : Int) (bk : Bool) (N H k H2 j : Int) (k1 : List AV → Option R) (k2 : Nat → List AV → Option R) :
    runA (env Tryz.f37.ntmps orcOdd []) (loopOf 4 (bodyC Tryz.f37)) 4 (stateOf leI4.inn [.st [.int .u8 f], .prs hs .u64 S, .prs hd .u64 D, .prs no .u64 O, .st [.int .u64 a1, .int .u64 a2], .st [.int .u64 b1, .int .u64 b2], .sl (.prs n .u64 X), .bool bk, .int .i64 N, .int .i64 H, .int .i64 k, .int .i64 H2, .int .i64 j]) (bodyK leI4 4 k1 k2) =
    stepI4 R [.st [.int .u8 f], .prs hs .u64 S, .prs hd .u64 D, .prs no .u64 O, .st [.int .u64 a1, .int .u64 a2], .st [.int .u64 b1, .int .u64 b2], .sl (.prs n .u64 X), .bool bk, .int .i64 N, .int .i64 H, .int .i64 k, .int .i64 H2, .int .i64 j] k1 k2 := by kernel_rfl

/-! ### odd: all answers -/
abbrev BS := Int × List PZ
def oB1 (X S D : List PZ) (bk : Bool) (n h k : Nat) (s : BS) : BS :=
  let r := iA S D k n h 0 (s.1, gp X 0, (0, 0))
  let e := cTurn r.2.2 (!bk)
  (orI .u8 (orI .u8 r.1 (cAddF r.2.1 e)) (cSubF r.2.1 e), (s.2.set k (cAdd r.2.1 e)).set (n - k) (cSub r.2.1 e))
def oB (X S D : List PZ) (bk : Bool) (n h : Nat) : Nat → Nat → BS → BS
  | 0, _, s => s
  | q + 1, k, s => oB X S D bk n h q (k + 1) (oB1 X S D bk n h k s)
def oBk (X S D O : List PZ) (bk : Bool) (n h : Nat) (f : Int) : BS := stk (oB X S D bk n h h 1 (f, O))
def fitB (hs hd no n : Nat) (S D O X : List PZ) (N H : Int) : Bool := stk (decide (N = n ∧ H = hs ∧ hd = hs ∧ no = n ∧ S.length = hs ∧ D.length = hs ∧ O.length = n ∧ X.length = n ∧ 2 * hs < n ∧ n ≤ 1000)) && okL X && okL S && okL D
def stepB2 (R : Type) (vs : List AV) (k1 : List AV → Option R) (k2 : Nat → List AV → Option R) : Option R :=
  match vs with
  | [.st [.int .u8 f], .prs hs .u64 S, .prs hd .u64 D, .prs no .u64 O, .sl (.prs n .u64 X), .bool bk, .int .i64 N, .int .i64 H, .int .i64 k] =>
    bif decide (k ≤ H) then
      let r := iAk S D k n hs f ((gp X 0).1, (gp X 0).2) (0, 0)
      let e := cTurn (r.2.2.1, r.2.2.2) (!bk)
      chk (inX 0 n) (chk (fitI hs hd n S D ((gp X 0).1, (gp X 0).2) (0, 0) N k H) (chk (okPr (r.2.2.1, r.2.2.2)) (chk (okPr (r.2.1.1, r.2.1.2) && okPr (e.1, e.2)) (chk (okPr (r.2.1.1, r.2.1.2) && okPr (e.1, e.2)) (chk (inX k no) (chk (inX (w64 (N - k)) no)
      (k1 [.st [.int .u8 (orI .u8 (orI .u8 r.1 (cAddF (r.2.1.1, r.2.1.2) (e.1, e.2))) (cSubF (r.2.1.1, r.2.1.2) (e.1, e.2)))], .prs hs .u64 S, .prs hd .u64 D,
        .prs no .u64 ((O.set k.toNat ((cAdd (r.2.1.1, r.2.1.2) (e.1, e.2)).1, (cAdd (r.2.1.1, r.2.1.2) (e.1, e.2)).2)).set (w64 (N - k)).toNat ((cSub (r.2.1.1, r.2.1.2) (e.1, e.2)).1, (cSub (r.2.1.1, r.2.1.2) (e.1, e.2)).2)),
        .sl (.prs n .u64 X), .bool bk, .int .i64 N, .int .i64 H, .int .i64 (w64 (k + 1))])))))))
    else k2 0 [.st [.int .u8 f], .prs no .u64 O]
  | _ => none
def leB2 : LEnt :=
  { inn := { fuel := none, keep := [1, 2, 8, 9, 16], refs := refsF }
    out := { fuel := none, keep := [], refs := [(0, 8000, 64, .dead), (14, 14, 44, .prs 0 .u64 [])] }
    ret := { fuel := none, keep := [], refs := [] }
    go := fun _ _ vs kk => match vs with
      | [.st [.int .u8 f], .prs hs .u64 S, .prs hd .u64 D, .prs no .u64 O, .sl (.prs n .u64 X), .bool bk, .int .i64 N, .int .i64 H, .int .i64 1] =>
        chk (fitB hs hd no n S D O X N H) (kk 0 [.st [.int .u8 (oBk X S D O bk n hs f).1], .prs no .u64 (oBk X S D O bk n hs f).2])
      | _ => none }
theorem step_B2 (R : Type) (f : Int) (hs hd no n : Nat) (S D O X : List PZ) (bk : Bool) (N H k : Int) (k1 : List AV → Option R) (k2 : Nat → List AV → Option R) :
    runA (env Tryz.f37.ntmps orcOdd [(4, leI4)]) (loopOf 2 (bodyC Tryz.f37)) 2 (stateOf leB2.inn [.st [.int .u8 f], .prs hs .u64 S, .prs hd .u64 D, .prs no .u64 O, .sl (.prs n .u64 X), .bool bk, .int .i64 N, .int .i64 H, .int .i64 k]) (bodyK leB2 2 k1 k2) =
    stepB2 R [.st [.int .u8 f], .prs hs .u64 S, .prs hd .u64 D, .prs no .u64 O, .sl (.prs n .u64 X), .bool bk, .int .i64 N, .int .i64 H, .int .i64 k] k1 k2 := by kernel_rfl
end
end Go.Proofs.YtbakldcbaikgpaaGreatDoor
