/- The texts Fly2, Fly3, Fly4, FlyN, joined. Own work. -/
import Derived.Test.YtbakldcbaikgpaaGreatDoorProA
import Derived.Test.YtbakldcbaikgpaaGreatDoorTurnA
/- fly: four, odd. Own work. -/
namespace Go.Proofs.YtbakldcbaikgpaaGreatDoor
set_option maxRecDepth 100000
noncomputable section
/-! ### four -/
def orL (f : Int) : List Int → Int
  | [] => f
  | g :: l => orL (orI .u8 f g) l
def four4 (x0 x1 x2 x3 : PZ) (bk : Bool) : List PZ := [cAdd (cAdd x0 x2) (cAdd x1 x3), cAdd (cSub x0 x2) (cTurn (cSub x1 x3) (!bk)), cSub (cAdd x0 x2) (cAdd x1 x3), cSub (cSub x0 x2) (cTurn (cSub x1 x3) (!bk))]
def fourG (x0 x1 x2 x3 : PZ) (bk : Bool) : List Int := [cAddF x0 x2, cSubF x0 x2, cAddF x1 x3, cSubF x1 x3, cAddF (cAdd x0 x2) (cAdd x1 x3), cAddF (cSub x0 x2) (cTurn (cSub x1 x3) (!bk)), cSubF (cAdd x0 x2) (cAdd x1 x3), cSubF (cSub x0 x2) (cTurn (cSub x1 x3) (!bk))]
def orcFour : List (FuncId × Ent) := [(34, entM false sp_fAdd), (35, entM false sp_fSub), (59, entS false sp_cTurn)]
theorem run_four (f : Int) (x0 x1 x2 x3 : PZ) (bk : Bool) : callM (env Tryz.f36.ntmps orcFour []) (bodyC Tryz.f36) Tryz.f36.results.toList [.rf 64 (.st [.int .u8 f]), .sl (.prs 4 .u64 [x0, x1, x2, x3]), .bool bk] some =
    chk (okPr x0 && okPr x2) (chk (okPr x0 && okPr x2) (chk (okPr x1 && okPr x3) (chk (okPr x1 && okPr x3) (chk (okPr (cSub x1 x3)) (chk (okPr (cAdd x0 x2) && okPr (cAdd x1 x3)) (chk (okPr (cSub x0 x2) && okPr (cTurn (cSub x1 x3) (!bk))) (chk (okPr (cAdd x0 x2) && okPr (cAdd x1 x3)) (chk (okPr (cSub x0 x2) && okPr (cTurn (cSub x1 x3) (!bk)))
      (some (.mt (.osl 44 (.prs 4 .u64 (four4 x0 x1 x2 x3 bk))) [.rf 64 (.st [.int .u8 (orL f (fourG x0 x1 x2 x3 bk))])]))))))))))  := by kernel_rfl
/-! ### odd: sums and differences -/
abbrev FS := Int × List PZ × List PZ × List PZ
def gp (X : List PZ) (i : Nat) : PZ := X.getD i (0, 0)
def okL (L : List PZ) : Bool := stk (L.all okPr)
def inX (i : Int) (n : Nat) : Bool := decide (0 ≤ i) && decide (i < n) && true
def oA1 (X : List PZ) (n j : Nat) (s : FS) : FS :=
  (orI .u8 (orI .u8 (orI .u8 s.1 (cAddF (gp X (j + 1)) (gp X (n - j - 1)))) (cSubF (gp X (j + 1)) (gp X (n - j - 1)))) (cAddF (gp s.2.2.2 0) (gp (s.2.1.set j (cAdd (gp X (j + 1)) (gp X (n - j - 1)))) j)),
    s.2.1.set j (cAdd (gp X (j + 1)) (gp X (n - j - 1))), s.2.2.1.set j (cSub (gp X (j + 1)) (gp X (n - j - 1))),
    s.2.2.2.set 0 (cAdd (gp s.2.2.2 0) (gp (s.2.1.set j (cAdd (gp X (j + 1)) (gp X (n - j - 1)))) j)))
def oA (X : List PZ) (n : Nat) : Nat → Nat → FS → FS
  | 0, _, s => s
  | q + 1, j, s => oA X n q (j + 1) (oA1 X n j s)
def oAk (X : List PZ) (n h : Nat) (f : Int) (S D O : List PZ) : FS := stk (oA X n h 0 (f, S, D, O))
def fitA (hs hd no n : Nat) (S D O X : List PZ) (N H : Int) : Bool := stk (decide (N = n ∧ H = hs ∧ hd = hs ∧ no = n ∧ S.length = hs ∧ D.length = hs ∧ O.length = n ∧ X.length = n ∧ 2 * hs < n ∧ n ≤ 1000)) && okL X && okL O
def stepA0 (R : Type) (vs : List AV) (k1 : List AV → Option R) (k2 : Nat → List AV → Option R) : Option R :=
  match vs with
  | [.st [.int .u8 f], .prs hs .u64 S, .prs hd .u64 D, .prs no .u64 O, .sl (.prs n .u64 X), .bool bk, .int .i64 N, .int .i64 H, .func 34, .func 35, .int .i64 H2, .int .i64 j] =>
    bif decide (j < H2) then
      let i1 := (w64 (j + 1)).toNat
      let i2 := (w64 (w64 (N - j) - 1)).toNat
      let p := gp X i1
      let q := gp X i2
      let S' := S.set j.toNat (cAdd p q)
      chk (inX (w64 (j + 1)) n) (chk (inX (w64 (w64 (N - j) - 1)) n) (chk (okPr p && okPr q) (chk (inX (w64 (j + 1)) n) (chk (inX (w64 (w64 (N - j) - 1)) n) (chk (okPr p && okPr q)
      (chk (inX j hs) (chk (inX j hd) (chk (inX 0 no) (chk (inX j hs) (chk (okPr (gp O 0) && okPr (gp S' j.toNat)) (chk (inX 0 no)
      (k1 [.st [.int .u8 (orI .u8 (orI .u8 (orI .u8 f (cAddF p q)) (cSubF p q)) (cAddF (gp O 0) (gp S' j.toNat)))], .prs hs .u64 S', .prs hd .u64 (D.set j.toNat (cSub p q)), .prs no .u64 (O.set 0 (cAdd (gp O 0) (gp S' j.toNat))),
        .sl (.prs n .u64 X), .bool bk, .int .i64 N, .int .i64 H, .func 34, .func 35, .int .i64 H2, .int .i64 (w64 (j + 1))]))))))))))))
    else k2 0 [.st [.int .u8 f], .prs hs .u64 S, .prs hd .u64 D, .prs no .u64 O, .sl (.prs n .u64 X), .bool bk, .int .i64 N, .int .i64 H]
  | _ => none
def refsF : List (Nat × Nat × TypeId × AV) := [(0, 8000, 64, .dead), (12, 12, 44, .prs 0 .u64 []), (13, 13, 44, .prs 0 .u64 []), (14, 14, 44, .prs 0 .u64 [])]
def leA0 : LEnt :=
  { inn := { fuel := none, keep := [1, 2, 8, 9, 10, 11, 39, 40], refs := refsF }
    out := { fuel := none, keep := [1, 2, 8, 9], refs := refsF }
    ret := { fuel := none, keep := [], refs := [] }
    go := fun _ _ vs kk => match vs with
      | [.st [.int .u8 f], .prs hs .u64 S, .prs hd .u64 D, .prs no .u64 O, .sl (.prs n .u64 X), .bool bk, .int .i64 N, .int .i64 H, .func 34, .func 35, .int .i64 H2, .int .i64 0] =>
        chk (fitA hs hd no n S D O X N H2) (kk 0 [.st [.int .u8 (oAk X n hs f S D O).1], .prs hs .u64 (oAk X n hs f S D O).2.1, .prs hd .u64 (oAk X n hs f S D O).2.2.1, .prs no .u64 (oAk X n hs f S D O).2.2.2, .sl (.prs n .u64 X), .bool bk, .int .i64 N, .int .i64 H])
      | _ => none }
def orcOdd : List (FuncId × Ent) := [(34, entM false sp_fAdd), (35, entM false sp_fSub), (57, entM false sp_did), (59, entS false sp_cTurn), (61, entS false sp_cMore), (60, entS false sp_tRootG)]
theorem step_A0 (R : Type) (f : Int) (hs hd no n : Nat) (S D O X : List PZ) (bk : Bool) (N H H2 j : Int) (k1 : List AV → Option R) (k2 : Nat → List AV → Option R) :
    runA (env Tryz.f37.ntmps orcOdd []) (loopOf 0 (bodyC Tryz.f37)) 0 (stateOf leA0.inn [.st [.int .u8 f], .prs hs .u64 S, .prs hd .u64 D, .prs no .u64 O, .sl (.prs n .u64 X), .bool bk, .int .i64 N, .int .i64 H, .func 34, .func 35, .int .i64 H2, .int .i64 j]) (bodyK leA0 0 k1 k2) =
    stepA0 R [.st [.int .u8 f], .prs hs .u64 S, .prs hd .u64 D, .prs no .u64 O, .sl (.prs n .u64 X), .bool bk, .int .i64 N, .int .i64 H, .func 34, .func 35, .int .i64 H2, .int .i64 j] k1 k2 := by kernel_rfl
/-! ### odd: one answer's two parts -/
abbrev IS := Int × PZ × PZ
def iA1 (S D : List PZ) (k n j : Nat) (s : IS) : IS :=
  (orI .u8 (orI .u8 s.1 (cMoreF (gp S j) (cosR (((j + 1) * k : Nat) : Int) n) s.2.1)) (cMoreF (gp D j) (sinR (((j + 1) * k : Nat) : Int) n) s.2.2),
    cMore (gp S j) (cosR (((j + 1) * k : Nat) : Int) n) s.2.1, cMore (gp D j) (sinR (((j + 1) * k : Nat) : Int) n) s.2.2)
def iA (S D : List PZ) (k n : Nat) : Nat → Nat → IS → IS
  | 0, _, s => s
  | q + 1, j, s => iA S D k n q (j + 1) (iA1 S D k n j s)
def iAk (S D : List PZ) (k : Int) (n h : Nat) (f : Int) (a b : PZ) : IS := stk (iA S D k.toNat n h 0 (f, a, b))
def fitI (hs hd n : Nat) (S D : List PZ) (a b : PZ) (N k H : Int) : Bool := stk (decide (N = n ∧ H = hs ∧ hd = hs ∧ S.length = hs ∧ D.length = hs ∧ 2 * hs < n ∧ n ≤ 1000 ∧ 0 ≤ k ∧ k ≤ 1000)) && okL S && okL D && okPr a && okPr b
def stepI4 (R : Type) (vs : List AV) (k1 : List AV → Option R) (k2 : Nat → List AV → Option R) : Option R :=
  match vs with
  | [.st [.int .u8 f], .prs hs .u64 S, .prs hd .u64 D, .prs no .u64 O, .st [.int .u64 a1, .int .u64 a2], .st [.int .u64 b1, .int .u64 b2], .sl (.prs n .u64 X), .bool bk, .int .i64 N, .int .i64 H, .int .i64 k, .int .i64 H2, .int .i64 j] =>
    bif decide (j < H2) then
      let c := cosR (w64 (w64 (j + 1) * k)) N
      let s := sinR (w64 (w64 (j + 1) * k)) N
      chk (okN N) (chk (inX j hs) (chk (okPr (gp S j.toNat) && inU c && okPr (a1, a2)) (chk (inX j hd) (chk (okPr (gp D j.toNat) && inU s && okPr (b1, b2))
      (k1 [.st [.int .u8 (orI .u8 (orI .u8 f (cMoreF (gp S j.toNat) c (a1, a2))) (cMoreF (gp D j.toNat) s (b1, b2)))], .prs hs .u64 S, .prs hd .u64 D, .prs no .u64 O,
        .st [.int .u64 (cMore (gp S j.toNat) c (a1, a2)).1, .int .u64 (cMore (gp S j.toNat) c (a1, a2)).2], .st [.int .u64 (cMore (gp D j.toNat) s (b1, b2)).1, .int .u64 (cMore (gp D j.toNat) s (b1, b2)).2],
        .sl (.prs n .u64 X), .bool bk, .int .i64 N, .int .i64 H, .int .i64 k, .int .i64 H2, .int .i64 (w64 (j + 1))])))))
    else k2 0 [.st [.int .u8 f], .prs hs .u64 S, .prs hd .u64 D, .prs no .u64 O, .st [.int .u64 a1, .int .u64 a2], .st [.int .u64 b1, .int .u64 b2], .sl (.prs n .u64 X), .bool bk, .int .i64 N, .int .i64 H, .int .i64 k]
  | _ => none
def refsI : List (Nat × Nat × TypeId × AV) := [(0, 8000, 64, .dead), (12, 12, 44, .prs 0 .u64 []), (13, 13, 44, .prs 0 .u64 []), (14, 14, 44, .prs 0 .u64 []), (17, 17, 44, .dead), (18, 18, 44, .dead)]
def leI4 : LEnt :=
  { inn := { fuel := none, keep := [1, 2, 8, 9, 16, 100, 101], refs := refsI }
    out := { fuel := none, keep := [1, 2, 8, 9, 16], refs := refsI }
    ret := { fuel := none, keep := [], refs := [] }
    go := fun _ _ vs kk => match vs with
      | [.st [.int .u8 f], .prs hs .u64 S, .prs hd .u64 D, .prs no .u64 O, .st [.int .u64 a1, .int .u64 a2], .st [.int .u64 b1, .int .u64 b2], .sl (.prs n .u64 X), .bool bk, .int .i64 N, .int .i64 H, .int .i64 k, .int .i64 H2, .int .i64 0] =>
        chk (fitI hs hd n S D (a1, a2) (b1, b2) N k H2) (kk 0 [.st [.int .u8 (iAk S D k n hs f (a1, a2) (b1, b2)).1], .prs hs .u64 S, .prs hd .u64 D, .prs no .u64 O,
          .st [.int .u64 (iAk S D k n hs f (a1, a2) (b1, b2)).2.1.1, .int .u64 (iAk S D k n hs f (a1, a2) (b1, b2)).2.1.2], .st [.int .u64 (iAk S D k n hs f (a1, a2) (b1, b2)).2.2.1, .int .u64 (iAk S D k n hs f (a1, a2) (b1, b2)).2.2.2],
          .sl (.prs n .u64 X), .bool bk, .int .i64 N, .int .i64 H, .int .i64 k])
      | _ => none }
theorem step_I4 (R : Type) (f : Int) (hs hd no n : Nat) (S D O X : List PZ) (a1 a2 b1 b2 : Int) (bk : Bool) (N H k H2 j : Int) (k1 : List AV → Option R) (k2 : Nat → List AV → Option R) :
    runA (env Tryz.f37.ntmps orcOdd []) (loopOf 4 (bodyC Tryz.f37)) 4 (stateOf leI4.inn [.st [.int .u8 f], .prs hs .u64 S, .prs hd .u64 D, .prs no .u64 O, .st [.int .u64 a1, .int .u64 a2], .st [.int .u64 b1, .int .u64 b2], .sl (.prs n .u64 X), .bool bk, .int .i64 N, .int .i64 H, .int .i64 k, .int .i64 H2, .int .i64 j]) (bodyK leI4 4 k1 k2) =
    stepI4 R [.st [.int .u8 f], .prs hs .u64 S, .prs hd .u64 D, .prs no .u64 O, .st [.int .u64 a1, .int .u64 a2], .st [.int .u64 b1, .int .u64 b2], .sl (.prs n .u64 X), .bool bk, .int .i64 N, .int .i64 H, .int .i64 k, .int .i64 H2, .int .i64 j] k1 k2 := by kernel_rfl
/-! ### odd: all answers -/
abbrev BS := Int × List PZ
def oB1 (X S D : List PZ) (bk : Bool) (n h k : Nat) (s : BS) : BS :=
  let r := iA S D k n h 0 (s.1, gp X 0, (0, 0))
  let e := cTurn r.2.2 (!bk)
  (orI .u8 (orI .u8 r.1 (cAddF r.2.1 e)) (cSubF r.2.1 e), (s.2.set k (cAdd r.2.1 e)).set (n - k) (cSub r.2.1 e))
def oB (X S D : List PZ) (bk : Bool) (n h : Nat) : Nat → Nat → BS → BS
  | 0, _, s => s
  | q + 1, k, s => oB X S D bk n h q (k + 1) (oB1 X S D bk n h k s)
def oBk (X S D O : List PZ) (bk : Bool) (n h : Nat) (f : Int) : BS := stk (oB X S D bk n h h 1 (f, O))
def fitB (hs hd no n : Nat) (S D O X : List PZ) (N H : Int) : Bool := stk (decide (N = n ∧ H = hs ∧ hd = hs ∧ no = n ∧ S.length = hs ∧ D.length = hs ∧ O.length = n ∧ X.length = n ∧ 2 * hs < n ∧ n ≤ 1000)) && okL X && okL S && okL D
def stepB2 (R : Type) (vs : List AV) (k1 : List AV → Option R) (k2 : Nat → List AV → Option R) : Option R :=
  match vs with
  | [.st [.int .u8 f], .prs hs .u64 S, .prs hd .u64 D, .prs no .u64 O, .sl (.prs n .u64 X), .bool bk, .int .i64 N, .int .i64 H, .int .i64 k] =>
    bif decide (k ≤ H) then
      let r := iAk S D k n hs f ((gp X 0).1, (gp X 0).2) (0, 0)
      let e := cTurn (r.2.2.1, r.2.2.2) (!bk)
      chk (inX 0 n) (chk (fitI hs hd n S D ((gp X 0).1, (gp X 0).2) (0, 0) N k H) (chk (okPr (r.2.2.1, r.2.2.2)) (chk (okPr (r.2.1.1, r.2.1.2) && okPr (e.1, e.2)) (chk (okPr (r.2.1.1, r.2.1.2) && okPr (e.1, e.2)) (chk (inX k no) (chk (inX (w64 (N - k)) no)
      (k1 [.st [.int .u8 (orI .u8 (orI .u8 r.1 (cAddF (r.2.1.1, r.2.1.2) (e.1, e.2))) (cSubF (r.2.1.1, r.2.1.2) (e.1, e.2)))], .prs hs .u64 S, .prs hd .u64 D,
        .prs no .u64 ((O.set k.toNat ((cAdd (r.2.1.1, r.2.1.2) (e.1, e.2)).1, (cAdd (r.2.1.1, r.2.1.2) (e.1, e.2)).2)).set (w64 (N - k)).toNat ((cSub (r.2.1.1, r.2.1.2) (e.1, e.2)).1, (cSub (r.2.1.1, r.2.1.2) (e.1, e.2)).2)),
        .sl (.prs n .u64 X), .bool bk, .int .i64 N, .int .i64 H, .int .i64 (w64 (k + 1))])))))))
    else k2 0 [.st [.int .u8 f], .prs no .u64 O]
  | _ => none
def leB2 : LEnt :=
  { inn := { fuel := none, keep := [1, 2, 8, 9, 16], refs := refsF }
    out := { fuel := none, keep := [], refs := [(0, 8000, 64, .dead), (14, 14, 44, .prs 0 .u64 [])] }
    ret := { fuel := none, keep := [], refs := [] }
    go := fun _ _ vs kk => match vs with
      | [.st [.int .u8 f], .prs hs .u64 S, .prs hd .u64 D, .prs no .u64 O, .sl (.prs n .u64 X), .bool bk, .int .i64 N, .int .i64 H, .int .i64 1] =>
        chk (fitB hs hd no n S D O X N H) (kk 0 [.st [.int .u8 (oBk X S D O bk n hs f).1], .prs no .u64 (oBk X S D O bk n hs f).2])
      | _ => none }
theorem step_B2 (R : Type) (f : Int) (hs hd no n : Nat) (S D O X : List PZ) (bk : Bool) (N H k : Int) (k1 : List AV → Option R) (k2 : Nat → List AV → Option R) :
    runA (env Tryz.f37.ntmps orcOdd [(4, leI4)]) (loopOf 2 (bodyC Tryz.f37)) 2 (stateOf leB2.inn [.st [.int .u8 f], .prs hs .u64 S, .prs hd .u64 D, .prs no .u64 O, .sl (.prs n .u64 X), .bool bk, .int .i64 N, .int .i64 H, .int .i64 k]) (bodyK leB2 2 k1 k2) =
    stepB2 R [.st [.int .u8 f], .prs hs .u64 S, .prs hd .u64 D, .prs no .u64 O, .sl (.prs n .u64 X), .bool bk, .int .i64 N, .int .i64 H, .int .i64 k] k1 k2 := by kernel_rfl
end
end Go.Proofs.YtbakldcbaikgpaaGreatDoor
/- fly: odd's rounds. Own work. -/
namespace Go.Proofs.YtbakldcbaikgpaaGreatDoor
set_option maxRecDepth 100000
noncomputable section
theorem okL_iff {L : List PZ} : okL L = true ↔ ∀ x ∈ L, okPr x = true := by unfold okL; rw [stk_eq, List.all_eq_true]
theorem pzE (x : PZ) : (x.1, x.2) = x := rfl
theorem okPr_zero : okPr (0, 0) = true := okPr_iff.2 ⟨inU_iff.2 (by decide), inU_iff.2 (by decide)⟩
theorem gp_ok {L : List PZ} (h : okL L = true) (i : Nat) : okPr (gp L i) = true := by
  unfold gp
  rw [List.getD_eq_getElem?_getD]
  cases hi : L[i]? with
  | none => exact okPr_zero
  | some x => exact okL_iff.1 h x (List.mem_of_getElem? hi)
theorem okL_set {L : List PZ} (h : okL L = true) (i : Nat) {x : PZ} (hx : okPr x = true) : okL (L.set i x) = true := by
  refine okL_iff.2 fun y hy => ?_
  rcases List.mem_or_eq_of_mem_set hy with h1 | h1
  · exact okL_iff.1 h y h1
  · rw [h1]; exact hx
theorem gp_set {L : List PZ} {i : Nat} (h : i < L.length) (x : PZ) : gp (L.set i x) i = x := by
  unfold gp
  rw [List.getD_eq_getElem?_getD, List.getElem?_set_self h]
  rfl
theorem inX_at {j n : Nat} (h : j < n) : inX (j : Int) n = true := by
  unfold inX
  rw [decide_eq_true (show (0 : Int) ≤ j by omega), decide_eq_true (show (j : Int) < n by omega)]
  rfl
/-! ### Sums and differences -/
def vsA (hs hd no n : Nat) (X : List PZ) (bk : Bool) (N H H2 j : Int) (s : FS) : List AV :=
  [.st [.int .u8 s.1], .prs hs .u64 s.2.1, .prs hd .u64 s.2.2.1, .prs no .u64 s.2.2.2, .sl (.prs n .u64 X), .bool bk, .int .i64 N, .int .i64 H, .func 34, .func 35, .int .i64 H2, .int .i64 j]
def vsAo (hs hd no n : Nat) (X : List PZ) (bk : Bool) (N H : Int) (s : FS) : List AV :=
  [.st [.int .u8 s.1], .prs hs .u64 s.2.1, .prs hd .u64 s.2.2.1, .prs no .u64 s.2.2.2, .sl (.prs n .u64 X), .bool bk, .int .i64 N, .int .i64 H]
theorem A0_end (R : Type) (hs hd no n : Nat) (X : List PZ) (bk : Bool) (N H H2 j : Int) (s : FS) (k1 : List AV → Option R) (k2 : Nat → List AV → Option R) (h : ¬ j < H2) :
    stepA0 R (vsA hs hd no n X bk N H H2 j s) k1 k2 = k2 0 (vsAo hs hd no n X bk N H s) := by
  unfold vsA stepA0
  simp only [h, decide_false, cond_false]
  rfl
theorem A0_step (R : Type) (h n : Nat) (X : List PZ) (bk : Bool) (H : Int) (j : Nat) (s : FS) (k1 : List AV → Option R) (k2 : Nat → List AV → Option R) (hj : j < h) (hn : 2 * h < n) (hn2 : n ≤ 1000)
    (hX : okL X = true) (hO : okL s.2.2.2 = true) (hS : s.2.1.length = h) :
    stepA0 R (vsA h h n n X bk n H h j s) k1 k2 = k1 (vsA h h n n X bk n H h ((j + 1 : Nat) : Int) (oA1 X n j s)) := by
  have e1 : w64 ((j : Int) + 1) = ((j + 1 : Nat) : Int) := by rw [w64_mid (by omega) (by omega)]; omega
  have e2 : w64 (w64 ((n : Int) - j) - 1) = ((n - j - 1 : Nat) : Int) := by rw [w64_mid (x := (n : Int) - j) (by omega) (by omega), w64_mid (by omega) (by omega)]; omega
  have c1 : inX (((j + 1 : Nat) : Int)) n = true := inX_at (by omega)
  have c2 : inX (((n - j - 1 : Nat) : Int)) n = true := inX_at (by omega)
  have c3 : inX (j : Int) h = true := inX_at hj
  have c4 : inX 0 n = true := inX_at (show 0 < n by omega)
  have p1 := gp_ok hX (j + 1)
  have p2 := gp_ok hX (n - j - 1)
  have p3 := gp_ok hO 0
  have p4 : okPr (gp (s.2.1.set j (cAdd (gp X (j + 1)) (gp X (n - j - 1)))) j) = true := by rw [gp_set (by omega)]; exact okPr_add p1 p2
  unfold vsA stepA0
  simp only [decide_eq_true (show (j : Int) < (h : Int) by omega), cond_true, e1, e2, Int.toNat_natCast, c1, c2, c3, c4, p1, p2, p3, p4, Bool.and_self, chk]
  rfl
theorem A0_loop (R : Type) (h n : Nat) (X : List PZ) (bk : Bool) (H : Int) (kk : Nat → List AV → Option R) (hn : 2 * h < n) (hn2 : n ≤ 1000) (hX : okL X = true) :
    ∀ (q j : Nat) (s : FS), j + q = h → okL s.2.2.2 = true → s.2.1.length = h →
    loopN (stepA0 R) (q + 1) (vsA h h n n X bk n H h j s) kk = kk 0 (vsAo h h n n X bk n H (oA X n q j s))
  | 0, j, s, hj, _, _ => by
    rw [loopN, A0_end R h h n n X bk n H h j s _ kk (by omega)]
    rfl
  | q + 1, j, s, hj, hO, hS => by
    rw [loopN, A0_step R h n X bk H j s _ kk (by omega) hn hn2 hX hO hS]
    have hO' : okL (oA1 X n j s).2.2.2 = true := okL_set hO 0 (okPr_add (gp_ok hO 0) (by rw [gp_set (by omega)]; exact okPr_add (gp_ok hX _) (gp_ok hX _)))
    rw [A0_loop R h n X bk H kk hn hn2 hX q (j + 1) (oA1 X n j s) (by omega) hO' (by show (s.2.1.set j _).length = h; rw [List.length_set]; exact hS)]
    rfl
theorem oA_ok {X : List PZ} {n h : Nat} (hX : okL X = true) : ∀ (q j : Nat) (s : FS), okL s.2.1 = true → okL s.2.2.1 = true → okL s.2.2.2 = true → s.2.1.length = h → s.2.2.1.length = h → s.2.2.2.length = n → j + q = h →
    okL (oA X n q j s).2.1 = true ∧ okL (oA X n q j s).2.2.1 = true ∧ okL (oA X n q j s).2.2.2 = true ∧ (oA X n q j s).2.1.length = h ∧ (oA X n q j s).2.2.1.length = h ∧ (oA X n q j s).2.2.2.length = n
  | 0, j, s, h1, h2, h3, h4, h5, h6, _ => ⟨h1, h2, h3, h4, h5, h6⟩
  | q + 1, j, s, h1, h2, h3, h4, h5, h6, hj => by
    have p1 := gp_ok hX (j + 1)
    have p2 := gp_ok hX (n - j - 1)
    have p3 : okL (s.2.1.set j (cAdd (gp X (j + 1)) (gp X (n - j - 1)))) = true := okL_set h1 j (okPr_add p1 p2)
    exact oA_ok hX q (j + 1) (oA1 X n j s) p3 (okL_set h2 j (okPr_sub p1 p2)) (okL_set h3 0 (okPr_add (gp_ok h3 0) (gp_ok p3 j)))
      (by show (s.2.1.set j _).length = h; rw [List.length_set]; exact h4) (by show (s.2.2.1.set j _).length = h; rw [List.length_set]; exact h5) (by show (s.2.2.2.set 0 _).length = n; rw [List.length_set]; exact h6) (by omega)
theorem go_A0 (R : Type) (n : Nat) (vs : List AV) (kk : Nat → List AV → Option R) (r : R) (h : leA0.go R n vs kk = some r) : ∃ m, loopN (stepA0 R) m vs kk = some r := by
  simp only [leA0] at h
  split at h
  · rename_i f hs S hd D no O n X bk N H H2
    obtain ⟨hg, hk⟩ := chk_some h
    clear h
    unfold fitA at hg
    rw [stk_eq] at hg
    simp only [Bool.and_eq_true, decide_eq_true_eq] at hg
    obtain ⟨⟨⟨rfl, rfl, rfl, rfl, g1, g2, g3, g4, g5, g6⟩, hX⟩, hO⟩ := hg
    refine ⟨hd + 1, (A0_loop R hd no X bk H kk g5 g6 hX hd 0 (f, S, D, O) (by omega) hO g1).trans ?_⟩
    unfold oAk at hk
    rw [stk_eq] at hk
    exact hk
  · cases h
/-! ### One answer's two parts -/
def vsI (hs hd no n : Nat) (S D O X : List PZ) (bk : Bool) (N H k H2 j : Int) (s : IS) : List AV :=
  [.st [.int .u8 s.1], .prs hs .u64 S, .prs hd .u64 D, .prs no .u64 O, .st [.int .u64 s.2.1.1, .int .u64 s.2.1.2], .st [.int .u64 s.2.2.1, .int .u64 s.2.2.2], .sl (.prs n .u64 X), .bool bk, .int .i64 N, .int .i64 H, .int .i64 k, .int .i64 H2, .int .i64 j]
def vsIo (hs hd no n : Nat) (S D O X : List PZ) (bk : Bool) (N H k : Int) (s : IS) : List AV :=
  [.st [.int .u8 s.1], .prs hs .u64 S, .prs hd .u64 D, .prs no .u64 O, .st [.int .u64 s.2.1.1, .int .u64 s.2.1.2], .st [.int .u64 s.2.2.1, .int .u64 s.2.2.2], .sl (.prs n .u64 X), .bool bk, .int .i64 N, .int .i64 H, .int .i64 k]
theorem I4_end (R : Type) (hs hd no n : Nat) (S D O X : List PZ) (bk : Bool) (N H k H2 j : Int) (s : IS) (k1 : List AV → Option R) (k2 : Nat → List AV → Option R) (h : ¬ j < H2) :
    stepI4 R (vsI hs hd no n S D O X bk N H k H2 j s) k1 k2 = k2 0 (vsIo hs hd no n S D O X bk N H k s) := by
  unfold vsI stepI4
  simp only [h, decide_false, cond_false]
  rfl
theorem inU_cosR (k n : Int) : inU (cosR k n) = true := by
  rw [show cosR k n = (cosZ k n : Int) by unfold cosR; rw [stk_eq]]
  exact inU_nat (cosK_le _ _).2
theorem inU_sinR (k n : Int) : inU (sinR k n) = true := by
  rw [show sinR k n = (sinZ k n : Int) by unfold sinR; rw [stk_eq]]
  exact inU_nat (sinK_le _ _).2
theorem I4_step (R : Type) (h no n : Nat) (S D O X : List PZ) (bk : Bool) (H : Int) (k j : Nat) (s : IS) (k1 : List AV → Option R) (k2 : Nat → List AV → Option R) (hj : j < h) (hn : 2 * h < n) (hn2 : n ≤ 1000) (hk : k ≤ 1000)
    (hS : okL S = true) (hD : okL D = true) (ha : okPr s.2.1 = true) (hb : okPr s.2.2 = true) :
    stepI4 R (vsI h h no n S D O X bk n H k h j s) k1 k2 = k1 (vsI h h no n S D O X bk n H k h ((j + 1 : Nat) : Int) (iA1 S D k n j s)) := by
  have e1 : w64 ((j : Int) + 1) = ((j + 1 : Nat) : Int) := by rw [w64_mid (by omega) (by omega)]; omega
  have hm : (j + 1) * k ≤ 1000 * 1000 := Nat.mul_le_mul (by omega) hk
  have e2 : w64 (((j + 1 : Nat) : Int) * k) = (((j + 1) * k : Nat) : Int) := by rw [← Int.natCast_mul, w64_mid (by omega) (by omega)]
  have c3 : inX (j : Int) h = true := inX_at hj
  have cN : okN (n : Int) = true := okN_iff.2 (by omega)
  have p1 := gp_ok hS j
  have p2 := gp_ok hD j
  unfold vsI stepI4
  simp only [decide_eq_true (show (j : Int) < (h : Int) by omega), cond_true, e1, e2, Int.toNat_natCast, c3, cN, p1, p2, inU_cosR, inU_sinR, ha, hb, pzE, Bool.and_self, chk]
  rfl
theorem iA1_ok (S D : List PZ) (k n j : Nat) (s : IS) (ha : okPr s.2.1 = true) (hb : okPr s.2.2 = true) : okPr (iA1 S D k n j s).2.1 = true ∧ okPr (iA1 S D k n j s).2.2 = true :=
  ⟨okPr_more _ _ ha, okPr_more _ _ hb⟩
theorem I4_loop (R : Type) (h no n : Nat) (S D O X : List PZ) (bk : Bool) (H : Int) (k : Nat) (kk : Nat → List AV → Option R) (hn : 2 * h < n) (hn2 : n ≤ 1000) (hk : k ≤ 1000) (hS : okL S = true) (hD : okL D = true) :
    ∀ (q j : Nat) (s : IS), j + q = h → okPr s.2.1 = true → okPr s.2.2 = true →
    loopN (stepI4 R) (q + 1) (vsI h h no n S D O X bk n H k h j s) kk = kk 0 (vsIo h h no n S D O X bk n H k (iA S D k n q j s))
  | 0, j, s, hj, _, _ => by
    rw [loopN, I4_end R h h no n S D O X bk n H k h j s _ kk (by omega)]
    rfl
  | q + 1, j, s, hj, ha, hb => by
    rw [loopN, I4_step R h no n S D O X bk H k j s _ kk (by omega) hn hn2 hk hS hD ha hb]
    obtain ⟨h1, h2⟩ := iA1_ok S D k n j s ha hb
    rw [I4_loop R h no n S D O X bk H k kk hn hn2 hk hS hD q (j + 1) (iA1 S D k n j s) (by omega) h1 h2]
    rfl
theorem iA_ok (S D : List PZ) (k n : Nat) : ∀ (q j : Nat) (s : IS), okPr s.2.1 = true → okPr s.2.2 = true → okPr (iA S D k n q j s).2.1 = true ∧ okPr (iA S D k n q j s).2.2 = true
  | 0, j, s, h1, h2 => ⟨h1, h2⟩
  | q + 1, j, s, h1, h2 => by
    obtain ⟨h3, h4⟩ := iA1_ok S D k n j s h1 h2
    exact iA_ok S D k n q (j + 1) _ h3 h4
theorem go_I4 (R : Type) (n : Nat) (vs : List AV) (kk : Nat → List AV → Option R) (r : R) (h : leI4.go R n vs kk = some r) : ∃ m, loopN (stepI4 R) m vs kk = some r := by
  simp only [leI4] at h
  split at h
  · rename_i f hs S hd D no O a1 a2 b1 b2 n X bk N H k H2
    obtain ⟨hg, hk⟩ := chk_some h
    clear h
    unfold fitI at hg
    rw [stk_eq] at hg
    simp only [Bool.and_eq_true, decide_eq_true_eq] at hg
    obtain ⟨⟨⟨⟨⟨rfl, rfl, rfl, g1, g2, g3, g4, g5, g6⟩, hS⟩, hD⟩, ha⟩, hb⟩ := hg
    obtain ⟨k, rfl⟩ : ∃ m : Nat, k = m := ⟨k.toNat, (Int.toNat_of_nonneg g5).symm⟩
    refine ⟨hd + 1, (I4_loop R hd no n S D O X bk H k kk g3 g4 (by omega) hS hD hd 0 (f, (a1, a2), (b1, b2)) (by omega) ha hb).trans ?_⟩
    unfold iAk at hk
    rw [stk_eq, Int.toNat_natCast] at hk
    exact hk
  · cases h
/-! ### All answers -/
def vsB (hs hd no n : Nat) (S D X : List PZ) (bk : Bool) (N H k : Int) (s : BS) : List AV :=
  [.st [.int .u8 s.1], .prs hs .u64 S, .prs hd .u64 D, .prs no .u64 s.2, .sl (.prs n .u64 X), .bool bk, .int .i64 N, .int .i64 H, .int .i64 k]
def vsBo (no : Nat) (s : BS) : List AV := [.st [.int .u8 s.1], .prs no .u64 s.2]
theorem B2_end (R : Type) (hs hd no n : Nat) (S D X : List PZ) (bk : Bool) (N H k : Int) (s : BS) (k1 : List AV → Option R) (k2 : Nat → List AV → Option R) (h : ¬ k ≤ H) :
    stepB2 R (vsB hs hd no n S D X bk N H k s) k1 k2 = k2 0 (vsBo no s) := by
  unfold vsB stepB2
  simp only [h, decide_false, cond_false]
  rfl
theorem B2_step (R : Type) (h n : Nat) (S D X : List PZ) (bk : Bool) (k : Nat) (s : BS) (k1 : List AV → Option R) (k2 : Nat → List AV → Option R) (hk0 : 0 < k) (hk : k ≤ h) (hn : 2 * h < n) (hn2 : n ≤ 1000)
    (hX : okL X = true) (hS : okL S = true) (hD : okL D = true) (lS : S.length = h) (lD : D.length = h) :
    stepB2 R (vsB h h n n S D X bk n h k s) k1 k2 = k1 (vsB h h n n S D X bk n h ((k + 1 : Nat) : Int) (oB1 X S D bk n h k s)) := by
  have e1 : w64 ((k : Int) + 1) = ((k + 1 : Nat) : Int) := by rw [w64_mid (by omega) (by omega)]; omega
  have e2 : w64 ((n : Int) - k) = ((n - k : Nat) : Int) := by rw [w64_mid (by omega) (by omega)]; omega
  have c0 : inX 0 n = true := inX_at (show 0 < n by omega)
  have c1 : inX (k : Int) n = true := inX_at (by omega)
  have c2 : inX ((n - k : Nat) : Int) n = true := inX_at (by omega)
  have p0 := gp_ok hX 0
  have fI : fitI h h n S D (gp X 0) (0, 0) (n : Int) (k : Int) (h : Int) = true := by
    unfold fitI
    rw [stk_eq, decide_eq_true ⟨rfl, rfl, rfl, lS, lD, hn, hn2, by omega, by omega⟩, hS, hD, p0, okPr_zero]
    rfl
  have hr : iAk S D (k : Int) n h s.1 (gp X 0) (0, 0) = iA S D k n h 0 (s.1, gp X 0, (0, 0)) := by unfold iAk; rw [stk_eq, Int.toNat_natCast]
  obtain ⟨q1, q2⟩ := iA_ok S D k n h 0 (s.1, gp X 0, (0, 0)) p0 okPr_zero
  have q3 := okPr_turn q2 (!bk)
  unfold vsB stepB2
  simp only [decide_eq_true (show (k : Int) ≤ (h : Int) by omega), cond_true, pzE, hr, e1, e2, Int.toNat_natCast, c0, c1, c2, fI, q1, q2, q3, Bool.and_self, chk]
  rfl
theorem B2_loop (R : Type) (h n : Nat) (S D X : List PZ) (bk : Bool) (kk : Nat → List AV → Option R) (hn : 2 * h < n) (hn2 : n ≤ 1000)
    (hX : okL X = true) (hS : okL S = true) (hD : okL D = true) (lS : S.length = h) (lD : D.length = h) : ∀ (q k : Nat) (s : BS), 0 < k → k + q = h + 1 →
    loopN (stepB2 R) (q + 1) (vsB h h n n S D X bk n h k s) kk = kk 0 (vsBo n (oB X S D bk n h q k s))
  | 0, k, s, hk0, hk => by
    rw [loopN, B2_end R h h n n S D X bk n h k s _ kk (by omega)]
    rfl
  | q + 1, k, s, hk0, hk => by
    rw [loopN, B2_step R h n S D X bk k s _ kk hk0 (by omega) hn hn2 hX hS hD lS lD]
    rw [B2_loop R h n S D X bk kk hn hn2 hX hS hD lS lD q (k + 1) (oB1 X S D bk n h k s) (by omega) (by omega)]
    rfl
theorem go_B2 (R : Type) (n : Nat) (vs : List AV) (kk : Nat → List AV → Option R) (r : R) (h : leB2.go R n vs kk = some r) : ∃ m, loopN (stepB2 R) m vs kk = some r := by
  simp only [leB2] at h
  split at h
  · rename_i f hs S hd D no O n X bk N H
    obtain ⟨hg, hk⟩ := chk_some h
    clear h
    unfold fitB at hg
    rw [stk_eq] at hg
    simp only [Bool.and_eq_true, decide_eq_true_eq] at hg
    obtain ⟨⟨⟨⟨rfl, rfl, rfl, rfl, g1, g2, g3, g4, g5, g6⟩, hX⟩, hS⟩, hD⟩ := hg
    refine ⟨hd + 1, (B2_loop R hd no S D X bk kk g5 g6 hX hS hD g1 g2 hd 1 (f, O) (by omega) (by omega)).trans ?_⟩
    unfold oBk at hk
    rw [stk_eq] at hk
    exact hk
  · cases h
end
end Go.Proofs.YtbakldcbaikgpaaGreatDoor
/- fly: four, odd, Can, Little. Own work. -/
namespace Go.Proofs.YtbakldcbaikgpaaGreatDoor
set_option maxRecDepth 100000
noncomputable section
/-! ### four -/
def fitN (n : Nat) (X : List PZ) (m : Nat) : Bool := stk (decide (n = m ∧ X.length = m)) && okL X
def four_ (X : List PZ) (bk : Bool) : List PZ := stk (four4 (gp X 0) (gp X 1) (gp X 2) (gp X 3) bk)
def fourF_ (X : List PZ) (bk : Bool) (f : Int) : Int := stk (orL f (fourG (gp X 0) (gp X 1) (gp X 2) (gp X 3) bk))
def sp_four : List AV → Option (Bool × AV × List AV)
  | [.rf 64 (.st [.int .u8 f]), .sl (.prs n .u64 X), .bool bk] => some (fitN n X 4, .osl 44 (.prs 4 .u64 (four_ X bk)), [.rf 64 (.st [.int .u8 (fourF_ X bk f)])])
  | _ => none
theorem ok_four : EntOk Tryz.prog 36 (entM false sp_four) := by
  refine contractMS (orc := orcFour) (lo := []) Tryz.func36 (orc_cons ok_fAdd (orc_cons ok_fSub (orc_cons ok_cTurn orc_nil))) (by kernel_rfl) (by kernel_rfl) (by kernel_rfl) (loops_none (by kernel_rfl)) fun args r cs h => ?_
  unfold sp_four at h
  split at h
  · rename_i f n X bk
    simp only [Option.some.injEq, Prod.mk.injEq] at h
    obtain ⟨hg, rfl, rfl⟩ := h
    unfold fitN at hg
    rw [stk_eq] at hg
    simp only [Bool.and_eq_true, decide_eq_true_eq] at hg
    obtain ⟨⟨rfl, hl⟩, hX⟩ := hg
    match X, hl with
    | [x0, x1, x2, x3], _ =>
      refine ⟨by kernel_rfl, .inr rfl, (run_four f x0 x1 x2 x3 bk).trans ?_⟩
      have h0 : okPr x0 = true := okL_iff.1 hX x0 (by simp)
      have h1 : okPr x1 = true := okL_iff.1 hX x1 (by simp)
      have h2 : okPr x2 = true := okL_iff.1 hX x2 (by simp)
      have h3 : okPr x3 = true := okL_iff.1 hX x3 (by simp)
      have a1 := okPr_add h0 h2
      have a2 := okPr_sub h0 h2
      have a3 := okPr_add h1 h3
      have a4 := okPr_sub h1 h3
      have a5 := okPr_turn a4 (!bk)
      unfold four_ fourF_
      rw [stk_eq, stk_eq, h0, h1, h2, h3, a1, a2, a3, a4, a5]
      rfl
  · cases h
/-! ### odd -/
def fitO (n : Nat) (X : List PZ) : Bool := stk (decide (n % 2 = 1 ∧ 3 ≤ n ∧ n ≤ 999 ∧ X.length = n)) && okL X
def oddSf (X : List PZ) (n : Nat) (f : Int) : FS := oA X n ((n - 1) / 2) 0 (f, List.replicate ((n - 1) / 2) (0, 0), List.replicate ((n - 1) / 2) (0, 0), (List.replicate n (0, 0)).set 0 (gp X 0))
def oddR (X : List PZ) (bk : Bool) (n : Nat) (f : Int) : BS := oB X (oddSf X n f).2.1 (oddSf X n f).2.2.1 bk n ((n - 1) / 2) ((n - 1) / 2) 1 ((oddSf X n f).1, (oddSf X n f).2.2.2)
def oddK (X : List PZ) (bk : Bool) (n : Nat) (f : Int) : BS := stk (oddR X bk n f)
def sp_odd : List AV → Option (Bool × AV × List AV)
  | [.rf 64 (.st [.int .u8 f]), .sl (.prs n .u64 X), .bool bk] => some (fitO n X, .tup [.osl 44 (.prs n .u64 (oddK X bk n f).2), .nili], [.rf 64 (.st [.int .u8 (oddK X bk n f).1])])
  | _ => none
def mkOk (z : Int) : Bool := (z == z) && decide (0 ≤ z) && decide ((16 : Int) * z ≤ 140737488355328) && decide (z < 9223372036854775808)
def odE (no : Nat) (r : BS) : Option AV := some (.mt (.tup [.osl 44 (.prs no .u64 r.2), .nili]) [.rf 64 (.st [.int .u8 r.1])])
def odB (h n no : Nat) (X : List PZ) (bk : Bool) (N H : Int) (s : FS) : Option AV := chk (fitB h h no n s.2.1 s.2.2.1 s.2.2.2 X N H) (odE no (oBk X s.2.1 s.2.2.1 s.2.2.2 bk n h s.1))
def odA (h n no : Nat) (X S D O : List PZ) (bk : Bool) (N H f : Int) : Option AV := chk (fitA h h no n S D O X N H) (odB h n no X bk N H (oAk X n h f S D O))
def odZ (n : Nat) (X : List PZ) (bk : Bool) (f H N : Int) : Option AV :=
  chk (mkOk H) (chk (mkOk H) (chk (mkOk N) (chk (inX 0 n) (chk (inX 0 N.toNat)
    (odA H.toNat n N.toNat X (List.replicate H.toNat (0, 0)) (List.replicate H.toNat (0, 0)) ((List.replicate N.toNat (0, 0)).set 0 ((gp X 0).1, (gp X 0).2)) bk N H f)))))
theorem run_odd (f : Int) (n : Nat) (X : List PZ) (bk : Bool) : callM (env Tryz.f37.ntmps orcOdd [(0, leA0), (2, leB2)]) (bodyC Tryz.f37) Tryz.f37.results.toList [.rf 64 (.st [.int .u8 f]), .sl (.prs n .u64 X), .bool bk] some =
    odZ n X bk f (w64 ((w64 ((n : Int) - 1)).tdiv 2)) n := by kernel_rfl
theorem okL_rep (n : Nat) : okL (List.replicate n (0, 0)) = true := okL_iff.2 fun x hx => by rw [(List.mem_replicate.1 hx).2]; exact okPr_zero
theorem mkOk_at {n : Nat} (h : n ≤ 1000) : mkOk (n : Int) = true := by
  unfold mkOk
  rw [beq_self_eq_true, decide_eq_true (show (0 : Int) ≤ n by omega), decide_eq_true (show (16 : Int) * n ≤ 140737488355328 by omega), decide_eq_true (show (n : Int) < 9223372036854775808 by omega)]
  rfl
theorem ok_odd : EntOk Tryz.prog 37 (entM false sp_odd) := by
  refine contractMS (orc := orcOdd) (lo := [(0, leA0), (2, leB2)]) Tryz.func37 (orc_cons ok_fAdd (orc_cons ok_fSub (orc_cons ok_did (orc_cons ok_cTurn (orc_cons ok_cMore (orc_cons ok_tRootG orc_nil)))))) (by kernel_rfl) (by kernel_rfl) (by kernel_rfl)
    (loops_two (id := 0) (id' := 2) (y := .loop (loopOf 0 (bodyC Tryz.f37))) (y' := .loop (loopOf 2 (bodyC Tryz.f37))) (by kernel_rfl)
      (loopS (le := leA0) (orc := orcOdd) (lo' := []) (orc_cons ok_fAdd (orc_cons ok_fSub (orc_cons ok_did (orc_cons ok_cTurn (orc_cons ok_cMore (orc_cons ok_tRootG orc_nil)))))) (by kernel_rfl) rfl (loops_none (by kernel_rfl)) stepA0 (fun R vs k1 k2 r h => ?_) go_A0)
      (loopS (le := leB2) (orc := orcOdd) (lo' := [(4, leI4)]) (orc_cons ok_fAdd (orc_cons ok_fSub (orc_cons ok_did (orc_cons ok_cTurn (orc_cons ok_cMore (orc_cons ok_tRootG orc_nil)))))) (by kernel_rfl) rfl
        (loops_one (id := 4) (y := .loop (loopOf 4 (bodyC Tryz.f37))) (by kernel_rfl)
          (loopS (le := leI4) (orc := orcOdd) (lo' := []) (orc_cons ok_fAdd (orc_cons ok_fSub (orc_cons ok_did (orc_cons ok_cTurn (orc_cons ok_cMore (orc_cons ok_tRootG orc_nil)))))) (by kernel_rfl) rfl (loops_none (by kernel_rfl)) stepI4 (fun R vs k1 k2 r h => ?_) go_I4))
        stepB2 (fun R vs k1 k2 r h => ?_) go_B2)) fun args r cs h => ?_
  · have h0 := h
    unfold stepA0 at h
    split at h
    · exact (step_A0 R _ _ _ _ _ _ _ _ _ _ _ _ _ _ k1 k2).trans h0
    · cases h
  · have h0 := h
    unfold stepI4 at h
    split at h
    · exact (step_I4 R _ _ _ _ _ _ _ _ _ _ _ _ _ _ _ _ _ _ _ k1 k2).trans h0
    · cases h
  · have h0 := h
    unfold stepB2 at h
    split at h
    · exact (step_B2 R _ _ _ _ _ _ _ _ _ _ _ _ _ k1 k2).trans h0
    · cases h
  · unfold sp_odd at h
    split at h
    · rename_i f n X bk
      simp only [Option.some.injEq, Prod.mk.injEq] at h
      obtain ⟨hg, rfl, rfl⟩ := h
      unfold fitO at hg
      rw [stk_eq] at hg
      simp only [Bool.and_eq_true, decide_eq_true_eq] at hg
      obtain ⟨⟨h1, h2, h3, hl⟩, hX⟩ := hg
      refine ⟨by kernel_rfl, .inr rfl, (run_odd f n X bk).trans ?_⟩
      have e1 : w64 ((w64 ((n : Int) - 1)).tdiv 2) = (((n - 1) / 2 : Nat) : Int) := by
        rw [w64_mid (x := (n : Int) - 1) (by omega) (by omega), show (n : Int) - 1 = ((n - 1 : Nat) : Int) by omega, Int.tdiv_eq_ediv_of_nonneg (by omega), w64_mid (by omega) (by omega)]
        omega
      rw [e1]
      obtain ⟨h, hh⟩ : ∃ h, (n - 1) / 2 = h := ⟨_, rfl⟩
      have h2n : 2 * h < n := by omega
      unfold odZ oddK oddR oddSf
      rw [stk_eq, hh, mkOk_at (show h ≤ 1000 by omega), mkOk_at (show n ≤ 1000 by omega), Int.toNat_natCast, Int.toNat_natCast, show inX 0 n = true from inX_at (show 0 < n by omega), pzE]
      simp only [chk, cond_true]
      have hO : okL ((List.replicate n (0, 0)).set 0 (gp X 0)) = true := okL_set (okL_rep n) 0 (gp_ok hX 0)
      have lr : ∀ m : Nat, (List.replicate m ((0 : Int), (0 : Int))).length = m := fun m => List.length_replicate
      have lO : ((List.replicate n ((0 : Int), (0 : Int))).set 0 (gp X 0)).length = n := by rw [List.length_set]; exact lr n
      have hA := oA_ok (n := n) (h := h) hX h 0 (f, List.replicate h (0, 0), List.replicate h (0, 0), (List.replicate n (0, 0)).set 0 (gp X 0)) (okL_rep h) (okL_rep h) hO (lr h) (lr h) lO (by omega)
      unfold odA odB oAk
      rw [stk_eq]
      generalize oA X n h 0 (f, List.replicate h (0, 0), List.replicate h (0, 0), (List.replicate n (0, 0)).set 0 (gp X 0)) = s at hA ⊢
      obtain ⟨a1, a2, a3, a4, a5, a6⟩ := hA
      have fA : fitA h h n n (List.replicate h (0, 0)) (List.replicate h (0, 0)) ((List.replicate n (0, 0)).set 0 (gp X 0)) X (n : Int) (h : Int) = true := by
        unfold fitA
        rw [stk_eq, decide_eq_true ⟨rfl, rfl, rfl, rfl, lr h, lr h, lO, hl, h2n, by omega⟩, hX, hO]
        rfl
      have fB : fitB h h n n s.2.1 s.2.2.1 s.2.2.2 X (n : Int) (h : Int) = true := by
        unfold fitB
        rw [stk_eq, decide_eq_true ⟨rfl, rfl, rfl, rfl, a4, a5, a6, hl, h2n, by omega⟩, hX, a1, a2]
        rfl
      rw [fA, fB]
      unfold odE oBk
      rw [stk_eq]
      rfl
    · cases h
/-! ### Can, Little -/
def canN (n : Int) : Bool := decide (n = 2 ∨ n = 3 ∨ n = 4 ∨ n = 5 ∨ n = 7 ∨ n = 11 ∨ n = 13)
def canK (n : Int) : Bool := stk (canN n)
def sp_can : List AV → Option (Bool × AV)
  | [.int .i64 n] => some (true, .bool (canK n))
  | _ => none
def ofc (c : Bool) (e : Option AV) : Option AV := bif c then (bif c then some (.bool true) else some (.bool false)) else e
theorem run_can (n : Int) : callA (env Tryz.f15.ntmps [] []) (bodyC Tryz.f15) Tryz.f15.results.toList (slots 0 [.int .i64 n]) some =
    ofc (n == 2) (ofc (n == 3) (ofc (n == 4) (ofc (n == 5) (ofc (n == 7) (ofc (n == 11) (bif n == 13 then some (.bool true) else some (.bool false)))))) ) := by kernel_rfl
theorem ok_can : EntOk Tryz.prog 15 (entS false sp_can) := by
  refine contractS (orc := []) (lo := []) Tryz.func15 orc_nil (by kernel_rfl) (by kernel_rfl) (by kernel_rfl) (loops_none (by kernel_rfl)) fun args r h => ?_
  unfold sp_can at h
  split at h
  · rename_i n
    simp only [Option.some.injEq, Prod.mk.injEq] at h
    obtain ⟨-, rfl⟩ := h
    refine ⟨by kernel_rfl, .inr rfl, (run_can n).trans ?_⟩
    unfold canK
    rw [stk_eq]
    by_cases h2 : n = 2
    · subst h2; rfl
    by_cases h3 : n = 3
    · subst h3; rfl
    by_cases h4 : n = 4
    · subst h4; rfl
    by_cases h5 : n = 5
    · subst h5; rfl
    by_cases h7 : n = 7
    · subst h7; rfl
    by_cases h11 : n = 11
    · subst h11; rfl
    by_cases h13 : n = 13
    · subst h13; rfl
    rw [beq_eq_false_iff_ne.2 h2, beq_eq_false_iff_ne.2 h3, beq_eq_false_iff_ne.2 h4, beq_eq_false_iff_ne.2 h5, beq_eq_false_iff_ne.2 h7, beq_eq_false_iff_ne.2 h11, beq_eq_false_iff_ne.2 h13]
    unfold canN
    rw [decide_eq_false (by omega)]
    rfl
  · cases h
def litR (X : List PZ) (bk : Bool) (n : Nat) : BS :=
  if n = 2 then (orI .u8 (orI .u8 0 (cAddF (gp X 0) (gp X 1))) (cSubF (gp X 0) (gp X 1)), [cAdd (gp X 0) (gp X 1), cSub (gp X 0) (gp X 1)])
  else if n = 4 then (orL 0 (fourG (gp X 0) (gp X 1) (gp X 2) (gp X 3) bk), four4 (gp X 0) (gp X 1) (gp X 2) (gp X 3) bk)
  else oddR X bk n 0
def litK (X : List PZ) (bk : Bool) (n : Nat) : BS := stk (litR X bk n)
def fitX (n : Nat) (X : List PZ) : Bool := stk (decide (X.length = n)) && okL X
def sp_lit : List AV → Option Br
  | [.sl (.prs n .u64 X), .bool bk] => some (.chk (fitX n X) (.br (!(canK n)) (.leaf (.tup [.nils, .int .u8 0, .iface 59 (.int .i64 1)])) (.leaf (.tup [.osl 44 (.prs n .u64 (litK X bk n).2), .int .u8 (litK X bk n).1, .nili]))))
  | _ => none
def orcLit : List (FuncId × Ent) := [(34, entM false sp_fAdd), (35, entM false sp_fSub), (36, entM false sp_four), (37, entM false sp_odd), (15, entS false sp_can)]
def litT (n : Nat) (X : List PZ) (f : Int) : Option AV := some (.tup [.osl 44 (.prs n .u64 X), .int .u8 f, .nili])
theorem run_lit (n : Nat) (X : List PZ) (bk : Bool) : callA (env Tryz.f13.ntmps orcLit []) (bodyC Tryz.f13) Tryz.f13.results.toList (slots 0 [.sl (.prs n .u64 X), .bool bk]) some =
    bif !(canK n) then some (.tup [.nils, .int .u8 0, .iface 59 (.int .i64 1)]) else bif (n : Int) == 2 then
      chk (inX 0 n) (chk (inX 1 n) (chk (okPr (gp X 0) && okPr (gp X 1)) (chk (inX 0 n) (chk (inX 1 n) (chk (okPr (gp X 0) && okPr (gp X 1)) (litT 2 [((cAdd (gp X 0) (gp X 1)).1, (cAdd (gp X 0) (gp X 1)).2), ((cSub (gp X 0) (gp X 1)).1, (cSub (gp X 0) (gp X 1)).2)] (orI .u8 (orI .u8 0 (cAddF (gp X 0) (gp X 1))) (cSubF (gp X 0) (gp X 1)))))))))
    else bif (n : Int) == 4 then chk (fitN n X 4) (litT 4 (four_ X bk) (fourF_ X bk 0)) else chk (fitO n X) (litT n (oddK X bk n 0).2 (oddK X bk n 0).1) := by kernel_rfl
theorem ok_lit : EntOk Tryz.prog 13 (entB false sp_lit) := by
  refine contractB (orc := orcLit) (lo := []) Tryz.func13 (orc_cons ok_fAdd (orc_cons ok_fSub (orc_cons ok_four (orc_cons ok_odd (orc_cons ok_can orc_nil))))) (by kernel_rfl) (by kernel_rfl) (by kernel_rfl) (loops_none (by kernel_rfl)) fun args t h => ?_
  unfold sp_lit at h
  split at h
  · rename_i n X bk
    simp only [Option.some.injEq] at h
    subst h
    refine ⟨by kernel_rfl, .inr rfl, fun z hz => (run_lit n X bk).trans ?_⟩
    simp only [Br.run] at hz
    obtain ⟨hg, hz⟩ := chk_some hz
    rw [← hz]
    unfold fitX at hg
    rw [stk_eq] at hg
    simp only [Bool.and_eq_true, decide_eq_true_eq] at hg
    obtain ⟨hl, hX⟩ := hg
    by_cases hc : canK n = true
    · rw [hc]
      unfold canK canN at hc
      rw [stk_eq, decide_eq_true_eq] at hc
      simp only [Bool.not_true, cond_false]
      unfold litK litR
      rw [stk_eq]
      by_cases h2 : n = 2
      · subst h2
        rw [if_pos rfl, show inX 0 2 = true from rfl, show inX 1 2 = true from rfl, gp_ok hX 0, gp_ok hX 1]
        rfl
      · rw [if_neg h2, beq_eq_false_iff_ne.2 (show (n : Int) ≠ 2 by omega)]
        by_cases h4 : n = 4
        · subst h4
          have : fitN 4 X 4 = true := by unfold fitN; rw [stk_eq, decide_eq_true ⟨rfl, hl⟩, hX]; rfl
          rw [if_pos rfl, this]
          unfold four_ fourF_
          rw [stk_eq, stk_eq]
          rfl
        · have : fitO n X = true := by unfold fitO; rw [stk_eq, decide_eq_true ⟨by omega, by omega, by omega, hl⟩, hX]; rfl
          rw [if_neg h4, beq_eq_false_iff_ne.2 (show (n : Int) ≠ 4 by omega), this]
          unfold oddK
          rw [stk_eq]
          rfl
    · have hc' : canK n = false := by cases h : canK n with
        | false => rfl
        | true => exact absurd h hc
      rw [hc']
      rfl
  · cases h
end
end Go.Proofs.YtbakldcbaikgpaaGreatDoor
/- Little transforms, as plain numbers. Own work. -/
namespace Go.Proofs.YtbakldcbaikgpaaGreatDoor
set_option maxRecDepth 100000
/-! ### The same without marks -/
def pAdd (x y : PZ) : PZ := (((adPN x.1.toNat y.1.toNat 0 : Nat) : Int), ((adPN x.2.toNat y.2.toNat 0 : Nat) : Int))
def pAddF (x y : PZ) : Int := orI .u8 ((adFN x.1.toNat y.1.toNat 0 : Nat) : Int) ((adFN x.2.toNat y.2.toNat 0 : Nat) : Int)
def pSub (x y : PZ) : PZ := (((adPN x.1.toNat (sbQ y.1.toNat) 0 : Nat) : Int), ((adPN x.2.toNat (sbQ y.2.toNat) 0 : Nat) : Int))
def pSubF (x y : PZ) : Int := orI .u8 ((adFN x.1.toNat (sbQ y.1.toNat) 0 : Nat) : Int) ((adFN x.2.toNat (sbQ y.2.toNat) 0 : Nat) : Int)
def pMore (x : PZ) (b : Int) (y : PZ) : PZ := (((fmPN x.1.toNat b.toNat y.1.toNat 0 : Nat) : Int), ((fmPN x.2.toNat b.toNat y.2.toNat 0 : Nat) : Int))
def pMoreF (x : PZ) (b : Int) (y : PZ) : Int := orI .u8 ((fmFN x.1.toNat b.toNat y.1.toNat 0 : Nat) : Int) ((fmFN x.2.toNat b.toNat y.2.toNat 0 : Nat) : Int)
def pCos (k n : Int) : Int := ((cosZ k n : Nat) : Int)
def pSin (k n : Int) : Int := ((sinZ k n : Nat) : Int)
theorem cAdd_p : cAdd = pAdd := by funext x y; unfold cAdd pAdd adP; simp only [stk_eq]
theorem cAddF_p : cAddF = pAddF := by funext x y; unfold cAddF pAddF adF; simp only [stk_eq]
theorem cSub_p : cSub = pSub := by funext x y; unfold cSub pSub adP; simp only [stk_eq]
theorem cSubF_p : cSubF = pSubF := by funext x y; unfold cSubF pSubF adF; simp only [stk_eq]
theorem cMore_p : cMore = pMore := by funext x b y; unfold cMore pMore fmP; simp only [stk_eq]
theorem cMoreF_p : cMoreF = pMoreF := by funext x b y; unfold cMoreF pMoreF fmF; simp only [stk_eq]
theorem cosR_p : cosR = pCos := by funext k n; unfold cosR pCos; rw [stk_eq]
theorem sinR_p : sinR = pSin := by funext k n; unfold sinR pSin; rw [stk_eq]
def four4P (x0 x1 x2 x3 : PZ) (bk : Bool) : List PZ := [pAdd (pAdd x0 x2) (pAdd x1 x3), pAdd (pSub x0 x2) (cTurn (pSub x1 x3) (!bk)), pSub (pAdd x0 x2) (pAdd x1 x3), pSub (pSub x0 x2) (cTurn (pSub x1 x3) (!bk))]
def fourGP (x0 x1 x2 x3 : PZ) (bk : Bool) : List Int := [pAddF x0 x2, pSubF x0 x2, pAddF x1 x3, pSubF x1 x3, pAddF (pAdd x0 x2) (pAdd x1 x3), pAddF (pSub x0 x2) (cTurn (pSub x1 x3) (!bk)), pSubF (pAdd x0 x2) (pAdd x1 x3), pSubF (pSub x0 x2) (cTurn (pSub x1 x3) (!bk))]
def oA1P (X : List PZ) (n j : Nat) (s : FS) : FS :=
  (orI .u8 (orI .u8 (orI .u8 s.1 (pAddF (gp X (j + 1)) (gp X (n - j - 1)))) (pSubF (gp X (j + 1)) (gp X (n - j - 1)))) (pAddF (gp s.2.2.2 0) (gp (s.2.1.set j (pAdd (gp X (j + 1)) (gp X (n - j - 1)))) j)),
    s.2.1.set j (pAdd (gp X (j + 1)) (gp X (n - j - 1))), s.2.2.1.set j (pSub (gp X (j + 1)) (gp X (n - j - 1))),
    s.2.2.2.set 0 (pAdd (gp s.2.2.2 0) (gp (s.2.1.set j (pAdd (gp X (j + 1)) (gp X (n - j - 1)))) j)))
def oAP (X : List PZ) (n : Nat) : Nat → Nat → FS → FS
  | 0, _, s => s
  | q + 1, j, s => oAP X n q (j + 1) (oA1P X n j s)
def iA1P (S D : List PZ) (k n j : Nat) (s : IS) : IS :=
  (orI .u8 (orI .u8 s.1 (pMoreF (gp S j) (pCos (((j + 1) * k : Nat) : Int) n) s.2.1)) (pMoreF (gp D j) (pSin (((j + 1) * k : Nat) : Int) n) s.2.2),
    pMore (gp S j) (pCos (((j + 1) * k : Nat) : Int) n) s.2.1, pMore (gp D j) (pSin (((j + 1) * k : Nat) : Int) n) s.2.2)
def iAP (S D : List PZ) (k n : Nat) : Nat → Nat → IS → IS
  | 0, _, s => s
  | q + 1, j, s => iAP S D k n q (j + 1) (iA1P S D k n j s)
def oB2P (bk : Bool) (n k : Nat) (s : BS) (r : IS) : BS :=
  (orI .u8 (orI .u8 r.1 (pAddF r.2.1 (cTurn r.2.2 (!bk)))) (pSubF r.2.1 (cTurn r.2.2 (!bk))), (s.2.set k (pAdd r.2.1 (cTurn r.2.2 (!bk)))).set (n - k) (pSub r.2.1 (cTurn r.2.2 (!bk))))
def oB1P (X S D : List PZ) (bk : Bool) (n h k : Nat) (s : BS) : BS := oB2P bk n k s (iAP S D k n h 0 (s.1, gp X 0, (0, 0)))
def oBP (X S D : List PZ) (bk : Bool) (n h : Nat) : Nat → Nat → BS → BS
  | 0, _, s => s
  | q + 1, k, s => oBP X S D bk n h q (k + 1) (oB1P X S D bk n h k s)
def oddSP (X : List PZ) (n : Nat) (f : Int) : FS := oAP X n ((n - 1) / 2) 0 (f, List.replicate ((n - 1) / 2) (0, 0), List.replicate ((n - 1) / 2) (0, 0), (List.replicate n (0, 0)).set 0 (gp X 0))
def oddTP (X : List PZ) (bk : Bool) (n : Nat) (s : FS) : BS := oBP X s.2.1 s.2.2.1 bk n ((n - 1) / 2) ((n - 1) / 2) 1 (s.1, s.2.2.2)
def oddRP (X : List PZ) (bk : Bool) (n : Nat) (f : Int) : BS := oddTP X bk n (oddSP X n f)
def litP (X : List PZ) (bk : Bool) (n : Nat) : BS :=
  if n = 2 then (orI .u8 (orI .u8 0 (pAddF (gp X 0) (gp X 1))) (pSubF (gp X 0) (gp X 1)), [pAdd (gp X 0) (gp X 1), pSub (gp X 0) (gp X 1)])
  else if n = 4 then (orL 0 (fourGP (gp X 0) (gp X 1) (gp X 2) (gp X 3) bk), four4P (gp X 0) (gp X 1) (gp X 2) (gp X 3) bk)
  else oddRP X bk n 0
theorem oA1_p : oA1 = oA1P := by funext X n j s; unfold oA1 oA1P; rw [cAdd_p, cAddF_p, cSub_p, cSubF_p]
theorem oA_p (X : List PZ) (n : Nat) : ∀ (q j : Nat) (s : FS), oA X n q j s = oAP X n q j s
  | 0, _, _ => rfl
  | q + 1, j, s => by rw [oA, oAP, oA1_p]; exact oA_p X n q (j + 1) _
theorem iA1_p : iA1 = iA1P := by funext S D k n j s; unfold iA1 iA1P; rw [cMore_p, cMoreF_p, cosR_p, sinR_p]
theorem iA_p (S D : List PZ) (k n : Nat) : ∀ (q j : Nat) (s : IS), iA S D k n q j s = iAP S D k n q j s
  | 0, _, _ => rfl
  | q + 1, j, s => by rw [iA, iAP, iA1_p]; exact iA_p S D k n q (j + 1) _
theorem oB1_p : oB1 = oB1P := by funext X S D bk n h k s; unfold oB1 oB1P oB2P; rw [iA_p, cAdd_p, cAddF_p, cSub_p, cSubF_p]
theorem oB_p (X S D : List PZ) (bk : Bool) (n h : Nat) : ∀ (q k : Nat) (s : BS), oB X S D bk n h q k s = oBP X S D bk n h q k s
  | 0, _, _ => rfl
  | q + 1, k, s => by rw [oB, oBP, oB1_p]; exact oB_p X S D bk n h q (k + 1) _
theorem oddR_p (X : List PZ) (bk : Bool) (n : Nat) (f : Int) : oddR X bk n f = oddRP X bk n f := by
  unfold oddR oddRP oddTP oddSf oddSP
  rw [oA_p, oB_p]
theorem litR_p (X : List PZ) (bk : Bool) (n : Nat) : litR X bk n = litP X bk n := by
  unfold litR litP fourG fourGP four4 four4P
  rw [oddR_p, cAdd_p, cAddF_p, cSub_p, cSubF_p]
/-! ### Ones -/
end Go.Proofs.YtbakldcbaikgpaaGreatDoor
