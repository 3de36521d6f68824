/- tillerref18: Little, the walk. Own work. -/
import Derived.Test.YtbakldcbaikgpaaGreatDoorRef10
import Derived.Test.YtbakldcbaikgpaaGreatDoorFlyA
namespace Go.Proofs.YtbakldcbaikgpaaGreatDoor
set_option maxRecDepth 100000
noncomputable section
def orcLi : List (FuncId × Ent) := [(32, entS false sp_r17Add), (38, entS false sp_r17Sub), (40, entS false sp_r17More), (39, entS false sp_cTurn)]
theorem orcLi_ok {nt : Nat} {lo : List (Nat × LEnt)} : OrcOk Tryz.prog (env nt orcLi lo) := orc_cons ok_r17Add (orc_cons ok_r17Sub (orc_cons ok_r17More (orc_cons ok_r17Turn orc_nil)))
def refsL : List (Nat × Nat × TypeId × AV) := [(30, 30, 55, .prs 0 .u64 [])]
def refsLI : List (Nat × Nat × TypeId × AV) := [(30, 30, 55, .prs 0 .u64 []), (38, 38, 55, .dead), (39, 39, 55, .dead)]
def stC (x : PZ) : AV := .st [.int .u64 x.1, .int .u64 x.2]
/-! ### The first answer -/
def lA1 (X : List PZ) (n j : Nat) (s : BS) : BS :=
  (orI .u8 (orI .u8 s.1 (cAddF (gp X j) (gp X (n - j)))) (cAddF (gp s.2 0) (cAdd (gp X j) (gp X (n - j)))), s.2.set 0 (cAdd (gp s.2 0) (cAdd (gp X j) (gp X (n - j)))))
def lA (X : List PZ) (n : Nat) : Nat → Nat → BS → BS
  | 0, _, s => s
  | q + 1, j, s => lA X n q (j + 1) (lA1 X n j s)
def lAk (X : List PZ) (n : Nat) (f : Int) (O : List PZ) : BS := stk (lA X n ((n - 1) / 2) 1 (f, O))
def fitLA (p xn : Nat) (O X : List PZ) (N f : Int) : Bool := stk (decide (N = xn ∧ p = xn ∧ X.length = xn ∧ O.length = xn ∧ 0 < xn ∧ xn ≤ 1000 ∧ 0 ≤ f ∧ f < 256)) && okL X && okL O
def stepL0 (R : Type) (vs : List AV) (k1 : List AV → Option R) (k2 : Nat → List AV → Option R) : Option R :=
  match vs with
  | [.prs p .u64 O, .sl (.prs xn .u64 X), .sl (.prs pn .u64 P), .bool bk, .int .i64 N, .int .i64 f, .int .i64 j] =>
    bif decide (w64 (2 * j) < N) then
      let x := gp X j.toNat
      let y := gp X (w64 (N - j)).toNat
      chk (inX j xn) (chk (inX (w64 (N - j)) xn) (chk (okPr x && okPr y) (chk (inX 0 p) (chk (okPr (gp O 0) && okPr (cAdd x y)) (chk (inX 0 p)
        (k1 [.prs p .u64 (O.set 0 (cAdd (gp O 0) (cAdd x y))), .sl (.prs xn .u64 X), .sl (.prs pn .u64 P), .bool bk, .int .i64 N, .int .i64 (orI .i64 (orI .i64 f (cAddF x y)) (cAddF (gp O 0) (cAdd x y))), .int .i64 (w64 (j + 1))]))))))
    else k2 0 [.prs p .u64 O, .sl (.prs xn .u64 X), .sl (.prs pn .u64 P), .bool bk, .int .i64 N, .int .i64 f]
  | _ => none
def leL0 : LEnt :=
  { inn := { fuel := none, keep := [0, 1, 2, 8, 31, 32], refs := refsL }
    out := { fuel := none, keep := [0, 1, 2, 8, 31], refs := refsL }
    ret := { fuel := none, keep := [], refs := [] }
    go := fun _ _ vs kk => match vs with
      | [.prs p .u64 O, .sl (.prs xn .u64 X), .sl (.prs pn .u64 P), .bool bk, .int .i64 N, .int .i64 f, .int .i64 1] =>
        chk (fitLA p xn O X N f) (kk 0 [.prs p .u64 (lAk X xn f O).2, .sl (.prs xn .u64 X), .sl (.prs pn .u64 P), .bool bk, .int .i64 N, .int .i64 (lAk X xn f O).1])
      | _ => none }
theorem step_L0 (R : Type) (p xn pn : Nat) (O X P : List PZ) (bk : Bool) (N f j : Int) (k1 : List AV → Option R) (k2 : Nat → List AV → Option R) :
    runA (env Tryz.f19.ntmps orcLi []) (loopOf 0 (bodyC Tryz.f19)) 0 (stateOf leL0.inn [.prs p .u64 O, .sl (.prs xn .u64 X), .sl (.prs pn .u64 P), .bool bk, .int .i64 N, .int .i64 f, .int .i64 j]) (bodyK leL0 0 k1 k2) =
    stepL0 R [.prs p .u64 O, .sl (.prs xn .u64 X), .sl (.prs pn .u64 P), .bool bk, .int .i64 N, .int .i64 f, .int .i64 j] k1 k2 := by kernel_rfl
/-! ### One answer's two parts -/
def lI1 (X P : List PZ) (k n j : Nat) (s : IS) : IS :=
  let x := gp X j
  let y := gp X (n - j)
  let c := gp P (j * k % n)
  (orI .u8 (orI .u8 (orI .u8 (orI .u8 s.1 (cAddF x y)) (cSubF x y)) (cMoreF (cAdd x y) c.1 s.2.1)) (cMoreF (cSub x y) c.2 s.2.2),
    cMore (cAdd x y) c.1 s.2.1, cMore (cSub x y) c.2 s.2.2)
def lI (X P : List PZ) (k n : Nat) : Nat → Nat → IS → IS
  | 0, _, s => s
  | q + 1, j, s => lI X P k n q (j + 1) (lI1 X P k n j s)
def lIk (X P : List PZ) (k : Int) (n : Nat) (f : Int) (a b : PZ) : IS := stk (lI X P k.toNat n ((n - 1) / 2) 1 (f, a, b))
def fitLI (xn pn : Nat) (X P : List PZ) (a b : PZ) (N k f : Int) : Bool := stk (decide (N = xn ∧ pn = xn ∧ X.length = xn ∧ P.length = xn ∧ 0 < xn ∧ xn ≤ 1000 ∧ 0 ≤ k ∧ k ≤ 1000 ∧ 0 ≤ f ∧ f < 256)) && okL X && okL P && okPr a && okPr b
def stepL4 (R : Type) (vs : List AV) (k1 : List AV → Option R) (k2 : Nat → List AV → Option R) : Option R :=
  match vs with
  | [.prs p .u64 O, .st [.int .u64 a1, .int .u64 a2], .st [.int .u64 b1, .int .u64 b2], .sl (.prs xn .u64 X), .sl (.prs pn .u64 P), .bool bk, .int .i64 N, .int .i64 f, .int .i64 k, .int .i64 j] =>
    bif decide (w64 (2 * j) < N) then
      let x := gp X j.toNat
      let y := gp X (w64 (N - j)).toNat
      let i := (w64 (j * k)).tmod N
      let c := gp P i.toNat
      chk (inX j xn) (chk (inX (w64 (N - j)) xn) (chk (okPr x && okPr y) (chk (inX j xn) (chk (inX (w64 (N - j)) xn) (chk (okPr x && okPr y)
        (chk (!(N == 0)) (chk (inX i pn) (chk (okPr (cAdd x y) && inU c.1 && okPr (a1, a2)) (chk (!(N == 0)) (chk (inX i pn) (chk (okPr (cSub x y) && inU c.2 && okPr (b1, b2))
        (k1 [.prs p .u64 O, stC (cMore (cAdd x y) c.1 (a1, a2)), stC (cMore (cSub x y) c.2 (b1, b2)), .sl (.prs xn .u64 X), .sl (.prs pn .u64 P), .bool bk, .int .i64 N,
          .int .i64 (orI .i64 (orI .i64 (orI .i64 (orI .i64 f (cAddF x y)) (cSubF x y)) (cMoreF (cAdd x y) c.1 (a1, a2))) (cMoreF (cSub x y) c.2 (b1, b2))), .int .i64 k, .int .i64 (w64 (j + 1))]))))))))))))
    else k2 0 [.prs p .u64 O, .st [.int .u64 a1, .int .u64 a2], .st [.int .u64 b1, .int .u64 b2], .sl (.prs xn .u64 X), .sl (.prs pn .u64 P), .bool bk, .int .i64 N, .int .i64 f, .int .i64 k]
  | _ => none
def leL4 : LEnt :=
  { inn := { fuel := none, keep := [0, 1, 2, 8, 31, 37, 40], refs := refsLI }
    out := { fuel := none, keep := [0, 1, 2, 8, 31, 37], refs := refsLI }
    ret := { fuel := none, keep := [], refs := [] }
    go := fun _ _ vs kk => match vs with
      | [.prs p .u64 O, .st [.int .u64 a1, .int .u64 a2], .st [.int .u64 b1, .int .u64 b2], .sl (.prs xn .u64 X), .sl (.prs pn .u64 P), .bool bk, .int .i64 N, .int .i64 f, .int .i64 k, .int .i64 1] =>
        chk (fitLI xn pn X P (a1, a2) (b1, b2) N k f) (kk 0 [.prs p .u64 O, stC (lIk X P k xn f (a1, a2) (b1, b2)).2.1, stC (lIk X P k xn f (a1, a2) (b1, b2)).2.2, .sl (.prs xn .u64 X), .sl (.prs pn .u64 P), .bool bk, .int .i64 N, .int .i64 (lIk X P k xn f (a1, a2) (b1, b2)).1, .int .i64 k])
      | _ => none }
theorem step_L4 (R : Type) (p xn pn : Nat) (O X P : List PZ) (a1 a2 b1 b2 : Int) (bk : Bool) (N f k j : Int) (k1 : List AV → Option R) (k2 : Nat → List AV → Option R) :
    runA (env Tryz.f19.ntmps orcLi []) (loopOf 4 (bodyC Tryz.f19)) 4 (stateOf leL4.inn [.prs p .u64 O, .st [.int .u64 a1, .int .u64 a2], .st [.int .u64 b1, .int .u64 b2], .sl (.prs xn .u64 X), .sl (.prs pn .u64 P), .bool bk, .int .i64 N, .int .i64 f, .int .i64 k, .int .i64 j]) (bodyK leL4 4 k1 k2) =
    stepL4 R [.prs p .u64 O, .st [.int .u64 a1, .int .u64 a2], .st [.int .u64 b1, .int .u64 b2], .sl (.prs xn .u64 X), .sl (.prs pn .u64 P), .bool bk, .int .i64 N, .int .i64 f, .int .i64 k, .int .i64 j] k1 k2 := by kernel_rfl
/-! ### All answers -/
def lB1 (X P : List PZ) (bk : Bool) (n k : Nat) (s : BS) : BS :=
  let r := lI X P k n ((n - 1) / 2) 1 (s.1, gp X 0, (0, 0))
  let e := cTurn r.2.2 (!bk)
  (orI .u8 (orI .u8 r.1 (cAddF r.2.1 e)) (cSubF r.2.1 e), (s.2.set k (cAdd r.2.1 e)).set (n - k) (cSub r.2.1 e))
def lB (X P : List PZ) (bk : Bool) (n : Nat) : Nat → Nat → BS → BS
  | 0, _, s => s
  | q + 1, k, s => lB X P bk n q (k + 1) (lB1 X P bk n k s)
def lBk (X P : List PZ) (bk : Bool) (n : Nat) (f : Int) (O : List PZ) : BS := stk (lB X P bk n ((n - 1) / 2) 1 (f, O))
def fitLB (p xn pn : Nat) (O X P : List PZ) (N f : Int) : Bool := stk (decide (N = xn ∧ p = xn ∧ pn = xn ∧ X.length = xn ∧ P.length = xn ∧ O.length = xn ∧ 0 < xn ∧ xn ≤ 1000 ∧ 0 ≤ f ∧ f < 256)) && okL X && okL P && okL O
def stepL2 (R : Type) (vs : List AV) (k1 : List AV → Option R) (k2 : Nat → List AV → Option R) : Option R :=
  match vs with
  | [.prs p .u64 O, .sl (.prs xn .u64 X), .sl (.prs pn .u64 P), .bool bk, .int .i64 N, .int .i64 f, .int .i64 k] =>
    bif decide (w64 (2 * k) < N) then
      let r := lIk X P k xn f ((gp X 0).1, (gp X 0).2) (0, 0)
      let e := cTurn r.2.2 (!bk)
      chk (inX 0 xn) (chk (fitLI xn pn X P ((gp X 0).1, (gp X 0).2) (0, 0) N k f) (chk (okPr r.2.2) (chk (okPr r.2.1 && okPr e) (chk (okPr r.2.1 && okPr e) (chk (inX k p) (chk (inX (w64 (N - k)) p)
        (k1 [.prs p .u64 ((O.set k.toNat (cAdd r.2.1 e)).set (w64 (N - k)).toNat (cSub r.2.1 e)), .sl (.prs xn .u64 X), .sl (.prs pn .u64 P), .bool bk, .int .i64 N, .int .i64 (orI .i64 (orI .i64 r.1 (cAddF r.2.1 e)) (cSubF r.2.1 e)), .int .i64 (w64 (k + 1))])))))))
    else k2 0 [.prs p .u64 O, .int .i64 f]
  | _ => none
def leL2 : LEnt :=
  { inn := { fuel := none, keep := [0, 1, 2, 8, 31, 37], refs := refsL }
    out := { fuel := none, keep := [31], refs := refsL }
    ret := { fuel := none, keep := [], refs := [] }
    go := fun _ _ vs kk => match vs with
      | [.prs p .u64 O, .sl (.prs xn .u64 X), .sl (.prs pn .u64 P), .bool bk, .int .i64 N, .int .i64 f, .int .i64 1] =>
        chk (fitLB p xn pn O X P N f) (kk 0 [.prs p .u64 (lBk X P bk xn f O).2, .int .i64 (lBk X P bk xn f O).1])
      | _ => none }
theorem step_L2 (R : Type) (p xn pn : Nat) (O X P : List PZ) (bk : Bool) (N f k : Int) (k1 : List AV → Option R) (k2 : Nat → List AV → Option R) :
    runA (env Tryz.f19.ntmps orcLi [(4, leL4)]) (loopOf 2 (bodyC Tryz.f19)) 2 (stateOf leL2.inn [.prs p .u64 O, .sl (.prs xn .u64 X), .sl (.prs pn .u64 P), .bool bk, .int .i64 N, .int .i64 f, .int .i64 k]) (bodyK leL2 2 k1 k2) =
    stepL2 R [.prs p .u64 O, .sl (.prs xn .u64 X), .sl (.prs pn .u64 P), .bool bk, .int .i64 N, .int .i64 f, .int .i64 k] k1 k2 := by kernel_rfl
/-! ### The first answer: rounds -/
def vsL (p xn pn : Nat) (X P : List PZ) (bk : Bool) (N j : Int) (s : BS) : List AV := [.prs p .u64 s.2, .sl (.prs xn .u64 X), .sl (.prs pn .u64 P), .bool bk, .int .i64 N, .int .i64 s.1, .int .i64 j]
def vsLo (p xn pn : Nat) (X P : List PZ) (bk : Bool) (N : Int) (s : BS) : List AV := [.prs p .u64 s.2, .sl (.prs xn .u64 X), .sl (.prs pn .u64 P), .bool bk, .int .i64 N, .int .i64 s.1]
/-- Numbers, and a byte of flags. -/
def okBS (n : Nat) (s : BS) : Prop := okL s.2 = true ∧ s.2.length = n ∧ fl8 s.1
theorem L0_end (R : Type) (p xn pn : Nat) (X P : List PZ) (bk : Bool) (N j : Int) (s : BS) (k1 : List AV → Option R) (k2 : Nat → List AV → Option R) (h : ¬ w64 (2 * j) < N) : stepL0 R (vsL p xn pn X P bk N j s) k1 k2 = k2 0 (vsLo p xn pn X P bk N s) := by
  unfold vsL stepL0
  simp only [h, decide_false, cond_false]
  rfl
theorem L0_step (R : Type) (n pn : Nat) (X P : List PZ) (bk : Bool) (j : Nat) (s : BS) (k1 : List AV → Option R) (k2 : Nat → List AV → Option R) (hj0 : 0 < j) (hj : 2 * j < n) (hn2 : n ≤ 1000) (hX : okL X = true) (hs : okBS n s) :
    stepL0 R (vsL n n pn X P bk n j s) k1 k2 = k1 (vsL n n pn X P bk n ((j + 1 : Nat) : Int) (lA1 X n j s)) ∧ okBS n (lA1 X n j s) := by
  obtain ⟨hO, hl, hf⟩ := hs
  have e0 : w64 (2 * (j : Int)) = ((2 * j : Nat) : Int) := by rw [w64_mid (by omega) (by omega)]; omega
  have e1 : w64 ((j : Int) + 1) = ((j + 1 : Nat) : Int) := by rw [w64_mid (by omega) (by omega)]; omega
  have e2 : w64 ((n : Int) - j) = ((n - j : Nat) : Int) := by rw [w64_mid (by omega) (by omega)]; omega
  have c1 : inX (j : Int) n = true := inX_at (by omega)
  have c2 : inX ((n - j : Nat) : Int) n = true := inX_at (by omega)
  have c4 : inX 0 n = true := inX_at (show 0 < n by omega)
  have p1 := gp_ok hX j
  have p2 := gp_ok hX (n - j)
  have p3 := gp_ok hO 0
  have p4 := okPr_add p1 p2
  obtain ⟨o1, o2⟩ := or_same hf (cAddF_fl (gp X j) (gp X (n - j)))
  obtain ⟨o3, o4⟩ := or_same o2 (cAddF_fl (gp s.2 0) (cAdd (gp X j) (gp X (n - j))))
  refine ⟨?_, okL_set hO 0 (okPr_add p3 p4), by show (s.2.set 0 _).length = n; rw [List.length_set]; exact hl, o4⟩
  unfold vsL stepL0
  simp only [e0, decide_eq_true (show ((2 * j : Nat) : Int) < (n : Int) by omega), cond_true, e1, e2, Int.toNat_natCast, c1, c2, c4, p1, p2, p3, p4, Bool.and_self, chk, o1, o3]
  rfl
theorem L0_loop (R : Type) (n pn : Nat) (X P : List PZ) (bk : Bool) (kk : Nat → List AV → Option R) (hn2 : n ≤ 1000) (hn0 : 0 < n) (hX : okL X = true) : ∀ (q j : Nat) (s : BS), 0 < j → j + q = (n - 1) / 2 + 1 → okBS n s →
    loopN (stepL0 R) (q + 1) (vsL n n pn X P bk n j s) kk = kk 0 (vsLo n n pn X P bk n (lA X n q j s)) ∧ okBS n (lA X n q j s)
  | 0, j, s, hj0, hj, hs => by
    have e0 : w64 (2 * (j : Int)) = ((2 * j : Nat) : Int) := by rw [w64_mid (by omega) (by omega)]; omega
    rw [loopN, L0_end R n n pn X P bk n j s _ kk (by rw [e0]; omega)]
    exact ⟨rfl, hs⟩
  | q + 1, j, s, hj0, hj, hs => by
    obtain ⟨h1, h2⟩ := L0_step R n pn X P bk j s (fun vs' => loopN (stepL0 R) (q + 1) vs' kk) kk hj0 (by omega) hn2 hX hs
    rw [loopN, h1]
    exact L0_loop R n pn X P bk kk hn2 hn0 hX q (j + 1) (lA1 X n j s) (by omega) (by omega) h2
theorem go_L0 (R : Type) (n : Nat) (vs : List AV) (kk : Nat → List AV → Option R) (r : R) (h : leL0.go R n vs kk = some r) : ∃ m, loopN (stepL0 R) m vs kk = some r := by
  simp only [leL0] at h
  split at h
  · rename_i p O xn X pn P bk N f
    obtain ⟨hg, hk⟩ := chk_some h
    clear h
    unfold fitLA at hg
    rw [stk_eq] at hg
    simp only [Bool.and_eq_true, decide_eq_true_eq] at hg
    obtain ⟨⟨⟨rfl, rfl, g1, g2, g3, g4, g5, g6⟩, hX⟩, hO⟩ := hg
    refine ⟨(p - 1) / 2 + 1, (L0_loop R p pn X P bk kk g4 g3 hX ((p - 1) / 2) 1 (f, O) (by decide) (by omega) ⟨hO, g2, g5, g6⟩).1.trans ?_⟩
    unfold lAk at hk
    rw [stk_eq] at hk
    exact hk
  · cases h
/-! ### One answer's two parts: rounds -/
def vsM (p xn pn : Nat) (O X P : List PZ) (bk : Bool) (N k j : Int) (s : IS) : List AV := [.prs p .u64 O, stC s.2.1, stC s.2.2, .sl (.prs xn .u64 X), .sl (.prs pn .u64 P), .bool bk, .int .i64 N, .int .i64 s.1, .int .i64 k, .int .i64 j]
def vsMo (p xn pn : Nat) (O X P : List PZ) (bk : Bool) (N k : Int) (s : IS) : List AV := [.prs p .u64 O, stC s.2.1, stC s.2.2, .sl (.prs xn .u64 X), .sl (.prs pn .u64 P), .bool bk, .int .i64 N, .int .i64 s.1, .int .i64 k]
def okIS (s : IS) : Prop := okPr s.2.1 = true ∧ okPr s.2.2 = true ∧ fl8 s.1
theorem L4_end (R : Type) (p xn pn : Nat) (O X P : List PZ) (bk : Bool) (N k j : Int) (s : IS) (k1 : List AV → Option R) (k2 : Nat → List AV → Option R) (h : ¬ w64 (2 * j) < N) : stepL4 R (vsM p xn pn O X P bk N k j s) k1 k2 = k2 0 (vsMo p xn pn O X P bk N k s) := by
  unfold vsM stC stepL4
  simp only [h, decide_false, cond_false]
  rfl
theorem L4_step (R : Type) (p n : Nat) (O X P : List PZ) (bk : Bool) (k j : Nat) (s : IS) (k1 : List AV → Option R) (k2 : Nat → List AV → Option R) (hj0 : 0 < j) (hj : 2 * j < n) (hn2 : n ≤ 1000) (hk : k ≤ 1000) (hX : okL X = true) (hP : okL P = true) (hs : okIS s) :
    stepL4 R (vsM p n n O X P bk n k j s) k1 k2 = k1 (vsM p n n O X P bk n k ((j + 1 : Nat) : Int) (lI1 X P k n j s)) ∧ okIS (lI1 X P k n j s) := by
  obtain ⟨ha, hb, hf⟩ := hs
  have e0 : w64 (2 * (j : Int)) = ((2 * j : Nat) : Int) := by rw [w64_mid (by omega) (by omega)]; omega
  have e1 : w64 ((j : Int) + 1) = ((j + 1 : Nat) : Int) := by rw [w64_mid (by omega) (by omega)]; omega
  have e2 : w64 ((n : Int) - j) = ((n - j : Nat) : Int) := by rw [w64_mid (by omega) (by omega)]; omega
  have hm : j * k ≤ 1000 * 1000 := Nat.mul_le_mul (by omega) hk
  have e3 : (w64 ((j : Int) * k)).tmod (n : Int) = ((j * k % n : Nat) : Int) := by rw [← Int.natCast_mul, w64_mid (by omega) (by omega)]; exact tmodN _ _
  have c1 : inX (j : Int) n = true := inX_at (by omega)
  have c2 : inX ((n - j : Nat) : Int) n = true := inX_at (by omega)
  have c3 : inX ((j * k % n : Nat) : Int) n = true := inX_at (Nat.mod_lt _ (by omega))
  have c5 : (!((n : Int) == 0)) = true := by rw [beq_eq_false_iff_ne.2 (by omega)]; rfl
  have p1 := gp_ok hX j
  have p2 := gp_ok hX (n - j)
  have p3 := okPr_iff.1 (gp_ok hP (j * k % n))
  have p4 := okPr_add p1 p2
  have p5 := okPr_sub p1 p2
  obtain ⟨o1, o2⟩ := or_same hf (cAddF_fl (gp X j) (gp X (n - j)))
  obtain ⟨o3, o4⟩ := or_same o2 (cSubF_fl (gp X j) (gp X (n - j)))
  obtain ⟨o5, o6⟩ := or_same o4 (cMoreF_fl (cAdd (gp X j) (gp X (n - j))) (gp P (j * k % n)).1 s.2.1)
  obtain ⟨o7, o8⟩ := or_same o6 (cMoreF_fl (cSub (gp X j) (gp X (n - j))) (gp P (j * k % n)).2 s.2.2)
  refine ⟨?_, okPr_more _ _ ha, okPr_more _ _ hb, o8⟩
  unfold vsM stC stepL4
  simp only [e0, decide_eq_true (show ((2 * j : Nat) : Int) < (n : Int) by omega), cond_true, e1, e2, e3, Int.toNat_natCast, c1, c2, c3, c5, p1, p2, p3.1, p3.2, p4, p5, ha, hb, pzE, Bool.and_self, chk, o1, o3, o5, o7]
  rfl
theorem L4_loop (R : Type) (p n : Nat) (O X P : List PZ) (bk : Bool) (k : Nat) (kk : Nat → List AV → Option R) (hn2 : n ≤ 1000) (hn0 : 0 < n) (hk : k ≤ 1000) (hX : okL X = true) (hP : okL P = true) : ∀ (q j : Nat) (s : IS), 0 < j → j + q = (n - 1) / 2 + 1 → okIS s →
    loopN (stepL4 R) (q + 1) (vsM p n n O X P bk n k j s) kk = kk 0 (vsMo p n n O X P bk n k (lI X P k n q j s)) ∧ okIS (lI X P k n q j s)
  | 0, j, s, hj0, hj, hs => by
    have e0 : w64 (2 * (j : Int)) = ((2 * j : Nat) : Int) := by rw [w64_mid (by omega) (by omega)]; omega
    rw [loopN, L4_end R p n n O X P bk n k j s _ kk (by rw [e0]; omega)]
    exact ⟨rfl, hs⟩
  | q + 1, j, s, hj0, hj, hs => by
    obtain ⟨h1, h2⟩ := L4_step R p n O X P bk k j s (fun vs' => loopN (stepL4 R) (q + 1) vs' kk) kk hj0 (by omega) hn2 hk hX hP hs
    rw [loopN, h1]
    exact L4_loop R p n O X P bk k kk hn2 hn0 hk hX hP q (j + 1) (lI1 X P k n j s) (by omega) (by omega) h2
theorem go_L4 (R : Type) (n : Nat) (vs : List AV) (kk : Nat → List AV → Option R) (r : R) (h : leL4.go R n vs kk = some r) : ∃ m, loopN (stepL4 R) m vs kk = some r := by
  simp only [leL4] at h
  split at h
  · rename_i p O a1 a2 b1 b2 xn X pn P bk N f k
    obtain ⟨hg, hk⟩ := chk_some h
    clear h
    unfold fitLI at hg
    rw [stk_eq] at hg
    simp only [Bool.and_eq_true, decide_eq_true_eq] at hg
    obtain ⟨⟨⟨⟨⟨rfl, rfl, g1, g2, g3, g4, g5, g6, g7, g8⟩, hX⟩, hP⟩, ha⟩, hb⟩ := hg
    obtain ⟨k, rfl⟩ : ∃ m : Nat, k = m := ⟨k.toNat, (Int.toNat_of_nonneg g5).symm⟩
    refine ⟨(pn - 1) / 2 + 1, (L4_loop R p pn O X P bk k kk g4 g3 (by omega) hX hP ((pn - 1) / 2) 1 (f, (a1, a2), (b1, b2)) (by decide) (by omega) ⟨ha, hb, g7, g8⟩).1.trans ?_⟩
    unfold lIk at hk
    rw [stk_eq, Int.toNat_natCast] at hk
    exact hk
  · cases h
/-! ### All answers: rounds -/
def vsN (p xn pn : Nat) (X P : List PZ) (bk : Bool) (N k : Int) (s : BS) : List AV := [.prs p .u64 s.2, .sl (.prs xn .u64 X), .sl (.prs pn .u64 P), .bool bk, .int .i64 N, .int .i64 s.1, .int .i64 k]
def vsNo (p : Nat) (s : BS) : List AV := [.prs p .u64 s.2, .int .i64 s.1]
theorem L2_end (R : Type) (p xn pn : Nat) (X P : List PZ) (bk : Bool) (N j : Int) (s : BS) (k1 : List AV → Option R) (k2 : Nat → List AV → Option R) (h : ¬ w64 (2 * j) < N) : stepL2 R (vsN p xn pn X P bk N j s) k1 k2 = k2 0 (vsNo p s) := by
  unfold vsN stepL2
  simp only [h, decide_false, cond_false]
  rfl
theorem lI_ok {n : Nat} {X P : List PZ} (k : Nat) : ∀ (q j : Nat) (s : IS), okIS s → okIS (lI X P k n q j s)
  | 0, _, _, h => h
  | q + 1, j, s, ⟨ha, hb, hf⟩ => lI_ok k q (j + 1) (lI1 X P k n j s) ⟨okPr_more _ _ ha, okPr_more _ _ hb, (or_same (or_same (or_same (or_same hf (cAddF_fl _ _)).2 (cSubF_fl _ _)).2 (cMoreF_fl _ _ _)).2 (cMoreF_fl _ _ _)).2⟩
theorem L2_step (R : Type) (n : Nat) (X P : List PZ) (bk : Bool) (k : Nat) (s : BS) (k1 : List AV → Option R) (k2 : Nat → List AV → Option R) (hk0 : 0 < k) (hk : 2 * k < n) (hn2 : n ≤ 1000) (hX : okL X = true) (hXl : X.length = n) (hP : okL P = true) (hPl : P.length = n) (hs : okBS n s) :
    stepL2 R (vsN n n n X P bk n k s) k1 k2 = k1 (vsN n n n X P bk n ((k + 1 : Nat) : Int) (lB1 X P bk n k s)) ∧ okBS n (lB1 X P bk n k s) := by
  obtain ⟨hO, hl, hf⟩ := hs
  have e0 : w64 (2 * (k : Int)) = ((2 * k : Nat) : Int) := by rw [w64_mid (by omega) (by omega)]; omega
  have e1 : w64 ((k : Int) + 1) = ((k + 1 : Nat) : Int) := by rw [w64_mid (by omega) (by omega)]; omega
  have e2 : w64 ((n : Int) - k) = ((n - k : Nat) : Int) := by rw [w64_mid (by omega) (by omega)]; omega
  have c1 : inX (k : Int) n = true := inX_at (by omega)
  have c2 : inX ((n - k : Nat) : Int) n = true := inX_at (by omega)
  have c4 : inX 0 n = true := inX_at (show 0 < n by omega)
  have p0 := gp_ok hX 0
  have e3 : fitLI n n X P (gp X 0) (0, 0) n k s.1 = true := by
    unfold fitLI
    rw [stk_eq, hX, hP, p0, okPr_zero, decide_eq_true ⟨rfl, rfl, hXl, hPl, by omega, hn2, by omega, by omega, hf.1, hf.2⟩]; rfl
  have e4 : lIk X P k n s.1 (gp X 0) (0, 0) = lI X P k n ((n - 1) / 2) 1 (s.1, gp X 0, (0, 0)) := by unfold lIk; rw [stk_eq, Int.toNat_natCast]
  obtain ⟨q1, q2, q3⟩ := lI_ok (n := n) (X := X) (P := P) k ((n - 1) / 2) 1 (s.1, gp X 0, (0, 0)) ⟨p0, okPr_zero, hf⟩
  unfold lB1
  generalize hr : lI X P k n ((n - 1) / 2) 1 (s.1, gp X 0, (0, 0)) = r at *
  have q4 := okPr_turn q2 (!bk)
  obtain ⟨o1, o2⟩ := or_same q3 (cAddF_fl r.2.1 (cTurn r.2.2 (!bk)))
  obtain ⟨o3, o4⟩ := or_same o2 (cSubF_fl r.2.1 (cTurn r.2.2 (!bk)))
  refine ⟨?_, okL_set (okL_set hO k (okPr_add q1 q4)) (n - k) (okPr_sub q1 q4), by show ((s.2.set k _).set (n - k) _).length = n; rw [List.length_set, List.length_set]; exact hl, o4⟩
  unfold vsN stepL2
  simp only [e0, decide_eq_true (show ((2 * k : Nat) : Int) < (n : Int) by omega), cond_true, e1, e2, Int.toNat_natCast, c1, c2, c4, e3, e4, pzE, q1, q2, q4, Bool.and_self, chk, o1, o3]
theorem L2_loop (R : Type) (n : Nat) (X P : List PZ) (bk : Bool) (kk : Nat → List AV → Option R) (hn2 : n ≤ 1000) (hn0 : 0 < n) (hX : okL X = true) (hXl : X.length = n) (hP : okL P = true) (hPl : P.length = n) : ∀ (q j : Nat) (s : BS), 0 < j → j + q = (n - 1) / 2 + 1 → okBS n s →
    loopN (stepL2 R) (q + 1) (vsN n n n X P bk n j s) kk = kk 0 (vsNo n (lB X P bk n q j s)) ∧ okBS n (lB X P bk n q j s)
  | 0, j, s, hj0, hj, hs => by
    have e0 : w64 (2 * (j : Int)) = ((2 * j : Nat) : Int) := by rw [w64_mid (by omega) (by omega)]; omega
    rw [loopN, L2_end R n n n X P bk n j s _ kk (by rw [e0]; omega)]
    exact ⟨rfl, hs⟩
  | q + 1, j, s, hj0, hj, hs => by
    obtain ⟨h1, h2⟩ := L2_step R n X P bk j s (fun vs' => loopN (stepL2 R) (q + 1) vs' kk) kk hj0 (by omega) hn2 hX hXl hP hPl hs
    rw [loopN, h1]
    exact L2_loop R n X P bk kk hn2 hn0 hX hXl hP hPl q (j + 1) (lB1 X P bk n j s) (by omega) (by omega) h2
theorem go_L2 (R : Type) (n : Nat) (vs : List AV) (kk : Nat → List AV → Option R) (r : R) (h : leL2.go R n vs kk = some r) : ∃ m, loopN (stepL2 R) m vs kk = some r := by
  simp only [leL2] at h
  split at h
  · rename_i p O xn X pn P bk N f
    obtain ⟨hg, hk⟩ := chk_some h
    clear h
    unfold fitLB at hg
    rw [stk_eq] at hg
    simp only [Bool.and_eq_true, decide_eq_true_eq] at hg
    obtain ⟨⟨⟨⟨rfl, rfl, rfl, g1, g2, g3, g4, g5, g6, g7⟩, hX⟩, hP⟩, hO⟩ := hg
    refine ⟨(pn - 1) / 2 + 1, (L2_loop R pn X P bk kk g5 g4 hX g1 hP g2 ((pn - 1) / 2) 1 (f, O) (by decide) (by omega) ⟨hO, g3, g6, g7⟩).1.trans ?_⟩
    unfold lBk at hk
    rw [stk_eq] at hk
    exact hk
  · cases h
/-! ### The contract -/
def two2 (X : List PZ) : List PZ := [cAdd (gp X 0) (gp X 1), cSub (gp X 0) (gp X 1)]
def four_4 (X : List PZ) (bk : Bool) : List PZ := four4 (gp X 0) (gp X 1) (gp X 2) (gp X 3) bk
def rLi (X P : List PZ) (bk : Bool) (n : Nat) : BS := lB X P bk n ((n - 1) / 2) 1 (lA X n ((n - 1) / 2) 1 (0, (List.replicate n (0, 0)).set 0 (gp X 0)))
def rLik (X P : List PZ) (bk : Bool) (n : Nat) : BS := stk (rLi X P bk n)
def fitLi (n : Nat) (X : List PZ) (m : Nat) (P : List PZ) : Bool := stk (decide (X.length = n ∧ m = n ∧ P.length = n ∧ 2 ≤ n ∧ n ≤ 1000 ∧ (n % 2 = 1 ∨ n = 2 ∨ n = 4))) && okL X && okL P
def orF2 (X : List PZ) : Int := stk (orI .u8 (cAddF (gp X 0) (gp X 1)) (cSubF (gp X 0) (gp X 1)))
def orF4 (X : List PZ) (bk : Bool) : Int := stk (orL 0 (fourG (gp X 0) (gp X 1) (gp X 2) (gp X 3) bk))
def sp_rLi : List AV → Option Br
  | [.sl (.prs n .u64 X), .sl (.prs m .u64 P), .bool bk] => some (.chk (fitLi n X m P) (.br ((n : Int) == 2) (.leaf (.tup [.osl 55 (.prs 2 .u64 (two2 X)), .int .i64 (orF2 X)]))
      (.br ((n : Int) == 4) (.leaf (.tup [.osl 55 (.prs 4 .u64 (four_4 X bk)), .int .i64 (orF4 X bk)])) (.leaf (.tup [.osl 55 (.prs n .u64 (rLik X P bk n).2), .int .i64 (rLik X P bk n).1])))))
  | _ => none
def liB (p n m : Nat) (O X P : List PZ) (bk : Bool) (N f : Int) : Option AV := chk (fitLB p n m O X P N f) (some (.tup [.osl 55 (.prs p .u64 (lBk X P bk n f O).2), .int .i64 (lBk X P bk n f O).1]))
def liA (p n m : Nat) (O X P : List PZ) (bk : Bool) (N : Int) : Option AV := chk (inX 0 n) (chk (inX 0 p) (chk (fitLA p n (O.set 0 (gp X 0)) X N 0) (liB p n m (lAk X n 0 (O.set 0 (gp X 0))).2 X P bk N (lAk X n 0 (O.set 0 (gp X 0))).1)))
def li2 (n : Nat) (X : List PZ) : Option AV := chk (inX 0 n) (chk (inX 1 n) (chk (okPr (gp X 0) && okPr (gp X 1)) (chk (inX 0 n) (chk (inX 1 n) (chk (okPr (gp X 0) && okPr (gp X 1))
  (some (.tup [.osl 55 (.prs 2 .u64 (two2 X)), .int .i64 (orI .i64 (cAddF (gp X 0) (gp X 1)) (cSubF (gp X 0) (gp X 1)))])))))))
def orL64 (f : Int) : List Int → Int
  | [] => f
  | g :: l => orL64 (orI .i64 f g) l
def li4b (X : List PZ) (bk : Bool) (a b c d : PZ) : Option AV :=
  chk (okPr d) (chk (okPr a && okPr c) (chk (okPr b && okPr (cTurn d (!bk))) (chk (okPr a && okPr c) (chk (okPr b && okPr (cTurn d (!bk)))
    (some (.tup [.osl 55 (.prs 4 .u64 (four_4 X bk)), .int .i64 (orL64 (cAddF (gp X 0) (gp X 2)) [cSubF (gp X 0) (gp X 2), cAddF (gp X 1) (gp X 3), cSubF (gp X 1) (gp X 3), cAddF a c, cAddF b (cTurn d (!bk)), cSubF a c, cSubF b (cTurn d (!bk))])]))))))
def li4 (n : Nat) (X : List PZ) (bk : Bool) : Option AV :=
  chk (inX 0 n) (chk (inX 2 n) (chk (okPr (gp X 0) && okPr (gp X 2)) (chk (inX 0 n) (chk (inX 2 n) (chk (okPr (gp X 0) && okPr (gp X 2)) (chk (inX 1 n) (chk (inX 3 n) (chk (okPr (gp X 1) && okPr (gp X 3)) (chk (inX 1 n) (chk (inX 3 n) (chk (okPr (gp X 1) && okPr (gp X 3))
    (li4b X bk (cAdd (gp X 0) (gp X 2)) (cSub (gp X 0) (gp X 2)) (cAdd (gp X 1) (gp X 3)) (cSub (gp X 1) (gp X 3))))))))))))))
theorem run_rLi (n m : Nat) (X P : List PZ) (bk : Bool) : callA (env Tryz.f19.ntmps orcLi [(0, leL0), (2, leL2)]) (bodyC Tryz.f19) Tryz.f19.results.toList (slots 0 [.sl (.prs n .u64 X), .sl (.prs m .u64 P), .bool bk]) some =
    bif (n : Int) == 2 then li2 n X else bif (n : Int) == 4 then li4 n X bk else chk (mkOk (n : Int)) (liA (n : Int).toNat n m (List.replicate (n : Int).toNat (0, 0)) X P bk (n : Int)) := by kernel_rfl
theorem orL64_eq : ∀ (l : List Int) (f : Int), fl8 f → (∀ g ∈ l, fl8 g) → orL64 f l = orL f l
  | [], f, _, _ => rfl
  | g :: l, f, hf, hl => by
    obtain ⟨o1, o2⟩ := or_same hf (hl g (List.mem_cons_self ..))
    show orL64 (orI .i64 f g) l = orL (orI .u8 f g) l
    rw [o1]
    exact orL64_eq l _ o2 (fun x hx => hl x (List.mem_cons_of_mem _ hx))
theorem or8_zero {f : Int} (hf : fl8 f) : orI .u8 0 f = f := by
  obtain ⟨a, rfl⟩ : ∃ n : Nat, f = n := ⟨f.toNat, (Int.toNat_of_nonneg hf.1).symm⟩
  have h := hf.2
  have := or8_nat (a := 0) (b := a) (by decide) (by omega)
  rw [Nat.zero_or] at this
  exact this
theorem okBS_start {n : Nat} {X : List PZ} (hX : okL X = true) : okBS n ((0 : Int), (List.replicate n (0, 0)).set 0 (gp X 0)) := by
  refine ⟨okL_set (okL_iff.2 fun x hx => ?_) 0 (gp_ok hX 0), by show ((List.replicate n _).set 0 _).length = n; rw [List.length_set, List.length_replicate], (by decide : (0 : Int) ≤ 0), (by decide : (0 : Int) < 256)⟩
  rw [List.eq_of_mem_replicate hx]
  exact okPr_zero
theorem ok_rLi : EntOk Tryz.prog 19 (entB true sp_rLi) := by
  refine contractB (orc := orcLi) (lo := [(0, leL0), (2, leL2)]) Tryz.func19 orcLi_ok (by kernel_rfl) (by kernel_rfl) (by kernel_rfl)
    (loops_two (id := 0) (id' := 2) (y := .loop (loopOf 0 (bodyC Tryz.f19))) (y' := .loop (loopOf 2 (bodyC Tryz.f19))) (by kernel_rfl)
      (loopS (le := leL0) (orc := orcLi) (lo' := []) orcLi_ok (by kernel_rfl) rfl (loops_none (by kernel_rfl)) stepL0 (fun R vs k1 k2 r h => ?_) go_L0)
      (loopS (le := leL2) (orc := orcLi) (lo' := [(4, leL4)]) orcLi_ok (by kernel_rfl) rfl
        (loops_one (id := 4) (y := .loop (loopOf 4 (bodyC Tryz.f19))) (by kernel_rfl)
          (loopS (le := leL4) (orc := orcLi) (lo' := []) orcLi_ok (by kernel_rfl) rfl (loops_none (by kernel_rfl)) stepL4 (fun R vs k1 k2 r h => ?_) go_L4))
        stepL2 (fun R vs k1 k2 r h => ?_) go_L2)) fun args t h => ?_
  · have h0 := h
    unfold stepL0 at h
    split at h
    · exact (step_L0 R _ _ _ _ _ _ _ _ _ _ k1 k2).trans h0
    · cases h
  · have h0 := h
    unfold stepL4 at h
    split at h
    · exact (step_L4 R _ _ _ _ _ _ _ _ _ _ _ _ _ _ _ k1 k2).trans h0
    · cases h
  · have h0 := h
    unfold stepL2 at h
    split at h
    · exact (step_L2 R _ _ _ _ _ _ _ _ _ _ k1 k2).trans h0
    · cases h
  · unfold sp_rLi at h
    split at h
    · rename_i n X m P bk
      simp only [Option.some.injEq] at h
      subst h
      refine ⟨by kernel_rfl, .inl rfl, fun r h => ?_⟩
      rw [run_rLi]
      simp only [Br.run] at h
      obtain ⟨hg, h3⟩ := chk_some h
      clear h
      unfold fitLi at hg
      rw [stk_eq] at hg
      simp only [Bool.and_eq_true, decide_eq_true_eq] at hg
      obtain ⟨⟨⟨g1, rfl, g3, g4, g5, g6⟩, hX⟩, hP⟩ := hg
      have p := gp_ok hX
      by_cases h2 : m = 2
      · subst h2
        rw [show (((2 : Nat) : Int) == 2) = true by decide] at h3 ⊢
        unfold li2
        unfold orF2 at h3
        rw [stk_eq, ← (or_same (cAddF_fl _ _) (cSubF_fl _ _)).1] at h3
        rw [p 0, p 1]
        exact h3
      · have b2 : ((m : Int) == 2) = false := beq_eq_false_iff_ne.2 (by omega)
        rw [b2] at h3 ⊢
        by_cases h4 : m = 4
        · subst h4
          rw [show (((4 : Nat) : Int) == 4) = true by decide] at h3 ⊢
          unfold li4 li4b
          unfold orF4 fourG at h3
          have q0 := okPr_add (p 0) (p 2)
          have q1 := okPr_sub (p 0) (p 2)
          have q2 := okPr_add (p 1) (p 3)
          have q3 := okPr_sub (p 1) (p 3)
          rw [stk_eq, show ∀ a l, orL 0 (a :: l) = orL (orI .u8 0 a) l from fun _ _ => rfl, or8_zero (cAddF_fl _ _), ← orL64_eq _ _ (cAddF_fl _ _) (fun g hg => by
            simp only [List.mem_cons, List.not_mem_nil, or_false] at hg
            rcases hg with rfl | rfl | rfl | rfl | rfl | rfl | rfl
            · exact cSubF_fl _ _
            · exact cAddF_fl _ _
            · exact cSubF_fl _ _
            · exact cAddF_fl _ _
            · exact cAddF_fl _ _
            · exact cSubF_fl _ _
            · exact cSubF_fl _ _)] at h3
          rw [p 0, p 1, p 2, p 3, q0, q1, q2, q3, okPr_turn q3]
          exact h3
        · have b4 : ((m : Int) == 4) = false := beq_eq_false_iff_ne.2 (by omega)
          rw [b4] at h3 ⊢
          have e1 : mkOk (m : Int) = true := by
            unfold mkOk
            rw [beq_self_eq_true, decide_eq_true (show (0 : Int) ≤ (m : Int) by omega), decide_eq_true (show (16 : Int) * (m : Int) ≤ 140737488355328 by omega), decide_eq_true (show (m : Int) < 9223372036854775808 by omega)]
            rfl
          have c4 : inX 0 m = true := inX_at (show 0 < m by omega)
          have hs := okBS_start (n := m) hX
          have e2 : fitLA m m ((List.replicate m (0, 0)).set 0 (gp X 0)) X m 0 = true := by
            unfold fitLA
            rw [stk_eq, hX, hs.1, decide_eq_true ⟨rfl, rfl, g1, hs.2.1, by omega, g5, by decide, by decide⟩]; rfl
          have hA := (L0_loop (R := Unit) m m X P bk (fun _ _ => none) g5 (by omega) hX ((m - 1) / 2) 1 _ (by decide) (by omega) hs).2
          have e3 : lAk X m 0 ((List.replicate m (0, 0)).set 0 (gp X 0)) = lA X m ((m - 1) / 2) 1 (0, (List.replicate m (0, 0)).set 0 (gp X 0)) := by unfold lAk; rw [stk_eq]
          have e4 : fitLB m m m (lA X m ((m - 1) / 2) 1 (0, (List.replicate m (0, 0)).set 0 (gp X 0))).2 X P m (lA X m ((m - 1) / 2) 1 (0, (List.replicate m (0, 0)).set 0 (gp X 0))).1 = true := by
            unfold fitLB
            rw [stk_eq, hX, hP, hA.1, decide_eq_true ⟨rfl, rfl, rfl, g1, g3, hA.2.1, by omega, g5, hA.2.2.1, hA.2.2.2⟩]; rfl
          rw [e1, Int.toNat_natCast]
          simp only [cond_false, chk, cond_true]
          unfold liA
          rw [c4, e2, e3]
          simp only [chk, cond_true]
          unfold liB
          rw [e4]
          unfold rLik rLi at h3
          unfold lBk
          rw [stk_eq] at h3 ⊢
          exact h3
    · cases h
end
end Go.Proofs.YtbakldcbaikgpaaGreatDoor
