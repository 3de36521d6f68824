/- The texts Mix5, Mix6, Mix7, Mix8, joined. Own work. -/
import Derived.Test.YtbakldcbaikgpaaMixA
import Derived.Test.YtbakldcbaikgpaaRootA

/- mix: point, block's rounds. Own work. -/
namespace Go.Proofs.Ytbakldcbaikgpaa
set_option maxRecDepth 100000
noncomputable section

/-- Little, where there is such a transform. -/
def sp_litG : List AV → Option (Bool × AV)
  | [.sl (.prs n .u64 X), .bool bk] => some (fitX n X && canK n, .tup [.osl 25 (.prs n .u64 (litK X bk n).2), .int .u8 (litK X bk n).1, .nili])
  | _ => none
theorem ok_litG : EntOk Try.prog 10 (entS false sp_litG) := by
  refine ⟨entS_law _ _, fun hw m args r hr A w vs hA hv hG => ?_, fun h => by cases h⟩
  have h := entS_some hr
  refine ok_lit.ok rfl m args r ?_ A w vs hA hv hG
  unfold sp_litG at h
  split at h
  · rename_i n X bk
    simp only [Option.some.injEq, Prod.mk.injEq, Bool.and_eq_true] at h
    obtain ⟨⟨h1, h2⟩, rfl⟩ := h
    simp only [entB, sp_lit, Br.run, h1, h2, chk, cond_true, Bool.not_true, cond_false]
  · cases h

/-! ### point -/
def ptQ (bk : Bool) (p : Int) : Int := bif !bk then w64 (0 - p) else p
def rootP (q n : Int) : PZ := (cosR q n, sinR q n)
def pnt (f : Int) (x : PZ) (bk : Bool) (p n : Int) : PZ × Int := if p = 0 then (x, f) else (cMul x (rootP (ptQ bk p) n), orI .u8 f (cMulF x (rootP (ptQ bk p) n)))
def pntK (f : Int) (x : PZ) (bk : Bool) (p n : Int) : PZ × Int := stk (pnt f x bk p n)
def sp_pnt : List AV → Option (Bool × AV × List AV)
  | [.rf 61 (.st [.rts, .bool bk, .int .u8 f]), .st [.int .u64 a, .int .u64 b], .int .i64 p, .int .i64 n] =>
    some (okPr (a, b) && okN n, .tup [.st [.int .u64 (pntK f (a, b) bk p n).1.1, .int .u64 (pntK f (a, b) bk p n).1.2], .nili], [.rf 61 (.st [.rts, .bool bk, .int .u8 (pntK f (a, b) bk p n).2])])
  | _ => none
def orcPt : List (FuncId × Ent) := [(47, entS false sp_At), (48, entS false sp_cMul)]
def ptE (a b f : Int) (bk : Bool) : Option AV := some (.mt (.tup [.st [.int .u64 a, .int .u64 b], .nili]) [.rf 61 (.st [.rts, .bool bk, .int .u8 f])])
def ptG (a b f n q : Int) (bk : Bool) : Option AV :=
  chk (okN n) (chk (okPr (a, b) && okPr (cosR q n, sinR q n)) (ptE (cMul (a, b) (cosR q n, sinR q n)).1 (cMul (a, b) (cosR q n, sinR q n)).2 (orI .u8 f (cMulF (a, b) (cosR q n, sinR q n))) bk))
theorem run_pnt (f a b p n : Int) (bk : Bool) : callM (env Try.f37.ntmps orcPt []) (bodyC Try.f37) Try.f37.results.toList [.rf 61 (.st [.rts, .bool bk, .int .u8 f]), .st [.int .u64 a, .int .u64 b], .int .i64 p, .int .i64 n] some =
    bif p == 0 then ptE a b f bk else bif !bk then ptG a b f n (w64 (0 - p)) bk else ptG a b f n p bk := by kernel_rfl
theorem okPr_root (q n : Int) : okPr (rootP q n) = true := okPr_iff.2 ⟨inU_cosR q n, inU_sinR q n⟩
theorem ok_pnt : EntOk Try.prog 37 (entM true sp_pnt) := by
  refine contractMS (orc := orcPt) (lo := []) Try.func37 (orc_cons ok_At (orc_cons ok_cMul orc_nil)) (by kernel_rfl) (by kernel_rfl) (by kernel_rfl) (loops_none (by kernel_rfl)) fun args r cs h => ?_
  unfold sp_pnt at h
  split at h
  · rename_i bk f a b p n
    simp only [Option.some.injEq, Prod.mk.injEq, Bool.and_eq_true] at h
    obtain ⟨⟨hx, hn⟩, rfl, rfl⟩ := h
    refine ⟨by kernel_rfl, .inl rfl, (run_pnt f a b p n bk).trans ?_⟩
    have hG : ∀ q, ptG a b f n q bk = ptE (cMul (a, b) (rootP q n)).1 (cMul (a, b) (rootP q n)).2 (orI .u8 f (cMulF (a, b) (rootP q n))) bk := by
      intro q
      have h2 : okPr (cosR q n, sinR q n) = true := okPr_root q n
      unfold ptG
      rw [hn, hx, h2]
      rfl
    unfold pntK pnt
    rw [stk_eq, hG, hG]
    by_cases hp : p = 0
    · rw [if_pos hp, beq_iff_eq.2 hp]; rfl
    · rw [if_neg hp, beq_eq_false_iff_ne.2 hp]
      cases bk <;> rfl
  · cases h
theorem pnt_ok {x : PZ} (hx : okPr x = true) (f : Int) (bk : Bool) (p n : Int) : okPr (pnt f x bk p n).1 = true := by
  unfold pnt
  split
  · exact hx
  · obtain ⟨h1, h2⟩ := okPr_iff.1 hx
    have hP : inU ((negN (cMulP x (rootP (ptQ bk p) n)) : Nat) : Int) = true := inU_nat (neg_lt _)
    have hQ : cMulQ x (rootP (ptQ bk p) n) < 18446744073709551616 := by unfold cMulQ muP; rw [stk_eq]; exact mu_lt _ _ _
    unfold cMul fmP
    rw [stk_eq, stk_eq]
    exact okPr_iff.2 ⟨inU_nat (fm_lt _ _ (neg_lt _) 0), inU_nat (fm_lt _ _ hQ 0)⟩

/-! ### block: what a little transform is of -/
abbrev JS := Int × List PZ
def jS1 (C : List PZ) (lo m k N : Nat) (bk : Bool) (j : Nat) (s : JS) : JS :=
  ((pnt s.1 (gp C (lo + (j * m + k))) bk (j * k : Nat) N).2, s.2.set j (pnt s.1 (gp C (lo + (j * m + k))) bk (j * k : Nat) N).1)
def jS (C : List PZ) (lo m k N : Nat) (bk : Bool) : Nat → Nat → JS → JS
  | 0, _, s => s
  | q + 1, j, s => jS C lo m k N bk q (j + 1) (jS1 C lo m k N bk j s)
def jSk (C : List PZ) (lo : Nat) (m k : Int) (N : Nat) (bk : Bool) (r : Nat) (f : Int) (T : List PZ) : JS := stk (jS C lo m.toNat k.toNat N bk r 0 (f, T))
def fitJ (nc lo N nt : Nat) (C T : List PZ) (r m k L : Int) : Bool := stk (decide (C.length = nc ∧ T.length = nt ∧ r = nt ∧ L = nt ∧ 0 < nt ∧ nt ≤ 13 ∧ m * nt = N ∧ 0 ≤ k ∧ k < m ∧ lo + N ≤ nc ∧ N ≤ 67108864 ∧ nc ≤ 67108864)) && okL C
def inW (i : Int) (n e : Nat) : Bool := decide (0 ≤ i) && decide (i < n) && (true && Nat.beq 2 e)
def stepJ (R : Type) (vs : List AV) (k1 : List AV → Option R) (k2 : Nat → List AV → Option R) : Option R :=
  match vs with
  | [.st [.rts, .bool bk, .int .u8 f], .prs nc .u64 C, .prs nt .u64 T, .wv 8001 lo N 2, .int .i64 r, .int .i64 m, .int .i64 k, .int .i64 M, .int .i64 k', .int .i64 L, .int .i64 j] =>
    bif decide (j < L) then
      let x := gp C (lo + (w64 (w64 (j * m) + k)).toNat)
      let p := pntK f (x.1, x.2) bk (w64 (j * k)) N
      chk (inW (w64 (w64 (j * m) + k)) N 2) (chk (okPr (x.1, x.2) && okN N) (chk (inX j nt)
        (k1 [.st [.rts, .bool bk, .int .u8 p.2], .prs nc .u64 C, .prs nt .u64 (T.set j.toNat (p.1.1, p.1.2)), .wv 8001 lo N 2, .int .i64 r, .int .i64 m, .int .i64 k, .int .i64 M, .int .i64 k', .int .i64 L, .int .i64 (w64 (j + 1))])))
    else k2 0 [.st [.rts, .bool bk, .int .u8 f], .prs nc .u64 C, .prs nt .u64 T, .wv 8001 lo N 2, .int .i64 r, .int .i64 m, .int .i64 k, .int .i64 M, .int .i64 k']
  | _ => none
def refsJ : List (Nat × Nat × TypeId × AV) := [(0, 8000, 61, .dead), (90001, 8001, 25, .wv 1 0 0 0), (8, 8, 25, .prs 0 .u64 [])]
def leJ : LEnt :=
  { inn := { fuel := none, keep := [1, 2, 7, 9, 24, 25, 29, 30], refs := refsJ }
    out := { fuel := none, keep := [1, 2, 7, 9, 24, 25], refs := refsJ }
    ret := { fuel := none, keep := [], refs := [] }
    go := fun _ _ vs kk => match vs with
      | [.st [.rts, .bool bk, .int .u8 f], .prs nc .u64 C, .prs nt .u64 T, .wv 8001 lo N 2, .int .i64 r, .int .i64 m, .int .i64 k, .int .i64 M, .int .i64 k', .int .i64 L, .int .i64 0] =>
        chk (fitJ nc lo N nt C T r m k L) (kk 0 [.st [.rts, .bool bk, .int .u8 (jSk C lo m k N bk nt f T).1], .prs nc .u64 C, .prs nt .u64 (jSk C lo m k N bk nt f T).2, .wv 8001 lo N 2, .int .i64 r, .int .i64 m, .int .i64 k, .int .i64 M, .int .i64 k'])
      | _ => none }
def orcBl : List (FuncId × Ent) := [(37, entM true sp_pnt), (10, entS false sp_litG)]
theorem step_J (R : Type) (bk : Bool) (f : Int) (nc nt lo N : Nat) (C T : List PZ) (r m k M k' L j : Int) (k1 : List AV → Option R) (k2 : Nat → List AV → Option R) :
    runA (env Try.f26.ntmps orcBl []) (loopOf 2 (bodyC Try.f26)) 2 (stateOf leJ.inn [.st [.rts, .bool bk, .int .u8 f], .prs nc .u64 C, .prs nt .u64 T, .wv 8001 lo N 2, .int .i64 r, .int .i64 m, .int .i64 k, .int .i64 M, .int .i64 k', .int .i64 L, .int .i64 j]) (bodyK leJ 2 k1 k2) =
    stepJ R [.st [.rts, .bool bk, .int .u8 f], .prs nc .u64 C, .prs nt .u64 T, .wv 8001 lo N 2, .int .i64 r, .int .i64 m, .int .i64 k, .int .i64 M, .int .i64 k', .int .i64 L, .int .i64 j] k1 k2 := by kernel_rfl
end
end Go.Proofs.Ytbakldcbaikgpaa

/- mix: block. Own work. -/
namespace Go.Proofs.Ytbakldcbaikgpaa
set_option maxRecDepth 100000
noncomputable section

theorem pntK_eq (f : Int) (x : PZ) (bk : Bool) (p n : Int) : pntK f x bk p n = pnt f x bk p n := by unfold pntK; rw [stk_eq]
theorem inW_at {i n : Nat} (h : i < n) : inW (i : Int) n 2 = true := by
  unfold inW
  rw [decide_eq_true (show (0 : Int) ≤ i by omega), decide_eq_true (show (i : Int) < n by omega)]
  rfl
theorem blk_idx {j r k m N : Nat} (hj : j < r) (hk : k < m) (h : m * r = N) : j * m + k < N := by
  have h1 : (j + 1) * m ≤ r * m := Nat.mul_le_mul_right m (by omega)
  rw [Nat.add_mul, Nat.one_mul] at h1
  rw [Nat.mul_comm] at h
  omega

/-! ### What a little transform is of -/
def vsJ (bk : Bool) (nc nt lo N : Nat) (C : List PZ) (r m k M k' L j : Int) (s : JS) : List AV :=
  [.st [.rts, .bool bk, .int .u8 s.1], .prs nc .u64 C, .prs nt .u64 s.2, .wv 8001 lo N 2, .int .i64 r, .int .i64 m, .int .i64 k, .int .i64 M, .int .i64 k', .int .i64 L, .int .i64 j]
def vsJo (bk : Bool) (nc nt lo N : Nat) (C : List PZ) (r m k M k' : Int) (s : JS) : List AV :=
  [.st [.rts, .bool bk, .int .u8 s.1], .prs nc .u64 C, .prs nt .u64 s.2, .wv 8001 lo N 2, .int .i64 r, .int .i64 m, .int .i64 k, .int .i64 M, .int .i64 k']
theorem J_step (R : Type) (bk : Bool) (nc nt lo N : Nat) (C : List PZ) (r : Int) (m k : Nat) (M k' : Int) (j : Nat) (s : JS) (k1 : List AV → Option R) (k2 : Nat → List AV → Option R) (hj : j < nt) (hm : m * nt = N) (hk : k < m) (hN : N ≤ 67108864) (hC : okL C = true) :
    stepJ R (vsJ bk nc nt lo N C r m k M k' nt j s) k1 k2 = k1 (vsJ bk nc nt lo N C r m k M k' nt ((j + 1 : Nat) : Int) (jS1 C lo m k N bk j s)) := by
  have hi := blk_idx hj hk hm
  have hj2 : nt ≤ N := by rw [← hm]; exact Nat.le_mul_of_pos_left nt (by omega)
  have hjm : j * m ≤ N := by omega
  have hjk : j * k ≤ N := Nat.le_trans (Nat.mul_le_mul_left j (by omega)) hjm
  have e1 : w64 ((j : Int) + 1) = ((j + 1 : Nat) : Int) := by rw [w64_mid (by omega) (by omega)]; omega
  have e2 : w64 (w64 ((j : Int) * m) + k) = ((j * m + k : Nat) : Int) := by
    rw [← Int.natCast_mul, w64_mid (x := ((j * m : Nat) : Int)) (by omega) (by omega), w64_mid (by omega) (by omega)]; omega
  have e3 : w64 ((j : Int) * k) = ((j * k : Nat) : Int) := by rw [← Int.natCast_mul, w64_mid (by omega) (by omega)]
  have c1 : inW (((j * m + k : Nat)) : Int) N 2 = true := inW_at hi
  have c2 : inX (j : Int) nt = true := inX_at hj
  have c3 : okN (N : Int) = true := okN_iff.2 (by omega)
  have p1 := gp_ok hC (lo + (j * m + k))
  unfold vsJ stepJ
  simp only [decide_eq_true (show (j : Int) < (nt : Int) by omega), cond_true, e1, e2, e3, Int.toNat_natCast, c1, c2, c3, pzE, p1, Bool.and_self, chk, pntK_eq]
  rfl
theorem J_end (R : Type) (bk : Bool) (nc nt lo N : Nat) (C : List PZ) (r m k M k' L j : Int) (s : JS) (k1 : List AV → Option R) (k2 : Nat → List AV → Option R) (hj : ¬ j < L) :
    stepJ R (vsJ bk nc nt lo N C r m k M k' L j s) k1 k2 = k2 0 (vsJo bk nc nt lo N C r m k M k' s) := by
  unfold vsJ stepJ
  simp only [hj, decide_false, cond_false]
  rfl
theorem J_loop (R : Type) (bk : Bool) (nc nt lo N : Nat) (C : List PZ) (r : Int) (m k : Nat) (M k' : Int) (kk : Nat → List AV → Option R) (hm : m * nt = N) (hk : k < m) (hN : N ≤ 67108864) (hC : okL C = true) : ∀ (q j : Nat) (s : JS), j + q = nt →
    loopN (stepJ R) (q + 1) (vsJ bk nc nt lo N C r m k M k' nt j s) kk = kk 0 (vsJo bk nc nt lo N C r m k M k' (jS C lo m k N bk q j s))
  | 0, j, s, hj => by rw [loopN, J_end R bk nc nt lo N C r m k M k' nt j s _ kk (by omega)]; rfl
  | q + 1, j, s, hj => by
    rw [loopN, J_step R bk nc nt lo N C r m k M k' j s _ kk (by omega) hm hk hN hC]
    exact J_loop R bk nc nt lo N C r m k M k' kk hm hk hN hC q (j + 1) _ (by omega)
theorem jS_ok {C : List PZ} (hC : okL C = true) (lo m k N : Nat) (bk : Bool) : ∀ (q j : Nat) (s : JS), okL s.2 = true → okL (jS C lo m k N bk q j s).2 = true ∧ (jS C lo m k N bk q j s).2.length = s.2.length
  | 0, _, _, h => ⟨h, rfl⟩
  | q + 1, j, s, h => by
    obtain ⟨h1, h2⟩ := jS_ok hC lo m k N bk q (j + 1) (jS1 C lo m k N bk j s) (okL_set h j (pnt_ok (gp_ok hC _) _ _ _ _))
    refine ⟨h1, h2.trans ?_⟩
    show (s.2.set j _).length = _
    rw [List.length_set]
theorem fitJ_parts {nc lo N nt : Nat} {C T : List PZ} {r m k L : Int} (h : fitJ nc lo N nt C T r m k L = true) : (C.length = nc ∧ T.length = nt ∧ r = nt ∧ L = nt ∧ 0 < nt ∧ nt ≤ 13 ∧ m * nt = N ∧ 0 ≤ k ∧ k < m ∧ lo + N ≤ nc ∧ N ≤ 67108864 ∧ nc ≤ 67108864) ∧ okL C = true := by
  unfold fitJ at h
  rw [stk_eq, Bool.and_eq_true, decide_eq_true_eq] at h
  exact h
theorem go_J (R : Type) (n : Nat) (vs : List AV) (kk : Nat → List AV → Option R) (x : R) (h : leJ.go R n vs kk = some x) : ∃ m, loopN (stepJ R) m vs kk = some x := by
  simp only [leJ] at h
  split at h
  · rename_i bk f nc C nt T lo N r m k M k' L
    obtain ⟨hg, hk⟩ := chk_some h
    clear h
    obtain ⟨⟨g1, g2, rfl, rfl, g5, g6, g7, g8, g9, g10, g11, g12⟩, hC⟩ := fitJ_parts hg
    obtain ⟨m, rfl⟩ : ∃ q : Nat, m = q := ⟨m.toNat, (Int.toNat_of_nonneg (by omega)).symm⟩
    obtain ⟨k, rfl⟩ : ∃ q : Nat, k = q := ⟨k.toNat, (Int.toNat_of_nonneg (by omega)).symm⟩
    refine ⟨nt + 1, (J_loop R bk nc nt lo N C nt m k M k' kk (by exact_mod_cast g7) (by omega) g11 hC nt 0 (f, T) (by omega)).trans ?_⟩
    unfold jSk at hk
    rw [stk_eq, Int.toNat_natCast, Int.toNat_natCast] at hk
    exact hk
  · cases h

/-! ### Answers laid down -/
def qS (L : List PZ) (lo m k : Nat) : Nat → Nat → List PZ → List PZ
  | 0, _, C => C
  | q + 1, i, C => qS L lo m k q (i + 1) (C.set (lo + (k + i * m)) (gp L i))
def qSk (L : List PZ) (lo : Nat) (m k : Int) (n : Nat) (C : List PZ) : List PZ := stk (qS L lo m.toNat k.toNat n 0 C)
def fitQ (nc lo N nl : Nat) (C L : List PZ) (m k n : Int) : Bool := stk (decide (C.length = nc ∧ L.length = nl ∧ n = nl ∧ m * nl = N ∧ 0 ≤ k ∧ k < m ∧ lo + N ≤ nc ∧ N ≤ 67108864 ∧ nl ≤ 13))
def stepQ (R : Type) (vs : List AV) (k1 : List AV → Option R) (k2 : Nat → List AV → Option R) : Option R :=
  match vs with
  | [.st [.rts, .bool bk, .int .u8 f], .prs nc .u64 C, .prs nt .u64 T, .prs nl .u64 L, .wv 8001 lo N 2, .int .i64 r, .int .i64 m, .int .i64 k, .int .i64 M, .int .i64 k', .int .i64 n, .int .i64 q] =>
    bif decide (q < n) then
      chk (inX q nl) (chk (inW (w64 (k + w64 (q * m))) N 2)
        (k1 [.st [.rts, .bool bk, .int .u8 f], .prs nc .u64 (C.set (lo + (w64 (k + w64 (q * m))).toNat) ((gp L q.toNat).1, (gp L q.toNat).2)), .prs nt .u64 T, .prs nl .u64 L, .wv 8001 lo N 2, .int .i64 r, .int .i64 m, .int .i64 k, .int .i64 M, .int .i64 k', .int .i64 n, .int .i64 (w64 (q + 1))]))
    else k2 0 [.st [.rts, .bool bk, .int .u8 f], .prs nc .u64 C, .prs nt .u64 T, .wv 8001 lo N 2, .int .i64 r, .int .i64 m, .int .i64 M, .int .i64 k']
  | _ => none
def leQ : LEnt :=
  { inn := { fuel := none, keep := [1, 2, 7, 9, 24, 25, 81, 82], refs := refsJ ++ [(80, 80, 25, .prs 0 .u64 [])] }
    out := { fuel := none, keep := [1, 2, 7, 24, 25], refs := refsJ }
    ret := { fuel := none, keep := [], refs := [] }
    go := fun _ _ vs kk => match vs with
      | [.st [.rts, .bool bk, .int .u8 f], .prs nc .u64 C, .prs nt .u64 T, .prs nl .u64 L, .wv 8001 lo N 2, .int .i64 r, .int .i64 m, .int .i64 k, .int .i64 M, .int .i64 k', .int .i64 n, .int .i64 0] =>
        chk (fitQ nc lo N nl C L m k n) (kk 0 [.st [.rts, .bool bk, .int .u8 f], .prs nc .u64 (qSk L lo m k nl C), .prs nt .u64 T, .wv 8001 lo N 2, .int .i64 r, .int .i64 m, .int .i64 M, .int .i64 k'])
      | _ => none }
theorem step_Q (R : Type) (bk : Bool) (f : Int) (nc nt nl lo N : Nat) (C T L : List PZ) (r m k M k' n q : Int) (k1 : List AV → Option R) (k2 : Nat → List AV → Option R) :
    runA (env Try.f26.ntmps orcBl []) (loopOf 4 (bodyC Try.f26)) 4 (stateOf leQ.inn [.st [.rts, .bool bk, .int .u8 f], .prs nc .u64 C, .prs nt .u64 T, .prs nl .u64 L, .wv 8001 lo N 2, .int .i64 r, .int .i64 m, .int .i64 k, .int .i64 M, .int .i64 k', .int .i64 n, .int .i64 q]) (bodyK leQ 4 k1 k2) =
    stepQ R [.st [.rts, .bool bk, .int .u8 f], .prs nc .u64 C, .prs nt .u64 T, .prs nl .u64 L, .wv 8001 lo N 2, .int .i64 r, .int .i64 m, .int .i64 k, .int .i64 M, .int .i64 k', .int .i64 n, .int .i64 q] k1 k2 := by kernel_rfl
def vsQ (bk : Bool) (f : Int) (nc nt nl lo N : Nat) (T L : List PZ) (r m k M k' n q : Int) (C : List PZ) : List AV :=
  [.st [.rts, .bool bk, .int .u8 f], .prs nc .u64 C, .prs nt .u64 T, .prs nl .u64 L, .wv 8001 lo N 2, .int .i64 r, .int .i64 m, .int .i64 k, .int .i64 M, .int .i64 k', .int .i64 n, .int .i64 q]
def vsQo (bk : Bool) (f : Int) (nc nt lo N : Nat) (T : List PZ) (r m M k' : Int) (C : List PZ) : List AV :=
  [.st [.rts, .bool bk, .int .u8 f], .prs nc .u64 C, .prs nt .u64 T, .wv 8001 lo N 2, .int .i64 r, .int .i64 m, .int .i64 M, .int .i64 k']
theorem Q_loop (R : Type) (bk : Bool) (f : Int) (nc nt nl lo N : Nat) (T L : List PZ) (r : Int) (m k : Nat) (M k' : Int) (kk : Nat → List AV → Option R) (hm : m * nl = N) (hk : k < m) (hN : N ≤ 67108864) (hl : nl ≤ 13) : ∀ (q i : Nat) (C : List PZ), i + q = nl →
    loopN (stepQ R) (q + 1) (vsQ bk f nc nt nl lo N T L r m k M k' nl i C) kk = kk 0 (vsQo bk f nc nt lo N T r m M k' (qS L lo m k q i C))
  | 0, i, C, hi => by
    rw [loopN]
    unfold vsQ stepQ
    simp only [show ¬ ((i : Int) < (nl : Int)) by omega, decide_false, cond_false]
    rfl
  | q + 1, i, C, hi => by
    have hx := blk_idx (show i < nl by omega) hk hm
    have e1 : w64 ((i : Int) + 1) = ((i + 1 : Nat) : Int) := by rw [w64_mid (by omega) (by omega)]; omega
    have e2 : w64 ((k : Int) + w64 ((i : Int) * m)) = ((k + i * m : Nat) : Int) := by
      rw [← Int.natCast_mul, w64_mid (x := ((i * m : Nat) : Int)) (by omega) (by omega), w64_mid (by omega) (by omega)]; omega
    have c1 : inW (((k + i * m : Nat)) : Int) N 2 = true := inW_at (by omega)
    have c2 : inX (i : Int) nl = true := inX_at (by omega)
    have hs : ∀ k1 k2, stepQ R (vsQ bk f nc nt nl lo N T L r m k M k' nl i C) k1 k2 = k1 (vsQ bk f nc nt nl lo N T L r m k M k' nl ((i + 1 : Nat) : Int) (C.set (lo + (k + i * m)) (gp L i))) := by
      intro k1 k2
      unfold vsQ stepQ
      simp only [decide_eq_true (show (i : Int) < (nl : Int) by omega), cond_true, e1, e2, Int.toNat_natCast, c1, c2, chk, pzE]
    rw [loopN, hs]
    exact Q_loop R bk f nc nt nl lo N T L r m k M k' kk hm hk hN hl q (i + 1) _ (by omega)
theorem qS_ok {L : List PZ} (hL : okL L = true) (lo m k : Nat) : ∀ (q i : Nat) (C : List PZ), okL C = true → okL (qS L lo m k q i C) = true ∧ (qS L lo m k q i C).length = C.length
  | 0, _, _, h => ⟨h, rfl⟩
  | q + 1, i, C, h => by
    obtain ⟨h1, h2⟩ := qS_ok hL lo m k q (i + 1) _ (okL_set h (lo + (k + i * m)) (gp_ok hL i))
    exact ⟨h1, h2.trans (List.length_set ..)⟩
theorem fitQ_parts {nc lo N nl : Nat} {C L : List PZ} {m k n : Int} (h : fitQ nc lo N nl C L m k n = true) : C.length = nc ∧ L.length = nl ∧ n = nl ∧ m * nl = N ∧ 0 ≤ k ∧ k < m ∧ lo + N ≤ nc ∧ N ≤ 67108864 ∧ nl ≤ 13 := by
  unfold fitQ at h
  rwa [stk_eq, decide_eq_true_eq] at h
theorem go_Q (R : Type) (n : Nat) (vs : List AV) (kk : Nat → List AV → Option R) (x : R) (h : leQ.go R n vs kk = some x) : ∃ m, loopN (stepQ R) m vs kk = some x := by
  simp only [leQ] at h
  split at h
  · rename_i bk f nc C nt T nl L lo N r m k M k' n
    obtain ⟨hg, hk⟩ := chk_some h
    clear h
    obtain ⟨g1, g2, rfl, g4, g5, g6, g7, g8, g9⟩ := fitQ_parts hg
    obtain ⟨m, rfl⟩ : ∃ q : Nat, m = q := ⟨m.toNat, (Int.toNat_of_nonneg (by omega)).symm⟩
    obtain ⟨k, rfl⟩ : ∃ q : Nat, k = q := ⟨k.toNat, (Int.toNat_of_nonneg (by omega)).symm⟩
    refine ⟨nl + 1, (Q_loop R bk f nc nt nl lo N T L r m k M k' kk (by exact_mod_cast g4) (by omega) g8 g9 nl 0 C (by omega)).trans ?_⟩
    unfold qSk at hk
    rw [stk_eq, Int.toNat_natCast, Int.toNat_natCast] at hk
    exact hk
  · cases h
end
end Go.Proofs.Ytbakldcbaikgpaa

/- mix: block's contract. Own work. -/
namespace Go.Proofs.Ytbakldcbaikgpaa
set_option maxRecDepth 100000
noncomputable section

/-! ### Little's answers are patterns -/
theorem oB_ok {X S D : List PZ} (hX : okL X = true) (bk : Bool) (n h : Nat) : ∀ (q k : Nat) (s : BS), okL s.2 = true → okL (oB X S D bk n h q k s).2 = true ∧ (oB X S D bk n h q k s).2.length = s.2.length
  | 0, _, _, h1 => ⟨h1, rfl⟩
  | q + 1, k, s, h1 => by
    obtain ⟨q1, q2⟩ := iA_ok S D k n h 0 (s.1, gp X 0, (0, 0)) (gp_ok hX 0) okPr_zero
    have q3 := okPr_turn q2 (!bk)
    obtain ⟨r1, r2⟩ := oB_ok hX bk n h q (k + 1) (oB1 X S D bk n h k s) (okL_set (okL_set h1 k (okPr_add q1 q3)) (n - k) (okPr_sub q1 q3))
    refine ⟨r1, r2.trans ?_⟩
    show ((s.2.set k _).set (n - k) _).length = _
    rw [List.length_set, List.length_set]
theorem okL_mem {L : List PZ} (h : ∀ x ∈ L, okPr x = true) : okL L = true := okL_iff.2 h
theorem lit_ok {X : List PZ} {n : Nat} (hX : okL X = true) (bk : Bool) : okL (litR X bk n).2 = true ∧ (litR X bk n).2.length = n := by
  have g := gp_ok hX
  unfold litR
  by_cases h2 : n = 2
  · rw [if_pos h2]
    refine ⟨okL_mem fun x hx => ?_, h2.symm⟩
    simp only [List.mem_cons, List.not_mem_nil, or_false] at hx
    rcases hx with rfl | rfl
    · exact okPr_add (g 0) (g 1)
    · exact okPr_sub (g 0) (g 1)
  · rw [if_neg h2]
    by_cases h4 : n = 4
    · rw [if_pos h4]
      refine ⟨okL_mem fun x hx => ?_, h4.symm⟩
      have e := okPr_turn (okPr_sub (g 1) (g 3)) (!bk)
      unfold four4 at hx
      simp only [List.mem_cons, List.not_mem_nil, or_false] at hx
      rcases hx with rfl | rfl | rfl | rfl
      · exact okPr_add (okPr_add (g 0) (g 2)) (okPr_add (g 1) (g 3))
      · exact okPr_add (okPr_sub (g 0) (g 2)) e
      · exact okPr_sub (okPr_add (g 0) (g 2)) (okPr_add (g 1) (g 3))
      · exact okPr_sub (okPr_sub (g 0) (g 2)) e
    · rw [if_neg h4]
      obtain ⟨h, hh⟩ : ∃ h, (n - 1) / 2 = h := ⟨_, rfl⟩
      have lr : ∀ m : Nat, (List.replicate m ((0 : Int), (0 : Int))).length = m := fun m => List.length_replicate
      have lO : ((List.replicate n ((0 : Int), (0 : Int))).set 0 (gp X 0)).length = n := by rw [List.length_set]; exact lr n
      have hO : okL ((List.replicate n (0, 0)).set 0 (gp X 0)) = true := okL_set (okL_rep n) 0 (g 0)
      obtain ⟨a1, a2, a3, a4, a5, a6⟩ := oA_ok (n := n) (h := h) hX h 0 ((0 : Int), List.replicate h (0, 0), List.replicate h (0, 0), (List.replicate n (0, 0)).set 0 (gp X 0)) (okL_rep h) (okL_rep h) hO (lr h) (lr h) lO (by omega)
      unfold oddR oddSf
      rw [hh]
      obtain ⟨b1, b2⟩ := oB_ok (S := (oA X n h 0 ((0 : Int), List.replicate h (0, 0), List.replicate h (0, 0), (List.replicate n (0, 0)).set 0 (gp X 0))).2.1) (D := (oA X n h 0 ((0 : Int), List.replicate h (0, 0), List.replicate h (0, 0), (List.replicate n (0, 0)).set 0 (gp X 0))).2.2.1) hX bk n h h 1 ((oA X n h 0 ((0 : Int), List.replicate h (0, 0), List.replicate h (0, 0), (List.replicate n (0, 0)).set 0 (gp X 0))).1, (oA X n h 0 ((0 : Int), List.replicate h (0, 0), List.replicate h (0, 0), (List.replicate n (0, 0)).set 0 (gp X 0))).2.2.2) a3
      exact ⟨b1, b2.trans a6⟩

/-! ### All little transforms of a block -/
abbrev KS := Int × List PZ × List PZ
def kS1 (lo m N nt : Nat) (bk : Bool) (k : Nat) (s : KS) : KS :=
  let t := jS s.2.1 lo m k N bk nt 0 (s.1, s.2.2)
  let l := litR t.2 bk nt
  (orI .u8 t.1 l.1, qS l.2 lo m k nt 0 s.2.1, t.2)
def kS (lo m N nt : Nat) (bk : Bool) : Nat → Nat → KS → KS
  | 0, _, s => s
  | q + 1, k, s => kS lo m N nt bk q (k + 1) (kS1 lo m N nt bk k s)
def kSk (lo : Nat) (m : Int) (N nt : Nat) (bk : Bool) (s : KS) : KS := stk (kS lo m.toNat N nt bk m.toNat 0 s)
def fitK (nc lo N nt : Nat) (C T : List PZ) (r m M : Int) : Bool := stk (decide (C.length = nc ∧ T.length = nt ∧ r = nt ∧ M = m ∧ 0 ≤ m ∧ m * nt = N ∧ lo + N ≤ nc ∧ N ≤ 67108864 ∧ nc ≤ 67108864)) && okL C && okL T && canK nt
def knA (nc nt lo N : Nat) (T' : List PZ) (r m k M : Int) (bk : Bool) (f' : Int) (C : List PZ) (l : BS) (R : Type) (k1 : List AV → Option R) : Option R :=
  chk (fitX nt T' && canK nt) (chk (fitQ nc lo N nt C l.2 m k nt) (k1 [.st [.rts, .bool bk, .int .u8 (orI .u8 f' l.1)], .prs nc .u64 (qSk l.2 lo m k nt C), .prs nt .u64 T', .wv 8001 lo N 2, .int .i64 r, .int .i64 m, .int .i64 M, .int .i64 (w64 (k + 1))]))
def stepK (R : Type) (vs : List AV) (k1 : List AV → Option R) (k2 : Nat → List AV → Option R) : Option R :=
  match vs with
  | [.st [.rts, .bool bk, .int .u8 f], .prs nc .u64 C, .prs nt .u64 T, .wv 8001 lo N 2, .int .i64 r, .int .i64 m, .int .i64 M, .int .i64 k] =>
    bif decide (k < M) then
      chk (fitJ nc lo N nt C T r m k nt) (knA nc nt lo N (jSk C lo m k N bk nt f T).2 r m k M bk (jSk C lo m k N bk nt f T).1 C (litK (jSk C lo m k N bk nt f T).2 bk nt) R k1)
    else k2 0 [.st [.rts, .bool bk, .int .u8 f], .prs nc .u64 C]
  | _ => none
def leK : LEnt :=
  { inn := { fuel := none, keep := [1, 2, 7, 24, 25], refs := refsJ }
    out := { fuel := none, keep := [], refs := [(0, 8000, 61, .dead), (90001, 8001, 25, .wv 1 0 0 0)] }
    ret := { fuel := none, keep := [], refs := [] }
    go := fun _ _ vs kk => match vs with
      | [.st [.rts, .bool bk, .int .u8 f], .prs nc .u64 C, .prs nt .u64 T, .wv 8001 lo N 2, .int .i64 r, .int .i64 m, .int .i64 M, .int .i64 0] =>
        chk (fitK nc lo N nt C T r m M) (kk 0 [.st [.rts, .bool bk, .int .u8 (kSk lo m N nt bk (f, C, T)).1], .prs nc .u64 (kSk lo m N nt bk (f, C, T)).2.1])
      | _ => none }
theorem step_K (R : Type) (bk : Bool) (f : Int) (nc nt lo N : Nat) (C T : List PZ) (r m M k : Int) (k1 : List AV → Option R) (k2 : Nat → List AV → Option R) :
    runA (env Try.f26.ntmps orcBl [(2, leJ), (4, leQ)]) (loopOf 0 (bodyC Try.f26)) 0 (stateOf leK.inn [.st [.rts, .bool bk, .int .u8 f], .prs nc .u64 C, .prs nt .u64 T, .wv 8001 lo N 2, .int .i64 r, .int .i64 m, .int .i64 M, .int .i64 k]) (bodyK leK 0 k1 k2) =
    stepK R [.st [.rts, .bool bk, .int .u8 f], .prs nc .u64 C, .prs nt .u64 T, .wv 8001 lo N 2, .int .i64 r, .int .i64 m, .int .i64 M, .int .i64 k] k1 k2 := by kernel_rfl
end
end Go.Proofs.Ytbakldcbaikgpaa

/- mix: block's contract, second part. Own work. -/
namespace Go.Proofs.Ytbakldcbaikgpaa
set_option maxRecDepth 100000
noncomputable section

theorem fitX_at {X : List PZ} {n : Nat} (h1 : X.length = n) (h2 : okL X = true) : fitX n X = true := by
  unfold fitX
  rw [stk_eq, decide_eq_true h1, h2]; rfl
theorem jSk_eq (C : List PZ) (lo m k N : Nat) (bk : Bool) (r : Nat) (f : Int) (T : List PZ) : jSk C lo m k N bk r f T = jS C lo m k N bk r 0 (f, T) := by
  unfold jSk
  rw [stk_eq, Int.toNat_natCast, Int.toNat_natCast]
theorem litK_R (X : List PZ) (bk : Bool) (n : Nat) : litK X bk n = litR X bk n := by unfold litK; rw [stk_eq]
theorem qSk_eq (L : List PZ) (lo m k n : Nat) (C : List PZ) : qSk L lo m k n C = qS L lo m k n 0 C := by
  unfold qSk
  rw [stk_eq, Int.toNat_natCast, Int.toNat_natCast]
/-- What holds of a block's list and of what its transforms are of. -/
def kOk (nc nt : Nat) (s : KS) : Prop := okL s.2.1 = true ∧ s.2.1.length = nc ∧ okL s.2.2 = true ∧ s.2.2.length = nt
theorem kS1_ok {nc nt : Nat} {s : KS} (lo m N : Nat) (bk : Bool) (k : Nat) (h : kOk nc nt s) : kOk nc nt (kS1 lo m N nt bk k s) := by
  obtain ⟨h1, h2, h3, h4⟩ := h
  obtain ⟨a1, a2⟩ := jS_ok h1 lo m k N bk nt 0 (s.1, s.2.2) h3
  obtain ⟨b1, -⟩ := lit_ok (n := nt) a1 bk
  obtain ⟨c1, c2⟩ := qS_ok b1 lo m k nt 0 s.2.1 h1
  exact ⟨c1, c2.trans h2, a1, a2.trans h4⟩
theorem kS_ok {nc nt : Nat} (lo m N : Nat) (bk : Bool) : ∀ (q k : Nat) (s : KS), kOk nc nt s → kOk nc nt (kS lo m N nt bk q k s)
  | 0, _, _, h => h
  | q + 1, k, _, h => kS_ok lo m N bk q (k + 1) _ (kS1_ok lo m N bk k h)
def vsK (bk : Bool) (nc nt lo N : Nat) (r m M k : Int) (s : KS) : List AV :=
  [.st [.rts, .bool bk, .int .u8 s.1], .prs nc .u64 s.2.1, .prs nt .u64 s.2.2, .wv 8001 lo N 2, .int .i64 r, .int .i64 m, .int .i64 M, .int .i64 k]
def vsKo (bk : Bool) (nc : Nat) (s : KS) : List AV := [.st [.rts, .bool bk, .int .u8 s.1], .prs nc .u64 s.2.1]
theorem K_step (R : Type) (bk : Bool) (nc nt lo N m k : Nat) (s : KS) (k1 : List AV → Option R) (k2 : Nat → List AV → Option R) (h : kOk nc nt s) (hc : canK nt = true) (hk : k < m) (hm : m * nt = N) (hlo : lo + N ≤ nc) (hN : N ≤ 67108864) (hnc : nc ≤ 67108864) :
    stepK R (vsK bk nc nt lo N nt m m k s) k1 k2 = k1 (vsK bk nc nt lo N nt m m ((k + 1 : Nat) : Int) (kS1 lo m N nt bk k s)) := by
  obtain ⟨h1, h2, h3, h4⟩ := h
  have hr := can_le (r := (nt : Int)) (by rw [← canK_eq]; exact hc)
  have hmN : m ≤ N := by rw [← hm]; exact Nat.le_mul_of_pos_right m (by omega)
  have e1 : w64 ((k : Int) + 1) = ((k + 1 : Nat) : Int) := by rw [w64_mid (by omega) (by omega)]; omega
  have fJ : fitJ nc lo N nt s.2.1 s.2.2 (nt : Int) (m : Int) (k : Int) (nt : Int) = true := by
    unfold fitJ
    rw [stk_eq, decide_eq_true ⟨h2, h4, rfl, rfl, by omega, by omega, by exact_mod_cast hm, by omega, by omega, hlo, hN, hnc⟩, h1]; rfl
  obtain ⟨a1, a2⟩ := jS_ok h1 lo m k N bk nt 0 (s.1, s.2.2) h3
  obtain ⟨b1, b2⟩ := lit_ok (n := nt) a1 bk
  have fX : fitX nt (jS s.2.1 lo m k N bk nt 0 (s.1, s.2.2)).2 = true := fitX_at (a2.trans h4) a1
  have fQ : fitQ nc lo N nt s.2.1 (litR (jS s.2.1 lo m k N bk nt 0 (s.1, s.2.2)).2 bk nt).2 (m : Int) (k : Int) (nt : Int) = true := by
    unfold fitQ
    rw [stk_eq, decide_eq_true ⟨h2, b2, rfl, by exact_mod_cast hm, by omega, by omega, hlo, hN, by omega⟩]
  unfold vsK stepK knA
  simp only [decide_eq_true (show (k : Int) < (m : Int) by omega), cond_true, jSk_eq, litK_R, qSk_eq, e1, fJ, fX, fQ, hc, Bool.and_self, chk]
  rfl
theorem K_loop (R : Type) (bk : Bool) (nc nt lo N m : Nat) (kk : Nat → List AV → Option R) (hc : canK nt = true) (hm : m * nt = N) (hlo : lo + N ≤ nc) (hN : N ≤ 67108864) (hnc : nc ≤ 67108864) : ∀ (q k : Nat) (s : KS), k + q = m → kOk nc nt s →
    loopN (stepK R) (q + 1) (vsK bk nc nt lo N nt m m k s) kk = kk 0 (vsKo bk nc (kS lo m N nt bk q k s))
  | 0, k, s, hk, _ => by
    rw [loopN]
    unfold vsK stepK
    simp only [show ¬ ((k : Int) < (m : Int)) by omega, decide_false, cond_false]
    rfl
  | q + 1, k, s, hk, h => by
    rw [loopN, K_step R bk nc nt lo N m k s _ kk h hc (by omega) hm hlo hN hnc]
    exact K_loop R bk nc nt lo N m kk hc hm hlo hN hnc q (k + 1) _ (by omega) (kS1_ok lo m N bk k h)
theorem fitK_parts {nc lo N nt : Nat} {C T : List PZ} {r m M : Int} (h : fitK nc lo N nt C T r m M = true) : (C.length = nc ∧ T.length = nt ∧ r = nt ∧ M = m ∧ 0 ≤ m ∧ m * nt = N ∧ lo + N ≤ nc ∧ N ≤ 67108864 ∧ nc ≤ 67108864) ∧ okL C = true ∧ okL T = true ∧ canK nt = true := by
  unfold fitK at h
  simp only [stk_eq, Bool.and_eq_true, decide_eq_true_eq] at h
  exact ⟨h.1.1.1, h.1.1.2, h.1.2, h.2⟩
theorem go_K (R : Type) (n : Nat) (vs : List AV) (kk : Nat → List AV → Option R) (x : R) (h : leK.go R n vs kk = some x) : ∃ m, loopN (stepK R) m vs kk = some x := by
  simp only [leK] at h
  split at h
  · rename_i bk f nc C nt T lo N r m M
    obtain ⟨hg, hk⟩ := chk_some h
    clear h
    obtain ⟨⟨g1, g2, rfl, rfl, g5, g6, g7, g8, g9⟩, hC, hT, hc⟩ := fitK_parts hg
    obtain ⟨m, rfl⟩ : ∃ q : Nat, M = q := ⟨M.toNat, (Int.toNat_of_nonneg (by omega)).symm⟩
    refine ⟨m + 1, (K_loop R bk nc nt lo N m kk hc (by exact_mod_cast g6) g7 g8 g9 m 0 (f, C, T) (by omega) ⟨hC, g1, hT, g2⟩).trans ?_⟩
    unfold kSk at hk
    rw [stk_eq, Int.toNat_natCast] at hk
    exact hk
  · cases h

/-! ### The contract -/
def blkR (f : Int) (C : List PZ) (lo N r : Nat) (bk : Bool) : Int × List PZ :=
  ((kS lo (N / r) N r bk (N / r) 0 (f, C, List.replicate r (0, 0))).1, (kS lo (N / r) N r bk (N / r) 0 (f, C, List.replicate r (0, 0))).2.1)
def blkK (f : Int) (C : List PZ) (lo N : Nat) (r : Int) (bk : Bool) : Int × List PZ := stk (blkR f C lo N r.toNat bk)
def fitBl (nc lo N : Nat) (C : List PZ) (r : Int) : Bool := stk (decide (C.length = nc ∧ N % r.toNat = 0 ∧ 0 < N ∧ lo + N ≤ nc ∧ nc ≤ 67108864)) && okL C && canK r
def sp_blk : List AV → Option (Bool × AV × List AV)
  | [.rf 61 (.st [.rts, .bool bk, .int .u8 f]), .rv 25 lo N 2 (.prs nc .u64 C), .int .i64 r] =>
    some (fitBl nc lo N C r, .nili, [.rf 61 (.st [.rts, .bool bk, .int .u8 (blkK f C lo N r bk).1]), .rf 25 (.prs nc .u64 (blkK f C lo N r bk).2)])
  | _ => none
def blE (bk : Bool) (f : Int) (nc : Nat) (C : List PZ) : Option AV := some (.mt .nili [.rf 61 (.st [.rts, .bool bk, .int .u8 f]), .rf 25 (.prs nc .u64 C)])
def blD (bk : Bool) (f : Int) (nc lo N nt : Nat) (C T : List PZ) (r m : Int) : Option AV := chk (fitK nc lo N nt C T r m m) (blE bk (kSk lo m N nt bk (f, C, T)).1 nc (kSk lo m N nt bk (f, C, T)).2.1)
theorem run_blk (bk : Bool) (f : Int) (lo N nc : Nat) (C : List PZ) (r : Int) : callM (env Try.f26.ntmps orcBl [(0, leK)]) (bodyC Try.f26) Try.f26.results.toList [.rf 61 (.st [.rts, .bool bk, .int .u8 f]), .rv 25 lo N 2 (.prs nc .u64 C), .int .i64 r] some =
    chk (!(r == 0)) (chk (mkOk r) (blD bk f nc lo N r.toNat C (List.replicate r.toNat (0, 0)) r (w64 ((N : Int).tdiv r)))) := by kernel_rfl
theorem ok_blk : EntOk Try.prog 26 (entM true sp_blk) := by
  refine contractMS (orc := orcBl) (lo := [(0, leK)]) Try.func26 (orc_cons ok_pnt (orc_cons ok_litG orc_nil)) (by kernel_rfl) (by kernel_rfl) (by kernel_rfl)
    (loops_one (id := 0) (y := .loop (loopOf 0 (bodyC Try.f26))) (by kernel_rfl)
      (loopS (le := leK) (orc := orcBl) (lo' := [(2, leJ), (4, leQ)]) (orc_cons ok_pnt (orc_cons ok_litG orc_nil)) (by kernel_rfl) rfl
        (loops_two (id := 2) (id' := 4) (y := .loop (loopOf 2 (bodyC Try.f26))) (y' := .loop (loopOf 4 (bodyC Try.f26))) (by kernel_rfl)
          (loopS (le := leJ) (orc := orcBl) (lo' := []) (orc_cons ok_pnt (orc_cons ok_litG orc_nil)) (by kernel_rfl) rfl (loops_none (by kernel_rfl)) stepJ (fun R vs k1 k2 r h => ?_) go_J)
          (loopS (le := leQ) (orc := orcBl) (lo' := []) (orc_cons ok_pnt (orc_cons ok_litG orc_nil)) (by kernel_rfl) rfl (loops_none (by kernel_rfl)) stepQ (fun R vs k1 k2 r h => ?_) go_Q))
        stepK (fun R vs k1 k2 r h => ?_) go_K)) fun args r cs h => ?_
  · have h0 := h
    unfold stepJ at h
    split at h
    · exact (step_J R _ _ _ _ _ _ _ _ _ _ _ _ _ _ _ k1 k2).trans h0
    · cases h
  · have h0 := h
    unfold stepQ at h
    split at h
    · exact (step_Q R _ _ _ _ _ _ _ _ _ _ _ _ _ _ _ _ _ k1 k2).trans h0
    · cases h
  · have h0 := h
    unfold stepK at h
    split at h
    · exact (step_K R _ _ _ _ _ _ _ _ _ _ _ _ k1 k2).trans h0
    · cases h
  · unfold sp_blk at h
    split at h
    · rename_i bk f lo N nc C r
      simp only [Option.some.injEq, Prod.mk.injEq] at h
      obtain ⟨hg, rfl, rfl⟩ := h
      unfold fitBl at hg
      simp only [stk_eq, Bool.and_eq_true, decide_eq_true_eq] at hg
      obtain ⟨⟨⟨h1, h2, h3, h4, h5⟩, hC⟩, hc⟩ := hg
      have hr := can_le (r := r) (by rw [← canK_eq]; exact hc)
      obtain ⟨r, rfl⟩ : ∃ q : Nat, r = q := ⟨r.toNat, (Int.toNat_of_nonneg (by omega)).symm⟩
      rw [Int.toNat_natCast] at h2
      have hm : N / r * r = N := Nat.div_mul_cancel (Nat.dvd_of_mod_eq_zero h2)
      have hle := Nat.div_le_self N r
      have e0 : (N : Int).tdiv r = ((N / r : Nat) : Int) := by rw [Int.tdiv_eq_ediv_of_nonneg (by omega), ← Int.natCast_ediv]
      obtain ⟨m, hmE⟩ : ∃ m, N / r = m := ⟨_, rfl⟩
      rw [hmE] at hm hle e0
      have e1 : w64 ((N : Int).tdiv r) = (m : Int) := by
        rw [e0]
        exact w64_mid (by omega) (by omega)
      have e2 : mkOk (r : Int) = true := mkOk_at (by omega)
      have lr : (List.replicate r ((0 : Int), (0 : Int))).length = r := List.length_replicate
      have fK : fitK nc lo N r C (List.replicate r (0, 0)) (r : Int) (m : Int) (m : Int) = true := by
        unfold fitK
        rw [stk_eq, decide_eq_true ⟨h1, lr, rfl, rfl, by omega, by exact_mod_cast hm, h4, by omega, h5⟩, hC, okL_rep, hc]; rfl
      refine ⟨by kernel_rfl, .inl rfl, (run_blk bk f lo N nc C r).trans ?_⟩
      unfold blD blE blkK blkR kSk
      rw [e1, e2, stk_eq, stk_eq, Int.toNat_natCast, Int.toNat_natCast, hmE, fK, beq_eq_false_iff_ne.2 (show (r : Int) ≠ 0 by omega)]
      rfl
    · cases h
end
end Go.Proofs.Ytbakldcbaikgpaa
