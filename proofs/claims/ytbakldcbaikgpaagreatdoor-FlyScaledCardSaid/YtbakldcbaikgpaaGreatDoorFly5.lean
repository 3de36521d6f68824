/- tillerlaw18: sure, FlyOnes. Own work. -/
import Derived.Test.YtbakldcbaikgpaaGreatDoorFlyA
namespace Go.Proofs.YtbakldcbaikgpaaGreatDoor
set_option maxRecDepth 100000
noncomputable section

/-! ### sure -/
def sureX : List PZ := [(4607182418800017408, 0), (4611686018427387904, 0)]
def sure18T (M : List PZ) (f : Int) : Option AV :=
  bif f == 0 then chk (inX 0 2) (bif ((gp M 0).1 == 4613937818241073152 && ((gp M 0).2 == 0 && true)) then chk (inX 1 2) (some (.bool ((gp M 1).1 == 13830554455654793216))) else some (.bool false)) else some (.bool false)
theorem run_lsure18 : callA (env Tryz.f18.ntmps [(13, entB false sp_lit)] []) (bodyC Tryz.f18) Tryz.f18.results.toList (slots 0 []) some =
    chk (fitX 2 sureX) (bif !(canK 2) then some (.bool false) else sure18T (litK sureX false 2).2 (litK sureX false 2).1) := by kernel_rfl
def sureB18 : Bool := (litP sureX false 2).1 == 0 && (gp (litP sureX false 2).2 0).1 == 4613937818241073152 && (gp (litP sureX false 2).2 0).2 == 0 && (gp (litP sureX false 2).2 1).1 == 13830554455654793216
theorem sureB18_t : sureB18 = true := by decide +kernel
def isU (x : PZ) : Bool := decide (0 ≤ x.1) && decide (x.1 < 18446744073709551616) && decide (0 ≤ x.2) && decide (x.2 < 18446744073709551616)
theorem fitX_all {n : Nat} {X : List PZ} (hl : X.length = n) (h : ∀ x ∈ X, isU x = true) : fitX n X = true := by
  have h2 : okL X = true := okL_iff.2 fun x hx => by
    have := h x hx
    unfold isU at this
    simp only [Bool.and_eq_true, decide_eq_true_eq] at this
    obtain ⟨⟨⟨h1, h2⟩, h3⟩, h4⟩ := this
    exact okPr_iff.2 ⟨inU_iff.2 ⟨h1, h2⟩, inU_iff.2 ⟨h3, h4⟩⟩
  unfold fitX
  rw [stk_eq, decide_eq_true hl, h2]
  rfl
theorem sureX_u : ∀ x ∈ sureX, isU x = true := List.all_eq_true.1 (show sureX.all isU = true by decide +kernel)
theorem litK_p (X : List PZ) (bk : Bool) (n : Nat) : litK X bk n = litP X bk n := by unfold litK; rw [stk_eq, litR_p]
def sp_tt : List AV → Option (Bool × AV)
  | [] => some (true, .bool true)
  | _ => none
theorem ok_lsure18 : EntOk Tryz.prog 18 (entS false sp_tt) := by
  refine contractS (orc := [(13, entB false sp_lit)]) (lo := []) Tryz.func18 (orc_cons ok_lit orc_nil) (by kernel_rfl) (by kernel_rfl) (by kernel_rfl) (loops_none (by kernel_rfl)) fun args r h => ?_
  unfold sp_tt at h
  split at h
  · simp only [Option.some.injEq, Prod.mk.injEq] at h
    obtain ⟨hg, rfl⟩ := h
    refine ⟨by kernel_rfl, .inr rfl, run_lsure18.trans ?_⟩
    have hs := sureB18_t
    unfold sureB18 at hs
    simp only [Bool.and_eq_true] at hs
    obtain ⟨⟨⟨h1, h2⟩, h3⟩, h4⟩ := hs
    have hc : canK 2 = true := by unfold canK; rw [stk_eq]; rfl
    rw [fitX_all (X := sureX) (n := 2) rfl sureX_u, hc, litK_p]
    unfold sure18T
    rw [h1, h2, h3, h4]
    rfl
  · cases h

/-! ### FlyOnes: what a single one gives -/
def oneI : Int := 4607182418800017408
def nl (x : Int) : Bool := andNotI .u64 x 9223372036854775808 != 0
def oneS : Nat → Nat → List PZ → List PZ
  | 0, _, X => X
  | q + 1, i, X => oneS q (i + 1) (X.set i (oneI, (gp X i).2))
def oneSk (X : List PZ) (n : Nat) : List PZ := stk (oneS n 0 X)
def goodO (nx nL : Nat) (X L : List PZ) (n : Int) : Bool := stk (decide (n = nx ∧ nL = nx ∧ X.length = nx ∧ L.length = nx ∧ nx ≤ 100) && L.all (fun x => x.1 == oneI && !nl x.2))
def stepO (R : Type) (vs : List AV) (k1 : List AV → Option R) (k2 : Nat → List AV → Option R) : Option R :=
  match vs with
  | [.prs nx .u64 X, .prs nL .u64 L, .int .i64 a, .int .i64 n, .int .i64 i] =>
    bif decide (i < n) then chk (inX i nL) (bif (gp L i.toNat).1 != oneI then k2 1 [.bool false] else chk (inX i nL) (bif nl (gp L i.toNat).2 then k2 1 [.bool false] else
      chk (inX i nx) (k1 [.prs nx .u64 (X.set i.toNat (oneI, (gp X i.toNat).2)), .prs nL .u64 L, .int .i64 a, .int .i64 n, .int .i64 (w64 (i + 1))])))
    else k2 0 [.prs nx .u64 X, .int .i64 a, .int .i64 n]
  | _ => none
def leO : LEnt :=
  { inn := { fuel := none, keep := [0, 3, 8], refs := [(4, 4, 44, .prs 0 .u64 []), (5, 5, 44, .prs 0 .u64 [])] }
    out := { fuel := none, keep := [0, 3], refs := [(4, 4, 44, .prs 0 .u64 [])] }
    ret := { fuel := none, keep := [2], refs := [] }
    go := fun _ _ vs kk => match vs with
      | [.prs nx .u64 X, .prs nL .u64 L, .int .i64 a, .int .i64 n, .int .i64 0] => chk (goodO nx nL X L n) (kk 0 [.prs nx .u64 (oneSk X nx), .int .i64 a, .int .i64 n])
      | _ => none }
theorem O_step (R : Type) (h : Nat) (X L : List PZ) (a : Int) (i : Nat) (k1 : List AV → Option R) (k2 : Nat → List AV → Option R) (hh : h ≤ 100) (hi : i < h) (g1 : (gp L i).1 = oneI) (g2 : nl (gp L i).2 = false) :
    stepO R [.prs h .u64 X, .prs h .u64 L, .int .i64 a, .int .i64 h, .int .i64 i] k1 k2 = k1 [.prs h .u64 (X.set i (oneI, (gp X i).2)), .prs h .u64 L, .int .i64 a, .int .i64 h, .int .i64 ((i + 1 : Nat) : Int)] := by
  have e1 : w64 ((i : Int) + 1) = ((i + 1 : Nat) : Int) := by rw [w64_mid (by omega) (by omega)]; omega
  have c1 : inX (i : Int) h = true := inX_at (by omega)
  unfold stepO
  simp only [decide_eq_true (show (i : Int) < (h : Int) by omega), cond_true, cond_false, Int.toNat_natCast, c1, g1, g2, bne_self_eq_false, e1, chk]
theorem O_end (R : Type) (h : Nat) (X L : List PZ) (a i : Int) (k1 : List AV → Option R) (k2 : Nat → List AV → Option R) (hi : ¬ i < (h : Int)) :
    stepO R [.prs h .u64 X, .prs h .u64 L, .int .i64 a, .int .i64 h, .int .i64 i] k1 k2 = k2 0 [.prs h .u64 X, .int .i64 a, .int .i64 h] := by
  unfold stepO
  simp only [hi, decide_false, cond_false]
theorem O_loop (R : Type) (h : Nat) (L : List PZ) (a : Int) (kk : Nat → List AV → Option R) (hh : h ≤ 100) (hL : L.length = h) (hg : ∀ x ∈ L, x.1 = oneI ∧ nl x.2 = false) : ∀ (q i : Nat) (X : List PZ), i + q = h →
    loopN (stepO R) (q + 1) [.prs h .u64 X, .prs h .u64 L, .int .i64 a, .int .i64 h, .int .i64 i] kk = kk 0 [.prs h .u64 (oneS q i X), .int .i64 a, .int .i64 h]
  | 0, i, X, hi => by
    rw [loopN, O_end R h X L a i _ kk (by omega)]
    rfl
  | q + 1, i, X, hi => by
    have hm : gp L i ∈ L := by
      unfold gp
      rw [List.getD_eq_getElem?_getD, List.getElem?_eq_getElem (show i < L.length by omega)]
      exact List.getElem_mem _
    obtain ⟨g1, g2⟩ := hg _ hm
    rw [loopN, O_step R h X L a i _ kk hh (by omega) g1 g2, O_loop R h L a kk hh hL hg q (i + 1) _ (by omega)]
    rfl
theorem go_O (R : Type) (n : Nat) (vs : List AV) (kk : Nat → List AV → Option R) (r : R) (h : leO.go R n vs kk = some r) : ∃ m, loopN (stepO R) m vs kk = some r := by
  simp only [leO] at h
  split at h
  · rename_i nx X nL L a n
    obtain ⟨hg, hk⟩ := chk_some h
    clear h
    unfold goodO at hg
    rw [stk_eq] at hg
    simp only [Bool.and_eq_true, decide_eq_true_eq, List.all_eq_true, beq_iff_eq, Bool.not_eq_true'] at hg
    obtain ⟨⟨rfl, rfl, g1, g2, g3⟩, g4⟩ := hg
    refine ⟨nL + 1, (O_loop R nL L a kk g3 g2 g4 nL 0 X (by omega)).trans ?_⟩
    unfold oneSk at hk
    rw [stk_eq] at hk
    exact hk
  · cases h

/-! ### FlyOnes: what ones give -/
def goodQ (nm : Nat) (M : List PZ) (n : Int) : Bool := stk (decide (n = nm ∧ M.length = nm ∧ 1 ≤ nm ∧ nm ≤ 100) && (!(nm == 2 || nm == 4) || (M.drop 1).all (fun x => !nl x.1 && !nl x.2)))
def stepQ (R : Type) (vs : List AV) (k1 : List AV → Option R) (k2 : Nat → List AV → Option R) : Option R :=
  match vs with
  | [.prs nm .u64 M, .int .i64 a, .int .i64 n, .int .i64 j] =>
    let B := chk (inX j nm) (bif nl (gp M j.toNat).1 then k2 1 [.bool false] else chk (inX j nm) (bif nl (gp M j.toNat).2 then k2 1 [.bool false] else k1 [.prs nm .u64 M, .int .i64 a, .int .i64 n, .int .i64 (w64 (j + 1))]))
    bif decide (j < n) then bif n == 2 then B else bif n == 4 then B else k2 0 [.prs nm .u64 M, .int .i64 a] else k2 0 [.prs nm .u64 M, .int .i64 a]
  | _ => none
def leQ : LEnt :=
  { inn := { fuel := none, keep := [0, 3, 12], refs := [(9, 9, 44, .prs 0 .u64 [])] }
    out := { fuel := none, keep := [0], refs := [(9, 9, 44, .prs 0 .u64 [])] }
    ret := { fuel := none, keep := [2], refs := [] }
    go := fun _ _ vs kk => match vs with
      | [.prs nm .u64 M, .int .i64 a, .int .i64 n, .int .i64 1] => chk (goodQ nm M n) (kk 0 [.prs nm .u64 M, .int .i64 a])
      | _ => none }
theorem Q_step (R : Type) (h : Nat) (M : List PZ) (a : Int) (j : Nat) (k1 : List AV → Option R) (k2 : Nat → List AV → Option R) (hh : h ≤ 100) (hj : j < h) (h24 : h = 2 ∨ h = 4) (g1 : nl (gp M j).1 = false) (g2 : nl (gp M j).2 = false) :
    stepQ R [.prs h .u64 M, .int .i64 a, .int .i64 h, .int .i64 j] k1 k2 = k1 [.prs h .u64 M, .int .i64 a, .int .i64 h, .int .i64 ((j + 1 : Nat) : Int)] := by
  have e1 : w64 ((j : Int) + 1) = ((j + 1 : Nat) : Int) := by rw [w64_mid (by omega) (by omega)]; omega
  have c1 : inX (j : Int) h = true := inX_at (by omega)
  unfold stepQ
  simp only [decide_eq_true (show (j : Int) < (h : Int) by omega), cond_true, cond_false, Int.toNat_natCast, c1, g1, g2, e1, chk]
  rcases h24 with rfl | rfl <;> rfl
theorem Q_end (R : Type) (h : Nat) (M : List PZ) (a j : Int) (k1 : List AV → Option R) (k2 : Nat → List AV → Option R) (hj : ¬ j < (h : Int)) :
    stepQ R [.prs h .u64 M, .int .i64 a, .int .i64 h, .int .i64 j] k1 k2 = k2 0 [.prs h .u64 M, .int .i64 a] := by
  unfold stepQ
  simp only [hj, decide_false, cond_false]
theorem Q_out (R : Type) (h : Nat) (M : List PZ) (a j : Int) (k1 : List AV → Option R) (k2 : Nat → List AV → Option R) (h2 : h ≠ 2) (h4 : h ≠ 4) :
    stepQ R [.prs h .u64 M, .int .i64 a, .int .i64 h, .int .i64 j] k1 k2 = k2 0 [.prs h .u64 M, .int .i64 a] := by
  unfold stepQ
  simp only [beq_eq_false_iff_ne.2 (show (h : Int) ≠ 2 by omega), beq_eq_false_iff_ne.2 (show (h : Int) ≠ 4 by omega), cond_false]
  cases decide (j < (h : Int)) <;> rfl
theorem Q_loop (R : Type) (h : Nat) (M : List PZ) (a : Int) (kk : Nat → List AV → Option R) (hh : h ≤ 100) (hL : M.length = h) (h24 : h = 2 ∨ h = 4) (hg : ∀ x ∈ M.drop 1, nl x.1 = false ∧ nl x.2 = false) : ∀ (q j : Nat), 1 ≤ j → j + q = h →
    loopN (stepQ R) (q + 1) [.prs h .u64 M, .int .i64 a, .int .i64 h, .int .i64 j] kk = kk 0 [.prs h .u64 M, .int .i64 a]
  | 0, j, _, hj => by
    rw [loopN, Q_end R h M a j _ kk (by omega)]
  | q + 1, j, hj1, hj => by
    have hm : gp M j ∈ M.drop 1 := by
      unfold gp
      rw [List.getD_eq_getElem?_getD, List.getElem?_eq_getElem (show j < M.length by omega), Option.getD_some, List.mem_drop_iff_getElem]
      refine ⟨j - 1, by omega, ?_⟩
      congr 1
      omega
    obtain ⟨g1, g2⟩ := hg _ hm
    rw [loopN, Q_step R h M a j _ kk hh (by omega) h24 g1 g2, Q_loop R h M a kk hh hL h24 hg q (j + 1) (by omega) (by omega)]
theorem go_Q (R : Type) (n : Nat) (vs : List AV) (kk : Nat → List AV → Option R) (r : R) (h : leQ.go R n vs kk = some r) : ∃ m, loopN (stepQ R) m vs kk = some r := by
  simp only [leQ] at h
  split at h
  · rename_i nm M a n
    obtain ⟨hg, hk⟩ := chk_some h
    clear h
    unfold goodQ at hg
    rw [stk_eq] at hg
    simp only [Bool.and_eq_true, decide_eq_true_eq] at hg
    obtain ⟨⟨rfl, g1, g2, g3⟩, g4⟩ := hg
    by_cases h24 : nm = 2 ∨ nm = 4
    · have hall : ∀ x ∈ M.drop 1, nl x.1 = false ∧ nl x.2 = false := by
        have : (nm == 2 || nm == 4) = true := by rcases h24 with rfl | rfl <;> rfl
        rw [this] at g4
        simpa [List.all_eq_true] using g4
      obtain ⟨q, rfl⟩ : ∃ q, nm = 1 + q := ⟨nm - 1, by omega⟩
      exact ⟨q + 1, (Q_loop R (1 + q) M a kk g3 g1 h24 hall q 1 (by omega) rfl).trans hk⟩
    · refine ⟨1, ?_⟩
      rw [loopN, Q_out R nm M a 1 _ kk (by omega) (by omega)]
      exact hk
  · cases h

/-! ### FlyOnes -/
def tblN : List Int := [2, 3, 4, 5, 7, 11, 13]
def orcFO : List (FuncId × Ent) := [(13, entB false sp_lit), (18, entS false sp_tt)]
def fo4 (m : Nat) (M : List PZ) (r : Int) : Option AV :=
  chk (inX 0 m) (chk (inX r 7) (bif (gp M 0).1 == sizeT.getD r.toNat 0 then chk (inX 0 m) (bif (gp M 0).2 == 0 then some (.bool true) else some (.bool false)) else some (.bool false)))
def fo3 (m : Nat) (M : List PZ) (g n r : Int) : Option AV :=
  bif (m : Int) != n then some (.bool false) else bif andNotI .u8 g 16 != 0 then some (.bool false) else chk (goodQ m M n) (fo4 m M r)
def fo2 (m : Nat) (X : List PZ) (n r : Int) : Option AV :=
  chk (fitX m X) (bif !(canK m) then some (.bool false) else fo3 m (litK X false m).2 (litK X false m).1 n r)
def fo1 (m : Nat) (X : List PZ) (n r : Int) : Option AV :=
  chk (fitX m X) (bif !(canK m) then some (.bool false) else bif (litK X false m).1 != 0 then some (.bool false) else bif (m : Int) != n then some (.bool false) else
    chk (goodO m m X (litK X false m).2 n) (fo2 m (oneSk X m) n r))
def fo0 (n r : Int) : Option AV := chk (mkOk n) (chk (inX 0 n.toNat) (fo1 n.toNat ((List.replicate n.toNat (0, 0)).set 0 (oneI, (gp (List.replicate n.toNat (0, 0)) 0).2)) n r))
def rOf (a : Int) : Int := w64 ((u64 a).tmod 7)
theorem gp_rep (n i : Nat) : gp (List.replicate n (0, 0)) i = (0, 0) := by
  unfold gp
  rw [List.getD_eq_getElem?_getD, List.getElem?_replicate]
  split <;> rfl
def okCh (n : Nat) : Bool := canN n && decide (oneS n 0 (oneX n) = allX n) && (oneX n).all isU && (allX n).all isU && decide ((oneX n).length = n) && decide ((allX n).length = n)
theorem nil_nl {z : Int} (h : nilB z = true) : nl z = false := by
  unfold nilB at h
  simp only [Bool.or_eq_true, beq_iff_eq] at h
  rcases h with rfl | rfl <;> decide +kernel
theorem fo_at {n : Nat} {r : Int} (hn : 2 ≤ n) (hn2 : n ≤ 100) (hr : inX r 7 = true) (h1 : ones1 n = true) (h2 : ones2 n (sizeT.getD r.toNat 0) = true) (h3 : okCh n = true) : fo0 n r = some (.bool true) := by
  unfold ones1 at h1
  unfold ones2 at h2
  unfold okCh at h3
  simp only [Bool.and_eq_true, decide_eq_true_eq, beq_iff_eq, List.all_eq_true] at h1 h3
  simp only [Bool.and_eq_true, beq_iff_eq] at h2
  obtain ⟨⟨a1, a2⟩, a3⟩ := h1
  obtain ⟨⟨⟨b1, b2⟩, b3⟩, b4⟩ := h2
  obtain ⟨⟨⟨⟨⟨c1, c2⟩, c3⟩, c4⟩, c5⟩, c6⟩ := h3
  have hc : canK n = true := by unfold canK; rw [stk_eq]; exact c1
  have e1 : (List.replicate n ((0 : Int), (0 : Int))).set 0 (oneI, (gp (List.replicate n (0, 0)) 0).2) = oneX n := by rw [gp_rep]; rfl
  have e2 : oneSk (oneX n) n = allX n := by unfold oneSk; rw [stk_eq]; exact c2
  have i0 : inX 0 n = true := inX_at (show 0 < n by omega)
  have g1 : goodO n n (oneX n) (litP (oneX n) false n).2 n = true := by
    unfold goodO
    rw [stk_eq, decide_eq_true ⟨rfl, rfl, c5, a2, hn2⟩, Bool.true_and, List.all_eq_true]
    intro x hx
    obtain ⟨u1, u2⟩ := a3 x hx
    rw [nil_nl u2, beq_iff_eq.2 (show x.1 = oneI from u1)]
    rfl
  have g2 : goodQ n (litP (allX n) false n).2 n = true := by
    unfold goodQ
    rw [stk_eq, decide_eq_true ⟨rfl, b2, by omega, hn2⟩, Bool.true_and]
    cases h24 : (n == 2 || n == 4) with
    | false => rfl
    | true =>
      rw [h24] at b4
      simp only [Bool.not_true, Bool.false_or, List.all_eq_true] at b4 ⊢
      intro x hx
      have hb := b4 x hx
      rw [Bool.and_eq_true] at hb
      rw [nil_nl hb.1, nil_nl hb.2]
      rfl
  unfold fo0
  rw [mkOk_at (show n ≤ 1000 by omega), Int.toNat_natCast, i0, e1]
  unfold fo1
  rw [fitX_all c5 c3, hc, litK_p, a1, g1, e2, bne_self_eq_false, bne_self_eq_false]
  unfold fo2
  rw [fitX_all c6 c4, hc, litK_p]
  unfold fo3
  rw [g2, bne_self_eq_false]
  have hf : (andNotI .u8 (litP (allX n) false n).1 16 != 0) = false := by
    simp only [Bool.or_eq_true, beq_iff_eq] at b1
    rcases b1 with h | h <;> rw [h] <;> decide +kernel
  rw [hf]
  unfold fo4
  rw [i0, hr, b3, beq_self_eq_true]
  rfl
theorem okCh_2 : okCh 2 = true := by decide +kernel
theorem okCh_3 : okCh 3 = true := by decide +kernel
theorem okCh_4 : okCh 4 = true := by decide +kernel
theorem okCh_5 : okCh 5 = true := by decide +kernel
theorem okCh_7 : okCh 7 = true := by decide +kernel
theorem okCh_11 : okCh 11 = true := by decide +kernel
theorem okCh_13 : okCh 13 = true := by decide +kernel
theorem rOf_at (a : Int) : rOf a = 0 ∨ rOf a = 1 ∨ rOf a = 2 ∨ rOf a = 3 ∨ rOf a = 4 ∨ rOf a = 5 ∨ rOf a = 6 := by
  have h1 : 0 ≤ u64 a := by unfold u64; rw [IntKind.wrap_u64]; omega
  have h2 := Int.tmod_lt_of_pos (u64 a) (show 0 < (7 : Int) by omega)
  have h3 := Int.tmod_nonneg (7 : Int) h1
  unfold rOf
  rw [w64_mid (by omega) (by omega)]
  omega
theorem fo_all (a : Int) : chk (inX (rOf a) 7) (fo0 (tblN.getD (rOf a).toNat 0) (rOf a)) = some (.bool true) := by
  rcases rOf_at a with h | h | h | h | h | h | h <;> rw [h]
  · exact fo_at (n := 2) (r := 0) (by omega) (by omega) rfl ones1_2 ones2_2 okCh_2
  · exact fo_at (n := 3) (r := 1) (by omega) (by omega) rfl ones1_3 ones2_3 okCh_3
  · exact fo_at (n := 4) (r := 2) (by omega) (by omega) rfl ones1_4 ones2_4 okCh_4
  · exact fo_at (n := 5) (r := 3) (by omega) (by omega) rfl ones1_5 ones2_5 okCh_5
  · exact fo_at (n := 7) (r := 4) (by omega) (by omega) rfl ones1_7 ones2_7 okCh_7
  · exact fo_at (n := 11) (r := 5) (by omega) (by omega) rfl ones1_11 ones2_11 okCh_11
  · exact fo_at (n := 13) (r := 6) (by omega) (by omega) rfl ones1_13 ones2_13 okCh_13
def sp_lOnes : List AV → Option (Bool × AV)
  | [.int .i64 _] => some (true, .bool true)
  | _ => none
end
end Go.Proofs.YtbakldcbaikgpaaGreatDoor
