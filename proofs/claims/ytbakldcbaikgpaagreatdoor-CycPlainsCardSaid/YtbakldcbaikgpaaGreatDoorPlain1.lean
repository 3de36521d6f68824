/- cyc.check, cyc.Plain. Own work. -/
import Derived.Test.YtbakldcbaikgpaaGreatDoorFlyA
namespace Go.Proofs.YtbakldcbaikgpaaGreatDoor
set_option maxRecDepth 100000
noncomputable section

/-! ### check -/
def sp_cChk : List AV → Option Br
  | [.int .i64 n, .int .i64 m, .int .i64 t] => some (.br (decide (n < 1)) (.leaf (.iface 59 (.int .i64 1))) (.br (decide (n > t)) (.leaf (.iface 59 (.int .i64 1))) (.br (m != n) (.leaf (.iface 59 (.int .i64 11))) (.leaf .nili))))
  | _ => none
theorem run_cChk (n m t : Int) : callA (env Tryz.f27.ntmps [] []) (bodyC Tryz.f27) Tryz.f27.results.toList (slots 0 [.int .i64 n, .int .i64 m, .int .i64 t]) some =
    (bif decide (n < 1) then some (.iface 59 (.int .i64 1)) else bif decide (n > t) then some (.iface 59 (.int .i64 1)) else bif m != n then some (.iface 59 (.int .i64 11)) else some .nili) := by kernel_rfl
theorem ok_cChk : EntOk Tryz.prog 27 (entB false sp_cChk) := by
  refine contractB (orc := []) (lo := []) Tryz.func27 orc_nil (by kernel_rfl) (by kernel_rfl) (by kernel_rfl) (loops_none (by kernel_rfl)) fun args t h => ?_
  unfold sp_cChk at h
  split at h
  · rename_i n m t
    simp only [Option.some.injEq] at h
    subst h
    exact ⟨by kernel_rfl, .inr rfl, fun z hz => (run_cChk n m t).trans hz⟩
  · cases h

/-! ### Plain: one answer -/
def plX (k j n : Nat) : Nat := (k + n - j) % n
abbrev PS := Int × List PZ
def pI1 (X Y : List PZ) (n k j : Nat) (s : PS) : PS :=
  (orI .u8 s.1 (orI .u8 (cMulF (gp X j) (gp Y (plX k j n))) (cAddF (gp s.2 k) (cMul (gp X j) (gp Y (plX k j n))))), s.2.set k (cAdd (gp s.2 k) (cMul (gp X j) (gp Y (plX k j n)))))
def pI (X Y : List PZ) (n k : Nat) : Nat → Nat → PS → PS
  | 0, _, s => s
  | q + 1, j, s => pI X Y n k q (j + 1) (pI1 X Y n k j s)
def pIk (X Y : List PZ) (n : Nat) (k : Int) (f : Int) (O : List PZ) : PS := stk (pI X Y n k.toNat n 0 (f, O))
def fitPI (p n m : Nat) (O X Y : List PZ) (k L : Int) : Bool := stk (decide (O.length = p ∧ X.length = n ∧ Y.length = m ∧ p = n ∧ m = n ∧ L = n ∧ 0 ≤ k ∧ k < n ∧ n ≤ 4096)) && okL X && okL Y && okL O
def plQ (a : PZ) (b : PZ) (o : PZ) (O : List PZ) (k : Int) (f : Int) : PS :=
  (orI .u8 f (orI .u8 (cMulF a b) (cAddF o ((cMul a b).1, (cMul a b).2))), O.set k.toNat ((cAdd o ((cMul a b).1, (cMul a b).2)).1, (cAdd o ((cMul a b).1, (cMul a b).2)).2))
def pz2 (x : PZ) : PZ := (x.1, x.2)
def stepPI (R : Type) (vs : List AV) (k1 : List AV → Option R) (k2 : Nat → List AV → Option R) : Option R :=
  match vs with
  | [.prs p .u64 O, .sl (.prs n .u64 X), .sl (.prs m .u64 Y), .int .u8 f, .int .i64 k, .int .i64 K, .int .i64 k', .sl (.prs n2 .u64 X2), .int .i64 L, .int .i64 j] =>
    bif decide (j < L) then
      let ix := (w64 (w64 (k - j) + m)).tmod m
      let a := ((gp X2 j.toNat).1, (gp X2 j.toNat).2)
      let b := ((gp Y ix.toNat).1, (gp Y ix.toNat).2)
      let o := ((gp O k.toNat).1, (gp O k.toNat).2)
      chk (inX j n2) (chk (!((m : Int) == 0)) (chk (inX ix m) (chk (okPr a && okPr b) (chk (inX k p) (chk (okPr o && okPr ((cMul a b).1, (cMul a b).2)) (chk (inX k p)
        (k1 [.prs p .u64 (plQ a b o O k f).2, .sl (.prs n .u64 X), .sl (.prs m .u64 Y), .int .u8 (plQ a b o O k f).1, .int .i64 k, .int .i64 K, .int .i64 k', .sl (.prs n2 .u64 X2), .int .i64 L, .int .i64 (w64 (j + 1))])))))))
    else k2 0 [.prs p .u64 O, .sl (.prs n .u64 X), .sl (.prs m .u64 Y), .int .u8 f, .int .i64 K, .int .i64 k']
  | _ => none
def lePI : LEnt :=
  { inn := { fuel := none, keep := [0, 1, 9, 10, 29, 30, 33, 34, 35], refs := [(8, 8, 44, .prs 0 .u64 [])] }
    out := { fuel := none, keep := [0, 1, 9, 29, 30], refs := [(8, 8, 44, .prs 0 .u64 [])] }
    ret := { fuel := none, keep := [], refs := [] }
    go := fun _ _ vs kk => match vs with
      | [.prs p .u64 O, .sl (.prs n .u64 X), .sl (.prs m .u64 Y), .int .u8 f, .int .i64 k, .int .i64 K, .int .i64 k', .sl (.prs n2 .u64 X2), .int .i64 L, .int .i64 0] =>
        chk (fitPI p n2 m O X2 Y k L) (kk 0 [.prs p .u64 (pIk X2 Y n2 k f O).2, .sl (.prs n .u64 X), .sl (.prs m .u64 Y), .int .u8 (pIk X2 Y n2 k f O).1, .int .i64 K, .int .i64 k'])
      | _ => none }
def orcPl : List (FuncId × Ent) := [(27, entB false sp_cChk), (28, entS false sp_cMul), (29, entS false sp_cAdd)]
theorem step_PI (R : Type) (p n m n2 : Nat) (O X Y X2 : List PZ) (f k K k' L j : Int) (k1 : List AV → Option R) (k2 : Nat → List AV → Option R) :
    runA (env Tryz.f8.ntmps orcPl []) (loopOf 2 (bodyC Tryz.f8)) 2 (stateOf lePI.inn [.prs p .u64 O, .sl (.prs n .u64 X), .sl (.prs m .u64 Y), .int .u8 f, .int .i64 k, .int .i64 K, .int .i64 k', .sl (.prs n2 .u64 X2), .int .i64 L, .int .i64 j]) (bodyK lePI 2 k1 k2) =
    stepPI R [.prs p .u64 O, .sl (.prs n .u64 X), .sl (.prs m .u64 Y), .int .u8 f, .int .i64 k, .int .i64 K, .int .i64 k', .sl (.prs n2 .u64 X2), .int .i64 L, .int .i64 j] k1 k2 := by kernel_rfl
theorem okPr_mul {x y : PZ} : okPr (cMul x y) = true := by
  have h2 : cMulQ x y < 18446744073709551616 := by unfold cMulQ muP; rw [stk_eq]; exact mu_lt _ _ _
  unfold cMul fmP
  rw [stk_eq, stk_eq]
  exact okPr_iff.2 ⟨inU_nat (fm_lt _ _ (neg_lt _) 0), inU_nat (fm_lt _ _ h2 0)⟩
def vsPI (p n m n2 : Nat) (X Y X2 : List PZ) (k K k' L j : Int) (s : PS) : List AV :=
  [.prs p .u64 s.2, .sl (.prs n .u64 X), .sl (.prs m .u64 Y), .int .u8 s.1, .int .i64 k, .int .i64 K, .int .i64 k', .sl (.prs n2 .u64 X2), .int .i64 L, .int .i64 j]
theorem PI_loop (R : Type) (n n0 : Nat) (X Y X0 : List PZ) (k : Nat) (K k' : Int) (kk : Nat → List AV → Option R) (hk : k < n) (hn : n ≤ 4096) (hX : okL X = true) (hY : okL Y = true) : ∀ (q j : Nat) (s : PS), j + q = n → okL s.2 = true → s.2.length = n →
    loopN (stepPI R) (q + 1) (vsPI n n0 n n X0 Y X k K k' n j s) kk = kk 0 [.prs n .u64 (pI X Y n k q j s).2, .sl (.prs n0 .u64 X0), .sl (.prs n .u64 Y), .int .u8 (pI X Y n k q j s).1, .int .i64 K, .int .i64 k']
  | 0, j, s, hj, _, _ => by
    rw [loopN]
    unfold vsPI stepPI
    simp only [show ¬ ((j : Int) < (n : Int)) by omega, decide_false, cond_false]
    rfl
  | q + 1, j, s, hj, hO, hl => by
    have e1 : w64 ((j : Int) + 1) = ((j + 1 : Nat) : Int) := by rw [w64_mid (by omega) (by omega)]; omega
    have e2 : (w64 (w64 ((k : Int) - j) + n)).tmod n = ((plX k j n : Nat) : Int) := by
      rw [w64_mid (x := (k : Int) - j) (by omega) (by omega), w64_mid (x := (k : Int) - j + n) (by omega) (by omega), show (k : Int) - j + n = ((k + n - j : Nat) : Int) by omega]
      rfl
    have hx : plX k j n < n := Nat.mod_lt _ (by omega)
    have c1 : inX (j : Int) n = true := inX_at (by omega)
    have c2 : inX ((plX k j n : Nat) : Int) n = true := inX_at hx
    have c3 : inX (k : Int) n = true := inX_at hk
    have c4 : ((n : Int) == 0) = false := beq_eq_false_iff_ne.2 (by omega)
    have p1 := gp_ok hX j
    have p2 := gp_ok hY (plX k j n)
    have p3 := gp_ok hO k
    have hs : ∀ k1 k2, stepPI R (vsPI n n0 n n X0 Y X k K k' n j s) k1 k2 = k1 (vsPI n n0 n n X0 Y X k K k' n ((j + 1 : Nat) : Int) (pI1 X Y n k j s)) := by
      intro k1 k2
      unfold vsPI stepPI
      simp only [decide_eq_true (show (j : Int) < (n : Int) by omega), cond_true, e1, e2, Int.toNat_natCast, c1, c2, c3, c4, Bool.not_false, pzE, p1, p2, p3, okPr_mul, Bool.and_self, chk]
      rfl
    rw [loopN, hs]
    exact PI_loop R n n0 X Y X0 k K k' kk hk hn hX hY q (j + 1) _ (by omega) (okL_set hO k (okPr_add p3 okPr_mul)) ((List.length_set ..).trans hl)
theorem pI_ok {X Y : List PZ} {n k : Nat} : ∀ (q j : Nat) (s : PS), okL s.2 = true → okL (pI X Y n k q j s).2 = true ∧ (pI X Y n k q j s).2.length = s.2.length
  | 0, _, _, h => ⟨h, rfl⟩
  | q + 1, j, s, h => by
    obtain ⟨h1, h2⟩ := pI_ok (X := X) (Y := Y) (n := n) (k := k) q (j + 1) (pI1 X Y n k j s) (okL_set h k (okPr_add (gp_ok h k) okPr_mul))
    exact ⟨h1, h2.trans (List.length_set ..)⟩
theorem fitPI_parts {p n m : Nat} {O X Y : List PZ} {k L : Int} (h : fitPI p n m O X Y k L = true) : (O.length = p ∧ X.length = n ∧ Y.length = m ∧ p = n ∧ m = n ∧ L = n ∧ 0 ≤ k ∧ k < n ∧ n ≤ 4096) ∧ okL X = true ∧ okL Y = true ∧ okL O = true := by
  unfold fitPI at h
  simp only [stk_eq, Bool.and_eq_true, decide_eq_true_eq] at h
  exact ⟨h.1.1.1, h.1.1.2, h.1.2, h.2⟩
theorem go_PI (R : Type) (n : Nat) (vs : List AV) (kk : Nat → List AV → Option R) (r : R) (h : lePI.go R n vs kk = some r) : ∃ m, loopN (stepPI R) m vs kk = some r := by
  simp only [lePI] at h
  split at h
  · rename_i p O n X m Y f k K k' n2 X2 L
    obtain ⟨hg, hk⟩ := chk_some h
    clear h
    obtain ⟨⟨g1, g2, g3, g4, g5, g6, g7, g8, g9⟩, hX, hY, hO⟩ := fitPI_parts hg
    subst g4 g5 g6
    obtain ⟨k, rfl⟩ : ∃ q : Nat, k = q := ⟨k.toNat, (Int.toNat_of_nonneg (by omega)).symm⟩
    refine ⟨m + 1, (PI_loop R m n X2 Y X k K k' kk (by omega) g9 hX hY m 0 (f, O) (by omega) hO g1).trans ?_⟩
    unfold pIk at hk
    rw [stk_eq, Int.toNat_natCast] at hk
    exact hk
  · cases h

/-! ### Plain: all answers -/
def pO (X Y : List PZ) (n : Nat) : Nat → Nat → PS → PS
  | 0, _, s => s
  | q + 1, k, s => pO X Y n q (k + 1) (pI X Y n k n 0 s)
def plR (X Y : List PZ) (n : Nat) : PS := pO X Y n n 0 (0, List.replicate n (0, 0))
def plK (X Y : List PZ) (n : Nat) : PS := stk (plR X Y n)
def fitPO (p n m : Nat) (O X Y : List PZ) (K : Int) : Bool := stk (decide (O = List.replicate p (0, 0) ∧ X.length = n ∧ Y.length = m ∧ p = n ∧ m = n ∧ K = n ∧ n ≤ 4096)) && okL X && okL Y
def stepPO (R : Type) (vs : List AV) (k1 : List AV → Option R) (k2 : Nat → List AV → Option R) : Option R :=
  match vs with
  | [.prs p .u64 O, .sl (.prs n .u64 X), .sl (.prs m .u64 Y), .int .u8 f, .int .i64 K, .int .i64 k] =>
    bif decide (k < K) then
      chk (fitPI p n m O X Y k n) (k1 [.prs p .u64 (pIk X Y n k f O).2, .sl (.prs n .u64 X), .sl (.prs m .u64 Y), .int .u8 (pIk X Y n k f O).1, .int .i64 K, .int .i64 (w64 (k + 1))])
    else k2 0 [.prs p .u64 O, .int .u8 f]
  | _ => none
def lePO : LEnt :=
  { inn := { fuel := none, keep := [0, 1, 9, 29, 30], refs := [(8, 8, 44, .prs 0 .u64 [])] }
    out := { fuel := none, keep := [9], refs := [(8, 8, 44, .prs 0 .u64 [])] }
    ret := { fuel := none, keep := [], refs := [] }
    go := fun _ _ vs kk => match vs with
      | [.prs p .u64 O, .sl (.prs n .u64 X), .sl (.prs m .u64 Y), .int .u8 0, .int .i64 K, .int .i64 0] => chk (fitPO p n m O X Y K) (kk 0 [.prs p .u64 (plK X Y n).2, .int .u8 (plK X Y n).1])
      | _ => none }
theorem step_PO (R : Type) (p n m : Nat) (O X Y : List PZ) (f K k : Int) (k1 : List AV → Option R) (k2 : Nat → List AV → Option R) :
    runA (env Tryz.f8.ntmps orcPl [(2, lePI)]) (loopOf 0 (bodyC Tryz.f8)) 0 (stateOf lePO.inn [.prs p .u64 O, .sl (.prs n .u64 X), .sl (.prs m .u64 Y), .int .u8 f, .int .i64 K, .int .i64 k]) (bodyK lePO 0 k1 k2) =
    stepPO R [.prs p .u64 O, .sl (.prs n .u64 X), .sl (.prs m .u64 Y), .int .u8 f, .int .i64 K, .int .i64 k] k1 k2 := by kernel_rfl
theorem PO_loop (R : Type) (n : Nat) (X Y : List PZ) (kk : Nat → List AV → Option R) (lX : X.length = n) (lY : Y.length = n) (hn : n ≤ 4096) (hX : okL X = true) (hY : okL Y = true) : ∀ (q k : Nat) (s : PS), k + q = n → okL s.2 = true → s.2.length = n →
    loopN (stepPO R) (q + 1) [.prs n .u64 s.2, .sl (.prs n .u64 X), .sl (.prs n .u64 Y), .int .u8 s.1, .int .i64 n, .int .i64 k] kk = kk 0 [.prs n .u64 (pO X Y n q k s).2, .int .u8 (pO X Y n q k s).1]
  | 0, k, s, hk, _, _ => by
    rw [loopN]
    unfold stepPO
    simp only [show ¬ ((k : Int) < (n : Int)) by omega, decide_false, cond_false]
    rfl
  | q + 1, k, s, hk, hO, hl => by
    have e1 : w64 ((k : Int) + 1) = ((k + 1 : Nat) : Int) := by rw [w64_mid (by omega) (by omega)]; omega
    have c1 : fitPI n n n s.2 X Y (k : Int) (n : Int) = true := by
      unfold fitPI
      rw [stk_eq, decide_eq_true ⟨hl, lX, lY, rfl, rfl, rfl, by omega, by omega, hn⟩, hX, hY, hO]; rfl
    have e2 : pIk X Y n (k : Int) s.1 s.2 = pI X Y n k n 0 s := by unfold pIk; rw [stk_eq, Int.toNat_natCast]
    have hs : ∀ k1 k2, stepPO R [.prs n .u64 s.2, .sl (.prs n .u64 X), .sl (.prs n .u64 Y), .int .u8 s.1, .int .i64 n, .int .i64 k] k1 k2 =
        k1 [.prs n .u64 (pI X Y n k n 0 s).2, .sl (.prs n .u64 X), .sl (.prs n .u64 Y), .int .u8 (pI X Y n k n 0 s).1, .int .i64 n, .int .i64 ((k + 1 : Nat) : Int)] := by
      intro k1 k2
      unfold stepPO
      simp only [decide_eq_true (show (k : Int) < (n : Int) by omega), cond_true, e1, e2, c1, chk]
    rw [loopN, hs]
    obtain ⟨a1, a2⟩ := pI_ok (X := X) (Y := Y) (n := n) (k := k) n 0 s hO
    exact PO_loop R n X Y kk lX lY hn hX hY q (k + 1) _ (by omega) a1 (a2.trans hl)
theorem go_PO (R : Type) (n : Nat) (vs : List AV) (kk : Nat → List AV → Option R) (r : R) (h : lePO.go R n vs kk = some r) : ∃ m, loopN (stepPO R) m vs kk = some r := by
  simp only [lePO] at h
  split at h
  · rename_i p O n X m Y K
    obtain ⟨hg, hk⟩ := chk_some h
    clear h
    unfold fitPO at hg
    simp only [stk_eq, Bool.and_eq_true, decide_eq_true_eq] at hg
    obtain ⟨⟨⟨g1, g2, g3, g4, g5, g6, g7⟩, hX⟩, hY⟩ := hg
    subst g1 g4 g5 g6
    refine ⟨m + 1, (PO_loop R m X Y kk g2 g3 g7 hX hY m 0 (0, List.replicate m (0, 0)) (by omega) (okL_rep m) List.length_replicate).trans ?_⟩
    unfold plK plR at hk
    rw [stk_eq] at hk
    exact hk
  · cases h
def plE (e : Int) : AV := .tup [.nils, .int .u8 0, .iface 59 (.int .i64 e)]
def sp_cPlain : List AV → Option Br
  | [.sl (.prs n .u64 X), .sl (.prs m .u64 Y)] => some (.chk (fitX n X && fitX m Y) (.br (decide ((n : Int) < 1)) (.leaf (plE 1)) (.br (decide ((n : Int) > 4096)) (.leaf (plE 1)) (.br ((m : Int) != n) (.leaf (plE 11))
      (.leaf (.tup [.osl 44 (.prs n .u64 (plK X Y n).2), .int .u8 (plK X Y n).1, .nili]))))))
  | _ => none
def plD (n p m : Nat) (X Y : List PZ) : Option AV := chk (fitPO p n m (List.replicate p (0, 0)) X Y p) (some (.tup [.osl 44 (.prs p .u64 (plK X Y n).2), .int .u8 (plK X Y n).1, .nili]))
theorem run_cPlain (n m : Nat) (X Y : List PZ) : callA (env Tryz.f8.ntmps orcPl [(0, lePO)]) (bodyC Tryz.f8) Tryz.f8.results.toList (slots 0 [.sl (.prs n .u64 X), .sl (.prs m .u64 Y)]) some =
    (bif decide ((n : Int) < 1) then some (plE 1) else bif decide ((n : Int) > 4096) then some (plE 1) else bif (m : Int) != n then some (plE 11) else chk (mkOk n) (plD n (n : Int).toNat m X Y)) := by kernel_rfl
theorem ok_cPlain : EntOk Tryz.prog 8 (entB false sp_cPlain) := by
  refine contractB (orc := orcPl) (lo := [(0, lePO)]) Tryz.func8 (orc_cons ok_cChk (orc_cons ok_cMul (orc_cons ok_cAdd orc_nil))) (by kernel_rfl) (by kernel_rfl) (by kernel_rfl)
    (loops_one (id := 0) (y := .loop (loopOf 0 (bodyC Tryz.f8))) (by kernel_rfl)
      (loopS (le := lePO) (orc := orcPl) (lo' := [(2, lePI)]) (orc_cons ok_cChk (orc_cons ok_cMul (orc_cons ok_cAdd orc_nil))) (by kernel_rfl) rfl
        (loops_one (id := 2) (y := .loop (loopOf 2 (bodyC Tryz.f8))) (by kernel_rfl)
          (loopS (le := lePI) (orc := orcPl) (lo' := []) (orc_cons ok_cChk (orc_cons ok_cMul (orc_cons ok_cAdd orc_nil))) (by kernel_rfl) rfl (loops_none (by kernel_rfl)) stepPI (fun R vs k1 k2 r h => ?_) go_PI))
        stepPO (fun R vs k1 k2 r h => ?_) go_PO)) fun args t h => ?_
  · have h0 := h
    unfold stepPI at h
    split at h
    · exact (step_PI R _ _ _ _ _ _ _ _ _ _ _ _ _ _ k1 k2).trans h0
    · cases h
  · have h0 := h
    unfold stepPO at h
    split at h
    · exact (step_PO R _ _ _ _ _ _ _ _ _ k1 k2).trans h0
    · cases h
  · unfold sp_cPlain at h
    split at h
    · rename_i n X m Y
      simp only [Option.some.injEq] at h
      subst h
      refine ⟨by kernel_rfl, .inr rfl, fun z hz => (run_cPlain n m X Y).trans ?_⟩
      simp only [Br.run] at hz
      obtain ⟨hg, hz⟩ := chk_some hz
      rw [Bool.and_eq_true] at hg
      obtain ⟨hX, hY⟩ := hg
      unfold fitX at hX hY
      simp only [stk_eq, Bool.and_eq_true, decide_eq_true_eq] at hX hY
      rw [← hz]
      by_cases h1 : (n : Int) < 1
      · rw [decide_eq_true h1]; rfl
      by_cases h2 : (n : Int) > 4096
      · rw [decide_eq_false h1, decide_eq_true h2]; rfl
      by_cases h3 : m = n
      · subst h3
        have c1 : mkOk (m : Int) = true := by
          unfold mkOk
          rw [beq_self_eq_true, decide_eq_true (show (0 : Int) ≤ m by omega), decide_eq_true (show (16 : Int) * m ≤ 140737488355328 by omega), decide_eq_true (show (m : Int) < 9223372036854775808 by omega)]
          rfl
        have c2 : fitPO m m m (List.replicate m (0, 0)) X Y m = true := by
          unfold fitPO
          rw [stk_eq, decide_eq_true ⟨rfl, hX.1, hY.1, rfl, rfl, rfl, by omega⟩, hX.2, hY.2]; rfl
        rw [decide_eq_false h1, decide_eq_false h2, bne_self_eq_false, c1, Int.toNat_natCast]
        unfold plD
        rw [c2]
        rfl
      · rw [decide_eq_false h1, decide_eq_false h2, bne_iff_ne.2 (show (m : Int) ≠ n by omega)]; rfl
    · cases h
end
end Go.Proofs.YtbakldcbaikgpaaGreatDoor
