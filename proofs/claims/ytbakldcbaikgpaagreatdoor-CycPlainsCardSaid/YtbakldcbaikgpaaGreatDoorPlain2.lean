/- tillerref25: check, Plain. Own work. -/
import Derived.Test.YtbakldcbaikgpaaGreatDoorPlain1
import Derived.Test.YtbakldcbaikgpaaGreatDoorRef10
namespace Go.Proofs.YtbakldcbaikgpaaGreatDoor
set_option maxRecDepth 100000
noncomputable section

def sp_rChk : List AV → Option Br
  | [.int .i64 n, .int .i64 m, .int .i64 t] => some (.br (n == 0) (.leaf (.int .i64 1)) (.br (decide (n > t)) (.leaf (.int .i64 1)) (.br (n != m) (.leaf (.int .i64 11)) (.leaf (.int .i64 0)))))
  | _ => none
theorem run_rChk (n m t : Int) : callA (env Tryz.f30.ntmps [] []) (bodyC Tryz.f30) Tryz.f30.results.toList (slots 0 [.int .i64 n, .int .i64 m, .int .i64 t]) some =
    (bif n == 0 then some (.int .i64 1) else bif decide (n > t) then some (.int .i64 1) else bif n != m then some (.int .i64 11) else some (.int .i64 0)) := by kernel_rfl
theorem ok_rChk : EntOk Tryz.prog 30 (entB false sp_rChk) := by
  refine contractB (orc := []) (lo := []) Tryz.func30 orc_nil (by kernel_rfl) (by kernel_rfl) (by kernel_rfl) (loops_none (by kernel_rfl)) fun args t h => ?_
  unfold sp_rChk at h
  split at h
  · rename_i n m t
    simp only [Option.some.injEq] at h
    subst h
    exact ⟨by kernel_rfl, .inr rfl, fun z hz => (run_rChk n m t).trans hz⟩
  · cases h

/-! ### Plain: one answer -/
abbrev RS := Int × PZ
def qI1 (X Y : List PZ) (n k j : Nat) (s : RS) : RS :=
  (orI .i64 (orI .i64 s.1 (cMulF (gp X j) (gp Y (plX k j n)))) (cAddF s.2 (cMul (gp X j) (gp Y (plX k j n)))), cAdd s.2 (cMul (gp X j) (gp Y (plX k j n))))
def qI (X Y : List PZ) (n k : Nat) : Nat → Nat → RS → RS
  | 0, _, s => s
  | q + 1, j, s => qI X Y n k q (j + 1) (qI1 X Y n k j s)
def qIk (X Y : List PZ) (n : Nat) (k : Int) (f : Int) : RS := stk (qI X Y n k.toNat n 0 (f, (0, 0)))
def fitRI (n m : Nat) (X Y : List PZ) (k N : Int) : Bool := stk (decide (X.length = n ∧ Y.length = m ∧ m = n ∧ N = n ∧ 0 ≤ k ∧ k < n ∧ n ≤ 4096)) && okL X && okL Y
def riQ (a b s : PZ) (F : Int) : RS := (orI .i64 (orI .i64 F (cMulF a b)) (cAddF s ((cMul a b).1, (cMul a b).2)), ((cAdd s ((cMul a b).1, (cMul a b).2)).1, (cAdd s ((cMul a b).1, (cMul a b).2)).2))
def stepRI (R : Type) (vs : List AV) (k1 : List AV → Option R) (k2 : Nat → List AV → Option R) : Option R :=
  match vs with
  | [.prs p .u64 O, .st [.int .u64 s1, .int .u64 s2], .sl (.prs n .u64 X), .sl (.prs m .u64 Y), .int .i64 N, .int .i64 F, .int .i64 k, .int .i64 j] =>
    bif decide (j < N) then
      let ix := (w64 (w64 (k + N) - j)).tmod N
      let a := ((gp X j.toNat).1, (gp X j.toNat).2)
      let b := ((gp Y ix.toNat).1, (gp Y ix.toNat).2)
      chk (inX j n) (chk (!(N == 0)) (chk (inX ix m) (chk (okPr a && okPr b) (chk (okPr (s1, s2) && okPr ((cMul a b).1, (cMul a b).2))
        (k1 [.prs p .u64 O, .st [.int .u64 (riQ a b (s1, s2) F).2.1, .int .u64 (riQ a b (s1, s2) F).2.2], .sl (.prs n .u64 X), .sl (.prs m .u64 Y), .int .i64 N, .int .i64 (riQ a b (s1, s2) F).1, .int .i64 k, .int .i64 (w64 (j + 1))])))))
    else k2 0 [.prs p .u64 O, .st [.int .u64 s1, .int .u64 s2], .sl (.prs n .u64 X), .sl (.prs m .u64 Y), .int .i64 N, .int .i64 F, .int .i64 k]
  | _ => none
def refsRI : List (Nat × Nat × TypeId × AV) := [(9, 9, 55, .prs 0 .u64 []), (12, 12, 55, .dead)]
def leRI : LEnt :=
  { inn := { fuel := none, keep := [0, 1, 7, 10, 11, 13], refs := refsRI }
    out := { fuel := none, keep := [0, 1, 7, 10, 11], refs := refsRI }
    ret := { fuel := none, keep := [], refs := [] }
    go := fun _ _ vs kk => match vs with
      | [.prs p .u64 O, .st [.int .u64 0, .int .u64 0], .sl (.prs n .u64 X), .sl (.prs m .u64 Y), .int .i64 N, .int .i64 F, .int .i64 k, .int .i64 0] =>
        chk (fitRI n m X Y k N) (kk 0 [.prs p .u64 O, .st [.int .u64 (qIk X Y n k F).2.1, .int .u64 (qIk X Y n k F).2.2], .sl (.prs n .u64 X), .sl (.prs m .u64 Y), .int .i64 N, .int .i64 (qIk X Y n k F).1, .int .i64 k])
      | _ => none }
def orcRPl : List (FuncId × Ent) := [(30, entB false sp_rChk), (31, entS false sp_r17Mul), (32, entS false sp_r17Add)]
theorem step_RI (R : Type) (p n m : Nat) (O X Y : List PZ) (s1 s2 N F k j : Int) (k1 : List AV → Option R) (k2 : Nat → List AV → Option R) :
    runA (env Tryz.f10.ntmps orcRPl []) (loopOf 2 (bodyC Tryz.f10)) 2 (stateOf leRI.inn [.prs p .u64 O, .st [.int .u64 s1, .int .u64 s2], .sl (.prs n .u64 X), .sl (.prs m .u64 Y), .int .i64 N, .int .i64 F, .int .i64 k, .int .i64 j]) (bodyK leRI 2 k1 k2) =
    stepRI R [.prs p .u64 O, .st [.int .u64 s1, .int .u64 s2], .sl (.prs n .u64 X), .sl (.prs m .u64 Y), .int .i64 N, .int .i64 F, .int .i64 k, .int .i64 j] k1 k2 := by kernel_rfl
theorem RI_loop (R : Type) (p n : Nat) (O X Y : List PZ) (k : Nat) (kk : Nat → List AV → Option R) (hk : k < n) (hn : n ≤ 4096) (hX : okL X = true) (hY : okL Y = true) : ∀ (q j : Nat) (s : RS), j + q = n → okPr s.2 = true →
    loopN (stepRI R) (q + 1) [.prs p .u64 O, .st [.int .u64 s.2.1, .int .u64 s.2.2], .sl (.prs n .u64 X), .sl (.prs n .u64 Y), .int .i64 n, .int .i64 s.1, .int .i64 k, .int .i64 j] kk =
    kk 0 [.prs p .u64 O, .st [.int .u64 (qI X Y n k q j s).2.1, .int .u64 (qI X Y n k q j s).2.2], .sl (.prs n .u64 X), .sl (.prs n .u64 Y), .int .i64 n, .int .i64 (qI X Y n k q j s).1, .int .i64 k]
  | 0, j, s, hj, _ => by
    rw [loopN]
    unfold stepRI
    simp only [show ¬ ((j : Int) < (n : Int)) by omega, decide_false, cond_false]
    rfl
  | q + 1, j, s, hj, hs0 => by
    have e1 : w64 ((j : Int) + 1) = ((j + 1 : Nat) : Int) := by rw [w64_mid (by omega) (by omega)]; omega
    have e2 : (w64 (w64 ((k : Int) + n) - j)).tmod n = ((plX k j n : Nat) : Int) := by
      rw [w64_mid (x := (k : Int) + n) (by omega) (by omega), w64_mid (x := (k : Int) + n - j) (by omega) (by omega), show (k : Int) + n - j = ((k + n - j : Nat) : Int) by omega]
      rfl
    have hx : plX k j n < n := Nat.mod_lt _ (by omega)
    have c1 : inX (j : Int) n = true := inX_at (by omega)
    have c2 : inX ((plX k j n : Nat) : Int) n = true := inX_at hx
    have c4 : ((n : Int) == 0) = false := beq_eq_false_iff_ne.2 (by omega)
    have p1 := gp_ok hX j
    have p2 := gp_ok hY (plX k j n)
    have hs : ∀ k1 k2, stepRI R [.prs p .u64 O, .st [.int .u64 s.2.1, .int .u64 s.2.2], .sl (.prs n .u64 X), .sl (.prs n .u64 Y), .int .i64 n, .int .i64 s.1, .int .i64 k, .int .i64 j] k1 k2 =
        k1 [.prs p .u64 O, .st [.int .u64 (qI1 X Y n k j s).2.1, .int .u64 (qI1 X Y n k j s).2.2], .sl (.prs n .u64 X), .sl (.prs n .u64 Y), .int .i64 n, .int .i64 (qI1 X Y n k j s).1, .int .i64 k, .int .i64 ((j + 1 : Nat) : Int)] := by
      intro k1 k2
      unfold stepRI
      simp only [decide_eq_true (show (j : Int) < (n : Int) by omega), cond_true, e1, e2, Int.toNat_natCast, c1, c2, c4, Bool.not_false, pzE, p1, p2, hs0, okPr_mul, Bool.and_self, chk]
      rfl
    rw [loopN, hs]
    exact RI_loop R p n O X Y k kk hk hn hX hY q (j + 1) _ (by omega) (okPr_add hs0 okPr_mul)
theorem qI_ok {X Y : List PZ} {n k : Nat} : ∀ (q j : Nat) (s : RS), okPr s.2 = true → okPr (qI X Y n k q j s).2 = true
  | 0, _, _, h => h
  | q + 1, j, s, h => qI_ok q (j + 1) _ (okPr_add h okPr_mul)
theorem fitRI_parts {n m : Nat} {X Y : List PZ} {k N : Int} (h : fitRI n m X Y k N = true) : (X.length = n ∧ Y.length = m ∧ m = n ∧ N = n ∧ 0 ≤ k ∧ k < n ∧ n ≤ 4096) ∧ okL X = true ∧ okL Y = true := by
  unfold fitRI at h
  simp only [stk_eq, Bool.and_eq_true, decide_eq_true_eq] at h
  exact ⟨h.1.1, h.1.2, h.2⟩
theorem go_RI (R : Type) (n : Nat) (vs : List AV) (kk : Nat → List AV → Option R) (r : R) (h : leRI.go R n vs kk = some r) : ∃ m, loopN (stepRI R) m vs kk = some r := by
  simp only [leRI] at h
  split at h
  · rename_i p O n X m Y N F k
    obtain ⟨hg, hk⟩ := chk_some h
    clear h
    obtain ⟨⟨g1, g2, g3, g4, g5, g6, g7⟩, hX, hY⟩ := fitRI_parts hg
    subst g3 g4
    obtain ⟨k, rfl⟩ : ∃ q : Nat, k = q := ⟨k.toNat, (Int.toNat_of_nonneg (by omega)).symm⟩
    refine ⟨m + 1, (RI_loop R p m O X Y k kk (by omega) g7 hX hY m 0 (F, (0, 0)) (by omega) okPr_zero).trans ?_⟩
    unfold qIk at hk
    rw [stk_eq, Int.toNat_natCast] at hk
    exact hk
  · cases h

/-! ### Plain: all answers -/
def qO (X Y : List PZ) (n : Nat) : Nat → Nat → PS → PS
  | 0, _, s => s
  | q + 1, k, s => qO X Y n q (k + 1) ((qI X Y n k n 0 (s.1, (0, 0))).1, s.2 ++ [(qI X Y n k n 0 (s.1, (0, 0))).2])
def rpR (X Y : List PZ) (n : Nat) : PS := qO X Y n n 0 (0, [])
def rpK (X Y : List PZ) (n : Nat) : PS := stk (rpR X Y n)
def fitRO (n m : Nat) (X Y : List PZ) (N : Int) : Bool := stk (decide (X.length = n ∧ Y.length = m ∧ m = n ∧ N = n ∧ n ≤ 4096)) && okL X && okL Y
def roS (R : Type) (p n m : Nat) (O X Y : List PZ) (N k : Int) (r : RS) (k1 : List AV → Option R) : Option R :=
  chk (Nat.ble ((p + 1) * 16) 140737488355328) (k1 [.prs (p + 1) .u64 (O ++ [(r.2.1, r.2.2)]), .sl (.prs n .u64 X), .sl (.prs m .u64 Y), .int .i64 N, .int .i64 r.1, .int .i64 (w64 (k + 1))])
def stepRO (R : Type) (vs : List AV) (k1 : List AV → Option R) (k2 : Nat → List AV → Option R) : Option R :=
  match vs with
  | [.prs p .u64 O, .sl (.prs n .u64 X), .sl (.prs m .u64 Y), .int .i64 N, .int .i64 F, .int .i64 k] =>
    bif decide (k < N) then chk (fitRI n m X Y k N) (roS R p n m O X Y N k (qIk X Y n k F) k1)
    else k2 0 [.prs p .u64 O, .int .i64 F]
  | _ => none
def leRO : LEnt :=
  { inn := { fuel := none, keep := [0, 1, 7, 10, 11], refs := [(9, 9, 55, .prs 0 .u64 [])] }
    out := { fuel := none, keep := [10], refs := [(9, 9, 55, .prs 0 .u64 [])] }
    ret := { fuel := none, keep := [], refs := [] }
    go := fun _ _ vs kk => match vs with
      | [.prs 0 .u64 [], .sl (.prs n .u64 X), .sl (.prs m .u64 Y), .int .i64 N, .int .i64 0, .int .i64 0] => chk (fitRO n m X Y N) (kk 0 [.prs n .u64 (rpK X Y n).2, .int .i64 (rpK X Y n).1])
      | _ => none }
theorem step_RO (R : Type) (p n m : Nat) (O X Y : List PZ) (N F k : Int) (k1 : List AV → Option R) (k2 : Nat → List AV → Option R) :
    runA (env Tryz.f10.ntmps orcRPl [(2, leRI)]) (loopOf 0 (bodyC Tryz.f10)) 0 (stateOf leRO.inn [.prs p .u64 O, .sl (.prs n .u64 X), .sl (.prs m .u64 Y), .int .i64 N, .int .i64 F, .int .i64 k]) (bodyK leRO 0 k1 k2) =
    stepRO R [.prs p .u64 O, .sl (.prs n .u64 X), .sl (.prs m .u64 Y), .int .i64 N, .int .i64 F, .int .i64 k] k1 k2 := by kernel_rfl
theorem RO_loop (R : Type) (n : Nat) (X Y : List PZ) (kk : Nat → List AV → Option R) (lX : X.length = n) (lY : Y.length = n) (hn : n ≤ 4096) (hX : okL X = true) (hY : okL Y = true) : ∀ (q k : Nat) (s : PS), k + q = n →
    loopN (stepRO R) (q + 1) [.prs k .u64 s.2, .sl (.prs n .u64 X), .sl (.prs n .u64 Y), .int .i64 n, .int .i64 s.1, .int .i64 k] kk = kk 0 [.prs n .u64 (qO X Y n q k s).2, .int .i64 (qO X Y n q k s).1]
  | 0, k, s, hk => by
    rw [loopN]
    unfold stepRO
    simp only [show ¬ ((k : Int) < (n : Int)) by omega, decide_false, cond_false]
    rw [show k = n by omega]
    rfl
  | q + 1, k, s, hk => by
    have e1 : w64 ((k : Int) + 1) = ((k + 1 : Nat) : Int) := by rw [w64_mid (by omega) (by omega)]; omega
    have c1 : fitRI n n X Y (k : Int) (n : Int) = true := by
      unfold fitRI
      rw [stk_eq, decide_eq_true ⟨lX, lY, rfl, rfl, by omega, by omega, hn⟩, hX, hY]; rfl
    have c2 : Nat.ble ((k + 1) * 16) 140737488355328 = true := Nat.ble_eq_true_of_le (by omega)
    have e2 : qIk X Y n (k : Int) s.1 = qI X Y n k n 0 (s.1, (0, 0)) := by unfold qIk; rw [stk_eq, Int.toNat_natCast]
    have hs : ∀ k1 k2, stepRO R [.prs k .u64 s.2, .sl (.prs n .u64 X), .sl (.prs n .u64 Y), .int .i64 n, .int .i64 s.1, .int .i64 k] k1 k2 =
        k1 [.prs (k + 1) .u64 (s.2 ++ [(qI X Y n k n 0 (s.1, (0, 0))).2]), .sl (.prs n .u64 X), .sl (.prs n .u64 Y), .int .i64 n, .int .i64 (qI X Y n k n 0 (s.1, (0, 0))).1, .int .i64 ((k + 1 : Nat) : Int)] := by
      intro k1 k2
      unfold stepRO roS
      simp only [decide_eq_true (show (k : Int) < (n : Int) by omega), cond_true, e1, e2, c1, c2, chk, pzE]
    rw [loopN, hs]
    exact RO_loop R n X Y kk lX lY hn hX hY q (k + 1) ((qI X Y n k n 0 (s.1, (0, 0))).1, s.2 ++ [(qI X Y n k n 0 (s.1, (0, 0))).2]) (by omega)
theorem go_RO (R : Type) (n : Nat) (vs : List AV) (kk : Nat → List AV → Option R) (r : R) (h : leRO.go R n vs kk = some r) : ∃ m, loopN (stepRO R) m vs kk = some r := by
  simp only [leRO] at h
  split at h
  · rename_i n X m Y N
    obtain ⟨hg, hk⟩ := chk_some h
    clear h
    unfold fitRO at hg
    simp only [stk_eq, Bool.and_eq_true, decide_eq_true_eq] at hg
    obtain ⟨⟨⟨g1, g2, g3, g4, g5⟩, hX⟩, hY⟩ := hg
    subst g3 g4
    refine ⟨m + 1, (RO_loop R m X Y kk g1 g2 g5 hX hY m 0 (0, []) (by omega)).trans ?_⟩
    unfold rpK rpR at hk
    rw [stk_eq] at hk
    exact hk
  · cases h

/-! ### They are the same -/
theorem or8_assoc {a b c : Int} (ha : fl8 a) (hb : fl8 b) (hc : fl8 c) : orI .u8 (orI .u8 a b) c = orI .u8 a (orI .u8 b c) := by
  obtain ⟨a, rfl⟩ : ∃ n : Nat, a = n := ⟨a.toNat, (Int.toNat_of_nonneg ha.1).symm⟩
  obtain ⟨b, rfl⟩ : ∃ n : Nat, b = n := ⟨b.toNat, (Int.toNat_of_nonneg hb.1).symm⟩
  obtain ⟨c, rfl⟩ : ∃ n : Nat, c = n := ⟨c.toNat, (Int.toNat_of_nonneg hc.1).symm⟩
  have ha : a < 256 := by have := ha.2; omega
  have hb : b < 256 := by have := hb.2; omega
  have hc : c < 256 := by have := hc.2; omega
  have h1 : a ||| b < 256 := Nat.or_lt_two_pow (n := 8) ha hb
  have h2 : b ||| c < 256 := Nat.or_lt_two_pow (n := 8) hb hc
  rw [or8_nat ha hb, or8_nat hb hc, or8_nat h1 hc, or8_nat ha h2, Nat.or_assoc]
theorem qI_pI {X Y : List PZ} {n k : Nat} : ∀ (q j : Nat) (f : Int) (O : List PZ), fl8 f → k < O.length →
    pI X Y n k q j (f, O) = ((qI X Y n k q j (f, gp O k)).1, O.set k (qI X Y n k q j (f, gp O k)).2) ∧ fl8 (qI X Y n k q j (f, gp O k)).1
  | 0, j, f, O, hf, hk => by
    refine ⟨?_, hf⟩
    show (f, O) = (f, O.set k (gp O k))
    congr 1
    apply List.ext_getElem?
    intro i
    rw [List.getElem?_set]
    by_cases hi : k = i
    · subst hi
      rw [if_pos rfl, if_pos hk]
      unfold gp
      rw [List.getD_eq_getElem?_getD, List.getElem?_eq_getElem hk]
      rfl
    · rw [if_neg hi]
  | q + 1, j, f, O, hf, hk => by
    have h1 := cMulF_fl (gp X j) (gp Y (plX k j n))
    have h2 := cAddF_fl (gp O k) (cMul (gp X j) (gp Y (plX k j n)))
    obtain ⟨o1, o2⟩ := or_same hf h1
    obtain ⟨o3, o4⟩ := or_same o2 h2
    have hk2 : k < (O.set k (cAdd (gp O k) (cMul (gp X j) (gp Y (plX k j n))))).length := by rw [List.length_set]; exact hk
    have e := or8_assoc hf h1 h2
    obtain ⟨i1, i2⟩ := qI_pI (X := X) (Y := Y) (n := n) (k := k) q (j + 1) (orI .u8 (orI .u8 f (cMulF (gp X j) (gp Y (plX k j n)))) (cAddF (gp O k) (cMul (gp X j) (gp Y (plX k j n))))) (O.set k (cAdd (gp O k) (cMul (gp X j) (gp Y (plX k j n))))) o4 hk2
    rw [gp_set hk] at i1 i2
    have eR : qI X Y n k (q + 1) j (f, gp O k) = qI X Y n k q (j + 1) (orI .u8 (orI .u8 f (cMulF (gp X j) (gp Y (plX k j n)))) (cAddF (gp O k) (cMul (gp X j) (gp Y (plX k j n)))), cAdd (gp O k) (cMul (gp X j) (gp Y (plX k j n)))) := by
      show qI X Y n k q (j + 1) (orI .i64 (orI .i64 f _) _, _) = _
      rw [o1, o3]
    have eP : pI X Y n k (q + 1) j (f, O) = pI X Y n k q (j + 1) (orI .u8 (orI .u8 f (cMulF (gp X j) (gp Y (plX k j n)))) (cAddF (gp O k) (cMul (gp X j) (gp Y (plX k j n)))), O.set k (cAdd (gp O k) (cMul (gp X j) (gp Y (plX k j n))))) := by
      show pI X Y n k q (j + 1) (orI .u8 f (orI .u8 _ _), _) = _
      rw [e]
    rw [eR, eP, i1, List.set_set]
    exact ⟨rfl, i2⟩
theorem qO_pO {X Y : List PZ} {n : Nat} : ∀ (q k : Nat) (f : Int) (L : List PZ), k + q = n → L.length = k → fl8 f →
    pO X Y n q k (f, L ++ List.replicate q (0, 0)) = qO X Y n q k (f, L) ∧ fl8 (qO X Y n q k (f, L)).1
  | 0, k, f, L, _, _, hf => by
    refine ⟨?_, hf⟩
    show (f, L ++ []) = (f, L)
    rw [List.append_nil]
  | q + 1, k, f, L, hk, hl, hf => by
    have hlen : k < (L ++ List.replicate (q + 1) ((0 : Int), (0 : Int))).length := by rw [List.length_append, List.length_replicate]; omega
    obtain ⟨i1, i2⟩ := qI_pI (X := X) (Y := Y) (n := n) (k := k) n 0 f (L ++ List.replicate (q + 1) (0, 0)) hf hlen
    have hg : gp (L ++ List.replicate (q + 1) (0, 0)) k = (0, 0) := by
      unfold gp
      rw [List.getD_eq_getElem?_getD, List.getElem?_append_right (by omega), hl, Nat.sub_self]
      rfl
    rw [hg] at i1 i2
    have hset : ∀ x : PZ, (L ++ List.replicate (q + 1) (0, 0)).set k x = (L ++ [x]) ++ List.replicate q (0, 0) := fun x => by
      rw [List.set_append_right _ _ (by omega), hl, Nat.sub_self, List.append_assoc]
      rfl
    rw [hset] at i1
    obtain ⟨r1, r2⟩ := qO_pO (X := X) (Y := Y) (n := n) q (k + 1) (qI X Y n k n 0 (f, (0, 0))).1 (L ++ [(qI X Y n k n 0 (f, (0, 0))).2]) (by omega) (by rw [List.length_append, hl]; rfl) i2
    refine ⟨?_, r2⟩
    show pO X Y n q (k + 1) (pI X Y n k n 0 (f, L ++ List.replicate (q + 1) (0, 0))) = _
    rw [i1, r1]
    rfl
theorem rp_pl (X Y : List PZ) (n : Nat) : rpR X Y n = plR X Y n ∧ fl8 (plR X Y n).1 := by
  obtain ⟨h1, h2⟩ := qO_pO (X := X) (Y := Y) (n := n) n 0 0 [] (by omega) rfl ⟨by decide, by decide⟩
  rw [List.nil_append] at h1
  unfold rpR plR
  rw [h1]
  exact ⟨rfl, h2⟩

/-! ### The contract -/
def rplE (e : Int) : AV := .tup [.nils, .int .i64 0, .int .i64 e]
def sp_rPlain : List AV → Option Br
  | [.sl (.prs n .u64 X), .sl (.prs m .u64 Y)] => some (.chk (fitX n X && fitX m Y) (.br ((n : Int) == 0) (.leaf (rplE 1)) (.br (decide ((n : Int) > 4096)) (.leaf (rplE 1)) (.br ((n : Int) != m) (.leaf (rplE 11))
      (.leaf (.tup [.osl 55 (.prs n .u64 (plK X Y n).2), .int .i64 (plK X Y n).1, .int .i64 0]))))))
  | _ => none
theorem run_rPlain (n m : Nat) (X Y : List PZ) : callA (env Tryz.f10.ntmps orcRPl [(0, leRO)]) (bodyC Tryz.f10) Tryz.f10.results.toList (slots 0 [.sl (.prs n .u64 X), .sl (.prs m .u64 Y)]) some =
    (bif (n : Int) == 0 then some (rplE 1) else bif decide ((n : Int) > 4096) then some (rplE 1) else bif (n : Int) != m then some (rplE 11) else chk (fitRO n m X Y n) (some (.tup [.osl 55 (.prs n .u64 (rpK X Y n).2), .int .i64 (rpK X Y n).1, .int .i64 0]))) := by kernel_rfl
theorem ok_rPlain : EntOk Tryz.prog 10 (entB false sp_rPlain) := by
  refine contractB (orc := orcRPl) (lo := [(0, leRO)]) Tryz.func10 (orc_cons ok_rChk (orc_cons ok_r17Mul (orc_cons ok_r17Add orc_nil))) (by kernel_rfl) (by kernel_rfl) (by kernel_rfl)
    (loops_one (id := 0) (y := .loop (loopOf 0 (bodyC Tryz.f10))) (by kernel_rfl)
      (loopS (le := leRO) (orc := orcRPl) (lo' := [(2, leRI)]) (orc_cons ok_rChk (orc_cons ok_r17Mul (orc_cons ok_r17Add orc_nil))) (by kernel_rfl) rfl
        (loops_one (id := 2) (y := .loop (loopOf 2 (bodyC Tryz.f10))) (by kernel_rfl)
          (loopS (le := leRI) (orc := orcRPl) (lo' := []) (orc_cons ok_rChk (orc_cons ok_r17Mul (orc_cons ok_r17Add orc_nil))) (by kernel_rfl) rfl (loops_none (by kernel_rfl)) stepRI (fun R vs k1 k2 r h => ?_) go_RI))
        stepRO (fun R vs k1 k2 r h => ?_) go_RO)) fun args t h => ?_
  · have h0 := h
    unfold stepRI at h
    split at h
    · exact (step_RI R _ _ _ _ _ _ _ _ _ _ _ _ k1 k2).trans h0
    · cases h
  · have h0 := h
    unfold stepRO at h
    split at h
    · exact (step_RO R _ _ _ _ _ _ _ _ _ k1 k2).trans h0
    · cases h
  · unfold sp_rPlain at h
    split at h
    · rename_i n X m Y
      simp only [Option.some.injEq] at h
      subst h
      refine ⟨by kernel_rfl, .inr rfl, fun z hz => (run_rPlain n m X Y).trans ?_⟩
      simp only [Br.run] at hz
      obtain ⟨hg, hz⟩ := chk_some hz
      rw [Bool.and_eq_true] at hg
      obtain ⟨hX, hY⟩ := hg
      unfold fitX at hX hY
      simp only [stk_eq, Bool.and_eq_true, decide_eq_true_eq] at hX hY
      rw [← hz]
      by_cases h1 : (n : Int) = 0
      · rw [beq_iff_eq.2 h1]; rfl
      by_cases h2 : (n : Int) > 4096
      · rw [beq_eq_false_iff_ne.2 h1, decide_eq_true h2]; rfl
      by_cases h3 : n = m
      · subst h3
        have c2 : fitRO n n X Y n = true := by
          unfold fitRO
          rw [stk_eq, decide_eq_true ⟨hX.1, hY.1, rfl, rfl, by omega⟩, hX.2, hY.2]; rfl
        rw [beq_eq_false_iff_ne.2 h1, decide_eq_false h2, bne_self_eq_false, c2]
        unfold rpK plK
        rw [stk_eq, stk_eq, (rp_pl X Y n).1]
        rfl
      · rw [beq_eq_false_iff_ne.2 h1, decide_eq_false h2, bne_iff_ne.2 (show (n : Int) ≠ m by omega)]; rfl
    · cases h
end
end Go.Proofs.YtbakldcbaikgpaaGreatDoor
