/- tillerref04: Round; RndRounds. Own work. -/
import Derived.Test.YtbakldcbaikgpaaGreatDoorRef4
namespace Go.Proofs.YtbakldcbaikgpaaGreatDoor
set_option maxRecDepth 100000
noncomputable section
/-! ### over, signed -/
def oV (k : Int) (b : Bool) : Nat := stk (overN k b)
def sgd (p : Int) (b : Bool) : Int := stk (if b = true then u64 (p + 9223372036854775808) else p)
def sp_over4 : List AV → Option (Bool × AV)
  | [.bool b, .int .i64 k] => some (true, .int .u64 ((oV k b : Nat) : Int))
  | _ => none
def sp_signed : List AV → Option (Bool × AV)
  | [.int .u64 p, .bool b] => some (true, .int .u64 (sgd p b))
  | _ => none
def ovA : Option AV := some (.int .u64 9218868437227405311)
def ovB : Option AV := some (.int .u64 9218868437227405312)
theorem run_over4 (b : Bool) (k : Int) : callA (env Tryz.f122.ntmps [] []) (bodyC Tryz.f122) Tryz.f122.results.toList (slots 0 [.bool b, .int .i64 k]) some =
    bif k == 2 then ovA else bif k == 3 then bif b then ovA else bif k == 4 then bif !b then ovA else ovB else ovB else bif k == 4 then bif !b then ovA else ovB else ovB := by kernel_rfl
theorem run_signed (p : Int) (b : Bool) : callA (env Tryz.f120.ntmps [] []) (bodyC Tryz.f120) Tryz.f120.results.toList (slots 0 [.int .u64 p, .bool b]) some =
    bif b then some (.int .u64 (u64 (p + 9223372036854775808))) else some (.int .u64 p) := by kernel_rfl
theorem ok_over4 : EntOk Tryz.prog 122 (entS false sp_over4) := by
  refine contractS (orc := []) (lo := []) Tryz.func122 orc_nil (by kernel_rfl) (by kernel_rfl) (by kernel_rfl) (loops_none (by kernel_rfl)) fun args r h => ?_
  unfold sp_over4 at h
  split at h
  · rename_i b k
    simp only [Option.some.injEq, Prod.mk.injEq] at h
    obtain ⟨-, rfl⟩ := h
    refine ⟨by kernel_rfl, .inr rfl, (run_over4 b k).trans ?_⟩
    unfold oV overN
    rw [stk_eq]
    by_cases h2 : k = 2
    · subst h2
      rw [if_pos (.inl rfl)]
      rfl
    · by_cases h3 : k = 3
      · subst h3
        cases b
        · rw [if_neg (by simp)]; rfl
        · rw [if_pos (by simp)]; rfl
      · by_cases h4 : k = 4
        · subst h4
          cases b
          · rw [if_pos (by simp)]; rfl
          · rw [if_neg (by simp)]; rfl
        · rw [if_neg (by simp [h2, h3, h4]), beq_eq_false_iff_ne.2 h2, beq_eq_false_iff_ne.2 h3, beq_eq_false_iff_ne.2 h4]
          rfl
  · cases h
theorem ok_signed : EntOk Tryz.prog 120 (entS false sp_signed) := by
  refine contractS (orc := []) (lo := []) Tryz.func120 orc_nil (by kernel_rfl) (by kernel_rfl) (by kernel_rfl) (loops_none (by kernel_rfl)) fun args r h => ?_
  unfold sp_signed at h
  split at h
  · rename_i p b
    simp only [Option.some.injEq, Prod.mk.injEq] at h
    obtain ⟨-, rfl⟩ := h
    refine ⟨by kernel_rfl, .inr rfl, (run_signed p b).trans ?_⟩
    unfold sgd
    rw [stk_eq]
    cases b <;> rfl
  · cases h
theorem sgd_at {p : Nat} (h : p < 9223372036854775808) (m : Bool) : sgd (p : Int) m = ((p + sgnOf m : Nat) : Int) := by
  unfold sgd
  rw [stk_eq]
  cases m
  · rfl
  · rw [if_pos rfl]
    exact u64_nat (n := p + 9223372036854775808) (by omega)
/-! ### Round -/
def zL (m : Bool) (p f : Int) : Option AV := some (.tup [.int .u64 (sgd p m), .int .i64 f])
def zFin (m : Bool) (s nn f : Int) : Option AV := zL m (u64 (u64 (u64 (u64 (w64 (nn + 1075)) * 4503599627370496) + s) - 4503599627370496)) f
def zT2 (m : Bool) (k : Int) (q : Nat) (nn f : Int) : Option AV :=
  chk (mayD (dgl q) (dg q)) (bif decide (w64 (lenI (valD (dg q)) + nn) > 1024) then zL m ((oV k m : Nat) : Int) 20 else chk (mayO (dgl q) (dg q)) (bif lwI (valD (dg q)) == 9007199254740992 then zFin m 4503599627370496 (w64 (nn + 1)) f else
    bif decide (lwI (valD (dg q)) ≥ 4503599627370496) then zFin m (lwI (valD (dg q))) nn f else zL m (lwI (valD (dg q))) f))
def zT1 (m : Bool) (k e : Int) (n : Nat) (l : List Int) (top nn : Int) : Option AV :=
  chk (mayTo e n l nn) (bif rI e l nn then chk (mayTo e n l (w64 (top - 53))) (chk (mayD (dgl (rQ m e l (w64 (top - 53)) k)) (dg (rQ m e l (w64 (top - 53)) k)))
    (bif decide (w64 (w64 (lenI (valD (dg (rQ m e l (w64 (top - 53)) k))) + top) - 53) ≤ -1022) then zT2 m k (rQ m e l nn k) nn 24 else zT2 m k (rQ m e l nn k) nn 16)) else zT2 m k (rQ m e l nn k) nn 0)
def zT (m : Bool) (k e : Int) (n : Nat) (l : List Int) (top : Int) : Option AV := zT1 m k e n l top (if (-1074) > w64 (top - 53) then (-1074) else w64 (top - 53))
def zR (m : Bool) (k e : Int) (n : Nat) (l : List Int) : Option AV :=
  bif (n : Int) == 0 then zL m 0 0 else chk (mayD n l) (bif decide (w64 (e + lenI (valD l)) > 1100) then zL m ((oV k m : Nat) : Int) 20 else bif decide (w64 (e + lenI (valD l)) < -1200) then chk (inU 1) (zT m k (-1300) (dgl (1 : Int).toNat) (dg (1 : Int).toNat) (-1299)) else zT m k e n l (w64 (e + lenI (valD l))))
def orcRound4 : List (FuncId × Ent) := [(120, entS false sp_signed), (121, entS false sp_dLen), (122, entS false sp_over4), (96, entS true sp_dOf), (123, entS true sp_to4), (124, entS false sp_dLow)]
theorem run_round4 (m : Bool) (e : Int) (n : Nat) (l : List Int) (k : Int) : callA (env Tryz.f83.ntmps orcRound4 []) (bodyC Tryz.f83) Tryz.f83.results.toList (slots 0 [.st [.bool m, .int .i64 e, .sl (.ints n .u32 l)], .int .i64 k]) some =
    bif decide (k < 0) then zR m 0 e n l else bif decide (k > 4) then zR m 0 e n l else zR m k e n l := by kernel_rfl
def zP (m : Bool) (e : Int) (l : List Int) (k : Int) : Nat := stk (rndP m (valD l) e k)
def zF (m : Bool) (e : Int) (l : List Int) (k : Int) : Nat := stk (rndF m (valD l) e k)
def mayZ (e : Int) (n : Nat) (l : List Int) : Bool := mayD n l && stk (decide (lenN (valD l) ≤ 9000) && decide (-290000 ≤ e) && decide (e ≤ 290000))
def sp_round4 : List AV → Option (Bool × AV)
  | [.st [.bool m, .int .i64 e, .sl (.ints n .u32 l)], .int .i64 k] => some (mayZ e n l, .tup [.int .u64 ((zP m e l k : Nat) : Int), .int .i64 ((zF m e l k : Nat) : Int)])
  | _ => none
theorem mayZ_iff {e : Int} {n : Nat} {l : List Int} : mayZ e n l = true ↔ mayD n l = true ∧ lenN (valD l) ≤ 9000 ∧ (-290000 ≤ e ∧ e ≤ 290000) := by
  unfold mayZ
  rw [stk_eq]
  simp only [Bool.and_eq_true, decide_eq_true_eq, and_assoc]
theorem lenI_dg (q : Nat) : lenI (valD (dg q)) = ((lenN q : Nat) : Int) := by unfold lenI; rw [stk_eq, val_dg]
theorem lwI_dg {q : Nat} (h : q < 18446744073709551616) : lwI (valD (dg q)) = (q : Int) := by
  unfold lwI
  rw [stk_eq, val_dg, Nat.mod_eq_of_lt h]
theorem zFin_at (m : Bool) {s N : Nat} (f : Int) (hN : N ≤ 2046) (_hs : 4503599627370496 ≤ s) (_hs2 : s ≤ 9007199254740992) (hl : s + N * 4503599627370496 < 9223372036854775808) : zFin m (s : Int) ((N : Int) - 1074) f = some (.tup [.int .u64 ((s + N * 4503599627370496 + sgnOf m : Nat) : Int), .int .i64 f]) := by
  unfold zFin zL
  rw [w64_mid (by omega) (by omega), show (N : Int) - 1074 + 1075 = ((N + 1 : Nat) : Int) by omega, u64_nat (by omega), show ((N + 1 : Nat) : Int) * 4503599627370496 = (((N + 1) * 4503599627370496 : Nat) : Int) by omega, u64_nat (by omega),
    show (((N + 1) * 4503599627370496 : Nat) : Int) + (s : Int) = (((N + 1) * 4503599627370496 + s : Nat) : Int) by omega, u64_nat (by omega), show (((N + 1) * 4503599627370496 + s : Nat) : Int) - 4503599627370496 = ((s + N * 4503599627370496 : Nat) : Int) by omega, u64_nat (by omega), sgd_at hl]
/-- The pattern of a rounded quotient. -/
theorem zT2_at (m : Bool) (k : Int) {q0 N : Nat} {u : Bool} (f : Int) (h1 : N ≤ 700000) (hq : q0 < 9007199254740992) (hl : N ≠ 0 → 4503599627370496 ≤ q0) :
    zT2 m k (q0 + u.toNat) ((N : Int) - 1074) f = some (.tup (if q0 + N * 4503599627370496 + u.toNat ≥ infN then [.int .u64 ((overN k m + sgnOf m : Nat) : Int), .int .i64 20] else [.int .u64 ((q0 + N * 4503599627370496 + u.toNat + sgnOf m : Nat) : Int), .int .i64 f])) := by
  have hu := Bool.toNat_le u
  generalize u.toNat = c at *
  have ho : overN k m < 9223372036854775808 := by have := raw_inf_over k m; unfold infN at this; omega
  have hlen : lenN (q0 + c) ≤ 54 := lenN_le.2 (by omega)
  have hov : oV k m = overN k m := by unfold oV; rw [stk_eq]
  unfold zT2
  rw [mayD_dg (by omega), mayO_dg (by omega), lenI_dg, lwI_dg (by omega), w64_mid (x := ((lenN (q0 + c) : Nat) : Int) + ((N : Int) - 1074)) (by omega) (by omega), hov]
  have q1 : (((q0 + c : Nat) : Int) == 9007199254740992) = decide (q0 + c = 9007199254740992) := eqN _ 9007199254740992
  rw [q1]
  simp only [chk, cond_true]
  by_cases h2 : q0 + c < 9007199254740992
  · have h3 : lenN (q0 + c) ≤ 53 := lenN_le.2 h2
    rw [decide_eq_false (show ¬ q0 + c = 9007199254740992 by omega), cond_false]
    by_cases h4 : 4503599627370496 ≤ q0 + c
    · have h5 : lenN (q0 + c) = 53 := by
        have : ¬ lenN (q0 + c) ≤ 52 := fun h => by have := lenN_le.1 h; omega
        omega
      rw [h5, decide_eq_true (show ((q0 + c : Nat) : Int) ≥ 4503599627370496 by omega), cond_true]
      by_cases h6 : N > 2045
      · have h7 : q0 + N * 4503599627370496 + c ≥ infN := by unfold infN; omega
        rw [decide_eq_true (show ((53 : Nat) : Int) + ((N : Int) - 1074) > 1024 by omega), if_pos h7]
        unfold zL
        rw [sgd_at ho]
        rfl
      · have h7 : ¬ q0 + N * 4503599627370496 + c ≥ infN := by unfold infN; omega
        rw [decide_eq_false (show ¬ ((53 : Nat) : Int) + ((N : Int) - 1074) > 1024 by omega), if_neg h7, zFin_at m f (by omega) h4 (by omega) (by omega), show q0 + c + N * 4503599627370496 + sgnOf m = q0 + N * 4503599627370496 + c + sgnOf m by omega]
        rfl
    · have h5 : N = 0 := by omega
      subst h5
      have h7 : ¬ q0 + 0 * 4503599627370496 + c ≥ infN := by unfold infN; omega
      rw [decide_eq_false (show ¬ ((lenN (q0 + c) : Nat) : Int) + (((0 : Nat) : Int) - 1074) > 1024 by omega), decide_eq_false (show ¬ ((q0 + c : Nat) : Int) ≥ 4503599627370496 by omega), if_neg h7]
      unfold zL
      rw [sgd_at (show q0 + c < 9223372036854775808 by omega), Nat.zero_mul, Nat.add_zero]
      rfl
  · have h5 : q0 + c = 9007199254740992 := by omega
    have h6 : lenN (q0 + c) = 54 := by
      have : ¬ lenN (q0 + c) ≤ 53 := fun h => by have := lenN_le.1 h; omega
      omega
    rw [decide_eq_true h5, cond_true, h6, w64_mid (x := (N : Int) - 1074 + 1) (by omega) (by omega), show (N : Int) - 1074 + 1 = ((N + 1 : Nat) : Int) - 1074 by omega]
    by_cases h7 : N > 2044
    · have h8 : q0 + N * 4503599627370496 + c ≥ infN := by unfold infN; omega
      rw [decide_eq_true (show ((54 : Nat) : Int) + ((N : Int) - 1074) > 1024 by omega), if_pos h8]
      unfold zL
      rw [sgd_at ho]
      rfl
    · have h8 : ¬ q0 + N * 4503599627370496 + c ≥ infN := by unfold infN; omega
      have hz := zFin_at m (s := 4503599627370496) (N := N + 1) f (by omega) (Nat.le_refl _) (by omega) (by omega)
      rw [show ((4503599627370496 : Nat) : Int) = 4503599627370496 from rfl] at hz
      rw [decide_eq_false (show ¬ ((54 : Nat) : Int) + ((N : Int) - 1074) > 1024 by omega), if_neg h8, hz, show 4503599627370496 + (N + 1) * 4503599627370496 + sgnOf m = q0 + N * 4503599627370496 + c + sgnOf m by omega]
      rfl
/-- A number that is not 0, by the document. -/
theorem zT_at (m : Bool) (k : Int) {e : Int} {S : Nat} (hS : 0 < S) (hl : lenN S ≤ 9000) (he : -290000 ≤ e ∧ e ≤ 290000) : zT m k e (dgl S) (dg S) (topN S e) = some (.tup [.int .u64 ((rndP m S e k : Nat) : Int), .int .i64 ((rndF m S e k : Nat) : Int)]) := by
  have hT : topN S e = e + lenN S := rfl
  have hlp := lenN_pos hS
  have g1 := low_ge S e
  have g2 : lowN S e ≤ 299500 := by unfold lowN; omega
  have hL : (if (-1074) > topN S e - 53 then (-1074) else topN S e - 53) = lowN S e := by unfold lowN; omega
  have hd := mayD_dg (v := S) (by omega)
  have m1 : mayTo e (dgl S) (dg S) (lowN S e) = true := mayTo_iff.2 ⟨hd, by rw [val_dg]; exact hl, by omega, by omega⟩
  have m2 : mayTo e (dgl S) (dg S) (topN S e - 53) = true := mayTo_iff.2 ⟨hd, by rw [val_dg]; exact hl, by omega, by omega⟩
  have hI : rI e (dg S) (lowN S e) = inexN S (lowN S e - e) := by unfold rI; rw [stk_eq, val_dg]
  have hQ : ∀ j, rQ m e (dg S) j k = toN S (j - e) k m := fun j => by unfold rQ; rw [stk_eq, val_dg]
  obtain ⟨N, hN⟩ : ∃ N : Nat, lowN S e = (N : Int) - 1074 := ⟨(lowN S e + 1074).toNat, by omega⟩
  have hN2 : (lowN S e + 1074).toNat = N := by omega
  have hR : ∀ f : Int, zT2 m k (toN S (lowN S e - e) k m) (lowN S e) f = some (.tup (if rawN m S e k ≥ infN then [.int .u64 ((overN k m + sgnOf m : Nat) : Int), .int .i64 20] else [.int .u64 ((rawN m S e k + sgnOf m : Nat) : Int), .int .i64 f])) := by
    intro f
    unfold toN rawN baseN
    rw [hN2]
    have := zT2_at m k (q0 := qN S (lowN S e - e)) (N := N) (u := upD S (lowN S e - e) k m) f (by omega) (q_lt hS e) (fun h => q_ge hS e (by omega))
    rw [← hN] at this
    exact this
  have hql := lenN_q hS (topN S e - 53 - e)
  have hfl : 53 ≤ lenN (toN S (topN S e - 53 - e) k m) ∧ lenN (toN S (topN S e - 53 - e) k m) ≤ 54 := by
    have h1 : qN S (topN S e - 53 - e) < 2 ^ 53 := lenN_le.1 (by omega)
    have h2 := Bool.toNat_le (upD S (topN S e - 53 - e) k m)
    have h3 := lenN_mono (show qN S (topN S e - 53 - e) ≤ toN S (topN S e - 53 - e) k m from Nat.le_add_right _ _)
    refine ⟨by omega, lenN_le.2 ?_⟩
    unfold toN
    omega
  have hti : decide (((lenN (toN S (topN S e - 53 - e) k m) : Nat) : Int) + topN S e - 53 ≤ -1022) = tinyN S e k m := by
    unfold tinyN
    by_cases t1 : topN S e - 53 ≥ -1074
    · rw [if_pos t1]; exact decide_eq_false (by omega)
    · rw [if_neg t1]
      by_cases t2 : topN S e < -1022
      · rw [if_pos t2]; exact decide_eq_true (by omega)
      · rw [if_neg t2]; exact decide_eq_decide.2 (by omega)
  unfold zT zT1
  rw [w64_mid (x := topN S e - 53) (by omega) (by omega), hL, m1, m2, hI, hQ, hQ, mayD_dg (by omega), lenI_dg, w64_mid (x := ((lenN (toN S (topN S e - 53 - e) k m) : Nat) : Int) + topN S e) (by omega) (by omega), w64_mid (x := ((lenN (toN S (topN S e - 53 - e) k m) : Nat) : Int) + topN S e - 53) (by omega) (by omega), hti, hR, hR, hR]
  unfold rndP rndF sizeP
  have h0 : ¬ S = 0 := by omega
  rw [if_neg h0, if_neg h0]
  generalize rawN m S e k = R at *
  generalize overN k m = o at *
  generalize sgnOf m = g at *
  generalize infN = I at *
  generalize tinyN S e k m = t at *
  generalize inexN S (lowN S e - e) = i at *
  clear hR hti m1 m2 hQ hI
  by_cases hI : R ≥ I
  · simp only [if_pos hI]
    cases i <;> cases t <;> rfl
  · simp only [if_neg hI]
    cases i <;> cases t <;> rfl
theorem mode_out (m : Bool) (S : Nat) (x : Int) {k : Int} (h : k < 0 ∨ k > 4) : rndP m S x k = rndP m S x 0 ∧ rndF m S x k = rndF m S x 0 := by
  have hu : ∀ odd half rest, upN k m odd half rest = upN 0 m odd half rest := by
    intro odd half rest
    unfold upN
    rw [if_neg (show ¬ k = 2 by omega), if_neg (show ¬ k = 3 by omega), if_neg (show ¬ k = 4 by omega), if_neg (show ¬ k = 1 by omega)]
    rfl
  have ho : overN k m = overN 0 m := by
    unfold overN
    rw [if_neg (show ¬ (k = 2 ∨ (k = 3 ∧ m = true) ∨ (k = 4 ∧ m = false)) by omega)]
    rfl
  unfold rndP rndF sizeP rawN tinyN toN upD
  simp only [hu, ho, and_self]
theorem zR_at (m : Bool) (k : Int) {e : Int} {n : Nat} {l : List Int} (h : mayZ e n l = true) : zR m k e n l = some (.tup [.int .u64 ((rndP m (valD l) e k : Nat) : Int), .int .i64 ((rndF m (valD l) e k : Nat) : Int)]) := by
  obtain ⟨hd, hl, he⟩ := mayZ_iff.1 h
  obtain ⟨hn, hll⟩ := mayD_split hd
  generalize hV : valD l = S at *
  unfold zR
  rw [hV, hn, hll, (dgl_zero S).1]
  by_cases h0 : S = 0
  · have z1 : rndP m S e k = sgnOf m := by unfold rndP sizeP; rw [if_pos h0, Nat.zero_add]
    have z2 : rndF m S e k = 0 := if_pos h0
    have := sgd_at (p := 0) (by decide) m
    rw [show ((0 : Nat) : Int) = 0 from rfl, Nat.zero_add] at this
    unfold zL
    rw [decide_eq_true h0, z1, z2, this]
    rfl
  · have hp : 0 < S := by omega
    have hli : lenI S = ((lenN S : Nat) : Int) := by unfold lenI; rw [stk_eq]
    have hov : oV k m = overN k m := by unfold oV; rw [stk_eq]
    have ho : overN k m < 9223372036854775808 := by have := raw_inf_over k m; unfold infN at this; omega
    have hT : e + ((lenN S : Nat) : Int) = topN S e := rfl
    rw [decide_eq_false h0, mayD_dg (by omega), hli, w64_mid (by omega) (by omega), hT, zT_at m k hp hl he]
    by_cases c1 : topN S e > 1100
    · obtain ⟨p1, p2⟩ := far_hi hp (x := e) (by omega) k m
      unfold zL rndP
      rw [decide_eq_true c1, hov, sgd_at ho, p1, p2]
      rfl
    · rw [decide_eq_false c1]
      by_cases c2 : topN S e < -1200
      · obtain ⟨p1, p2⟩ := far_lo hp (x := e) (by omega) k m
        have t1 : topN 1 (-1300) = -1299 := by unfold topN; rw [lenN_one']; rfl
        obtain ⟨p3, p4⟩ := far_lo (S := 1) (by decide) (x := -1300) (by omega) k m
        have hz := zT_at m k (e := -1300) (S := 1) (by decide) (by rw [lenN_one']; decide) (by decide)
        rw [t1] at hz
        rw [decide_eq_true c2, show (1 : Int).toNat = 1 from rfl, hz, inU_one]
        unfold rndP
        rw [p1, p2, p3, p4]
        rfl
      · rw [decide_eq_false c2]
        rfl
theorem ok_round4 : EntOk Tryz.prog 83 (entS true sp_round4) := by
  refine contractS (orc := orcRound4) (lo := []) Tryz.func83 (orc_cons ok_signed (orc_cons ok_dLen (orc_cons ok_over4 (orc_cons ok_dOf (orc_cons ok_to4 (orc_cons ok_dLow orc_nil)))))) (by kernel_rfl) (by kernel_rfl) (by kernel_rfl) (loops_none (by kernel_rfl)) fun args r h => ?_
  unfold sp_round4 at h
  split at h
  · rename_i m e n l k
    simp only [Option.some.injEq, Prod.mk.injEq] at h
    obtain ⟨hg, rfl⟩ := h
    refine ⟨by kernel_rfl, .inl rfl, (run_round4 m e n l k).trans ?_⟩
    unfold zP zF
    rw [stk_eq, stk_eq, zR_at m 0 hg, zR_at m k hg]
    by_cases h1 : k < 0
    · obtain ⟨p1, p2⟩ := mode_out m (valD l) e (k := k) (.inl h1)
      rw [decide_eq_true h1, p1, p2]; rfl
    · by_cases h2 : k > 4
      · obtain ⟨p1, p2⟩ := mode_out m (valD l) e (k := k) (.inr h2)
        rw [decide_eq_false h1, decide_eq_true h2, p1, p2]; rfl
      · rw [decide_eq_false h1, decide_eq_false h2]; rfl
  · cases h
/-! ### RndRounds -/
end
end Go.Proofs.YtbakldcbaikgpaaGreatDoor
