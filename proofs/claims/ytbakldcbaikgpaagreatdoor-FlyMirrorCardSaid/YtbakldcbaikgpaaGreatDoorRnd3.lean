/- rnd: Round. Own work. -/
import Derived.Test.YtbakldcbaikgpaaGreatDoorRnd2
namespace Go.Proofs.YtbakldcbaikgpaaGreatDoor
set_option maxRecDepth 100000
noncomputable section

def orcRound : List (FuncId × Ent) := [(103, entS false sp_near), (104, entS false sp_exact), (106, entS false sp_sign), (105, entS false sp_pCopy), (107, entS false sp_wLen),
  (108, entS false sp_to), (109, entS false sp_tiny), (110, entS false sp_wShr), (111, entS false sp_over)]

def rV (m : Bool) (p f : Int) : Option AV := chk (inU p && inU ((sgnOf m : Nat) : Int)) (some (.tup [.int .u64 ((copyN p.toNat ((sgnOf m : Nat) : Int).toNat : Nat) : Int), .int .u8 f]))
def rU (m : Bool) (k : Int) (q : List Int) (n f : Int) : Option AV :=
  bif decide (n > 971) then some (.tup [.int .u64 ((overN k m + sgnOf m : Nat) : Int), .int .u8 20]) else
  bif decide ((q.getD 0 0) ≥ 4503599627370496) then rV m (u64 ((q.getD 0 0) + (shlI .u64 (u64 (w64 (n - (-1074)))) 52))) f else rV m (q.getD 0 0) f
def rT (m : Bool) (k : Int) (q : List Int) (n f : Int) : Option AV :=
  chk (okW q) (bif decide (((lenN (valW q) : Nat) : Int) > 53) then chk (okW q) (rU m k (toW (valW q / 2 ^ (1 : Int).toNat)) (w64 (n + 1)) f) else rU m k q n f)
def rN (m : Bool) (k : Int) (s : List Int) (e : Int) (r : Bool) (top n : Int) : Option AV :=
  chk (mayC s e r n) (bif inexC s e r n then chk (mayC s e r (top - 53)) (bif tinyC s e r top k m then rT m k (toW (toC s e r n k m)) n 24 else rT m k (toW (toC s e r n k m)) n 16) else rT m k (toW (toC s e r n k m)) n 0)
def rM (m : Bool) (k : Int) (s : List Int) (e : Int) (r : Bool) (top : Int) : Option AV :=
  rN m k s e r top (if (-1074) > w64 (top - 53) then (-1074) else w64 (top - 53))
def rL (m : Bool) (k : Int) (s : List Int) (e : Int) (r : Bool) : Option AV :=
  bif decide (s = [0, 0, 0, 0]) then chk (inU 0 && inU ((sgnOf m : Nat) : Int)) (some (.tup [.int .u64 ((copyN (0 : Int).toNat ((sgnOf m : Nat) : Int).toNat : Nat) : Int), .int .u8 0])) else
  chk (okW s) (rM m k s e r (w64 (e + ((lenN (valW s) : Nat) : Int))))

theorem run_round (m : Bool) (e : Int) (s : List Int) (r : Bool) (k : Int) : callA (env Tryz.f71.ntmps orcRound []) (bodyC Tryz.f71) Tryz.f71.results.toList (slots 0 [.st [.bool m, .int .i64 e, .ints 4 .u64 s, .bool r], .int .i64 k]) some =
    chk (okW s && smI (clampI 131072 e)) (rL m k (xS s r) (xE (clampI 131072 e) s r) (xR s r)) := by kernel_rfl

def pR (m : Bool) (s : List Int) (e : Int) (r : Bool) (k : Int) : Nat := stk (rndP m (nS (valW s) r) (nE e r) k)
def fR (m : Bool) (s : List Int) (e : Int) (r : Bool) (k : Int) : Nat := stk (rndF m (nS (valW s) r) (nE e r) k)

def sp_round : List AV → Option (Bool × AV)
  | [.st [.bool m, .int .i64 e, .ints 4 .u64 s, .bool r], .int .i64 k] => some (okW s, .tup [.int .u64 ((pR m s e r k : Nat) : Int), .int .u8 ((fR m s e r k : Nat) : Int)])
  | _ => none

theorem copy_sgn (p : Nat) (h : p < 9223372036854775808) (m : Bool) : copyN p (sgnOf m) = p + sgnOf m := by
  unfold copyN absN sgnN sgnOf
  rw [Nat.mod_eq_of_lt h]
  cases m <;> rfl

theorem inU_sgn (m : Bool) : inU ((sgnOf m : Nat) : Int) = true := inU_iff.2 (by unfold sgnOf; split <;> omega)

theorem rV_at (m : Bool) (p : Nat) (h : p < 9223372036854775808) (f : Int) : rV m (p : Int) f = some (.tup [.int .u64 ((p + sgnOf m : Nat) : Int), .int .u8 f]) := by
  unfold rV
  have : inU (p : Int) = true := inU_iff.2 (by omega)
  rw [this, inU_sgn, Int.toNat_natCast, Int.toNat_natCast, copy_sgn p h]
  rfl

theorem low_word (v : Nat) (h : v < 18446744073709551616) : (toW v).getD 0 0 = (v : Int) := by
  rw [wordAt (okW_toW v) 0 (by decide), valW_toW]
  congr 1
  omega

theorem shl52 (n : Nat) (h : n < 2048) : shlI .u64 (n : Int) 52 = ((n * 4503599627370496 : Nat) : Int) := by
  have := shlI_nat n 52 (by decide)
  rw [show ((52 : Nat) : Int) = 52 from rfl] at this
  rw [this, show (2 : Nat) ^ 52 = 4503599627370496 from rfl]
  congr 1
  exact Nat.mod_eq_of_lt (by omega)

theorem u64_nat {n : Nat} (h : n < 18446744073709551616) : u64 (n : Int) = n := by
  unfold u64
  rw [IntKind.wrap_u64]
  omega

theorem rU_over (m : Bool) (k : Int) (q : List Int) {n : Int} (f : Int) (h : n > 971) : rU m k q n f = some (.tup [.int .u64 ((overN k m + sgnOf m : Nat) : Int), .int .u8 20]) := by
  unfold rU
  rw [decide_eq_true h]
  rfl

theorem rU_lo (m : Bool) (q : Nat) (h1 : q < 4503599627370496) (x : Option AV) (f : Int) : (bif decide ((q : Int) ≥ 4503599627370496) then x else rV m q f) = some (.tup [.int .u64 ((q + sgnOf m : Nat) : Int), .int .u8 f]) := by
  rw [decide_eq_false (show ¬ (q : Int) ≥ 4503599627370496 by omega), cond_false, rV_at m q (by omega) f]

theorem rU_hi (m : Bool) (q N : Nat) (h1 : q < 9007199254740992) (hN : N < 2046) (f : Int) : rV m (u64 ((q : Int) + (shlI .u64 (u64 (w64 ((N : Int) - 1074 - -1074))) 52))) f = some (.tup [.int .u64 ((q + N * 4503599627370496 + sgnOf m : Nat) : Int), .int .u8 f]) := by
  rw [w64_mid (by omega) (by omega), show ((N : Int) - 1074 - -1074) = (N : Int) by omega, u64_nat (by omega), shl52 N (by omega)]
  rw [show ((q : Int) + ((N * 4503599627370496 : Nat) : Int)) = ((q + N * 4503599627370496 : Nat) : Int) by omega, u64_nat (by omega), rV_at m _ (by omega) f]

theorem rU_at (m : Bool) (k : Int) {q N : Nat} (f : Int) (h : N ≤ 2045) (hq : q < 9007199254740992) (hl : q < 4503599627370496 → N = 0) :
    rU m k (toW q) ((N : Int) - 1074) f = some (.tup [.int .u64 ((q + N * 4503599627370496 + sgnOf m : Nat) : Int), .int .u8 f]) := by
  have e1 : decide ((N : Int) - 1074 > 971) = false := decide_eq_false (by omega)
  have e2 := low_word q (by omega)
  by_cases h1 : q < 4503599627370496
  · have e3 : N * 4503599627370496 = 0 := by rw [hl h1, Nat.zero_mul]
    rw [e3, Nat.add_zero]
    have := rU_lo m q h1 (rV m (u64 ((q : Int) + (shlI .u64 (u64 (w64 ((N : Int) - 1074 - -1074))) 52))) f) f
    unfold rU
    rw [e1, e2, cond_false]
    exact this
  · have e3 : decide ((q : Int) ≥ 4503599627370496) = true := decide_eq_true (by omega)
    have := rU_hi m q N hq (by omega) f
    unfold rU
    rw [e1, e2, cond_false, e3, cond_true]
    exact this

/-- The last steps: the quotient may have one bit more. -/
theorem rT_at (m : Bool) (k : Int) {q0 N : Nat} {u : Bool} (f : Int) (h1 : N ≤ 1000000) (hq : q0 < 9007199254740992) (hl : N ≠ 0 → 4503599627370496 ≤ q0) :
    rT m k (toW (q0 + u.toNat)) ((N : Int) - 1074) f = some (.tup (if q0 + N * 4503599627370496 + u.toNat ≥ infN then [.int .u64 ((overN k m + sgnOf m : Nat) : Int), .int .u8 20] else [.int .u64 ((q0 + N * 4503599627370496 + u.toNat + sgnOf m : Nat) : Int), .int .u8 f])) := by
  have hu := Bool.toNat_le u
  generalize u.toNat = c at *
  have hv : valW (toW (q0 + c)) = q0 + c := by rw [valW_toW]; exact Nat.mod_eq_of_lt (by omega)
  unfold rT
  rw [okW_toW, hv]
  by_cases h2 : q0 + c < 9007199254740992
  · have h3 : lenN (q0 + c) ≤ 53 := lenN_le.2 h2
    have h3' : decide (((lenN (q0 + c) : Nat) : Int) > 53) = false := decide_eq_false (by omega)
    rw [h3']
    simp only [chk, cond_true, cond_false]
    by_cases h4 : (N : Int) - 1074 > 971
    · have h5 : q0 + N * 4503599627370496 + c ≥ infN := by
        have := hl (by omega)
        unfold infN
        omega
      rw [rU_over m k _ f h4, if_pos h5]
    · have h5 : ¬ q0 + N * 4503599627370496 + c ≥ infN := by unfold infN; omega
      have h6 : q0 + c + N * 4503599627370496 + sgnOf m = q0 + N * 4503599627370496 + c + sgnOf m := by omega
      rw [rU_at m k f (by omega) h2 (by omega), if_neg h5, h6]
  · have h3 : ¬ lenN (q0 + c) ≤ 53 := fun h => by have := lenN_le.1 h; omega
    have h3' : decide (((lenN (q0 + c) : Nat) : Int) > 53) = true := decide_eq_true (by omega)
    have h5 : q0 + c = 9007199254740992 := by omega
    rw [h3', h5, w64_mid (by omega) (by omega), show (N : Int) - 1074 + 1 = ((N + 1 : Nat) : Int) - 1074 by omega]
    simp only [chk, cond_true]
    have h7 : (9007199254740992 / 2 ^ (1 : Int).toNat : Nat) = 4503599627370496 := rfl
    rw [h7]
    by_cases h4 : ((N + 1 : Nat) : Int) - 1074 > 971
    · have h5 : q0 + N * 4503599627370496 + c ≥ infN := by
        unfold infN
        omega
      rw [rU_over m k _ f h4, if_pos h5]
    · have h5 : ¬ q0 + N * 4503599627370496 + c ≥ infN := by unfold infN; omega
      have h6 : 4503599627370496 + (N + 1) * 4503599627370496 + sgnOf m = q0 + N * 4503599627370496 + c + sgnOf m := by omega
      rw [rU_at m k f (by omega) (by omega) (by omega), if_neg h5, h6]

theorem x_zero {s : List Int} (hs : okW s = true) (r : Bool) : xS s r = [0, 0, 0, 0] ↔ nS (valW s) r = 0 := by
  have h0 := toW_inj (x_ok hs r) 0 (by decide)
  rw [show toW 0 = [0, 0, 0, 0] from toW_of 0 0 0 0 0 0 (by decide) (by decide) (by decide) (by decide) rfl] at h0
  rw [eq_comm, h0]
  rcases x_cases hs 0 r with h | h | h
  · rw [h.2.1, h.2.2.2]
    unfold nS
    simp
    omega
  · have := h.2.2.2.2
    rw [h.2.1, h.2.2.2.1]
    unfold nS
    simp
    intro e
    rw [← e] at this
    exact absurd this (by decide)
  · rw [h.2.2.1, h.2.2.2.2]
    unfold nS
    simp

theorem x_top {s : List Int} (hs : okW s = true) (e : Int) (r : Bool) : xE e s r + ((lenN (valW (xS s r)) : Nat) : Int) = topN (nS (valW s) r) (nE e r) := by
  have h1 := x_S hs r
  have h2 := x_E hs e r
  rcases x_cases hs e r with h | h | h
  · rw [h.1] at h1 h2
    rw [← h1, ← h2]; rfl
  · obtain ⟨g1, g2, g3, rfl, g5⟩ := h
    rw [g2, g3]
    unfold topN nS nE
    simp only [if_true]
    have : lenN (2 * valW s + 1) = lenN (valW s) + 1 := by
      have := lenN_add (m := 2 * valW s + 1) (k := 1) (by
        have : 0 < valW s := by
          rcases Nat.eq_zero_or_pos (valW s) with h | h
          · rw [h] at g5; exact absurd g5 (by decide)
          · exact h
        omega)
      rw [show (2 * valW s + 1) / 2 ^ 1 = valW s by omega] at this
      omega
    omega
  · rw [h.1] at h1 h2
    rw [← h1, ← h2]; rfl

theorem lenN_W {s : List Int} (hs : okW s = true) : lenN (valW s) ≤ 256 := lenN_le.2 (valW_lt hs)

/-- The main part: a number that is not 0. -/
theorem rM_at (m : Bool) (k : Int) {s : List Int} (hs : okW s = true) {e : Int} (he : -200000 ≤ e ∧ e ≤ 200000) (r : Bool) (hp : 0 < nS (valW s) r) :
    rM m k (xS s r) (xE e s r) (xR s r) (topN (nS (valW s) r) (nE e r)) = some (.tup [.int .u64 ((rndP m (nS (valW s) r) (nE e r) k : Nat) : Int), .int .u8 ((rndF m (nS (valW s) r) (nE e r) k : Nat) : Int)]) := by
  have hS := x_S hs r
  have hE := x_E hs e r
  have hok := x_ok hs r
  have hlW := lenN_W hok
  have ht := x_top hs e r
  have he2 : -200001 ≤ xE e s r ∧ xE e s r ≤ 200000 := by
    rcases x_cases hs e r with h | h | h
    · rw [h.2.2.1]; omega
    · rw [h.2.2.1]; omega
    · rw [h.2.2.2.1]; omega
  have hr : xR s r = true → 255 ≤ lenN (valW (xS s r)) := by
    intro hx
    rcases x_cases hs e r with h | h | h
    · rw [h.1] at hx; cases hx
    · rw [h.2.1]; exact h.2.2.2.2
    · rw [h.1] at hx; cases hx
  have hnE : nE e r - 1 ≤ xE e s r ∧ xE e s r ≤ nE e r + 1 := by
    have : nE (xE e s r) (xR s r) = xE e s r - 1 ∨ nE (xE e s r) (xR s r) = xE e s r := by unfold nE; cases xR s r <;> simp
    omega
  have hq : ∀ n, qN (nS (valW s) r) (n - nE e r) = qN (nS (valW s) r) (n - nE e r) := fun _ => rfl
  unfold rM rN inexC tinyC toC
  simp only [stk_eq]
  rw [hS, hE]
  generalize nS (valW s) r = S at *
  generalize nE e r = X at *
  generalize xE e s r = e' at *
  generalize xR s r = r' at *
  generalize xS s r = s' at *
  have hT : topN S X = X + lenN S := rfl
  rw [w64_mid (by omega) (by omega)]
  have hL : (if (-1074) > topN S X - 53 then (-1074) else topN S X - 53) = lowN S X := by unfold lowN; omega
  rw [hL]
  have g1 := low_ge S X
  have g2 : lowN S X ≤ 300000 := by unfold lowN; omega
  have m1 : mayC s' e' r' (lowN S X) = true := mayC_iff.2 ⟨hok, by omega, by omega, fun h => by have := hr h; unfold lowN; omega⟩
  have m2 : mayC s' e' r' (topN S X - 53) = true := mayC_iff.2 ⟨hok, by omega, by omega, fun h => by have := hr h; omega⟩
  have hlt := q_lt hp X
  have hge := q_ge hp X
  have hR : ∀ f : Int, rT m k (toW (toN S (lowN S X - X) k m)) (lowN S X) f = some (.tup (if rawN m S X k ≥ infN then [.int .u64 ((overN k m + sgnOf m : Nat) : Int), .int .u8 20] else [.int .u64 ((rawN m S X k + sgnOf m : Nat) : Int), .int .u8 f])) := by
    intro f
    obtain ⟨N, hN⟩ : ∃ N : Nat, lowN S X = (N : Int) - 1074 := ⟨(lowN S X + 1074).toNat, by omega⟩
    have hN2 : (lowN S X + 1074).toNat = N := by omega
    unfold toN rawN baseN
    rw [hN2]
    have := rT_at m k (q0 := qN S (lowN S X - X)) (N := N) (u := upD S (lowN S X - X) k m) f (by omega) hlt (fun h => hge (by omega))
    rw [← hN] at this
    exact this
  have hti : (if topN S X - 53 ≥ -1074 then false else if topN S X < -1022 then true else decide (lenN (toN S (topN S X - 53 - X) k m % 115792089237316195423570985008687907853269984665640564039457584007913129639936) ≤ 53)) = tinyN S X k m := by
    unfold tinyN
    have : toN S (topN S X - 53 - X) k m % 115792089237316195423570985008687907853269984665640564039457584007913129639936 = toN S (topN S X - 53 - X) k m := by
      refine Nat.mod_eq_of_lt ?_
      have h1 := lenN_q hp (topN S X - 53 - X)
      have h2 := lenN_le (v := qN S (topN S X - 53 - X)) (k := 53)
      have h3 : qN S (topN S X - 53 - X) < 2 ^ 53 := h2.1 (by omega)
      have h4 := Bool.toNat_le (upD S (topN S X - 53 - X) k m)
      unfold toN
      omega
    rw [this]
  rw [m1, m2, hti, hR, hR, hR]
  unfold rndP rndF sizeP
  have h0 : ¬ S = 0 := by omega
  rw [if_neg h0, if_neg h0]
  generalize rawN m S X k = R at *
  generalize overN k m = o
  generalize sgnOf m = g
  generalize infN = I at *
  generalize tinyN S X k m = t
  generalize inexN S (lowN S X - X) = i
  clear hR hti m1 m2 hlt hge
  by_cases hI : R ≥ I
  · simp only [if_pos hI]
    cases i <;> cases t <;> rfl
  · simp only [if_neg hI]
    cases i <;> cases t <;> rfl

theorem ok_round : EntOk Tryz.prog 71 (entS false sp_round) := by
  refine contractS (orc := orcRound) (lo := []) Tryz.func71 (orc_cons ok_near (orc_cons ok_exact (orc_cons ok_sign (orc_cons ok_pCopy (orc_cons ok_wLen (orc_cons ok_to (orc_cons ok_tiny (orc_cons ok_wShr (orc_cons ok_over orc_nil))))))))) (by kernel_rfl) (by kernel_rfl) (by kernel_rfl) (loops_none (by kernel_rfl)) fun args r h => ?_
  unfold sp_round at h
  split at h
  · rename_i m e s r k
    simp only [Option.some.injEq, Prod.mk.injEq] at h
    obtain ⟨hs, rfl⟩ := h
    refine ⟨by kernel_rfl, .inr rfl, (run_round m e s r k).trans ?_⟩
    have hl : lenN (nS (valW s) r) ≤ 300 := by
      have h1 := lenN_W hs
      have h2 : nS (valW s) r / 2 ^ 1 ≤ valW s := by
        have : nS (valW s) r ≤ 2 * valW s + 1 := by unfold nS; split <;> omega
        omega
      have h3 := lenN_mono h2
      rw [lenN_div] at h3
      omega
    obtain ⟨c1, c2⟩ := rnd_clamp hl (c := 131072) (by decide) e k m r
    unfold pR fR
    rw [stk_eq, stk_eq]
    unfold rndP
    rw [← c1, ← c2]
    have hc : -131072 ≤ clampI 131072 e ∧ clampI 131072 e ≤ 131072 := by unfold clampI; omega
    generalize clampI 131072 e = e' at *
    rw [hs, smI_iff.2 (by omega)]
    unfold rL
    by_cases h0 : nS (valW s) r = 0
    · rw [decide_eq_true ((x_zero hs r).2 h0), h0]
      have e1 : sizeP m 0 (nE e' r) k = 0 := if_pos rfl
      have e2 : rndF m 0 (nE e' r) k = 0 := if_pos rfl
      rw [e1, e2, inU_zero, inU_sgn]
      cases m <;> rfl
    · rw [decide_eq_false (fun h => h0 ((x_zero hs r).1 h)), x_ok hs r]
      have hn := x_top hs e' r
      have hlW := lenN_W (x_ok hs r)
      have he2 : -200001 ≤ xE e' s r ∧ xE e' s r ≤ 200000 := by
        rcases x_cases hs e' r with h | h | h
        · rw [h.2.2.1]; omega
        · rw [h.2.2.1]; omega
        · rw [h.2.2.2.1]; omega
      rw [w64_mid (by omega) (by omega), hn]
      have := rM_at m k hs (e := e') (by omega) r (by omega)
      unfold rndP at this
      simp only [chk, Bool.and_self, cond_true, cond_false]
      exact this
  · cases h
end
end Go.Proofs.YtbakldcbaikgpaaGreatDoor
