/- rnd.Whole; RndWholes. Own work. -/
import Derived.Test.YtdkebceiljdgjaaRef5
namespace Go.Proofs.Ytdkebceiljdgjaa
set_option maxRecDepth 100000
noncomputable section

theorem isZeroW' {s : List Int} (hs : okW s = true) : s = [0, 0, 0, 0] ↔ valW s = 0 := by
  have h0 := toW_inj hs 0 (by decide)
  rw [show toW 0 = [0, 0, 0, 0] from toW_of 0 0 0 0 0 0 (by decide) (by decide) (by decide) (by decide) rfl] at h0
  rw [eq_comm, h0, eq_comm]

def isW (e : Int) (r : Bool) : Bool := decide (e > 0) || (decide (e = 0) && !r)
def wV (m : Bool) (s : List Int) (e : Int) (r : Bool) (k : Int) : Nat := toN (nS (valW s) r) (0 - nE (clampI 131072 e) r) k m
def wX (m : Bool) (e : Int) (s : List Int) (r : Bool) (k : Int) : Int := stk (if isW e r = true then e else if wV m s e r k = big256 then 1 else 0)
def wS (m : Bool) (e : Int) (s : List Int) (r : Bool) (k : Int) : List Int := stk (if isW e r = true then s else if wV m s e r k = big256 then toW (2 ^ 255) else toW (wV m s e r k))
def wR (e : Int) (r : Bool) : Bool := stk (if isW e r = true then r else false)
def wD (e : Int) (s : List Int) (r : Bool) : Bool := stk (if isW e r = true then false else inexN (nS (valW s) r) (0 - nE (clampI 131072 e) r))
def sp_whole4 : List AV → Option (Bool × AV)
  | [.st [.bool m, .int .i64 e, .ints 4 .u64 s, .bool r], .int .i64 k] => some (okW s, .tup [.st [.bool m, .int .i64 (wX m e s r k), .ints 4 .u64 (wS m e s r k), .bool (wR e r)], .bool (wD e s r)])
  | _ => none
def orcWhole : List (FuncId × Ent) := [(53, entS false sp_near), (54, entS false sp_exact), (71, entS false sp_cut), (72, entS false sp_up), (68, entS false sp_wOf), (73, entS false sp_wAdd), (74, entS false sp_wShl), (57, entS false sp_wLen)]
def whE (m : Bool) (x : Int) (g : List Int) (h t : Bool) : Option AV := bif h then some (.tup [.st [.bool m, .int .i64 x, .ints 4 .u64 g, .bool false], .bool true]) else some (.tup [.st [.bool m, .int .i64 x, .ints 4 .u64 g, .bool false], .bool t])
def whT (m : Bool) (k : Int) (q : List Int) (h t : Bool) : Option AV :=
  bif stk (upN k m ((andI .u64 (q.getD 0 0) 1) == 1) h t) then chk (inU 1) (chk (okW q && okW (toW (1 : Int).toNat)) (bif decide (big256 ≤ valW q + valW (toW (1 : Int).toNat)) then chk (inU 1) (chk (okW (toW (1 : Int).toNat)) (whE m 1 (toW (valW (toW (1 : Int).toNat) * 2 ^ (255 : Int).toNat)) h t)) else whE m 0 (toW (valW q + valW (toW (1 : Int).toNat))) h t)) else whE m 0 q h t
def whC (m : Bool) (k : Int) (s : List Int) (e : Int) (r : Bool) : Option AV := chk (mayC s e r 0) (whT m k (toW (qC s e r 0)) (halfC s e r 0) (restC s e r 0))
def whZ (m : Bool) (k : Int) (s : List Int) (e : Int) (r : Bool) : Option AV :=
  bif decide (s = [0, 0, 0, 0]) then bif !r then some (.tup [.st [.bool m, .int .i64 0, .ints 4 .u64 [0, 0, 0, 0], .bool false], .bool false]) else whC m k s e r else whC m k s e r
def whN (m : Bool) (k : Int) (s : List Int) (e : Int) (r : Bool) : Option AV :=
  bif decide (e < 0) then chk (okW s && smI e) (whZ m k (xS s r) (xE e s r) (xR s r)) else chk (okW s) (bif decide (((lenN (valW s) : Nat) : Int) ≤ 254) then chk (okW s && smI e) (whZ m k (xS s r) (xE e s r) (xR s r)) else whZ m k s e r)
def whI (m : Bool) (e : Int) (s : List Int) (r : Bool) : Option AV := some (.tup [.st [.bool m, .int .i64 e, .ints 4 .u64 s, .bool r], .bool false])
theorem run_whole4 (m : Bool) (e : Int) (s : List Int) (r : Bool) (k : Int) : callA (env Try.f30.ntmps orcWhole []) (bodyC Try.f30) Try.f30.results.toList (slots 0 [.st [.bool m, .int .i64 e, .ints 4 .u64 s, .bool r], .int .i64 k]) some =
    bif decide (e > 0) then whI m e s r else bif e == 0 then bif !r then whI m e s r else whN m k s (clampI 131072 e) r else whN m k s (clampI 131072 e) r := by kernel_rfl

theorem whE_at (m : Bool) (x : Int) (g : List Int) (h t : Bool) : whE m x g h t = some (.tup [.st [.bool m, .int .i64 x, .ints 4 .u64 g, .bool false], .bool (h || t)]) := by unfold whE; cases h <;> rfl

theorem whT_at (m : Bool) (k : Int) {q : Nat} (hq : q < big256) (h t : Bool) : whT m k (toW q) h t = some (.tup [.st [.bool m, .int .i64 (if q + (upN k m (decide (q % 2 = 1)) h t).toNat = big256 then 1 else 0), .ints 4 .u64 (if q + (upN k m (decide (q % 2 = 1)) h t).toNat = big256 then toW (2 ^ 255) else toW (q + (upN k m (decide (q % 2 = 1)) h t).toNat)), .bool false], .bool (h || t)]) := by
  unfold whT
  have hv : valW (toW q) = q := by rw [valW_toW]; exact Nat.mod_eq_of_lt hq
  have h1 : valW (toW (1 : Int).toNat) = 1 := by rw [valW_toW]; rfl
  rw [low_odd, stk_eq, okW_toW, okW_toW, inU_one, hv, h1, whE_at, whE_at, whE_at]
  generalize upN k m (decide (q % 2 = 1)) h t = u
  cases u with
  | false =>
    have e : q + (false).toNat = q := rfl
    rw [e, if_neg (show ¬ q = big256 by omega), if_neg (show ¬ q = big256 by omega)]
    rfl
  | true =>
    have e : q + (true).toNat = q + 1 := rfl
    have e2 : 1 * 2 ^ (255 : Int).toNat = 2 ^ 255 := Nat.one_mul _
    rw [e, e2]
    by_cases c : big256 ≤ q + 1
    · rw [decide_eq_true c, if_pos (show q + 1 = big256 by omega), if_pos (show q + 1 = big256 by omega)]
      rfl
    · rw [decide_eq_false c, if_neg (show ¬ q + 1 = big256 by omega), if_neg (show ¬ q + 1 = big256 by omega)]
      rfl

/-- A cut at 0 of a number that has no whole twos. -/
theorem whC_at (m : Bool) (k : Int) {s : List Int} (hs : okW s = true) {e : Int} (he : -200000 ≤ e ∧ e ≤ 0) {r : Bool} (hr : r = true → 255 ≤ lenN (valW s)) : whC m k s e r = some (.tup [.st [.bool m, .int .i64 (if toN (nS (valW s) r) (0 - nE e r) k m = big256 then 1 else 0), .ints 4 .u64 (if toN (nS (valW s) r) (0 - nE e r) k m = big256 then toW (2 ^ 255) else toW (toN (nS (valW s) r) (0 - nE e r) k m)), .bool false], .bool (inexN (nS (valW s) r) (0 - nE e r))]) := by
  have hm : mayC s e r 0 = true := mayC_iff.2 ⟨hs, by omega, by omega, fun _ => he.2⟩
  have hd : 0 ≤ 0 - nE e r := by unfold nE; split <;> omega
  have hq : qN (nS (valW s) r) (0 - nE e r) < big256 := by
    have hv := valW_lt hs
    cases r with
    | false =>
      rw [qN_pos hd]
      exact Nat.lt_of_le_of_lt (Nat.div_le_self _ _) hv
    | true =>
      have e1 : 0 - nE e true = -e + 1 := by show 0 - (e - 1) = -e + 1; omega
      have e2 : nS (valW s) true = 2 * valW s + 1 := rfl
      rw [e1, e2, more_q _ (by omega)]
      exact Nat.lt_of_le_of_lt (Nat.div_le_self _ _) hv
  unfold whC qC halfC restC
  rw [hm, stk_eq, stk_eq, whT_at m k hq]
  rfl

theorem xS_ne {s : List Int} (_hs : okW s = true) {r : Bool} (h : xR s r = true) : 255 ≤ lenN (valW (xS s r)) := by
  rcases x_cases _hs 0 r with g | g | g
  · rw [g.1] at h; cases h
  · rw [g.2.1]; exact g.2.2.2.2
  · rw [g.1] at h; cases h

theorem to_zero (d k : Int) (m : Bool) : toN 0 d k m = 0 ∧ inexN 0 d = false := by
  have hi : inexN 0 d = false := by
    unfold inexN halfN restN
    rw [Nat.zero_div, Nat.zero_mod]
    simp
  refine ⟨?_, hi⟩
  unfold toN
  rw [up_exact hi]
  unfold qN
  rw [Nat.zero_mul, Nat.zero_div]
  rfl

theorem whZ_at (m : Bool) (k : Int) {s : List Int} (hs : okW s = true) {e : Int} (he : -200000 ≤ e ∧ e ≤ 0) {r : Bool} (hr : r = true → 255 ≤ lenN (valW s)) : whZ m k s e r = some (.tup [.st [.bool m, .int .i64 (if toN (nS (valW s) r) (0 - nE e r) k m = big256 then 1 else 0), .ints 4 .u64 (if toN (nS (valW s) r) (0 - nE e r) k m = big256 then toW (2 ^ 255) else toW (toN (nS (valW s) r) (0 - nE e r) k m)), .bool false], .bool (inexN (nS (valW s) r) (0 - nE e r))]) := by
  have hc := whC_at m k hs he hr
  unfold whZ
  rw [hc]
  by_cases h0 : s = [0, 0, 0, 0]
  · rw [decide_eq_true h0]
    cases r with
    | true => rfl
    | false =>
      have h1 := (isZeroW' hs).1 h0
      have e1 : nS (valW s) false = 0 := h1
      obtain ⟨t1, t2⟩ := to_zero (0 - nE e false) k m
      rw [e1, t1, t2, if_neg (show ¬ 0 = big256 by decide), if_neg (show ¬ 0 = big256 by decide)]
      have z : toW 0 = [0, 0, 0, 0] := toW_of 0 0 0 0 0 0 (by decide) (by decide) (by decide) (by decide) rfl
      rw [z]
      rfl
  · rw [decide_eq_false h0]
    rfl

theorem x_rng {s : List Int} (hs : okW s = true) {e : Int} (r : Bool) (he : -131072 ≤ e ∧ e ≤ 0) : -200000 ≤ xE e s r ∧ xE e s r ≤ 0 := by
  rcases x_cases hs e r with g | g | g
  · rw [g.2.2.1]; omega
  · rw [g.2.2.1]; omega
  · rw [g.2.2.2.1]; omega

theorem whN_at (m : Bool) (k : Int) {s : List Int} (hs : okW s = true) {e : Int} (he : -131072 ≤ e ∧ e ≤ 0) {r : Bool} : whN m k s e r = some (.tup [.st [.bool m, .int .i64 (if toN (nS (valW s) r) (0 - nE e r) k m = big256 then 1 else 0), .ints 4 .u64 (if toN (nS (valW s) r) (0 - nE e r) k m = big256 then toW (2 ^ 255) else toW (toN (nS (valW s) r) (0 - nE e r) k m)), .bool false], .bool (inexN (nS (valW s) r) (0 - nE e r))]) := by
  have hx := whZ_at m k (x_ok hs r) (x_rng hs r he) (fun h => xS_ne hs h)
  rw [x_S hs r, x_E hs e r] at hx
  unfold whN
  rw [hx, hs, smI_iff.2 (by omega)]
  by_cases c1 : e < 0
  · rw [decide_eq_true c1]; rfl
  · rw [decide_eq_false c1]
    by_cases c2 : ((lenN (valW s) : Nat) : Int) ≤ 254
    · rw [decide_eq_true c2]; rfl
    · have hz := whZ_at m k hs (e := e) (by omega) (r := r) (fun _ => by omega)
      rw [decide_eq_false c2, hz]
      rfl

theorem ok_whole4 : EntOk Try.prog 30 (entS false sp_whole4) := by
  refine contractS (orc := orcWhole) (lo := []) Try.func30 (orc_cons ok_near (orc_cons ok_exact (orc_cons ok_cut (orc_cons ok_up (orc_cons ok_wOf (orc_cons ok_wAdd (orc_cons ok_wShl (orc_cons ok_wLen orc_nil)))))))) (by kernel_rfl) (by kernel_rfl) (by kernel_rfl) (loops_none (by kernel_rfl)) fun args r h => ?_
  unfold sp_whole4 at h
  split at h
  · rename_i m e s r k
    simp only [Option.some.injEq, Prod.mk.injEq] at h
    obtain ⟨hs, rfl⟩ := h
    refine ⟨by kernel_rfl, .inr rfl, (run_whole4 m e s r k).trans ?_⟩
    unfold wX wS wR wD wV
    rw [stk_eq, stk_eq, stk_eq, stk_eq]
    by_cases h1 : e > 0
    · have hw : isW e r = true := by unfold isW; rw [decide_eq_true h1]; rfl
      rw [decide_eq_true h1, if_pos hw, if_pos hw, if_pos hw, if_pos hw]
      rfl
    · rw [decide_eq_false h1]
      have hn := whN_at m k hs (e := clampI 131072 e) (by unfold clampI; omega) (r := r)
      by_cases h2 : e = 0
      · cases r with
        | false =>
          have hw : isW e false = true := by unfold isW; rw [decide_eq_true h2]; simp
          rw [beq_iff_eq.2 h2, if_pos hw, if_pos hw, if_pos hw, if_pos hw]
          rfl
        | true =>
          have hw : ¬ isW e true = true := by unfold isW; rw [decide_eq_false h1]; simp
          rw [beq_iff_eq.2 h2, if_neg hw, if_neg hw, if_neg hw, if_neg hw, hn]
          rfl
      · have hw : ¬ isW e r = true := by unfold isW; rw [decide_eq_false h1, decide_eq_false h2]; simp
        rw [beq_eq_false_iff_ne.2 h2, if_neg hw, if_neg hw, if_neg hw, if_neg hw, hn]
        rfl
  · cases h

/-! ### RndWholes -/
def orcWholes : List (FuncId × Ent) := [(23, entS false sp_give), (30, entS false sp_whole4), (26, entS false sp_true), (25, entS true sp_of4), (31, entS true sp_to4), (29, entS true sp_shl), (28, entS false sp_dCmp)]
def wlT (b : Bool) (t : Option AV) : Option AV := bif b then t else some (.bool false)
def wlE (m : Bool) (e : Int) (s : List Int) (r : Bool) (x : Int) (g : List Int) (q d : Bool) : Option AV := wlT ((m == m) && ((x == e) && (decide (g = s) && ((q == r) && true)))) (wlT (!d) (some (.bool true)))
def wlN (m : Bool) (e : Int) (s : List Int) (r : Bool) (x : Int) (g : List Int) (q d : Bool) (k : Int) : Option AV :=
  chk (okW s) (chk (mayTo (oE e r) (dgl (oS s r)) (dg (oS s r)) 0) (chk (okW g) (wlT (m == m) (wlT (!q) (wlT (decide (x ≥ 0)) (wlT (decide (x ≤ 1))
    (chk (mayS (dgl (oS g q)) (dg (oS g q)) (oE x q)) (chk (mayC2 (dgl (valD (dg (oS g q)) * 2 ^ (oE x q).toNat)) (dg (valD (dg (oS g q)) * 2 ^ (oE x q).toNat)) (dgl (rQ m (oE e r) (dg (oS s r)) 0 k)) (dg (rQ m (oE e r) (dg (oS s r)) 0 k)))
      (wlT (cmpD (dg (valD (dg (oS g q)) * 2 ^ (oE x q).toNat)) (dg (rQ m (oE e r) (dg (oS s r)) 0 k)) == 0) (wlT (d == rI (oE e r) (dg (oS s r)) 0) (some (.bool true))))))))))))
def wlM (m : Bool) (e : Int) (s : List Int) (r : Bool) (x : Int) (g : List Int) (q d : Bool) (k : Int) : Option AV :=
  bif decide (k < 0) then wlN m e s r x g q d 0 else bif decide (k > 4) then wlN m e s r x g q d 0 else wlN m e s r x g q d k
def wlA (m : Bool) (e : Int) (s : List Int) (r : Bool) (x : Int) (g : List Int) (q d : Bool) (k : Int) : Option AV :=
  bif decide (e > 0) then wlE m e s r x g q d else bif e == 0 then bif !r then wlE m e s r x g q d else wlM m e s r x g q d k else wlM m e s r x g q d k
theorem run_wholes4 (m : Bool) (e : Int) (s : List Int) (r : Bool) (k : Int) : callA (env Try.f8.ntmps orcWholes []) (bodyC Try.f8) Try.f8.results.toList (slots 0 [.st [.bool m, .int .i64 e, .ints 4 .u64 s, .bool r], .int .i64 k]) some =
    chk (okW s) (wlA m e s r (wX m e s r k) (wS m e s r k) (wR e r) (wD e s r) k) := by kernel_rfl
theorem to_far {S : Nat} {d d' : Int} (h : ((lenN S : Nat) : Int) < d) (h' : ((lenN S : Nat) : Int) < d') (k : Int) (m : Bool) : toN S d k m = toN S d' k m ∧ inexN S d = inexN S d' := by
  by_cases h0 : S = 0
  · subst h0
    rw [(to_zero d k m).1, (to_zero d k m).2, (to_zero d' k m).1, (to_zero d' k m).2]
    exact ⟨rfl, rfl⟩
  · have hp : 0 < S := by omega
    obtain ⟨a1, a2, a3⟩ := far_lo_q hp (x := -d) (n := 0) (by unfold topN; omega)
    obtain ⟨b1, b2, b3⟩ := far_lo_q hp (x := -d') (n := 0) (by unfold topN; omega)
    rw [show 0 - -d = d by omega] at a1 a2 a3
    rw [show 0 - -d' = d' by omega] at b1 b2 b3
    unfold toN upD inexN
    rw [a1, a2, a3, b1, b2, b3]
    exact ⟨rfl, rfl⟩

theorem up_out {k : Int} (h : k < 0 ∨ k > 4) (m odd half rest : Bool) : upN k m odd half rest = upN 0 m odd half rest := by
  unfold upN
  rw [if_neg (show ¬ k = 2 by omega), if_neg (show ¬ k = 3 by omega), if_neg (show ¬ k = 4 by omega), if_neg (show ¬ k = 1 by omega)]
  rfl
theorem to_out {k : Int} (h : k < 0 ∨ k > 4) (S : Nat) (d : Int) (m : Bool) : toN S d k m = toN S d 0 m := by
  unfold toN upD
  rw [up_out h]

theorem to_clamp {S : Nat} (hS : lenN S ≤ 300) {e : Int} (he : e ≤ 0) (r : Bool) (k : Int) (m : Bool) :
    toN S (0 - nE (clampI 131072 e) r) k m = toN S (0 - nE (clampI 200000 e) r) k m ∧ inexN S (0 - nE (clampI 131072 e) r) = inexN S (0 - nE (clampI 200000 e) r) := by
  have hn : ∀ x : Int, x - 1 ≤ nE x r ∧ nE x r ≤ x := fun x => by unfold nE; split <;> omega
  by_cases h1 : -131072 ≤ e
  · rw [show clampI 131072 e = e by unfold clampI; omega, show clampI 200000 e = e by unfold clampI; omega]
    exact ⟨rfl, rfl⟩
  · have c1 : clampI 131072 e = -131072 := by unfold clampI; omega
    have c2 : clampI 200000 e ≤ -131072 := by unfold clampI; omega
    have n1 := hn (clampI 131072 e)
    have n2 := hn (clampI 200000 e)
    exact to_far (by omega) (by omega) k m

theorem wV_le (m : Bool) {s : List Int} (hs : okW s = true) {e : Int} (he : e ≤ 0) (r : Bool) (k : Int) : wV m s e r k ≤ big256 := by
  have hc : clampI 131072 e ≤ 0 := by unfold clampI; omega
  unfold wV
  generalize clampI 131072 e = x at *
  have hv := valW_lt hs
  have hq : qN (nS (valW s) r) (0 - nE x r) < big256 := by
    cases r with
    | false =>
      rw [qN_pos (show 0 ≤ 0 - nE x false by show 0 ≤ 0 - x; omega)]
      exact Nat.lt_of_le_of_lt (Nat.div_le_self _ _) hv
    | true =>
      have e1 : 0 - nE x true = -x + 1 := by show 0 - (x - 1) = -x + 1; omega
      have e2 : nS (valW s) true = 2 * valW s + 1 := rfl
      rw [e1, e2, more_q _ (by omega)]
      exact Nat.lt_of_le_of_lt (Nat.div_le_self _ _) hv
  have := Bool.toNat_le (upD (nS (valW s) r) (0 - nE x r) k m)
  unfold toN
  omega

theorem oE_le (e : Int) (r : Bool) : -200001 ≤ oE e r ∧ oE e r ≤ 200000 := by
  unfold oE
  rw [stk_eq]
  unfold nE clampI
  split <;> omega

theorem cmp_eq0 (a b : Nat) (h : a = b) : (cmpN a b == 0) = true := by
  subst h
  unfold cmpN
  rw [if_neg (Nat.lt_irrefl _), if_neg (Nat.lt_irrefl _)]
  rfl

/-- The whole number answers as the document's rounding does. -/
theorem wlN_at (m : Bool) {e : Int} (he : e ≤ 0) {s : List Int} (hs : okW s = true) (r : Bool) (k k' : Int) (hk : ∀ S d, toN S d k m = toN S d k' m) (V : Nat) (hV : V = wV m s e r k) {x : Int} {g : List Int} {d : Bool} (hx : x = if V = big256 then 1 else 0) (hg : g = if V = big256 then toW (2 ^ 255) else toW V) (hd : d = inexN (nS (valW s) r) (0 - nE (clampI 131072 e) r)) :
    wlN m e s r x g false d k' = some (.bool true) := by
  have hle : V ≤ big256 := by rw [hV]; exact wV_le m hs he r k
  have lS := lenN_nS hs r
  obtain ⟨c1, c2⟩ := to_clamp lS he r k m
  have hq : rQ m (oE e r) (dg (oS s r)) 0 k' = V := by
    unfold rQ oE oS
    rw [stk_eq, stk_eq, stk_eq, val_dg, hV]
    unfold wV
    rw [c1, hk]
  have hi : rI (oE e r) (dg (oS s r)) 0 = d := by
    unfold rI oE oS
    rw [stk_eq, stk_eq, stk_eq, val_dg, hd, c2]
  have hoS : lenN (oS s r) ≤ 300 := by unfold oS; rw [stk_eq]; exact lS
  have hoE := oE_le e r
  have g1 : mayTo (oE e r) (dgl (oS s r)) (dg (oS s r)) 0 = true := mayTo_iff.2 ⟨mayD_dg (by omega), by rw [val_dg]; omega, by omega, by omega⟩
  have hgo : okW g = true := by
    rw [hg]
    split <;> exact okW_toW _
  have hx01 : 0 ≤ x ∧ x ≤ 1 := by rw [hx]; split <;> omega
  have hox : oE x false = x := by
    unfold oE
    rw [stk_eq]
    show clampI 200000 x = x
    unfold clampI
    omega
  have hog : oS g false = valW g := by unfold oS; rw [stk_eq]; rfl
  have hlg : lenN (valW g) ≤ 300 := by
    have := lenN_nS hgo false
    exact this
  have hval : valW g * 2 ^ x.toNat = V := by
    rw [hg, hx]
    by_cases hb : V = big256
    · rw [if_pos hb, if_pos hb, valW_toW, Nat.mod_eq_of_lt (show 2 ^ 255 < 115792089237316195423570985008687907853269984665640564039457584007913129639936 by decide), hb]
      rfl
    · rw [if_neg hb, if_neg hb, valW_toW, Nat.mod_eq_of_lt (show V < 115792089237316195423570985008687907853269984665640564039457584007913129639936 from Nat.lt_of_le_of_ne hle hb)]
      exact Nat.mul_one V
  have hlV : lenN V ≤ 1000 := by
    have := lenN_mono hle
    have hb := lenN_shl (v := 1) (k := 256) (by decide)
    rw [lenN_one', show 1 * 2 ^ 256 = big256 from rfl] at hb
    omega
  unfold wlN wlT
  rw [hox, hog, hq, hi, val_dg, hval, hs, g1, hgo, mayS_dg (by omega) hx01.1 (by omega), mayC2_dg (show lenN V ≤ 1000000 by omega) (show lenN V ≤ 1000000 by omega), decide_eq_true (show x ≥ 0 from hx01.1), decide_eq_true hx01.2]
  have hcm : (cmpD (dg V) (dg V) == 0) = true := by
    unfold cmpD
    rw [stk_eq]
    exact cmp_eq0 _ _ rfl
  rw [hcm, beq_self_eq_true, beq_self_eq_true]
  rfl

theorem wlM_at (m : Bool) {e : Int} (he : e ≤ 0) {s : List Int} (hs : okW s = true) (r : Bool) (k : Int) (hw : ¬ isW e r = true) : wlM m e s r (wX m e s r k) (wS m e s r k) (wR e r) (wD e s r) k = some (.bool true) := by
  have e3 : wR e r = false := by unfold wR; rw [stk_eq, if_neg hw]
  have key : ∀ k' : Int, (∀ S d, toN S d k m = toN S d k' m) → wlN m e s r (wX m e s r k) (wS m e s r k) (wR e r) (wD e s r) k' = some (.bool true) := by
    intro k' hk
    rw [e3]
    exact wlN_at m he hs r k k' hk _ rfl (by unfold wX; rw [stk_eq, if_neg hw]) (by unfold wS; rw [stk_eq, if_neg hw]) (by unfold wD; rw [stk_eq, if_neg hw])
  unfold wlM
  by_cases h1 : k < 0
  · rw [decide_eq_true h1, key 0 (fun S d => to_out (.inl h1) S d m)]; rfl
  · by_cases h2 : k > 4
    · rw [decide_eq_false h1, decide_eq_true h2, key 0 (fun S d => to_out (.inr h2) S d m)]; rfl
    · rw [decide_eq_false h1, decide_eq_false h2, key k (fun _ _ => rfl)]; rfl

theorem wlE_at (m : Bool) (e : Int) (s : List Int) (r : Bool) (k : Int) (hw : isW e r = true) : wlE m e s r (wX m e s r k) (wS m e s r k) (wR e r) (wD e s r) = some (.bool true) := by
  unfold wlE wlT wX wS wR wD
  rw [stk_eq, stk_eq, stk_eq, stk_eq, if_pos hw, if_pos hw, if_pos hw, if_pos hw, beq_self_eq_true, beq_self_eq_true, beq_self_eq_true, decide_eq_true rfl]
  rfl

theorem ok_wholes4 : EntOk Try.prog 8 (entS false sp_law) := by
  refine contractS (orc := orcWholes) (lo := []) Try.func8 (orc_cons ok_give (orc_cons ok_whole4 (orc_cons ok_sure4 (orc_cons ok_of4 (orc_cons ok_to4 (orc_cons ok_shl (orc_cons ok_dCmp orc_nil))))))) (by kernel_rfl) (by kernel_rfl) (by kernel_rfl) (loops_none (by kernel_rfl)) fun args r h => ?_
  unfold sp_law at h
  split at h
  · rename_i m e s r k
    simp only [Option.some.injEq, Prod.mk.injEq] at h
    obtain ⟨hs, rfl⟩ := h
    refine ⟨by kernel_rfl, .inr rfl, (run_wholes4 m e s r k).trans ?_⟩
    rw [hs]
    unfold wlA
    by_cases h1 : e > 0
    · have hw : isW e r = true := by unfold isW; rw [decide_eq_true h1]; rfl
      rw [decide_eq_true h1, wlE_at m e s r k hw]
      rfl
    · rw [decide_eq_false h1]
      by_cases h2 : e = 0
      · cases r with
        | false =>
          have hw : isW e false = true := by unfold isW; rw [decide_eq_true h2]; simp
          rw [beq_iff_eq.2 h2, wlE_at m e s false k hw]
          rfl
        | true =>
          have hw : ¬ isW e true = true := by unfold isW; rw [decide_eq_false h1]; simp
          rw [beq_iff_eq.2 h2, wlM_at m (by omega) hs true k hw]
          rfl
      · have hw : ¬ isW e r = true := by unfold isW; rw [decide_eq_false h1, decide_eq_false h2]; simp
        rw [beq_eq_false_iff_ne.2 h2, wlM_at m (by omega) hs r k hw]
        rfl
  · cases h
end
end Go.Proofs.Ytdkebceiljdgjaa
