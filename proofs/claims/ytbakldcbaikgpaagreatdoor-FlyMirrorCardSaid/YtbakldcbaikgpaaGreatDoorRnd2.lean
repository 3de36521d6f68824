/- rnd: cut, to, tiny. Own work. -/
import Derived.Test.YtbakldcbaikgpaaGreatDoorRnd1
namespace Go.Proofs.YtbakldcbaikgpaaGreatDoor
set_option maxRecDepth 100000
noncomputable section

def qC (s : List Int) (e : Int) (r : Bool) (n : Int) : Nat := qN (nS (valW s) r) (n - nE e r)
def halfC (s : List Int) (e : Int) (r : Bool) (n : Int) : Bool := stk (halfN (nS (valW s) r) (n - nE e r))
def restC (s : List Int) (e : Int) (r : Bool) (n : Int) : Bool := stk (restN (nS (valW s) r) (n - nE e r))
def toC (s : List Int) (e : Int) (r : Bool) (n k : Int) (m : Bool) : Nat := toN (nS (valW s) r) (n - nE e r) k m
def inexC (s : List Int) (e : Int) (r : Bool) (n : Int) : Bool := stk (inexN (nS (valW s) r) (n - nE e r))
def tinyC (s : List Int) (e : Int) (r : Bool) (top k : Int) (m : Bool) : Bool := stk (if top - 53 ≥ -1074 then false else if top < -1022 then true else decide (lenN (toN (nS (valW s) r) (top - 53 - nE e r) k m % 115792089237316195423570985008687907853269984665640564039457584007913129639936) ≤ 53))
/-- May it be cut there? -/
def mayC (s : List Int) (e : Int) (r : Bool) (n : Int) : Bool := okW s && smI e && smI n && stk (!r || decide (e ≤ n))

theorem mayC_iff {s : List Int} {e : Int} {r : Bool} {n : Int} : mayC s e r n = true ↔ okW s = true ∧ (-1000000 ≤ e ∧ e ≤ 1000000) ∧ (-1000000 ≤ n ∧ n ≤ 1000000) ∧ (r = true → e ≤ n) := by
  unfold mayC
  rw [stk_eq]
  simp only [Bool.and_eq_true, smI_iff, Bool.or_eq_true, decide_eq_true_eq, Bool.not_eq_true']
  cases r <;> simp [and_assoc]

/-! ### cut -/

/-- How a cut ends. -/
def cutT (q : List Int) (h : Bool) (r : Bool) (low : List Int) : Option AV := bif r then some (.tup [.ints 4 .u64 q, .bool h, .bool true]) else some (.tup [.ints 4 .u64 q, .bool h, .bool (!decide (low = [0, 0, 0, 0]))])
def cutM (_s : List Int) (r : Bool) (d : Int) (q : List Int) (b : Int) (low : List Int) : Option AV :=
  bif b == 1 then chk (inU 1) (chk (okW (toW (1 : Int).toNat)) (chk (okW low && okW (toW (valW (toW (1 : Int).toNat) * 2 ^ (w64 (d - 1)).toNat)))
    (cutT q (b == 1) r (toW (valW low + big256 - valW (toW (valW (toW (1 : Int).toNat) * 2 ^ (w64 (d - 1)).toNat))))))) else cutT q (b == 1) r low
def cutR (s : List Int) (r : Bool) (d : Int) : Option AV :=
  bif decide (d ≤ 0) then chk (okW s) (bif d == 0 then some (.tup [.ints 4 .u64 (toW (valW s * 2 ^ (w64 (0 - d)).toNat)), .bool r, .bool false]) else some (.tup [.ints 4 .u64 (toW (valW s * 2 ^ (w64 (0 - d)).toNat)), .bool false, .bool false]))
  else chk (okW s) (chk (okW s) (bif decide (d > 1) then chk (okW (toW (valW s / 2 ^ d.toNat))) (chk (okW s && okW (toW (valW (toW (valW s / 2 ^ d.toNat)) * 2 ^ d.toNat)))
      (bif decide (d > 256) then cutM s r d (toW (valW s / 2 ^ d.toNat)) ((bitN (valW s) (w64 (d - 1)) : Nat) : Int) s
       else cutM s r d (toW (valW s / 2 ^ d.toNat)) ((bitN (valW s) (w64 (d - 1)) : Nat) : Int) (toW (valW s + big256 - valW (toW (valW (toW (valW s / 2 ^ d.toNat)) * 2 ^ d.toNat))))))
    else some (.tup [.ints 4 .u64 (toW (valW s / 2 ^ d.toNat)), .bool (((bitN (valW s) (w64 (d - 1)) : Nat) : Int) == 1), .bool r])))

def orcCut : List (FuncId × Ent) := [(139, entS false sp_wShl), (110, entS false sp_wShr), (153, entS false sp_wBit), (146, entS false sp_wSub), (114, entS false sp_wOf)]

theorem run_cut (m : Bool) (e : Int) (s : List Int) (r : Bool) (n : Int) : callA (env Tryz.f141.ntmps orcCut []) (bodyC Tryz.f141) Tryz.f141.results.toList (slots 0 [.st [.bool m, .int .i64 e, .ints 4 .u64 s, .bool r], .int .i64 n]) some =
    cutR s r (w64 (n - e)) := by kernel_rfl

def sp_cut : List AV → Option (Bool × AV)
  | [.st [.bool _, .int .i64 e, .ints 4 .u64 s, .bool r], .int .i64 n] => some (mayC s e r n, .tup [.ints 4 .u64 (toW (qC s e r n)), .bool (halfC s e r n), .bool (restC s e r n)])
  | _ => none

/-- With more of it, the whole of it is one bit longer. -/
theorem more_q (v : Nat) {d : Int} (h : 0 ≤ d) : qN (2 * v + 1) (d + 1) = v / 2 ^ d.toNat := by
  rw [qN_pos (by omega), show (d + 1).toNat = d.toNat + 1 by omega, Nat.pow_succ, Nat.mul_comm (2 ^ d.toNat), ← Nat.div_div_eq_div_mul]
  congr 1
  omega
theorem more_half (v : Nat) {d : Int} (h : 0 ≤ d) : halfN (2 * v + 1) (d + 1) = (decide (d = 0) || decide (v / 2 ^ (d.toNat - 1) % 2 = 1)) := by
  unfold halfN
  rw [decide_eq_true (show 0 < d + 1 by omega), Bool.true_and]
  by_cases h0 : d = 0
  · subst h0
    simp
  · rw [decide_eq_false h0, Bool.false_or, show (d + 1).toNat - 1 = d.toNat - 1 + 1 by omega, Nat.pow_succ, Nat.mul_comm (2 ^ (d.toNat - 1)), ← Nat.div_div_eq_div_mul, show (2 * v + 1) / 2 = v by omega]
theorem more_rest (v : Nat) {d : Int} (h : 0 ≤ d) : restN (2 * v + 1) (d + 1) = decide (0 < d) := by
  unfold restN
  rw [decide_eq_true (show 0 < d + 1 by omega), Bool.true_and]
  refine decide_eq_decide.2 ?_
  by_cases h0 : d = 0
  · subst h0
    simp
    omega
  · rw [show (d + 1).toNat - 1 = d.toNat - 1 + 1 by omega, Nat.pow_succ]
    have : (2 * v + 1) % (2 ^ (d.toNat - 1) * 2) % 2 = (2 * v + 1) % 2 := Nat.mod_mul_left_mod _ _ _
    omega

theorem zero_W {v : Nat} (h : v < 115792089237316195423570985008687907853269984665640564039457584007913129639936) : (!decide (toW v = [0, 0, 0, 0])) = decide (v ≠ 0) := by
  rw [← decide_not]
  refine decide_eq_decide.2 (not_congr ?_)
  have h0 : okW [0, 0, 0, 0] = true := by simp [okW, inU_zero]
  rw [toW_inj h0 v h]
  rfl

theorem bit_one (v : Nat) {d : Int} (h : 1 ≤ d) : (((bitN v (d - 1) : Nat) : Int) == 1) = decide (v / 2 ^ (d.toNat - 1) % 2 = 1) := by
  unfold bitN
  rw [if_neg (by omega), show (d - 1).toNat = d.toNat - 1 by omega]
  generalize v / 2 ^ (d.toNat - 1) % 2 = x
  by_cases h1 : x = 1
  · subst h1; rfl
  · rw [decide_eq_false h1]
    exact beq_eq_false_iff_ne.2 (by omega)

/-- The rest under a number's first bit. -/
theorem low_rest {v : Nat} (hv : v < 115792089237316195423570985008687907853269984665640564039457584007913129639936) {d : Nat} (_h1 : 1 < d) (_h2 : d ≤ 256) :
    v + big256 - valW (toW (valW (toW (v / 2 ^ d)) * 2 ^ d)) = v % 2 ^ d + big256 := by
  have e : v % 2 ^ d + v / 2 ^ d * 2 ^ d = v := by
    have := Nat.mod_add_div v (2 ^ d)
    rw [Nat.mul_comm] at this
    exact this
  have l1 : v / 2 ^ d ≤ v := Nat.div_le_self _ _
  have l2 : v / 2 ^ d * 2 ^ d ≤ v := Nat.div_mul_le_self _ _
  rw [valW_toW, valW_toW, Nat.mod_eq_of_lt (Nat.lt_of_le_of_lt l1 hv), Nat.mod_eq_of_lt (Nat.lt_of_le_of_lt l2 hv)]
  generalize v % 2 ^ d = a at *
  generalize v / 2 ^ d * 2 ^ d = b at *
  omega

theorem toW_big (v : Nat) : toW (v + big256) = toW v := by
  rw [← toW_mod (v + big256), ← toW_mod v]
  unfold big256
  rw [Nat.add_mod_right]

theorem low_half {v : Nat} {d : Nat} (h1 : 1 < d) (h2 : d ≤ 256) (hb : v / 2 ^ (d - 1) % 2 = 1) :
    valW (toW (v % 2 ^ d)) + big256 - valW (toW (valW (toW (1 : Int).toNat) * 2 ^ (d - 1))) = v % 2 ^ (d - 1) + big256 := by
  have e := left_split v d (by omega)
  rw [hb, Nat.mul_one] at e
  have p1 : 2 ^ (d - 1) < 115792089237316195423570985008687907853269984665640564039457584007913129639936 := Nat.lt_of_le_of_lt (Nat.pow_le_pow_right (by decide) (show d - 1 ≤ 255 by omega)) (by decide)
  have p2 : v % 2 ^ d < 115792089237316195423570985008687907853269984665640564039457584007913129639936 := Nat.lt_of_lt_of_le (Nat.mod_lt _ (Nat.two_pow_pos d)) (Nat.pow_le_pow_right (by decide) (show d ≤ 256 from h2))
  rw [show (1 : Int).toNat = 1 from rfl, valW_toW, valW_toW, valW_toW, Nat.mod_eq_of_lt p2, show (1 % 115792089237316195423570985008687907853269984665640564039457584007913129639936 : Nat) = 1 from rfl, Nat.one_mul, Nat.mod_eq_of_lt p1, e]
  generalize v % 2 ^ (d - 1) = a at *
  generalize 2 ^ (d - 1) = b at *
  omega

theorem cutT_more (q : List Int) (h : Bool) (low : List Int) : cutT q h true low = some (.tup [.ints 4 .u64 q, .bool h, .bool true]) := rfl

/-- Cut deep enough, it leaves a half and a rest. -/
theorem cut_deep {s : List Int} (hs : okW s = true) (r : Bool) {d : Int} (h1 : 1 < d) (h2 : d ≤ 1000000000) :
    cutR s r d = some (.tup [.ints 4 .u64 (toW (valW s / 2 ^ d.toNat)), .bool (decide (valW s / 2 ^ (d.toNat - 1) % 2 = 1)), .bool (r || decide (valW s % 2 ^ (d.toNat - 1) ≠ 0))]) := by
  have hlt := valW_lt hs
  unfold cutR cutM
  rw [decide_eq_false (show ¬ d ≤ 0 by omega), decide_eq_true (show d > 1 by omega), hs, w64_mid (x := d - 1) (by omega) (by omega), bit_one _ (by omega)]
  simp only [okW_toW, Bool.and_self, chk, cond_true, cond_false, inU_one]
  by_cases hf : d > 256
  · have hp : valW s < 2 ^ (d.toNat - 1) := Nat.lt_of_lt_of_le hlt (Nat.le_trans (by decide) (Nat.pow_le_pow_right (n := 2) (by decide) (show 256 ≤ d.toNat - 1 by omega)))
    rw [decide_eq_true hf, cond_true, Nat.div_eq_of_lt hp, Nat.mod_eq_of_lt hp]
    simp only [Nat.zero_mod, Nat.zero_ne_one, decide_false, cond_false]
    cases r with
    | true => rfl
    | false =>
      unfold cutT
      rw [cond_false, Bool.false_or]
      have := zero_W hlt
      rw [toW_valW hs] at this
      rw [this]
  · rw [decide_eq_false hf, cond_false, low_rest hlt (by omega) (by omega), toW_big, show (d - 1).toNat = d.toNat - 1 by omega]
    have p2 : valW s % 2 ^ d.toNat < 115792089237316195423570985008687907853269984665640564039457584007913129639936 := Nat.lt_of_le_of_lt (Nat.mod_le _ _) hlt
    by_cases hb : valW s / 2 ^ (d.toNat - 1) % 2 = 1
    · rw [decide_eq_true hb, cond_true, low_half (by omega) (by omega) hb, toW_big]
      cases r with
      | true => rfl
      | false =>
        unfold cutT
        rw [cond_false, Bool.false_or, zero_W (Nat.lt_of_le_of_lt (Nat.mod_le _ _) hlt)]
    · rw [decide_eq_false hb, cond_false]
      cases r with
      | true => rfl
      | false =>
        unfold cutT
        have e := left_split (valW s) d.toNat (by omega)
        rw [show valW s / 2 ^ (d.toNat - 1) % 2 = 0 by omega, Nat.mul_zero, Nat.add_zero] at e
        rw [cond_false, Bool.false_or, zero_W p2, e]

theorem ok_cut : EntOk Tryz.prog 141 (entS false sp_cut) := by
  refine contractS (orc := orcCut) (lo := []) Tryz.func141 (orc_cons ok_wShl (orc_cons ok_wShr (orc_cons ok_wBit (orc_cons ok_wSub (orc_cons ok_wOf orc_nil))))) (by kernel_rfl) (by kernel_rfl) (by kernel_rfl) (loops_none (by kernel_rfl)) fun args r h => ?_
  unfold sp_cut at h
  split at h
  · rename_i m e s r n
    simp only [Option.some.injEq, Prod.mk.injEq, mayC_iff] at h
    obtain ⟨⟨hs, ⟨e1, e2⟩, ⟨n1, n2⟩, hr⟩, rfl⟩ := h
    refine ⟨by kernel_rfl, .inr rfl, (run_cut m e s r n).trans ?_⟩
    unfold qC halfC restC
    rw [stk_eq, stk_eq, w64_mid (by omega) (by omega)]
    have hd : r = true → n - nE e r = n - e + 1 := by
      intro h
      unfold nE
      rw [if_pos h]
      omega
    have hd' : r = false → n - nE e r = n - e := by
      intro h
      unfold nE
      rw [if_neg (by simp [h])]
    have hS : r = true → nS (valW s) r = 2 * valW s + 1 := fun h => if_pos h
    have hS' : r = false → nS (valW s) r = valW s := fun h => if_neg (by simp [h])
    generalize hdd : n - e = d at *
    by_cases h0 : d ≤ 0
    · unfold cutR
      rw [decide_eq_true h0, hs, cond_true, w64_mid (by omega) (by omega), Int.zero_sub]
      cases r with
      | true =>
        have : d = 0 := by have := hr rfl; omega
        subst this
        rw [hd rfl, hS rfl, more_q _ (by omega), more_half _ (by omega), more_rest _ (by omega)]
        simp [chk]
      | false =>
        rw [hd' rfl, hS' rfl, qN_neg h0]
        unfold halfN restN
        rw [decide_eq_false (show ¬ 0 < d by omega)]
        cases (d == 0) <;> rfl
    · by_cases h1 : d = 1
      · subst h1
        unfold cutR
        rw [decide_eq_false (show ¬ (1 : Int) ≤ 0 by decide), decide_eq_false (show ¬ (1 : Int) > 1 by decide), hs, w64_mid (x := (1 : Int) - 1) (by omega) (by omega), bit_one _ (by omega)]
        simp only [chk, cond_true, cond_false]
        cases r with
        | true =>
          rw [hd rfl, hS rfl, more_q _ (by omega), more_half _ (by omega), more_rest _ (by omega)]
          rfl
        | false =>
          rw [hd' rfl, hS' rfl, qN_pos (by omega)]
          unfold halfN restN
          have : valW s % 2 ^ ((1 : Int).toNat - 1) = 0 := Nat.mod_one _
          rw [this]
          rfl
      · rw [cut_deep hs r (by omega) (by omega)]
        cases r with
        | true =>
          rw [hd rfl, hS rfl, more_q _ (by omega), more_half _ (by omega), more_rest _ (by omega), decide_eq_false (show ¬ d = 0 by omega), decide_eq_true (show 0 < d by omega), Bool.false_or]
          rfl
        | false =>
          rw [hd' rfl, hS' rfl, qN_pos (by omega)]
          unfold halfN restN
          rw [decide_eq_true (show 0 < d by omega), Bool.true_and, Bool.true_and, Bool.false_or]
  · cases h

/-! ### to -/

def orcTo : List (FuncId × Ent) := [(141, entS false sp_cut), (142, entS false sp_up), (114, entS false sp_wOf), (138, entS false sp_wAdd)]

def toT (q : List Int) (h re : Bool) : Option AV := bif h then some (.tup [.ints 4 .u64 q, .bool true]) else some (.tup [.ints 4 .u64 q, .bool re])

theorem run_to (m : Bool) (e : Int) (s : List Int) (r : Bool) (n k : Int) : callA (env Tryz.f108.ntmps orcTo []) (bodyC Tryz.f108) Tryz.f108.results.toList (slots 0 [.st [.bool m, .int .i64 e, .ints 4 .u64 s, .bool r], .int .i64 n, .int .i64 k]) some =
    chk (mayC s e r n) (bif stk (upN k m ((andI .u64 ((toW (qC s e r n)).getD 0 0) 1) == 1) (halfC s e r n) (restC s e r n)) then chk (inU 1) (chk (okW (toW (qC s e r n)) && okW (toW (1 : Int).toNat)) (toT (toW (valW (toW (qC s e r n)) + valW (toW (1 : Int).toNat))) (halfC s e r n) (restC s e r n)))
      else toT (toW (qC s e r n)) (halfC s e r n) (restC s e r n)) := by kernel_rfl

def sp_to : List AV → Option (Bool × AV)
  | [.st [.bool m, .int .i64 e, .ints 4 .u64 s, .bool r], .int .i64 n, .int .i64 k] => some (mayC s e r n, .tup [.ints 4 .u64 (toW (toC s e r n k m)), .bool (inexC s e r n)])
  | _ => none

theorem low_odd (v : Nat) : (andI .u64 ((toW v).getD 0 0) 1 == 1) = decide (v % 2 = 1) := by
  have h := wordAt (okW_toW v) 0 (by decide)
  rw [h, valW_toW, andI_one _ (Nat.mod_lt _ (by decide))]
  have : v % 115792089237316195423570985008687907853269984665640564039457584007913129639936 / 2 ^ (64 * 0) % 18446744073709551616 % 2 = v % 2 := by omega
  rw [this]
  by_cases h1 : v % 2 = 1
  · rw [h1]; rfl
  · rw [decide_eq_false h1]
    exact beq_eq_false_iff_ne.2 (by omega)

theorem toW_add (a b : Nat) : toW (valW (toW a) + valW (toW b)) = toW (a + b) := by
  rw [valW_toW, valW_toW, ← toW_mod (_ + _), ← toW_mod (a + b), ← Nat.add_mod]

theorem ok_to : EntOk Tryz.prog 108 (entS false sp_to) := by
  refine contractS (orc := orcTo) (lo := []) Tryz.func108 (orc_cons ok_cut (orc_cons ok_up (orc_cons ok_wOf (orc_cons ok_wAdd orc_nil)))) (by kernel_rfl) (by kernel_rfl) (by kernel_rfl) (loops_none (by kernel_rfl)) fun args r h => ?_
  unfold sp_to at h
  split at h
  · rename_i m e s r n k
    simp only [Option.some.injEq, Prod.mk.injEq] at h
    obtain ⟨hg, rfl⟩ := h
    refine ⟨by kernel_rfl, .inr rfl, (run_to m e s r n k).trans ?_⟩
    rw [hg, low_odd, toW_add, okW_toW, okW_toW, inU_one]
    unfold toC inexC toN upD halfC restC qC inexN
    simp only [stk_eq]
    generalize qN (nS (valW s) r) (n - nE e r) = q
    generalize halfN (nS (valW s) r) (n - nE e r) = h
    generalize restN (nS (valW s) r) (n - nE e r) = t
    generalize upN k m (decide (q % 2 = 1)) h t = u
    cases u <;> cases h <;> rfl
  · cases h

/-! ### tiny -/

def orcTiny : List (FuncId × Ent) := [(108, entS false sp_to), (107, entS false sp_wLen)]

theorem run_tiny (m : Bool) (e : Int) (s : List Int) (r : Bool) (top k : Int) : callA (env Tryz.f109.ntmps orcTiny []) (bodyC Tryz.f109) Tryz.f109.results.toList (slots 0 [.st [.bool m, .int .i64 e, .ints 4 .u64 s, .bool r], .int .i64 top, .int .i64 k]) some =
    bif decide ((w64 (top - 53)) ≥ (-1074)) then some (.bool false) else bif decide (top < (-1022)) then some (.bool true) else chk (mayC s e r (w64 (top - 53))) (chk (okW (toW (toC s e r (w64 (top - 53)) k m))) (some (.bool (decide (((lenN (valW (toW (toC s e r (w64 (top - 53)) k m))) : Nat) : Int) ≤ 53))))) := by kernel_rfl

def sp_tiny : List AV → Option (Bool × AV)
  | [.st [.bool m, .int .i64 e, .ints 4 .u64 s, .bool r], .int .i64 top, .int .i64 k] => some (mayC s e r (top - 53), .bool (tinyC s e r top k m))
  | _ => none

theorem ok_tiny : EntOk Tryz.prog 109 (entS false sp_tiny) := by
  refine contractS (orc := orcTiny) (lo := []) Tryz.func109 (orc_cons ok_to (orc_cons ok_wLen orc_nil)) (by kernel_rfl) (by kernel_rfl) (by kernel_rfl) (loops_none (by kernel_rfl)) fun args r h => ?_
  unfold sp_tiny at h
  split at h
  · rename_i m e s r top k
    simp only [Option.some.injEq, Prod.mk.injEq] at h
    obtain ⟨hg, rfl⟩ := h
    refine ⟨by kernel_rfl, .inr rfl, (run_tiny m e s r top k).trans ?_⟩
    have hg' := mayC_iff.1 hg
    obtain ⟨hs, ⟨e1, e2⟩, ⟨n1, n2⟩, hr⟩ := hg'
    rw [w64_mid (by omega) (by omega), hg, okW_toW, valW_toW]
    unfold tinyC toC
    rw [stk_eq]
    by_cases h1 : top - 53 ≥ -1074
    · rw [decide_eq_true h1, if_pos h1]; rfl
    rw [decide_eq_false h1, if_neg h1]
    by_cases h2 : top < -1022
    · rw [decide_eq_true h2, if_pos h2]; rfl
    rw [decide_eq_false h2, if_neg h2]
    generalize lenN _ = l
    have : decide ((l : Int) ≤ 53) = decide (l ≤ 53) := decide_eq_decide.2 (by omega)
    rw [this]
    rfl
  · cases h
end
end Go.Proofs.YtbakldcbaikgpaaGreatDoor
