/- sums: nought, aligned, beside, join. Own work. -/
import Derived.Test.YtbakldcbaikgpaaGreatDoorSums1
namespace Go.Proofs.YtbakldcbaikgpaaGreatDoor
set_option maxRecDepth 100000
noncomputable section

def sp_nought : List AV → Option (Bool × AV)
  | [.bool a, .bool b, .int .i64 k] => some (true, .st [.bool (stk (noM a b k)), .int .i64 0, .ints 4 .u64 [0, 0, 0, 0], .bool false])
  | _ => none
theorem run_nought (a b : Bool) (k : Int) : callA (env Tryz.f116.ntmps [] []) (bodyC Tryz.f116) Tryz.f116.results.toList (slots 0 [.bool a, .bool b, .int .i64 k]) some =
    bif a == b then some (.st [.bool a, .int .i64 0, .ints 4 .u64 [0, 0, 0, 0], .bool false]) else some (.st [.bool (k == 4), .int .i64 0, .ints 4 .u64 [0, 0, 0, 0], .bool false]) := by kernel_rfl
theorem ok_nought : EntOk Tryz.prog 116 (entS false sp_nought) := by
  refine contractS (orc := []) (lo := []) Tryz.func116 orc_nil (by kernel_rfl) (by kernel_rfl) (by kernel_rfl) (loops_none (by kernel_rfl)) fun args r h => ?_
  unfold sp_nought at h
  split at h
  · rename_i a b k
    simp only [Option.some.injEq, Prod.mk.injEq] at h
    obtain ⟨-, rfl⟩ := h
    refine ⟨by kernel_rfl, .inr rfl, (run_nought a b k).trans ?_⟩
    rw [stk_eq]
    have e : (k == 4) = decide (k = 4) := by
      by_cases h : k = 4
      · rw [decide_eq_true h]; exact beq_iff_eq.2 h
      · rw [decide_eq_false h]; exact beq_eq_false_iff_ne.2 h
    rw [e]
    unfold noM
    cases a <;> cases b <;> rfl
  · cases h

def rng (s : List Int) (x : Int) (t : List Int) (y : Int) : Prop := (lenN (valW s) ≤ 128 ∧ lenN (valW t) ≤ 128) ∧ (-200000 ≤ x ∧ x ≤ 200000) ∧ (-200000 ≤ y ∧ y ≤ 200000)
instance (s : List Int) (x : Int) (t : List Int) (y : Int) : Decidable (rng s x t y) := by unfold rng; infer_instance
def mayJ (s : List Int) (x : Int) (t : List Int) (y : Int) : Bool := okW s && okW t && stk (decide (rng s x t y))
def mayA (s : List Int) (x : Int) (t : List Int) (y : Int) : Bool := okW s && okW t && stk (decide (rng s x t y ∧ y ≤ x ∧ (lenN (valW s) : Int) + x - y < 250))
def mayB (s : List Int) (x : Int) (t : List Int) (y : Int) : Bool := okW s && okW t && stk (decide (rng s x t y ∧ valW s ≠ 0 ∧ 250 ≤ (lenN (valW s) : Int) + x - y))
def aJ (a : Bool) (x : Int) (s : List Int) (b : Bool) (y : Int) (t : List Int) (k : Int) : Nm := stk (alJ a x (valW s) b y (valW t) k)
def bJ (a : Bool) (x : Int) (s : List Int) (b : Bool) (y : Int) (t : List Int) : Nm := stk (bsJ a x (valW s) b y (valW t))
def jJ (a : Bool) (x : Int) (s : List Int) (b : Bool) (y : Int) (t : List Int) (k : Int) : Nm := stk (jn a x (valW s) b y (valW t) k)

theorem mayA_iff {s : List Int} {x : Int} {t : List Int} {y : Int} : mayA s x t y = true ↔ (okW s = true ∧ okW t = true) ∧ (rng s x t y ∧ y ≤ x ∧ (lenN (valW s) : Int) + x - y < 250) := by
  unfold mayA; rw [stk_eq, Bool.and_eq_true, Bool.and_eq_true, decide_eq_true_iff]
theorem mayB_iff {s : List Int} {x : Int} {t : List Int} {y : Int} : mayB s x t y = true ↔ (okW s = true ∧ okW t = true) ∧ (rng s x t y ∧ valW s ≠ 0 ∧ 250 ≤ (lenN (valW s) : Int) + x - y) := by
  unfold mayB; rw [stk_eq, Bool.and_eq_true, Bool.and_eq_true, decide_eq_true_iff]
theorem mayJ_iff {s : List Int} {x : Int} {t : List Int} {y : Int} : mayJ s x t y = true ↔ (okW s = true ∧ okW t = true) ∧ rng s x t y := by
  unfold mayJ; rw [stk_eq, Bool.and_eq_true, Bool.and_eq_true, decide_eq_true_iff]

/-! ### aligned -/
def sp_aligned : List AV → Option (Bool × AV)
  | [.st [.bool a, .int .i64 x, .ints 4 .u64 s, .bool false], .st [.bool b, .int .i64 y, .ints 4 .u64 t, .bool false], .int .i64 k] =>
    some (mayA s x t y, .st [.bool (aJ a x s b y t k).m, .int .i64 (aJ a x s b y t k).x, .ints 4 .u64 (toW (aJ a x s b y t k).s), .bool false])
  | _ => none
def orcAl : List (FuncId × Ent) := [(139, entS false sp_wShl), (138, entS false sp_wAdd), (145, entS false sp_wCmp), (116, entS false sp_nought), (146, entS false sp_wSub)]
def alT (a b : Bool) (y : Int) (v t : List Int) (k : Int) : Option AV :=
  bif a == b then chk (okW v && okW t) (some (.st [.bool b, .int .i64 y, .ints 4 .u64 (toW (valW v + valW t)), .bool false])) else chk (okW v && okW t) (bif (cmpN (valW v) (valW t)) == 0 then some (.st [.bool (stk (noM false true k)), .int .i64 0, .ints 4 .u64 [0, 0, 0, 0], .bool false]) else
    bif (cmpN (valW v) (valW t)) == 1 then chk (okW v && okW t) (some (.st [.bool a, .int .i64 y, .ints 4 .u64 (toW (valW v + big256 - valW t)), .bool false])) else chk (okW t && okW v) (some (.st [.bool b, .int .i64 y, .ints 4 .u64 (toW (valW t + big256 - valW v)), .bool false])))
theorem run_aligned (a : Bool) (x : Int) (s : List Int) (b : Bool) (y : Int) (t : List Int) (k : Int) : callA (env Tryz.f117.ntmps orcAl []) (bodyC Tryz.f117) Tryz.f117.results.toList (slots 0 [.st [.bool a, .int .i64 x, .ints 4 .u64 s, .bool false], .st [.bool b, .int .i64 y, .ints 4 .u64 t, .bool false], .int .i64 k]) some =
    chk (okW s) (alT a b y (toW (valW s * 2 ^ (w64 (x - y)).toNat)) t k) := by kernel_rfl

theorem zeroW : toW 0 = [0, 0, 0, 0] := toW_of 0 0 0 0 0 0 (by decide) (by decide) (by decide) (by decide) rfl
theorem shl_lt {S n : Nat} (h : lenN S + n ≤ 255) : S * 2 ^ n < 115792089237316195423570985008687907853269984665640564039457584007913129639936 := by
  have h1 : lenN (S * 2 ^ n) ≤ 256 := by
    rcases Nat.eq_zero_or_pos S with h0 | h0
    · subst h0; rw [Nat.zero_mul]; exact Nat.zero_le _
    · rw [lenN_shl h0]; omega
  exact lenN_le.1 h1

theorem alT_at (a b : Bool) (y : Int) {A : Nat} (hA : A < 115792089237316195423570985008687907853269984665640564039457584007913129639936) {t : List Int} (ht : okW t = true) (k : Int) :
    alT a b y (toW A) t k = some (.st [.bool (sumM a b A (valW t) k), .int .i64 (if a ≠ b ∧ A = valW t then 0 else y), .ints 4 .u64 (toW (sumS a b A (valW t))), .bool false]) := by
  have hv : valW (toW A) = A := by rw [valW_toW]; exact Nat.mod_eq_of_lt hA
  have hl := valW_lt ht
  unfold alT
  rw [hv, okW_toW, ht, stk_eq]
  have c0 : A = valW t → cmpN A (valW t) = 0 := fun h => by unfold cmpN; rw [if_neg (show ¬ A < valW t by omega), if_neg (show ¬ A > valW t by omega)]
  have c1 : valW t < A → cmpN A (valW t) = 1 := fun h => by unfold cmpN; rw [if_neg (show ¬ A < valW t by omega), if_pos h]
  have c2 : A < valW t → cmpN A (valW t) = -1 := fun h => by unfold cmpN; rw [if_pos h]
  unfold sumM sumS
  generalize valW t = T at *
  by_cases hab : a = b
  · subst hab
    simp only [beq_self_eq_true, cond_true, if_true, chk, Bool.and_self, ne_eq, not_true_eq_false, false_and, if_false]
  · rw [beq_eq_false_iff_ne.2 hab, if_neg hab, if_neg hab]
    by_cases h1 : A = T
    · rw [c0 h1, if_pos h1, if_pos (show a ≠ b ∧ A = T from ⟨hab, h1⟩), if_pos (show T ≤ A by omega), h1, Nat.sub_self, zeroW]
      unfold noM
      rfl
    · rw [if_neg h1, if_neg (show ¬ (a ≠ b ∧ A = T) from fun h => h1 h.2)]
      by_cases h2 : T < A
      · rw [c1 h2, if_pos h2, if_pos (show T ≤ A by omega), show A + big256 - T = A - T + big256 by omega, toW_big]
        rfl
      · rw [c2 (by omega), if_neg h2, if_neg (show ¬ T ≤ A by omega), show T + big256 - A = T - A + big256 by omega, toW_big]
        rfl

theorem ok_aligned : EntOk Tryz.prog 117 (entS false sp_aligned) := by
  refine contractS (orc := orcAl) (lo := []) Tryz.func117 (orc_cons ok_wShl (orc_cons ok_wAdd (orc_cons ok_wCmp (orc_cons ok_nought (orc_cons ok_wSub orc_nil))))) (by kernel_rfl) (by kernel_rfl) (by kernel_rfl) (loops_none (by kernel_rfl)) fun args r h => ?_
  unfold sp_aligned at h
  split at h
  · rename_i a x s b y t k
    simp only [Option.some.injEq, Prod.mk.injEq, mayA_iff, rng] at h
    obtain ⟨⟨⟨hs, ht⟩, ⟨⟨h1, h2⟩, ⟨h3, h4⟩, h5, h6⟩, h7, h8⟩, rfl⟩ := h
    refine ⟨by kernel_rfl, .inr rfl, (run_aligned a x s b y t k).trans ?_⟩
    rw [hs, w64_mid (by omega) (by omega), alT_at a b y (shl_lt (by omega)) ht k]
    unfold aJ
    rw [stk_eq]
    rfl
  · cases h

/-! ### beside -/
def sp_beside : List AV → Option (Bool × AV)
  | [.st [.bool a, .int .i64 x, .ints 4 .u64 s, .bool false], .st [.bool b, .int .i64 y, .ints 4 .u64 t, .bool false]] =>
    some (mayB s x t y, .st [.bool (bJ a x s b y t).m, .int .i64 (bJ a x s b y t).x, .ints 4 .u64 (toW (bJ a x s b y t).s), .bool (bJ a x s b y t).r])
  | _ => none
def orcBs : List (FuncId × Ent) := [(107, entS false sp_wLen), (110, entS false sp_wShr), (139, entS false sp_wShl), (138, entS false sp_wAdd), (146, entS false sp_wSub), (114, entS false sp_wOf)]
def bsT (a b : Bool) (x : Int) (v q : List Int) (l : Bool) : Option AV :=
  bif a == b then chk (okW v && okW q) (some (.st [.bool a, .int .i64 x, .ints 4 .u64 (toW (valW v + valW q)), .bool l])) else chk (okW v && okW q) (bif l then chk (inU 1) (chk (okW (toW (valW v + big256 - valW q)) && okW (toW (1 : Int).toNat))
    (some (.st [.bool a, .int .i64 x, .ints 4 .u64 (toW (valW (toW (valW v + big256 - valW q)) + big256 - valW (toW (1 : Int).toNat))), .bool l]))) else some (.st [.bool a, .int .i64 x, .ints 4 .u64 (toW (valW v + big256 - valW q)), .bool l]))
def bsU (a b : Bool) (s t : List Int) (x y u : Int) : Option AV :=
  chk (okW t) (chk (okW s) (bsT a b (w64 (x - u)) (toW (valW s * 2 ^ u.toNat)) (toW (valW t / 2 ^ (w64 ((w64 (x - u)) - y)).toNat)) (decide (valW t % 2 ^ (w64 ((w64 (x - u)) - y)).toNat ≠ 0))))
theorem run_beside (a : Bool) (x : Int) (s : List Int) (b : Bool) (y : Int) (t : List Int) : callA (env Tryz.f118.ntmps orcBs []) (bodyC Tryz.f118) Tryz.f118.results.toList (slots 0 [.st [.bool a, .int .i64 x, .ints 4 .u64 s, .bool false], .st [.bool b, .int .i64 y, .ints 4 .u64 t, .bool false]]) some =
    chk (okW s) (bsU a b s t x y (w64 (250 - ((lenN (valW s) : Nat) : Int)))) := by kernel_rfl

theorem bsT_at (a b : Bool) (x : Int) {P Q : Nat} (hP : P < 115792089237316195423570985008687907853269984665640564039457584007913129639936) (hQ : Q < P) (l : Bool) :
    bsT a b x (toW P) (toW Q) l = some (.st [.bool a, .int .i64 x, .ints 4 .u64 (toW (if a = b then P + Q else P - Q - l.toNat)), .bool l]) := by
  have hp : valW (toW P) = P := by rw [valW_toW]; exact Nat.mod_eq_of_lt hP
  have hq : valW (toW Q) = Q := by rw [valW_toW]; exact Nat.mod_eq_of_lt (by omega)
  have h1 : valW (toW (1 : Int).toNat) = 1 := by rw [valW_toW]; rfl
  unfold bsT
  rw [hp, hq, h1, okW_toW, okW_toW, okW_toW, okW_toW, inU_one, show P + big256 - Q = P - Q + big256 by omega, toW_big]
  have hd : valW (toW (P - Q)) = P - Q := by rw [valW_toW]; exact Nat.mod_eq_of_lt (by omega)
  rw [hd, show P - Q + big256 - 1 = P - Q - 1 + big256 by omega, toW_big]
  by_cases hab : a = b
  · subst hab
    simp only [beq_self_eq_true, cond_true, if_true, chk, Bool.and_self]
  · rw [beq_eq_false_iff_ne.2 hab, if_neg hab]
    cases l
    · rfl
    · rfl

theorem ok_beside : EntOk Tryz.prog 118 (entS false sp_beside) := by
  refine contractS (orc := orcBs) (lo := []) Tryz.func118 (orc_cons ok_wLen (orc_cons ok_wShr (orc_cons ok_wShl (orc_cons ok_wAdd (orc_cons ok_wSub (orc_cons ok_wOf orc_nil)))))) (by kernel_rfl) (by kernel_rfl) (by kernel_rfl) (loops_none (by kernel_rfl)) fun args r h => ?_
  unfold sp_beside at h
  split at h
  · rename_i a x s b y t
    simp only [Option.some.injEq, Prod.mk.injEq, mayB_iff, rng] at h
    obtain ⟨⟨⟨hs, ht⟩, ⟨⟨h1, h2⟩, ⟨h3, h4⟩, h5, h6⟩, h7, h8⟩, rfl⟩ := h
    refine ⟨by kernel_rfl, .inr rfl, (run_beside a x s b y t).trans ?_⟩
    have hP : valW s * 2 ^ (250 - lenN (valW s)) < 115792089237316195423570985008687907853269984665640564039457584007913129639936 := shl_lt (by omega)
    have hQ : valW t / 2 ^ (x - (250 - (lenN (valW s) : Int)) - y).toNat < valW s * 2 ^ (250 - lenN (valW s)) := by
      have q1 : valW t < 2 ^ 128 := Nat.lt_of_lt_of_le (lt_lenN _) (Nat.pow_le_pow_right (by decide) h2)
      have q2 : valW t / 2 ^ (x - (250 - (lenN (valW s) : Int)) - y).toNat ≤ valW t := Nat.div_le_self _ _
      have q3 : (2 : Nat) ^ 128 < 2 ^ 249 := by decide
      have q5 := lenN_pos (v := valW s) (by omega)
      have q4 : 2 ^ 249 ≤ valW s * 2 ^ (250 - lenN (valW s)) := by
        have := Nat.mul_le_mul_right (2 ^ (250 - lenN (valW s))) (le_lenN (show 0 < valW s by omega))
        rw [← Nat.pow_add, show lenN (valW s) - 1 + (250 - lenN (valW s)) = 249 by omega] at this
        exact this
      omega
    have e1 : w64 (250 - ((lenN (valW s) : Nat) : Int)) = 250 - ((lenN (valW s) : Nat) : Int) := w64_mid (by omega) (by omega)
    have e2 : (250 - ((lenN (valW s) : Nat) : Int)).toNat = 250 - lenN (valW s) := by omega
    have e3 : w64 (x - (250 - ((lenN (valW s) : Nat) : Int))) = x - (250 - ((lenN (valW s) : Nat) : Int)) := w64_mid (by omega) (by omega)
    have e4 : w64 (x - (250 - ((lenN (valW s) : Nat) : Int)) - y) = x - (250 - ((lenN (valW s) : Nat) : Int)) - y := w64_mid (by omega) (by omega)
    rw [hs, e1]
    unfold bsU
    rw [e2, e3, e4, hs, ht, bsT_at a b _ hP hQ]
    unfold bJ
    rw [stk_eq]
    rfl
  · cases h

/-! ### join -/
def sp_join : List AV → Option (Bool × AV)
  | [.st [.bool a, .int .i64 x, .ints 4 .u64 s, .bool false], .st [.bool b, .int .i64 y, .ints 4 .u64 t, .bool false], .int .i64 k] =>
    some (mayJ s x t y, .st [.bool (jJ a x s b y t k).m, .int .i64 (jJ a x s b y t k).x, .ints 4 .u64 (toW (jJ a x s b y t k).s), .bool (jJ a x s b y t k).r])
  | _ => none
def orcJoin : List (FuncId × Ent) := [(116, entS false sp_nought), (107, entS false sp_wLen), (117, entS false sp_aligned), (118, entS false sp_beside)]
def jnU (a : Bool) (x : Int) (s : List Int) (b : Bool) (y : Int) (t : List Int) (k : Int) : Option AV :=
  chk (okW s) (bif decide ((w64 ((w64 (((lenN (valW s) : Nat) : Int) + x)) - y)) < 250) then chk (mayA s x t y) (some (.st [.bool (aJ a x s b y t k).m, .int .i64 (aJ a x s b y t k).x, .ints 4 .u64 (toW (aJ a x s b y t k).s), .bool false])) else
    chk (mayB s x t y) (some (.st [.bool (bJ a x s b y t).m, .int .i64 (bJ a x s b y t).x, .ints 4 .u64 (toW (bJ a x s b y t).s), .bool (bJ a x s b y t).r])))
def jnV (a : Bool) (x : Int) (s : List Int) (b : Bool) (y : Int) (t : List Int) (k : Int) : Option AV :=
  bif decide (s = [0, 0, 0, 0]) then some (.st [.bool b, .int .i64 y, .ints 4 .u64 t, .bool false]) else bif decide (t = [0, 0, 0, 0]) then some (.st [.bool a, .int .i64 x, .ints 4 .u64 s, .bool false]) else
    bif decide (x < y) then jnU b y t a x s k else jnU a x s b y t k
theorem run_join (a : Bool) (x : Int) (s : List Int) (b : Bool) (y : Int) (t : List Int) (k : Int) : callA (env Tryz.f77.ntmps orcJoin []) (bodyC Tryz.f77) Tryz.f77.results.toList (slots 0 [.st [.bool a, .int .i64 x, .ints 4 .u64 s, .bool false], .st [.bool b, .int .i64 y, .ints 4 .u64 t, .bool false], .int .i64 k]) some =
    bif decide (s = [0, 0, 0, 0]) then (bif decide (t = [0, 0, 0, 0]) then some (.st [.bool (stk (noM a b k)), .int .i64 0, .ints 4 .u64 [0, 0, 0, 0], .bool false]) else jnV a x s b y t k) else jnV a x s b y t k := by kernel_rfl

theorem isZeroW {s : List Int} (hs : okW s = true) : s = [0, 0, 0, 0] ↔ valW s = 0 := by
  have h0 := toW_inj hs 0 (by decide)
  rw [zeroW] at h0
  rw [eq_comm, h0, eq_comm]

theorem jnU_at (a : Bool) {x : Int} {s : List Int} (b : Bool) {y : Int} {t : List Int} (k : Int) (hs : okW s = true) (ht : okW t = true) (hr : rng s x t y) (hxy : y ≤ x) (h0 : valW s ≠ 0) :
    jnU a x s b y t k = some (.st [.bool (jn2 a x (valW s) b y (valW t) k).m, .int .i64 (jn2 a x (valW s) b y (valW t) k).x, .ints 4 .u64 (toW (jn2 a x (valW s) b y (valW t) k).s), .bool (jn2 a x (valW s) b y (valW t) k).r]) := by
  have hr' := hr
  unfold rng at hr'
  obtain ⟨⟨h1, h2⟩, ⟨h3, h4⟩, h5, h6⟩ := hr'
  have e1 : w64 (((lenN (valW s) : Nat) : Int) + x) = ((lenN (valW s) : Nat) : Int) + x := w64_mid (by omega) (by omega)
  have e2 : w64 (((lenN (valW s) : Nat) : Int) + x - y) = ((lenN (valW s) : Nat) : Int) + x - y := w64_mid (by omega) (by omega)
  unfold jnU jn2
  rw [hs, e1, e2]
  by_cases h : ((lenN (valW s) : Nat) : Int) + x - y < 250
  · have hm : mayA s x t y = true := by unfold mayA; rw [hs, ht, stk_eq, decide_eq_true ⟨hr, hxy, h⟩]; rfl
    rw [decide_eq_true h, hm, if_pos h]
    unfold aJ
    rw [stk_eq]
    rfl
  · have hm : mayB s x t y = true := by unfold mayB; rw [hs, ht, stk_eq, decide_eq_true ⟨hr, h0, by omega⟩]; rfl
    rw [decide_eq_false h, hm, if_neg h]
    unfold bJ
    rw [stk_eq]
    rfl

theorem rng_swap {s : List Int} {x : Int} {t : List Int} {y : Int} (h : rng s x t y) : rng t y s x := by
  unfold rng at *
  exact ⟨⟨h.1.2, h.1.1⟩, h.2.2, h.2.1⟩

theorem ok_join : EntOk Tryz.prog 77 (entS false sp_join) := by
  refine contractS (orc := orcJoin) (lo := []) Tryz.func77 (orc_cons ok_nought (orc_cons ok_wLen (orc_cons ok_aligned (orc_cons ok_beside orc_nil)))) (by kernel_rfl) (by kernel_rfl) (by kernel_rfl) (loops_none (by kernel_rfl)) fun args r h => ?_
  unfold sp_join at h
  split at h
  · rename_i a x s b y t k
    simp only [Option.some.injEq, Prod.mk.injEq, mayJ_iff] at h
    obtain ⟨⟨⟨hs, ht⟩, hr⟩, rfl⟩ := h
    refine ⟨by kernel_rfl, .inr rfl, (run_join a x s b y t k).trans ?_⟩
    unfold jnV jJ
    rw [stk_eq, stk_eq]
    unfold jn
    by_cases h0 : valW s = 0
    · rw [decide_eq_true ((isZeroW hs).2 h0), if_pos h0]
      by_cases h1 : valW t = 0
      · rw [decide_eq_true ((isZeroW ht).2 h1), if_pos h1, zeroW]; rfl
      · rw [decide_eq_false (fun h => h1 ((isZeroW ht).1 h)), if_neg h1, toW_valW ht]; rfl
    · rw [decide_eq_false (fun h => h0 ((isZeroW hs).1 h)), if_neg h0]
      by_cases h1 : valW t = 0
      · rw [decide_eq_true ((isZeroW ht).2 h1), if_pos h1, toW_valW hs]; rfl
      · rw [decide_eq_false (fun h => h1 ((isZeroW ht).1 h)), if_neg h1]
        by_cases h2 : x < y
        · rw [decide_eq_true h2, if_pos h2, ← jnU_at b a k ht hs (rng_swap hr) (by omega) h1]; rfl
        · rw [decide_eq_false h2, if_neg h2, ← jnU_at a b k hs ht hr (by omega) h0]; rfl
  · cases h
end
end Go.Proofs.YtbakldcbaikgpaaGreatDoor
