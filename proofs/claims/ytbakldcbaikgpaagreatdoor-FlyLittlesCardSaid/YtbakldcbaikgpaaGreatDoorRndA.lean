/- The texts Rnd1, Rnd2, Rnd3, Rnd4, joined. Own work. -/
import Derived.Test.YtbakldcbaikgpaaGreatDoorNumA
/- rnd: sign, over, up, near, exact. Own work. -/
namespace Go.Proofs.YtbakldcbaikgpaaGreatDoor
set_option maxRecDepth 100000
noncomputable section
/-- What the kernel leaves as it is. -/
def stk {α : Type} (x : α) : α := bif nob then x else x
theorem stk_eq {α : Type} (x : α) : stk x = x := nob_same x
def smI (x : Int) : Bool := stk (decide (-1000000 ≤ x) && decide (x ≤ 1000000))
theorem smI_iff {x : Int} : smI x = true ↔ -1000000 ≤ x ∧ x ≤ 1000000 := by unfold smI; rw [stk_eq]; simp
theorem w64_mid {x : Int} (h0 : -1000000000 ≤ x) (h1 : x ≤ 1000000000) : w64 x = x := by unfold w64; rw [IntKind.wrap_i64]; omega
/-! ### sign, over -/
def sp_sign : List AV → Option (Bool × AV)
  | [.bool b] => some (true, .int .u64 ((sgnOf b : Nat) : Int))
  | _ => none
theorem run_sign (b : Bool) : callA (env Tryz.f106.ntmps [] []) (bodyC Tryz.f106) Tryz.f106.results.toList (slots 0 [.bool b]) some =
    bif b then some (.int .u64 9223372036854775808) else some (.int .u64 0) := by kernel_rfl
theorem ok_sign : EntOk Tryz.prog 106 (entS false sp_sign) := by
  refine contractS (orc := []) (lo := []) Tryz.func106 orc_nil (by kernel_rfl) (by kernel_rfl) (by kernel_rfl) (loops_none (by kernel_rfl)) fun args r h => ?_
  unfold sp_sign at h
  split at h
  · rename_i b
    simp only [Option.some.injEq, Prod.mk.injEq] at h
    obtain ⟨-, rfl⟩ := h
    refine ⟨by kernel_rfl, .inr rfl, (run_sign b).trans ?_⟩
    cases b <;> rfl
  · cases h
def orcOver : List (FuncId × Ent) := [(46, entS false sp_pNeg)]
/-- What comes of a pattern with a sign. -/
def overT (b : Bool) (p : Int) : Option AV := bif b then chk (inU p) (some (.int .u64 ((negN p.toNat : Nat) : Int))) else some (.int .u64 p)
theorem run_over (b : Bool) (k : Int) : callA (env Tryz.f111.ntmps orcOver []) (bodyC Tryz.f111) Tryz.f111.results.toList (slots 0 [.bool b, .int .i64 k]) some =
    bif k == 2 then overT b 9218868437227405311 else bif k == 3 then (bif b then overT b 9218868437227405311 else bif k == 4 then (bif !b then overT b 9218868437227405311 else overT b 9218868437227405312) else overT b 9218868437227405312) else
      bif k == 4 then (bif !b then overT b 9218868437227405311 else overT b 9218868437227405312) else overT b 9218868437227405312 := by kernel_rfl
def sp_over : List AV → Option (Bool × AV)
  | [.bool b, .int .i64 k] => some (true, .int .u64 ((overN k b + sgnOf b : Nat) : Int))
  | _ => none
theorem overT_at (b : Bool) : overT b 9218868437227405311 = some (.int .u64 ((infN - 1 + sgnOf b : Nat) : Int)) ∧ overT b 9218868437227405312 = some (.int .u64 ((infN + sgnOf b : Nat) : Int)) := by
  have h1 : inU 9218868437227405311 = true := inU_iff.2 (by omega)
  have h2 : inU 9218868437227405312 = true := inU_iff.2 (by omega)
  unfold overT
  rw [h1, h2]
  cases b <;> exact ⟨rfl, rfl⟩
theorem inU_one : inU 1 = true := inU_iff.2 (by omega)
theorem inU_zero : inU 0 = true := inU_iff.2 (by omega)
theorem ok_over : EntOk Tryz.prog 111 (entS false sp_over) := by
  refine contractS (orc := orcOver) (lo := []) Tryz.func111 (orc_cons ok_pNeg orc_nil) (by kernel_rfl) (by kernel_rfl) (by kernel_rfl) (loops_none (by kernel_rfl)) fun args r h => ?_
  unfold sp_over at h
  split at h
  · rename_i b k
    simp only [Option.some.injEq, Prod.mk.injEq] at h
    obtain ⟨-, rfl⟩ := h
    refine ⟨by kernel_rfl, .inr rfl, (run_over b k).trans ?_⟩
    rw [(overT_at b).1, (overT_at b).2]
    unfold overN
    by_cases h2 : k = 2
    · subst h2
      rw [if_pos (.inl rfl)]
      rfl
    · by_cases h3 : k = 3
      · subst h3
        cases b
        · rw [if_neg (by simp)]; rfl
        · rw [if_pos (by simp)]; rfl
      · by_cases h4 : k = 4
        · subst h4
          cases b
          · rw [if_pos (by simp)]; rfl
          · rw [if_neg (by simp)]; rfl
        · rw [if_neg (by simp [h2, h3, h4]), beq_eq_false_iff_ne.2 h2, beq_eq_false_iff_ne.2 h3, beq_eq_false_iff_ne.2 h4]
          rfl
  · cases h
/-! ### up -/
theorem run_up (k : Int) (m od ha re : Bool) : callA (env Tryz.f142.ntmps [] []) (bodyC Tryz.f142) Tryz.f142.results.toList (slots 0 [.int .i64 k, .bool m, .bool od, .bool ha, .bool re]) some =
    bif k == 2 then some (.bool false) else bif k == 3 then bif !m then bif ha then some (.bool true) else some (.bool re) else some (.bool false) else bif k == 4 then bif m then bif ha then some (.bool true) else some (.bool re) else some (.bool false) else
      bif k == 1 then some (.bool ha) else bif ha then bif re then some (.bool true) else some (.bool od) else some (.bool false) := by kernel_rfl
def sp_up : List AV → Option (Bool × AV)
  | [.int .i64 k, .bool m, .bool od, .bool ha, .bool re] => some (true, .bool (stk (upN k m od ha re)))
  | _ => none
theorem ok_up : EntOk Tryz.prog 142 (entS false sp_up) := by
  refine contractS (orc := []) (lo := []) Tryz.func142 orc_nil (by kernel_rfl) (by kernel_rfl) (by kernel_rfl) (loops_none (by kernel_rfl)) fun args r h => ?_
  unfold sp_up at h
  split at h
  · rename_i k m od ha re
    simp only [Option.some.injEq, Prod.mk.injEq] at h
    obtain ⟨-, rfl⟩ := h
    refine ⟨by kernel_rfl, .inr rfl, (run_up k m od ha re).trans ?_⟩
    rw [stk_eq]
    unfold upN
    by_cases h2 : k = 2
    · subst h2; rfl
    rw [beq_eq_false_iff_ne.2 h2, if_neg h2]
    by_cases h3 : k = 3
    · subst h3; cases m <;> cases ha <;> rfl
    rw [beq_eq_false_iff_ne.2 h3, if_neg h3]
    by_cases h4 : k = 4
    · subst h4; cases m <;> cases ha <;> rfl
    rw [beq_eq_false_iff_ne.2 h4, if_neg h4]
    by_cases h1 : k = 1
    · subst h1; rfl
    rw [beq_eq_false_iff_ne.2 h1, if_neg h1]
    cases ha <;> cases re <;> rfl
  · cases h
/-! ### near -/
theorem run_near (m : Bool) (e : Int) (s : List Int) (r : Bool) : callA (env Tryz.f103.ntmps [] []) (bodyC Tryz.f103) Tryz.f103.results.toList (slots 0 [.st [.bool m, .int .i64 e, .ints 4 .u64 s, .bool r]]) some =
    some (.st [.bool m, .int .i64 (if 131072 < (if (-131072) > e then (-131072) else e) then 131072 else (if (-131072) > e then (-131072) else e)), .ints 4 .u64 s, .bool r]) := by kernel_rfl
def sp_near : List AV → Option (Bool × AV)
  | [.st [.bool m, .int .i64 e, .ints 4 .u64 s, .bool r]] => some (true, .st [.bool m, .int .i64 (clampI 131072 e), .ints 4 .u64 s, .bool r])
  | _ => none
theorem ok_near : EntOk Tryz.prog 103 (entS false sp_near) := by
  refine contractS (orc := []) (lo := []) Tryz.func103 orc_nil (by kernel_rfl) (by kernel_rfl) (by kernel_rfl) (loops_none (by kernel_rfl)) fun args r h => ?_
  unfold sp_near at h
  split at h
  · rename_i m e s r
    simp only [Option.some.injEq, Prod.mk.injEq] at h
    obtain ⟨-, rfl⟩ := h
    refine ⟨by kernel_rfl, .inr rfl, (run_near m e s r).trans ?_⟩
    have : (if 131072 < (if (-131072) > e then (-131072) else e) then 131072 else (if (-131072) > e then (-131072) else e)) = clampI 131072 e := by unfold clampI; split <;> split at * <;> omega
    rw [this]
  · cases h
/-! ### exact -/
def xR (s : List Int) (r : Bool) : Bool := stk (r && decide (254 < lenN (valW s)))
def xS (s : List Int) (r : Bool) : List Int := stk (if r = true ∧ lenN (valW s) ≤ 254 then toW (2 * valW s + 1) else s)
def xE (e : Int) (s : List Int) (r : Bool) : Int := stk (if r = true ∧ lenN (valW s) ≤ 254 then e - 1 else e)
theorem x_cases {s : List Int} (_hs : okW s = true) (e : Int) (r : Bool) :
    (xR s r = false ∧ xS s r = s ∧ xE e s r = e ∧ r = false) ∨ (xR s r = true ∧ xS s r = s ∧ xE e s r = e ∧ r = true ∧ 255 ≤ lenN (valW s)) ∨ (xR s r = false ∧ xS s r = toW (2 * valW s + 1) ∧ valW (xS s r) = 2 * valW s + 1 ∧ xE e s r = e - 1 ∧ r = true) := by
  unfold xR xS xE
  simp only [stk_eq]
  cases r with
  | false => left; simp
  | true =>
    right
    by_cases h : lenN (valW s) ≤ 254
    · right
      have h2 := lenN_le.1 h
      have : ¬ 254 < lenN (valW s) := by omega
      simp only [h, this, and_self, if_true, decide_false, Bool.and_false, true_and, and_true]
      rw [valW_toW]
      exact Nat.mod_eq_of_lt (by omega)
    · left
      have : 254 < lenN (valW s) := by omega
      simp [h, this]
      omega
theorem x_ok {s : List Int} (hs : okW s = true) (r : Bool) : okW (xS s r) = true := by
  rcases x_cases hs 0 r with h | h | h
  · rw [h.2.1]; exact hs
  · rw [h.2.1]; exact hs
  · rw [h.2.1]; exact okW_toW _
theorem x_S {s : List Int} (hs : okW s = true) (r : Bool) : nS (valW (xS s r)) (xR s r) = nS (valW s) r := by
  rcases x_cases hs 0 r with h | h | h
  · rw [h.1, h.2.1, h.2.2.2]
  · rw [h.1, h.2.1, h.2.2.2.1]
  · rw [h.1, h.2.2.1, h.2.2.2.2]; rfl
theorem x_E {s : List Int} (hs : okW s = true) (e : Int) (r : Bool) : nE (xE e s r) (xR s r) = nE e r := by
  rcases x_cases hs e r with h | h | h
  · rw [h.1, h.2.2.1, h.2.2.2]
  · rw [h.1, h.2.2.1, h.2.2.2.1]
  · rw [h.1, h.2.2.2.1, h.2.2.2.2]; rfl
def orcExact : List (FuncId × Ent) := [(107, entS false sp_wLen), (139, entS false sp_wShl), (114, entS false sp_wOf), (138, entS false sp_wAdd)]
theorem run_exact (m : Bool) (e : Int) (s : List Int) (r : Bool) : callA (env Tryz.f104.ntmps orcExact []) (bodyC Tryz.f104) Tryz.f104.results.toList (slots 0 [.st [.bool m, .int .i64 e, .ints 4 .u64 s, .bool r]]) some =
    bif !r then some (.st [.bool m, .int .i64 e, .ints 4 .u64 s, .bool r]) else chk (okW s) (bif decide (((lenN (valW s) : Nat) : Int) > 254) then some (.st [.bool m, .int .i64 e, .ints 4 .u64 s, .bool r]) else
      chk (okW s) (chk (inU 1) (chk (okW (toW (valW s * 2 ^ (1 : Int).toNat)) && okW (toW (1 : Int).toNat)) (some (.st [.bool m, .int .i64 (w64 (e - 1)), .ints 4 .u64 (toW (valW (toW (valW s * 2 ^ (1 : Int).toNat)) + valW (toW (1 : Int).toNat))), .bool false]))))) := by kernel_rfl
def sp_exact : List AV → Option (Bool × AV)
  | [.st [.bool m, .int .i64 e, .ints 4 .u64 s, .bool r]] => some (okW s && smI e, .st [.bool m, .int .i64 (xE e s r), .ints 4 .u64 (xS s r), .bool (xR s r)])
  | _ => none
theorem toW_mod (v : Nat) : toW (v % 115792089237316195423570985008687907853269984665640564039457584007913129639936) = toW v := by
  have h := toW_valW (okW_toW v)
  rw [valW_toW] at h
  exact h
theorem ok_exact : EntOk Tryz.prog 104 (entS false sp_exact) := by
  refine contractS (orc := orcExact) (lo := []) Tryz.func104 (orc_cons ok_wLen (orc_cons ok_wShl (orc_cons ok_wOf (orc_cons ok_wAdd orc_nil)))) (by kernel_rfl) (by kernel_rfl) (by kernel_rfl) (loops_none (by kernel_rfl)) fun args r h => ?_
  unfold sp_exact at h
  split at h
  · rename_i m e s r
    simp only [Option.some.injEq, Prod.mk.injEq, Bool.and_eq_true, smI_iff] at h
    obtain ⟨⟨hs, he⟩, rfl⟩ := h
    refine ⟨by kernel_rfl, .inr rfl, (run_exact m e s r).trans ?_⟩
    rcases x_cases hs e r with h | h | h
    · obtain ⟨h1, h2, h3, rfl⟩ := h
      rw [h1, h2, h3]
      rfl
    · obtain ⟨h1, h2, h3, rfl, h5⟩ := h
      rw [h1, h2, h3, hs, decide_eq_true (show ((lenN (valW s) : Nat) : Int) > 254 by omega)]
      rfl
    · obtain ⟨h1, h2, h3, h4, rfl⟩ := h
      have hl : lenN (valW s) ≤ 254 := by
        by_cases h : lenN (valW s) ≤ 254
        · exact h
        · exfalso
          unfold xR at h1
          rw [stk_eq] at h1
          simp at h1
          omega
      have hv := lenN_le.1 hl
      rw [h1, h2, h4, hs, decide_eq_false (show ¬ ((lenN (valW s) : Nat) : Int) > 254 by omega), inU_one, okW_toW, okW_toW, valW_toW, valW_toW, w64_mid (by omega) (by omega)]
      have e1 : (valW s * 2 ^ (1 : Int).toNat) % 115792089237316195423570985008687907853269984665640564039457584007913129639936 + (1 : Int).toNat % 115792089237316195423570985008687907853269984665640564039457584007913129639936 = 2 * valW s + 1 := by
        rw [show (1 : Int).toNat = 1 from rfl, Nat.pow_one, Nat.mod_eq_of_lt (show valW s * 2 < _ by omega)]
        omega
      rw [e1]
      rfl
  · cases h
end
end Go.Proofs.YtbakldcbaikgpaaGreatDoor
/- rnd: cut, to, tiny. Own work. -/
namespace Go.Proofs.YtbakldcbaikgpaaGreatDoor
set_option maxRecDepth 100000
noncomputable section
def qC (s : List Int) (e : Int) (r : Bool) (n : Int) : Nat := qN (nS (valW s) r) (n - nE e r)
def halfC (s : List Int) (e : Int) (r : Bool) (n : Int) : Bool := stk (halfN (nS (valW s) r) (n - nE e r))
def restC (s : List Int) (e : Int) (r : Bool) (n : Int) : Bool := stk (restN (nS (valW s) r) (n - nE e r))
def toC (s : List Int) (e : Int) (r : Bool) (n k : Int) (m : Bool) : Nat := toN (nS (valW s) r) (n - nE e r) k m
def inexC (s : List Int) (e : Int) (r : Bool) (n : Int) : Bool := stk (inexN (nS (valW s) r) (n - nE e r))
def tinyC (s : List Int) (e : Int) (r : Bool) (top k : Int) (m : Bool) : Bool := stk (if top - 53 ≥ -1074 then false else if top < -1022 then true else decide (lenN (toN (nS (valW s) r) (top - 53 - nE e r) k m % 115792089237316195423570985008687907853269984665640564039457584007913129639936) ≤ 53))
/-- May it be cut there? -/
def mayC (s : List Int) (e : Int) (r : Bool) (n : Int) : Bool := okW s && smI e && smI n && stk (!r || decide (e ≤ n))
theorem mayC_iff {s : List Int} {e : Int} {r : Bool} {n : Int} : mayC s e r n = true ↔ okW s = true ∧ (-1000000 ≤ e ∧ e ≤ 1000000) ∧ (-1000000 ≤ n ∧ n ≤ 1000000) ∧ (r = true → e ≤ n) := by
  unfold mayC
  rw [stk_eq]
  simp only [Bool.and_eq_true, smI_iff, Bool.or_eq_true, decide_eq_true_eq, Bool.not_eq_true']
  cases r <;> simp [and_assoc]
/-! ### cut -/
/-- How a cut ends. -/
def cutT (q : List Int) (h : Bool) (r : Bool) (low : List Int) : Option AV := bif r then some (.tup [.ints 4 .u64 q, .bool h, .bool true]) else some (.tup [.ints 4 .u64 q, .bool h, .bool (!decide (low = [0, 0, 0, 0]))])
def cutM (_s : List Int) (r : Bool) (d : Int) (q : List Int) (b : Int) (low : List Int) : Option AV :=
  bif b == 1 then chk (inU 1) (chk (okW (toW (1 : Int).toNat)) (chk (okW low && okW (toW (valW (toW (1 : Int).toNat) * 2 ^ (w64 (d - 1)).toNat)))
    (cutT q (b == 1) r (toW (valW low + big256 - valW (toW (valW (toW (1 : Int).toNat) * 2 ^ (w64 (d - 1)).toNat))))))) else cutT q (b == 1) r low
def cutR (s : List Int) (r : Bool) (d : Int) : Option AV :=
  bif decide (d ≤ 0) then chk (okW s) (bif d == 0 then some (.tup [.ints 4 .u64 (toW (valW s * 2 ^ (w64 (0 - d)).toNat)), .bool r, .bool false]) else some (.tup [.ints 4 .u64 (toW (valW s * 2 ^ (w64 (0 - d)).toNat)), .bool false, .bool false]))
  else chk (okW s) (chk (okW s) (bif decide (d > 1) then chk (okW (toW (valW s / 2 ^ d.toNat))) (chk (okW s && okW (toW (valW (toW (valW s / 2 ^ d.toNat)) * 2 ^ d.toNat)))
      (bif decide (d > 256) then cutM s r d (toW (valW s / 2 ^ d.toNat)) ((bitN (valW s) (w64 (d - 1)) : Nat) : Int) s
       else cutM s r d (toW (valW s / 2 ^ d.toNat)) ((bitN (valW s) (w64 (d - 1)) : Nat) : Int) (toW (valW s + big256 - valW (toW (valW (toW (valW s / 2 ^ d.toNat)) * 2 ^ d.toNat))))))
    else some (.tup [.ints 4 .u64 (toW (valW s / 2 ^ d.toNat)), .bool (((bitN (valW s) (w64 (d - 1)) : Nat) : Int) == 1), .bool r])))
def orcCut : List (FuncId × Ent) := [(139, entS false sp_wShl), (110, entS false sp_wShr), (153, entS false sp_wBit), (146, entS false sp_wSub), (114, entS false sp_wOf)]
theorem run_cut (m : Bool) (e : Int) (s : List Int) (r : Bool) (n : Int) : callA (env Tryz.f141.ntmps orcCut []) (bodyC Tryz.f141) Tryz.f141.results.toList (slots 0 [.st [.bool m, .int .i64 e, .ints 4 .u64 s, .bool r], .int .i64 n]) some =
    cutR s r (w64 (n - e)) := by kernel_rfl
def sp_cut : List AV → Option (Bool × AV)
  | [.st [.bool _, .int .i64 e, .ints 4 .u64 s, .bool r], .int .i64 n] => some (mayC s e r n, .tup [.ints 4 .u64 (toW (qC s e r n)), .bool (halfC s e r n), .bool (restC s e r n)])
  | _ => none
/-- With more of it, the whole of it is one bit longer. -/
theorem more_q (v : Nat) {d : Int} (h : 0 ≤ d) : qN (2 * v + 1) (d + 1) = v / 2 ^ d.toNat := by
  rw [qN_pos (by omega), show (d + 1).toNat = d.toNat + 1 by omega, Nat.pow_succ, Nat.mul_comm (2 ^ d.toNat), ← Nat.div_div_eq_div_mul]
  congr 1
  omega
theorem more_half (v : Nat) {d : Int} (h : 0 ≤ d) : halfN (2 * v + 1) (d + 1) = (decide (d = 0) || decide (v / 2 ^ (d.toNat - 1) % 2 = 1)) := by
  unfold halfN
  rw [decide_eq_true (show 0 < d + 1 by omega), Bool.true_and]
  by_cases h0 : d = 0
  · subst h0
    simp
  · rw [decide_eq_false h0, Bool.false_or, show (d + 1).toNat - 1 = d.toNat - 1 + 1 by omega, Nat.pow_succ, Nat.mul_comm (2 ^ (d.toNat - 1)), ← Nat.div_div_eq_div_mul, show (2 * v + 1) / 2 = v by omega]
theorem more_rest (v : Nat) {d : Int} (h : 0 ≤ d) : restN (2 * v + 1) (d + 1) = decide (0 < d) := by
  unfold restN
  rw [decide_eq_true (show 0 < d + 1 by omega), Bool.true_and]
  refine decide_eq_decide.2 ?_
  by_cases h0 : d = 0
  · subst h0
    simp
    omega
  · rw [show (d + 1).toNat - 1 = d.toNat - 1 + 1 by omega, Nat.pow_succ]
    have : (2 * v + 1) % (2 ^ (d.toNat - 1) * 2) % 2 = (2 * v + 1) % 2 := Nat.mod_mul_left_mod _ _ _
    omega
theorem zero_W {v : Nat} (h : v < 115792089237316195423570985008687907853269984665640564039457584007913129639936) : (!decide (toW v = [0, 0, 0, 0])) = decide (v ≠ 0) := by
  rw [← decide_not]
  refine decide_eq_decide.2 (not_congr ?_)
  have h0 : okW [0, 0, 0, 0] = true := by simp [okW, inU_zero]
  rw [toW_inj h0 v h]
  rfl
theorem bit_one (v : Nat) {d : Int} (h : 1 ≤ d) : (((bitN v (d - 1) : Nat) : Int) == 1) = decide (v / 2 ^ (d.toNat - 1) % 2 = 1) := by
  unfold bitN
  rw [if_neg (by omega), show (d - 1).toNat = d.toNat - 1 by omega]
  generalize v / 2 ^ (d.toNat - 1) % 2 = x
  by_cases h1 : x = 1
  · subst h1; rfl
  · rw [decide_eq_false h1]
    exact beq_eq_false_iff_ne.2 (by omega)
/-- The rest under a number's first bit. -/
theorem low_rest {v : Nat} (hv : v < 115792089237316195423570985008687907853269984665640564039457584007913129639936) {d : Nat} (_h1 : 1 < d) (_h2 : d ≤ 256) :
    v + big256 - valW (toW (valW (toW (v / 2 ^ d)) * 2 ^ d)) = v % 2 ^ d + big256 := by
  have e : v % 2 ^ d + v / 2 ^ d * 2 ^ d = v := by
    have := Nat.mod_add_div v (2 ^ d)
    rw [Nat.mul_comm] at this
    exact this
  have l1 : v / 2 ^ d ≤ v := Nat.div_le_self _ _
  have l2 : v / 2 ^ d * 2 ^ d ≤ v := Nat.div_mul_le_self _ _
  rw [valW_toW, valW_toW, Nat.mod_eq_of_lt (Nat.lt_of_le_of_lt l1 hv), Nat.mod_eq_of_lt (Nat.lt_of_le_of_lt l2 hv)]
  generalize v % 2 ^ d = a at *
  generalize v / 2 ^ d * 2 ^ d = b at *
  omega
theorem toW_big (v : Nat) : toW (v + big256) = toW v := by
  rw [← toW_mod (v + big256), ← toW_mod v]
  unfold big256
  rw [Nat.add_mod_right]
theorem low_half {v : Nat} {d : Nat} (h1 : 1 < d) (h2 : d ≤ 256) (hb : v / 2 ^ (d - 1) % 2 = 1) :
    valW (toW (v % 2 ^ d)) + big256 - valW (toW (valW (toW (1 : Int).toNat) * 2 ^ (d - 1))) = v % 2 ^ (d - 1) + big256 := by
  have e := left_split v d (by omega)
  rw [hb, Nat.mul_one] at e
  have p1 : 2 ^ (d - 1) < 115792089237316195423570985008687907853269984665640564039457584007913129639936 := Nat.lt_of_le_of_lt (Nat.pow_le_pow_right (by decide) (show d - 1 ≤ 255 by omega)) (by decide)
  have p2 : v % 2 ^ d < 115792089237316195423570985008687907853269984665640564039457584007913129639936 := Nat.lt_of_lt_of_le (Nat.mod_lt _ (Nat.two_pow_pos d)) (Nat.pow_le_pow_right (by decide) (show d ≤ 256 from h2))
  rw [show (1 : Int).toNat = 1 from rfl, valW_toW, valW_toW, valW_toW, Nat.mod_eq_of_lt p2, show (1 % 115792089237316195423570985008687907853269984665640564039457584007913129639936 : Nat) = 1 from rfl, Nat.one_mul, Nat.mod_eq_of_lt p1, e]
  generalize v % 2 ^ (d - 1) = a at *
  generalize 2 ^ (d - 1) = b at *
  omega
/-- Cut deep enough, it leaves a half and a rest. -/
theorem cut_deep {s : List Int} (hs : okW s = true) (r : Bool) {d : Int} (h1 : 1 < d) (h2 : d ≤ 1000000000) :
    cutR s r d = some (.tup [.ints 4 .u64 (toW (valW s / 2 ^ d.toNat)), .bool (decide (valW s / 2 ^ (d.toNat - 1) % 2 = 1)), .bool (r || decide (valW s % 2 ^ (d.toNat - 1) ≠ 0))]) := by
  have hlt := valW_lt hs
  unfold cutR cutM
  rw [decide_eq_false (show ¬ d ≤ 0 by omega), decide_eq_true (show d > 1 by omega), hs, w64_mid (x := d - 1) (by omega) (by omega), bit_one _ (by omega)]
  simp only [okW_toW, Bool.and_self, chk, cond_true, cond_false, inU_one]
  by_cases hf : d > 256
  · have hp : valW s < 2 ^ (d.toNat - 1) := Nat.lt_of_lt_of_le hlt (Nat.le_trans (by decide) (Nat.pow_le_pow_right (n := 2) (by decide) (show 256 ≤ d.toNat - 1 by omega)))
    rw [decide_eq_true hf, cond_true, Nat.div_eq_of_lt hp, Nat.mod_eq_of_lt hp]
    simp only [Nat.zero_mod, Nat.zero_ne_one, decide_false, cond_false]
    cases r with
    | true => rfl
    | false =>
      unfold cutT
      rw [cond_false, Bool.false_or]
      have := zero_W hlt
      rw [toW_valW hs] at this
      rw [this]
  · rw [decide_eq_false hf, cond_false, low_rest hlt (by omega) (by omega), toW_big, show (d - 1).toNat = d.toNat - 1 by omega]
    have p2 : valW s % 2 ^ d.toNat < 115792089237316195423570985008687907853269984665640564039457584007913129639936 := Nat.lt_of_le_of_lt (Nat.mod_le _ _) hlt
    by_cases hb : valW s / 2 ^ (d.toNat - 1) % 2 = 1
    · rw [decide_eq_true hb, cond_true, low_half (by omega) (by omega) hb, toW_big]
      cases r with
      | true => rfl
      | false =>
        unfold cutT
        rw [cond_false, Bool.false_or, zero_W (Nat.lt_of_le_of_lt (Nat.mod_le _ _) hlt)]
    · rw [decide_eq_false hb, cond_false]
      cases r with
      | true => rfl
      | false =>
        unfold cutT
        have e := left_split (valW s) d.toNat (by omega)
        rw [show valW s / 2 ^ (d.toNat - 1) % 2 = 0 by omega, Nat.mul_zero, Nat.add_zero] at e
        rw [cond_false, Bool.false_or, zero_W p2, e]
theorem ok_cut : EntOk Tryz.prog 141 (entS false sp_cut) := by
  refine contractS (orc := orcCut) (lo := []) Tryz.func141 (orc_cons ok_wShl (orc_cons ok_wShr (orc_cons ok_wBit (orc_cons ok_wSub (orc_cons ok_wOf orc_nil))))) (by kernel_rfl) (by kernel_rfl) (by kernel_rfl) (loops_none (by kernel_rfl)) fun args r h => ?_
  unfold sp_cut at h
  split at h
  · rename_i m e s r n
    simp only [Option.some.injEq, Prod.mk.injEq, mayC_iff] at h
    obtain ⟨⟨hs, ⟨e1, e2⟩, ⟨n1, n2⟩, hr⟩, rfl⟩ := h
    refine ⟨by kernel_rfl, .inr rfl, (run_cut m e s r n).trans ?_⟩
    unfold qC halfC restC
    rw [stk_eq, stk_eq, w64_mid (by omega) (by omega)]
    have hd : r = true → n - nE e r = n - e + 1 := by
      intro h
      unfold nE
      rw [if_pos h]
      omega
    have hd' : r = false → n - nE e r = n - e := by
      intro h
      unfold nE
      rw [if_neg (by simp [h])]
    have hS : r = true → nS (valW s) r = 2 * valW s + 1 := fun h => if_pos h
    have hS' : r = false → nS (valW s) r = valW s := fun h => if_neg (by simp [h])
    generalize hdd : n - e = d at *
    by_cases h0 : d ≤ 0
    · unfold cutR
      rw [decide_eq_true h0, hs, cond_true, w64_mid (by omega) (by omega), Int.zero_sub]
      cases r with
      | true =>
        have : d = 0 := by have := hr rfl; omega
        subst this
        rw [hd rfl, hS rfl, more_q _ (by omega), more_half _ (by omega), more_rest _ (by omega)]
        simp [chk]
      | false =>
        rw [hd' rfl, hS' rfl, qN_neg h0]
        unfold halfN restN
        rw [decide_eq_false (show ¬ 0 < d by omega)]
        cases (d == 0) <;> rfl
    · by_cases h1 : d = 1
      · subst h1
        unfold cutR
        rw [decide_eq_false (show ¬ (1 : Int) ≤ 0 by decide), decide_eq_false (show ¬ (1 : Int) > 1 by decide), hs, w64_mid (x := (1 : Int) - 1) (by omega) (by omega), bit_one _ (by omega)]
        simp only [chk, cond_true, cond_false]
        cases r with
        | true =>
          rw [hd rfl, hS rfl, more_q _ (by omega), more_half _ (by omega), more_rest _ (by omega)]
          rfl
        | false =>
          rw [hd' rfl, hS' rfl, qN_pos (by omega)]
          unfold halfN restN
          have : valW s % 2 ^ ((1 : Int).toNat - 1) = 0 := Nat.mod_one _
          rw [this]
          rfl
      · rw [cut_deep hs r (by omega) (by omega)]
        cases r with
        | true =>
          rw [hd rfl, hS rfl, more_q _ (by omega), more_half _ (by omega), more_rest _ (by omega), decide_eq_false (show ¬ d = 0 by omega), decide_eq_true (show 0 < d by omega), Bool.false_or]
          rfl
        | false =>
          rw [hd' rfl, hS' rfl, qN_pos (by omega)]
          unfold halfN restN
          rw [decide_eq_true (show 0 < d by omega), Bool.true_and, Bool.true_and, Bool.false_or]
  · cases h
/-! ### to -/
def orcTo : List (FuncId × Ent) := [(141, entS false sp_cut), (142, entS false sp_up), (114, entS false sp_wOf), (138, entS false sp_wAdd)]
def toT (q : List Int) (h re : Bool) : Option AV := bif h then some (.tup [.ints 4 .u64 q, .bool true]) else some (.tup [.ints 4 .u64 q, .bool re])
theorem run_to (m : Bool) (e : Int) (s : List Int) (r : Bool) (n k : Int) : callA (env Tryz.f108.ntmps orcTo []) (bodyC Tryz.f108) Tryz.f108.results.toList (slots 0 [.st [.bool m, .int .i64 e, .ints 4 .u64 s, .bool r], .int .i64 n, .int .i64 k]) some =
    chk (mayC s e r n) (bif stk (upN k m ((andI .u64 ((toW (qC s e r n)).getD 0 0) 1) == 1) (halfC s e r n) (restC s e r n)) then chk (inU 1) (chk (okW (toW (qC s e r n)) && okW (toW (1 : Int).toNat)) (toT (toW (valW (toW (qC s e r n)) + valW (toW (1 : Int).toNat))) (halfC s e r n) (restC s e r n)))
      else toT (toW (qC s e r n)) (halfC s e r n) (restC s e r n)) := by kernel_rfl
def sp_to : List AV → Option (Bool × AV)
  | [.st [.bool m, .int .i64 e, .ints 4 .u64 s, .bool r], .int .i64 n, .int .i64 k] => some (mayC s e r n, .tup [.ints 4 .u64 (toW (toC s e r n k m)), .bool (inexC s e r n)])
  | _ => none
theorem low_odd (v : Nat) : (andI .u64 ((toW v).getD 0 0) 1 == 1) = decide (v % 2 = 1) := by
  have h := wordAt (okW_toW v) 0 (by decide)
  rw [h, valW_toW, andI_one _ (Nat.mod_lt _ (by decide))]
  have : v % 115792089237316195423570985008687907853269984665640564039457584007913129639936 / 2 ^ (64 * 0) % 18446744073709551616 % 2 = v % 2 := by omega
  rw [this]
  by_cases h1 : v % 2 = 1
  · rw [h1]; rfl
  · rw [decide_eq_false h1]
    exact beq_eq_false_iff_ne.2 (by omega)
theorem toW_add (a b : Nat) : toW (valW (toW a) + valW (toW b)) = toW (a + b) := by
  rw [valW_toW, valW_toW, ← toW_mod (_ + _), ← toW_mod (a + b), ← Nat.add_mod]
theorem ok_to : EntOk Tryz.prog 108 (entS false sp_to) := by
  refine contractS (orc := orcTo) (lo := []) Tryz.func108 (orc_cons ok_cut (orc_cons ok_up (orc_cons ok_wOf (orc_cons ok_wAdd orc_nil)))) (by kernel_rfl) (by kernel_rfl) (by kernel_rfl) (loops_none (by kernel_rfl)) fun args r h => ?_
  unfold sp_to at h
  split at h
  · rename_i m e s r n k
    simp only [Option.some.injEq, Prod.mk.injEq] at h
    obtain ⟨hg, rfl⟩ := h
    refine ⟨by kernel_rfl, .inr rfl, (run_to m e s r n k).trans ?_⟩
    rw [hg, low_odd, toW_add, okW_toW, okW_toW, inU_one]
    unfold toC inexC toN upD halfC restC qC inexN
    simp only [stk_eq]
    generalize qN (nS (valW s) r) (n - nE e r) = q
    generalize halfN (nS (valW s) r) (n - nE e r) = h
    generalize restN (nS (valW s) r) (n - nE e r) = t
    generalize upN k m (decide (q % 2 = 1)) h t = u
    cases u <;> cases h <;> rfl
  · cases h
/-! ### tiny -/
def orcTiny : List (FuncId × Ent) := [(108, entS false sp_to), (107, entS false sp_wLen)]
theorem run_tiny (m : Bool) (e : Int) (s : List Int) (r : Bool) (top k : Int) : callA (env Tryz.f109.ntmps orcTiny []) (bodyC Tryz.f109) Tryz.f109.results.toList (slots 0 [.st [.bool m, .int .i64 e, .ints 4 .u64 s, .bool r], .int .i64 top, .int .i64 k]) some =
    bif decide ((w64 (top - 53)) ≥ (-1074)) then some (.bool false) else bif decide (top < (-1022)) then some (.bool true) else chk (mayC s e r (w64 (top - 53))) (chk (okW (toW (toC s e r (w64 (top - 53)) k m))) (some (.bool (decide (((lenN (valW (toW (toC s e r (w64 (top - 53)) k m))) : Nat) : Int) ≤ 53))))) := by kernel_rfl
def sp_tiny : List AV → Option (Bool × AV)
  | [.st [.bool m, .int .i64 e, .ints 4 .u64 s, .bool r], .int .i64 top, .int .i64 k] => some (mayC s e r (top - 53), .bool (tinyC s e r top k m))
  | _ => none
theorem ok_tiny : EntOk Tryz.prog 109 (entS false sp_tiny) := by
  refine contractS (orc := orcTiny) (lo := []) Tryz.func109 (orc_cons ok_to (orc_cons ok_wLen orc_nil)) (by kernel_rfl) (by kernel_rfl) (by kernel_rfl) (loops_none (by kernel_rfl)) fun args r h => ?_
  unfold sp_tiny at h
  split at h
  · rename_i m e s r top k
    simp only [Option.some.injEq, Prod.mk.injEq] at h
    obtain ⟨hg, rfl⟩ := h
    refine ⟨by kernel_rfl, .inr rfl, (run_tiny m e s r top k).trans ?_⟩
    have hg' := mayC_iff.1 hg
    obtain ⟨hs, ⟨e1, e2⟩, ⟨n1, n2⟩, hr⟩ := hg'
    rw [w64_mid (by omega) (by omega), hg, okW_toW, valW_toW]
    unfold tinyC toC
    rw [stk_eq]
    by_cases h1 : top - 53 ≥ -1074
    · rw [decide_eq_true h1, if_pos h1]; rfl
    rw [decide_eq_false h1, if_neg h1]
    by_cases h2 : top < -1022
    · rw [decide_eq_true h2, if_pos h2]; rfl
    rw [decide_eq_false h2, if_neg h2]
    generalize lenN _ = l
    have : decide ((l : Int) ≤ 53) = decide (l ≤ 53) := decide_eq_decide.2 (by omega)
    rw [this]
    rfl
  · cases h
end
end Go.Proofs.YtbakldcbaikgpaaGreatDoor
/- rnd: Round. Own work. -/
namespace Go.Proofs.YtbakldcbaikgpaaGreatDoor
set_option maxRecDepth 100000
noncomputable section
def orcRound : List (FuncId × Ent) := [(103, entS false sp_near), (104, entS false sp_exact), (106, entS false sp_sign), (105, entS false sp_pCopy), (107, entS false sp_wLen),
  (108, entS false sp_to), (109, entS false sp_tiny), (110, entS false sp_wShr), (111, entS false sp_over)]
def rV (m : Bool) (p f : Int) : Option AV := chk (inU p && inU ((sgnOf m : Nat) : Int)) (some (.tup [.int .u64 ((copyN p.toNat ((sgnOf m : Nat) : Int).toNat : Nat) : Int), .int .u8 f]))
def rU (m : Bool) (k : Int) (q : List Int) (n f : Int) : Option AV :=
  bif decide (n > 971) then some (.tup [.int .u64 ((overN k m + sgnOf m : Nat) : Int), .int .u8 20]) else
  bif decide ((q.getD 0 0) ≥ 4503599627370496) then rV m (u64 ((q.getD 0 0) + (shlI .u64 (u64 (w64 (n - (-1074)))) 52))) f else rV m (q.getD 0 0) f
def rT (m : Bool) (k : Int) (q : List Int) (n f : Int) : Option AV :=
  chk (okW q) (bif decide (((lenN (valW q) : Nat) : Int) > 53) then chk (okW q) (rU m k (toW (valW q / 2 ^ (1 : Int).toNat)) (w64 (n + 1)) f) else rU m k q n f)
def rN (m : Bool) (k : Int) (s : List Int) (e : Int) (r : Bool) (top n : Int) : Option AV :=
  chk (mayC s e r n) (bif inexC s e r n then chk (mayC s e r (top - 53)) (bif tinyC s e r top k m then rT m k (toW (toC s e r n k m)) n 24 else rT m k (toW (toC s e r n k m)) n 16) else rT m k (toW (toC s e r n k m)) n 0)
def rM (m : Bool) (k : Int) (s : List Int) (e : Int) (r : Bool) (top : Int) : Option AV :=
  rN m k s e r top (if (-1074) > w64 (top - 53) then (-1074) else w64 (top - 53))
def rL (m : Bool) (k : Int) (s : List Int) (e : Int) (r : Bool) : Option AV :=
  bif decide (s = [0, 0, 0, 0]) then chk (inU 0 && inU ((sgnOf m : Nat) : Int)) (some (.tup [.int .u64 ((copyN (0 : Int).toNat ((sgnOf m : Nat) : Int).toNat : Nat) : Int), .int .u8 0])) else
  chk (okW s) (rM m k s e r (w64 (e + ((lenN (valW s) : Nat) : Int))))
theorem run_round (m : Bool) (e : Int) (s : List Int) (r : Bool) (k : Int) : callA (env Tryz.f71.ntmps orcRound []) (bodyC Tryz.f71) Tryz.f71.results.toList (slots 0 [.st [.bool m, .int .i64 e, .ints 4 .u64 s, .bool r], .int .i64 k]) some =
    chk (okW s && smI (clampI 131072 e)) (rL m k (xS s r) (xE (clampI 131072 e) s r) (xR s r)) := by kernel_rfl
def pR (m : Bool) (s : List Int) (e : Int) (r : Bool) (k : Int) : Nat := stk (rndP m (nS (valW s) r) (nE e r) k)
def fR (m : Bool) (s : List Int) (e : Int) (r : Bool) (k : Int) : Nat := stk (rndF m (nS (valW s) r) (nE e r) k)
def sp_round : List AV → Option (Bool × AV)
  | [.st [.bool m, .int .i64 e, .ints 4 .u64 s, .bool r], .int .i64 k] => some (okW s, .tup [.int .u64 ((pR m s e r k : Nat) : Int), .int .u8 ((fR m s e r k : Nat) : Int)])
  | _ => none
theorem copy_sgn (p : Nat) (h : p < 9223372036854775808) (m : Bool) : copyN p (sgnOf m) = p + sgnOf m := by
  unfold copyN absN sgnN sgnOf
  rw [Nat.mod_eq_of_lt h]
  cases m <;> rfl
theorem inU_sgn (m : Bool) : inU ((sgnOf m : Nat) : Int) = true := inU_iff.2 (by unfold sgnOf; split <;> omega)
theorem rV_at (m : Bool) (p : Nat) (h : p < 9223372036854775808) (f : Int) : rV m (p : Int) f = some (.tup [.int .u64 ((p + sgnOf m : Nat) : Int), .int .u8 f]) := by
  unfold rV
  have : inU (p : Int) = true := inU_iff.2 (by omega)
  rw [this, inU_sgn, Int.toNat_natCast, Int.toNat_natCast, copy_sgn p h]
  rfl
theorem low_word (v : Nat) (h : v < 18446744073709551616) : (toW v).getD 0 0 = (v : Int) := by
  rw [wordAt (okW_toW v) 0 (by decide), valW_toW]
  congr 1
  omega
theorem shl52 (n : Nat) (h : n < 2048) : shlI .u64 (n : Int) 52 = ((n * 4503599627370496 : Nat) : Int) := by
  have := shlI_nat n 52 (by decide)
  rw [show ((52 : Nat) : Int) = 52 from rfl] at this
  rw [this, show (2 : Nat) ^ 52 = 4503599627370496 from rfl]
  congr 1
  exact Nat.mod_eq_of_lt (by omega)
theorem u64_nat {n : Nat} (h : n < 18446744073709551616) : u64 (n : Int) = n := by
  unfold u64
  rw [IntKind.wrap_u64]
  omega
theorem rU_over (m : Bool) (k : Int) (q : List Int) {n : Int} (f : Int) (h : n > 971) : rU m k q n f = some (.tup [.int .u64 ((overN k m + sgnOf m : Nat) : Int), .int .u8 20]) := by
  unfold rU
  rw [decide_eq_true h]
  rfl
theorem rU_lo (m : Bool) (q : Nat) (h1 : q < 4503599627370496) (x : Option AV) (f : Int) : (bif decide ((q : Int) ≥ 4503599627370496) then x else rV m q f) = some (.tup [.int .u64 ((q + sgnOf m : Nat) : Int), .int .u8 f]) := by
  rw [decide_eq_false (show ¬ (q : Int) ≥ 4503599627370496 by omega), cond_false, rV_at m q (by omega) f]
theorem rU_hi (m : Bool) (q N : Nat) (h1 : q < 9007199254740992) (hN : N < 2046) (f : Int) : rV m (u64 ((q : Int) + (shlI .u64 (u64 (w64 ((N : Int) - 1074 - -1074))) 52))) f = some (.tup [.int .u64 ((q + N * 4503599627370496 + sgnOf m : Nat) : Int), .int .u8 f]) := by
  rw [w64_mid (by omega) (by omega), show ((N : Int) - 1074 - -1074) = (N : Int) by omega, u64_nat (by omega), shl52 N (by omega)]
  rw [show ((q : Int) + ((N * 4503599627370496 : Nat) : Int)) = ((q + N * 4503599627370496 : Nat) : Int) by omega, u64_nat (by omega), rV_at m _ (by omega) f]
theorem rU_at (m : Bool) (k : Int) {q N : Nat} (f : Int) (h : N ≤ 2045) (hq : q < 9007199254740992) (hl : q < 4503599627370496 → N = 0) :
    rU m k (toW q) ((N : Int) - 1074) f = some (.tup [.int .u64 ((q + N * 4503599627370496 + sgnOf m : Nat) : Int), .int .u8 f]) := by
  have e1 : decide ((N : Int) - 1074 > 971) = false := decide_eq_false (by omega)
  have e2 := low_word q (by omega)
  by_cases h1 : q < 4503599627370496
  · have e3 : N * 4503599627370496 = 0 := by rw [hl h1, Nat.zero_mul]
    rw [e3, Nat.add_zero]
    have := rU_lo m q h1 (rV m (u64 ((q : Int) + (shlI .u64 (u64 (w64 ((N : Int) - 1074 - -1074))) 52))) f) f
    unfold rU
    rw [e1, e2, cond_false]
    exact this
  · have e3 : decide ((q : Int) ≥ 4503599627370496) = true := decide_eq_true (by omega)
    have := rU_hi m q N hq (by omega) f
    unfold rU
    rw [e1, e2, cond_false, e3, cond_true]
    exact this
/-- The last steps: the quotient may have one bit more. -/
theorem rT_at (m : Bool) (k : Int) {q0 N : Nat} {u : Bool} (f : Int) (h1 : N ≤ 1000000) (hq : q0 < 9007199254740992) (hl : N ≠ 0 → 4503599627370496 ≤ q0) :
    rT m k (toW (q0 + u.toNat)) ((N : Int) - 1074) f = some (.tup (if q0 + N * 4503599627370496 + u.toNat ≥ infN then [.int .u64 ((overN k m + sgnOf m : Nat) : Int), .int .u8 20] else [.int .u64 ((q0 + N * 4503599627370496 + u.toNat + sgnOf m : Nat) : Int), .int .u8 f])) := by
  have hu := Bool.toNat_le u
  generalize u.toNat = c at *
  have hv : valW (toW (q0 + c)) = q0 + c := by rw [valW_toW]; exact Nat.mod_eq_of_lt (by omega)
  unfold rT
  rw [okW_toW, hv]
  by_cases h2 : q0 + c < 9007199254740992
  · have h3 : lenN (q0 + c) ≤ 53 := lenN_le.2 h2
    have h3' : decide (((lenN (q0 + c) : Nat) : Int) > 53) = false := decide_eq_false (by omega)
    rw [h3']
    simp only [chk, cond_true, cond_false]
    by_cases h4 : (N : Int) - 1074 > 971
    · have h5 : q0 + N * 4503599627370496 + c ≥ infN := by
        have := hl (by omega)
        unfold infN
        omega
      rw [rU_over m k _ f h4, if_pos h5]
    · have h5 : ¬ q0 + N * 4503599627370496 + c ≥ infN := by unfold infN; omega
      have h6 : q0 + c + N * 4503599627370496 + sgnOf m = q0 + N * 4503599627370496 + c + sgnOf m := by omega
      rw [rU_at m k f (by omega) h2 (by omega), if_neg h5, h6]
  · have h3 : ¬ lenN (q0 + c) ≤ 53 := fun h => by have := lenN_le.1 h; omega
    have h3' : decide (((lenN (q0 + c) : Nat) : Int) > 53) = true := decide_eq_true (by omega)
    have h5 : q0 + c = 9007199254740992 := by omega
    rw [h3', h5, w64_mid (by omega) (by omega), show (N : Int) - 1074 + 1 = ((N + 1 : Nat) : Int) - 1074 by omega]
    simp only [chk, cond_true]
    have h7 : (9007199254740992 / 2 ^ (1 : Int).toNat : Nat) = 4503599627370496 := rfl
    rw [h7]
    by_cases h4 : ((N + 1 : Nat) : Int) - 1074 > 971
    · have h5 : q0 + N * 4503599627370496 + c ≥ infN := by
        unfold infN
        omega
      rw [rU_over m k _ f h4, if_pos h5]
    · have h5 : ¬ q0 + N * 4503599627370496 + c ≥ infN := by unfold infN; omega
      have h6 : 4503599627370496 + (N + 1) * 4503599627370496 + sgnOf m = q0 + N * 4503599627370496 + c + sgnOf m := by omega
      rw [rU_at m k f (by omega) (by omega) (by omega), if_neg h5, h6]
theorem x_zero {s : List Int} (hs : okW s = true) (r : Bool) : xS s r = [0, 0, 0, 0] ↔ nS (valW s) r = 0 := by
  have h0 := toW_inj (x_ok hs r) 0 (by decide)
  rw [show toW 0 = [0, 0, 0, 0] from toW_of 0 0 0 0 0 0 (by decide) (by decide) (by decide) (by decide) rfl] at h0
  rw [eq_comm, h0]
  rcases x_cases hs 0 r with h | h | h
  · rw [h.2.1, h.2.2.2]
    unfold nS
    simp
    omega
  · have := h.2.2.2.2
    rw [h.2.1, h.2.2.2.1]
    unfold nS
    simp
    intro e
    rw [← e] at this
    exact absurd this (by decide)
  · rw [h.2.2.1, h.2.2.2.2]
    unfold nS
    simp
theorem x_top {s : List Int} (hs : okW s = true) (e : Int) (r : Bool) : xE e s r + ((lenN (valW (xS s r)) : Nat) : Int) = topN (nS (valW s) r) (nE e r) := by
  have h1 := x_S hs r
  have h2 := x_E hs e r
  rcases x_cases hs e r with h | h | h
  · rw [h.1] at h1 h2
    rw [← h1, ← h2]; rfl
  · obtain ⟨g1, g2, g3, rfl, g5⟩ := h
    rw [g2, g3]
    unfold topN nS nE
    simp only [if_true]
    have : lenN (2 * valW s + 1) = lenN (valW s) + 1 := by
      have := lenN_add (m := 2 * valW s + 1) (k := 1) (by
        have : 0 < valW s := by
          rcases Nat.eq_zero_or_pos (valW s) with h | h
          · rw [h] at g5; exact absurd g5 (by decide)
          · exact h
        omega)
      rw [show (2 * valW s + 1) / 2 ^ 1 = valW s by omega] at this
      omega
    omega
  · rw [h.1] at h1 h2
    rw [← h1, ← h2]; rfl
theorem lenN_W {s : List Int} (hs : okW s = true) : lenN (valW s) ≤ 256 := lenN_le.2 (valW_lt hs)
/-- The main part: a number that is not 0. -/
theorem rM_at (m : Bool) (k : Int) {s : List Int} (hs : okW s = true) {e : Int} (he : -200000 ≤ e ∧ e ≤ 200000) (r : Bool) (hp : 0 < nS (valW s) r) :
    rM m k (xS s r) (xE e s r) (xR s r) (topN (nS (valW s) r) (nE e r)) = some (.tup [.int .u64 ((rndP m (nS (valW s) r) (nE e r) k : Nat) : Int), .int .u8 ((rndF m (nS (valW s) r) (nE e r) k : Nat) : Int)]) := by
  have hS := x_S hs r
  have hE := x_E hs e r
  have hok := x_ok hs r
  have hlW := lenN_W hok
  have ht := x_top hs e r
  have he2 : -200001 ≤ xE e s r ∧ xE e s r ≤ 200000 := by
    rcases x_cases hs e r with h | h | h
    · rw [h.2.2.1]; omega
    · rw [h.2.2.1]; omega
    · rw [h.2.2.2.1]; omega
  have hr : xR s r = true → 255 ≤ lenN (valW (xS s r)) := by
    intro hx
    rcases x_cases hs e r with h | h | h
    · rw [h.1] at hx; cases hx
    · rw [h.2.1]; exact h.2.2.2.2
    · rw [h.1] at hx; cases hx
  have hnE : nE e r - 1 ≤ xE e s r ∧ xE e s r ≤ nE e r + 1 := by
    have : nE (xE e s r) (xR s r) = xE e s r - 1 ∨ nE (xE e s r) (xR s r) = xE e s r := by unfold nE; cases xR s r <;> simp
    omega
  have hq : ∀ n, qN (nS (valW s) r) (n - nE e r) = qN (nS (valW s) r) (n - nE e r) := fun _ => rfl
  unfold rM rN inexC tinyC toC
  simp only [stk_eq]
  rw [hS, hE]
  generalize nS (valW s) r = S at *
  generalize nE e r = X at *
  generalize xE e s r = e' at *
  generalize xR s r = r' at *
  generalize xS s r = s' at *
  have hT : topN S X = X + lenN S := rfl
  rw [w64_mid (by omega) (by omega)]
  have hL : (if (-1074) > topN S X - 53 then (-1074) else topN S X - 53) = lowN S X := by unfold lowN; omega
  rw [hL]
  have g1 := low_ge S X
  have g2 : lowN S X ≤ 300000 := by unfold lowN; omega
  have m1 : mayC s' e' r' (lowN S X) = true := mayC_iff.2 ⟨hok, by omega, by omega, fun h => by have := hr h; unfold lowN; omega⟩
  have m2 : mayC s' e' r' (topN S X - 53) = true := mayC_iff.2 ⟨hok, by omega, by omega, fun h => by have := hr h; omega⟩
  have hlt := q_lt hp X
  have hge := q_ge hp X
  have hR : ∀ f : Int, rT m k (toW (toN S (lowN S X - X) k m)) (lowN S X) f = some (.tup (if rawN m S X k ≥ infN then [.int .u64 ((overN k m + sgnOf m : Nat) : Int), .int .u8 20] else [.int .u64 ((rawN m S X k + sgnOf m : Nat) : Int), .int .u8 f])) := by
    intro f
    obtain ⟨N, hN⟩ : ∃ N : Nat, lowN S X = (N : Int) - 1074 := ⟨(lowN S X + 1074).toNat, by omega⟩
    have hN2 : (lowN S X + 1074).toNat = N := by omega
    unfold toN rawN baseN
    rw [hN2]
    have := rT_at m k (q0 := qN S (lowN S X - X)) (N := N) (u := upD S (lowN S X - X) k m) f (by omega) hlt (fun h => hge (by omega))
    rw [← hN] at this
    exact this
  have hti : (if topN S X - 53 ≥ -1074 then false else if topN S X < -1022 then true else decide (lenN (toN S (topN S X - 53 - X) k m % 115792089237316195423570985008687907853269984665640564039457584007913129639936) ≤ 53)) = tinyN S X k m := by
    unfold tinyN
    have : toN S (topN S X - 53 - X) k m % 115792089237316195423570985008687907853269984665640564039457584007913129639936 = toN S (topN S X - 53 - X) k m := by
      refine Nat.mod_eq_of_lt ?_
      have h1 := lenN_q hp (topN S X - 53 - X)
      have h2 := lenN_le (v := qN S (topN S X - 53 - X)) (k := 53)
      have h3 : qN S (topN S X - 53 - X) < 2 ^ 53 := h2.1 (by omega)
      have h4 := Bool.toNat_le (upD S (topN S X - 53 - X) k m)
      unfold toN
      omega
    rw [this]
  rw [m1, m2, hti, hR, hR, hR]
  unfold rndP rndF sizeP
  have h0 : ¬ S = 0 := by omega
  rw [if_neg h0, if_neg h0]
  generalize rawN m S X k = R at *
  generalize overN k m = o
  generalize sgnOf m = g
  generalize infN = I at *
  generalize tinyN S X k m = t
  generalize inexN S (lowN S X - X) = i
  clear hR hti m1 m2 hlt hge
  by_cases hI : R ≥ I
  · simp only [if_pos hI]
    cases i <;> cases t <;> rfl
  · simp only [if_neg hI]
    cases i <;> cases t <;> rfl
theorem ok_round : EntOk Tryz.prog 71 (entS false sp_round) := by
  refine contractS (orc := orcRound) (lo := []) Tryz.func71 (orc_cons ok_near (orc_cons ok_exact (orc_cons ok_sign (orc_cons ok_pCopy (orc_cons ok_wLen (orc_cons ok_to (orc_cons ok_tiny (orc_cons ok_wShr (orc_cons ok_over orc_nil))))))))) (by kernel_rfl) (by kernel_rfl) (by kernel_rfl) (loops_none (by kernel_rfl)) fun args r h => ?_
  unfold sp_round at h
  split at h
  · rename_i m e s r k
    simp only [Option.some.injEq, Prod.mk.injEq] at h
    obtain ⟨hs, rfl⟩ := h
    refine ⟨by kernel_rfl, .inr rfl, (run_round m e s r k).trans ?_⟩
    have hl : lenN (nS (valW s) r) ≤ 300 := by
      have h1 := lenN_W hs
      have h2 : nS (valW s) r / 2 ^ 1 ≤ valW s := by
        have : nS (valW s) r ≤ 2 * valW s + 1 := by unfold nS; split <;> omega
        omega
      have h3 := lenN_mono h2
      rw [lenN_div] at h3
      omega
    obtain ⟨c1, c2⟩ := rnd_clamp hl (c := 131072) (by decide) e k m r
    unfold pR fR
    rw [stk_eq, stk_eq]
    unfold rndP
    rw [← c1, ← c2]
    have hc : -131072 ≤ clampI 131072 e ∧ clampI 131072 e ≤ 131072 := by unfold clampI; omega
    generalize clampI 131072 e = e' at *
    rw [hs, smI_iff.2 (by omega)]
    unfold rL
    by_cases h0 : nS (valW s) r = 0
    · rw [decide_eq_true ((x_zero hs r).2 h0), h0]
      have e1 : sizeP m 0 (nE e' r) k = 0 := if_pos rfl
      have e2 : rndF m 0 (nE e' r) k = 0 := if_pos rfl
      rw [e1, e2, inU_zero, inU_sgn]
      cases m <;> rfl
    · rw [decide_eq_false (fun h => h0 ((x_zero hs r).1 h)), x_ok hs r]
      have hn := x_top hs e' r
      have hlW := lenN_W (x_ok hs r)
      have he2 : -200001 ≤ xE e' s r ∧ xE e' s r ≤ 200000 := by
        rcases x_cases hs e' r with h | h | h
        · rw [h.2.2.1]; omega
        · rw [h.2.2.1]; omega
        · rw [h.2.2.2.1]; omega
      rw [w64_mid (by omega) (by omega), hn]
      have := rM_at m k hs (e := e') (by omega) r (by omega)
      unfold rndP at this
      simp only [chk, Bool.and_self, cond_true, cond_false]
      exact this
  · cases h
end
end Go.Proofs.YtbakldcbaikgpaaGreatDoor
/- tillerlaw04: sure; signs, between. Own work. -/
namespace Go.Proofs.YtbakldcbaikgpaaGreatDoor
set_option maxRecDepth 100000
noncomputable section
/-! ### RndSigns -/
theorem rndP_lt (m : Bool) (S : Nat) (x k : Int) : sizeP m S x k < 9223372036854775808 := by
  have := size_le m S x k
  unfold infN at this
  omega
/-! ### RndBetween -/
end
end Go.Proofs.YtbakldcbaikgpaaGreatDoor
