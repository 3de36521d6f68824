/- rnd: sign, over, up, near, exact. Own work. -/
import Derived.Test.YtbakldcbaikgpaaGreatDoorRn3
namespace Go.Proofs.YtbakldcbaikgpaaGreatDoor
set_option maxRecDepth 100000
noncomputable section

/-- What the kernel leaves as it is. -/
def stk {α : Type} (x : α) : α := bif nob then x else x
theorem stk_eq {α : Type} (x : α) : stk x = x := nob_same x

def smI (x : Int) : Bool := stk (decide (-1000000 ≤ x) && decide (x ≤ 1000000))
theorem smI_iff {x : Int} : smI x = true ↔ -1000000 ≤ x ∧ x ≤ 1000000 := by unfold smI; rw [stk_eq]; simp

theorem w64_mid {x : Int} (h0 : -1000000000 ≤ x) (h1 : x ≤ 1000000000) : w64 x = x := by unfold w64; rw [IntKind.wrap_i64]; omega

/-! ### sign, over -/

def sp_sign : List AV → Option (Bool × AV)
  | [.bool b] => some (true, .int .u64 ((sgnOf b : Nat) : Int))
  | _ => none

theorem run_sign (b : Bool) : callA (env Tryz.f106.ntmps [] []) (bodyC Tryz.f106) Tryz.f106.results.toList (slots 0 [.bool b]) some =
    bif b then some (.int .u64 9223372036854775808) else some (.int .u64 0) := by kernel_rfl

theorem ok_sign : EntOk Tryz.prog 106 (entS false sp_sign) := by
  refine contractS (orc := []) (lo := []) Tryz.func106 orc_nil (by kernel_rfl) (by kernel_rfl) (by kernel_rfl) (loops_none (by kernel_rfl)) fun args r h => ?_
  unfold sp_sign at h
  split at h
  · rename_i b
    simp only [Option.some.injEq, Prod.mk.injEq] at h
    obtain ⟨-, rfl⟩ := h
    refine ⟨by kernel_rfl, .inr rfl, (run_sign b).trans ?_⟩
    cases b <;> rfl
  · cases h

def orcOver : List (FuncId × Ent) := [(46, entS false sp_pNeg)]

/-- What comes of a pattern with a sign. -/
def overT (b : Bool) (p : Int) : Option AV := bif b then chk (inU p) (some (.int .u64 ((negN p.toNat : Nat) : Int))) else some (.int .u64 p)

theorem run_over (b : Bool) (k : Int) : callA (env Tryz.f111.ntmps orcOver []) (bodyC Tryz.f111) Tryz.f111.results.toList (slots 0 [.bool b, .int .i64 k]) some =
    bif k == 2 then overT b 9218868437227405311 else bif k == 3 then (bif b then overT b 9218868437227405311 else bif k == 4 then (bif !b then overT b 9218868437227405311 else overT b 9218868437227405312) else overT b 9218868437227405312) else
      bif k == 4 then (bif !b then overT b 9218868437227405311 else overT b 9218868437227405312) else overT b 9218868437227405312 := by kernel_rfl

def sp_over : List AV → Option (Bool × AV)
  | [.bool b, .int .i64 k] => some (true, .int .u64 ((overN k b + sgnOf b : Nat) : Int))
  | _ => none

theorem overT_at (b : Bool) : overT b 9218868437227405311 = some (.int .u64 ((infN - 1 + sgnOf b : Nat) : Int)) ∧ overT b 9218868437227405312 = some (.int .u64 ((infN + sgnOf b : Nat) : Int)) := by
  have h1 : inU 9218868437227405311 = true := inU_iff.2 (by omega)
  have h2 : inU 9218868437227405312 = true := inU_iff.2 (by omega)
  unfold overT
  rw [h1, h2]
  cases b <;> exact ⟨rfl, rfl⟩

theorem inU_one : inU 1 = true := inU_iff.2 (by omega)
theorem inU_zero : inU 0 = true := inU_iff.2 (by omega)

theorem ok_over : EntOk Tryz.prog 111 (entS false sp_over) := by
  refine contractS (orc := orcOver) (lo := []) Tryz.func111 (orc_cons ok_pNeg orc_nil) (by kernel_rfl) (by kernel_rfl) (by kernel_rfl) (loops_none (by kernel_rfl)) fun args r h => ?_
  unfold sp_over at h
  split at h
  · rename_i b k
    simp only [Option.some.injEq, Prod.mk.injEq] at h
    obtain ⟨-, rfl⟩ := h
    refine ⟨by kernel_rfl, .inr rfl, (run_over b k).trans ?_⟩
    rw [(overT_at b).1, (overT_at b).2]
    unfold overN
    by_cases h2 : k = 2
    · subst h2
      rw [if_pos (.inl rfl)]
      rfl
    · by_cases h3 : k = 3
      · subst h3
        cases b
        · rw [if_neg (by simp)]; rfl
        · rw [if_pos (by simp)]; rfl
      · by_cases h4 : k = 4
        · subst h4
          cases b
          · rw [if_pos (by simp)]; rfl
          · rw [if_neg (by simp)]; rfl
        · rw [if_neg (by simp [h2, h3, h4]), beq_eq_false_iff_ne.2 h2, beq_eq_false_iff_ne.2 h3, beq_eq_false_iff_ne.2 h4]
          rfl
  · cases h

/-! ### up -/

theorem run_up (k : Int) (m od ha re : Bool) : callA (env Tryz.f142.ntmps [] []) (bodyC Tryz.f142) Tryz.f142.results.toList (slots 0 [.int .i64 k, .bool m, .bool od, .bool ha, .bool re]) some =
    bif k == 2 then some (.bool false) else bif k == 3 then bif !m then bif ha then some (.bool true) else some (.bool re) else some (.bool false) else bif k == 4 then bif m then bif ha then some (.bool true) else some (.bool re) else some (.bool false) else
      bif k == 1 then some (.bool ha) else bif ha then bif re then some (.bool true) else some (.bool od) else some (.bool false) := by kernel_rfl

def sp_up : List AV → Option (Bool × AV)
  | [.int .i64 k, .bool m, .bool od, .bool ha, .bool re] => some (true, .bool (stk (upN k m od ha re)))
  | _ => none

theorem ok_up : EntOk Tryz.prog 142 (entS false sp_up) := by
  refine contractS (orc := []) (lo := []) Tryz.func142 orc_nil (by kernel_rfl) (by kernel_rfl) (by kernel_rfl) (loops_none (by kernel_rfl)) fun args r h => ?_
  unfold sp_up at h
  split at h
  · rename_i k m od ha re
    simp only [Option.some.injEq, Prod.mk.injEq] at h
    obtain ⟨-, rfl⟩ := h
    refine ⟨by kernel_rfl, .inr rfl, (run_up k m od ha re).trans ?_⟩
    rw [stk_eq]
    unfold upN
    by_cases h2 : k = 2
    · subst h2; rfl
    rw [beq_eq_false_iff_ne.2 h2, if_neg h2]
    by_cases h3 : k = 3
    · subst h3; cases m <;> cases ha <;> rfl
    rw [beq_eq_false_iff_ne.2 h3, if_neg h3]
    by_cases h4 : k = 4
    · subst h4; cases m <;> cases ha <;> rfl
    rw [beq_eq_false_iff_ne.2 h4, if_neg h4]
    by_cases h1 : k = 1
    · subst h1; rfl
    rw [beq_eq_false_iff_ne.2 h1, if_neg h1]
    cases ha <;> cases re <;> rfl
  · cases h

/-! ### near -/

theorem run_near (m : Bool) (e : Int) (s : List Int) (r : Bool) : callA (env Tryz.f103.ntmps [] []) (bodyC Tryz.f103) Tryz.f103.results.toList (slots 0 [.st [.bool m, .int .i64 e, .ints 4 .u64 s, .bool r]]) some =
    some (.st [.bool m, .int .i64 (if 131072 < (if (-131072) > e then (-131072) else e) then 131072 else (if (-131072) > e then (-131072) else e)), .ints 4 .u64 s, .bool r]) := by kernel_rfl

def sp_near : List AV → Option (Bool × AV)
  | [.st [.bool m, .int .i64 e, .ints 4 .u64 s, .bool r]] => some (true, .st [.bool m, .int .i64 (clampI 131072 e), .ints 4 .u64 s, .bool r])
  | _ => none

theorem ok_near : EntOk Tryz.prog 103 (entS false sp_near) := by
  refine contractS (orc := []) (lo := []) Tryz.func103 orc_nil (by kernel_rfl) (by kernel_rfl) (by kernel_rfl) (loops_none (by kernel_rfl)) fun args r h => ?_
  unfold sp_near at h
  split at h
  · rename_i m e s r
    simp only [Option.some.injEq, Prod.mk.injEq] at h
    obtain ⟨-, rfl⟩ := h
    refine ⟨by kernel_rfl, .inr rfl, (run_near m e s r).trans ?_⟩
    have : (if 131072 < (if (-131072) > e then (-131072) else e) then 131072 else (if (-131072) > e then (-131072) else e)) = clampI 131072 e := by unfold clampI; split <;> split at * <;> omega
    rw [this]
  · cases h

/-! ### exact -/

def xR (s : List Int) (r : Bool) : Bool := stk (r && decide (254 < lenN (valW s)))
def xS (s : List Int) (r : Bool) : List Int := stk (if r = true ∧ lenN (valW s) ≤ 254 then toW (2 * valW s + 1) else s)
def xE (e : Int) (s : List Int) (r : Bool) : Int := stk (if r = true ∧ lenN (valW s) ≤ 254 then e - 1 else e)

theorem x_cases {s : List Int} (_hs : okW s = true) (e : Int) (r : Bool) :
    (xR s r = false ∧ xS s r = s ∧ xE e s r = e ∧ r = false) ∨ (xR s r = true ∧ xS s r = s ∧ xE e s r = e ∧ r = true ∧ 255 ≤ lenN (valW s)) ∨ (xR s r = false ∧ xS s r = toW (2 * valW s + 1) ∧ valW (xS s r) = 2 * valW s + 1 ∧ xE e s r = e - 1 ∧ r = true) := by
  unfold xR xS xE
  simp only [stk_eq]
  cases r with
  | false => left; simp
  | true =>
    right
    by_cases h : lenN (valW s) ≤ 254
    · right
      have h2 := lenN_le.1 h
      have : ¬ 254 < lenN (valW s) := by omega
      simp only [h, this, and_self, if_true, decide_false, Bool.and_false, true_and, and_true]
      rw [valW_toW]
      exact Nat.mod_eq_of_lt (by omega)
    · left
      have : 254 < lenN (valW s) := by omega
      simp [h, this]
      omega

theorem x_ok {s : List Int} (hs : okW s = true) (r : Bool) : okW (xS s r) = true := by
  rcases x_cases hs 0 r with h | h | h
  · rw [h.2.1]; exact hs
  · rw [h.2.1]; exact hs
  · rw [h.2.1]; exact okW_toW _

theorem x_S {s : List Int} (hs : okW s = true) (r : Bool) : nS (valW (xS s r)) (xR s r) = nS (valW s) r := by
  rcases x_cases hs 0 r with h | h | h
  · rw [h.1, h.2.1, h.2.2.2]
  · rw [h.1, h.2.1, h.2.2.2.1]
  · rw [h.1, h.2.2.1, h.2.2.2.2]; rfl
theorem x_E {s : List Int} (hs : okW s = true) (e : Int) (r : Bool) : nE (xE e s r) (xR s r) = nE e r := by
  rcases x_cases hs e r with h | h | h
  · rw [h.1, h.2.2.1, h.2.2.2]
  · rw [h.1, h.2.2.1, h.2.2.2.1]
  · rw [h.1, h.2.2.2.1, h.2.2.2.2]; rfl

def orcExact : List (FuncId × Ent) := [(107, entS false sp_wLen), (139, entS false sp_wShl), (114, entS false sp_wOf), (138, entS false sp_wAdd)]

theorem run_exact (m : Bool) (e : Int) (s : List Int) (r : Bool) : callA (env Tryz.f104.ntmps orcExact []) (bodyC Tryz.f104) Tryz.f104.results.toList (slots 0 [.st [.bool m, .int .i64 e, .ints 4 .u64 s, .bool r]]) some =
    bif !r then some (.st [.bool m, .int .i64 e, .ints 4 .u64 s, .bool r]) else chk (okW s) (bif decide (((lenN (valW s) : Nat) : Int) > 254) then some (.st [.bool m, .int .i64 e, .ints 4 .u64 s, .bool r]) else
      chk (okW s) (chk (inU 1) (chk (okW (toW (valW s * 2 ^ (1 : Int).toNat)) && okW (toW (1 : Int).toNat)) (some (.st [.bool m, .int .i64 (w64 (e - 1)), .ints 4 .u64 (toW (valW (toW (valW s * 2 ^ (1 : Int).toNat)) + valW (toW (1 : Int).toNat))), .bool false]))))) := by kernel_rfl

def sp_exact : List AV → Option (Bool × AV)
  | [.st [.bool m, .int .i64 e, .ints 4 .u64 s, .bool r]] => some (okW s && smI e, .st [.bool m, .int .i64 (xE e s r), .ints 4 .u64 (xS s r), .bool (xR s r)])
  | _ => none

theorem toW_mod (v : Nat) : toW (v % 115792089237316195423570985008687907853269984665640564039457584007913129639936) = toW v := by
  have h := toW_valW (okW_toW v)
  rw [valW_toW] at h
  exact h

theorem ok_exact : EntOk Tryz.prog 104 (entS false sp_exact) := by
  refine contractS (orc := orcExact) (lo := []) Tryz.func104 (orc_cons ok_wLen (orc_cons ok_wShl (orc_cons ok_wOf (orc_cons ok_wAdd orc_nil)))) (by kernel_rfl) (by kernel_rfl) (by kernel_rfl) (loops_none (by kernel_rfl)) fun args r h => ?_
  unfold sp_exact at h
  split at h
  · rename_i m e s r
    simp only [Option.some.injEq, Prod.mk.injEq, Bool.and_eq_true, smI_iff] at h
    obtain ⟨⟨hs, he⟩, rfl⟩ := h
    refine ⟨by kernel_rfl, .inr rfl, (run_exact m e s r).trans ?_⟩
    rcases x_cases hs e r with h | h | h
    · obtain ⟨h1, h2, h3, rfl⟩ := h
      rw [h1, h2, h3]
      rfl
    · obtain ⟨h1, h2, h3, rfl, h5⟩ := h
      rw [h1, h2, h3, hs, decide_eq_true (show ((lenN (valW s) : Nat) : Int) > 254 by omega)]
      rfl
    · obtain ⟨h1, h2, h3, h4, rfl⟩ := h
      have hl : lenN (valW s) ≤ 254 := by
        by_cases h : lenN (valW s) ≤ 254
        · exact h
        · exfalso
          unfold xR at h1
          rw [stk_eq] at h1
          simp at h1
          omega
      have hv := lenN_le.1 hl
      rw [h1, h2, h4, hs, decide_eq_false (show ¬ ((lenN (valW s) : Nat) : Int) > 254 by omega), inU_one, okW_toW, okW_toW, valW_toW, valW_toW, w64_mid (by omega) (by omega)]
      have e1 : (valW s * 2 ^ (1 : Int).toNat) % 115792089237316195423570985008687907853269984665640564039457584007913129639936 + (1 : Int).toNat % 115792089237316195423570985008687907853269984665640564039457584007913129639936 = 2 * valW s + 1 := by
        rw [show (1 : Int).toNat = 1 from rfl, Nat.pow_one, Nat.mod_eq_of_lt (show valW s * 2 < _ by omega)]
        omega
      rw [e1]
      rfl
  · cases h
end
end Go.Proofs.YtbakldcbaikgpaaGreatDoor
