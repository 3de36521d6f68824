/- wide: lengths, bits, comparison. Own work. -/
import Derived.Test.YtdkebceiljdgjaaWide3
namespace Go.Proofs.Ytdkebceiljdgjaa
set_option maxRecDepth 100000
noncomputable section

def orcLen : List (FuncId × Ent) := [(96, entS false sp_len64)]

theorem run_wLen (a0 a1 a2 a3 : Int) : callA (env Try.f57.ntmps orcLen []) (bodyC Try.f57) Try.f57.results.toList (slots 0 [.ints 4 .u64 [a0, a1, a2, a3]]) some =
    bif a3 != 0 then chk (inU a3) (some (.int .i64 (w64 (192 + (lenN a3.toNat : Int))))) else bif a2 != 0 then chk (inU a2) (some (.int .i64 (w64 (128 + (lenN a2.toNat : Int))))) else
      bif a1 != 0 then chk (inU a1) (some (.int .i64 (w64 (64 + (lenN a1.toNat : Int))))) else bif a0 != 0 then chk (inU a0) (some (.int .i64 (w64 (0 + (lenN a0.toNat : Int))))) else some (.int .i64 0) := by kernel_rfl

def sp_wLen : List AV → Option (Bool × AV)
  | [.ints 4 .u64 a] => some (okW a, .int .i64 (lenN (valW a)))
  | _ => none

theorem lenN_lt64 {x : Int} (h0 : 0 ≤ x) (h1 : x < 18446744073709551616) : lenN x.toNat ≤ 64 := lenN_le.2 (by omega)

theorem w64_small {x : Int} (h0 : 0 ≤ x) (h1 : x ≤ 100000000) : w64 x = x := by unfold w64; rw [IntKind.wrap_i64]; omega

theorem ok_wLen : EntOk Try.prog 57 (entS false sp_wLen) := by
  refine contractS (orc := orcLen) (lo := []) Try.func57 (orc_cons ok_len64 orc_nil) (by kernel_rfl) (by kernel_rfl) (by kernel_rfl) (loops_none (by kernel_rfl)) fun args r h => ?_
  unfold sp_wLen at h
  split at h
  · rename_i a
    simp only [Option.some.injEq, Prod.mk.injEq] at h
    obtain ⟨ha, rfl⟩ := h
    obtain ⟨a0, a1, a2, a3, rfl, ra0, ra1, ra2, ra3⟩ := okW_split ha
    refine ⟨by kernel_rfl, .inr rfl, (run_wLen a0 a1 a2 a3).trans ?_⟩
    have i0 := inU_iff.2 ra0
    have i1 := inU_iff.2 ra1
    have i2 := inU_iff.2 ra2
    have i3 := inU_iff.2 ra3
    have l0 := lenN_lt64 ra0.1 ra0.2
    have l1 := lenN_lt64 ra1.1 ra1.2
    have l2 := lenN_lt64 ra2.1 ra2.2
    have l3 := lenN_lt64 ra3.1 ra3.2
    have hv : valW [a0, a1, a2, a3] = a0.toNat + 18446744073709551616 * a1.toNat + 340282366920938463463374607431768211456 * a2.toNat + 6277101735386680763835789423207666416102355444464034512896 * a3.toNat := rfl
    have fin : ∀ (k : Nat) (y : Int), 0 ≤ y → y < 18446744073709551616 → k ≤ 192 → k + lenN y.toNat = lenN (valW [a0, a1, a2, a3]) → chk (inU y) (some (AV.int .i64 (w64 ((k : Int) + (lenN y.toNat : Int))))) = some (.int .i64 (lenN (valW [a0, a1, a2, a3]))) := by
      intro k y y0 y1 hk he
      rw [inU_iff.2 ⟨y0, y1⟩]
      have := lenN_lt64 y0 y1
      rw [w64_small (by omega) (by omega), ← he]
      rfl
    by_cases c3 : a3 = 0
    · subst c3
      by_cases c2 : a2 = 0
      · subst c2
        by_cases c1 : a1 = 0
        · subst c1
          by_cases c0 : a0 = 0
          · subst c0
            rfl
          · have hd : a0.toNat = valW [a0, 0, 0, 0] := by rw [hv]; simp
            simp only [bne_self_eq_false, cond_false]
            rw [show (a0 != 0) = true by simp [c0], cond_true]
            exact fin 0 a0 ra0.1 ra0.2 (by decide) (by rw [hd]; omega)
        · have hd : valW [a0, a1, 0, 0] / 2 ^ 64 = a1.toNat := by rw [hv]; simp; omega
          simp only [bne_self_eq_false, cond_false]
          rw [show (a1 != 0) = true by simp [c1], cond_true]
          exact fin 64 a1 ra1.1 ra1.2 (by decide) (by rw [← hd]; exact lenN_add (by rw [hv]; simp; omega))
      · have hd : valW [a0, a1, a2, 0] / 2 ^ 128 = a2.toNat := by rw [hv]; simp; omega
        simp only [bne_self_eq_false, cond_false]
        rw [show (a2 != 0) = true by simp [c2], cond_true]
        exact fin 128 a2 ra2.1 ra2.2 (by decide) (by rw [← hd]; exact lenN_add (by rw [hv]; simp; omega))
    · have hd : valW [a0, a1, a2, a3] / 2 ^ 192 = a3.toNat := by rw [hv]; simp; omega
      rw [show (a3 != 0) = true by simp [c3], cond_true]
      exact fin 192 a3 ra3.1 ra3.2 (by decide) (by rw [← hd]; exact lenN_add (by rw [hv]; simp; omega))
  · cases h

/-! ### Of -/

theorem run_wOf (n : Int) : callA (env Try.f68.ntmps [] []) (bodyC Try.f68) Try.f68.results.toList (slots 0 [.int .u64 n]) some = some (.ints 4 .u64 [n, 0, 0, 0]) := by kernel_rfl

def sp_wOf : List AV → Option (Bool × AV)
  | [.int .u64 n] => some (inU n, .ints 4 .u64 (toW n.toNat))
  | _ => none

theorem toW_small {n : Int} (h0 : 0 ≤ n) (h1 : n < 18446744073709551616) : toW n.toNat = [n, 0, 0, 0] :=
  toW_ofZ n.toNat (k := 0) ⟨h0, h1⟩ ⟨by decide, by decide⟩ ⟨by decide, by decide⟩ ⟨by decide, by decide⟩ (by decide) (by omega)

theorem ok_wOf : EntOk Try.prog 68 (entS false sp_wOf) := by
  refine contractS (orc := []) (lo := []) Try.func68 orc_nil (by kernel_rfl) (by kernel_rfl) (by kernel_rfl) (loops_none (by kernel_rfl)) fun args r h => ?_
  unfold sp_wOf at h
  split at h
  · rename_i n
    simp only [Option.some.injEq, Prod.mk.injEq, inU_iff] at h
    obtain ⟨⟨h0, h1⟩, rfl⟩ := h
    exact ⟨by kernel_rfl, .inr rfl, (run_wOf n).trans (by rw [toW_small h0 h1])⟩
  · cases h

/-! ### Cmp -/

theorem run_wCmp (a0 a1 a2 a3 b0 b1 b2 b3 : Int) : callA (env Try.f106.ntmps [] []) (bodyC Try.f106) Try.f106.results.toList (slots 0 [.ints 4 .u64 [a0, a1, a2, a3], .ints 4 .u64 [b0, b1, b2, b3]]) some =
    bif decide (a3 < b3) then some (.int .i64 (-1)) else bif decide (a3 > b3) then some (.int .i64 1) else bif decide (a2 < b2) then some (.int .i64 (-1)) else bif decide (a2 > b2) then some (.int .i64 1) else
    bif decide (a1 < b1) then some (.int .i64 (-1)) else bif decide (a1 > b1) then some (.int .i64 1) else bif decide (a0 < b0) then some (.int .i64 (-1)) else bif decide (a0 > b0) then some (.int .i64 1) else some (.int .i64 0) := by kernel_rfl

def cmpN (x y : Nat) : Int := if x < y then -1 else if x > y then 1 else 0

def sp_wCmp : List AV → Option (Bool × AV)
  | [.ints 4 .u64 a, .ints 4 .u64 b] => some (okW a && okW b, .int .i64 (cmpN (valW a) (valW b)))
  | _ => none

theorem ok_wCmp : EntOk Try.prog 106 (entS false sp_wCmp) := by
  refine contractS (orc := []) (lo := []) Try.func106 orc_nil (by kernel_rfl) (by kernel_rfl) (by kernel_rfl) (loops_none (by kernel_rfl)) fun args r h => ?_
  unfold sp_wCmp at h
  split at h
  · rename_i a b
    simp only [Option.some.injEq, Prod.mk.injEq, Bool.and_eq_true] at h
    obtain ⟨⟨ha, hb⟩, rfl⟩ := h
    obtain ⟨a0, a1, a2, a3, rfl, ra0, ra1, ra2, ra3⟩ := okW_split ha
    obtain ⟨b0, b1, b2, b3, rfl, rb0, rb1, rb2, rb3⟩ := okW_split hb
    refine ⟨by kernel_rfl, .inr rfl, (run_wCmp a0 a1 a2 a3 b0 b1 b2 b3).trans ?_⟩
    have hz := valZ ra0.1 ra1.1 ra2.1 ra3.1
    have hz' := valZ rb0.1 rb1.1 rb2.1 rb3.1
    generalize valW [a0, a1, a2, a3] = V at *
    generalize valW [b0, b1, b2, b3] = V' at *
    have lo : V < V' → cmpN V V' = -1 := fun h => by unfold cmpN; rw [if_pos h]
    have hi : V' < V → cmpN V V' = 1 := fun h => by unfold cmpN; rw [if_neg (by omega), if_pos h]
    have eq : V = V' → cmpN V V' = 0 := fun h => by unfold cmpN; rw [if_neg (by omega), if_neg (by omega)]
    by_cases c1 : a3 < b3
    · rw [decide_eq_true c1, lo (by omega)]; rfl
    rw [decide_eq_false c1]
    by_cases c2 : a3 > b3
    · rw [decide_eq_true c2, hi (by omega)]; rfl
    rw [decide_eq_false c2]
    by_cases c3 : a2 < b2
    · rw [decide_eq_true c3, lo (by omega)]; rfl
    rw [decide_eq_false c3]
    by_cases c4 : a2 > b2
    · rw [decide_eq_true c4, hi (by omega)]; rfl
    rw [decide_eq_false c4]
    by_cases c5 : a1 < b1
    · rw [decide_eq_true c5, lo (by omega)]; rfl
    rw [decide_eq_false c5]
    by_cases c6 : a1 > b1
    · rw [decide_eq_true c6, hi (by omega)]; rfl
    rw [decide_eq_false c6]
    by_cases c7 : a0 < b0
    · rw [decide_eq_true c7, lo (by omega)]; rfl
    rw [decide_eq_false c7]
    by_cases c8 : a0 > b0
    · rw [decide_eq_true c8, hi (by omega)]; rfl
    rw [decide_eq_false c8, eq (by omega)]; rfl
  · cases h
end
end Go.Proofs.Ytdkebceiljdgjaa
