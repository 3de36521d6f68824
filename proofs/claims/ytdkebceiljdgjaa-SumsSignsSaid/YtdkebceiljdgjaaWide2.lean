/- wide: sums, differences. Own work. -/
import Derived.Test.YtdkebceiljdgjaaWide1
namespace Go.Proofs.Ytdkebceiljdgjaa
set_option maxRecDepth 100000
noncomputable section

def orcAdd : List (FuncId × Ent) := [(99, entS false sp_add64)]
def orcSub : List (FuncId × Ent) := [(105, entS false sp_sub64)]

theorem run_wAdd (a0 a1 a2 a3 b0 b1 b2 b3 : Int) : callA (env Try.f73.ntmps orcAdd []) (bodyC Try.f73) Try.f73.results.toList (slots 0 [.ints 4 .u64 [a0, a1, a2, a3], .ints 4 .u64 [b0, b1, b2, b3]]) some =
    chk (okC a0 b0 0) (chk (okC a1 b1 (addHi a0 b0 0)) (chk (okC a2 b2 (addHi a1 b1 (addHi a0 b0 0))) (chk (okC a3 b3 (addHi a2 b2 (addHi a1 b1 (addHi a0 b0 0))))
      (some (.tup [.ints 4 .u64 [addLo a0 b0 0, addLo a1 b1 (addHi a0 b0 0), addLo a2 b2 (addHi a1 b1 (addHi a0 b0 0)), addLo a3 b3 (addHi a2 b2 (addHi a1 b1 (addHi a0 b0 0)))], .bool (addHi a3 b3 (addHi a2 b2 (addHi a1 b1 (addHi a0 b0 0))) != 0)]))))) := by kernel_rfl

theorem run_wSub (a0 a1 a2 a3 b0 b1 b2 b3 : Int) : callA (env Try.f98.ntmps orcSub []) (bodyC Try.f98) Try.f98.results.toList (slots 0 [.ints 4 .u64 [a0, a1, a2, a3], .ints 4 .u64 [b0, b1, b2, b3]]) some =
    chk (okC a0 b0 0) (chk (okC a1 b1 (subHi a0 b0 0)) (chk (okC a2 b2 (subHi a1 b1 (subHi a0 b0 0))) (chk (okC a3 b3 (subHi a2 b2 (subHi a1 b1 (subHi a0 b0 0))))
      (some (.tup [.ints 4 .u64 [subLo a0 b0 0, subLo a1 b1 (subHi a0 b0 0), subLo a2 b2 (subHi a1 b1 (subHi a0 b0 0)), subLo a3 b3 (subHi a2 b2 (subHi a1 b1 (subHi a0 b0 0)))], .bool (subHi a3 b3 (subHi a2 b2 (subHi a1 b1 (subHi a0 b0 0))) != 0)]))))) := by kernel_rfl

def big256 : Nat := 115792089237316195423570985008687907853269984665640564039457584007913129639936

def sp_wAdd : List AV → Option (Bool × AV)
  | [.ints 4 .u64 a, .ints 4 .u64 b] => some (okW a && okW b, .tup [.ints 4 .u64 (toW (valW a + valW b)), .bool (decide (big256 ≤ valW a + valW b))])
  | _ => none

def sp_wSub : List AV → Option (Bool × AV)
  | [.ints 4 .u64 a, .ints 4 .u64 b] => some (okW a && okW b, .tup [.ints 4 .u64 (toW (valW a + big256 - valW b)), .bool (decide (valW a < valW b))])
  | _ => none

def inR (x : Int) : Prop := 0 ≤ x ∧ x < 18446744073709551616

theorem addC_spec {x y c : Int} (hx : inR x) (hy : inR y) (h0 : 0 ≤ c) (h1 : c ≤ 1) : okC x y c = true ∧ inR (addLo x y c) ∧ (0 ≤ addHi x y c ∧ addHi x y c ≤ 1) ∧ x + y + c = addLo x y c + 18446744073709551616 * addHi x y c := by
  unfold inR at *
  unfold addLo addHi okC
  simp only [Bool.and_eq_true, inU_iff, decide_eq_true_eq]
  omega

theorem subC_spec {x y c : Int} (hx : inR x) (hy : inR y) (h0 : 0 ≤ c) (h1 : c ≤ 1) : okC x y c = true ∧ inR (subLo x y c) ∧ (0 ≤ subHi x y c ∧ subHi x y c ≤ 1) ∧ x - y - c = subLo x y c - 18446744073709551616 * subHi x y c := by
  unfold inR at *
  unfold subLo subHi okC
  simp only [Bool.and_eq_true, inU_iff, decide_eq_true_eq]
  split <;> omega

theorem sum4 {a0 a1 a2 a3 b0 b1 b2 b3 s0 s1 s2 s3 c0 c1 c2 c3 : Int} (e0 : a0 + b0 + 0 = s0 + 18446744073709551616 * c0) (e1 : a1 + b1 + c0 = s1 + 18446744073709551616 * c1) (e2 : a2 + b2 + c1 = s2 + 18446744073709551616 * c2) (e3 : a3 + b3 + c2 = s3 + 18446744073709551616 * c3) :
    (a0 + 18446744073709551616 * a1 + 340282366920938463463374607431768211456 * a2 + 6277101735386680763835789423207666416102355444464034512896 * a3) + (b0 + 18446744073709551616 * b1 + 340282366920938463463374607431768211456 * b2 + 6277101735386680763835789423207666416102355444464034512896 * b3) =
    s0 + 18446744073709551616 * s1 + 340282366920938463463374607431768211456 * s2 + 6277101735386680763835789423207666416102355444464034512896 * s3 + 115792089237316195423570985008687907853269984665640564039457584007913129639936 * c3 := by
  omega

theorem dif4 {a0 a1 a2 a3 b0 b1 b2 b3 s0 s1 s2 s3 c0 c1 c2 c3 : Int} (e0 : a0 - b0 - 0 = s0 - 18446744073709551616 * c0) (e1 : a1 - b1 - c0 = s1 - 18446744073709551616 * c1) (e2 : a2 - b2 - c1 = s2 - 18446744073709551616 * c2) (e3 : a3 - b3 - c2 = s3 - 18446744073709551616 * c3) :
    (a0 + 18446744073709551616 * a1 + 340282366920938463463374607431768211456 * a2 + 6277101735386680763835789423207666416102355444464034512896 * a3) - (b0 + 18446744073709551616 * b1 + 340282366920938463463374607431768211456 * b2 + 6277101735386680763835789423207666416102355444464034512896 * b3) =
    s0 + 18446744073709551616 * s1 + 340282366920938463463374607431768211456 * s2 + 6277101735386680763835789423207666416102355444464034512896 * s3 - 115792089237316195423570985008687907853269984665640564039457584007913129639936 * c3 := by
  omega

theorem carry4 {u s0 s1 s2 s3 c3 : Int} (h : u = s0 + 18446744073709551616 * s1 + 340282366920938463463374607431768211456 * s2 + 6277101735386680763835789423207666416102355444464034512896 * s3 + 115792089237316195423570985008687907853269984665640564039457584007913129639936 * c3)
    (l0 : inR s0) (l1 : inR s1) (l2 : inR s2) (l3 : inR s3) (hc : 0 ≤ c3) : (c3 != 0) = decide (115792089237316195423570985008687907853269984665640564039457584007913129639936 ≤ u) := by
  unfold inR at *
  by_cases h0 : c3 = 0
  · subst h0
    rw [decide_eq_false (by omega)]; rfl
  · rw [decide_eq_true (by omega)]
    simp [h0]

theorem borrow4 {u s0 s1 s2 s3 c3 : Int} (h : u = s0 + 18446744073709551616 * s1 + 340282366920938463463374607431768211456 * s2 + 6277101735386680763835789423207666416102355444464034512896 * s3 - 115792089237316195423570985008687907853269984665640564039457584007913129639936 * c3)
    (l0 : inR s0) (l1 : inR s1) (l2 : inR s2) (l3 : inR s3) (hc : 0 ≤ c3) : (c3 != 0) = decide (u < 0) := by
  unfold inR at *
  by_cases h0 : c3 = 0
  · subst h0
    rw [decide_eq_false (by omega)]; rfl
  · rw [decide_eq_true (by omega)]
    simp [h0]

theorem big_iff (V : Nat) : decide (115792089237316195423570985008687907853269984665640564039457584007913129639936 ≤ (V : Int)) = decide (big256 ≤ V) := by
  unfold big256
  exact decide_eq_decide.2 (by omega)

theorem less_iff (V V' : Nat) : decide ((V : Int) - (V' : Int) < 0) = decide (V < V') := decide_eq_decide.2 (by omega)

theorem sub_cast (V V' : Nat) {u c : Int} (hs : (V : Int) - (V' : Int) = u - 115792089237316195423570985008687907853269984665640564039457584007913129639936 * c) (hlt : V' < 115792089237316195423570985008687907853269984665640564039457584007913129639936) :
    ((V + big256 - V' : Nat) : Int) = u + 115792089237316195423570985008687907853269984665640564039457584007913129639936 * (1 - c) := by
  unfold big256
  omega

theorem ok_wAdd : EntOk Try.prog 73 (entS false sp_wAdd) := by
  refine contractS (orc := orcAdd) (lo := []) Try.func73 (orc_cons ok_add64 orc_nil) (by kernel_rfl) (by kernel_rfl) (by kernel_rfl) (loops_none (by kernel_rfl)) fun args r h => ?_
  unfold sp_wAdd at h
  split at h
  · rename_i a b
    simp only [Option.some.injEq, Prod.mk.injEq, Bool.and_eq_true] at h
    obtain ⟨⟨ha, hb⟩, rfl⟩ := h
    obtain ⟨a0, a1, a2, a3, rfl, ra0, ra1, ra2, ra3⟩ := okW_split ha
    obtain ⟨b0, b1, b2, b3, rfl, rb0, rb1, rb2, rb3⟩ := okW_split hb
    refine ⟨by kernel_rfl, .inr rfl, (run_wAdd a0 a1 a2 a3 b0 b1 b2 b3).trans ?_⟩
    obtain ⟨k0, l0, ⟨m0, n0⟩, e0⟩ := addC_spec ra0 rb0 (c := 0) (by omega) (by omega)
    obtain ⟨k1, l1, ⟨m1, n1⟩, e1⟩ := addC_spec ra1 rb1 m0 n0
    obtain ⟨k2, l2, ⟨m2, n2⟩, e2⟩ := addC_spec ra2 rb2 m1 n1
    obtain ⟨k3, l3, ⟨m3, n3⟩, e3⟩ := addC_spec ra3 rb3 m2 n2
    rw [k0, k1, k2, k3]
    simp only [chk, cond_true]
    generalize addLo a0 b0 0 = s0 at *
    generalize addHi a0 b0 0 = c0 at *
    generalize addLo a1 b1 c0 = s1 at *
    generalize addHi a1 b1 c0 = c1 at *
    generalize addLo a2 b2 c1 = s2 at *
    generalize addHi a2 b2 c1 = c2 at *
    generalize addLo a3 b3 c2 = s3 at *
    generalize addHi a3 b3 c2 = c3 at *
    have hz := valZ ra0.1 ra1.1 ra2.1 ra3.1
    have hz' := valZ rb0.1 rb1.1 rb2.1 rb3.1
    have hs := sum4 e0 e1 e2 e3
    have hv : ((valW [a0, a1, a2, a3] + valW [b0, b1, b2, b3] : Nat) : Int) = s0 + 18446744073709551616 * s1 + 340282366920938463463374607431768211456 * s2 + 6277101735386680763835789423207666416102355444464034512896 * s3 + 115792089237316195423570985008687907853269984665640564039457584007913129639936 * c3 := by
      rw [Int.natCast_add, hz, hz', hs]
    rw [toW_ofZ _ l0 l1 l2 l3 m3 hv, carry4 hv l0 l1 l2 l3 m3]
    rw [big_iff]
  · cases h

theorem ok_wSub : EntOk Try.prog 98 (entS false sp_wSub) := by
  refine contractS (orc := orcSub) (lo := []) Try.func98 (orc_cons ok_sub64 orc_nil) (by kernel_rfl) (by kernel_rfl) (by kernel_rfl) (loops_none (by kernel_rfl)) fun args r h => ?_
  unfold sp_wSub at h
  split at h
  · rename_i a b
    simp only [Option.some.injEq, Prod.mk.injEq, Bool.and_eq_true] at h
    obtain ⟨⟨ha, hb⟩, rfl⟩ := h
    obtain ⟨a0, a1, a2, a3, rfl, ra0, ra1, ra2, ra3⟩ := okW_split ha
    obtain ⟨b0, b1, b2, b3, rfl, rb0, rb1, rb2, rb3⟩ := okW_split hb
    refine ⟨by kernel_rfl, .inr rfl, (run_wSub a0 a1 a2 a3 b0 b1 b2 b3).trans ?_⟩
    obtain ⟨k0, l0, ⟨m0, n0⟩, e0⟩ := subC_spec ra0 rb0 (c := 0) (by omega) (by omega)
    obtain ⟨k1, l1, ⟨m1, n1⟩, e1⟩ := subC_spec ra1 rb1 m0 n0
    obtain ⟨k2, l2, ⟨m2, n2⟩, e2⟩ := subC_spec ra2 rb2 m1 n1
    obtain ⟨k3, l3, ⟨m3, n3⟩, e3⟩ := subC_spec ra3 rb3 m2 n2
    rw [k0, k1, k2, k3]
    simp only [chk, cond_true]
    generalize subLo a0 b0 0 = s0 at *
    generalize subHi a0 b0 0 = c0 at *
    generalize subLo a1 b1 c0 = s1 at *
    generalize subHi a1 b1 c0 = c1 at *
    generalize subLo a2 b2 c1 = s2 at *
    generalize subHi a2 b2 c1 = c2 at *
    generalize subLo a3 b3 c2 = s3 at *
    generalize subHi a3 b3 c2 = c3 at *
    have hz := valZ ra0.1 ra1.1 ra2.1 ra3.1
    have hz' := valZ rb0.1 rb1.1 rb2.1 rb3.1
    have hs := dif4 e0 e1 e2 e3
    have hlt := valW_lt hb
    rw [← hz, ← hz'] at hs
    have hv : ((valW [a0, a1, a2, a3] + big256 - valW [b0, b1, b2, b3] : Nat) : Int) = s0 + 18446744073709551616 * s1 + 340282366920938463463374607431768211456 * s2 + 6277101735386680763835789423207666416102355444464034512896 * s3 + 115792089237316195423570985008687907853269984665640564039457584007913129639936 * (1 - c3) := by
      exact sub_cast _ _ hs hlt
    rw [toW_ofZ _ l0 l1 l2 l3 (Int.sub_nonneg_of_le n3) hv, borrow4 hs l0 l1 l2 l3 m3]
    rw [less_iff]
  · cases h
end
end Go.Proofs.Ytdkebceiljdgjaa
