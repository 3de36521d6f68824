/- fix: fractions of 256 bits. Own work. -/
import Derived.Test.YtbakldcbaikgpaaGreatDoorWMul
import Derived.Test.YtbakldcbaikgpaaGreatDoorWDiv
namespace Go.Proofs.YtbakldcbaikgpaaGreatDoor
set_option maxRecDepth 100000
noncomputable section

theorem valT {v : Nat} (h : v < 115792089237316195423570985008687907853269984665640564039457584007913129639936) : valW (toW v) = v := by rw [valW_toW]; exact Nat.mod_eq_of_lt h
theorem toW_md (v : Nat) : toW (v % big2) = toW v := by
  have h1 : v % big2 % 18446744073709551616 = v % 18446744073709551616 := by unfold big2; omega
  have h2 : v % big2 / 18446744073709551616 % 18446744073709551616 = v / 18446744073709551616 % 18446744073709551616 := by unfold big2; omega
  have h3 : v % big2 / 340282366920938463463374607431768211456 % 18446744073709551616 = v / 340282366920938463463374607431768211456 % 18446744073709551616 := by unfold big2; omega
  have h4 : v % big2 / 6277101735386680763835789423207666416102355444464034512896 % 18446744073709551616 = v / 6277101735386680763835789423207666416102355444464034512896 % 18446744073709551616 := by unfold big2; omega
  rw [toW_def, toW_def, h1, h2, h3, h4]

/-! ### Of -/
def divOf (n b : Nat) : Nat := stk (n * oneF / b)
def sp_fOf : List AV → Option (Bool × AV)
  | [.int .u64 n, .int .u64 b] => some (inU n && inU b && stk (decide (0 < b ∧ n.toNat / b.toNat < 256)), .tup [.ints 4 .u64 (toW (divOf n.toNat b.toNat)), .nili])
  | _ => none
def orcFOf : List (FuncId × Ent) := [(114, entS false sp_wOf), (161, entS false sp_wDiv), (139, entS false sp_wShl), (138, entS false sp_wAdd)]
def fOf4 (b : Int) (v1 v4 v10 : List Int) : Option AV :=
  chk (okW v1) (chk (okW v4) (chk (okW (toW (valW v1 * 2 ^ (248 : Int).toNat)) && okW (toW (valW v4 * 2 ^ (120 : Int).toNat))) (chk (okW (toW (valW (toW (valW v1 * 2 ^ (248 : Int).toNat)) + valW (toW (valW v4 * 2 ^ (120 : Int).toNat)))) && okW v10)
    (some (.tup [.ints 4 .u64 (toW (valW (toW (valW (toW (valW v1 * 2 ^ (248 : Int).toNat)) + valW (toW (valW v4 * 2 ^ (120 : Int).toNat)))) + valW v10)), .nili])))))
def fOf3 (b : Int) (v1 v4 v8 : List Int) : Option AV :=
  chk (okW v8) (chk (inU b) (chk (okW (toW (valW v8 * 2 ^ (120 : Int).toNat)) && okW (toW b.toNat) && nzW (toW b.toNat)) (fOf4 b v1 v4 (toW (valW (toW (valW v8 * 2 ^ (120 : Int).toNat)) / valW (toW b.toNat))))))
def fOf2 (b : Int) (v1 v2 v6 : List Int) : Option AV :=
  chk (okW v2) (chk (inU b) (chk (okW v6 && okW (toW b.toNat) && nzW (toW b.toNat)) (chk (okW v2) (chk (inU b) (chk (okW v6 && okW (toW b.toNat) && nzW (toW b.toNat)) (fOf3 b v1 (toW (valW v6 / valW (toW b.toNat))) (toW (valW v6 % valW (toW b.toNat)))))))))
theorem run_fOf (n b : Int) : callA (env Tryz.f159.ntmps orcFOf []) (bodyC Tryz.f159) Tryz.f159.results.toList (slots 0 [.int .u64 n, .int .u64 b]) some =
    bif b == 0 then some (.tup [.ints 4 .u64 [0, 0, 0, 0], .iface 59 (.int .i64 5)]) else chk (!(b == 0)) (bif decide ((u64 (n.tdiv b)) ≥ 256) then some (.tup [.ints 4 .u64 [0, 0, 0, 0], .iface 59 (.int .i64 2)]) else
      chk (inU n) (chk (inU b) (chk (okW (toW n.toNat) && okW (toW b.toNat) && nzW (toW b.toNat)) (fOf2 b (toW (valW (toW n.toNat) / valW (toW b.toNat))) (toW (valW (toW n.toNat) % valW (toW b.toNat))) (toW (valW (toW (valW (toW n.toNat) % valW (toW b.toNat))) * 2 ^ (128 : Int).toNat)))))) := by kernel_rfl

theorem of_sum {m b p q : Nat} (hb : 0 < b) : m / b * (p * q) + m % b * p / b * q + m % b * p % b * q / b = m * (p * q) / b := by
  have h1 := Nat.div_add_mod m b
  have h2 := Nat.div_add_mod (m % b * p) b
  have h3 := Nat.div_add_mod (m % b * p % b * q) b
  have h4 := Nat.mod_lt (m % b * p % b * q) hb
  generalize m / b = Q at *
  generalize m % b = R at *
  generalize R * p / b = q1 at *
  generalize hr1 : R * p % b = r1 at *
  generalize r1 * q / b = q2 at *
  generalize r1 * q % b = r2 at *
  have e : m * (p * q) = b * (Q * (p * q) + q1 * q + q2) + r2 := by
    have k1 : R * (p * q) = b * (q1 * q) + r1 * q := by
      rw [← Nat.mul_assoc, ← h2, Nat.add_mul, Nat.mul_assoc]
    rw [← h1, Nat.add_mul, k1, ← h3, Nat.mul_add, Nat.mul_add, Nat.mul_assoc b Q]
    generalize b * (Q * (p * q)) = A
    generalize b * (q1 * q) = B
    generalize b * q2 = C
    omega
  rw [e, Nat.mul_add_div hb, Nat.div_eq_of_lt h4, Nat.add_zero]

theorem ok_fOf : EntOk Tryz.prog 159 (entS false sp_fOf) := by
  refine contractS (orc := orcFOf) (lo := []) Tryz.func159 (orc_cons ok_wOf (orc_cons ok_wDiv (orc_cons ok_wShl (orc_cons ok_wAdd orc_nil)))) (by kernel_rfl) (by kernel_rfl) (by kernel_rfl) (loops_none (by kernel_rfl)) fun args r h => ?_
  unfold sp_fOf at h
  split at h
  · rename_i n b
    simp only [Option.some.injEq, Prod.mk.injEq, Bool.and_eq_true] at h
    obtain ⟨⟨⟨hn, hb⟩, hg⟩, rfl⟩ := h
    rw [stk_eq, decide_eq_true_iff] at hg
    obtain ⟨m, rfl, hm⟩ := nat_of hn
    obtain ⟨b, rfl, hb2⟩ := nat_of hb
    obtain ⟨hb0, hq⟩ := hg
    have hb0 : 0 < b := by omega
    rw [Int.toNat_natCast, Int.toNat_natCast] at hq
    refine ⟨by kernel_rfl, .inr rfl, (run_fOf m b).trans ?_⟩
    have c1 : ((b : Int) == 0) = false := beq_eq_false_iff_ne.2 (by omega)
    have c2 : u64 ((m : Int).tdiv (b : Int)) = ((m / b : Nat) : Int) := by
      have : (m : Int).tdiv (b : Int) = ((m / b : Nat) : Int) := rfl
      exact u64_of this (Nat.lt_of_le_of_lt (Nat.div_le_self _ _) hm)
    have vm : valW (toW m) = m := valT (by omega)
    have vb : valW (toW b) = b := valT (by omega)
    have hz : nzW (toW b) = true := by unfold nzW; rw [stk_eq, vb]; exact decide_eq_true (by omega)
    have hR : m % b < b := Nat.mod_lt _ hb0
    obtain ⟨p, hp⟩ : ∃ p, (2 : Nat) ^ (128 : Int).toNat = p := ⟨_, rfl⟩
    obtain ⟨q, hq0⟩ : ∃ q, (2 : Nat) ^ (120 : Int).toNat = q := ⟨_, rfl⟩
    obtain ⟨o, ho⟩ : ∃ o, (2 : Nat) ^ (248 : Int).toNat = o := ⟨_, rfl⟩
    have hp' : p = 340282366920938463463374607431768211456 := by rw [← hp]; rfl
    have hq' : q = 1329227995784915872903807060280344576 := by rw [← hq0]; rfl
    have ho' : o = 452312848583266388373324160190187140051835877600158453279131187530910662656 := by rw [← ho]; rfl
    have hof : oneF = p * q := by rw [hp', hq']; decide
    have hopq : o = p * q := by rw [hp', hq', ho']
    have hsum := of_sum (m := m) (p := p) (q := q) hb0
    have k2 : m % b * p / b < p := by
      rw [Nat.div_lt_iff_lt_mul hb0, Nat.mul_comm]
      exact Nat.mul_lt_mul_of_pos_left hR (by omega)
    have k3 : m % b * p % b < b := Nat.mod_lt _ hb0
    have k5 : m % b * p % b * q / b < q := by
      rw [Nat.div_lt_iff_lt_mul hb0, Nat.mul_comm]
      exact Nat.mul_lt_mul_of_pos_left k3 (by omega)
    unfold fOf2 fOf3 fOf4 divOf
    rw [hp, hq0, ho, Int.toNat_natCast, Int.toNat_natCast, c1, c2, vm, vb, hz, hn, hb, stk_eq, hof, ← hsum, ← hopq]
    clear hsum hof hp hq0 ho vm vb hz c1 c2 hopq
    generalize m / b = Q at *
    generalize m % b = R at *
    have v1 : valW (toW Q) = Q := valT (by omega)
    have v2 : valW (toW R) = R := valT (by omega)
    rw [v1, v2]
    have v3 : valW (toW (R * p)) = R * p := valT (by rw [hp']; omega)
    rw [v3]
    generalize R * p / b = q1 at *
    generalize R * p % b = r1 at *
    have v4 : valW (toW q1) = q1 := valT (by omega)
    have v5 : valW (toW r1) = r1 := valT (by omega)
    rw [v4, v5]
    have v6 : valW (toW (r1 * q)) = r1 * q := valT (by rw [hq']; omega)
    rw [v6]
    generalize r1 * q / b = q2 at *
    have v7 : valW (toW q2) = q2 := valT (by omega)
    have v8 : valW (toW (Q * o)) = Q * o := valT (by rw [ho']; omega)
    have v9 : valW (toW (q1 * q)) = q1 * q := valT (by rw [hq']; omega)
    rw [v7, v8, v9]
    have v10 : valW (toW (Q * o + q1 * q)) = Q * o + q1 * q := valT (by rw [hq', ho']; omega)
    rw [v10, decide_eq_false (show ¬ ((Q : Nat) : Int) ≥ 256 by omega)]
    simp only [okW_toW]
    rfl
  · cases h

/-! ### Mul, one, Pi -/
def sp_fMul : List AV → Option (Bool × AV)
  | [.ints 4 .u64 a, .ints 4 .u64 b] => some (okW a && okW b, .tup [.ints 4 .u64 (toW (stk (mulF (valW a) (valW b)))), .bool (stk (decide (248 < lenN (valW a * valW b / big2))))])
  | _ => none
def orcFMul : List (FuncId × Ent) := [(113, entS false sp_wMul), (110, entS false sp_wShr), (139, entS false sp_wShl), (138, entS false sp_wAdd), (107, entS false sp_wLen)]
def fM2 (v1 v2 : List Int) : Option AV :=
  chk (okW v1) (chk (okW (toW (valW v1 * 2 ^ (8 : Int).toNat)) && okW v2) (chk (okW v1) (some (.tup [.ints 4 .u64 (toW (valW (toW (valW v1 * 2 ^ (8 : Int).toNat)) + valW v2)), .bool (decide (((lenN (valW v1) : Nat) : Int) > 248))]))))
theorem run_fMul (a b : List Int) : callA (env Tryz.f156.ntmps orcFMul []) (bodyC Tryz.f156) Tryz.f156.results.toList (slots 0 [.ints 4 .u64 a, .ints 4 .u64 b]) some =
    chk (okW a && okW b) (chk (okW (toW (valW a * valW b))) (fM2 (toW (valW a * valW b / 115792089237316195423570985008687907853269984665640564039457584007913129639936)) (toW (valW (toW (valW a * valW b)) / 2 ^ (248 : Int).toNat)))) := by kernel_rfl
theorem ok_fMul : EntOk Tryz.prog 156 (entS false sp_fMul) := by
  refine contractS (orc := orcFMul) (lo := []) Tryz.func156 (orc_cons ok_wMul (orc_cons ok_wShr (orc_cons ok_wShl (orc_cons ok_wAdd (orc_cons ok_wLen orc_nil))))) (by kernel_rfl) (by kernel_rfl) (by kernel_rfl) (loops_none (by kernel_rfl)) fun args r h => ?_
  unfold sp_fMul at h
  split at h
  · rename_i a b
    simp only [Option.some.injEq, Prod.mk.injEq, Bool.and_eq_true] at h
    obtain ⟨⟨ha, hb⟩, rfl⟩ := h
    refine ⟨by kernel_rfl, .inr rfl, (run_fMul a b).trans ?_⟩
    rw [ha, hb]
    unfold fM2
    have hP : valW a * valW b < big2 * big2 := Nat.mul_lt_mul_of_lt_of_le (valW_lt ha) (Nat.le_of_lt (valW_lt hb)) (by decide)
    unfold mulF
    generalize valW a * valW b = P at *
    have b8 : (2 : Nat) ^ (8 : Int).toNat = 256 := rfl
    have b248 : (2 : Nat) ^ (248 : Int).toNat = oneF := by decide
    rw [b8, b248, stk_eq, stk_eq, valW_toW, valW_toW, valW_toW, valW_toW, okW_toW, okW_toW, okW_toW, okW_toW]
    have hhi : P / 115792089237316195423570985008687907853269984665640564039457584007913129639936 < 115792089237316195423570985008687907853269984665640564039457584007913129639936 := by
      rw [Nat.div_lt_iff_lt_mul (by decide)]; exact hP
    rw [Nat.mod_eq_of_lt hhi]
    have e1 : toW (P / 115792089237316195423570985008687907853269984665640564039457584007913129639936 * 256 % 115792089237316195423570985008687907853269984665640564039457584007913129639936 + P % 115792089237316195423570985008687907853269984665640564039457584007913129639936 / oneF % 115792089237316195423570985008687907853269984665640564039457584007913129639936) = toW (P / oneF % big2) := by
      rw [toW_md, ← toW_md, ← toW_md (P / oneF)]
      congr 1
      unfold big2 oneF
      omega
    have e2 : decide (((lenN (P / 115792089237316195423570985008687907853269984665640564039457584007913129639936) : Nat) : Int) > 248) = decide (248 < lenN (P / big2)) := decide_eq_decide.2 (by unfold big2; omega)
    rw [e1, e2]
    rfl
  · cases h

def sp_fOne : List AV → Option (Bool × AV)
  | [] => some (true, .ints 4 .u64 (toW oneF))
  | _ => none
theorem run_fOne : callA (env Tryz.f155.ntmps [(114, entS false sp_wOf), (139, entS false sp_wShl)] []) (bodyC Tryz.f155) Tryz.f155.results.toList (slots 0 []) some =
    chk (inU 1) (chk (okW (toW (1 : Int).toNat)) (some (.ints 4 .u64 (toW (valW (toW (1 : Int).toNat) * 2 ^ (248 : Int).toNat))))) := by kernel_rfl
theorem ok_fOne : EntOk Tryz.prog 155 (entS false sp_fOne) := by
  refine contractS (orc := [(114, entS false sp_wOf), (139, entS false sp_wShl)]) (lo := []) Tryz.func155 (orc_cons ok_wOf (orc_cons ok_wShl orc_nil)) (by kernel_rfl) (by kernel_rfl) (by kernel_rfl) (loops_none (by kernel_rfl)) fun args r h => ?_
  unfold sp_fOne at h
  split at h
  · simp only [Option.some.injEq, Prod.mk.injEq] at h
    obtain ⟨_, rfl⟩ := h
    refine ⟨by kernel_rfl, .inr rfl, run_fOne.trans ?_⟩
    have h1 : inU 1 = true := inU_iff.2 (by omega)
    have h2 : valW (toW (1 : Int).toNat) = 1 := valT (by decide)
    have h3 : 1 * 2 ^ (248 : Int).toNat = oneF := by decide
    rw [h1, okW_toW, h2, h3]
    rfl
  · cases h
def sp_fPi : List AV → Option (Bool × AV)
  | [] => some (true, .ints 4 .u64 (toW piF))
  | _ => none
theorem run_fPi : callA (env Tryz.f160.ntmps [] []) (bodyC Tryz.f160) Tryz.f160.results.toList (slots 0 []) some =
    some (.ints 4 .u64 [14990283013545021036, 4946088427455618865, 15209528447828455539, 226375608064910088]) := by kernel_rfl
theorem pi_list : toW piF = [14990283013545021036, 4946088427455618865, 15209528447828455539, 226375608064910088] :=
  toW_of piF 14990283013545021036 4946088427455618865 15209528447828455539 226375608064910088 0 (by decide) (by decide) (by decide) (by decide) (by decide)
theorem ok_fPi : EntOk Tryz.prog 160 (entS false sp_fPi) := by
  refine contractS (orc := []) (lo := []) Tryz.func160 orc_nil (by kernel_rfl) (by kernel_rfl) (by kernel_rfl) (loops_none (by kernel_rfl)) fun args r h => ?_
  unfold sp_fPi at h
  split at h
  · simp only [Option.some.injEq, Prod.mk.injEq] at h
    obtain ⟨_, rfl⟩ := h
    refine ⟨by kernel_rfl, .inr rfl, run_fPi.trans ?_⟩
    rw [pi_list]
  · cases h
end
end Go.Proofs.YtbakldcbaikgpaaGreatDoor
