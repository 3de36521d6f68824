/- prod: sign, nothing, loud, exact, Mul, Fma. Own work. -/
import Derived.Test.YtbakldcbaikgpaaGreatDoorExact
import Derived.Test.YtbakldcbaikgpaaGreatDoorWMul
namespace Go.Proofs.YtbakldcbaikgpaaGreatDoor
set_option maxRecDepth 100000
noncomputable section

/-! ### sign -/
def sgX (a b : Nat) : Nat := if sgB a = sgB b then 0 else 9223372036854775808
def pgK (a b : Int) : Int := ((stk (sgX a.toNat b.toNat) : Nat) : Int)
def sp_pSign : List AV → Option (Bool × AV)
  | [.int .u64 a, .int .u64 b] => some (inU a && inU b, .int .u64 (pgK a b))
  | _ => none
theorem run_pSign (a b : Int) : callA (env Tryz.f70.ntmps [] []) (bodyC Tryz.f70) Tryz.f70.results.toList (slots 0 [.int .u64 a, .int .u64 b]) some =
    some (.int .u64 (andI .u64 (xorI .u64 a b) 9223372036854775808)) := by kernel_rfl
theorem xorU (x y : Nat) (hx : x < 18446744073709551616) (hy : y < 18446744073709551616) : xorI .u64 (x : Int) (y : Int) = ((x ^^^ y : Nat) : Int) ∧ x ^^^ y < 18446744073709551616 := by
  have hlt : x ^^^ y < 2 ^ 64 := Nat.xor_lt_two_pow hx hy
  have hlt' : x ^^^ y < 18446744073709551616 := hlt
  refine ⟨?_, hlt'⟩
  unfold xorI
  rw [IntKind.wrap_u64, BitVec.toNat_xor]
  simp only [IntKind.bits]
  rw [ofInt_nat x hx, ofInt_nat y hy]
  omega
theorem sign_xor (x y : Nat) (hx : x < 18446744073709551616) (hy : y < 18446744073709551616) : andI .u64 (xorI .u64 (x : Int) (y : Int)) 9223372036854775808 = ((sgX x y : Nat) : Int) := by
  obtain ⟨h1, h2⟩ := xorU x y hx hy
  rw [h1, and63 _ h2]
  unfold sgnN sgX sgB
  have h3 : (x ^^^ y) / 2 ^ 63 = x / 2 ^ 63 ^^^ y / 2 ^ 63 := Nat.xor_div_two_pow
  rw [show (2 : Nat) ^ 63 = 9223372036854775808 from rfl] at h3
  rw [h3]
  have a1 : x / 9223372036854775808 = 0 ∧ decide (9223372036854775808 ≤ x) = false ∨ x / 9223372036854775808 = 1 ∧ decide (9223372036854775808 ≤ x) = true := by
    by_cases h : 9223372036854775808 ≤ x
    · exact .inr ⟨by omega, decide_eq_true h⟩
    · exact .inl ⟨by omega, decide_eq_false h⟩
  have a2 : y / 9223372036854775808 = 0 ∧ decide (9223372036854775808 ≤ y) = false ∨ y / 9223372036854775808 = 1 ∧ decide (9223372036854775808 ≤ y) = true := by
    by_cases h : 9223372036854775808 ≤ y
    · exact .inr ⟨by omega, decide_eq_true h⟩
    · exact .inl ⟨by omega, decide_eq_false h⟩
  rcases a1 with ⟨e1, e2⟩ | ⟨e1, e2⟩ <;> rcases a2 with ⟨e3, e4⟩ | ⟨e3, e4⟩ <;> rw [e1, e2, e3, e4] <;> rfl
theorem ok_pSign : EntOk Tryz.prog 70 (entS false sp_pSign) := by
  refine contractS (orc := []) (lo := []) Tryz.func70 orc_nil (by kernel_rfl) (by kernel_rfl) (by kernel_rfl) (loops_none (by kernel_rfl)) fun args r h => ?_
  unfold sp_pSign at h
  split at h
  · rename_i a b
    simp only [Option.some.injEq, Prod.mk.injEq, Bool.and_eq_true] at h
    obtain ⟨⟨ha, hb⟩, rfl⟩ := h
    obtain ⟨a, rfl, ha'⟩ := nat_of ha
    obtain ⟨b, rfl, hb'⟩ := nat_of hb
    refine ⟨by kernel_rfl, .inr rfl, (run_pSign a b).trans ?_⟩
    rw [sign_xor a b ha' hb']
    unfold pgK
    rw [stk_eq, Int.toNat_natCast, Int.toNat_natCast]
  · cases h

/-! ### nothing -/
def noXN (a b : Nat) : Bool := decide (absN a = 0 ∧ absN b = infN ∨ absN a = infN ∧ absN b = 0)
def noX (a b : Int) : Bool := stk (noXN a.toNat b.toNat)
def sp_pNo : List AV → Option (Bool × AV)
  | [.int .u64 a, .int .u64 b] => some (inU a && inU b, .bool (noX a b))
  | _ => none
def pnT (x y : Int) : Option AV := bif x == 0 then bif y == 9218868437227405312 then some (.bool true) else bif x == 9218868437227405312 then some (.bool (y == 0)) else some (.bool false) else bif x == 9218868437227405312 then some (.bool (y == 0)) else some (.bool false)
theorem run_pNo (a b : Int) : callA (env Tryz.f68.ntmps orcAbs []) (bodyC Tryz.f68) Tryz.f68.results.toList (slots 0 [.int .u64 a, .int .u64 b]) some =
    chk (inU a) (chk (inU b) (pnT ((absN a.toNat : Nat) : Int) ((absN b.toNat : Nat) : Int))) := by kernel_rfl
theorem pnT_at (x y : Nat) : pnT (x : Int) (y : Int) = some (.bool (decide (x = 0 ∧ y = infN ∨ x = infN ∧ y = 0))) := by
  unfold pnT infN
  by_cases h1 : x = 0
  · subst h1
    by_cases h2 : y = 9218868437227405312
    · rw [beq_iff_eq.2 (show (y : Int) = 9218868437227405312 by omega), decide_eq_true (.inl ⟨rfl, h2⟩)]; rfl
    · rw [beq_eq_false_iff_ne.2 (show (y : Int) ≠ 9218868437227405312 by omega), decide_eq_false (by omega)]; rfl
  · rw [beq_eq_false_iff_ne.2 (show (x : Int) ≠ 0 by omega)]
    by_cases h2 : x = 9218868437227405312
    · rw [beq_iff_eq.2 (show (x : Int) = 9218868437227405312 by omega)]
      by_cases h3 : y = 0
      · rw [beq_iff_eq.2 (show (y : Int) = 0 by omega), decide_eq_true (.inr ⟨h2, h3⟩)]; rfl
      · rw [beq_eq_false_iff_ne.2 (show (y : Int) ≠ 0 by omega), decide_eq_false (by omega)]; rfl
    · rw [beq_eq_false_iff_ne.2 (show (x : Int) ≠ 9218868437227405312 by omega), decide_eq_false (by omega)]; rfl
theorem ok_pNo : EntOk Tryz.prog 68 (entS false sp_pNo) := by
  refine contractS (orc := orcAbs) (lo := []) Tryz.func68 (orc_cons ok_pAbs orc_nil) (by kernel_rfl) (by kernel_rfl) (by kernel_rfl) (loops_none (by kernel_rfl)) fun args r h => ?_
  unfold sp_pNo at h
  split at h
  · rename_i a b
    simp only [Option.some.injEq, Prod.mk.injEq, Bool.and_eq_true] at h
    obtain ⟨⟨ha, hb⟩, rfl⟩ := h
    refine ⟨by kernel_rfl, .inr rfl, (run_pNo a b).trans ?_⟩
    rw [ha, hb, pnT_at]
    unfold noX noXN
    rw [stk_eq]
    rfl
  · cases h

/-! ### loud -/
def ld3N (a b c : Nat) : Nat := if clN a = 5 ∨ clN b = 5 ∨ clN c = 5 then 1 else 0
def ld2 (a b : Int) : Int := ((noG a.toNat b.toNat : Nat) : Int)
def ld3 (a b c : Int) : Int := ((stk (ld3N a.toNat b.toNat c.toNat) : Nat) : Int)
def sp_loud : List AV → Option (Bool × AV)
  | [.sl (.ints 2 .u64 [p, q])] => some (inU p && inU q, .int .u8 (ld2 p q))
  | [.sl (.ints 3 .u64 [p, q, r])] => some (inU p && inU q && inU r, .int .u8 (ld3 p q r))
  | _ => none
def ldT (f : Int) : Option AV := some (.int .u8 f)
theorem run_loud2 (p q : Int) : callA (env Tryz.f67.ntmps [(76, entS false sp_class)] []) (bodyC Tryz.f67) Tryz.f67.results.toList (slots 0 [.sl (.ints 2 .u64 [p, q])]) some =
    chk (inU p) (bif tC p.toNat == 5 then ldT 1 else chk (inU q) (bif tC q.toNat == 5 then ldT 1 else ldT 0)) := by kernel_rfl
theorem run_loud3 (p q r : Int) : callA (env Tryz.f67.ntmps [(76, entS false sp_class)] []) (bodyC Tryz.f67) Tryz.f67.results.toList (slots 0 [.sl (.ints 3 .u64 [p, q, r])]) some =
    chk (inU p) (bif tC p.toNat == 5 then ldT 1 else chk (inU q) (bif tC q.toNat == 5 then ldT 1 else chk (inU r) (bif tC r.toNat == 5 then ldT 1 else ldT 0))) := by kernel_rfl
theorem ok_loud : EntOk Tryz.prog 67 (entS false sp_loud) := by
  refine contractS (orc := [(76, entS false sp_class)]) (lo := []) Tryz.func67 (orc_cons ok_class orc_nil) (by kernel_rfl) (by kernel_rfl) (by kernel_rfl) (loops_none (by kernel_rfl)) fun args r h => ?_
  unfold sp_loud at h
  split at h
  · rename_i p q
    simp only [Option.some.injEq, Prod.mk.injEq, Bool.and_eq_true] at h
    obtain ⟨⟨hp, hq⟩, rfl⟩ := h
    refine ⟨by kernel_rfl, .inr rfl, (run_loud2 p q).trans ?_⟩
    unfold ld2 noG noGN tC
    rw [stk_eq, stk_eq, stk_eq, hp, hq]
    by_cases h5 : clN p.toNat = 5
    · rw [h5, if_pos (.inl rfl)]; rfl
    · rw [beq_eq_false_iff_ne.2 h5]
      by_cases h6 : clN q.toNat = 5
      · rw [h6, if_pos (.inr rfl)]; rfl
      · rw [beq_eq_false_iff_ne.2 h6, if_neg (show ¬ (clN p.toNat = 5 ∨ clN q.toNat = 5) by simp [h5, h6])]; rfl
  · rename_i p q r
    simp only [Option.some.injEq, Prod.mk.injEq, Bool.and_eq_true] at h
    obtain ⟨⟨⟨hp, hq⟩, hr⟩, rfl⟩ := h
    refine ⟨by kernel_rfl, .inr rfl, (run_loud3 p q r).trans ?_⟩
    unfold ld3 ld3N tC
    rw [stk_eq, stk_eq, stk_eq, stk_eq, hp, hq, hr]
    by_cases h5 : clN p.toNat = 5
    · rw [h5, if_pos (.inl rfl)]; rfl
    · rw [beq_eq_false_iff_ne.2 h5]
      by_cases h6 : clN q.toNat = 5
      · rw [h6, if_pos (.inr (.inl rfl))]; rfl
      · rw [beq_eq_false_iff_ne.2 h6]
        by_cases h7 : clN r.toNat = 5
        · rw [h7, if_pos (.inr (.inr rfl))]; rfl
        · rw [beq_eq_false_iff_ne.2 h7, if_neg (show ¬ (clN p.toNat = 5 ∨ clN q.toNat = 5 ∨ clN r.toNat = 5) by simp [h5, h6, h7])]; rfl
  · cases h

/-! ### exact -/
def pdM (a b : Nat) : Bool := !(sgB a == sgB b)
def pdX (a b : Nat) : Int := exN a + exN b
def pdS (a b : Nat) : Nat := sigN a * sigN b
def pdMk (a b : Int) : Bool := stk (pdM a.toNat b.toNat)
def pdXk (a b : Int) : Int := stk (pdX a.toNat b.toNat)
def pdSk (a b : Int) : Nat := stk (pdS a.toNat b.toNat)
def sp_pExact : List AV → Option (Bool × AV)
  | [.int .u64 a, .int .u64 b] => some (inU a && inU b, .st [.bool (pdMk a b), .int .i64 (pdXk a b), .ints 4 .u64 (toW (pdSk a b)), .bool false])
  | _ => none
def orcPE : List (FuncId × Ent) := [(112, entS false sp_take), (114, entS false sp_wOf), (113, entS false sp_wMul)]
theorem run_pExact (a b : Int) : callA (env Tryz.f72.ntmps orcPE []) (bodyC Tryz.f72) Tryz.f72.results.toList (slots 0 [.int .u64 a, .int .u64 b]) some =
    chk (inU a) (chk (inU b) (chk (inU ((tS a.toNat : Nat) : Int)) (chk (inU ((tS b.toNat : Nat) : Int)) (chk (okW (toW ((tS a.toNat : Nat) : Int).toNat) && okW (toW ((tS b.toNat : Nat) : Int).toNat))
      (some (.st [.bool (!((tM a.toNat) == (tM b.toNat))), .int .i64 (w64 ((tX a.toNat) + (tX b.toNat))), .ints 4 .u64 (toW (valW (toW ((tS a.toNat : Nat) : Int).toNat) * valW (toW ((tS b.toNat : Nat) : Int).toNat))), .bool false])))))) := by kernel_rfl
theorem ok_pExact : EntOk Tryz.prog 72 (entS false sp_pExact) := by
  refine contractS (orc := orcPE) (lo := []) Tryz.func72 (orc_cons ok_take (orc_cons ok_wOf (orc_cons ok_wMul orc_nil))) (by kernel_rfl) (by kernel_rfl) (by kernel_rfl) (loops_none (by kernel_rfl)) fun args r h => ?_
  unfold sp_pExact at h
  split at h
  · rename_i a b
    simp only [Option.some.injEq, Prod.mk.injEq, Bool.and_eq_true] at h
    obtain ⟨⟨ha, hb⟩, rfl⟩ := h
    refine ⟨by kernel_rfl, .inr rfl, (run_pExact a b).trans ?_⟩
    have x1 := ex_range a.toNat
    have x2 := ex_range b.toNat
    unfold pdMk pdXk pdSk pdM pdX pdS sgB tS tX tM
    simp only [stk_eq]
    rw [ha, hb, inU_sig, inU_sig, Int.toNat_natCast, Int.toNat_natCast, okW_toW, okW_toW, valW_sig, valW_sig, w64_mid (by omega) (by omega)]
    rfl
  · cases h
theorem pdS_lt (a b : Nat) : pdS a b < 2 ^ 106 := by
  have h1 := sig_lt a
  have h2 := sig_lt b
  have h3 : sigN a * sigN b ≤ 9007199254740991 * 9007199254740991 := Nat.mul_le_mul (by omega) (by omega)
  unfold pdS
  exact Nat.lt_of_le_of_lt h3 (by decide)
theorem valW_pdS (a b : Nat) : valW (toW (pdS a b)) = pdS a b := by
  rw [valW_toW]
  exact Nat.mod_eq_of_lt (Nat.lt_trans (pdS_lt a b) (by decide))

/-! ### Mul -/
def infX (a b : Nat) : Nat := infN + sgX a b
theorem or_inf (a b : Nat) : orI .u64 9218868437227405312 ((sgX a b : Nat) : Int) = ((infX a b : Nat) : Int) := by
  unfold infX infN sgX
  split <;> decide +kernel
def nzz (a b : Nat) : Prop := absN a = 0 ∧ absN b = infN ∨ absN a = infN ∧ absN b = 0
instance (a b : Nat) : Decidable (nzz a b) := by unfold nzz; infer_instance
def muPN (a b : Nat) (k : Int) : Nat := if infN < absN a ∨ infN < absN b then nanC else if nzz a b then nanC else if absN a = infN ∨ absN b = infN then infX a b else rndP (pdM a b) (pdS a b) (pdX a b) k
def muFN (a b : Nat) (k : Int) : Nat := if infN < absN a ∨ infN < absN b then noGN a b else if nzz a b then 1 else if absN a = infN ∨ absN b = infN then 0 else rndF (pdM a b) (pdS a b) (pdX a b) k
def muP (a b : Nat) (k : Int) : Nat := stk (muPN a b k)
def muF (a b : Nat) (k : Int) : Nat := stk (muFN a b k)
def sp_mul6 : List AV → Option (Bool × AV)
  | [.int .u64 a, .int .u64 b, .int .i64 k] => some (inU a && inU b, .tup [.int .u64 ((muP a.toNat b.toNat k : Nat) : Int), .int .u8 ((muF a.toNat b.toNat k : Nat) : Int)])
  | _ => none
def orcMul6 : List (FuncId × Ent) := [(66, entS false sp_isNaN), (69, entS false sp_fin), (70, entS false sp_pSign), (68, entS false sp_pNo), (67, entS false sp_loud), (72, entS false sp_pExact), (71, entS false sp_round)]
def tup6 (p f : Int) : Option AV := some (.tup [.int .u64 p, .int .u8 f])
def muN (a b : Int) : Option AV := chk (inU a && inU b) (tup6 9221120237041090560 (ld2 a b))
def muI (a b : Int) : Option AV := chk (inU a && inU b) (tup6 (orI .u64 9218868437227405312 (pgK a b)) 0)
def muR (a b k : Int) : Option AV := chk (inU a && inU b) (chk (okW (toW (pdSk a b))) (tup6 ((pR (pdMk a b) (toW (pdSk a b)) (pdXk a b) false k : Nat) : Int) ((fR (pdMk a b) (toW (pdSk a b)) (pdXk a b) false k : Nat) : Int)))
theorem run_mul6 (a b k : Int) : callA (env Tryz.f44.ntmps orcMul6 []) (bodyC Tryz.f44) Tryz.f44.results.toList (slots 0 [.int .u64 a, .int .u64 b, .int .i64 k]) some =
    chk (inU a) (bif nanB a.toNat then muN a b else chk (inU b) (bif nanB b.toNat then muN a b else chk (inU a && inU b) (bif noX a b then tup6 9221120237041090560 1 else
      chk (inU a) (bif !(finB a.toNat) then muI a b else chk (inU b) (bif !(finB b.toNat) then muI a b else muR a b k))))) := by kernel_rfl
theorem round_pd (a b : Nat) (k : Int) : pR (pdM a b) (toW (pdS a b)) (pdX a b) false k = rndP (pdM a b) (pdS a b) (pdX a b) k ∧ fR (pdM a b) (toW (pdS a b)) (pdX a b) false k = rndF (pdM a b) (pdS a b) (pdX a b) k := by
  unfold pR fR
  rw [stk_eq, stk_eq, valW_pdS]
  exact ⟨rfl, rfl⟩
theorem ok_mul6 : EntOk Tryz.prog 44 (entS false sp_mul6) := by
  refine contractS (orc := orcMul6) (lo := []) Tryz.func44 (orc_cons ok_isNaN (orc_cons ok_fin (orc_cons ok_pSign (orc_cons ok_pNo (orc_cons ok_loud (orc_cons ok_pExact (orc_cons ok_round orc_nil))))))) (by kernel_rfl) (by kernel_rfl) (by kernel_rfl) (loops_none (by kernel_rfl)) fun args r h => ?_
  unfold sp_mul6 at h
  split at h
  · rename_i a b k
    simp only [Option.some.injEq, Prod.mk.injEq, Bool.and_eq_true] at h
    obtain ⟨⟨ha, hb⟩, rfl⟩ := h
    obtain ⟨m, rfl, hm⟩ := nat_of ha
    obtain ⟨n, rfl, hn⟩ := nat_of hb
    refine ⟨by kernel_rfl, .inr rfl, (run_mul6 m n k).trans ?_⟩
    obtain ⟨hP, hF⟩ := round_pd m n k
    unfold muN muI muR noX noXN pgK pdMk pdXk pdSk ld2 nanB finB noG muP muF
    simp only [stk_eq, Int.toNat_natCast]
    rw [ha, hb, okW_toW, hP, hF, or_inf]
    unfold muPN muFN
    by_cases n1 : infN < absN m
    · rw [decide_eq_true n1, if_pos (.inl n1), if_pos (.inl n1)]; rfl
    by_cases n2 : infN < absN n
    · rw [decide_eq_false n1, decide_eq_true n2, if_pos (.inr n2), if_pos (.inr n2)]; rfl
    have n3 : ¬ (infN < absN m ∨ infN < absN n) := by simp [n1, n2]
    rw [decide_eq_false n1, decide_eq_false n2, if_neg n3, if_neg n3]
    by_cases z : nzz m n
    · rw [if_pos z, if_pos z]
      unfold nzz at z
      rw [decide_eq_true z]; rfl
    rw [if_neg z, if_neg z]
    unfold nzz at z
    rw [decide_eq_false z]
    by_cases i1 : absN m = infN
    · rw [if_pos (.inl i1), if_pos (.inl i1), decide_eq_false (show ¬ absN m < infN by omega)]; rfl
    rw [decide_eq_true (show absN m < infN by omega)]
    by_cases i2 : absN n = infN
    · rw [if_pos (.inr i2), if_pos (.inr i2), decide_eq_false (show ¬ absN n < infN by omega)]; rfl
    rw [if_neg (show ¬ (absN m = infN ∨ absN n = infN) by simp [i1, i2]), if_neg (show ¬ (absN m = infN ∨ absN n = infN) by simp [i1, i2]), decide_eq_true (show absN n < infN by omega)]
    rfl
  · cases h

/-! ### Fma -/
def fmJ (a b c : Nat) (k : Int) : Nm := jn (pdM a b) (pdX a b) (pdS a b) (sgB c) (exN c) (sigN c) k
def fmPN (a b c : Nat) (k : Int) : Nat :=
  if nzz a b then nanC else if infN < absN a ∨ infN < absN b ∨ infN < absN c then nanC else if absN a = infN ∨ absN b = infN then adPN (infX a b) c k else if absN c = infN then c else
    rndP (fmJ a b c k).m (nS (fmJ a b c k).s (fmJ a b c k).r) (nE (fmJ a b c k).x (fmJ a b c k).r) k
def fmFN (a b c : Nat) (k : Int) : Nat :=
  if nzz a b then 1 else if infN < absN a ∨ infN < absN b ∨ infN < absN c then ld3N a b c else if absN a = infN ∨ absN b = infN then adFN (infX a b) c k else if absN c = infN then 0 else
    rndF (fmJ a b c k).m (nS (fmJ a b c k).s (fmJ a b c k).r) (nE (fmJ a b c k).x (fmJ a b c k).r) k
def fmP (a b c : Nat) (k : Int) : Nat := stk (fmPN a b c k)
def fmF (a b c : Nat) (k : Int) : Nat := stk (fmFN a b c k)
def sp_fma : List AV → Option (Bool × AV)
  | [.int .u64 a, .int .u64 b, .int .u64 c, .int .i64 k] => some (inU a && inU b && inU c, .tup [.int .u64 ((fmP a.toNat b.toNat c.toNat k : Nat) : Int), .int .u8 ((fmF a.toNat b.toNat c.toNat k : Nat) : Int)])
  | _ => none
def orcFma : List (FuncId × Ent) := (48, entS false sp_add) :: (74, entB false sp_exact5) :: (73, entB false sp_rOf) :: orcMul6
def fm3 (a b c : Int) : Option AV := chk (inU a && inU b && inU c) (tup6 9221120237041090560 (ld3 a b c))
def fmA (s c k : Int) : Option AV := chk (inU s && inU c) (tup6 ((adP s.toNat c.toNat k : Nat) : Int) ((adF s.toNat c.toNat k : Nat) : Int))
def fmZ (J : Nm) (k : Int) : Option AV := chk (okW (toW J.s)) (tup6 ((pR J.m (toW J.s) J.x J.r k : Nat) : Int) ((fR J.m (toW J.s) J.x J.r k : Nat) : Int))
def fmE (a b c k : Int) : Option AV :=
  chk (inU a && inU b) (chk (okW (toW (pdSk a b)) && okW (toW (tS c.toNat))) (bif !(rtB (toW (pdSk a b)) (pdXk a b) false) then tup6 9221120237041090560 1 else bif !(rtB (toW (tS c.toNat)) (tX c.toNat) false) then tup6 9221120237041090560 1 else
    fmZ (jJ (pdMk a b) (pdXk a b) (toW (pdSk a b)) (tM c.toNat) (tX c.toNat) (toW (tS c.toNat)) k) k))
theorem run_fma (a b c k : Int) : callA (env Tryz.f45.ntmps orcFma []) (bodyC Tryz.f45) Tryz.f45.results.toList (slots 0 [.int .u64 a, .int .u64 b, .int .u64 c, .int .i64 k]) some =
    chk (inU a && inU b) (chk (inU a && inU b) (bif noX a b then tup6 9221120237041090560 1 else chk (inU a) (bif nanB a.toNat then fm3 a b c else chk (inU b) (bif nanB b.toNat then fm3 a b c else chk (inU c) (bif nanB c.toNat then fm3 a b c else
      chk (inU a) (bif !(finB a.toNat) then fmA (orI .u64 9218868437227405312 (pgK a b)) c k else chk (inU b) (bif !(finB b.toNat) then fmA (orI .u64 9218868437227405312 (pgK a b)) c k else chk (inU c) (bif !(finB c.toNat) then tup6 c 0 else
        chk (inU c) (bif finB c.toNat then fmE a b c k else tup6 9221120237041090560 1))))))))) := by kernel_rfl
theorem infX_abs (a b : Nat) : infX a b < 18446744073709551616 := by
  unfold infX sgX infN
  split <;> omega
theorem fmE_at (a b c : Nat) (k : Int) (ha : inU (a : Int) = true) (hb : inU (b : Int) = true) : fmE a b c k = tup6 ((rndP (fmJ a b c k).m (nS (fmJ a b c k).s (fmJ a b c k).r) (nE (fmJ a b c k).x (fmJ a b c k).r) k : Nat) : Int) ((rndF (fmJ a b c k).m (nS (fmJ a b c k).s (fmJ a b c k).r) (nE (fmJ a b c k).x (fmJ a b c k).r) k : Nat) : Int) := by
  have l1 : lenN (pdS a b) ≤ 106 := lenN_le.2 (pdS_lt a b)
  have l2 := len_sig c
  have x1 := ex_range a
  have x2 := ex_range b
  have x3 := ex_range c
  have hs := jn_small (S := pdS a b) (T := sigN c) (by omega) (by omega) (pdM a b) (sgB c) (pdX a b) (exN c) k
  have hx : pdX a b = exN a + exN b := rfl
  have r1 : rtB (toW (pdS a b)) (pdX a b) false = true := rtB_iff.2 ⟨by rw [valW_pdS]; omega, rfl, by omega, by omega⟩
  have r2 : rtB (toW (sigN c)) (exN c) false = true := rtB_iff.2 ⟨by rw [valW_sig]; omega, rfl, by omega, by omega⟩
  unfold fmE fmZ pdMk pdXk pdSk tM tX tS jJ pR fR
  simp only [stk_eq, Int.toNat_natCast]
  rw [ha, hb, okW_toW, okW_toW, r1, r2, valW_pdS, valW_sig]
  show chk (okW (toW (fmJ a b c k).s)) (tup6 ((rndP (fmJ a b c k).m (nS (valW (toW (fmJ a b c k).s)) (fmJ a b c k).r) (nE (fmJ a b c k).x (fmJ a b c k).r) k : Nat) : Int) ((rndF (fmJ a b c k).m (nS (valW (toW (fmJ a b c k).s)) (fmJ a b c k).r) (nE (fmJ a b c k).x (fmJ a b c k).r) k : Nat) : Int)) = _
  rw [okW_toW, valW_toW, Nat.mod_eq_of_lt (show (fmJ a b c k).s < 115792089237316195423570985008687907853269984665640564039457584007913129639936 from hs)]
  rfl
theorem ok_fma : EntOk Tryz.prog 45 (entS false sp_fma) := by
  refine contractS (orc := orcFma) (lo := []) Tryz.func45 (orc_cons ok_add5 (orc_cons ok_exact5 (orc_cons ok_rOf (orc_cons ok_isNaN (orc_cons ok_fin (orc_cons ok_pSign (orc_cons ok_pNo (orc_cons ok_loud (orc_cons ok_pExact (orc_cons ok_round orc_nil)))))))))) (by kernel_rfl) (by kernel_rfl) (by kernel_rfl) (loops_none (by kernel_rfl)) fun args r h => ?_
  unfold sp_fma at h
  split at h
  · rename_i a b c k
    simp only [Option.some.injEq, Prod.mk.injEq, Bool.and_eq_true] at h
    obtain ⟨⟨⟨ha, hb⟩, hc⟩, rfl⟩ := h
    obtain ⟨m, rfl, hm⟩ := nat_of ha
    obtain ⟨n, rfl, hn⟩ := nat_of hb
    obtain ⟨c, rfl, hc'⟩ := nat_of hc
    refine ⟨by kernel_rfl, .inr rfl, (run_fma m n c k).trans ?_⟩
    have hE := fmE_at m n c k ha hb
    have hi : inU ((infX m n : Nat) : Int) = true := inU_iff.2 (by have := infX_abs m n; omega)
    unfold fm3 fmA noX noXN pgK ld3 nanB finB fmP fmF
    simp only [stk_eq, Int.toNat_natCast]
    rw [ha, hb, hc, or_inf, hi, hE]
    unfold fmPN fmFN adP adF
    simp only [stk_eq, Int.toNat_natCast]
    clear hE
    by_cases z : nzz m n
    · rw [if_pos z, if_pos z]
      unfold nzz at z
      rw [decide_eq_true z]; rfl
    rw [if_neg z, if_neg z]
    unfold nzz at z
    rw [decide_eq_false z]
    by_cases n1 : infN < absN m
    · rw [decide_eq_true n1, if_pos (.inl n1), if_pos (.inl n1)]; rfl
    by_cases n2 : infN < absN n
    · rw [decide_eq_false n1, decide_eq_true n2, if_pos (.inr (.inl n2)), if_pos (.inr (.inl n2))]; rfl
    by_cases n4 : infN < absN c
    · rw [decide_eq_false n1, decide_eq_false n2, decide_eq_true n4, if_pos (.inr (.inr n4)), if_pos (.inr (.inr n4))]; rfl
    have n3 : ¬ (infN < absN m ∨ infN < absN n ∨ infN < absN c) := by simp [n1, n2, n4]
    rw [decide_eq_false n1, decide_eq_false n2, decide_eq_false n4, if_neg n3, if_neg n3]
    by_cases i1 : absN m = infN
    · rw [if_pos (.inl i1), if_pos (.inl i1), decide_eq_false (show ¬ absN m < infN by omega)]; rfl
    rw [decide_eq_true (show absN m < infN by omega)]
    by_cases i2 : absN n = infN
    · rw [if_pos (.inr i2), if_pos (.inr i2), decide_eq_false (show ¬ absN n < infN by omega)]; rfl
    rw [if_neg (show ¬ (absN m = infN ∨ absN n = infN) by simp [i1, i2]), if_neg (show ¬ (absN m = infN ∨ absN n = infN) by simp [i1, i2]), decide_eq_true (show absN n < infN by omega)]
    by_cases i3 : absN c = infN
    · rw [if_pos i3, if_pos i3, decide_eq_false (show ¬ absN c < infN by omega)]; rfl
    rw [if_neg i3, if_neg i3, decide_eq_true (show absN c < infN by omega)]
    rfl
  · cases h
end
end Go.Proofs.YtbakldcbaikgpaaGreatDoor
