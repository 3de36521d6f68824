/- sums: none, Add, Sub; tillerlaw05: sure, sides, turned. Own work. -/
import Derived.Test.YtbakldcbaikgpaaGreatDoorSums2
namespace Go.Proofs.YtbakldcbaikgpaaGreatDoor
set_option maxRecDepth 100000
noncomputable section

/-! ### none -/
def sp_none2 : List AV → Option (Bool × AV)
  | [.sl (.ints 2 .u64 [p, q])] => some (inU p && inU q, .tup [.int .u64 9221120237041090560, .int .u8 ((noG p.toNat q.toNat : Nat) : Int)])
  | _ => none
def nnT (f : Int) : Option AV := some (.tup [.int .u64 9221120237041090560, .int .u8 f])
theorem run_none2 (p q : Int) : callA (env Tryz.f75.ntmps [(76, entS false sp_class)] []) (bodyC Tryz.f75) Tryz.f75.results.toList (slots 0 [.sl (.ints 2 .u64 [p, q])]) some =
    chk (inU p) (bif tC p.toNat == 5 then nnT 1 else chk (inU q) (bif tC q.toNat == 5 then nnT 1 else nnT 0)) := by kernel_rfl
theorem ok_none2 : EntOk Tryz.prog 75 (entS false sp_none2) := by
  refine contractS (orc := [(76, entS false sp_class)]) (lo := []) Tryz.func75 (orc_cons ok_class orc_nil) (by kernel_rfl) (by kernel_rfl) (by kernel_rfl) (loops_none (by kernel_rfl)) fun args r h => ?_
  unfold sp_none2 at h
  split at h
  · rename_i p q
    simp only [Option.some.injEq, Prod.mk.injEq, Bool.and_eq_true] at h
    obtain ⟨⟨hp, hq⟩, rfl⟩ := h
    refine ⟨by kernel_rfl, .inr rfl, (run_none2 p q).trans ?_⟩
    unfold noG noGN tC
    rw [stk_eq, stk_eq, stk_eq, hp, hq]
    by_cases h5 : clN p.toNat = 5
    · rw [h5, if_pos (.inl rfl)]; rfl
    · rw [beq_eq_false_iff_ne.2 h5]
      by_cases h6 : clN q.toNat = 5
      · rw [h6, if_pos (.inr rfl)]; rfl
      · rw [beq_eq_false_iff_ne.2 h6, if_neg (show ¬ (clN p.toNat = 5 ∨ clN q.toNat = 5) by simp [h5, h6])]; rfl
  · cases h

/-! ### Add -/
def sgB (p : Nat) : Bool := decide (9223372036854775808 ≤ p)
/-- The exact sum of two patterns' numbers. -/
def smS (p q : Nat) : Nat := sumS (sgB p) (sgB q) (exA (sigN p) (exN p) (exN q)) (exA (sigN q) (exN q) (exN p))
def smM (p q : Nat) (k : Int) : Bool := sumM (sgB p) (sgB q) (exA (sigN p) (exN p) (exN q)) (exA (sigN q) (exN q) (exN p)) k
def adPN (p q : Nat) (k : Int) : Nat := if infN < absN p ∨ infN < absN q then nanC else if absN p = infN ∧ absN q = infN ∧ p ≠ q then nanC else if absN p = infN then p else if absN q = infN then q else rndP (smM p q k) (smS p q) (min (exN p) (exN q)) k
def adFN (p q : Nat) (k : Int) : Nat := if infN < absN p ∨ infN < absN q then noGN p q else if absN p = infN ∧ absN q = infN ∧ p ≠ q then 1 else if absN p = infN then 0 else if absN q = infN then 0 else rndF (smM p q k) (smS p q) (min (exN p) (exN q)) k
def adP (p q : Nat) (k : Int) : Nat := stk (adPN p q k)
def adF (p q : Nat) (k : Int) : Nat := stk (adFN p q k)
def sp_add : List AV → Option (Bool × AV)
  | [.int .u64 p, .int .u64 q, .int .i64 k] => some (inU p && inU q, .tup [.int .u64 ((adP p.toNat q.toNat k : Nat) : Int), .int .u8 ((adF p.toNat q.toNat k : Nat) : Int)])
  | _ => none
def orcAdd5 : List (FuncId × Ent) := [(66, entS false sp_isNaN), (75, entS false sp_none2), (76, entS false sp_class), (73, entB false sp_rOf), (77, entS false sp_join), (71, entS false sp_round)]
def ad0 (p q : Int) : Option AV := chk (inU p && inU q) (nnT ((noG p.toNat q.toNat : Nat) : Int))
def adJ (p q k : Int) : Nm := jJ (tM p.toNat) (tX p.toNat) (toW (tS p.toNat)) (tM q.toNat) (tX q.toNat) (toW (tS q.toNat)) k
def adR (J : Nm) (k : Int) : Option AV := chk (okW (toW J.s)) (some (.tup [.int .u64 ((pR J.m (toW J.s) J.x J.r k : Nat) : Int), .int .u8 ((fR J.m (toW J.s) J.x J.r k : Nat) : Int)]))
def ad1 (p q k : Int) : Option AV :=
  chk (inU p) (bif finB p.toNat then chk (inU q) (bif finB q.toNat then chk (mayJ (toW (tS p.toNat)) (tX p.toNat) (toW (tS q.toNat)) (tX q.toNat)) (adR (adJ p q k) k) else ad0 p q) else chk (inU q) (bif finB q.toNat then ad0 p q else ad0 p q))
def ad2 (p q k : Int) : Option AV :=
  chk (inU p) (bif (tC p.toNat) == 3 then some (.tup [.int .u64 p, .int .u8 0]) else chk (inU q) (bif (tC q.toNat) == 3 then some (.tup [.int .u64 q, .int .u8 0]) else ad1 p q k))
def ad3 (p q k : Int) : Option AV :=
  chk (inU p) (bif (tC p.toNat) == 3 then chk (inU q) (bif (tC q.toNat) == 3 then (bif p != q then some (.tup [.int .u64 9221120237041090560, .int .u8 1]) else ad2 p q k) else ad2 p q k) else ad2 p q k)
theorem run_add5 (p q k : Int) : callA (env Tryz.f48.ntmps orcAdd5 []) (bodyC Tryz.f48) Tryz.f48.results.toList (slots 0 [.int .u64 p, .int .u64 q, .int .i64 k]) some =
    chk (inU p) (bif nanB p.toNat then ad0 p q else chk (inU q) (bif nanB q.toNat then ad0 p q else ad3 p q k)) := by kernel_rfl

theorem class_inf (p : Nat) : (clN p == 3) = decide (absN p = infN) := by
  have h1 := abs_parts p
  have h2 := pE_lt p
  have h3 := pF_lt p
  have : clN p = 3 ↔ absN p = infN := by
    unfold clN infN
    rw [h1]
    generalize pE p = E at *
    generalize pF p = F at *
    by_cases e1 : E = 2047
    · rw [if_pos e1]
      by_cases e2 : F = 0
      · rw [if_pos e2]; omega
      · rw [if_neg e2]
        by_cases e3 : F / 2251799813685248 % 2 = 1
        · rw [if_pos e3]; omega
        · rw [if_neg e3]; omega
    · rw [if_neg e1]
      by_cases e2 : 0 < E
      · rw [if_pos e2]; omega
      · rw [if_neg e2]
        by_cases e3 : 0 < F
        · rw [if_pos e3]; omega
        · rw [if_neg e3]; omega
  by_cases h : clN p = 3
  · rw [decide_eq_true (this.1 h), h]; rfl
  · rw [decide_eq_false (fun e => h (this.2 e))]; exact beq_eq_false_iff_ne.2 h

theorem join_pat (p q : Nat) (k : Int) : mayJ (toW (sigN p)) (exN p) (toW (sigN q)) (exN q) = true ∧ alike (jn (sgB p) (exN p) (sigN p) (sgB q) (exN q) (sigN q) k).m (nS (jn (sgB p) (exN p) (sigN p) (sgB q) (exN q) (sigN q) k).s (jn (sgB p) (exN p) (sigN p) (sgB q) (exN q) (sigN q) k).r) (nE (jn (sgB p) (exN p) (sigN p) (sgB q) (exN q) (sigN q) k).x (jn (sgB p) (exN p) (sigN p) (sgB q) (exN q) (sigN q) k).r)
    (smM p q k) (smS p q) (min (exN p) (exN q)) := by
  have h1 := len_sig p
  have h2 := len_sig q
  have h3 := ex_range p
  have h4 := ex_range q
  refine ⟨mayJ_iff.2 ⟨⟨okW_toW _, okW_toW _⟩, ?_⟩, jn_law (by omega) (by omega) _ _ _ _ k⟩
  unfold rng
  rw [valW_sig, valW_sig]
  omega

/-- What is joined fits. -/
theorem jn_small {S T : Nat} (hS : lenN S ≤ 128) (hT : lenN T ≤ 128) (a b : Bool) (x y k : Int) : (jn a x S b y T k).s < 115792089237316195423570985008687907853269984665640564039457584007913129639936 := by
  have sm : ∀ (S T : Nat) (a b : Bool) (x y : Int), lenN S ≤ 128 → lenN T ≤ 128 → y ≤ x → (jn2 a x S b y T k).s < 115792089237316195423570985008687907853269984665640564039457584007913129639936 := by
    intro S T a b x y h1 h2 hxy
    have hT : T < 2 ^ 128 := Nat.lt_of_lt_of_le (lt_lenN T) (Nat.pow_le_pow_right (by decide) h2)
    have h64 : (2 : Nat) ^ 64 < 2 ^ 255 := by decide
    have h256 : (2 : Nat) ^ 255 + 2 ^ 255 = 115792089237316195423570985008687907853269984665640564039457584007913129639936 := by decide
    have shl255 : ∀ n, lenN S + n ≤ 255 → S * 2 ^ n < 2 ^ 255 := by
      intro n hn
      refine lenN_le.1 ?_
      rcases Nat.eq_zero_or_pos S with h0 | h0
      · subst h0; rw [Nat.zero_mul]; exact Nat.zero_le _
      · rw [lenN_shl h0]; omega
    unfold jn2
    by_cases h : (lenN S : Int) + x - y < 250
    · rw [if_pos h]
      show sumS a b (S * 2 ^ (x - y).toNat) T < _
      have := shl255 (x - y).toNat (by omega)
      unfold sumS
      split
      · omega
      · split <;> omega
    · rw [if_neg h]
      show bsS a b S x T y < _
      have e : (250 - (lenN S : Int)) = ((250 - lenN S : Nat) : Int) := by omega
      have := shl255 (250 - lenN S) (by omega)
      have hq : T / 2 ^ (x - (250 - (lenN S : Int)) - y).toNat ≤ T := Nat.div_le_self _ _
      unfold bsS
      split
      · omega
      · exact Nat.lt_of_le_of_lt (Nat.le_trans (Nat.sub_le _ _) (Nat.sub_le _ _)) (by omega)
  unfold jn
  split
  · split
    · exact Nat.two_pow_pos 256
    · exact Nat.lt_of_lt_of_le (lt_lenN T) (Nat.pow_le_pow_right (n := 2) (by decide) (show lenN T ≤ 256 by omega))
  · split
    · exact Nat.lt_of_lt_of_le (lt_lenN S) (Nat.pow_le_pow_right (n := 2) (by decide) (show lenN S ≤ 256 by omega))
    · split
      · exact sm T S b a y x hT hS (by omega)
      · exact sm S T a b x y hS hT (by omega)

theorem adR_at (p q : Nat) (k : Int) : adR (adJ p q k) k = some (.tup [.int .u64 ((rndP (smM p q k) (smS p q) (min (exN p) (exN q)) k : Nat) : Int), .int .u8 ((rndF (smM p q k) (smS p q) (min (exN p) (exN q)) k : Nat) : Int)]) := by
  have hs := jn_small (S := sigN p) (T := sigN q) (by have := len_sig p; omega) (by have := len_sig q; omega) (sgB p) (sgB q) (exN p) (exN q) k
  obtain ⟨_, hm, ha⟩ := join_pat p q k
  obtain ⟨h1, h2⟩ := ha k
  have e : adJ p q k = jn (sgB p) (exN p) (sigN p) (sgB q) (exN q) (sigN q) k := by
    unfold adJ jJ tM tX tS
    rw [Int.toNat_natCast, Int.toNat_natCast, stk_eq, stk_eq, stk_eq, stk_eq, stk_eq, stk_eq, stk_eq, valW_sig, valW_sig]
    rfl
  rw [e]
  unfold adR pR fR
  rw [okW_toW, stk_eq, stk_eq, valW_toW, Nat.mod_eq_of_lt hs]
  unfold rndP
  rw [h1, h2, hm]
  rfl

theorem ok_add5 : EntOk Tryz.prog 48 (entS false sp_add) := by
  refine contractS (orc := orcAdd5) (lo := []) Tryz.func48 (orc_cons ok_isNaN (orc_cons ok_none2 (orc_cons ok_class (orc_cons ok_rOf (orc_cons ok_join (orc_cons ok_round orc_nil)))))) (by kernel_rfl) (by kernel_rfl) (by kernel_rfl) (loops_none (by kernel_rfl)) fun args r h => ?_
  unfold sp_add at h
  split at h
  · rename_i p q k
    simp only [Option.some.injEq, Prod.mk.injEq, Bool.and_eq_true] at h
    obtain ⟨⟨hp, hq⟩, rfl⟩ := h
    obtain ⟨m, rfl, hm⟩ := nat_of hp
    obtain ⟨n, rfl, hn⟩ := nat_of hq
    refine ⟨by kernel_rfl, .inr rfl, (run_add5 m n k).trans ?_⟩
    have hR := adR_at m n k
    have hJ : mayJ (toW (tS m)) (tX m) (toW (tS n)) (tX n) = true := by unfold tS tX; rw [stk_eq, stk_eq, stk_eq, stk_eq]; exact (join_pat m n k).1
    have c1 : (tC m == 3) = decide (absN m = infN) := by unfold tC; rw [stk_eq]; exact class_inf m
    have c2 : (tC n == 3) = decide (absN n = infN) := by unfold tC; rw [stk_eq]; exact class_inf n
    have c3 : ((m : Int) != (n : Int)) = decide (m ≠ n) := by
      rw [bne, eqN, ← decide_not]
    unfold ad3 ad2 ad1 ad0
    rw [Int.toNat_natCast, Int.toNat_natCast, hp, hq, c1, c2, c3, hJ, hR]
    unfold nanB finB noG adP adF
    rw [stk_eq, stk_eq, stk_eq, stk_eq, stk_eq, stk_eq, stk_eq]
    unfold adPN adFN nnT
    clear hR hJ c1 c2 c3
    by_cases n1 : infN < absN m
    · rw [decide_eq_true n1, if_pos (show infN < absN m ∨ infN < absN n from .inl n1), if_pos (show infN < absN m ∨ infN < absN n from .inl n1)]; rfl
    by_cases n2 : infN < absN n
    · rw [decide_eq_false n1, decide_eq_true n2, if_pos (show infN < absN m ∨ infN < absN n from .inr n2), if_pos (show infN < absN m ∨ infN < absN n from .inr n2)]; rfl
    have n3 : ¬ (infN < absN m ∨ infN < absN n) := by simp [n1, n2]
    rw [decide_eq_false n1, decide_eq_false n2, if_neg n3, if_neg n3]
    by_cases i1 : absN m = infN
    · rw [decide_eq_true i1, if_pos i1, if_pos i1]
      by_cases i2 : absN n = infN
      · rw [decide_eq_true i2]
        by_cases i3 : m ≠ n
        · rw [decide_eq_true i3, if_pos (show absN m = infN ∧ absN n = infN ∧ m ≠ n from ⟨i1, i2, i3⟩), if_pos (show absN m = infN ∧ absN n = infN ∧ m ≠ n from ⟨i1, i2, i3⟩)]; rfl
        · have i4 : ¬ (absN m = infN ∧ absN n = infN ∧ m ≠ n) := fun h => i3 h.2.2
          rw [decide_eq_false i3, if_neg i4, if_neg i4]; rfl
      · have i4 : ¬ (absN m = infN ∧ absN n = infN ∧ m ≠ n) := fun h => i2 h.2.1
        rw [decide_eq_false i2, if_neg i4, if_neg i4]; rfl
    · have i4 : ¬ (absN m = infN ∧ absN n = infN ∧ m ≠ n) := fun h => i1 h.1
      have f1 : absN m < infN := by omega
      rw [decide_eq_false i1, if_neg i1, if_neg i1, if_neg i4, if_neg i4, decide_eq_true f1]
      by_cases i2 : absN n = infN
      · rw [decide_eq_true i2, if_pos i2, if_pos i2]; rfl
      · have f2 : absN n < infN := by omega
        rw [decide_eq_false i2, if_neg i2, if_neg i2, decide_eq_true f2]; rfl
  · cases h

/-! ### Sub -/
def sbQ (q : Nat) : Nat := if infN < absN q then q else negN q
def sp_sub : List AV → Option (Bool × AV)
  | [.int .u64 p, .int .u64 q, .int .i64 k] => some (inU p && inU q, .tup [.int .u64 ((adP p.toNat (stk (sbQ q.toNat)) k : Nat) : Int), .int .u8 ((adF p.toNat (stk (sbQ q.toNat)) k : Nat) : Int)])
  | _ => none
def orcSub5 : List (FuncId × Ent) := [(66, entS false sp_isNaN), (46, entS false sp_pNeg), (48, entS false sp_add)]
def sbT (p q k : Int) : Option AV := chk (inU p && inU q) (some (.tup [.int .u64 ((adP p.toNat q.toNat k : Nat) : Int), .int .u8 ((adF p.toNat q.toNat k : Nat) : Int)]))
theorem run_sub5 (p q k : Int) : callA (env Tryz.f90.ntmps orcSub5 []) (bodyC Tryz.f90) Tryz.f90.results.toList (slots 0 [.int .u64 p, .int .u64 q, .int .i64 k]) some =
    chk (inU q) (bif !(nanB q.toNat) then chk (inU q) (sbT p ((negN q.toNat : Nat) : Int) k) else sbT p q k) := by kernel_rfl
theorem ok_sub5 : EntOk Tryz.prog 90 (entS false sp_sub) := by
  refine contractS (orc := orcSub5) (lo := []) Tryz.func90 (orc_cons ok_isNaN (orc_cons ok_pNeg (orc_cons ok_add5 orc_nil))) (by kernel_rfl) (by kernel_rfl) (by kernel_rfl) (loops_none (by kernel_rfl)) fun args r h => ?_
  unfold sp_sub at h
  split at h
  · rename_i p q k
    simp only [Option.some.injEq, Prod.mk.injEq, Bool.and_eq_true] at h
    obtain ⟨⟨hp, hq⟩, rfl⟩ := h
    refine ⟨by kernel_rfl, .inr rfl, (run_sub5 p q k).trans ?_⟩
    have hn := neg_lt q.toNat
    have hi : inU ((negN q.toNat : Nat) : Int) = true := inU_iff.2 (by omega)
    unfold sbT nanB
    rw [hp, hq, hi, stk_eq, stk_eq, Int.toNat_natCast]
    unfold sbQ
    by_cases h : infN < absN q.toNat
    · rw [decide_eq_true h, if_pos h]; rfl
    · rw [decide_eq_false h, if_neg h]; rfl
  · cases h

/-! ### sure, sides, turned -/
def orcSure5 : List (FuncId × Ent) := [(48, entS false sp_add)]
def s5T (p f q g : Nat) : Option AV := bif (p : Int) == 4607182418800017408 then bif (q : Int) == 4607182418800017409 then bif (f : Int) == 16 then some (.bool ((g : Int) == 16)) else some (.bool false) else some (.bool false) else some (.bool false)
theorem sure5_vals : adPN 4607182418800017408 4368491638549381120 0 = 4607182418800017408 ∧ adFN 4607182418800017408 4368491638549381120 0 = 16 ∧ adPN 4607182418800017408 4368491638549381120 3 = 4607182418800017409 ∧ adFN 4607182418800017408 4368491638549381120 3 = 16 := by decide +kernel
def sideK (k : Int) : Int := if k = 3 then 4 else if k = 4 then 3 else k
def sp_sides : List AV → Option (Bool × AV)
  | [.int .i64 k] => some (true, .int .i64 (stk (sideK k)))
  | _ => none
def turnB (p q : Nat) : Bool := decide ((p = nanC ∧ q = p) ∨ p = negN q)
def sp_turned : List AV → Option (Bool × AV)
  | [.int .u64 p, .int .u64 q] => some (inU p && inU q, .bool (stk (turnB p.toNat q.toNat)))
  | _ => none
end
end Go.Proofs.YtbakldcbaikgpaaGreatDoor
