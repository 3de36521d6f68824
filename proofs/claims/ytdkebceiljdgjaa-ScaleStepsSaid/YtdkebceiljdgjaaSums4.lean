/- SumsSigns, SumsBack. Own work. -/
import Derived.Test.YtdkebceiljdgjaaSums3
namespace Go.Proofs.Ytdkebceiljdgjaa
set_option maxRecDepth 100000
noncomputable section

/-! ### Signs turned -/
theorem neg_pE {p : Nat} : pE (negN p) = pE p := by unfold pE negN; omega
theorem neg_pF {p : Nat} : pF (negN p) = pF p := by unfold pF negN; omega
theorem neg_cl (p : Nat) : clN (negN p) = clN p := by unfold clN; rw [neg_pE, neg_pF]
theorem neg_ex (p : Nat) : exN (negN p) = exN p := by unfold exN; rw [neg_pE]
theorem neg_sig (p : Nat) : sigN (negN p) = sigN p := by unfold sigN; rw [neg_pE, neg_pF]
theorem neg_sg {p : Nat} (h : p < 18446744073709551616) : sgB (negN p) = !(sgB p) := by
  unfold sgB negN
  by_cases h1 : 9223372036854775808 ≤ p
  · rw [decide_eq_true h1, decide_eq_false (show ¬ 9223372036854775808 ≤ (p + 9223372036854775808) % 18446744073709551616 by omega)]; rfl
  · rw [decide_eq_false h1, decide_eq_true (show 9223372036854775808 ≤ (p + 9223372036854775808) % 18446744073709551616 by omega)]; rfl

theorem sumS_neg (a b : Bool) (A B : Nat) : sumS (!a) (!b) A B = sumS a b A B := by
  unfold sumS
  cases a <;> cases b <;> rfl
theorem sumM_neg (a b : Bool) (A B : Nat) (k k' : Int) (h : sumS a b A B ≠ 0) : sumM (!a) (!b) A B k' = !(sumM a b A B k) := by
  unfold sumS at h
  unfold sumM
  by_cases hab : a = b
  · subst hab
    rw [if_pos rfl, if_pos rfl]
  · have hab' : ¬ (!a) = (!b) := by cases a <;> cases b <;> simp at hab ⊢
    rw [if_neg hab] at h
    have hne : ¬ A = B := by
      intro e
      subst e
      rw [if_pos (Nat.le_refl _)] at h
      omega
    rw [if_neg hab, if_neg hab', if_neg hne, if_neg hne]
    by_cases h2 : B < A
    · rw [if_pos h2, if_pos h2]
    · rw [if_neg h2, if_neg h2]

theorem noG_neg (p q : Nat) : noGN (negN p) (negN q) = noGN p q := by unfold noGN; rw [neg_cl, neg_cl]
theorem smS_neg {p q : Nat} (hp : p < 18446744073709551616) (hq : q < 18446744073709551616) : smS (negN p) (negN q) = smS p q := by
  unfold smS
  rw [neg_sg hp, neg_sg hq, neg_sig, neg_sig, neg_ex, neg_ex, sumS_neg]

theorem abs_sgn (s : Nat) (h : s < 9223372036854775808) (m : Bool) : absN (s + sgnOf m) = s := by
  unfold absN
  have : sgnOf m = 0 ∨ sgnOf m = 9223372036854775808 := by unfold sgnOf; cases m <;> simp
  omega
theorem neg_sgn (s : Nat) (h : s < 9223372036854775808) (m : Bool) : s + sgnOf m = negN (s + sgnOf (!m)) := by
  have e1 : sgnOf true = 9223372036854775808 := rfl
  have e2 : sgnOf false = 0 := rfl
  unfold negN
  cases m
  · rw [Bool.not_false, e1, e2]; omega
  · rw [Bool.not_true, e1, e2]; omega

theorem signs_law {p q : Nat} (hp : p < 18446744073709551616) (hq : q < 18446744073709551616) (k : Int) :
    (absN (adPN p q k) = 0 → absN (adPN (negN p) (negN q) (sideK k)) = 0) ∧ (absN (adPN p q k) ≠ 0 → turnB (adPN p q k) (adPN (negN p) (negN q) (sideK k)) = true) ∧ adFN p q k = adFN (negN p) (negN q) (sideK k) := by
  have nn : ∀ {x : Nat}, x < 18446744073709551616 → x = negN (negN x) := fun h => (neg_neg h).symm
  unfold adPN adFN
  rw [neg_abs, neg_abs, noG_neg, smS_neg hp hq, neg_ex, neg_ex]
  by_cases n1 : infN < absN p ∨ infN < absN q
  · rw [if_pos n1, if_pos n1, if_pos n1, if_pos n1]
    refine ⟨id, fun _ => ?_, rfl⟩
    unfold turnB
    exact decide_eq_true (.inl ⟨rfl, rfl⟩)
  · rw [if_neg n1, if_neg n1, if_neg n1, if_neg n1]
    have hne : (absN p = infN ∧ absN q = infN ∧ negN p ≠ negN q) ↔ (absN p = infN ∧ absN q = infN ∧ p ≠ q) := by
      refine and_congr_right fun _ => and_congr_right fun _ => not_congr ⟨fun h => ?_, fun h => by rw [h]⟩
      rw [nn hp, nn hq, h]
    by_cases i1 : absN p = infN ∧ absN q = infN ∧ p ≠ q
    · rw [if_pos i1, if_pos i1, if_pos (hne.2 i1), if_pos (hne.2 i1)]
      refine ⟨id, fun _ => ?_, rfl⟩
      unfold turnB
      exact decide_eq_true (.inl ⟨rfl, rfl⟩)
    · rw [if_neg i1, if_neg i1, if_neg (fun h => i1 (hne.1 h)), if_neg (fun h => i1 (hne.1 h))]
      by_cases i2 : absN p = infN
      · rw [if_pos i2, if_pos i2, if_pos i2, if_pos i2]
        refine ⟨fun h => by rw [neg_abs]; exact h, fun _ => ?_, rfl⟩
        unfold turnB
        exact decide_eq_true (.inr (nn hp))
      · rw [if_neg i2, if_neg i2, if_neg i2, if_neg i2]
        by_cases i3 : absN q = infN
        · rw [if_pos i3, if_pos i3, if_pos i3, if_pos i3]
          refine ⟨fun h => by rw [neg_abs]; exact h, fun _ => ?_, rfl⟩
          unfold turnB
          exact decide_eq_true (.inr (nn hq))
        · rw [if_neg i3, if_neg i3, if_neg i3, if_neg i3]
          by_cases h0 : smS p q = 0
          · rw [h0]
            have z : ∀ m x k, sizeP m 0 x k = 0 := fun m x k => if_pos rfl
            have zf : ∀ m x k, rndF m 0 x k = 0 := fun m x k => if_pos rfl
            unfold rndP
            rw [z, z, zf, zf, abs_sgn 0 (by decide), abs_sgn 0 (by decide)]
            exact ⟨id, fun h => absurd rfl h, rfl⟩
          · have hM : smM (negN p) (negN q) (sideK k) = !(smM p q k) := by
              unfold smM
              rw [neg_sg hp, neg_sg hq, neg_sig, neg_sig, neg_ex, neg_ex]
              exact sumM_neg _ _ _ _ k (sideK k) h0
            rw [hM]
            unfold rndP
            rw [turn_size _ _ _ k (sideK k) rfl, turn_F _ _ _ k (sideK k) rfl]
            have hs := rndP_lt (smM p q k) (smS p q) (min (exN p) (exN q)) k
            rw [abs_sgn _ hs, abs_sgn _ hs]
            refine ⟨id, fun _ => ?_, rfl⟩
            unfold turnB
            exact decide_eq_true (.inr (neg_sgn _ hs _))

theorem ad_lt {p q : Nat} (hp : p < 18446744073709551616) (hq : q < 18446744073709551616) (k : Int) : adPN p q k < 18446744073709551616 := by
  unfold adPN
  split
  · decide
  split
  · decide
  split
  · exact hp
  split
  · exact hq
  · unfold rndP
    have h1 := rndP_lt (smM p q k) (smS p q) (min (exN p) (exN q)) k
    have : sgnOf (smM p q k) ≤ 9223372036854775808 := by unfold sgnOf; split <;> omega
    omega

def orcLaw5 : List (FuncId × Ent) := [(43, entS false sp_add), (48, entS false sp_sub), (45, entS false sp_true), (46, entS false sp_sides), (47, entS false sp_turned)]
theorem orcLaw5_ok {nt : Nat} : OrcOk Try.prog (env nt orcLaw5 []) := orc_cons ok_add5 (orc_cons ok_sub5 (orc_cons ok_sure5 (orc_cons ok_sides (orc_cons ok_turned orc_nil))))

def ss2 (p f q g : Int) : Option AV :=
  bif (andNotI .u64 p 9223372036854775808) == 0 then bif (andNotI .u64 q 9223372036854775808) == 0 then bif f == g then some (.bool true) else some (.bool false) else some (.bool false) else
    chk (inU p && inU q) (bif stk (turnB p.toNat q.toNat) then bif f == g then some (.bool true) else some (.bool false) else some (.bool false))
def ss1 (p q : Int) (p' q' : Int) (k : Int) : Option AV :=
  chk (inU p' && inU q') (ss2 ((adP p.toNat q.toNat k : Nat) : Int) ((adF p.toNat q.toNat k : Nat) : Int) ((adP p'.toNat q'.toNat (stk (sideK k)) : Nat) : Int) ((adF p'.toNat q'.toNat (stk (sideK k)) : Nat) : Int))
theorem run_sSigns (p q k : Int) : callA (env Try.f14.ntmps orcLaw5 []) (bodyC Try.f14) Try.f14.results.toList (slots 0 [.int .u64 p, .int .u64 q, .int .i64 k]) some =
    chk (inU p && inU q) (ss1 p q (xorI .u64 p 9223372036854775808) (xorI .u64 q 9223372036854775808) k) := by kernel_rfl

def sp_law3 : List AV → Option (Bool × AV)
  | [.int .u64 p, .int .u64 q, .int .i64 _] => some (inU p && inU q, .bool true)
  | _ => none

theorem xor_neg (m : Nat) (h : m < 18446744073709551616) : xorI .u64 (m : Int) 9223372036854775808 = ((negN m : Nat) : Int) := xor63 m h
theorem inU_nat {m : Nat} (h : m < 18446744073709551616) : inU (m : Int) = true := inU_iff.2 (by omega)

theorem ss2_at {P f Q g : Nat} (hP : P < 18446744073709551616) (hQ : Q < 18446744073709551616) (h1 : absN P = 0 → absN Q = 0) (h2 : absN P ≠ 0 → turnB P Q = true) (h3 : f = g) : ss2 (P : Int) (f : Int) (Q : Int) (g : Int) = some (.bool true) := by
  unfold ss2
  have q1 : (((absN P : Nat) : Int) == 0) = decide (absN P = 0) := eqN _ 0
  have q2 : (((absN Q : Nat) : Int) == 0) = decide (absN Q = 0) := eqN _ 0
  rw [andNot63 P hP, andNot63 Q hQ, q1, q2, inU_nat hP, inU_nat hQ, h3, beq_self_eq_true, Int.toNat_natCast, Int.toNat_natCast, stk_eq]
  by_cases h : absN P = 0
  · rw [decide_eq_true h, decide_eq_true (h1 h)]; rfl
  · rw [decide_eq_false h, h2 h]; rfl

theorem ok_sSigns : EntOk Try.prog 14 (entS false sp_law3) := by
  refine contractS (orc := orcLaw5) (lo := []) Try.func14 orcLaw5_ok (by kernel_rfl) (by kernel_rfl) (by kernel_rfl) (loops_none (by kernel_rfl)) fun args r h => ?_
  unfold sp_law3 at h
  split at h
  · rename_i p q k
    simp only [Option.some.injEq, Prod.mk.injEq, Bool.and_eq_true] at h
    obtain ⟨⟨hp, hq⟩, rfl⟩ := h
    obtain ⟨m, rfl, hm⟩ := nat_of hp
    obtain ⟨n, rfl, hn⟩ := nat_of hq
    refine ⟨by kernel_rfl, .inr rfl, (run_sSigns m n k).trans ?_⟩
    obtain ⟨h1, h2, h3⟩ := signs_law hm hn k
    unfold ss1 adP adF
    rw [xor_neg m hm, xor_neg n hn, hp, hq, inU_nat (neg_lt m), inU_nat (neg_lt n), Int.toNat_natCast, Int.toNat_natCast, Int.toNat_natCast, Int.toNat_natCast, stk_eq, stk_eq, stk_eq, stk_eq, stk_eq]
    rw [ss2_at (ad_lt hm hn k) (ad_lt (neg_lt m) (neg_lt n) (sideK k)) h1 h2 h3]
    rfl
  · cases h
end
end Go.Proofs.Ytdkebceiljdgjaa
