/- cplx: both, Add, Sub, More, Mul, Turn. Own work. -/
import Derived.Test.YtbakldcbaikgpaaGreatDoorProd
namespace Go.Proofs.YtbakldcbaikgpaaGreatDoor
set_option maxRecDepth 100000
noncomputable section

abbrev PZ := Int × Int
def okPr (x : PZ) : Bool := inU x.1 && inU x.2
def cAdd (x y : PZ) : PZ := (((adP x.1.toNat y.1.toNat 0 : Nat) : Int), ((adP x.2.toNat y.2.toNat 0 : Nat) : Int))
def cAddF (x y : PZ) : Int := orI .u8 ((adF x.1.toNat y.1.toNat 0 : Nat) : Int) ((adF x.2.toNat y.2.toNat 0 : Nat) : Int)
def cSub (x y : PZ) : PZ := (((adP x.1.toNat (stk (sbQ y.1.toNat)) 0 : Nat) : Int), ((adP x.2.toNat (stk (sbQ y.2.toNat)) 0 : Nat) : Int))
def cSubF (x y : PZ) : Int := orI .u8 ((adF x.1.toNat (stk (sbQ y.1.toNat)) 0 : Nat) : Int) ((adF x.2.toNat (stk (sbQ y.2.toNat)) 0 : Nat) : Int)
def cMore (x : PZ) (b : Int) (y : PZ) : PZ := (((fmP x.1.toNat b.toNat y.1.toNat 0 : Nat) : Int), ((fmP x.2.toNat b.toNat y.2.toNat 0 : Nat) : Int))
def cMoreF (x : PZ) (b : Int) (y : PZ) : Int := orI .u8 ((fmF x.1.toNat b.toNat y.1.toNat 0 : Nat) : Int) ((fmF x.2.toNat b.toNat y.2.toNat 0 : Nat) : Int)
def cTurn (x : PZ) (back : Bool) : PZ := bif back then (x.2, ((negN x.1.toNat : Nat) : Int)) else (((negN x.2.toNat : Nat) : Int), x.1)

/-! ### Patterns stay patterns -/
theorem ad_lt {p q : Nat} (hp : p < 18446744073709551616) (hq : q < 18446744073709551616) (k : Int) : adPN p q k < 18446744073709551616 := by
  unfold adPN
  split
  · decide
  · split
    · decide
    · split
      · exact hp
      · split
        · exact hq
        · unfold rndP
          have := rndP_lt (smM p q k) (smS p q) (min (exN p) (exN q)) k
          unfold sgnOf
          split <;> omega
theorem rnd_lt (m : Bool) (S : Nat) (x k : Int) : rndP m S x k < 18446744073709551616 := by
  have := rndP_lt m S x k
  unfold rndP sgnOf
  split <;> omega
theorem mu_lt (a b : Nat) (k : Int) : muPN a b k < 18446744073709551616 := by
  unfold muPN
  split
  · decide
  · split
    · decide
    · split
      · exact infX_abs a b
      · exact rnd_lt _ _ _ _
theorem fm_lt (a b : Nat) {c : Nat} (hc : c < 18446744073709551616) (k : Int) : fmPN a b c k < 18446744073709551616 := by
  unfold fmPN
  split
  · decide
  · split
    · decide
    · split
      · exact ad_lt (infX_abs a b) hc k
      · split
        · exact hc
        · exact rnd_lt _ _ _ _
theorem inU_lt {a : Int} (h : inU a = true) : a.toNat < 18446744073709551616 := by have := inU_iff.1 h; omega
theorem inU_nat {n : Nat} (h : n < 18446744073709551616) : inU (n : Int) = true := inU_iff.2 (by omega)
theorem sbQ_lt {q : Nat} (h : q < 18446744073709551616) : sbQ q < 18446744073709551616 := by
  unfold sbQ
  split
  · exact h
  · exact neg_lt q
theorem okPr_iff {x : PZ} : okPr x = true ↔ inU x.1 = true ∧ inU x.2 = true := by unfold okPr; rw [Bool.and_eq_true]
theorem okPr_add {x y : PZ} (hx : okPr x = true) (hy : okPr y = true) : okPr (cAdd x y) = true := by
  obtain ⟨h1, h2⟩ := okPr_iff.1 hx
  obtain ⟨h3, h4⟩ := okPr_iff.1 hy
  unfold cAdd adP
  rw [stk_eq, stk_eq]
  exact okPr_iff.2 ⟨inU_nat (ad_lt (inU_lt h1) (inU_lt h3) 0), inU_nat (ad_lt (inU_lt h2) (inU_lt h4) 0)⟩
theorem okPr_sub {x y : PZ} (hx : okPr x = true) (hy : okPr y = true) : okPr (cSub x y) = true := by
  obtain ⟨h1, h2⟩ := okPr_iff.1 hx
  obtain ⟨h3, h4⟩ := okPr_iff.1 hy
  unfold cSub adP
  simp only [stk_eq]
  exact okPr_iff.2 ⟨inU_nat (ad_lt (inU_lt h1) (sbQ_lt (inU_lt h3)) 0), inU_nat (ad_lt (inU_lt h2) (sbQ_lt (inU_lt h4)) 0)⟩
theorem okPr_more (x : PZ) (b : Int) {y : PZ} (hy : okPr y = true) : okPr (cMore x b y) = true := by
  obtain ⟨h3, h4⟩ := okPr_iff.1 hy
  unfold cMore fmP
  rw [stk_eq, stk_eq]
  exact okPr_iff.2 ⟨inU_nat (fm_lt _ _ (inU_lt h3) 0), inU_nat (fm_lt _ _ (inU_lt h4) 0)⟩
theorem okPr_turn {x : PZ} (hx : okPr x = true) (b : Bool) : okPr (cTurn x b) = true := by
  obtain ⟨h1, h2⟩ := okPr_iff.1 hx
  unfold cTurn
  cases b
  · exact okPr_iff.2 ⟨inU_nat (neg_lt _), h1⟩
  · exact okPr_iff.2 ⟨h2, inU_nat (neg_lt _)⟩

/-! ### both, Add, Sub -/
def sp_both : List AV → Option (Bool × AV)
  | [.func 48, .st [.int .u64 a, .int .u64 b], .st [.int .u64 c, .int .u64 d]] => some (okPr (a, b) && okPr (c, d), .tup [.st [.int .u64 (cAdd (a, b) (c, d)).1, .int .u64 (cAdd (a, b) (c, d)).2], .int .u8 (cAddF (a, b) (c, d))])
  | [.func 90, .st [.int .u64 a, .int .u64 b], .st [.int .u64 c, .int .u64 d]] => some (okPr (a, b) && okPr (c, d), .tup [.st [.int .u64 (cSub (a, b) (c, d)).1, .int .u64 (cSub (a, b) (c, d)).2], .int .u8 (cSubF (a, b) (c, d))])
  | _ => none
def orcBoth : List (FuncId × Ent) := [(48, entS false sp_add), (90, entS false sp_sub)]
theorem run_bothA (a b c d : Int) : callA (env Tryz.f47.ntmps orcBoth []) (bodyC Tryz.f47) Tryz.f47.results.toList (slots 0 [.func 48, .st [.int .u64 a, .int .u64 b], .st [.int .u64 c, .int .u64 d]]) some =
    chk (inU a && inU c) (chk (inU b && inU d) (some (.tup [.st [.int .u64 (cAdd (a, b) (c, d)).1, .int .u64 (cAdd (a, b) (c, d)).2], .int .u8 (cAddF (a, b) (c, d))]))) := by kernel_rfl
theorem run_bothS (a b c d : Int) : callA (env Tryz.f47.ntmps orcBoth []) (bodyC Tryz.f47) Tryz.f47.results.toList (slots 0 [.func 90, .st [.int .u64 a, .int .u64 b], .st [.int .u64 c, .int .u64 d]]) some =
    chk (inU a && inU c) (chk (inU b && inU d) (some (.tup [.st [.int .u64 (cSub (a, b) (c, d)).1, .int .u64 (cSub (a, b) (c, d)).2], .int .u8 (cSubF (a, b) (c, d))]))) := by kernel_rfl
theorem ok_both : EntOk Tryz.prog 47 (entS false sp_both) := by
  refine contractS (orc := orcBoth) (lo := []) Tryz.func47 (orc_cons ok_add5 (orc_cons ok_sub5 orc_nil)) (by kernel_rfl) (by kernel_rfl) (by kernel_rfl) (loops_none (by kernel_rfl)) fun args r h => ?_
  unfold sp_both at h
  split at h
  · rename_i a b c d
    simp only [Option.some.injEq, Prod.mk.injEq, Bool.and_eq_true] at h
    obtain ⟨⟨hx, hy⟩, rfl⟩ := h
    obtain ⟨h1, h2⟩ := okPr_iff.1 hx
    obtain ⟨h3, h4⟩ := okPr_iff.1 hy
    refine ⟨by kernel_rfl, .inr rfl, (run_bothA a b c d).trans ?_⟩
    rw [h1, h2, h3, h4]; rfl
  · rename_i a b c d
    simp only [Option.some.injEq, Prod.mk.injEq, Bool.and_eq_true] at h
    obtain ⟨⟨hx, hy⟩, rfl⟩ := h
    obtain ⟨h1, h2⟩ := okPr_iff.1 hx
    obtain ⟨h3, h4⟩ := okPr_iff.1 hy
    refine ⟨by kernel_rfl, .inr rfl, (run_bothS a b c d).trans ?_⟩
    rw [h1, h2, h3, h4]; rfl
  · cases h
def sp_cAdd : List AV → Option (Bool × AV)
  | [.st [.int .u64 a, .int .u64 b], .st [.int .u64 c, .int .u64 d]] => some (okPr (a, b) && okPr (c, d), .tup [.st [.int .u64 (cAdd (a, b) (c, d)).1, .int .u64 (cAdd (a, b) (c, d)).2], .int .u8 (cAddF (a, b) (c, d))])
  | _ => none
def sp_cSub : List AV → Option (Bool × AV)
  | [.st [.int .u64 a, .int .u64 b], .st [.int .u64 c, .int .u64 d]] => some (okPr (a, b) && okPr (c, d), .tup [.st [.int .u64 (cSub (a, b) (c, d)).1, .int .u64 (cSub (a, b) (c, d)).2], .int .u8 (cSubF (a, b) (c, d))])
  | _ => none
theorem run_cAdd (a b c d : Int) : callA (env Tryz.f29.ntmps [(47, entS false sp_both)] []) (bodyC Tryz.f29) Tryz.f29.results.toList (slots 0 [.st [.int .u64 a, .int .u64 b], .st [.int .u64 c, .int .u64 d]]) some =
    chk (okPr (a, b) && okPr (c, d)) (some (.tup [.st [.int .u64 (cAdd (a, b) (c, d)).1, .int .u64 (cAdd (a, b) (c, d)).2], .int .u8 (cAddF (a, b) (c, d))])) := by kernel_rfl
theorem run_cSub (a b c d : Int) : callA (env Tryz.f58.ntmps [(47, entS false sp_both)] []) (bodyC Tryz.f58) Tryz.f58.results.toList (slots 0 [.st [.int .u64 a, .int .u64 b], .st [.int .u64 c, .int .u64 d]]) some =
    chk (okPr (a, b) && okPr (c, d)) (some (.tup [.st [.int .u64 (cSub (a, b) (c, d)).1, .int .u64 (cSub (a, b) (c, d)).2], .int .u8 (cSubF (a, b) (c, d))])) := by kernel_rfl
theorem ok_cAdd : EntOk Tryz.prog 29 (entS false sp_cAdd) := by
  refine contractS (orc := [(47, entS false sp_both)]) (lo := []) Tryz.func29 (orc_cons ok_both orc_nil) (by kernel_rfl) (by kernel_rfl) (by kernel_rfl) (loops_none (by kernel_rfl)) fun args r h => ?_
  unfold sp_cAdd at h
  split at h
  · rename_i a b c d
    simp only [Option.some.injEq, Prod.mk.injEq] at h
    obtain ⟨hx, rfl⟩ := h
    refine ⟨by kernel_rfl, .inr rfl, (run_cAdd a b c d).trans ?_⟩
    rw [hx]; rfl
  · cases h
theorem ok_cSub : EntOk Tryz.prog 58 (entS false sp_cSub) := by
  refine contractS (orc := [(47, entS false sp_both)]) (lo := []) Tryz.func58 (orc_cons ok_both orc_nil) (by kernel_rfl) (by kernel_rfl) (by kernel_rfl) (loops_none (by kernel_rfl)) fun args r h => ?_
  unfold sp_cSub at h
  split at h
  · rename_i a b c d
    simp only [Option.some.injEq, Prod.mk.injEq] at h
    obtain ⟨hx, rfl⟩ := h
    refine ⟨by kernel_rfl, .inr rfl, (run_cSub a b c d).trans ?_⟩
    rw [hx]; rfl
  · cases h

/-! ### More, Turn -/
def sp_cMore : List AV → Option (Bool × AV)
  | [.st [.int .u64 a, .int .u64 b], .int .u64 y, .st [.int .u64 c, .int .u64 d]] => some (okPr (a, b) && inU y && okPr (c, d), .tup [.st [.int .u64 (cMore (a, b) y (c, d)).1, .int .u64 (cMore (a, b) y (c, d)).2], .int .u8 (cMoreF (a, b) y (c, d))])
  | _ => none
theorem run_cMore (a b y c d : Int) : callA (env Tryz.f61.ntmps [(45, entS false sp_fma)] []) (bodyC Tryz.f61) Tryz.f61.results.toList (slots 0 [.st [.int .u64 a, .int .u64 b], .int .u64 y, .st [.int .u64 c, .int .u64 d]]) some =
    chk (inU a && inU y && inU c) (chk (inU b && inU y && inU d) (some (.tup [.st [.int .u64 (cMore (a, b) y (c, d)).1, .int .u64 (cMore (a, b) y (c, d)).2], .int .u8 (cMoreF (a, b) y (c, d))]))) := by kernel_rfl
theorem ok_cMore : EntOk Tryz.prog 61 (entS false sp_cMore) := by
  refine contractS (orc := [(45, entS false sp_fma)]) (lo := []) Tryz.func61 (orc_cons ok_fma orc_nil) (by kernel_rfl) (by kernel_rfl) (by kernel_rfl) (loops_none (by kernel_rfl)) fun args r h => ?_
  unfold sp_cMore at h
  split at h
  · rename_i a b y c d
    simp only [Option.some.injEq, Prod.mk.injEq, Bool.and_eq_true] at h
    obtain ⟨⟨⟨hx, hy⟩, hz⟩, rfl⟩ := h
    obtain ⟨h1, h2⟩ := okPr_iff.1 hx
    obtain ⟨h3, h4⟩ := okPr_iff.1 hz
    refine ⟨by kernel_rfl, .inr rfl, (run_cMore a b y c d).trans ?_⟩
    rw [h1, h2, h3, h4, hy]; rfl
  · cases h
def sp_cTurn : List AV → Option (Bool × AV)
  | [.st [.int .u64 a, .int .u64 b], .bool bk] => some (okPr (a, b), .st [.int .u64 (cTurn (a, b) bk).1, .int .u64 (cTurn (a, b) bk).2])
  | _ => none
theorem run_cTurn (a b : Int) (bk : Bool) : callA (env Tryz.f59.ntmps [(46, entS false sp_pNeg)] []) (bodyC Tryz.f59) Tryz.f59.results.toList (slots 0 [.st [.int .u64 a, .int .u64 b], .bool bk]) some =
    bif bk then chk (inU a) (some (.st [.int .u64 b, .int .u64 ((negN a.toNat : Nat) : Int)])) else chk (inU b) (some (.st [.int .u64 ((negN b.toNat : Nat) : Int), .int .u64 a])) := by kernel_rfl
theorem ok_cTurn : EntOk Tryz.prog 59 (entS false sp_cTurn) := by
  refine contractS (orc := [(46, entS false sp_pNeg)]) (lo := []) Tryz.func59 (orc_cons ok_pNeg orc_nil) (by kernel_rfl) (by kernel_rfl) (by kernel_rfl) (loops_none (by kernel_rfl)) fun args r h => ?_
  unfold sp_cTurn at h
  split at h
  · rename_i a b bk
    simp only [Option.some.injEq, Prod.mk.injEq] at h
    obtain ⟨hx, rfl⟩ := h
    obtain ⟨h1, h2⟩ := okPr_iff.1 hx
    refine ⟨by kernel_rfl, .inr rfl, (run_cTurn a b bk).trans ?_⟩
    rw [h1, h2]
    cases bk <;> rfl
  · cases h

/-! ### Mul -/
def cMulP (x y : PZ) : Nat := muP x.2.toNat y.2.toNat 0
def cMulQ (x y : PZ) : Nat := muP x.2.toNat y.1.toNat 0
def cMul (x y : PZ) : PZ := (((fmP x.1.toNat y.1.toNat (negN (cMulP x y)) 0 : Nat) : Int), ((fmP x.1.toNat y.2.toNat (cMulQ x y) 0 : Nat) : Int))
def cMulF (x y : PZ) : Int := orI .u8 (orI .u8 (orI .u8 ((muF x.2.toNat y.2.toNat 0 : Nat) : Int) ((fmF x.1.toNat y.1.toNat (negN (cMulP x y)) 0 : Nat) : Int)) ((muF x.2.toNat y.1.toNat 0 : Nat) : Int)) ((fmF x.1.toNat y.2.toNat (cMulQ x y) 0 : Nat) : Int)
def sp_cMul : List AV → Option (Bool × AV)
  | [.st [.int .u64 a, .int .u64 b], .st [.int .u64 c, .int .u64 d]] => some (okPr (a, b) && okPr (c, d), .tup [.st [.int .u64 (cMul (a, b) (c, d)).1, .int .u64 (cMul (a, b) (c, d)).2], .int .u8 (cMulF (a, b) (c, d))])
  | _ => none
def orcCMul : List (FuncId × Ent) := [(45, entS false sp_fma), (44, entS false sp_mul6), (46, entS false sp_pNeg)]
def cmZ (a b c d P N Q : Int) : Option AV :=
  chk (inU P) (chk (inU a && inU c && inU N) (chk (inU b && inU c) (chk (inU a && inU d && inU Q) (some (.tup [.st [.int .u64 ((fmP a.toNat c.toNat N.toNat 0 : Nat) : Int), .int .u64 ((fmP a.toNat d.toNat Q.toNat 0 : Nat) : Int)],
    .int .u8 (orI .u8 (orI .u8 (orI .u8 ((muF b.toNat d.toNat 0 : Nat) : Int) ((fmF a.toNat c.toNat N.toNat 0 : Nat) : Int)) ((muF b.toNat c.toNat 0 : Nat) : Int)) ((fmF a.toNat d.toNat Q.toNat 0 : Nat) : Int))])))))
theorem run_cMul (a b c d : Int) : callA (env Tryz.f28.ntmps orcCMul []) (bodyC Tryz.f28) Tryz.f28.results.toList (slots 0 [.st [.int .u64 a, .int .u64 b], .st [.int .u64 c, .int .u64 d]]) some =
    chk (inU b && inU d) (cmZ a b c d ((muP b.toNat d.toNat 0 : Nat) : Int) ((negN ((muP b.toNat d.toNat 0 : Nat) : Int).toNat : Nat) : Int) ((muP b.toNat c.toNat 0 : Nat) : Int)) := by kernel_rfl
theorem ok_cMul : EntOk Tryz.prog 28 (entS false sp_cMul) := by
  refine contractS (orc := orcCMul) (lo := []) Tryz.func28 (orc_cons ok_fma (orc_cons ok_mul6 (orc_cons ok_pNeg orc_nil))) (by kernel_rfl) (by kernel_rfl) (by kernel_rfl) (loops_none (by kernel_rfl)) fun args r h => ?_
  unfold sp_cMul at h
  split at h
  · rename_i a b c d
    simp only [Option.some.injEq, Prod.mk.injEq, Bool.and_eq_true] at h
    obtain ⟨⟨hx, hy⟩, rfl⟩ := h
    obtain ⟨h1, h2⟩ := okPr_iff.1 hx
    obtain ⟨h3, h4⟩ := okPr_iff.1 hy
    have u1 : inU ((cMulP (a, b) (c, d) : Nat) : Int) = true := inU_nat (by unfold cMulP muP; rw [stk_eq]; exact mu_lt _ _ _)
    have u2 : inU ((cMulQ (a, b) (c, d) : Nat) : Int) = true := inU_nat (by unfold cMulQ muP; rw [stk_eq]; exact mu_lt _ _ _)
    have u3 : inU ((negN (cMulP (a, b) (c, d)) : Nat) : Int) = true := inU_nat (neg_lt _)
    refine ⟨by kernel_rfl, .inr rfl, (run_cMul a b c d).trans ?_⟩
    simp only at h1 h2 h3 h4
    unfold cMulP at u1 u3
    unfold cMulQ at u2
    simp only at u1 u2 u3
    unfold cmZ
    rw [Int.toNat_natCast, Int.toNat_natCast, Int.toNat_natCast, h1, h2, h3, h4, u1, u2, u3]; rfl
  · cases h
end
end Go.Proofs.YtbakldcbaikgpaaGreatDoor
