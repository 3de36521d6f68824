/- tillerref17: Add, Sub, More, Mul, Turn. Own work. -/
import Derived.Test.YtbakldcbaikgpaaGreatDoorRef9
import Derived.Test.YtbakldcbaikgpaaGreatDoorMirN
namespace Go.Proofs.YtbakldcbaikgpaaGreatDoor
set_option maxRecDepth 100000
noncomputable section
/-! ### Flags, as bytes and as whole numbers -/
theorem or64_nat {a b : Nat} (ha : a < 256) (hb : b < 256) : orI .i64 (a : Int) (b : Int) = ((a ||| b : Nat) : Int) := by
  have h : a ||| b < 256 := Nat.or_lt_two_pow (n := 8) ha hb
  unfold orI
  rw [show IntKind.i64.bits = 64 from rfl, BitVec.toNat_or, BitVec.ofInt_natCast, BitVec.ofInt_natCast, BitVec.toNat_ofNat, BitVec.toNat_ofNat, Nat.mod_eq_of_lt (by omega), Nat.mod_eq_of_lt (by omega)]
  exact w64_mid (by omega) (by omega)
theorem or8_nat {a b : Nat} (ha : a < 256) (hb : b < 256) : orI .u8 (a : Int) (b : Int) = ((a ||| b : Nat) : Int) := by
  have h : a ||| b < 256 := Nat.or_lt_two_pow (n := 8) ha hb
  rw [or8, BitVec.toNat_or, BitVec.ofInt_natCast, BitVec.ofInt_natCast, BitVec.toNat_ofNat, BitVec.toNat_ofNat, Nat.mod_eq_of_lt (by omega), Nat.mod_eq_of_lt (by omega)]
/-- A byte of flags. -/
def fl8 (x : Int) : Prop := 0 ≤ x ∧ x < 256
theorem fl8_nat {n : Nat} (h : n < 256) : fl8 (n : Int) := ⟨by omega, by omega⟩
theorem or_same {x y : Int} (hx : fl8 x) (hy : fl8 y) : orI .i64 x y = orI .u8 x y ∧ fl8 (orI .u8 x y) := by
  obtain ⟨a, rfl⟩ : ∃ n : Nat, x = n := ⟨x.toNat, (Int.toNat_of_nonneg hx.1).symm⟩
  obtain ⟨b, rfl⟩ : ∃ n : Nat, y = n := ⟨y.toNat, (Int.toNat_of_nonneg hy.1).symm⟩
  have ha : a < 256 := by have := hx.2; omega
  have hb : b < 256 := by have := hy.2; omega
  rw [or64_nat ha hb, or8_nat ha hb]
  exact ⟨rfl, fl8_nat (Nat.or_lt_two_pow (n := 8) ha hb)⟩
theorem rndF_lt (m : Bool) (S : Nat) (x k : Int) : rndF m S x k < 256 := by
  unfold rndF
  split
  · decide
  · split
    · decide
    · split
      · split <;> decide
      · decide
theorem adF_fl (p q : Nat) (k : Int) : fl8 ((adF p q k : Nat) : Int) := by
  unfold adF adFN noGN
  rw [stk_eq]
  refine fl8_nat ?_
  split
  · split <;> decide
  · split
    · decide
    · split
      · decide
      · split
        · decide
        · exact rndF_lt _ _ _ _
theorem fmF_fl (p q c : Nat) (k : Int) : fl8 ((fmF p q c k : Nat) : Int) := by
  have h := adF_fl (infX p q) c k
  unfold adF at h
  rw [stk_eq] at h
  unfold fmF fmFN ld3N
  rw [stk_eq]
  split
  · exact fl8_nat (by decide)
  · split
    · refine fl8_nat ?_
      split <;> decide
    · split
      · exact h
      · split
        · exact fl8_nat (by decide)
        · exact fl8_nat (rndF_lt _ _ _ _)
theorem cAddF_fl (x y : PZ) : fl8 (cAddF x y) := (or_same (adF_fl _ _ _) (adF_fl _ _ _)).2
theorem cSubF_fl (x y : PZ) : fl8 (cSubF x y) := (or_same (adF_fl _ _ _) (adF_fl _ _ _)).2
theorem cMoreF_fl (x : PZ) (b : Int) (y : PZ) : fl8 (cMoreF x b y) := (or_same (fmF_fl _ _ _ _) (fmF_fl _ _ _ _)).2
/-! ### Add, Sub, More, Mul, Turn -/
def r17 (x : PZ) (f : Int) : Option AV := some (.tup [.st [.int .u64 x.1, .int .u64 x.2], .int .i64 f])
def sp_r17Add : List AV → Option (Bool × AV)
  | [.st [.int .u64 a, .int .u64 b], .st [.int .u64 c, .int .u64 d]] => some (okPr (a, b) && okPr (c, d), .tup [.st [.int .u64 (cAdd (a, b) (c, d)).1, .int .u64 (cAdd (a, b) (c, d)).2], .int .i64 (cAddF (a, b) (c, d))])
  | _ => none
theorem run_r17Add (a b c d : Int) : callA (env Tryz.f32.ntmps [(52, entS true sp_rAdd)] []) (bodyC Tryz.f32) Tryz.f32.results.toList (slots 0 [.st [.int .u64 a, .int .u64 b], .st [.int .u64 c, .int .u64 d]]) some =
    chk (inU a && inU c) (chk (inU b && inU d) (r17 (cAdd (a, b) (c, d)) (orI .i64 ((adF a.toNat c.toNat 0 : Nat) : Int) ((adF b.toNat d.toNat 0 : Nat) : Int)))) := by kernel_rfl
theorem ok_r17Add : EntOk Tryz.prog 32 (entS false sp_r17Add) := by
  refine contractS (orc := [(52, entS true sp_rAdd)]) (lo := []) Tryz.func32 (orc_cons ok_rAdd orc_nil) (by kernel_rfl) (by kernel_rfl) (by kernel_rfl) (loops_none (by kernel_rfl)) fun args r h => ?_
  unfold sp_r17Add at h
  split at h
  · rename_i a b c d
    simp only [Option.some.injEq, Prod.mk.injEq, Bool.and_eq_true] at h
    obtain ⟨⟨hx, hy⟩, rfl⟩ := h
    obtain ⟨h1, h2⟩ := okPr_iff.1 hx
    obtain ⟨h3, h4⟩ := okPr_iff.1 hy
    refine ⟨by kernel_rfl, .inr rfl, (run_r17Add a b c d).trans ?_⟩
    rw [h1, h2, h3, h4, (or_same (adF_fl _ _ _) (adF_fl _ _ _)).1]; rfl
  · cases h
def sp_r17Sub : List AV → Option (Bool × AV)
  | [.st [.int .u64 a, .int .u64 b], .st [.int .u64 c, .int .u64 d]] => some (okPr (a, b) && okPr (c, d), .tup [.st [.int .u64 (cSub (a, b) (c, d)).1, .int .u64 (cSub (a, b) (c, d)).2], .int .i64 (cSubF (a, b) (c, d))])
  | _ => none
theorem run_r17Sub (a b c d : Int) : callA (env Tryz.f38.ntmps [(62, entS true sp_rSub)] []) (bodyC Tryz.f38) Tryz.f38.results.toList (slots 0 [.st [.int .u64 a, .int .u64 b], .st [.int .u64 c, .int .u64 d]]) some =
    chk (inU a && inU c) (chk (inU b && inU d) (r17 (cSub (a, b) (c, d)) (orI .i64 ((adF a.toNat (stk (sbQ c.toNat)) 0 : Nat) : Int) ((adF b.toNat (stk (sbQ d.toNat)) 0 : Nat) : Int)))) := by kernel_rfl
theorem ok_r17Sub : EntOk Tryz.prog 38 (entS false sp_r17Sub) := by
  refine contractS (orc := [(62, entS true sp_rSub)]) (lo := []) Tryz.func38 (orc_cons ok_rSub orc_nil) (by kernel_rfl) (by kernel_rfl) (by kernel_rfl) (loops_none (by kernel_rfl)) fun args r h => ?_
  unfold sp_r17Sub at h
  split at h
  · rename_i a b c d
    simp only [Option.some.injEq, Prod.mk.injEq, Bool.and_eq_true] at h
    obtain ⟨⟨hx, hy⟩, rfl⟩ := h
    obtain ⟨h1, h2⟩ := okPr_iff.1 hx
    obtain ⟨h3, h4⟩ := okPr_iff.1 hy
    refine ⟨by kernel_rfl, .inr rfl, (run_r17Sub a b c d).trans ?_⟩
    rw [h1, h2, h3, h4, (or_same (adF_fl _ _ _) (adF_fl _ _ _)).1]; rfl
  · cases h
def sp_r17More : List AV → Option (Bool × AV)
  | [.st [.int .u64 a, .int .u64 b], .int .u64 y, .st [.int .u64 c, .int .u64 d]] => some (okPr (a, b) && inU y && okPr (c, d), .tup [.st [.int .u64 (cMore (a, b) y (c, d)).1, .int .u64 (cMore (a, b) y (c, d)).2], .int .i64 (cMoreF (a, b) y (c, d))])
  | _ => none
theorem run_r17More (a b y c d : Int) : callA (env Tryz.f40.ntmps [(50, entS true sp_rFma)] []) (bodyC Tryz.f40) Tryz.f40.results.toList (slots 0 [.st [.int .u64 a, .int .u64 b], .int .u64 y, .st [.int .u64 c, .int .u64 d]]) some =
    chk (inU a && inU y && inU c) (chk (inU b && inU y && inU d) (r17 (cMore (a, b) y (c, d)) (orI .i64 ((fmF a.toNat y.toNat c.toNat 0 : Nat) : Int) ((fmF b.toNat y.toNat d.toNat 0 : Nat) : Int)))) := by kernel_rfl
theorem ok_r17More : EntOk Tryz.prog 40 (entS false sp_r17More) := by
  refine contractS (orc := [(50, entS true sp_rFma)]) (lo := []) Tryz.func40 (orc_cons ok_rFma orc_nil) (by kernel_rfl) (by kernel_rfl) (by kernel_rfl) (loops_none (by kernel_rfl)) fun args r h => ?_
  unfold sp_r17More at h
  split at h
  · rename_i a b y c d
    simp only [Option.some.injEq, Prod.mk.injEq, Bool.and_eq_true] at h
    obtain ⟨⟨⟨hx, hy⟩, hz⟩, rfl⟩ := h
    obtain ⟨h1, h2⟩ := okPr_iff.1 hx
    obtain ⟨h3, h4⟩ := okPr_iff.1 hz
    refine ⟨by kernel_rfl, .inr rfl, (run_r17More a b y c d).trans ?_⟩
    rw [h1, h2, h3, h4, hy, (or_same (fmF_fl _ _ _ _) (fmF_fl _ _ _ _)).1]; rfl
  · cases h
theorem run_r17Turn (a b : Int) (bk : Bool) : callA (env Tryz.f39.ntmps [(51, entS false sp_pNeg)] []) (bodyC Tryz.f39) Tryz.f39.results.toList (slots 0 [.st [.int .u64 a, .int .u64 b], .bool bk]) some =
    bif bk then chk (inU a) (some (.st [.int .u64 b, .int .u64 ((negN a.toNat : Nat) : Int)])) else chk (inU b) (some (.st [.int .u64 ((negN b.toNat : Nat) : Int), .int .u64 a])) := by kernel_rfl
theorem ok_r17Turn : EntOk Tryz.prog 39 (entS false sp_cTurn) := by
  refine contractS (orc := [(51, entS false sp_pNeg)]) (lo := []) Tryz.func39 (orc_cons ok_rNeg orc_nil) (by kernel_rfl) (by kernel_rfl) (by kernel_rfl) (loops_none (by kernel_rfl)) fun args r h => ?_
  unfold sp_cTurn at h
  split at h
  · rename_i a b bk
    simp only [Option.some.injEq, Prod.mk.injEq] at h
    obtain ⟨hx, rfl⟩ := h
    obtain ⟨h1, h2⟩ := okPr_iff.1 hx
    refine ⟨by kernel_rfl, .inr rfl, (run_r17Turn a b bk).trans ?_⟩
    rw [h1, h2]
    cases bk <;> rfl
  · cases h
end
end Go.Proofs.YtbakldcbaikgpaaGreatDoor
