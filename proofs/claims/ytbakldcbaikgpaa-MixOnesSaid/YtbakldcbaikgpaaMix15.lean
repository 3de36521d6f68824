/- mix: Parts as plain numbers; tillerlaw20.sure, tillerref20.Product. Own work. -/
import Derived.Test.YtbakldcbaikgpaaMixC
import Derived.Test.YtbakldcbaikgpaaMixP
namespace Go.Proofs.Ytbakldcbaikgpaa
set_option maxRecDepth 100000

/-! ### Without marks -/
def pMulF (x y : PZ) : Int := orI .u8 (orI .u8 (orI .u8 ((muFN x.2.toNat y.2.toNat 0 : Nat) : Int) ((fmFN x.1.toNat y.1.toNat (negN (muPN x.2.toNat y.2.toNat 0)) 0 : Nat) : Int)) ((muFN x.2.toNat y.1.toNat 0 : Nat) : Int)) ((fmFN x.1.toNat y.2.toNat (muPN x.2.toNat y.1.toNat 0) 0 : Nat) : Int)
theorem cMulF_p : cMulF = pMulF := by funext x y; unfold cMulF pMulF cMulP cMulQ fmF muF muP; simp only [stk_eq]
def pRoot (q n : Int) : PZ := (pCos q n, pSin q n)
theorem rootP_p : rootP = pRoot := by funext q n; unfold rootP pRoot; rw [cosR_p, sinR_p]
def pntP (f : Int) (x : PZ) (bk : Bool) (p n : Int) : PZ × Int := if p = 0 then (x, f) else (pMul x (pRoot (ptQ bk p) n), orI .u8 f (pMulF x (pRoot (ptQ bk p) n)))
theorem pnt_p : pnt = pntP := by funext f x bk p n; unfold pnt pntP; rw [cMul_p, cMulF_p, rootP_p]
def jS2P (j : Nat) (s : JS) (r : PZ × Int) : JS := (r.2, s.2.set j r.1)
def jSP (C : List PZ) (lo m k N : Nat) (bk : Bool) : Nat → Nat → JS → JS
  | 0, _, s => s
  | q + 1, j, s => jSP C lo m k N bk q (j + 1) (jS2P j s (pntP s.1 (gp C (lo + (j * m + k))) bk (j * k : Nat) N))
theorem jS_p (C : List PZ) (lo m k N : Nat) (bk : Bool) : ∀ (q j : Nat) (s : JS), jS C lo m k N bk q j s = jSP C lo m k N bk q j s
  | 0, _, _ => rfl
  | q + 1, j, s => by
    rw [jS, jSP, ← jS_p C lo m k N bk q (j + 1)]
    unfold jS1 jS2P
    rw [pnt_p]
abbrev KS2 := Int × List PZ
def kS3P (lo m nt : Nat) (k : Nat) (s : KS) (t : JS) (l : BS) : KS := (orI .u8 t.1 l.1, qS l.2 lo m k nt 0 s.2.1, t.2)
def kS2P (lo m nt : Nat) (bk : Bool) (k : Nat) (s : KS) (t : JS) : KS := kS3P lo m nt k s t (litP t.2 bk nt)
def kSP (lo m N nt : Nat) (bk : Bool) : Nat → Nat → KS → KS
  | 0, _, s => s
  | q + 1, k, s => kSP lo m N nt bk q (k + 1) (kS2P lo m nt bk k s (jSP s.2.1 lo m k N bk nt 0 (s.1, s.2.2)))
theorem kS_p (lo m N nt : Nat) (bk : Bool) : ∀ (q k : Nat) (s : KS), kS lo m N nt bk q k s = kSP lo m N nt bk q k s
  | 0, _, _ => rfl
  | q + 1, k, s => by
    rw [kS, kSP, ← kS_p lo m N nt bk q (k + 1)]
    unfold kS1 kS2P kS3P
    simp only [jS_p, litR_p]
def two12 (s : KS) : CS := (s.1, s.2.1)
def blkP (f : Int) (C : List PZ) (lo N r : Nat) (bk : Bool) : Int × List PZ := two12 (kSP lo (N / r) N r bk (N / r) 0 (f, C, List.replicate r (0, 0)))
theorem blk_p : blkR = blkP := by funext f C lo N r bk; unfold blkR blkP two12; rw [kS_p]
def fSP (bk : Bool) (size r : Nat) : Nat → Nat → CS → CS
  | 0, _, s => s
  | q + 1, fr, s => fSP bk size r q (fr + size) (blkP s.1 s.2 fr size r bk)
theorem fS_p (bk : Bool) (size r : Nat) : ∀ (q fr : Nat) (s : CS), fS bk size r q fr s = fSP bk size r q fr s
  | 0, _, _ => rfl
  | q + 1, fr, s => by rw [fS, fSP, blk_p]; exact fS_p bk size r q _ _
def rSP (R : List Int) (bk : Bool) (n : Nat) : Nat → Nat → CS → CS
  | 0, _, s => s
  | c + 1, size, s => rSP R bk n c (size * (R.getD c 0).toNat) (fSP bk (size * (R.getD c 0).toNat) (R.getD c 0).toNat (n / (size * (R.getD c 0).toNat)) 0 s)
theorem rS_p (R : List Int) (bk : Bool) (n : Nat) : ∀ (c size : Nat) (s : CS), rS R bk n c size s = rSP R bk n c size s
  | 0, _, _ => rfl
  | c + 1, size, s => by rw [rS, rSP, fS_p]; exact rS_p R bk n c _ _
def parP (R : List Int) (X : List PZ) (bk : Bool) (n : Nat) : CS := rSP R bk n R.length 1 (0, iS (ordP R n) X n 0 (List.replicate n (0, 0)))
theorem par_p : parR = parP := by funext R X bk n; unfold parR parP; rw [rS_p]
theorem parK_p (R : List Int) (X : List PZ) (bk : Bool) (n : Nat) : parK R X bk n = parP R X bk n := by unfold parK; rw [stk_eq, par_p]

noncomputable section
/-! ### sure -/
def isU (x : PZ) : Bool := decide (0 ≤ x.1) && decide (x.1 < 18446744073709551616) && decide (0 ≤ x.2) && decide (x.2 < 18446744073709551616)
theorem fitX_all {n : Nat} {X : List PZ} (hl : X.length = n) (h : ∀ x ∈ X, isU x = true) : fitX n X = true := by
  have h2 : okL X = true := okL_iff.2 fun x hx => by
    have := h x hx
    unfold isU at this
    simp only [Bool.and_eq_true, decide_eq_true_eq] at this
    obtain ⟨⟨⟨h1, h2⟩, h3⟩, h4⟩ := this
    exact okPr_iff.2 ⟨inU_iff.2 ⟨h1, h2⟩, inU_iff.2 ⟨h3, h4⟩⟩
  exact fitX_at hl h2
def sureX20 : List PZ := [(4607182418800017408, 0), (4611686018427387904, 0), (4613937818241073152, 0), (4616189618054758400, 0)]
def su20 (L : List PZ) (f : Int) : Option AV :=
  bif f == 0 then chk (inX 0 4) (bif ((gp L 0).1 == 4621819117588971520 && ((gp L 0).2 == 0 && true)) then chk (inX 1 4) (some (.bool ((gp L 1).1 == 13835058055282163712 && ((gp L 1).2 == 4611686018427387904 && true)))) else some (.bool false)) else some (.bool false)
theorem run_lsure20 : callA (env Try.f13.ntmps [(14, entB false sp_parts)] []) (bodyC Try.f13) Try.f13.results.toList (slots 0 []) some =
    chk (fitR 2 [2, 2] && fitX 4 sureX20) (bif prB [2, 2] then (bif prV [2, 2] != 4 then some (.bool false) else su20 (parK [2, 2] sureX20 false 4).2 (parK [2, 2] sureX20 false 4).1) else some (.bool false)) := by kernel_rfl
def sureB20 : Bool := (parP [2, 2] sureX20 false 4).1 == 0 && (gp (parP [2, 2] sureX20 false 4).2 0) == (4621819117588971520, 0) && (gp (parP [2, 2] sureX20 false 4).2 1) == (13835058055282163712, 4611686018427387904)
theorem sureB20_t : sureB20 = true := by decide +kernel
theorem sureX20_u : ∀ x ∈ sureX20, isU x = true := List.all_eq_true.1 (show sureX20.all isU = true by decide +kernel)
theorem fitR_at {m : Nat} {R : List Int} (h1 : R.length = m) (h2 : m < 9223372036854775808) : fitR m R = true := by
  unfold fitR
  rw [stk_eq, decide_eq_true ⟨h1, h2⟩]
theorem prV22 : prB [2, 2] = true ∧ prV [2, 2] = 4 := by
  unfold prB prV
  rw [stk_eq, stk_eq]
  decide +kernel
def sp_tt : List AV → Option (Bool × AV)
  | [] => some (true, .bool true)
  | _ => none
theorem ok_lsure20 : EntOk Try.prog 13 (entS false sp_tt) := by
  refine contractS (orc := [(14, entB false sp_parts)]) (lo := []) Try.func13 (orc_cons ok_parts orc_nil) (by kernel_rfl) (by kernel_rfl) (by kernel_rfl) (loops_none (by kernel_rfl)) fun args r h => ?_
  unfold sp_tt at h
  split at h
  · simp only [Option.some.injEq, Prod.mk.injEq] at h
    obtain ⟨hg, rfl⟩ := h
    refine ⟨by kernel_rfl, .inr rfl, run_lsure20.trans ?_⟩
    have hs := sureB20_t
    unfold sureB20 at hs
    simp only [Bool.and_eq_true, beq_iff_eq] at hs
    obtain ⟨⟨h1, h2⟩, h3⟩ := hs
    rw [fitR_at (m := 2) (R := [2, 2]) rfl (by decide), fitX_all (n := 4) (X := sureX20) rfl sureX20_u, prV22.1, prV22.2, parK_p, h1]
    unfold su20
    rw [h2, h3]
    rfl
  · cases h
end
end Go.Proofs.Ytbakldcbaikgpaa
