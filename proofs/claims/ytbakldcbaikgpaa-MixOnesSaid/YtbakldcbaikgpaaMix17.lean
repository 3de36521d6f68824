/- MixOnes. Own work. -/
import Derived.Test.YtbakldcbaikgpaaMix16
namespace Go.Proofs.Ytbakldcbaikgpaa
set_option maxRecDepth 100000
noncomputable section

def oneI : Int := 4607182418800017408
def nl (x : Int) : Bool := andNotI .u64 x 9223372036854775808 != 0
def goodM (nL : Nat) (L : List PZ) (n : Int) : Bool := stk (decide (n = nL ∧ L.length = nL ∧ nL ≤ 1000) && L.all (fun x => x.1 == oneI && !nl x.2))
def stepM (R : Type) (vs : List AV) (k1 : List AV → Option R) (k2 : Nat → List AV → Option R) : Option R :=
  match vs with
  | [.prs nL .u64 L, .int .i64 n, .int .i64 i] =>
    bif decide (i < n) then chk (inX i nL) (bif (gp L i.toNat).1 != oneI then k2 1 [.bool false] else chk (inX i nL) (bif nl (gp L i.toNat).2 then k2 1 [.bool false] else
      k1 [.prs nL .u64 L, .int .i64 n, .int .i64 (w64 (i + 1))]))
    else k2 0 []
  | _ => none
def leM : LEnt :=
  { inn := { fuel := none, keep := [5, 10], refs := [(7, 7, 25, .prs 0 .u64 [])] }
    out := { fuel := none, keep := [], refs := [] }
    ret := { fuel := none, keep := [4], refs := [] }
    go := fun _ _ vs kk => match vs with
      | [.prs nL .u64 L, .int .i64 n, .int .i64 0] => chk (goodM nL L n) (kk 0 [])
      | _ => none }
theorem step_M (R : Type) (nL : Nat) (L : List PZ) (n i : Int) (k1 : List AV → Option R) (k2 : Nat → List AV → Option R) :
    runA (env Try.f6.ntmps [] []) (loopOf 0 (bodyC Try.f6)) 0 (stateOf leM.inn [.prs nL .u64 L, .int .i64 n, .int .i64 i]) (bodyK leM 0 k1 k2) =
    stepM R [.prs nL .u64 L, .int .i64 n, .int .i64 i] k1 k2 := by kernel_rfl
theorem M_loop (R : Type) (h : Nat) (L : List PZ) (kk : Nat → List AV → Option R) (hh : h ≤ 1000) (hL : L.length = h) (hg : ∀ x ∈ L, x.1 = oneI ∧ nl x.2 = false) : ∀ (q i : Nat), i + q = h →
    loopN (stepM R) (q + 1) [.prs h .u64 L, .int .i64 h, .int .i64 i] kk = kk 0 []
  | 0, i, hi => by
    rw [loopN]
    unfold stepM
    simp only [show ¬ ((i : Int) < (h : Int)) by omega, decide_false, cond_false]
  | q + 1, i, hi => by
    have hm : gp L i ∈ L := by
      unfold gp
      rw [List.getD_eq_getElem?_getD, List.getElem?_eq_getElem (show i < L.length by omega)]
      exact List.getElem_mem _
    obtain ⟨g1, g2⟩ := hg _ hm
    have e1 : w64 ((i : Int) + 1) = ((i + 1 : Nat) : Int) := by rw [w64_mid (by omega) (by omega)]; omega
    have c1 : inX (i : Int) h = true := inX_at (by omega)
    have hs : ∀ k1 k2, stepM R [.prs h .u64 L, .int .i64 h, .int .i64 i] k1 k2 = k1 [.prs h .u64 L, .int .i64 h, .int .i64 ((i + 1 : Nat) : Int)] := by
      intro k1 k2
      unfold stepM
      simp only [decide_eq_true (show (i : Int) < (h : Int) by omega), cond_true, cond_false, Int.toNat_natCast, c1, g1, g2, bne_self_eq_false, e1, chk]
    rw [loopN, hs]
    exact M_loop R h L kk hh hL hg q (i + 1) (by omega)
theorem go_M (R : Type) (n : Nat) (vs : List AV) (kk : Nat → List AV → Option R) (r : R) (h : leM.go R n vs kk = some r) : ∃ m, loopN (stepM R) m vs kk = some r := by
  simp only [leM] at h
  split at h
  · rename_i nL L n
    obtain ⟨hg, hk⟩ := chk_some h
    clear h
    unfold goodM at hg
    rw [stk_eq] at hg
    simp only [Bool.and_eq_true, decide_eq_true_eq, List.all_eq_true, beq_iff_eq, Bool.not_eq_true'] at hg
    obtain ⟨⟨rfl, g1, g2⟩, g3⟩ := hg
    exact ⟨nL + 1, (M_loop R nL L kk g2 g1 g3 nL 0 (by omega)).trans hk⟩
  · cases h
def orcMO : List (FuncId × Ent) := [(12, entS false sp_rprod), (13, entS false sp_tt), (14, entB false sp_parts)]
def moD (N : Nat) (L : List PZ) (n : Int) : Option AV := bif (N : Int) != n then some (.bool false) else chk (goodM N L n) (some (.bool true))
def moC (m N : Nat) (R : List Int) (X : List PZ) (bk : Bool) (n : Int) : Option AV :=
  chk (fitR m R && fitX N X) (bif prB R then (bif prV R != (N : Int) then some (.bool false) else moD N (parK R X bk N).2 n) else some (.bool false))
def moB (m : Nat) (R : List Int) (bk : Bool) (n : Int) : Option AV :=
  chk (mkOk n) (chk (inX 0 n.toNat) (moC m n.toNat R ((List.replicate n.toNat (0, 0)).set 0 (oneI, (gp (List.replicate n.toNat (0, 0)) 0).2)) bk n))
theorem run_lMixOnes (m : Nat) (R : List Int) (bk : Bool) : callA (env Try.f6.ntmps orcMO [(0, leM)]) (bodyC Try.f6) Try.f6.results.toList (slots 0 [.sl (.ints m .i64 R), .bool bk]) some =
    chk (fitR m R) (bif prV R == 0 then some (.bool true) else bif decide (prV R > 200) then some (.bool true) else moB m R bk (prV R)) := by kernel_rfl
theorem nt_nl {z : Int} (h0 : 0 ≤ z) (h : nt z.toNat) : nl z = false := by
  have : z = 0 ∨ z = 9223372036854775808 := by unfold nt at h; omega
  rcases this with rfl | rfl <;> decide +kernel
theorem iS_parts_ok {R : List Int} {X : List PZ} (hX : okL X = true) (bk : Bool) (n : Nat) : ∀ (c size : Nat) (s : CS), okL s.2 = true → okL (rS R bk n c size s).2 = true
  | 0, _, _, h => h
  | c + 1, _, s, h => iS_parts_ok hX bk n c _ _ (fS_ok (nc := s.2.length) bk _ _ _ 0 s h rfl).1
theorem parR_ok {R : List Int} {X : List PZ} (hX : okL X = true) (bk : Bool) (n : Nat) : okL (parR R X bk n).2 = true :=
  iS_parts_ok hX bk n R.length 1 _ (iS_ok hX n 0 _ (okL_rep n))
theorem moB_at {m n : Nat} {R : List Int} (bk : Bool) (hR : fitR m R = true) (hb : prB R = true) (hp : prN R = n) (h1 : 1 ≤ n) (hn : n ≤ 200) (hc : ∀ r ∈ R, canN r = true) : moB m R bk (n : Int) = some (.bool true) := by
  have hv : prV R = (n : Int) := by rw [(prB_pr hb).1, hp]
  have lX : ((List.replicate n ((0 : Int), (0 : Int))).set 0 (oneI, (0, 0).2)).length = n := by rw [List.length_set, List.length_replicate]
  have kX : okL ((List.replicate n (0, 0)).set 0 (oneI, (0, 0).2)) = true := okL_set (okL_rep n) 0 (okPr_iff.2 ⟨inU_iff.2 (by decide), inU_iff.2 (by decide)⟩)
  have eX : lead2 n 1 ((List.replicate n (0, 0)).set 0 (oneI, (0, 0).2)) := by
    refine ⟨lX, fun x hx => ⟨fun h2 => ?_, fun h2 => ?_⟩⟩
    · obtain rfl : x = 0 := by omega
      rw [gp_set (by rw [List.length_replicate]; omega)]
      exact ⟨rfl, .inl rfl⟩
    · rw [gpne (show 0 ≠ x by omega), gp_repl]
      exact z_zero
  obtain ⟨o1, o2⟩ := parR_ones hp h1 hc eX bk
  have o3 := parR_ok (R := R) kX bk n
  have hg : goodM n (parR R ((List.replicate n (0, 0)).set 0 (oneI, (0, 0).2)) bk n).2 (n : Int) = true := by
    unfold goodM
    rw [stk_eq, decide_eq_true ⟨rfl, o1, by omega⟩, Bool.true_and, List.all_eq_true]
    intro x hx
    obtain ⟨i, hi, rfl⟩ := List.mem_iff_getElem.1 hx
    have hgp : gp (parR R ((List.replicate n (0, 0)).set 0 (oneI, (0, 0).2)) bk n).2 i = (parR R ((List.replicate n (0, 0)).set 0 (oneI, (0, 0).2)) bk n).2[i] := by
      unfold gp
      rw [List.getD_eq_getElem?_getD, List.getElem?_eq_getElem hi]
      rfl
    have h2 := (o2 i (by omega)).1 (by omega)
    rw [hgp] at h2
    have h3 := okL_iff.1 o3 _ hx
    rw [nt_nl (inU_iff.1 (okPr_iff.1 h3).2).1 h2.2, beq_iff_eq.2 (show _ = oneI from h2.1)]
    rfl
  unfold moB
  rw [mkOk_at (show n ≤ 1000 by omega), Int.toNat_natCast, show inX 0 n = true from inX_at (show 0 < n by omega), gp_repl]
  unfold moC moD parK
  rw [hR, fitX_at lX kX, hb, hv, stk_eq, hg, bne_self_eq_false]
  rfl
def sp_lMixOnes : List AV → Option (Bool × AV)
  | [.sl (.ints m .i64 R), .bool _] => some (fitR m R, .bool true)
  | _ => none
theorem ok_lMixOnes : EntOk Try.prog 6 (entS false sp_lMixOnes) := by
  refine contractS (orc := orcMO) (lo := [(0, leM)]) Try.func6 (orc_cons ok_rprod (orc_cons ok_lsure20 (orc_cons ok_parts orc_nil))) (by kernel_rfl) (by kernel_rfl) (by kernel_rfl)
    (loops_one (id := 0) (y := .loop (loopOf 0 (bodyC Try.f6))) (by kernel_rfl)
      (loopS (le := leM) (orc := []) (lo' := []) orc_nil (by kernel_rfl) rfl (loops_none (by kernel_rfl)) stepM (fun R vs k1 k2 r h => ?_) go_M)) fun args r h => ?_
  · have h0 := h
    unfold stepM at h
    split at h
    · exact (step_M R _ _ _ _ k1 k2).trans h0
    · cases h
  · unfold sp_lMixOnes at h
    split at h
    · rename_i m R bk
      simp only [Option.some.injEq, Prod.mk.injEq] at h
      obtain ⟨hg, rfl⟩ := h
      refine ⟨by kernel_rfl, .inr rfl, (run_lMixOnes m R bk).trans ?_⟩
      rw [hg]
      by_cases h0 : prV R = 0
      · rw [beq_iff_eq.2 h0]; rfl
      by_cases h2 : prV R > 200
      · rw [beq_eq_false_iff_ne.2 h0, decide_eq_true h2]; rfl
      rw [beq_eq_false_iff_ne.2 h0, decide_eq_false h2]
      have hb : prB R = true := by
        unfold prV at h0
        unfold prB
        rw [stk_eq] at h0 ⊢
        cases hp : prodL R 1 with
        | none => rw [hp] at h0; exact absurd rfl h0
        | some p => rfl
      obtain ⟨b1, b2, b3, b4⟩ := prB_pr hb
      rw [b1] at h2 ⊢
      exact moB_at bk hg hb rfl b2 (by omega) b4
    · cases h
end
end Go.Proofs.Ytbakldcbaikgpaa
