/- sums: right, Exact; tillerlaw05.may; SumsExact. Own work. -/
import Derived.Test.YtdkebceiljdgjaaDoorRef7
import Derived.Test.YtdkebceiljdgjaaDoorErr2
namespace Go.Proofs.YtdkebceiljdgjaaDoor
set_option maxRecDepth 100000
noncomputable section

/-! ### right, may -/
def rtN (V : Nat) (x : Int) (r : Bool) : Bool := decide (lenN V ≤ 128) && !r && decide (-100000 ≤ x) && decide (x ≤ 100000)
def rtB (s : List Int) (x : Int) (r : Bool) : Bool := stk (rtN (valW s) x r)
def sp_right : List AV → Option (Bool × AV)
  | [.st [.bool _, .int .i64 x, .ints 4 .u64 s, .bool r]] => some (okW s, .bool (rtB s x r))
  | _ => none
def rtT (e : Int) (r : Bool) : Option AV := bif !r then bif decide (e ≥ (-100000)) then some (.bool (decide (e ≤ 100000))) else some (.bool false) else some (.bool false)
theorem run_right (m : Bool) (e : Int) (s : List Int) (r : Bool) : callA (env Tryd.f43.ntmps [(38, entS false sp_wLen)] []) (bodyC Tryd.f43) Tryd.f43.results.toList (slots 0 [.st [.bool m, .int .i64 e, .ints 4 .u64 s, .bool r]]) some =
    chk (okW s) (bif decide (((lenN (valW s) : Nat) : Int) ≤ 128) then rtT e r else some (.bool false)) := by kernel_rfl
theorem run_may5 (m : Bool) (e : Int) (s : List Int) (r : Bool) : callA (env Tryd.f21.ntmps [] []) (bodyC Tryd.f21) Tryd.f21.results.toList (slots 0 [.st [.bool m, .int .i64 e, .ints 4 .u64 s, .bool r]]) some =
    bif s.getD 2 0 == 0 then bif s.getD 3 0 == 0 then rtT e r else some (.bool false) else some (.bool false) := by kernel_rfl
theorem rtT_at (e : Int) (r : Bool) : rtT e r = some (.bool (!r && decide (-100000 ≤ e) && decide (e ≤ 100000))) := by
  unfold rtT
  have e1 : decide (e ≥ (-100000)) = decide (-100000 ≤ e) := rfl
  rw [e1]
  cases r
  · cases decide (-100000 ≤ e) <;> rfl
  · rfl
theorem ok_right : EntOk Tryd.prog 43 (entS false sp_right) := by
  refine contractS (orc := [(38, entS false sp_wLen)]) (lo := []) Tryd.func43 (orc_cons ok_wLen orc_nil) (by kernel_rfl) (by kernel_rfl) (by kernel_rfl) (loops_none (by kernel_rfl)) fun args r h => ?_
  unfold sp_right at h
  split at h
  · rename_i m x s r
    simp only [Option.some.injEq, Prod.mk.injEq] at h
    obtain ⟨hs, rfl⟩ := h
    refine ⟨by kernel_rfl, .inr rfl, (run_right m x s r).trans ?_⟩
    have e1 : decide (((lenN (valW s) : Nat) : Int) ≤ 128) = decide (lenN (valW s) ≤ 128) := decide_eq_decide.2 (by omega)
    unfold rtB rtN
    rw [hs, stk_eq, e1, rtT_at]
    cases decide (lenN (valW s) ≤ 128) <;> rfl
  · cases h
theorem ok_may5 : EntOk Tryd.prog 21 (entS false sp_right) := by
  refine contractS (orc := []) (lo := []) Tryd.func21 orc_nil (by kernel_rfl) (by kernel_rfl) (by kernel_rfl) (loops_none (by kernel_rfl)) fun args r h => ?_
  unfold sp_right at h
  split at h
  · rename_i m x s r
    simp only [Option.some.injEq, Prod.mk.injEq] at h
    obtain ⟨hs, rfl⟩ := h
    refine ⟨by kernel_rfl, .inr rfl, (run_may5 m x s r).trans ?_⟩
    obtain ⟨a, b, c, d, rfl, ha, hb, hc, hd⟩ := okW_split hs
    have g2 : ([a, b, c, d] : List Int).getD 2 0 = c := rfl
    have g3 : ([a, b, c, d] : List Int).getD 3 0 = d := rfl
    have hv : valW [a, b, c, d] = a.toNat + 18446744073709551616 * b.toNat + 340282366920938463463374607431768211456 * c.toNat + 6277101735386680763835789423207666416102355444464034512896 * d.toNat := rfl
    have hl : lenN (valW [a, b, c, d]) ≤ 128 ↔ c = 0 ∧ d = 0 := by
      rw [lenN_le, hv, show (2 : Nat) ^ 128 = 340282366920938463463374607431768211456 from rfl]
      omega
    unfold rtB rtN
    rw [stk_eq, g2, g3, rtT_at]
    by_cases h1 : c = 0
    · by_cases h2 : d = 0
      · rw [decide_eq_true (hl.2 ⟨h1, h2⟩), beq_iff_eq.2 h1, beq_iff_eq.2 h2]; rfl
      · rw [decide_eq_false (fun h => h2 (hl.1 h).2), beq_iff_eq.2 h1, beq_eq_false_iff_ne.2 h2]; rfl
    · rw [decide_eq_false (fun h => h1 (hl.1 h).1), beq_eq_false_iff_ne.2 h1]; rfl
  · cases h

/-! ### Exact -/
def orcSuEx : List (FuncId × Ent) := [(43, entS false sp_right), (44, entS false sp_join)]
def exE : Option AV := some (.tup [.st [.bool false, .int .i64 0, .ints 4 .u64 [0, 0, 0, 0], .bool false], .iface 68 (.int .i64 1)])
theorem run_exact0 (a : Bool) (x : Int) (s : List Int) (b : Bool) (y : Int) (t : List Int) (k : Int) : callA (env Tryd.f20.ntmps orcSuEx []) (bodyC Tryd.f20) Tryd.f20.results.toList (slots 0 [.st [.bool a, .int .i64 x, .ints 4 .u64 s, .bool false], .st [.bool b, .int .i64 y, .ints 4 .u64 t, .bool false], .int .i64 k]) some =
    chk (okW s) (bif !(rtB s x false) then exE else chk (okW t) (bif !(rtB t y false) then exE else chk (mayJ s x t y) (some (.tup [.st [.bool (jJ a x s b y t k).m, .int .i64 (jJ a x s b y t k).x, .ints 4 .u64 (toW (jJ a x s b y t k).s), .bool (jJ a x s b y t k).r], .nili])))) := by kernel_rfl
theorem run_exact1 (a : Bool) (x : Int) (s : List Int) (b : Bool) (y : Int) (t : List Int) (q : Bool) (k : Int) : callA (env Tryd.f20.ntmps orcSuEx []) (bodyC Tryd.f20) Tryd.f20.results.toList (slots 0 [.st [.bool a, .int .i64 x, .ints 4 .u64 s, .bool true], .st [.bool b, .int .i64 y, .ints 4 .u64 t, .bool q], .int .i64 k]) some =
    chk (okW s) (bif !(rtB s x true) then exE else chk (okW t) (bif !(rtB t y q) then exE else none)) := by kernel_rfl
theorem run_exact2 (a : Bool) (x : Int) (s : List Int) (b : Bool) (y : Int) (t : List Int) (k : Int) : callA (env Tryd.f20.ntmps orcSuEx []) (bodyC Tryd.f20) Tryd.f20.results.toList (slots 0 [.st [.bool a, .int .i64 x, .ints 4 .u64 s, .bool false], .st [.bool b, .int .i64 y, .ints 4 .u64 t, .bool true], .int .i64 k]) some =
    chk (okW s) (bif !(rtB s x false) then exE else chk (okW t) (bif !(rtB t y true) then exE else none)) := by kernel_rfl
def sp_exact5 : List AV → Option Br
  | [.st [.bool a, .int .i64 x, .ints 4 .u64 s, .bool r], .st [.bool b, .int .i64 y, .ints 4 .u64 t, .bool q], .int .i64 k] => some (.chk (okW s && okW t) (.br (!(rtB s x r)) (.leaf (.tup [.st [.bool false, .int .i64 0, .ints 4 .u64 [0, 0, 0, 0], .bool false], .iface 68 (.int .i64 1)]))
      (.br (!(rtB t y q)) (.leaf (.tup [.st [.bool false, .int .i64 0, .ints 4 .u64 [0, 0, 0, 0], .bool false], .iface 68 (.int .i64 1)]))
        (.leaf (.tup [.st [.bool (jJ a x s b y t k).m, .int .i64 (jJ a x s b y t k).x, .ints 4 .u64 (toW (jJ a x s b y t k).s), .bool (jJ a x s b y t k).r], .nili])))))
  | _ => none
theorem rtB_iff {s : List Int} {x : Int} {r : Bool} : rtB s x r = true ↔ lenN (valW s) ≤ 128 ∧ r = false ∧ -100000 ≤ x ∧ x ≤ 100000 := by
  unfold rtB rtN
  rw [stk_eq]
  simp only [Bool.and_eq_true, decide_eq_true_eq, Bool.not_eq_true', and_assoc]
theorem ok_exact5 : EntOk Tryd.prog 20 (entB false sp_exact5) := by
  refine contractB (orc := orcSuEx) (lo := []) Tryd.func20 (orc_cons ok_right (orc_cons ok_join orc_nil)) (by kernel_rfl) (by kernel_rfl) (by kernel_rfl) (loops_none (by kernel_rfl)) fun args t h => ?_
  unfold sp_exact5 at h
  split at h
  · rename_i a x s r b y t q k
    simp only [Option.some.injEq] at h
    subst h
    refine ⟨by kernel_rfl, .inr rfl, fun z hz => ?_⟩
    simp only [Br.run] at hz
    obtain ⟨hg, hz⟩ := chk_some hz
    simp only [Bool.and_eq_true] at hg
    obtain ⟨hs, ht⟩ := hg
    have no : ∀ {s : List Int} {x : Int}, rtB s x true = false := by
      intro s x
      cases h : rtB s x true with
      | false => rfl
      | true => exact absurd (rtB_iff.1 h).2.1 (by simp)
    rw [← hz]
    cases r with
    | true =>
      refine (run_exact1 a x s b y t q k).trans ?_
      rw [hs, no]
      rfl
    | false =>
      cases q with
      | true =>
        refine (run_exact2 a x s b y t k).trans ?_
        rw [hs, ht, no]
        cases rtB s x false <;> rfl
      | false =>
        refine (run_exact0 a x s b y t k).trans ?_
        rw [hs, ht]
        cases h1 : rtB s x false with
        | false => rfl
        | true =>
          cases h2 : rtB t y false with
          | false => rfl
          | true =>
            have g1 := rtB_iff.1 h1
            have g2 := rtB_iff.1 h2
            have hJ : mayJ s x t y = true := mayJ_iff.2 ⟨⟨hs, ht⟩, ⟨g1.1, g2.1⟩, by omega, by omega⟩
            rw [hJ]
            rfl
  · cases h

/-! ### SumsExact: all five modes -/
def sxN (m : Bool) (x : Int) (s : List Int) (r : Bool) (m2 : Bool) (e : Int) (l : List Int) (k : Int) : Prop := pR m s x r k = zP m2 e l k ∧ fR m s x r k = zF m2 e l k
instance (m : Bool) (x : Int) (s : List Int) (r : Bool) (m2 : Bool) (e : Int) (l : List Int) (k : Int) : Decidable (sxN m x s r m2 e l k) := by unfold sxN; infer_instance
def sxB (m : Bool) (x : Int) (s : List Int) (r : Bool) (m2 : Bool) (e : Int) (l : List Int) : Bool :=
  stk (decide (sxN m x s r m2 e l 0) && decide (sxN m x s r m2 e l 1) && decide (sxN m x s r m2 e l 2) && decide (sxN m x s r m2 e l 3) && decide (sxN m x s r m2 e l 4))
def stepSx (R : Type) (vs : List AV) (k1 : List AV → Option R) (k2 : Nat → List AV → Option R) : Option R :=
  match vs with
  | [.st [.bool m, .int .i64 x, .ints 4 .u64 s, .bool r], .st [.bool m2, .int .i64 e, .sl (.ints n .u32 l)], .int .i64 k] =>
    bif decide (k < 5) then chk (okW s) (chk (mayZ e n l) (bif ((pR m s x r k : Nat) : Int) != ((zP m2 e l k : Nat) : Int) then k2 1 [.bool false] else
      bif w64 ((fR m s x r k : Nat) : Int) != ((zF m2 e l k : Nat) : Int) then k2 1 [.bool false] else k1 [.st [.bool m, .int .i64 x, .ints 4 .u64 s, .bool r], .st [.bool m2, .int .i64 e, .sl (.ints n .u32 l)], .int .i64 (w64 (k + 1))]))
    else k2 0 []
  | _ => none
def leSx : LEnt :=
  { inn := { fuel := none, keep := [10], refs := [(7, 7, 36, .dead), (9, 9, 59, .dead)] }
    out := { fuel := none, keep := [], refs := [] }
    ret := { fuel := none, keep := [6], refs := [] }
    go := fun _ _ vs kk => match vs with
      | [.st [.bool m, .int .i64 x, .ints 4 .u64 s, .bool r], .st [.bool m2, .int .i64 e, .sl (.ints n .u32 l)], .int .i64 0] => chk (okW s && mayZ e n l && sxB m x s r m2 e l) (kk 0 [])
      | _ => none }
def orcSx : List (FuncId × Ent) := [(17, entS false sp_round), (26, entS true sp_round4)]
theorem step_sx (R : Type) (m : Bool) (x : Int) (s : List Int) (r : Bool) (m2 : Bool) (e : Int) (n : Nat) (l : List Int) (k : Int) (k1 : List AV → Option R) (k2 : Nat → List AV → Option R) :
    runA (env Tryd.f6.ntmps orcSx []) (loopOf 0 (bodyC Tryd.f6)) 0 (stateOf leSx.inn [.st [.bool m, .int .i64 x, .ints 4 .u64 s, .bool r], .st [.bool m2, .int .i64 e, .sl (.ints n .u32 l)], .int .i64 k]) (bodyK leSx 0 k1 k2) =
    stepSx R [.st [.bool m, .int .i64 x, .ints 4 .u64 s, .bool r], .st [.bool m2, .int .i64 e, .sl (.ints n .u32 l)], .int .i64 k] k1 k2 := by kernel_rfl
theorem sx_round (R : Type) {m : Bool} {x : Int} {s : List Int} {r : Bool} {m2 : Bool} {e : Int} {n : Nat} {l : List Int} (hs : okW s = true) (hz : mayZ e n l = true) (kk : Nat → List AV → Option R) (f : Nat) {k k1 : Int} (e1 : k + 1 = k1) (h0 : 0 ≤ k) (h5 : k < 5) (h : sxN m x s r m2 e l k) :
    loopN (stepSx R) (f + 1) [.st [.bool m, .int .i64 x, .ints 4 .u64 s, .bool r], .st [.bool m2, .int .i64 e, .sl (.ints n .u32 l)], .int .i64 k] kk = loopN (stepSx R) f [.st [.bool m, .int .i64 x, .ints 4 .u64 s, .bool r], .st [.bool m2, .int .i64 e, .sl (.ints n .u32 l)], .int .i64 k1] kk := by
  have hw : w64 (k + 1) = k1 := (w64_mid (by omega) (by omega)).trans e1
  have hF : w64 ((zF m2 e l k : Nat) : Int) = ((zF m2 e l k : Nat) : Int) := by unfold zF; rw [stk_eq]; exact F_small _ _ _ _
  rw [loopN]
  simp only [stepSx]
  rw [decide_eq_true h5, hs, hz, h.1, h.2, hF, hw, bne_self_eq_false, bne_self_eq_false]
  rfl
theorem go_sx (R : Type) (n : Nat) (vs : List AV) (kk : Nat → List AV → Option R) (r : R) (h : leSx.go R n vs kk = some r) : ∃ m, loopN (stepSx R) m vs kk = some r := by
  simp only [leSx] at h
  split at h
  · rename_i m x s r m2 e n l
    obtain ⟨hg, hk⟩ := chk_some h
    clear h
    unfold sxB at hg
    rw [stk_eq] at hg
    simp only [Bool.and_eq_true, decide_eq_true_eq] at hg
    obtain ⟨⟨hs, hz⟩, ⟨⟨⟨h0, h1⟩, h2⟩, h3⟩, h4⟩ := hg
    refine ⟨6, ?_⟩
    rw [sx_round R hs hz kk 5 (k := 0) (k1 := 1) rfl (by decide) (by decide) h0, sx_round R hs hz kk 4 (k := 1) (k1 := 2) rfl (by decide) (by decide) h1, sx_round R hs hz kk 3 (k := 2) (k1 := 3) rfl (by decide) (by decide) h2, sx_round R hs hz kk 2 (k := 3) (k1 := 4) rfl (by decide) (by decide) h3, sx_round R hs hz kk 1 (k := 4) (k1 := 5) rfl (by decide) (by decide) h4]
    exact hk
  · cases h

/-! ### SumsExact -/
def orcSE : List (FuncId × Ent) := [(20, entB false sp_exact5), (21, entS false sp_right), (22, entS false sp_num), (23, entS false sp_true), (25, entS true sp_of4), (24, entS true sp_sum5)]
def seE (x : Int) (s : List Int) (r : Bool) (y : Int) (t : List Int) (q : Bool) : Option AV :=
  chk (okW s) (bif !(rtB s x r) then some (.bool true) else chk (okW t) (bif !(rtB t y q) then some (.bool true) else some (.bool false)))
def seL (J : Nm) (M : Bool) (L : Int) (S : Nat) : Option AV := chk (okW (toW J.s) && mayZ L (dgl S) (dg S) && sxB J.m J.x (toW J.s) J.r M L (dg S)) (some (.bool true))
def seS (J : Nm) (a : Bool) (x : Int) (V : Nat) (b : Bool) (y : Int) (W : Nat) (k : Int) : Option AV :=
  chk (mayS5 x (dgl V) (dg V) y (dgl W) (dg W)) (seL J (s5M a x (dg V) b y (dg W) k) (s5L x (dg V) y (dg W)) (s5S a x (dg V) b y (dg W)))
def seD (J : Nm) (a : Bool) (x : Int) (s : List Int) (b : Bool) (y : Int) (t : List Int) (k : Int) : Option AV :=
  bif decide (w64 (x - y) > 8000) then some (.bool true) else bif decide (w64 (y - x) > 8000) then some (.bool true) else chk (okW s) (chk (okW t) (seS J a (oE x false) (oS s false) b (oE y false) (oS t false) k))
def seJ (J : Nm) (a : Bool) (x : Int) (s : List Int) (r : Bool) (b : Bool) (y : Int) (t : List Int) (q : Bool) (k : Int) : Option AV :=
  chk (okW s) (bif !(rtB s x r) then some (.bool false) else chk (okW t) (bif !(rtB t y q) then some (.bool false) else seD J a x s b y t k))
theorem run_lawExact (a : Bool) (x : Int) (s : List Int) (r : Bool) (b : Bool) (y : Int) (t : List Int) (q : Bool) (k : Int) : callA (env Tryd.f6.ntmps orcSE [(0, leSx)]) (bodyC Tryd.f6) Tryd.f6.results.toList (slots 0 [.st [.bool a, .int .i64 x, .ints 4 .u64 s, .bool r], .st [.bool b, .int .i64 y, .ints 4 .u64 t, .bool q], .int .i64 k]) some =
    chk (okW s && okW t) (bif !(rtB s x r) then seE x s r y t q else bif !(rtB t y q) then seE x s r y t q else seJ (jJ a x s b y t k) a x s r b y t q k) := by kernel_rfl

theorem sxB_true {m : Bool} {x : Int} {s : List Int} {r : Bool} {m2 : Bool} {e : Int} {l : List Int} (h : ∀ j, sxN m x s r m2 e l j) : sxB m x s r m2 e l = true := by
  unfold sxB
  rw [stk_eq, decide_eq_true (h 0), decide_eq_true (h 1), decide_eq_true (h 2), decide_eq_true (h 3), decide_eq_true (h 4)]
  rfl
theorem oE_mid {x : Int} (h : -100000 ≤ x ∧ x ≤ 100000) : oE x false = x := by
  unfold oE; rw [stk_eq]; unfold nE clampI
  simp only [Bool.false_eq_true, if_false]
  omega
theorem oS_same (s : List Int) : oS s false = valW s := by
  unfold oS; rw [stk_eq]; rfl
theorem se_same {a : Bool} {x : Int} {V : Nat} {b : Bool} {y : Int} {W : Nat} (hV : lenN V ≤ 128) (hW : lenN W ≤ 128) (k j : Int) :
    rndP (jn a x V b y W k).m (nS (jn a x V b y W k).s (jn a x V b y W k).r) (nE (jn a x V b y W k).x (jn a x V b y W k).r) j = rndP (sumM a b (suA V x (suLow x V y W)) (suA W y (suLow x V y W)) k) (sumS a b (suA V x (suLow x V y W)) (suA W y (suLow x V y W))) (suLow x V y W) j ∧
    rndF (jn a x V b y W k).m (nS (jn a x V b y W k).s (jn a x V b y W k).r) (nE (jn a x V b y W k).x (jn a x V b y W k).r) j = rndF (sumM a b (suA V x (suLow x V y W)) (suA W y (suLow x V y W)) k) (sumS a b (suA V x (suLow x V y W)) (suA W y (suLow x V y W))) (suLow x V y W) j := by
  obtain ⟨hm, hk⟩ := (jn_law hV hW a b x y k).trans (sum_any a b x V y W k).symm
  obtain ⟨h1, h2⟩ := hk j
  unfold rndP
  rw [h1, h2, hm]
  exact ⟨rfl, rfl⟩
theorem seS_at (a : Bool) {x : Int} {s : List Int} (b : Bool) {y : Int} {t : List Int} (k : Int) (hV : lenN (valW s) ≤ 128) (hW : lenN (valW t) ≤ 128) (hx : -100000 ≤ x ∧ x ≤ 100000) (hy : -100000 ≤ y ∧ y ≤ 100000) (h1 : x - y ≤ 8000) (h2 : y - x ≤ 8000) :
    seS (jJ a x s b y t k) a x (valW s) b y (valW t) k = some (.bool true) := by
  have eJ : jJ a x s b y t k = jn a x (valW s) b y (valW t) k := stk_eq _
  have hs := jn_small hV hW a b x y k
  have hz := @se_same a x (valW s) b y (valW t) hV hW k
  obtain ⟨l1, l2, l3, l4⟩ := suLow_ge x (valW s) y (valW t)
  rw [eJ]
  generalize jn a x (valW s) b y (valW t) k = J at *
  generalize valW s = V at *
  generalize valW t = W at *
  have eM : s5M a x (dg V) b y (dg W) k = sumM a b (suA V x (suLow x V y W)) (suA W y (suLow x V y W)) k := by
    unfold s5M s5A s5B s5L; rw [stk_eq, stk_eq, val_dg, val_dg]
  have eS : s5S a x (dg V) b y (dg W) = sumS a b (suA V x (suLow x V y W)) (suA W y (suLow x V y W)) := by
    unfold s5S s5A s5B s5L; rw [stk_eq, stk_eq, val_dg, val_dg]
  have eL : s5L x (dg V) y (dg W) = suLow x V y W := by
    unfold s5L; rw [stk_eq, val_dg, val_dg]
  unfold seS seL
  rw [eM, eS, eL, okW_toW]
  have g1 : mayS5 x (dgl V) (dg V) y (dgl W) (dg W) = true := mayS5_iff.2 ⟨⟨mayD_dg (by omega), mayD_dg (by omega)⟩, by rw [val_dg]; omega, by rw [val_dg]; omega, by omega, by omega, by omega, by omega, by omega, by omega⟩
  generalize suLow x V y W = low at *
  have len : ∀ {V : Nat} {x : Int}, lenN V ≤ 128 → x - low ≤ 8000 → lenN (suA V x low) ≤ 8200 := by
    intro V x h3 h4
    unfold suA
    by_cases h0 : V = 0
    · subst h0; rw [Nat.zero_mul, show lenN 0 = 0 from rfl]; omega
    · rw [lenN_shl (show 0 < V by omega)]; omega
  have hA := len hV (x := x) (by omega)
  have hB := len hW (x := y) (by omega)
  have hS : lenN (sumS a b (suA V x low) (suA W y low)) ≤ 8900 := by
    have := lenN_sum a b hA hB
    omega
  have g2 : mayZ low (dgl (sumS a b (suA V x low) (suA W y low))) (dg (sumS a b (suA V x low) (suA W y low))) = true := mayZ_iff.2 ⟨mayD_dg (by omega), by rw [val_dg]; omega, by omega⟩
  have g3 : sxB J.m J.x (toW J.s) J.r (sumM a b (suA V x low) (suA W y low) k) low (dg (sumS a b (suA V x low) (suA W y low))) = true := sxB_true fun j => by
    unfold sxN pR zP fR zF
    rw [stk_eq, stk_eq, stk_eq, stk_eq, val_dg, valW_toW, Nat.mod_eq_of_lt hs]
    exact hz j
  rw [g1, g2, g3]
  rfl

def sp_seLaw : List AV → Option (Bool × AV)
  | [.st [.bool _, .int .i64 _, .ints 4 .u64 s, .bool _], .st [.bool _, .int .i64 _, .ints 4 .u64 t, .bool _], .int .i64 _] => some (okW s && okW t, .bool true)
  | _ => none
theorem ok_lawExact : EntOk Tryd.prog 6 (entS false sp_seLaw) := by
  refine contractS (orc := orcSE) (lo := [(0, leSx)]) Tryd.func6 (orc_cons ok_exact5 (orc_cons ok_may5 (orc_cons ok_num5 (orc_cons ok_sure5 (orc_cons ok_of4 (orc_cons ok_sum5 orc_nil)))))) (by kernel_rfl) (by kernel_rfl) (by kernel_rfl)
    (loops_one (id := 0) (y := .loop (loopOf 0 (bodyC Tryd.f6))) (by kernel_rfl) (loopS (le := leSx) (lo' := []) (orc := orcSx) (orc_cons ok_round (orc_cons ok_round4 orc_nil)) (by kernel_rfl) rfl (loops_none (by kernel_rfl)) stepSx ?_ (fun R n vs kk r h => go_sx R n vs kk r h))) fun args r h => ?_
  · intro R vs k1 k2 r h
    have h0 := h
    simp only [stepSx] at h
    split at h
    · rw [step_sx]; exact h0
    · cases h
  · unfold sp_seLaw at h
    split at h
    · rename_i a x s r b y t q k
      simp only [Option.some.injEq, Prod.mk.injEq, Bool.and_eq_true] at h
      obtain ⟨⟨hs, ht⟩, rfl⟩ := h
      refine ⟨by kernel_rfl, .inr rfl, (run_lawExact a x s r b y t q k).trans ?_⟩
      rw [hs, ht]
      unfold seE seJ seD
      rw [hs, ht]
      by_cases h1 : rtB s x r = true
      · by_cases h2 : rtB t y q = true
        · rw [h1, h2]
          obtain ⟨i1, i2, i3, i4⟩ := rtB_iff.1 h1
          obtain ⟨j1, j2, j3, j4⟩ := rtB_iff.1 h2
          rw [oE_mid ⟨i3, i4⟩, oE_mid ⟨j3, j4⟩, oS_same, oS_same, w64_mid (by omega) (by omega), w64_mid (by omega) (by omega)]
          by_cases g1 : x - y > 8000
          · rw [decide_eq_true g1]; rfl
          · by_cases g2 : y - x > 8000
            · rw [decide_eq_false g1, decide_eq_true g2]; rfl
            · rw [decide_eq_false g1, decide_eq_false g2, seS_at a b k i1 j1 ⟨i3, i4⟩ ⟨j3, j4⟩ (by omega) (by omega)]; rfl
        · rw [h1, eq_false_of_ne_true h2]; rfl
      · rw [eq_false_of_ne_true h1]; rfl
    · cases h
end
end Go.Proofs.YtdkebceiljdgjaaDoor
