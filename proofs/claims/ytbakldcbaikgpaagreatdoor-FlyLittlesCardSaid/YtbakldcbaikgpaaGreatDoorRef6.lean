/- tillerref05: Sum, None, Add, Sub. Own work. -/
import Derived.Test.YtbakldcbaikgpaaGreatDoorScale5
import Derived.Test.YtbakldcbaikgpaaGreatDoorSumA
namespace Go.Proofs.YtbakldcbaikgpaaGreatDoor
set_option maxRecDepth 100000
noncomputable section
/-! ### A list that is nil, as one of no elements: among what is handed over, and in a result's parts -/
def wkL : List AV → List AV → Prop
  | [], [] => True
  | a :: ps, b :: bs => wkV a b ∧ wkL ps bs
  | _, _ => False
theorem vrs_wk {A : Nat → Prop} {w : World} {ρ : Rho} : ∀ (ps bs : List AV) (vs : List Value), wkL ps bs → VRs A w ρ ps vs → VRs A w ρ bs vs
  | [], [], _, _, h => h
  | a :: ps, b :: bs, vs, hw, h => by
    simp only [VRs] at h ⊢
    obtain ⟨v, vs', h1, h2, h3⟩ := h
    exact ⟨v, vs', vr_wk hw.1 h1, vrs_wk ps bs vs' hw.2 h2, h3⟩
  | [], _ :: _, _, hw, _ => hw.elim
  | _ :: _, [], _, hw, _ => hw.elim
theorem crs_wk {A : Nat → Prop} {w : World} {ρ : Rho} : ∀ (ps bs : List AV) (vs : List Value), wkL ps bs → CRs A w ρ ps vs → CRs A w ρ bs vs
  | [], [], _, _, h => h
  | a :: ps, b :: bs, vs, hw, h => by
    simp only [CRs] at h ⊢
    obtain ⟨v, vs', h1, h2, h3⟩ := h
    exact ⟨v, vs', vr_wk hw.1 h1, crs_wk ps bs vs' hw.2 h2, h3⟩
  | [], _ :: _, _, hw, _ => hw.elim
  | _ :: _, [], _, hw, _ => hw.elim
def nilE : AV → AV
  | .nils => .sl (.ints 0 .u32 [])
  | a => a
theorem wkV_nilE (a : AV) : wkV a (nilE a) := by
  unfold nilE
  split
  · exact .inr ⟨rfl, .u32, rfl⟩
  · exact .inl rfl
theorem wkL_nilE : ∀ l : List AV, wkL l (l.map nilE)
  | [] => trivial
  | a :: l => ⟨wkV_nilE a, wkL_nilE l⟩
/-- The same function, handed nil lists too. -/
theorem ent_nil {P : Program} {f : FuncId} {b : Bool} {sp : List AV → Option (Bool × AV)} (h : EntOk P f (entS b sp)) : EntOk P f (entS b fun l => sp (l.map nilE)) := by
  refine ⟨entS_law _ _, fun _ n args r' hr A w vs hA hv hG => ?_, fun hc => by cases hc⟩
  exact h.ok rfl n (args.map nilE) r' hr A w vs hA (vrs_wk _ _ _ (wkL_nilE args) hv) hG
/-- A result's parts, so. -/
theorem ent_part {P : Program} {f : FuncId} {en en' : Ent} (h : EntOk P f en) (hl : EntLaw en') (hf : en'.frz = en.frz) (hg : ∀ n args r', en'.go AV n args some = some r' → ∃ r, en.go AV n args some = some r ∧ ∃ ps ps', wkL ps ps' ∧ r = .st ps ∧ r' = .st ps') (hw : en.wr = false := by rfl) (hw' : en'.wr = false := by rfl) : EntOk P f en' := by
  refine ⟨hl, fun _ n args r' hr A w vs hA hv hG => ?_, fun hc => by rw [hw'] at hc; cases hc⟩
  obtain ⟨r, h1, ps, ps', h2, rfl, rfl⟩ := hg n args r' hr
  have hi := h.ok hw n args _ h1 A w vs hA hv hG
  have key : ∀ {Ar : Nat → Prop} {w' : World} {x : Value} {bs : List Nat}, RR Ar w' (.st ps) x bs → RR Ar w' (.st ps') x bs := by
    intro Ar w' x bs hx
    simp only [RR, R1, VR] at hx ⊢
    obtain ⟨⟨cs, c1, c2⟩, c3⟩ := hx
    exact ⟨⟨cs, crs_wk _ _ _ h2 c1, c2⟩, c3⟩
  unfold Inv at hi ⊢
  rw [hf]
  split at hi
  · obtain ⟨q1, Ar, bs, q2, q3, q4, q5⟩ := hi
    exact ⟨q1, Ar, bs, q2, q3, q4, key q5⟩
  · refine hi.mono ?_
    rintro e w' ⟨x, rfl, q1, Ar, bs, q2, q3, q4, q5⟩
    exact ⟨x, rfl, q1, Ar, bs, q2, q3, q4, key q5⟩
  · exact hi
/-! ### Sum -/
def suN (b : Bool) (low : Int) : Option AV := some (.st [.bool b, .int .i64 low, .nils])
def suR (b : Bool) (low : Int) (V : Nat) : Option AV := some (.st [.bool b, .int .i64 low, .sl (.ints (dgl V) .u32 (dg V))])
def suE (m m2 : Bool) (low : Int) (na : Nat) (la : List Int) (nb : Nat) (lb : List Int) : Option AV :=
  bif ((na : Nat) : Int) == 0 then chk (mayC2 na la nb lb) (suR m2 low (valD la + valD lb)) else chk (mayC2 na la nb lb) (suR m low (valD la + valD lb))
def suF (m m2 : Bool) (low k : Int) (na : Nat) (la : List Int) (nb : Nat) (lb : List Int) : Option AV :=
  chk (mayC2 na la nb lb) (bif cmpD la lb == 0 then suN (k == 4) low else bif cmpD la lb == 1 then chk (maySub na la nb lb) (suR m low (valD la - valD lb)) else chk (maySub nb lb na la) (suR m2 low (valD lb - valD la)))
def suD (m m2 : Bool) (low k : Int) (na : Nat) (la : List Int) (nb : Nat) (lb : List Int) : Option AV :=
  bif m == m2 then suE m m2 low na la nb lb else bif ((na : Nat) : Int) == 0 then suE m m2 low na la nb lb else bif ((nb : Nat) : Int) == 0 then suE m m2 low na la nb lb else suF m m2 low k na la nb lb
def suC (m m2 : Bool) (low k : Int) (na : Nat) (la : List Int) (e2 : Int) (n2 : Nat) (l2 : List Int) : Option AV :=
  bif decide (((n2 : Nat) : Int) > 0) then chk (mayS n2 l2 (w64 (e2 - low))) (suD m m2 low k na la (dgl (valD l2 * 2 ^ (w64 (e2 - low)).toNat)) (dg (valD l2 * 2 ^ (w64 (e2 - low)).toNat))) else suD m m2 low k na la 0 []
def suB (m : Bool) (e : Int) (n : Nat) (l : List Int) (m2 : Bool) (e2 : Int) (n2 : Nat) (l2 : List Int) (k low : Int) : Option AV :=
  bif decide (((n : Nat) : Int) > 0) then chk (mayS n l (w64 (e - low))) (suC m m2 low k (dgl (valD l * 2 ^ (w64 (e - low)).toNat)) (dg (valD l * 2 ^ (w64 (e - low)).toNat)) e2 n2 l2) else suC m m2 low k 0 [] e2 n2 l2
def suL (m : Bool) (e : Int) (n : Nat) (l : List Int) (m2 : Bool) (e2 : Int) (n2 : Nat) (l2 : List Int) (k low : Int) : Option AV :=
  bif ((n : Nat) : Int) == 0 then bif ((n2 : Nat) : Int) == 0 then bif !(m == m2) then suN (k == 4) low else suN m low else suB m e n l m2 e2 n2 l2 k low else suB m e n l m2 e2 n2 l2 k low
def sp_dAddN : List AV → Option (Bool × AV) := fun l => sp_dAdd (l.map nilE)
def orcSum5 : List (FuncId × Ent) := [(99, entS true sp_shl), (125, entS true sp_dAddN), (126, entS false sp_dCmp), (101, entS true sp_dSub)]
theorem run_sum5 (m : Bool) (e : Int) (n : Nat) (l : List Int) (m2 : Bool) (e2 : Int) (n2 : Nat) (l2 : List Int) (k : Int) : callA (env Tryz.f85.ntmps orcSum5 []) (bodyC Tryz.f85) Tryz.f85.results.toList (slots 0 [.st [.bool m, .int .i64 e, .sl (.ints n .u32 l)], .st [.bool m2, .int .i64 e2, .sl (.ints n2 .u32 l2)], .int .i64 k]) some =
    bif ((n : Nat) : Int) == 0 then bif ((n2 : Nat) : Int) == 0 then suL m e n l m2 e2 n2 l2 k e else suL m e n l m2 e2 n2 l2 k e2
    else bif ((n2 : Nat) : Int) == 0 then suL m e n l m2 e2 n2 l2 k e else suL m e n l m2 e2 n2 l2 k (if e2 < e then e2 else e) := by kernel_rfl
def suLow (e : Int) (V : Nat) (e2 : Int) (W : Nat) : Int := if W = 0 then e else if V = 0 then e2 else min e e2
def suA (V : Nat) (e low : Int) : Nat := V * 2 ^ (e - low).toNat
def suX (m m2 : Bool) (A B : Nat) : AV := stk (if (A = 0 ∧ B = 0) ∨ (m ≠ m2 ∧ A = B) then .nils else .sl (.ints (dgl (sumS m m2 A B)) .u32 (dg (sumS m m2 A B))))
theorem dg_nil : dgl 0 = 0 ∧ dg 0 = [] := by
  unfold dgl dg
  rw [stk_eq, stk_eq]
  exact ⟨rfl, rfl⟩
theorem suX_wk (m m2 : Bool) (A B : Nat) : wkV (suX m m2 A B) (.sl (.ints (dgl (sumS m m2 A B)) .u32 (dg (sumS m m2 A B)))) := by
  unfold suX
  rw [stk_eq]
  by_cases h : (A = 0 ∧ B = 0) ∨ (m ≠ m2 ∧ A = B)
  · have e : sumS m m2 A B = 0 := by
      unfold sumS
      rcases h with ⟨h1, h2⟩ | ⟨h1, h2⟩
      · rw [h1, h2]
        split
        · rfl
        · rfl
      · rw [if_neg h1, if_pos (Nat.le_of_eq h2.symm)]
        omega
    rw [if_pos h, e, dg_nil.1, dg_nil.2]
    exact .inr ⟨rfl, .u32, rfl⟩
  · rw [if_neg h]
    exact .inl rfl
theorem suD_at (m m2 : Bool) (low k : Int) {A B : Nat} (hA : lenN A ≤ 100000) (hB : lenN B ≤ 100000) (h : ¬ (A = 0 ∧ B = 0)) :
    suD m m2 low k (dgl A) (dg A) (dgl B) (dg B) = some (.st [.bool (sumM m m2 A B k), .int .i64 low, suX m m2 A B]) := by
  have c1 := mayC2_dg (v := A) (w := B) (by omega) (by omega)
  have hk : decide (k = 4) = (k == 4) := by
    by_cases h4 : k = 4
    · rw [decide_eq_true h4, beq_iff_eq.2 h4]
    · rw [decide_eq_false h4, beq_eq_false_iff_ne.2 h4]
  unfold suD suE suF suX suR suN cmpD
  rw [stk_eq, stk_eq, c1, (dgl_zero A).1, (dgl_zero B).1, val_dg, val_dg]
  by_cases hm : m = m2
  · subst hm
    have hM : sumM m m A B k = m := if_pos rfl
    have hS : sumS m m A B = A + B := if_pos rfl
    rw [hM, hS, beq_self_eq_true, if_neg (show ¬ ((A = 0 ∧ B = 0) ∨ (m ≠ m ∧ A = B)) by simp [h])]
    cases decide (A = 0) <;> rfl
  · have hM : sumM m m2 A B k = if A = B then decide (k = 4) else if B < A then m else m2 := if_neg hm
    have hS : sumS m m2 A B = if B ≤ A then A - B else B - A := if_neg hm
    rw [beq_eq_false_iff_ne.2 hm]
    by_cases a0 : A = 0
    · have b0 : ¬ B = 0 := fun hb => h ⟨a0, hb⟩
      rw [if_neg (show ¬ A = B by omega), if_neg (show ¬ B < A by omega)] at hM
      rw [if_neg (show ¬ B ≤ A by omega)] at hS
      rw [hM, hS, decide_eq_true a0, if_neg (show ¬ ((A = 0 ∧ B = 0) ∨ (m ≠ m2 ∧ A = B)) by omega), show A + B = B - A by omega]
      rfl
    · rw [decide_eq_false a0]
      by_cases b0 : B = 0
      · rw [if_neg (show ¬ A = B by omega), if_pos (show B < A by omega)] at hM
        rw [if_pos (show B ≤ A by omega)] at hS
        rw [hM, hS, decide_eq_true b0, if_neg (show ¬ ((A = 0 ∧ B = 0) ∨ (m ≠ m2 ∧ A = B)) by omega), show A + B = A - B by omega]
        rfl
      · rw [decide_eq_false b0]
        by_cases e1 : A = B
        · have hc : cmpN A B = 0 := by
            unfold cmpN
            rw [if_neg (show ¬ A < B by omega), if_neg (show ¬ A > B by omega)]
          rw [if_pos e1, hk] at hM
          rw [hM, hc, if_pos (show (A = 0 ∧ B = 0) ∨ (m ≠ m2 ∧ A = B) from .inr ⟨hm, e1⟩)]
          rfl
        · rw [if_neg e1] at hM
          rw [if_neg (show ¬ ((A = 0 ∧ B = 0) ∨ (m ≠ m2 ∧ A = B)) by omega)]
          by_cases l1 : A < B
          · have hc : cmpN A B = -1 := if_pos l1
            rw [if_neg (show ¬ B < A by omega)] at hM
            rw [if_neg (show ¬ B ≤ A by omega)] at hS
            rw [hM, hS, hc, maySub_dg (v := B) (w := A) (by omega) (by omega)]
            rfl
          · have hc : cmpN A B = 1 := by
              unfold cmpN
              rw [if_neg l1, if_pos (show A > B by omega)]
            rw [if_pos (show B < A by omega)] at hM
            rw [if_pos (show B ≤ A by omega)] at hS
            rw [hM, hS, hc, maySub_dg (v := A) (w := B) (by omega) (by omega)]
            rfl
theorem suA_len {V : Nat} (hV : lenN V ≤ 3000) {e low : Int} (h : e - low ≤ 20000) : lenN (suA V e low) ≤ 100000 := by
  unfold suA
  by_cases h0 : V = 0
  · subst h0
    rw [Nat.zero_mul]
    omega
  · rw [lenN_shl (show 0 < V by omega)]
    omega
theorem suA_zero (V : Nat) (e low : Int) : suA V e low = 0 ↔ V = 0 := by
  unfold suA
  have := Nat.two_pow_pos (e - low).toNat
  rw [Nat.mul_eq_zero]
  omega
theorem suL_at (m : Bool) {e : Int} {V : Nat} (m2 : Bool) {e2 : Int} {W : Nat} (k low : Int) (hV : lenN V ≤ 3000) (hW : lenN W ≤ 3000) (h1 : V ≠ 0 → 0 ≤ e - low ∧ e - low ≤ 20000) (h2 : W ≠ 0 → 0 ≤ e2 - low ∧ e2 - low ≤ 20000) :
    suL m e (dgl V) (dg V) m2 e2 (dgl W) (dg W) k low = some (.st [.bool (sumM m m2 (suA V e low) (suA W e2 low) k), .int .i64 low, suX m m2 (suA V e low) (suA W e2 low)]) := by
  have zA := suA_zero V e low
  have zB := suA_zero W e2 low
  have hA : lenN (suA V e low) ≤ 100000 := by
    by_cases h0 : V = 0
    · rw [zA.2 h0]
      decide
    · exact suA_len hV (h1 h0).2
  have hB : lenN (suA W e2 low) ≤ 100000 := by
    by_cases h0 : W = 0
    · rw [zB.2 h0]
      decide
    · exact suA_len hW (h2 h0).2
  by_cases hz : V = 0 ∧ W = 0
  · obtain ⟨v0, w0⟩ := hz
    rw [zA.2 v0, zB.2 w0]
    unfold suL suN suX sumM
    rw [stk_eq, (dgl_zero V).1, (dgl_zero W).1, decide_eq_true v0, decide_eq_true w0, if_pos (show (0 = 0 ∧ 0 = 0) ∨ (m ≠ m2 ∧ 0 = 0) from .inl ⟨rfl, rfl⟩)]
    by_cases hm : m = m2
    · subst hm
      rw [beq_self_eq_true, if_pos rfl]
      rfl
    · have : decide (k = 4) = (k == 4) := by
        by_cases h4 : k = 4
        · rw [decide_eq_true h4, beq_iff_eq.2 h4]
        · rw [decide_eq_false h4, beq_eq_false_iff_ne.2 h4]
      rw [beq_eq_false_iff_ne.2 hm, if_neg hm, if_pos rfl, this]
      rfl
  · have hd := suD_at m m2 low k hA hB (by rw [zA, zB]; exact hz)
    have hC : suC m m2 low k (dgl (suA V e low)) (dg (suA V e low)) e2 (dgl W) (dg W) = suD m m2 low k (dgl (suA V e low)) (dg (suA V e low)) (dgl (suA W e2 low)) (dg (suA W e2 low)) := by
      unfold suC
      rw [(dgl_zero W).2]
      by_cases w0 : W = 0
      · rw [decide_eq_false (not_not_intro w0), zB.2 w0, dg_nil.1, dg_nil.2]
        rfl
      · have hw := h2 w0
        rw [decide_eq_true (show W ≠ 0 from w0), w64_mid (x := e2 - low) (by omega) (by omega), mayS_dg (by omega) hw.1 (by omega), val_dg]
        rfl
    have hBB : suB m e (dgl V) (dg V) m2 e2 (dgl W) (dg W) k low = suC m m2 low k (dgl (suA V e low)) (dg (suA V e low)) e2 (dgl W) (dg W) := by
      unfold suB
      rw [(dgl_zero V).2]
      by_cases v0 : V = 0
      · rw [decide_eq_false (not_not_intro v0), zA.2 v0, dg_nil.1, dg_nil.2]
        rfl
      · have hv := h1 v0
        rw [decide_eq_true (show V ≠ 0 from v0), w64_mid (x := e - low) (by omega) (by omega), mayS_dg (by omega) hv.1 (by omega), val_dg]
        rfl
    unfold suL
    rw [(dgl_zero V).1, (dgl_zero W).1, hBB, hC, hd]
    by_cases v0 : V = 0
    · rw [decide_eq_true v0, decide_eq_false (fun w0 => hz ⟨v0, w0⟩)]
      rfl
    · rw [decide_eq_false v0]
      rfl
def s5L (e : Int) (l : List Int) (e2 : Int) (l2 : List Int) : Int := stk (suLow e (valD l) e2 (valD l2))
def s5A (e : Int) (l : List Int) (e2 : Int) (l2 : List Int) : Nat := suA (valD l) e (s5L e l e2 l2)
def s5B (e : Int) (l : List Int) (e2 : Int) (l2 : List Int) : Nat := suA (valD l2) e2 (s5L e l e2 l2)
def s5M (m : Bool) (e : Int) (l : List Int) (m2 : Bool) (e2 : Int) (l2 : List Int) (k : Int) : Bool := stk (sumM m m2 (s5A e l e2 l2) (s5B e l e2 l2) k)
def s5S (m : Bool) (e : Int) (l : List Int) (m2 : Bool) (e2 : Int) (l2 : List Int) : Nat := stk (sumS m m2 (s5A e l e2 l2) (s5B e l e2 l2))
def mayS5 (e : Int) (n : Nat) (l : List Int) (e2 : Int) (n2 : Nat) (l2 : List Int) : Bool := (mayD n l && mayD n2 l2) && stk (decide (lenN (valD l) ≤ 3000) && decide (lenN (valD l2) ≤ 3000) && decide (-300000 ≤ e) && decide (e ≤ 300000) && decide (-300000 ≤ e2) && decide (e2 ≤ 300000) && decide (e - e2 ≤ 20000) && decide (e2 - e ≤ 20000))
theorem mayS5_iff {e : Int} {n : Nat} {l : List Int} {e2 : Int} {n2 : Nat} {l2 : List Int} : mayS5 e n l e2 n2 l2 = true ↔ (mayD n l = true ∧ mayD n2 l2 = true) ∧ lenN (valD l) ≤ 3000 ∧ lenN (valD l2) ≤ 3000 ∧ -300000 ≤ e ∧ e ≤ 300000 ∧ -300000 ≤ e2 ∧ e2 ≤ 300000 ∧ e - e2 ≤ 20000 ∧ e2 - e ≤ 20000 := by
  unfold mayS5
  rw [stk_eq]
  simp only [Bool.and_eq_true, decide_eq_true_eq, and_assoc]
def sp_sum0 : List AV → Option (Bool × AV)
  | [.st [.bool m, .int .i64 e, .sl (.ints n .u32 l)], .st [.bool m2, .int .i64 e2, .sl (.ints n2 .u32 l2)], .int .i64 k] => some (mayS5 e n l e2 n2 l2, .st [.bool (s5M m e l m2 e2 l2 k), .int .i64 (s5L e l e2 l2), suX m m2 (s5A e l e2 l2) (s5B e l e2 l2)])
  | _ => none
def sp_sum5 : List AV → Option (Bool × AV)
  | [.st [.bool m, .int .i64 e, .sl (.ints n .u32 l)], .st [.bool m2, .int .i64 e2, .sl (.ints n2 .u32 l2)], .int .i64 k] => some (mayS5 e n l e2 n2 l2, .st [.bool (s5M m e l m2 e2 l2 k), .int .i64 (s5L e l e2 l2), .sl (.ints (dgl (s5S m e l m2 e2 l2)) .u32 (dg (s5S m e l m2 e2 l2)))])
  | _ => none
theorem ok_sum0 : EntOk Tryz.prog 85 (entS true sp_sum0) := by
  refine contractS (orc := orcSum5) (lo := []) Tryz.func85 (orc_cons ok_shl (orc_cons (ent_nil ok_dAdd) (orc_cons ok_dCmp (orc_cons ok_dSub orc_nil)))) (by kernel_rfl) (by kernel_rfl) (by kernel_rfl) (loops_none (by kernel_rfl)) fun args r h => ?_
  unfold sp_sum0 at h
  split at h
  · rename_i m e n l m2 e2 n2 l2 k
    simp only [Option.some.injEq, Prod.mk.injEq] at h
    obtain ⟨hg, rfl⟩ := h
    refine ⟨by kernel_rfl, .inl rfl, (run_sum5 m e n l m2 e2 n2 l2 k).trans ?_⟩
    obtain ⟨⟨d1, d2⟩, lV, lW, e1, e1', e3, e3', d3, d4⟩ := mayS5_iff.1 hg
    obtain ⟨hn, hl⟩ := mayD_split d1
    obtain ⟨hn2, hl2⟩ := mayD_split d2
    unfold s5M s5A s5B s5L
    rw [stk_eq, stk_eq]
    generalize hV : valD l = V at *
    generalize hW : valD l2 = W at *
    rw [hn, hl, hn2, hl2, (dgl_zero V).1, (dgl_zero W).1]
    have hm : (if e2 < e then e2 else e) = min e e2 := by split <;> omega
    unfold suLow
    by_cases w0 : W = 0
    · rw [decide_eq_true w0, if_pos w0, suL_at m m2 k e lV lW (fun _ => by omega) (fun h => absurd w0 h)]
      cases decide (V = 0) <;> rfl
    · rw [decide_eq_false w0, if_neg w0]
      by_cases v0 : V = 0
      · rw [decide_eq_true v0, if_pos v0, suL_at m m2 k e2 lV lW (fun h => absurd v0 h) (fun _ => by omega)]
        rfl
      · rw [decide_eq_false v0, if_neg v0, hm, suL_at m m2 k (min e e2) lV lW (fun _ => by omega) (fun _ => by omega)]
        rfl
  · cases h
theorem ok_sum5 : EntOk Tryz.prog 85 (entS true sp_sum5) := by
  refine ent_part ok_sum0 (entS_law _ _) rfl fun _ args r' h9 => ?_
  have h := entS_some h9
  clear h9
  unfold sp_sum5 at h
  split at h
  · rename_i m e n l m2 e2 n2 l2 k
    simp only [Option.some.injEq, Prod.mk.injEq] at h
    obtain ⟨hg, rfl⟩ := h
    have hw : wkV (suX m m2 (s5A e l e2 l2) (s5B e l e2 l2)) (.sl (.ints (dgl (s5S m e l m2 e2 l2)) .u32 (dg (s5S m e l m2 e2 l2)))) := by
      unfold s5S
      rw [stk_eq]
      exact suX_wk _ _ _ _
    have hL : wkL [.bool (s5M m e l m2 e2 l2 k), .int .i64 (s5L e l e2 l2), suX m m2 (s5A e l e2 l2) (s5B e l e2 l2)] [.bool (s5M m e l m2 e2 l2 k), .int .i64 (s5L e l e2 l2), .sl (.ints (dgl (s5S m e l m2 e2 l2)) .u32 (dg (s5S m e l m2 e2 l2)))] := by
      refine And.intro (.inl rfl) (And.intro (.inl rfl) (And.intro hw trivial))
    refine ⟨_, ?_, _, _, hL, rfl, rfl⟩
    show (chk (mayS5 e n l e2 n2 l2) _ : Option AV) = _
    rw [hg]
    rfl
  · cases h
end
end Go.Proofs.YtbakldcbaikgpaaGreatDoor
