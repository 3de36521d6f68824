/- Code; a call's end; contracts. Own work, program-independent. -/
import Derived.Test.YtdkebceiljdgjaaSound22
namespace Go.Proofs.Ytdkebceiljdgjaa
open Go.RowKit (Below)

section
variable {R : Type} {P : Program} {E : Env} {W0 : World} {Wr : Nat → Prop} {A A' : Nat → Prop} {ρ ρ' : Rho} {s s' : AS} {a : Act} {w w' : World} {r : R}

/-- What holds where code is left. -/
def Post (nt : Nat) (W0 : World) (Wr : Nat → Prop) (kk : Ex → AS → Option R) (r : R) : Exit → Act → World → Prop
  | .normal, a, w => ∃ s A ρ, SimR W0 Wr nt A ρ s a w ∧ kk .normal s = some r
  | .exit id, a, w => ∃ s A ρ, SimR W0 Wr nt A ρ s a w ∧ kk (.exit id) s = some r
  | .ret, a, w => ∃ s A ρ, SimR W0 Wr nt A ρ s a w ∧ kk .ret s = some r
  | _, _, _ => False

/-- A loop keeps its law. -/
def LoopOk (P : Program) (nt : Nat) (lo : List (Nat × LEnt)) (id : Nat) (x : Code) : Prop :=
  ∀ le, lk lo id = some le → ∀ (R : Type) (W0 : World) (Wr : Nat → Prop) (n : Nat) (s : AS) (a : Act) (w : World) (A : Nat → Prop) (ρ : Rho) (kk : Ex → AS → Option R) (r : R),
    SimR W0 Wr nt A ρ s a w → lorcA le n s kk = some r → (Code.block id x).wp P (Post nt W0 Wr kk r) a w

/-- The loops of a code that have laws. -/
def loopsIn (lo : List (Nat × LEnt)) : Code → List (Nat × Code)
  | .seq x y => loopsIn lo x ++ loopsIn lo y
  | .cond _ x y => loopsIn lo x ++ loopsIn lo y
  | .block id x => match lk lo id with
    | some _ => [(id, x)]
    | none => loopsIn lo x
  | .loop x => loopsIn lo x
  | _ => []

def LoopsOk (P : Program) (nt : Nat) (lo : List (Nat × LEnt)) (c : Code) : Prop := ∀ x ∈ loopsIn lo c, LoopOk P nt lo x.1 x.2

theorem iterA_wp {c : Code} {wk : AS → (AS → Option R) → Option R} (hwk : ∀ (s : AS) (a : Act) (w : World) (A : Nat → Prop) (ρ : Rho) (kk : AS → Option R), SimR W0 Wr E.nt A ρ s a w → wk s kk = some r → ∃ s' ρ', kk s' = some r ∧ SimR W0 Wr E.nt A ρ' s' a w) {b : Nat} (hbody : ∀ (s : AS) (a : Act) (w : World) (A : Nat → Prop) (ρ : Rho) (kk : Ex → AS → Option R), SimR W0 Wr E.nt A ρ s a w → runA E c b s kk = some r → c.wp P (Post E.nt W0 Wr kk r) a w) :
    ∀ (m : Nat) (s : AS) (a : Act) (w : World) (A : Nat → Prop) (ρ : Rho) (kk : Ex → AS → Option R), SimR W0 Wr E.nt A ρ s a w → iterA wk (fun s kk => runA E c b s kk) m s kk = some r →
    Code.rounds P c (Post E.nt W0 Wr (fun e s => match e with | .normal => none | e => kk e s) r) m a w
  | 0, s, a, w, A, ρ, kk, hs, hr => by simp [iterA] at hr
  | m + 1, s, a, w, A, ρ, kk, hs, hr => by
    simp only [iterA] at hr
    obtain ⟨s1, ρ1, hr, hs1⟩ := hwk s a w A ρ _ hs hr
    simp only [Code.rounds]
    refine wp_mono (hbody s1 a w A ρ1 _ hs1 hr) fun e a' w' hp => ?_
    cases e with
    | normal =>
      obtain ⟨s2, A2, ρ2, h2, hk⟩ := hp
      exact iterA_wp hwk hbody m s2 a' w' A2 ρ2 kk h2 hk
    | exit id => exact hp
    | ret => exact hp
    | goto l => exact hp
    | panic ch => exact hp
    | outgrown => exact hp

theorem rounds_mono {c : Code} {Q Q' : Exit → Act → World → Prop} (hq : ∀ e a w, Q e a w → Q' e a w) : ∀ (n : Nat) (a : Act) (w : World), Code.rounds P c Q n a w → Code.rounds P c Q' n a w
  | 0, _, _, h => h
  | n + 1, a, w, h => by
    simp only [Code.rounds] at h ⊢
    refine wp_mono h fun e a' w' hp => ?_
    cases e with
    | normal => exact rounds_mono hq n a' w' hp
    | exit id => exact hq _ _ _ hp
    | ret => exact hq _ _ _ hp
    | goto l => exact hq _ _ _ hp
    | panic ch => exact hq _ _ _ hp
    | outgrown => exact hq _ _ _ hp

theorem runA_wp (hm : P.follows .mixedOrders = true) (hT : TabOk P E.ty) (hO : OrcOk P E) (hE : E.nt ≤ 1000) : ∀ (c : Code), LoopsOk P E.nt E.lorc c → ∀ (b : Nat) (s : AS) (a : Act) (w : World) (A : Nat → Prop) (ρ : Rho) (kk : Ex → AS → Option R),
    SimR W0 Wr E.nt A ρ s a w → runA E c b s kk = some r → c.wp P (Post E.nt W0 Wr kk r) a w
  | .skip, hL, b, s, a, w, A, ρ, kk, hs, hr => by
    simp only [runA] at hr
    exact wp_skip ⟨s, A, ρ, hs, hr⟩
  | .region id ops draw, hL, b, s, a, w, A, ρ, kk, hs, hr => by
    simp only [runA] at hr
    cases draw with
    | true =>
      simp only [cond_true] at hr
      exact draw_wp hm hT hO hE hs hr (kk := fun s _ => kk .normal s) (fun s' fs a' w' A' ρ' hk h => ⟨s', A', ρ', h, hk⟩)
    | false =>
      simp only [cond_false] at hr
      refine wp_region ?_
      have := ops_wp (Q := Post E.nt W0 Wr kk r) hT hO hE ops.toList 0 s a w A ρ rfl hs hr (fun s' a' w' A' ρ' hk h => ⟨s', A', ρ', h, hk⟩)
      rw [List.range_eq_range']
      simpa using this
  | .seq x y, hL, b, s, a, w, A, ρ, kk, hs, hr => by
    simp only [runA] at hr
    refine wp_seq (wp_mono (runA_wp hm hT hO hE x (fun z hz => hL z (by simp [loopsIn, hz])) b s a w A ρ _ hs hr) fun e a' w' hp => ?_)
    cases e with
    | normal =>
      obtain ⟨s1, A1, ρ1, h1, hk⟩ := hp
      exact runA_wp hm hT hO hE y (fun z hz => hL z (by simp [loopsIn, hz])) b s1 a' w' A1 ρ1 kk h1 hk
    | exit id => exact hp
    | ret => exact hp
    | goto l => exact hp
    | panic ch => exact hp
    | outgrown => exact hp
  | .cond c x y, hL, b, s, a, w, A, ρ, kk, hs, hr => by
    simp only [runA] at hr
    split at hr
    case h_2 => cases hr
    rename_i v hv
    have hc := hs.ev c
    rw [hv] at hc
    simp only [SR, VR] at hc
    refine wp_cond hc ?_
    cases v with
    | true => exact runA_wp hm hT hO hE x (fun z hz => hL z (by simp [loopsIn, hz])) b s a w A ρ kk hs hr
    | false => exact runA_wp hm hT hO hE y (fun z hz => hL z (by simp [loopsIn, hz])) b s a w A ρ kk hs hr
  | .block id x, hL, b, s, a, w, A, ρ, kk, hs, hr => by
    simp only [runA] at hr
    cases hle : lk E.lorc id with
    | some le =>
      rw [hle] at hr
      exact hL (id, x) (by simp [loopsIn, hle]) le hle R W0 Wr E.n s a w A ρ kk r hs hr
    | none =>
    rw [hle] at hr
    refine wp_block (wp_mono (runA_wp hm hT hO hE x (fun z hz => hL z (by simp only [loopsIn, hle]; exact hz)) id s a w A ρ _ hs hr) fun e a' w' hp => ?_)
    cases e with
    | normal => exact hp
    | exit j =>
      obtain ⟨s1, A1, ρ1, h1, hk⟩ := hp
      simp only [Exit.inBlock]
      by_cases hj : j = id
      · subst hj
        rw [if_pos rfl]
        simp only [Nat.beq_refl, cond_true] at hk
        exact ⟨s1, A1, ρ1, h1, hk⟩
      · rw [if_neg hj]
        have : Nat.beq j id = false := by
          cases hb : Nat.beq j id with
          | false => rfl
          | true => exact absurd (nat_beq hb) hj
        simp only [this, cond_false] at hk
        exact ⟨s1, A1, ρ1, h1, hk⟩
    | ret => exact hp
    | goto l => exact hp
    | panic ch => exact hp
    | outgrown => exact hp
  | .loop x, hL, b, s, a, w, A, ρ, kk, hs, hr => by
    simp only [runA] at hr
    have fin : ∀ (wk : AS → (AS → Option R) → Option R) (m : Nat), (∀ (s : AS) (a : Act) (w : World) (A : Nat → Prop) (ρ : Rho) (kk : AS → Option R), SimR W0 Wr E.nt A ρ s a w → wk s kk = some r → ∃ s' ρ', kk s' = some r ∧ SimR W0 Wr E.nt A ρ' s' a w) →
        iterA wk (fun s kk => runA E x b s kk) m s kk = some r → (Code.loop x).wp P (Post E.nt W0 Wr kk r) a w := by
      intro wk m hwk hr
      refine wp_loop_rounds m ?_
      have := iterA_wp (P := P) hwk (fun s a w A ρ kk hs hr => runA_wp hm hT hO hE x (fun z hz => hL z (by simp [loopsIn, hz])) b s a w A ρ kk hs hr) m s a w A ρ kk hs hr
      refine rounds_mono (fun e a' w' hp => ?_) _ _ _ this
      cases e with
      | normal => obtain ⟨_, _, _, _, hk⟩ := hp; cases hk
      | exit id => exact hp
      | ret => exact hp
      | goto l => exact hp
      | panic ch => exact hp
      | outgrown => exact hp
    split at hr
    · rename_i h hh
      exact fin _ _ (fun s a w A ρ kk hs hr => weakA_sound hr hs) hr
    · exact fin _ _ (fun s a w A ρ kk hs hr => ⟨s, ρ, hr, hs⟩) hr
  | .exit id, hL, b, s, a, w, A, ρ, kk, hs, hr => by
    simp only [runA] at hr
    exact wp_exit ⟨s, A, ρ, hs, hr⟩
  | .ret, hL, b, s, a, w, A, ρ, kk, hs, hr => by
    simp only [runA] at hr
    exact wp_ret ⟨s, A, ρ, hs, hr⟩
  | .rangeFunc _ _ _ _, hL, b, s, a, w, A, ρ, kk, hs, hr => by simp [runA] at hr
  | .scope _, hL, b, s, a, w, A, ρ, kk, hs, hr => by simp [runA] at hr
  | .label _, hL, b, s, a, w, A, ρ, kk, hs, hr => by simp [runA] at hr
  | .goto _, hL, b, s, a, w, A, ρ, kk, hs, hr => by simp [runA] at hr
  | .refuse _, hL, b, s, a, w, A, ρ, kk, hs, hr => by simp [runA] at hr

/-- A loop's law, from what one round does. -/
theorem loop_ok {E' : Env} {y : Code} {id : Nat} {le : LEnt} (hm : P.follows .mixedOrders = true) (hT : TabOk P E'.ty) (hO : OrcOk P E') (hE : E'.nt ≤ 1000) (hnt : E.nt = E'.nt) (hle : lk E.lorc id = some le) (hL : LoopsOk P E'.nt E'.lorc y)
    (step : (R : Type) → Nat → List AV → (List AV → Option R) → (Nat → List AV → Option R) → Option R)
    (hstep : ∀ (R : Type) n vs k1 k2 (r : R), step R n vs k1 k2 = some r → ∃ n', runA { E' with n := n' } y id (stateOf le.inn vs) (bodyK le id k1 k2) = some r)
    (hgo : ∀ (R : Type) n vs kk (r : R), le.go R n vs kk = some r → ∃ n' m, loopN (step R n') m vs kk = some r) : LoopOk P E.nt E.lorc id (.loop y) := by
  intro le' hle' R W0 Wr n s a w A ρ kk r hs hr
  rw [hle] at hle'
  simp only [Option.some.injEq] at hle'
  subst hle'
  unfold lorcA at hr
  split at hr
  case h_2 => cases hr
  rename_i vs hv
  obtain ⟨n1, m, hr⟩ := hgo R n vs _ r hr
  refine wp_block (wp_loop_rounds m ?_)
  have key : ∀ (m : Nat) (s : AS) (a : Act) (w : World) (A : Nat → Prop) (ρ : Rho) (vs : List AV), SimR W0 Wr E.nt A ρ s a w → valsA le.inn s = some vs → loopN (step R n1) m vs (outK le kk) = some r →
      Code.rounds P y (Exit.inBlock id (Post E.nt W0 Wr kk r)) m a w := by
    intro m
    induction m with
    | zero => intro s a w A ρ vs _ _ h; simp [loopN] at h
    | succ m ih =>
      intro s a w A ρ vs hs hv h
      simp only [loopN] at h
      obtain ⟨n', h⟩ := hstep R n1 vs _ _ r h
      obtain ⟨ρ1, hs1⟩ := vals_sound hv hs
      rw [hnt] at hs1
      simp only [Code.rounds]
      refine wp_mono (runA_wp (E := { E' with n := n' }) hm hT hO hE y hL id _ a w A ρ1 _ hs1 h) fun e a' w' hp => ?_
      cases e with
      | normal =>
        obtain ⟨s2, A2, ρ2, h2, hk⟩ := hp
        simp only [bodyK] at hk
        split at hk
        · rename_i vs' hv'
          exact ih s2 a' w' A2 ρ2 vs' (hnt ▸ h2) hv' hk
        · cases hk
      | exit j =>
        obtain ⟨s2, A2, ρ2, h2, hk⟩ := hp
        simp only [bodyK] at hk
        split at hk
        · rename_i vs' hv'
          obtain ⟨ρ3, h3⟩ := vals_sound hv' h2
          simp only [Exit.then, Exit.inBlock]
          by_cases hj : j = id
          · subst hj
            rw [if_pos rfl]
            simp only [Nat.beq_refl, cond_true, outK] at hk
            exact ⟨_, A2, ρ3, hnt ▸ h3, hk⟩
          · rw [if_neg hj]
            have : Nat.beq j id = false := by
              cases hb : Nat.beq j id with
              | false => rfl
              | true => exact absurd (nat_beq hb) hj
            simp only [this, cond_false, outK] at hk
            exact ⟨_, A2, ρ3, hnt ▸ h3, hk⟩
        · cases hk
      | ret =>
        obtain ⟨s2, A2, ρ2, h2, hk⟩ := hp
        simp only [bodyK] at hk
        split at hk
        · rename_i vs' hv'
          obtain ⟨ρ3, h3⟩ := vals_sound hv' h2
          simp only [outK] at hk
          exact ⟨_, A2, ρ3, hnt ▸ h3, hk⟩
        · cases hk
      | goto l => exact hp
      | panic ch => exact hp
      | outgrown => exact hp
  exact key m s a w A ρ vs hs hv hr
end
end Go.Proofs.Ytdkebceiljdgjaa
