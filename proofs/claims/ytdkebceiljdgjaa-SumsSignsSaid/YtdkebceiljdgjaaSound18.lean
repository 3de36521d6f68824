/- Guards, steps, regions. Own work, program-independent. -/
import Derived.Test.YtdkebceiljdgjaaSound17
import Derived.Orders
namespace Go.Proofs.Ytdkebceiljdgjaa
open Go.RowKit (Below)

/-- Is an operation wanted? -/
def wantA (ops : Array Oper) (s : AS) (o : Oper) : Option Bool :=
  match o.guard with
  | none => some true
  | some (g, want) =>
    match (ops[g]?).bind (·.dst) with
    | none => none
    | some d => match s.t d with
      | .bool b => some (b == want)
      | .tup [] => some false
      | _ => none

/-- One operation, guard and all. -/
def stp (E : Env) (ops : Array Oper) (s : AS) (o : Oper) : Option Eff :=
  bif okDst E o.dst then
    match wantA ops s o with
    | some true => opA E s o.dst o.op some
    | some false => some (val skipV)
    | none => none
  else none

section
variable {R : Type} {P : Program} {E : Env} {W0 : World} {Wr : Nat → Prop} {A A' : Nat → Prop} {ρ ρ' : Rho} {s s' : AS} {a : Act} {w w' : World} {o : Oper} {f : Eff} {ops : Array Oper} {Q : Exit → Act → World → Prop} {r : R}

theorem upd_same {α : Type} (g : Nat → α) (i : Nat) (x : α) (h : g i = x) : upd g i x = g := by
  funext j
  by_cases hj : j = i
  · subst hj; rw [upd_self, h]
  · rw [upd_ne _ _ hj]

theorem partA_some {kk : AS → Option R} (h : partA ops s o kk = some r) : kk s = some r := by
  unfold partA at h
  split at h
  · exact h
  · split at h
    · cases h
    · split at h
      · rename_i d hd b hb
        cases b
        · rw [upd_same _ _ _ hb] at h; exact h
        · rw [upd_same _ _ _ hb] at h; exact h
      · exact h
      · cases h

theorem stepA_some (hO : OrcLaw E) {kk : List Nat → List Nat → AS → Option R} (h : stepA E ops s o kk = some r) : ∃ f, stp E ops s o = some f ∧ kk f.rd (f.up.map (·.1)) (s.put o.dst f) = some r := by
  unfold stepA at h
  obtain ⟨hd, h⟩ := cond_some h
  have key : ∀ x, opA E s o.dst o.op (fun f => kk f.rd (f.up.map (·.1)) (s.put o.dst f)) = some x → ∃ f, opA E s o.dst o.op some = some f ∧ kk f.rd (f.up.map (·.1)) (s.put o.dst f) = some x := by
    intro x hx
    rw [opA_bind hO, Option.bind_eq_some_iff] at hx
    exact hx
  unfold stp wantA
  rw [hd]
  simp only [cond_true]
  split at h
  · rename_i hg
    simp only [hg]
    exact key _ h
  · rename_i g want hg
    simp only [hg]
    split at h
    · cases h
    · rename_i d hgd
      simp only [hgd]
      split at h
      · rename_i ht
        simp only [ht]
        cases want
        · exact ⟨_, rfl, h⟩
        · exact key _ h
      · rename_i ht
        simp only [ht]
        cases want
        · exact key _ h
        · exact ⟨_, rfl, h⟩
      · rename_i ht
        simp only [ht]
        exact ⟨_, rfl, h⟩
      · cases h

theorem wantA_sound (h : SimR W0 Wr E.nt A ρ s a w) {b : Bool} (hw : wantA ops s o = some b) : Region.wanted o (yielded ops a.tmps) = b := by
  unfold wantA at hw
  unfold Region.wanted
  split at hw
  · rename_i hg
    simp only [hg]
    exact Option.some.inj hw
  · rename_i g want hg
    simp only [hg]
    split at hw
    · cases hw
    · rename_i d hgd
      split at hw
      · rename_i b' ht
        have hs := h.slot d
        rw [ht] at hs
        simp only [SR, VR] at hs
        unfold yielded
        simp only [hgd, Option.bind_some]
        have hd : a.tmps[d]? = some (.bool b') := by
          rw [Array.getD_eq_getD_getElem?] at hs
          cases hx : a.tmps[d]? with
          | none => rw [hx] at hs; cases hs
          | some v => rw [hx] at hs; simpa using hs
        rw [hd]
        simp only [Option.some.injEq] at hw
        rw [← hw]
        cases b' <;> cases want <;> rfl
      · rename_i ht
        have hs := h.slot d
        rw [ht] at hs
        simp only [SR, VRs] at hs
        obtain ⟨vs, rfl, hs⟩ := hs
        unfold yielded
        simp only [hgd, Option.bind_some]
        simp only [Option.some.injEq] at hw
        subst hw
        rw [Array.getD_eq_getD_getElem?] at hs
        cases hx : a.tmps[d]? with
        | none => cases want <;> rfl
        | some v =>
          rw [hx] at hs
          simp only [Option.getD_some] at hs
          subst hs
          cases want <;> rfl
      · cases hw

theorem stp_wp (hT : TabOk P E.ty) (hO : OrcOk P E) (hE : E.nt ≤ 1000) (h : SimR W0 Wr E.nt A ρ s a w) {i : Nat} (hi : ops[i]? = some o) (hs : stp E ops s o = some f) {K : Act → World → Prop}
    (hK : ∀ A' ρ' a' w', SimR W0 Wr E.nt A' ρ' (s.put o.dst f) a' w' → K a' w') : wpOp P ops Q i K a w := by
  unfold stp at hs
  obtain ⟨hd, hs⟩ := cond_some hs
  unfold wpOp
  simp only [hi]
  split at hs
  · rename_i hw
    rw [wantA_sound h hw]
    simp only [if_true]
    refine .inl ((sound_op hT hO hE h hd hs).wp fun x w' hx => ?_)
    obtain ⟨A', ρ', hx⟩ := hx
    exact hK _ _ _ _ hx
  · rename_i hw
    rw [wantA_sound h hw]
    simp only [Bool.false_eq_true, if_false]
    simp only [Option.some.injEq] at hs
    subst hs
    exact hK _ _ _ _ (h.put (okDst_lt hd) (v := skipV) ⟨[], rfl, rfl⟩)
  · cases hs

theorem SimR.frzIf (h : SimR W0 Wr E.nt A ρ s a w) (ids : List Nat) : ∃ A', SimR W0 Wr E.nt A' ρ (frzIf s ids) a w := by
  cases ids with
  | nil => exact ⟨A, h⟩
  | cons i r => exact ⟨_, h.frz (i :: r)⟩

/-- A region in the order of its text. -/
theorem ops_wp (hT : TabOk P E.ty) (hO : OrcOk P E) (hE : E.nt ≤ 1000) {kk : AS → Option R} : ∀ (l : List Oper) (i : Nat) (s : AS) (a : Act) (w : World) (A : Nat → Prop) (ρ : Rho), ops.toList.drop i = l →
    SimR W0 Wr E.nt A ρ s a w → opsA E ops l s kk = some r → (∀ s' a' w' A' ρ', kk s' = some r → SimR W0 Wr E.nt A' ρ' s' a' w' → Q .normal a' w') → wpOps P ops Q (List.range' i l.length) a w
  | [], i, s, a, w, A, ρ, hl, h, hr, hk => by
    simp only [opsA] at hr
    simp only [List.length_nil, List.range'_zero, wpOps]
    exact hk _ _ _ _ _ hr h
  | o :: l, i, s, a, w, A, ρ, hl, h, hr, hk => by
    simp only [opsA] at hr
    have hr := partA_some hr
    obtain ⟨f, hf, hr⟩ := stepA_some hO.law hr
    obtain ⟨A1, h1⟩ := h.frzIf (frzO E s o.op)
    have hi : ops[i]? = some o := by
      have : ops.toList[i]? = some o := by
        have := congrArg (fun l => l[0]?) hl
        simpa using this
      simpa using this
    simp only [List.length_cons, List.range'_succ]
    rw [wpOps_cons]
    refine stp_wp hT hO hE h1 hi hf fun A' ρ' a' w' h2 => ?_
    exact ops_wp hT hO hE l (i + 1) _ a' w' A' ρ' (by rw [← List.drop_drop, hl]; rfl) h2 hr hk
end
end Go.Proofs.Ytdkebceiljdgjaa
