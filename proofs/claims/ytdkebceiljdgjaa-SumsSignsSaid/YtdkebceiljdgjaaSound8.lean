/- Each operation of the evaluator is one of the machine (third part). Own work, program-independent. -/
import Derived.Test.YtdkebceiljdgjaaSound7
namespace Go.Proofs.Ytdkebceiljdgjaa
open Go.RowKit (Below)

section
variable {P : Program} {E : Env} {W0 : World} {Wr : Nat → Prop} {A A' : Nat → Prop} {ρ ρ' : Rho} {s : AS} {a : Act} {w w' : World} {o : Oper} {f : Eff}

theorem bitsA_run {op : BinOp} {k : IntKind} {x y z : Int} (h : bitsA op k x y = some z) : (Op.intBits op k x y).run P w = .ok (.int k z) w := by
  cases op <;> simp only [bitsA, Option.some.injEq] at h <;> try (cases h; done)
  all_goals (subst h; rfl)

theorem binInt_run {op : BinOp} {k : IntKind} {x y : Int} {v : AV} {t : TypeId} (hs : isShift op = false) (h : binInt op k x y some = some v) :
    ∃ z, (binOp op t (.int k x) (.int k y)).run P w = .ok z w ∧ VR A w ρ v z := by
  cases op <;> simp only [isShift, Bool.true_eq_false] at hs <;> simp only [binInt, Option.some.injEq] at h
  case add => subst h; exact ⟨_, by simp [binOp, Op.intArith], VR_int⟩
  case sub => subst h; exact ⟨_, by simp [binOp, Op.intArith], VR_int⟩
  case mul => subst h; exact ⟨_, by simp [binOp, Op.intArith], VR_int⟩
  case quo =>
    obtain ⟨hy, h⟩ := chk_some h
    simp only [Option.some.injEq] at h
    subst h
    have hy : y ≠ 0 := by simpa using hy
    exact ⟨_, by simp [binOp, Op.intDiv, hy], VR_int⟩
  case rem =>
    obtain ⟨hy, h⟩ := chk_some h
    simp only [Option.some.injEq] at h
    subst h
    have hy : y ≠ 0 := by simpa using hy
    exact ⟨_, by simp [binOp, Op.intDiv, hy], VR_int⟩
  case eql => subst h; exact ⟨_, by simp [binOp, Op.intCmp], VR_bool⟩
  case neq => subst h; exact ⟨_, by simp [binOp, Op.intCmp], VR_bool⟩
  case lss => subst h; exact ⟨_, by simp [binOp, Op.intCmp], VR_bool⟩
  case leq => subst h; exact ⟨_, by simp [binOp, Op.intCmp], VR_bool⟩
  case gtr => subst h; exact ⟨_, by simp [binOp, Op.intCmp], VR_bool⟩
  case geq => subst h; exact ⟨_, by simp [binOp, Op.intCmp], VR_bool⟩
  all_goals
    split at h
    · rename_i z hz
      simp only [Option.some.injEq] at h
      subst h
      refine ⟨_, ?_, VR_int⟩
      simp only [binOp, ne_eq, not_true_eq_false, if_false]
      exact bitsA_run hz
    · cases h

theorem shiftA_run {op : BinOp} {k k' : IntKind} {x y : Int} {v : AV} {t : TypeId} (h : shiftA op k x y some = some v) :
    ∃ z, (binOp op t (.int k x) (.int k' y)).run P w = .ok z w ∧ VR A w ρ v z := by
  cases op <;> simp only [shiftA] at h <;> try (cases h; done)
  all_goals
    obtain ⟨hy, h⟩ := chk_some h
    simp only [Option.some.injEq] at h
    subst h
    have hy : ¬ y < 0 := by simpa using hy
    refine ⟨_, ?_, VR_int⟩
    simp [binOp, Op.shift, hy]

theorem eqGuard_int {op : BinOp} {t : TypeId} {x y : Operand} {k k' : IntKind} {m n : Int} : (eqGuard op t x y (.int k m) (.int k' n)).run P w = .ok () w := by
  cases op <;> simp [eqGuard]

theorem eqGuard_other {op : BinOp} {t : TypeId} {x y : Operand} {u v : Value} (h1 : ¬ (u = .nilIface ∧ v = .nilIface)) (h2 : ¬ ∃ p q, u = .agg p ∧ v = .agg q) : (eqGuard op t x y u v).run P w = .ok () w := by
  cases u <;> cases v <;> first
    | (exact absurd ⟨rfl, rfl⟩ h1)
    | (exact absurd ⟨_, _, rfl, rfl⟩ h2)
    | (cases op <;> rfl)

theorem VR_nili {p : AV} (h : VR A w ρ p .nilIface) : p = .nili := by
  cases p <;> simp only [VR] at h <;> first
    | rfl
    | (cases h; done)
    | (obtain ⟨_, h⟩ := h; cases h; done)
    | (obtain ⟨_, _, h⟩ := h; cases h; done)
    | (obtain ⟨_, _, _, h, _⟩ := h; cases h; done)
    | (obtain ⟨_, _, _, _, _, h, _⟩ := h; cases h; done)
    | (obtain ⟨_, _, _, h⟩ := h; rcases h with ⟨_, h⟩ | ⟨_, _, _, h, _⟩ <;> cases h; done)
    | (obtain ⟨_, _, h⟩ := h; rcases h with ⟨_, _, _, h⟩ | ⟨_, _, _, _, h, _⟩ <;> cases h; done)
    | (obtain ⟨h1, h2⟩ := h; subst h1; cases h2; done)

theorem VR_agg {p : AV} {cs : Array Value} (h : VR A w ρ p (.agg cs)) : p.comp = true := by
  cases hp : p.comp with
  | true => rfl
  | false =>
    have h1 := VR.single h hp
    have h2 := VR.one _ _ h
    rw [h1] at h2
    have := h2 _ (List.mem_singleton.2 rfl)
    simp [oneV] at this

theorem eqGuard_ok {tab : List (TypeId × TE)} (hT : TabOk P tab) {op : BinOp} {t : TypeId} {x y : Operand} {p q : AV} {u v : Value} (h : guardOk tab t x y p q = true) (hu : VR A w ρ p u) (hv : VR A w ρ q v) :
    (eqGuard op t x y u v).run P w = .ok () w := by
  by_cases hn : u = .nilIface ∧ v = .nilIface
  · obtain ⟨rfl, rfl⟩ := hn
    have e1 := VR_nili hu
    have e2 := VR_nili hv
    subst e1 e2
    simp only [guardOk, Bool.or_eq_true] at h
    have hc : ∀ z : Operand, isConstO z = true → ∃ c, z = .const c := by
      intro z hz
      cases z <;> simp only [isConstO, Bool.false_eq_true] at hz
      exact ⟨_, rfl⟩
    rcases h with h | h
    · obtain ⟨c, rfl⟩ := hc _ h
      cases op <;> rfl
    · obtain ⟨c, rfl⟩ := hc _ h
      cases op <;> cases x <;> rfl
  · by_cases ha : ∃ p q, u = .agg p ∧ v = .agg q
    · obtain ⟨cs, ds, rfl, rfl⟩ := ha
      have hp := VR_agg hu
      have h' : cmpOf tab t = true := by
        cases p <;> simp only [AV.comp, Bool.false_eq_true] at hp <;> simpa only [guardOk, AV.comp, Bool.true_or, cond_true] using h
      unfold cmpOf at h'
      split at h'
      · rename_i te hte
        exact run_eqGuard_agg w op t x y cs ds ((hT _ _ hte).cmp h').1
      · cases h'
    · exact eqGuard_other hn ha

theorem run_equalIn_nils {t : TypeId} {ms : Array (String × TypeId)} (h : P.underlying t = some (.interface ms)) (d : Nat) : (Op.equalIn (d + 1) t .nilIface .nilIface).run P w = .ok true w := by
  simp [Op.equalIn, run_underlying h]

theorem eqO_run {tab : List (TypeId × TE)} (hT : TabOk P tab) {t : TypeId} {x y : Operand} {p q : AV} {u v : Value} {r : Bool} (h : eqO tab t x y p q = some r) (hu : VR A w ρ p u) (hv : VR A w ρ q v) :
    guardOk tab t x y p q = true ∧ (Op.equal t u v).run P w = .ok r w := by
  unfold eqO at h
  obtain ⟨hg, h⟩ := cond_some h
  refine ⟨hg, ?_⟩
  split at h
  · split at h
    · rename_i hte
      simp only [Option.some.injEq] at h
      subst h
      have := (hT _ _ hte).und
      simp only [UndOk] at this
      obtain ⟨ms, hms⟩ := this
      simp only [VR] at hu hv
      subst hu hv
      exact run_equalIn_nils hms 9999
    · cases h
  · exact eqT_sound hT 8 9991 t _ _ r u v h hu hv

theorem eqO_binOp {tab : List (TypeId × TE)} {t : TypeId} {x y : Operand} {p q : AV} {u v : Value} {r : Bool} (h : eqO tab t x y p q = some r) (hu : VR A w ρ p u) (hv : VR A w ρ q v) (he : (Op.equal t u v).run P w = .ok r w) :
    (binOp .eql t u v).run P w = .ok (.bool r) w ∧ (binOp .neq t u v).run P w = .ok (.bool (!r)) w := by
  have shape : (∃ a b, u = .bool a ∧ v = .bool b) ∨ (∃ a b, u = .int a b) ∧ (∃ a b, v = .int a b) ∨ (∃ a b, u = .agg a ∧ v = .agg b) ∨ ((u = .nilIface ∨ ∃ a b, u = .iface a b) ∧ (v = .nilIface ∨ ∃ a b, v = .iface a b)) := by
    unfold eqO at h
    obtain ⟨_, h⟩ := cond_some h
    split at h
    · simp only [VR] at hu hv
      exact .inr (.inr (.inr ⟨.inl hu, .inl hv⟩))
    · simp only [eqT] at h
      split at h
      · cases h
      · split at h
        · simp only [VR] at hu hv; exact .inl ⟨_, _, hu, hv⟩
        · simp only [VR] at hu hv; exact .inr (.inl ⟨⟨_, _, hu⟩, ⟨_, _, hv⟩⟩)
        · simp only [VR] at hu hv; exact .inr (.inr (.inl ⟨_, _, hu.2, hv.2⟩))
        · simp only [VR] at hu hv
          obtain ⟨_, _, hu⟩ := hu
          obtain ⟨_, _, hv⟩ := hv
          exact .inr (.inr (.inl ⟨_, _, hu, hv⟩))
        · simp only [VR] at hu hv
          obtain ⟨_, _, hv⟩ := hv
          exact .inr (.inr (.inr ⟨.inl hu, .inr ⟨_, _, hv⟩⟩))
        · simp only [VR] at hu hv
          obtain ⟨_, _, hu⟩ := hu
          exact .inr (.inr (.inr ⟨.inr ⟨_, _, hu⟩, .inl hv⟩))
        · cases h
  rcases shape with ⟨a, b, rfl, rfl⟩ | ⟨⟨a, b, rfl⟩, ⟨c, d, rfl⟩⟩ | ⟨a, b, rfl, rfl⟩ | ⟨rfl | ⟨a, b, rfl⟩, rfl | ⟨c, d, rfl⟩⟩
  case inr.inl =>
    have hk : a = c ∧ (b == d) = r := by
      have hp : p = .int a b := by
        cases p <;> simp only [VR] at hu <;> first
          | (cases hu; rfl)
          | (cases hu; done)
          | (obtain ⟨_, h⟩ := hu; cases h; done)
          | (obtain ⟨_, _, h⟩ := hu; cases h; done)
          | (obtain ⟨_, _, _, h, _⟩ := hu; cases h; done)
          | (obtain ⟨_, _, _, _, _, h, _⟩ := hu; cases h; done)
          | (obtain ⟨_, _, _, h⟩ := hu; rcases h with ⟨_, h⟩ | ⟨_, _, _, h, _⟩ <;> cases h; done)
          | (obtain ⟨_, _, h⟩ := hu; rcases h with ⟨_, _, _, h⟩ | ⟨_, _, _, _, h, _⟩ <;> cases h; done)
          | (obtain ⟨h1, h2⟩ := hu; subst h1; cases h2; done)
      have hq : q = .int c d := by
        cases q <;> simp only [VR] at hv <;> first
          | (cases hv; rfl)
          | (cases hv; done)
          | (obtain ⟨_, h⟩ := hv; cases h; done)
          | (obtain ⟨_, _, h⟩ := hv; cases h; done)
          | (obtain ⟨_, _, _, h, _⟩ := hv; cases h; done)
          | (obtain ⟨_, _, _, _, _, h, _⟩ := hv; cases h; done)
          | (obtain ⟨_, _, _, h⟩ := hv; rcases h with ⟨_, h⟩ | ⟨_, _, _, h, _⟩ <;> cases h; done)
          | (obtain ⟨_, _, h⟩ := hv; rcases h with ⟨_, _, _, h⟩ | ⟨_, _, _, _, h, _⟩ <;> cases h; done)
          | (obtain ⟨h1, h2⟩ := hv; subst h1; cases h2; done)
      subst hp hq
      unfold eqO at h
      obtain ⟨_, h⟩ := cond_some h
      simp only [eqT] at h
      split at h
      · cases h
      · split at h <;> try (first | (cases h; done) | (rename_i h1 h2; cases h1; done) | (rename_i h1 h2 h3; cases h2; done))
        rename_i h1 h2 h3
        cases h2; cases h3
        obtain ⟨hk, h⟩ := cond_some h
        simp only [decide_eq_true_eq] at hk
        exact ⟨hk, Option.some.inj h⟩
    obtain ⟨rfl, rfl⟩ := hk
    exact ⟨by simp [binOp, Op.intCmp], by simp [binOp, Op.intCmp, bne]⟩
  all_goals
    refine ⟨?_, ?_⟩
    · simp only [binOp, Sem.run_bind, he, Result.andThen_ok]; rfl
    · simp only [binOp, Sem.run_bind, he, Result.andThen_ok]; rfl

theorem binA_run {tab : List (TypeId × TE)} (hT : TabOk P tab) {op : BinOp} {t : TypeId} {x y : Operand} {p q v : AV} {u z : Value} (h : binA tab op t x y p q some = some v) (hu : SR A w ρ p u) (hz : SR A w ρ q z) :
    (eqGuard op t x y u z).run P w = .ok () w ∧ ∃ r, (binOp op t u z).run P w = .ok r w ∧ VR A w ρ v r := by
  unfold binA at h
  split at h
  · have e1 := hu.int
    have e2 := hz.int
    subst e1 e2
    refine ⟨eqGuard_int, ?_⟩
    cases hs : isShift op with
    | true => rw [hs] at h; exact shiftA_run h
    | false =>
      rw [hs] at h
      obtain ⟨hk, h'⟩ := cond_some h
      simp only [decide_eq_true_eq] at hk
      subst hk
      exact binInt_run hs h'
  · rename_i hnot
    have live : ∀ {r : Bool}, eqO tab t x y p q = some r → p.live = true ∧ q.live = true := by
      intro r hr
      unfold eqO at hr
      obtain ⟨_, hr⟩ := cond_some hr
      split at hr
      · exact ⟨rfl, rfl⟩
      · simp only [eqT] at hr
        split at hr
        · cases hr
        · split at hr <;> first | exact ⟨rfl, rfl⟩ | cases hr
    have run : ∀ {r : Bool}, eqO tab t x y p q = some r → (eqGuard op t x y u z).run P w = .ok () w ∧ (Op.equal t u z).run P w = .ok r w := by
      intro r hr
      obtain ⟨l1, l2⟩ := live hr
      obtain ⟨h1, h2⟩ := eqO_run hT hr (hu.vr l1) (hz.vr l2)
      exact ⟨eqGuard_ok hT h1 (hu.vr l1) (hz.vr l2), h2⟩
    split at h
    · split at h
      · rename_i b hb
        simp only [Option.some.injEq] at h
        subst h
        obtain ⟨h1, h2⟩ := run hb
        obtain ⟨l1, l2⟩ := live hb
        exact ⟨h1, .bool b, (eqO_binOp hb (hu.vr l1) (hz.vr l2) h2).1, VR_bool⟩
      · cases h
    · split at h
      · rename_i b hb
        simp only [Option.some.injEq] at h
        subst h
        obtain ⟨h1, h2⟩ := run hb
        obtain ⟨l1, l2⟩ := live hb
        exact ⟨h1, .bool (!b), (eqO_binOp hb (hu.vr l1) (hz.vr l2) h2).2, VR_bool⟩
      · cases h
    · cases h
end
end Go.Proofs.Ytdkebceiljdgjaa
