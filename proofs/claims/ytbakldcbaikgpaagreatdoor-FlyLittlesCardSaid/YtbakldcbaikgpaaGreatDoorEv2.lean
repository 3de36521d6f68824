/- The texts Sound8, Sound9, Sound10, Sound11, Sound12, Sound13, Sound14, joined. Own work. -/
import Derived.Test.YtbakldcbaikgpaaGreatDoorEv1
/- Each operation of the evaluator is one of the machine (third part). Own work, program-independent. -/
namespace Go.Proofs.YtbakldcbaikgpaaGreatDoor
open Go.RowKit (Below)
section
variable {P : Program} {E : Env} {W0 : World} {Wr : Wk} {A A' : Nat → Prop} {ρ ρ' : Rho} {s : AS} {a : Act} {w w' : World} {o : Oper} {f : Eff}
theorem bitsA_run {op : BinOp} {k : IntKind} {x y z : Int} (h : bitsA op k x y = some z) : (Op.intBits op k x y).run P w = .ok (.int k z) w := by
  cases op <;> simp only [bitsA, Option.some.injEq] at h <;> try (cases h; done)
  all_goals (subst h; rfl)
theorem binInt_run {op : BinOp} {k : IntKind} {x y : Int} {v : AV} {t : TypeId} (hs : isShift op = false) (h : binInt op k x y some = some v) :
    ∃ z, (binOp op t (.int k x) (.int k y)).run P w = .ok z w ∧ VR A w ρ v z := by
  cases op <;> simp only [isShift, Bool.true_eq_false] at hs <;> simp only [binInt, Option.some.injEq] at h
  case add => subst h; exact ⟨_, by simp [binOp, Op.intArith], VR_int⟩
  case sub => subst h; exact ⟨_, by simp [binOp, Op.intArith], VR_int⟩
  case mul => subst h; exact ⟨_, by simp [binOp, Op.intArith], VR_int⟩
  case quo =>
    obtain ⟨hy, h⟩ := chk_some h
    simp only [Option.some.injEq] at h
    subst h
    have hy : y ≠ 0 := by simpa using hy
    exact ⟨_, by simp [binOp, Op.intDiv, hy], VR_int⟩
  case rem =>
    obtain ⟨hy, h⟩ := chk_some h
    simp only [Option.some.injEq] at h
    subst h
    have hy : y ≠ 0 := by simpa using hy
    exact ⟨_, by simp [binOp, Op.intDiv, hy], VR_int⟩
  case eql => subst h; exact ⟨_, by simp [binOp, Op.intCmp], VR_bool⟩
  case neq => subst h; exact ⟨_, by simp [binOp, Op.intCmp], VR_bool⟩
  case lss => subst h; exact ⟨_, by simp [binOp, Op.intCmp], VR_bool⟩
  case leq => subst h; exact ⟨_, by simp [binOp, Op.intCmp], VR_bool⟩
  case gtr => subst h; exact ⟨_, by simp [binOp, Op.intCmp], VR_bool⟩
  case geq => subst h; exact ⟨_, by simp [binOp, Op.intCmp], VR_bool⟩
  all_goals
    split at h
    · rename_i z hz
      simp only [Option.some.injEq] at h
      subst h
      refine ⟨_, ?_, VR_int⟩
      simp only [binOp, ne_eq, not_true_eq_false, if_false]
      exact bitsA_run hz
    · cases h
theorem shiftA_run {op : BinOp} {k k' : IntKind} {x y : Int} {v : AV} {t : TypeId} (h : shiftA op k x y some = some v) :
    ∃ z, (binOp op t (.int k x) (.int k' y)).run P w = .ok z w ∧ VR A w ρ v z := by
  cases op <;> simp only [shiftA] at h <;> try (cases h; done)
  all_goals
    obtain ⟨hy, h⟩ := chk_some h
    simp only [Option.some.injEq] at h
    subst h
    have hy : ¬ y < 0 := by simpa using hy
    refine ⟨_, ?_, VR_int⟩
    simp [binOp, Op.shift, hy]
theorem eqGuard_int {op : BinOp} {t : TypeId} {x y : Operand} {k k' : IntKind} {m n : Int} : (eqGuard op t x y (.int k m) (.int k' n)).run P w = .ok () w := by
  cases op <;> simp [eqGuard]
theorem eqGuard_other {op : BinOp} {t : TypeId} {x y : Operand} {u v : Value} (h1 : ¬ (u = .nilIface ∧ v = .nilIface)) (h2 : ¬ ∃ p q, u = .agg p ∧ v = .agg q) : (eqGuard op t x y u v).run P w = .ok () w := by
  cases u <;> cases v <;> first
    | (exact absurd ⟨rfl, rfl⟩ h1)
    | (exact absurd ⟨_, _, rfl, rfl⟩ h2)
    | (cases op <;> rfl)
theorem VR_nili {p : AV} (h : VR A w ρ p .nilIface) : p = .nili := by
  cases p <;> simp only [VR] at h <;> first
    | rfl
    | (cases h; done)
    | (obtain ⟨_, h⟩ := h; cases h; done)
    | (obtain ⟨_, _, h⟩ := h; cases h; done)
    | (obtain ⟨_, _, _, h, _⟩ := h; cases h; done)
    | (obtain ⟨_, _, _, _, _, h, _⟩ := h; cases h; done)
    | (obtain ⟨_, _, _, h⟩ := h; rcases h with ⟨_, h⟩ | ⟨_, _, _, h, _⟩ <;> cases h; done)
    | (obtain ⟨_, _, h⟩ := h; rcases h with ⟨_, _, _, h⟩ | ⟨_, _, _, _, h, _⟩ <;> cases h; done)
    | (obtain ⟨_, _, _, h⟩ := h; rcases h with ⟨_, _, _, h⟩ | ⟨_, _, _, h, _⟩ <;> cases h; done)
    | (obtain ⟨_, _, _, _, h, _⟩ := h; cases h; done)
    | (obtain ⟨h1, h2⟩ := h; subst h1; cases h2; done)
theorem VR_agg {p : AV} {cs : Array Value} (h : VR A w ρ p (.agg cs)) : p.comp = true := by
  cases hp : p.comp with
  | true => rfl
  | false =>
    have h1 := VR.single h hp
    have h2 := VR.one _ _ h
    rw [h1] at h2
    have := h2 _ (List.mem_singleton.2 rfl)
    simp [oneV] at this
theorem eqGuard_ok {tab : List (TypeId × TE)} (hT : TabOk P tab) {op : BinOp} {t : TypeId} {x y : Operand} {p q : AV} {u v : Value} (h : guardOk tab t x y p q = true) (hu : VR A w ρ p u) (hv : VR A w ρ q v) :
    (eqGuard op t x y u v).run P w = .ok () w := by
  by_cases hn : u = .nilIface ∧ v = .nilIface
  · obtain ⟨rfl, rfl⟩ := hn
    have e1 := VR_nili hu
    have e2 := VR_nili hv
    subst e1 e2
    simp only [guardOk, Bool.or_eq_true] at h
    have hc : ∀ z : Operand, isConstO z = true → ∃ c, z = .const c := by
      intro z hz
      cases z <;> simp only [isConstO, Bool.false_eq_true] at hz
      exact ⟨_, rfl⟩
    rcases h with h | h
    · obtain ⟨c, rfl⟩ := hc _ h
      cases op <;> rfl
    · obtain ⟨c, rfl⟩ := hc _ h
      cases op <;> cases x <;> rfl
  · by_cases ha : ∃ p q, u = .agg p ∧ v = .agg q
    · obtain ⟨cs, ds, rfl, rfl⟩ := ha
      have hp := VR_agg hu
      have h' : cmpOf tab t = true := by
        cases p <;> simp only [AV.comp, Bool.false_eq_true] at hp <;> simpa only [guardOk, AV.comp, Bool.true_or, cond_true] using h
      unfold cmpOf at h'
      split at h'
      · rename_i te hte
        exact run_eqGuard_agg w op t x y cs ds ((hT _ _ hte).cmp h').1
      · cases h'
    · exact eqGuard_other hn ha
theorem run_equalIn_nils {t : TypeId} {ms : Array (String × TypeId)} (h : P.underlying t = some (.interface ms)) (d : Nat) : (Op.equalIn (d + 1) t .nilIface .nilIface).run P w = .ok true w := by
  simp [Op.equalIn, run_underlying h]
theorem eqO_run {tab : List (TypeId × TE)} (hT : TabOk P tab) {t : TypeId} {x y : Operand} {p q : AV} {u v : Value} {r : Bool} (h : eqO tab t x y p q = some r) (hu : VR A w ρ p u) (hv : VR A w ρ q v) :
    guardOk tab t x y p q = true ∧ (Op.equal t u v).run P w = .ok r w := by
  unfold eqO at h
  obtain ⟨hg, h⟩ := cond_some h
  refine ⟨hg, ?_⟩
  split at h
  · split at h
    · rename_i hte
      simp only [Option.some.injEq] at h
      subst h
      have := (hT _ _ hte).und
      simp only [UndOk] at this
      obtain ⟨ms, hms⟩ := this
      simp only [VR] at hu hv
      subst hu hv
      exact run_equalIn_nils hms 9999
    · cases h
  · exact eqT_sound hT 8 9991 t _ _ r u v h hu hv
theorem eqO_binOp {tab : List (TypeId × TE)} {t : TypeId} {x y : Operand} {p q : AV} {u v : Value} {r : Bool} (h : eqO tab t x y p q = some r) (hu : VR A w ρ p u) (hv : VR A w ρ q v) (he : (Op.equal t u v).run P w = .ok r w) :
    (binOp .eql t u v).run P w = .ok (.bool r) w ∧ (binOp .neq t u v).run P w = .ok (.bool (!r)) w := by
  have shape : (∃ a b, u = .bool a ∧ v = .bool b) ∨ (∃ a b, u = .int a b) ∧ (∃ a b, v = .int a b) ∨ (∃ a b, u = .agg a ∧ v = .agg b) ∨ ((u = .nilIface ∨ ∃ a b, u = .iface a b) ∧ (v = .nilIface ∨ ∃ a b, v = .iface a b)) := by
    unfold eqO at h
    obtain ⟨_, h⟩ := cond_some h
    split at h
    · simp only [VR] at hu hv
      exact .inr (.inr (.inr ⟨.inl hu, .inl hv⟩))
    · simp only [eqT] at h
      split at h
      · cases h
      · split at h
        · simp only [VR] at hu hv; exact .inl ⟨_, _, hu, hv⟩
        · simp only [VR] at hu hv; exact .inr (.inl ⟨⟨_, _, hu⟩, ⟨_, _, hv⟩⟩)
        · simp only [VR] at hu hv; exact .inr (.inr (.inl ⟨_, _, hu.2, hv.2⟩))
        · simp only [VR] at hu hv
          obtain ⟨_, _, hu⟩ := hu
          obtain ⟨_, _, hv⟩ := hv
          exact .inr (.inr (.inl ⟨_, _, hu, hv⟩))
        · simp only [VR] at hu hv
          obtain ⟨_, _, hv⟩ := hv
          exact .inr (.inr (.inr ⟨.inl hu, .inr ⟨_, _, hv⟩⟩))
        · simp only [VR] at hu hv
          obtain ⟨_, _, hu⟩ := hu
          exact .inr (.inr (.inr ⟨.inr ⟨_, _, hu⟩, .inl hv⟩))
        · cases h
  rcases shape with ⟨a, b, rfl, rfl⟩ | ⟨⟨a, b, rfl⟩, ⟨c, d, rfl⟩⟩ | ⟨a, b, rfl, rfl⟩ | ⟨rfl | ⟨a, b, rfl⟩, rfl | ⟨c, d, rfl⟩⟩
  case inr.inl =>
    have hk : a = c ∧ (b == d) = r := by
      have hp : p = .int a b := by
        cases p <;> simp only [VR] at hu <;> first
          | (cases hu; rfl)
          | (cases hu; done)
          | (obtain ⟨_, h⟩ := hu; cases h; done)
          | (obtain ⟨_, _, h⟩ := hu; cases h; done)
          | (obtain ⟨_, _, _, h, _⟩ := hu; cases h; done)
          | (obtain ⟨_, _, _, _, _, h, _⟩ := hu; cases h; done)
          | (obtain ⟨_, _, _, h⟩ := hu; rcases h with ⟨_, h⟩ | ⟨_, _, _, h, _⟩ <;> cases h; done)
          | (obtain ⟨_, _, h⟩ := hu; rcases h with ⟨_, _, _, h⟩ | ⟨_, _, _, _, h, _⟩ <;> cases h; done)
          | (obtain ⟨_, _, _, h⟩ := hu; rcases h with ⟨_, _, _, h⟩ | ⟨_, _, _, h, _⟩ <;> cases h; done)
          | (obtain ⟨_, _, _, _, h, _⟩ := hu; cases h; done)
          | (obtain ⟨h1, h2⟩ := hu; subst h1; cases h2; done)
      have hq : q = .int c d := by
        cases q <;> simp only [VR] at hv <;> first
          | (cases hv; rfl)
          | (cases hv; done)
          | (obtain ⟨_, h⟩ := hv; cases h; done)
          | (obtain ⟨_, _, h⟩ := hv; cases h; done)
          | (obtain ⟨_, _, _, h, _⟩ := hv; cases h; done)
          | (obtain ⟨_, _, _, _, _, h, _⟩ := hv; cases h; done)
          | (obtain ⟨_, _, _, h⟩ := hv; rcases h with ⟨_, h⟩ | ⟨_, _, _, h, _⟩ <;> cases h; done)
          | (obtain ⟨_, _, h⟩ := hv; rcases h with ⟨_, _, _, h⟩ | ⟨_, _, _, _, h, _⟩ <;> cases h; done)
          | (obtain ⟨_, _, _, h⟩ := hv; rcases h with ⟨_, _, _, h⟩ | ⟨_, _, _, h, _⟩ <;> cases h; done)
          | (obtain ⟨_, _, _, _, h, _⟩ := hv; cases h; done)
          | (obtain ⟨h1, h2⟩ := hv; subst h1; cases h2; done)
      subst hp hq
      unfold eqO at h
      obtain ⟨_, h⟩ := cond_some h
      simp only [eqT] at h
      split at h
      · cases h
      · split at h <;> try (first | (cases h; done) | (rename_i h1 h2; cases h1; done) | (rename_i h1 h2 h3; cases h2; done))
        rename_i h1 h2 h3
        cases h2; cases h3
        obtain ⟨hk, h⟩ := cond_some h
        simp only [decide_eq_true_eq] at hk
        exact ⟨hk, Option.some.inj h⟩
    obtain ⟨rfl, rfl⟩ := hk
    exact ⟨by simp [binOp, Op.intCmp], by simp [binOp, Op.intCmp, bne]⟩
  all_goals
    refine ⟨?_, ?_⟩
    · simp only [binOp, Sem.run_bind, he, Result.andThen_ok]; rfl
    · simp only [binOp, Sem.run_bind, he, Result.andThen_ok]; rfl
theorem binA_run {tab : List (TypeId × TE)} (hT : TabOk P tab) {op : BinOp} {t : TypeId} {x y : Operand} {p q v : AV} {u z : Value} (h : binA tab op t x y p q some = some v) (hu : SR A w ρ p u) (hz : SR A w ρ q z) :
    (eqGuard op t x y u z).run P w = .ok () w ∧ ∃ r, (binOp op t u z).run P w = .ok r w ∧ VR A w ρ v r := by
  unfold binA at h
  split at h
  · have e1 := hu.int
    have e2 := hz.int
    subst e1 e2
    refine ⟨eqGuard_int, ?_⟩
    cases hs : isShift op with
    | true => rw [hs] at h; exact shiftA_run h
    | false =>
      rw [hs] at h
      obtain ⟨hk, h'⟩ := cond_some h
      simp only [decide_eq_true_eq] at hk
      subst hk
      exact binInt_run hs h'
  · rename_i hnot
    have live : ∀ {r : Bool}, eqO tab t x y p q = some r → p.live = true ∧ q.live = true := by
      intro r hr
      unfold eqO at hr
      obtain ⟨_, hr⟩ := cond_some hr
      split at hr
      · exact ⟨rfl, rfl⟩
      · simp only [eqT] at hr
        split at hr
        · cases hr
        · split at hr <;> first | exact ⟨rfl, rfl⟩ | cases hr
    have run : ∀ {r : Bool}, eqO tab t x y p q = some r → (eqGuard op t x y u z).run P w = .ok () w ∧ (Op.equal t u z).run P w = .ok r w := by
      intro r hr
      obtain ⟨l1, l2⟩ := live hr
      obtain ⟨h1, h2⟩ := eqO_run hT hr (hu.vr l1) (hz.vr l2)
      exact ⟨eqGuard_ok hT h1 (hu.vr l1) (hz.vr l2), h2⟩
    split at h
    · split at h
      · rename_i b hb
        simp only [Option.some.injEq] at h
        subst h
        obtain ⟨h1, h2⟩ := run hb
        obtain ⟨l1, l2⟩ := live hb
        exact ⟨h1, .bool b, (eqO_binOp hb (hu.vr l1) (hz.vr l2) h2).1, VR_bool⟩
      · cases h
    · split at h
      · rename_i b hb
        simp only [Option.some.injEq] at h
        subst h
        obtain ⟨h1, h2⟩ := run hb
        obtain ⟨l1, l2⟩ := live hb
        exact ⟨h1, .bool (!b), (eqO_binOp hb (hu.vr l1) (hz.vr l2) h2).2, VR_bool⟩
      · cases h
    · cases h
end
end Go.Proofs.YtbakldcbaikgpaaGreatDoor
/- Each operation of the evaluator is one of the machine (fourth part): places, parts, lengths. Own work, program-independent. -/
namespace Go.Proofs.YtbakldcbaikgpaaGreatDoor
open Go.RowKit (Below)
section
variable {P : Program} {E : Env} {W0 : World} {Wr : Wk} {A A' : Nat → Prop} {ρ ρ' : Rho} {s : AS} {a : Act} {w w' : World} {o : Oper} {f : Eff}
theorem sound_binOp (hT : TabOk P E.ty) {op : BinOp} {t t' : TypeId} {x y : Operand} (ho : o.op = .binOp op t x y t') (h : SimR W0 Wr E.nt A ρ s a w) (hd : okDst E o.dst = true) (hf : opA E s o.dst o.op some = some f) :
    Gives P o a w (After W0 Wr E.nt s a o.dst f) := by
  rw [ho] at hf
  simp only [opA] at hf
  rw [binA_bind, Option.bind_eq_some_iff] at hf
  obtain ⟨v, hv, hf⟩ := hf
  simp only [Option.some.injEq] at hf
  subst hf
  obtain ⟨h1, r, h2, h3⟩ := binA_run hT hv (h.ev x) (h.ev y)
  refine Gives.val (x := r) ?_ (After.val h (okDst_lt hd) h3.sr rfl rfl rfl)
  unfold execOp
  rw [ho]
  simp only [Sem.run_bind, h1, h2, Result.andThen_ok, Sem.run_pure]
theorem sound_unOp {op : UnOp} {t : TypeId} {x : Operand} (ho : o.op = .unOp op t x) (h : SimR W0 Wr E.nt A ρ s a w) (hd : okDst E o.dst = true) (hf : opA E s o.dst o.op some = some f) :
    Gives P o a w (After W0 Wr E.nt s a o.dst f) := by
  rw [ho] at hf
  simp only [opA] at hf
  have hx := h.ev x
  split at hf
  · rename_i b hv
    rw [hv] at hx
    simp only [Option.some.injEq] at hf
    subst hf
    exact Gives.val (x := .bool (!b)) (by unfold execOp; rw [ho]; simp [hx.bool, Op.unary]) (After.val h (okDst_lt hd) (VR_bool (A := A) (w := w) (ρ := ρ)).sr rfl rfl rfl)
  · rename_i k n hv
    rw [hv] at hx
    simp only [Option.some.injEq] at hf
    subst hf
    exact Gives.val (x := .int k (k.wrap (0 - n))) (by unfold execOp; rw [ho]; simp [hx.int, Op.unary, Op.intArith]) (After.val h (okDst_lt hd) (VR_int (A := A) (w := w) (ρ := ρ)).sr rfl rfl rfl)
  · rename_i k n hv
    rw [hv] at hx
    split at hf
    · rename_i z hz
      simp only [Option.some.injEq] at hf
      subst hf
      refine Gives.val (x := .int k z) ?_ (After.val h (okDst_lt hd) (VR_int (A := A) (w := w) (ρ := ρ)).sr rfl rfl rfl)
      unfold execOp
      rw [ho]
      have hb : (Op.intBits .xor k (if k.signed then -1 else k.max) n).run P w = .ok (.int k z) w := bitsA_run (by rw [← hz]; congr 1; cases k.signed <;> rfl)
      simp only [Sem.run_bind, hx.int, Op.unary, hb, Result.andThen_ok, Sem.run_pure]
    · cases hf
  · cases hf
theorem sound_convert (hT : TabOk P E.ty) {t t' : TypeId} {x : Operand} (ho : o.op = .convert t t' x) (h : SimR W0 Wr E.nt A ρ s a w) (hd : okDst E o.dst = true) (hf : opA E s o.dst o.op some = some f) :
    Gives P o a w (After W0 Wr E.nt s a o.dst f) := by
  rw [ho] at hf
  simp only [opA] at hf
  have hx := h.ev x
  split at hf
  case h_2 => cases hf
  rename_i k0 _ _ _ _ k _ _ _ _ k1 n ht1 ht2 hv
  rw [hv] at hx
  simp only [Option.some.injEq] at hf
  subst hf
  have u1 := (hT _ _ ht1).und
  have u2 := (hT _ _ ht2).und
  simp only [UndOk] at u1 u2
  refine Gives.val (x := .int k (k.wrap n)) ?_ (After.val h (okDst_lt hd) (VR_int (A := A) (w := w) (ρ := ρ)).sr rfl rfl rfl)
  unfold execOp
  rw [ho]
  simp [hx.int, convert, run_underlying u1, run_underlying u2, Conv.intToInt]
theorem sound_makeInterface (hT : TabOk P E.ty) {t : TypeId} {x : Operand} (ho : o.op = .makeInterface t x) (h : SimR W0 Wr E.nt A ρ s a w) (hd : okDst E o.dst = true) (hf : opA E s o.dst o.op some = some f) :
    Gives P o a w (After W0 Wr E.nt s a o.dst f) := by
  rw [ho] at hf
  simp only [opA] at hf
  split at hf
  · cases hf
  · rename_i te hno hte
    obtain ⟨hl, hf⟩ := cond_some hf
    simp only [Option.some.injEq] at hf
    subst hf
    have hx := (h.ev x).vr hl
    have hu := (hT _ _ hte).und
    have hd' : ∃ d, P.underlying t = some d ∧ ∀ ms, d ≠ .interface ms := by
      obtain ⟨td, size, by', z, cm⟩ := te
      cases td <;> simp only [UndOk] at hu
      case iface => exact absurd rfl (hno _ _ _ _ · |>.elim)
      case struct fs => obtain ⟨fa, hu, _⟩ := hu; exact ⟨_, hu, fun ms e => by cases e⟩
      case other => obtain ⟨d, hu, hd⟩ := hu; exact ⟨_, hu, fun ms e => by subst e; exact hd⟩
      all_goals exact ⟨_, hu, fun ms e => by cases e⟩
    obtain ⟨d, hu, hnd⟩ := hd'
    refine Gives.val (x := .iface t (a.eval x)) ?_ (After.val h (okDst_lt hd) (v := .iface t (ev s.t x)) (by simp only [SR, VR]; exact ⟨_, hx, rfl⟩) rfl rfl rfl)
    unfold execOp
    rw [ho]
    have hrun : (Instr.makeInterface t (a.eval x)).run P w = .ok (.iface t (a.eval x)) w := by
      unfold Instr.makeInterface
      simp only [Sem.run_bind, run_underlying hu, Result.andThen_ok]
      cases d <;> first | rfl | exact absurd rfl (hnd _)
    simp only [Sem.run_bind, hrun, Result.andThen_ok, Sem.run_pure]
  · cases hf
theorem sound_nilCheck {x : Operand} (ho : o.op = .nilCheck x) (h : SimR W0 Wr E.nt A ρ s a w) (hd : okDst E o.dst = true) (hf : opA E s o.dst o.op some = some f) :
    Gives P o a w (After W0 Wr E.nt s a o.dst f) := by
  rw [ho] at hf
  simp only [opA] at hf
  have hx := h.ev x
  split at hf
  · rename_i id i e g hv
    rw [hv] at hx
    simp only [Option.some.injEq] at hf
    subst hf
    have hx0 := hx
    simp only [SR, VR] at hx0
    obtain ⟨b, n, _, hx0, _⟩ := hx0
    exact Gives.val (x := a.eval x) (by unfold execOp; rw [ho]; dsimp only; rw [hx0]; rfl) (After.val h (okDst_lt hd) hx rfl rfl rfl)
  · rename_i c i e g hv
    rw [hv] at hx
    simp only [Option.some.injEq] at hf
    subst hf
    have hx0 := hx
    simp only [SR, VR] at hx0
    obtain ⟨u, b, off, _, _, hx0, _⟩ := hx0
    exact Gives.val (x := a.eval x) (by unfold execOp; rw [ho]; dsimp only; rw [hx0]; rfl) (After.val h (okDst_lt hd) hx rfl rfl rfl)
  · rename_i fid hv
    rw [hv] at hx
    simp only [Option.some.injEq] at hf
    subst hf
    have hx0 := hx
    simp only [SR, VR] at hx0
    exact Gives.val (x := a.eval x) (by unfold execOp; rw [ho]; dsimp only; rw [hx0]; rfl) (After.val h (okDst_lt hd) hx rfl rfl rfl)
  · cases hf
theorem run_fieldPlace {ft : TypeId} {fe : TE} (hft : TEok P ft fe) (hs : fe.size ≠ 0) (b n : Nat) (fd : Field) (hfd : fd.type = ft) : (fieldPlace ⟨b, n, none⟩ fd).run P w = .ok ⟨b, n + fd.offset, none⟩ w := by
  unfold fieldPlace
  rw [hfd]
  simp [hft.rSize, hs, addr_add]
theorem sound_fieldAddr (hT : TabOk P E.ty) {t : TypeId} {x : Operand} {n : Nat} (ho : o.op = .fieldAddr t x n) (h : SimR W0 Wr E.nt A ρ s a w) (hd : okDst E o.dst = true) (hf : opA E s o.dst o.op some = some f) :
    Gives P o a w (After W0 Wr E.nt s a o.dst f) := by
  rw [ho] at hf
  simp only [opA] at hf
  have hx := h.ev x
  split at hf
  case h_2 => cases hf
  rename_i fs _ _ _ _ hte
  split at hf
  case h_2 => cases hf
  rename_i ft off hfs
  split at hf
  case h_2 => cases hf
  rename_i fe hfe
  obtain ⟨hsz, hf⟩ := cond_none hf
  have hs : fe.size ≠ 0 := by
    intro e
    rw [e] at hsz
    cases hsz
  have hu := (hT _ _ hte).und
  simp only [UndOk] at hu
  obtain ⟨fa, hu, hmap⟩ := hu
  obtain ⟨fd, hfd, hty, hoff⟩ : ∃ fd, fa[n]? = some fd ∧ fd.type = ft ∧ fd.offset = off := by
    rw [← hmap, List.getElem?_map] at hfs
    simp only [Option.map_eq_some_iff, Prod.mk.injEq] at hfs
    obtain ⟨fd, h1, h2, h3⟩ := hfs
    exact ⟨fd, by simpa using h1, h2, h3⟩
  have run : ∀ b m, a.eval x = .pointer (some ⟨b, m, none⟩) → (execOp a.eval o).run P w = .ok (.value (.pointer (some ⟨b, m + off, none⟩))) w := by
    intro b m hp
    unfold execOp
    rw [ho]
    simp [hp, Instr.fieldAt, run_underlying hu, hfd, Instr.sureAddr, run_fieldPlace (hT _ _ hfe) hs b m fd hty, hoff]
  split at hf
  · rename_i id i e g hv
    rw [hv] at hx
    simp only [Option.some.injEq] at hf
    subst hf
    simp only [SR, VR] at hx
    obtain ⟨b, m, h1, h2, h3⟩ := hx
    refine Gives.val (run _ _ h2) (After.val h (okDst_lt hd) (v := .ptr id i e (g + off)) ?_ rfl rfl rfl)
    simp only [SR, VR]
    exact ⟨b, m, h1, by rw [Nat.add_assoc], h3⟩
  · rename_i c i e g hv
    rw [hv] at hx
    simp only [Option.some.injEq] at hf
    subst hf
    simp only [SR, VR] at hx
    obtain ⟨u, b, m, h1, h2, h3, h4⟩ := hx
    refine Gives.val (run _ _ h3) (After.val h (okDst_lt hd) (v := .pt c i e (g + off)) ?_ rfl rfl rfl)
    simp only [SR, VR]
    exact ⟨u, b, m, h1, h2, by rw [show m + (i * e + g) + off = m + (i * e + (g + off)) by omega], h4⟩
  · cases hf
theorem CRs.split : ∀ (ps : List AV) (n : Nat) (p : AV) (cs : List Value), CRs A w ρ ps cs → ps[n]? = some p → ∃ v pre post, VR A w ρ p v ∧ cs = pre ++ v.cells.toList ++ post ∧ pre.length = AV.szs (ps.take n)
  | [], n, p, cs, _, hp => by simp at hp
  | q :: ps, 0, p, cs, h, hp => by
    simp only [List.getElem?_cons_zero, Option.some.injEq] at hp
    subst hp
    simp only [CRs] at h
    obtain ⟨v, cs', h1, h2, rfl⟩ := h
    exact ⟨v, [], cs', h1, by simp, rfl⟩
  | q :: ps, n + 1, p, cs, h, hp => by
    simp only [CRs] at h
    obtain ⟨v, cs', h1, h2, rfl⟩ := h
    obtain ⟨x, pre, post, g1, g2, g3⟩ := CRs.split ps n p cs' h2 (by simpa using hp)
    refine ⟨x, v.cells.toList ++ pre, post, g1, by rw [g2]; simp, ?_⟩
    simp only [List.length_append, Array.length_toList, VR.size _ _ h1, g3, List.take_succ_cons, AV.szs]
theorem sound_field (hT : TabOk P E.ty) {t : TypeId} {x : Operand} {n : Nat} (ho : o.op = .field t x n) (h : SimR W0 Wr E.nt A ρ s a w) (hd : okDst E o.dst = true) (hf : opA E s o.dst o.op some = some f) :
    Gives P o a w (After W0 Wr E.nt s a o.dst f) := by
  rw [ho] at hf
  simp only [opA] at hf
  have hx := h.ev x
  split at hf
  case h_2 => cases hf
  rename_i fs _ _ _ _ hte
  split at hf
  case h_2 => cases hf
  rename_i ft off ps hfs hv
  split at hf
  case h_2 => cases hf
  rename_i fe p hfe hp
  obtain ⟨hc, hf⟩ := cond_some hf
  simp only [Bool.and_eq_true, beq_iff_eq] at hc
  obtain ⟨⟨h1, h2⟩, h3⟩ := hc
  have h1 := nat_beq h1
  have h2 := nat_beq h2
  simp only [Option.some.injEq] at hf
  subst hf
  rw [hv] at hx
  simp only [SR, VR] at hx
  obtain ⟨cs, hcs, hxe⟩ := hx
  have hu := (hT _ _ hte).und
  simp only [UndOk] at hu
  obtain ⟨fa, hu, hmap⟩ := hu
  obtain ⟨fd, hfd, hty, hoff⟩ : ∃ fd, fa[n]? = some fd ∧ fd.type = ft ∧ fd.offset = off := by
    rw [← hmap, List.getElem?_map] at hfs
    simp only [Option.map_eq_some_iff, Prod.mk.injEq] at hfs
    obtain ⟨fd, h1, h2, h3⟩ := hfs
    exact ⟨fd, by simpa using h1, h2, h3⟩
  obtain ⟨v, pre, post, g1, g2, g3⟩ := CRs.split ps n p cs hcs hp
  have hs := (VR.size _ _ g1).trans h2
  have hpart : (part ft cs.toArray off).run P w = .ok v w := by
    refine run_part_single (hT _ _ hfe) (fun j hj => ?_) hs ?_
    · rw [List.getElem?_toArray, g2, List.append_assoc, List.getElem?_append_right (by omega), List.getElem?_append_left (by simp; omega)]
      rw [← Array.getElem?_toList]
      congr 1
      omega
    · cases hpp : p.comp with
      | true => exact .inl ⟨VR.comp g1 hpp, by rw [← h3, hpp]⟩
      | false => exact .inr ⟨VR.single g1 hpp, by rw [← h3, hpp]⟩
  refine Gives.val (x := v) ?_ (After.val h (okDst_lt hd) g1.sr rfl rfl rfl)
  unfold execOp
  rw [ho]
  have hrun : (Instr.field t (a.eval x) n).run P w = .ok v w := by
    unfold Instr.field
    simp only [Sem.run_bind, run_underlying hu, Result.andThen_ok, hfd, hxe, asAgg, Sem.run_pure, hty, hoff, hpart]
  simp only [Sem.run_bind, hrun, Result.andThen_ok, Sem.run_pure]
theorem sound_extract {x : Operand} {n : Nat} (ho : o.op = .extract x n) (h : SimR W0 Wr E.nt A ρ s a w) (hd : okDst E o.dst = true) (hf : opA E s o.dst o.op some = some f) :
    Gives P o a w (After W0 Wr E.nt s a o.dst f) := by
  rw [ho] at hf
  simp only [opA] at hf
  have hx := h.ev x
  split at hf
  case h_2 => cases hf
  rename_i ps hv
  split at hf
  case h_2 => cases hf
  rename_i p hp
  simp only [Option.some.injEq] at hf
  subst hf
  rw [hv] at hx
  obtain ⟨vs, h1, h2⟩ := hx
  obtain ⟨v, h3, h4⟩ := VRs.get ps vs n p h1 hp
  refine Gives.val (x := v) ?_ (After.val h (okDst_lt hd) h4.sr rfl rfl rfl)
  unfold execOp
  rw [ho]
  simp [h2, Instr.extract, h3]
theorem run_index_arr {t e : TypeId} {n : Nat} {te : TE} {k : IntKind} {j : Int} {b m : Nat} (hu : P.underlying t = some (.array n e)) (he : TEok P e te) (h0 : 0 ≤ j) (h1 : j < n) :
    (Instr.indexAt t (.pointer (some ⟨b, m, none⟩)) (.int k j)).run P w = .ok (.pointer (some ⟨b, m + j.toNat * te.size, none⟩)) w := by
  unfold Instr.indexAt
  simp [asIntOf, run_underlying hu, Instr.sureAddr, h0, h1, he.rSize, addr_add]
theorem run_index_sl {t e : TypeId} {te : TE} {k : IntKind} {j : Int} {b m n cap : Nat} (hu : P.underlying t = some (.slice e)) (he : TEok P e te) (h0 : 0 ≤ j) (h1 : j < n) :
    (Instr.indexAt t (.slice (some ⟨b, m, none⟩) n cap) (.int k j)).run P w = .ok (.pointer (some ⟨b, m + j.toNat * te.size, none⟩)) w := by
  unfold Instr.indexAt
  simp [asIntOf, run_underlying hu, h0, h1, he.rSize, addr_add]
theorem sound_indexAddr (hT : TabOk P E.ty) {t : TypeId} {x y : Operand} (ho : o.op = .indexAddr t x y) (h : SimR W0 Wr E.nt A ρ s a w) (hd : okDst E o.dst = true) (hf : opA E s o.dst o.op some = some f) :
    Gives P o a w (After W0 Wr E.nt s a o.dst f) := by
  rw [ho] at hf
  simp only [opA] at hf
  have hx := h.ev x
  have hy := h.ev y
  have fin : ∀ {v : Value} {q : AV} {rd : List Nat}, (Instr.indexAt t (a.eval x) (a.eval y)).run P w = .ok v w → SR A w ρ q v → Gives P o a w (After W0 Wr E.nt s a o.dst ⟨q, [], [], rd⟩) := by
    intro v q rd h1 h2
    refine Gives.val (x := v) ?_ (After.val h (okDst_lt hd) h2 rfl rfl rfl)
    unfold execOp
    rw [ho]
    simp only [Sem.run_bind, h1, Result.andThen_ok, Sem.run_pure]
  split at hf
  · rename_i n e _ _ _ _ k j hte hvy
    have hu := (hT _ _ hte).und
    simp only [UndOk] at hu
    rw [hvy] at hy
    have hy := hy.int
    split at hf
    · rename_i te id i0 g hte2 hvx
      obtain ⟨hc, hf⟩ := chk_some hf
      simp only [Bool.and_eq_true, decide_eq_true_eq] at hc
      split at hf
      case h_2 => cases hf
      rename_i blk hm
      rw [hvx] at hx
      simp only [SR, VR] at hx
      obtain ⟨b, m, h1, h2, h3⟩ := hx
      obtain ⟨ob, u, mm, g1, _⟩ := h.mem _ _ hm
      have hrun := run_index_arr (w := w) (k := k) (b := b) (m := i0 * 0 + g) hu (hT _ _ hte2) hc.1 hc.2
      rw [← h2, ← hy] at hrun
      cases hb : (Nat.beq blk.c.cnt n && Nat.beq g 0 && !Nat.beq te.size 0) with
      | true =>
        rw [hb] at hf
        simp only [cond_true, Option.some.injEq] at hf
        subst hf
        simp only [Bool.and_eq_true] at hb
        have e1 := nat_beq hb.1.1
        have e2 := nat_beq hb.1.2
        refine fin hrun ?_
        simp only [SR, VR]
        refine ⟨b, m, h1, by simp [e2], .inr ?_⟩
        rw [h1] at g1
        simp only [Option.some.injEq, Prod.mk.injEq] at g1
        rw [g1.2]
        simp only
        omega
      | false =>
        rw [hb] at hf
        simp only [cond_false, Option.some.injEq] at hf
        subst hf
        refine fin hrun ?_
        simp only [SR, VR]
        exact ⟨b, m, h1, by simp, .inl trivial⟩
    · rename_i te c i0 g hte2 hvx
      obtain ⟨hc, hf⟩ := chk_some hf
      simp only [Bool.and_eq_true, decide_eq_true_eq] at hc
      rw [hvx] at hx
      simp only [SR, VR] at hx
      obtain ⟨u, b, m, h1, h2, h3, h4, h5⟩ := hx
      have hrun := run_index_arr (w := w) (k := k) (b := b) (m := m + (i0 * 0 + g)) hu (hT _ _ hte2) hc.1 hc.2
      rw [← h3, ← hy] at hrun
      cases hb : (Nat.beq c.cnt n && Nat.beq g 0 && !Nat.beq te.size 0) with
      | true =>
        rw [hb] at hf
        simp only [cond_true, Option.some.injEq] at hf
        subst hf
        simp only [Bool.and_eq_true] at hb
        have e1 := nat_beq hb.1.1
        have e2 := nat_beq hb.1.2
        refine fin hrun ?_
        simp only [SR, VR]
        exact ⟨u, b, m, h1, h2, by simp [e2], h4, .inr (by omega)⟩
      | false =>
        rw [hb] at hf
        simp only [cond_false, Option.some.injEq] at hf
        subst hf
        refine fin hrun ?_
        simp only [SR, VR]
        exact ⟨u, b, m, h1, h2, by simp [Nat.add_assoc], h4, .inl trivial⟩
    · cases hf
  · rename_i e _ _ _ _ k j hte hvy
    have hu := (hT _ _ hte).und
    simp only [UndOk] at hu
    rw [hvy] at hy
    have hy := hy.int
    split at hf
    · rename_i te id hte2 hvx
      split at hf
      case h_2 => cases hf
      rename_i blk hm
      obtain ⟨hc, hf⟩ := chk_some hf
      simp only [Bool.and_eq_true, decide_eq_true_eq] at hc
      simp only [Option.some.injEq] at hf
      subst hf
      rw [hvx] at hx
      simp only [SR, VR] at hx
      obtain ⟨ob, n, h1, h2⟩ := hx
      obtain ⟨ob', u, mm, g1, _⟩ := h.mem _ _ hm
      rw [h1] at g1
      simp only [Option.some.injEq, Prod.mk.injEq] at g1
      have g2 : n.1 = blk.c.cnt := by rw [g1.2]
      rcases h2 with ⟨h2, _⟩ | ⟨b, cap, rfl, h2, _⟩
      · exfalso; omega
      · have hrun := run_index_sl (w := w) (k := k) (b := b) (m := 0) (n := n.1) (cap := cap) hu (hT _ _ hte2) hc.1.1 (by omega)
        rw [← h2, ← hy] at hrun
        refine fin hrun ?_
        simp only [SR, VR]
        exact ⟨b, n, h1, by simp, .inr (by omega)⟩
    · rename_i te c hte2 hvx
      obtain ⟨hc, hf⟩ := chk_some hf
      simp only [Bool.and_eq_true, decide_eq_true_eq] at hc
      simp only [Option.some.injEq] at hf
      subst hf
      rw [hvx] at hx
      simp only [SR, VR] at hx
      obtain ⟨u, h1, h2⟩ := hx
      rcases h2 with ⟨h2, _⟩ | ⟨b, off, cap, h3, h4, h5, h6⟩
      · exfalso; omega
      · have hrun := run_index_sl (w := w) (k := k) (b := b) (m := off) (n := c.cnt) (cap := cap) hu (hT _ _ hte2) hc.1.1 (by omega)
        rw [← h4, ← hy] at hrun
        refine fin hrun ?_
        simp only [SR, VR]
        exact ⟨u, b, off, h1, h3, by simp, h6, .inr (by omega)⟩
    · rename_i te id lo n e0 hte2 hvx
      obtain ⟨hc, hf⟩ := chk_some hf
      simp only [Bool.and_eq_true, decide_eq_true_eq] at hc
      obtain ⟨⟨c1, c2⟩, c3, c4⟩ := hc
      have c4 := nat_beq c4
      simp only [val, Option.some.injEq] at hf
      subst hf
      rw [hvx] at hx
      simp only [SR, VR] at hx
      obtain ⟨ob, N, h1, h2⟩ := hx
      rcases h2 with ⟨h2, _⟩ | ⟨b, cap, rfl, h4, h5, h6⟩
      · exfalso; omega
      · have hrun := run_index_sl (w := w) (k := k) (b := b) (m := lo * e0) (n := n) (cap := cap) hu (hT _ _ hte2) c1 c2
        rw [← h4, ← hy] at hrun
        refine fin hrun ?_
        simp only [SR, VR]
        exact ⟨b, N, h1, by rw [Nat.add_mul, Nat.add_zero, c4], .inr (by omega)⟩
    · cases hf
  · cases hf
theorem sound_index (hT : TabOk P E.ty) {t : TypeId} {x y : Operand} (ho : o.op = .index t x y) (h : SimR W0 Wr E.nt A ρ s a w) (hd : okDst E o.dst = true) (hf : opA E s o.dst o.op some = some f) :
    Gives P o a w (After W0 Wr E.nt s a o.dst f) := by
  rw [ho] at hf
  simp only [opA] at hf
  have hx := h.ev x
  have hy := h.ev y
  split at hf
  case h_3 => cases hf
  case h_2 =>
    rename_i b _ j hte hvx hvy
    have hu := (hT _ _ hte).und
    simp only [UndOk] at hu
    rw [hvy] at hy
    have hy := hy.int
    rw [hvx] at hx
    simp only [SR, VR] at hx
    obtain ⟨hx, _⟩ := hx
    obtain ⟨hc, hf⟩ := chk_some hf
    simp only [Bool.and_eq_true, decide_eq_true_eq] at hc
    simp only [Option.some.injEq] at hf
    subst hf
    refine Gives.val (x := .int .u8 (strAt b j.toNat)) ?_ (After.val h (okDst_lt hd) (VR_int (A := A) (w := w) (ρ := ρ)).sr rfl rfl rfl)
    unfold execOp
    rw [ho]
    have hlt : j.toNat < b.size := by omega
    have hrun : (Instr.index t (a.eval x) (a.eval y)).run P w = .ok (.int .u8 (strAt b j.toNat)) w := by
      unfold Instr.index strAt
      rw [hx, hy]
      simp only [asIntOf, Sem.run_bind, Sem.run_pure, Result.andThen_ok, run_underlying hu, hc.1, if_true]
      rw [getElem?_pos b j.toNat hlt]
      simp
    simp only [Sem.run_bind, hrun, Result.andThen_ok, Sem.run_pure]
  rename_i n e _ _ _ _ n' k l k' j hte hvx hvy
  have hu := (hT _ _ hte).und
  simp only [UndOk] at hu
  rw [hvy] at hy
  have hy := hy.int
  rw [hvx] at hx
  simp only [SR, VR] at hx
  obtain ⟨hl, hx⟩ := hx
  split at hf
  case h_2 => cases hf
  rename_i te hte2
  obtain ⟨hc, hf⟩ := chk_some hf
  simp only [Bool.and_eq_true, decide_eq_true_eq] at hc
  obtain ⟨hb, hf⟩ := cond_some hf
  simp only [Bool.and_eq_true, Bool.not_eq_true'] at hb
  obtain ⟨⟨h1, h2⟩, h3⟩ := hb
  have h1 := nat_beq h1
  have h2 := nat_beq h2
  simp only [Option.some.injEq] at hf
  subst hf
  have he := hT _ _ hte2
  have hpart : (part e (l.map (Value.int k)).toArray (j.toNat * te.size)).run P w = .ok (.int k (l.getD j.toNat 0)) w := by
    refine run_part_single he (fun i hi => ?_) (by rw [h2]; rfl) (.inr ⟨rfl, h3⟩)
    simp only [Value.cells, List.size_toArray, List.length_cons, List.length_nil] at hi
    obtain rfl : i = 0 := by omega
    rw [h2, Nat.mul_one, Nat.add_zero, List.getElem?_toArray]
    exact getD_map_int l _ (by omega)
  refine Gives.val (x := .int k (l.getD j.toNat 0)) ?_ (After.val h (okDst_lt hd) (VR_int (A := A) (w := w) (ρ := ρ)).sr rfl rfl rfl)
  unfold execOp
  rw [ho]
  have hrun : (Instr.index t (a.eval x) (a.eval y)).run P w = .ok (.int k (l.getD j.toNat 0)) w := by
    unfold Instr.index
    rw [hx, hy]
    simp only [asIntOf, Sem.run_bind, Sem.run_pure, Result.andThen_ok, run_underlying hu, hc.1, hc.2, and_self, if_true, he.rSize, hpart]
  simp only [Sem.run_bind, hrun, Result.andThen_ok, Sem.run_pure]
end
end Go.Proofs.YtbakldcbaikgpaaGreatDoor
/- Each operation of the evaluator is one of the machine (fifth part): lengths, parts laid, lists made. Own work, program-independent. -/
namespace Go.Proofs.YtbakldcbaikgpaaGreatDoor
open Go.RowKit (Below)
section
variable {P : Program} {E : Env} {W0 : World} {Wr : Wk} {A A' : Nat → Prop} {ρ ρ' : Rho} {s : AS} {a : Act} {w w' : World} {o : Oper} {f : Eff}
/-- A builtin's run, its operands being values. -/
theorem exec_builtin {c : Call} {b : Builtin} (ho : o.op = .call c) (hc : c.callee = .builtin b) : ∃ consts, execOp a.eval o = builtin b c.argTypes o.type consts (c.args.map a.eval) := by
  refine ⟨c.args.map (fun | .const _ => true | _ => false), ?_⟩
  unfold execOp
  rw [ho]
  simp only [resolve, hc]
  rfl
theorem sound_len (hT : TabOk P E.ty) {c : Call} {x : Operand} (ho : o.op = .call c) (hc : c.callee = .builtin .len) (hx : c.args.toList = [x]) (h : SimR W0 Wr E.nt A ρ s a w) (hd : okDst E o.dst = true)
    (hf : bltA E s o.dst .len c.argTypes.toList [x] some = some f) : Gives P o a w (After W0 Wr E.nt s a o.dst f) := by
  simp only [bltA] at hf
  obtain ⟨ht, hf⟩ := cond_some hf
  unfold isSliceT at ht
  split at ht
  case h_2 => cases ht
  rename_i t ts hts
  split at ht
  case h_2 => cases ht
  rename_i e _ _ _ _ hte
  have hu := (hT _ _ hte).und
  simp only [UndOk] at hu
  obtain ⟨consts, he⟩ := exec_builtin (a := a) ho hc
  have ha : c.args.map a.eval = #[a.eval x] := by
    apply Array.ext'
    rw [Array.toList_map, hx]; rfl
  have ht0 : c.argTypes[0]? = some t := by rw [← Array.getElem?_toList, hts]; rfl
  have hxr := h.ev x
  have fin : ∀ {n : Nat} {rd : List Nat}, (∃ ad cap, a.eval x = .slice ad n cap) → Gives P o a w (After W0 Wr E.nt s a o.dst ⟨.int .i64 n, [], [], rd⟩) := by
    rintro n rd ⟨ad, cap, hv⟩
    refine Gives.val (x := .int .i64 n) ?_ (After.val h (okDst_lt hd) (VR_int (A := A) (w := w) (ρ := ρ)).sr rfl rfl rfl)
    rw [he, ha, hv]
    simp [builtin, Builtin.len_, ht0, run_underlying hu, goInt]
  split at hf
  · rename_i id hv
    split at hf
    case h_2 => cases hf
    rename_i blk hm
    simp only [Option.some.injEq] at hf
    subst hf
    rw [hv] at hxr
    simp only [SR, VR] at hxr
    obtain ⟨ob, n, h1, h2⟩ := hxr
    obtain ⟨ob', u, mm, g1, _⟩ := h.mem _ _ hm
    rw [h1] at g1
    simp only [Option.some.injEq, Prod.mk.injEq] at g1
    obtain ⟨_, rfl⟩ := g1
    simp only at h2
    refine fin ?_
    rcases h2 with ⟨h2, h3⟩ | ⟨b, cap, _, h3, _⟩
    · rw [h2]; exact ⟨_, _, h3⟩
    · exact ⟨_, _, h3⟩
  · rename_i c' hv
    simp only [Option.some.injEq] at hf
    subst hf
    rw [hv] at hxr
    simp only [SR, VR] at hxr
    obtain ⟨u, h1, h2⟩ := hxr
    refine fin ?_
    rcases h2 with ⟨h2, ad, cap, h3⟩ | ⟨b, off, cap, _, h3, _⟩
    · rw [h2]; exact ⟨_, _, h3⟩
    · exact ⟨_, _, h3⟩
  · rename_i id lo n e hv
    simp only [Option.some.injEq] at hf
    subst hf
    rw [hv] at hxr
    simp only [SR, VR] at hxr
    obtain ⟨ob, N, h1, h2⟩ := hxr
    refine fin ?_
    rcases h2 with ⟨h2, ad, cap, h3⟩ | ⟨b, cap, _, h3, _⟩
    · rw [h2]; exact ⟨_, _, h3⟩
    · exact ⟨_, _, h3⟩
  · rename_i hv
    simp only [Option.some.injEq] at hf
    subst hf
    rw [hv] at hxr
    simp only [SR, VR] at hxr
    exact fin (n := 0) ⟨_, _, hxr⟩
  · cases hf
theorem list_two {α β : Type} {g : α → β} {xs : List α} {y z : β} (h : xs.map g = [y, z]) : ∃ p q, xs = [p, q] ∧ g p = y ∧ g q = z := by
  match xs, h with
  | [p, q], h => simp at h; exact ⟨p, q, rfl, h⟩
theorem list_three {α β : Type} {g : α → β} {xs : List α} {y z u : β} (h : xs.map g = [y, z, u]) : ∃ p q r, xs = [p, q, r] ∧ g p = y ∧ g q = z ∧ g r = u := by
  match xs, h with
  | [p, q, r], h => simp at h; exact ⟨p, q, r, rfl, h⟩
theorem sound_max {c : Call} (ho : o.op = .call c) (hc : c.callee = .builtin .max) (h : SimR W0 Wr E.nt A ρ s a w) (hd : okDst E o.dst = true)
    (hf : bltA E s o.dst .max c.argTypes.toList c.args.toList some = some f) : Gives P o a w (After W0 Wr E.nt s a o.dst f) := by
  simp only [bltA] at hf
  split at hf
  case h_2 => cases hf
  rename_i v hv
  simp only [Option.some.injEq] at hf
  subst hf
  obtain ⟨consts, he⟩ := exec_builtin (a := a) ho hc
  unfold maxA at hv
  split at hv
  · rename_i k x k' y hm
    obtain ⟨hk, hv'⟩ := cond_some hv
    clear hv
    simp only [decide_eq_true_eq] at hk
    simp only [Option.some.injEq] at hv'
    subst hk hv'
    obtain ⟨p, q, hl, h1, h2⟩ := list_two hm
    have e1 := h.ev p
    have e2 := h.ev q
    rw [h1] at e1
    rw [h2] at e2
    have ha : c.args.toList.map a.eval = [.int k x, .int k y] := by rw [hl]; simp [e1.int, e2.int]
    refine Gives.val (x := .int k (if y > x then y else x)) ?_ (After.val h (okDst_lt hd) (VR_int (A := A) (w := w) (ρ := ρ)).sr rfl rfl rfl)
    rw [he]
    simp [builtin, Builtin.max_, ha, Builtin.max2]
  · rename_i k x k' y k'' z hm
    obtain ⟨hk, hv'⟩ := cond_some hv
    clear hv
    simp only [Bool.and_eq_true, decide_eq_true_eq] at hk
    simp only [Option.some.injEq] at hv'
    obtain ⟨rfl, rfl⟩ := hk
    subst hv'
    obtain ⟨p, q, r, hl, h1, h2, h3⟩ := list_three hm
    have e1 := h.ev p
    have e2 := h.ev q
    have e3 := h.ev r
    rw [h1] at e1
    rw [h2] at e2
    rw [h3] at e3
    have ha : c.args.toList.map a.eval = [.int k x, .int k y, .int k z] := by rw [hl]; simp [e1.int, e2.int, e3.int]
    refine Gives.val (x := .int k (if z > (if y > x then y else x) then z else (if y > x then y else x))) ?_ (After.val h (okDst_lt hd) (VR_int (A := A) (w := w) (ρ := ρ)).sr rfl rfl rfl)
    rw [he]
    simp [builtin, Builtin.max_, ha, Builtin.max2]
  · cases hv
theorem sound_min {c : Call} (ho : o.op = .call c) (hc : c.callee = .builtin .min) (h : SimR W0 Wr E.nt A ρ s a w) (hd : okDst E o.dst = true)
    (hf : bltA E s o.dst .min c.argTypes.toList c.args.toList some = some f) : Gives P o a w (After W0 Wr E.nt s a o.dst f) := by
  simp only [bltA] at hf
  split at hf
  case h_2 => cases hf
  rename_i v hv
  simp only [Option.some.injEq] at hf
  subst hf
  obtain ⟨consts, he⟩ := exec_builtin (a := a) ho hc
  unfold minA at hv
  split at hv
  · rename_i k x k' y hm
    obtain ⟨hk, hv'⟩ := cond_some hv
    clear hv
    simp only [decide_eq_true_eq] at hk
    simp only [Option.some.injEq] at hv'
    subst hk hv'
    obtain ⟨p, q, hl, h1, h2⟩ := list_two hm
    have e1 := h.ev p
    have e2 := h.ev q
    rw [h1] at e1
    rw [h2] at e2
    have ha : c.args.toList.map a.eval = [.int k x, .int k y] := by rw [hl]; simp [e1.int, e2.int]
    refine Gives.val (x := .int k (if y < x then y else x)) ?_ (After.val h (okDst_lt hd) (VR_int (A := A) (w := w) (ρ := ρ)).sr rfl rfl rfl)
    rw [he]
    simp [builtin, Builtin.min_, ha, Builtin.min2]
  · rename_i k x k' y k'' z hm
    obtain ⟨hk, hv'⟩ := cond_some hv
    clear hv
    simp only [Bool.and_eq_true, decide_eq_true_eq] at hk
    simp only [Option.some.injEq] at hv'
    obtain ⟨rfl, rfl⟩ := hk
    subst hv'
    obtain ⟨p, q, r, hl, h1, h2, h3⟩ := list_three hm
    have e1 := h.ev p
    have e2 := h.ev q
    have e3 := h.ev r
    rw [h1] at e1
    rw [h2] at e2
    rw [h3] at e3
    have ha : c.args.toList.map a.eval = [.int k x, .int k y, .int k z] := by rw [hl]; simp [e1.int, e2.int, e3.int]
    refine Gives.val (x := .int k (if z < (if y < x then y else x) then z else (if y < x then y else x))) ?_ (After.val h (okDst_lt hd) (VR_int (A := A) (w := w) (ρ := ρ)).sr rfl rfl rfl)
    rw [he]
    simp [builtin, Builtin.min_, ha, Builtin.min2]
  · cases hv
/-! ### Cells filled in -/
theorem foldl_write (off : Nat) : ∀ (vs : List Value) (i : Nat) (cs : Array Value), off + i + vs.length ≤ cs.size →
    (((vs.zipIdx i).foldl (fun (cs : Array Value) (x : Value × Nat) => cs.setIfInBounds (off + x.2) x.1) cs).size = cs.size ∧
      (∀ j, j < vs.length → ((vs.zipIdx i).foldl (fun (cs : Array Value) (x : Value × Nat) => cs.setIfInBounds (off + x.2) x.1) cs)[off + i + j]? = vs[j]?) ∧
      (∀ j, j < off + i ∨ off + i + vs.length ≤ j → ((vs.zipIdx i).foldl (fun (cs : Array Value) (x : Value × Nat) => cs.setIfInBounds (off + x.2) x.1) cs)[j]? = cs[j]?))
  | [], i, cs, _ => by simp
  | v :: vs, i, cs, h => by
    simp only [List.length_cons] at h
    obtain ⟨h1, h2, h3⟩ := foldl_write off vs (i + 1) (cs.setIfInBounds (off + i) v) (by simp; omega)
    simp only [List.zipIdx_cons, List.foldl_cons]
    refine ⟨by rw [h1]; simp, fun j hj => ?_, fun j hj => ?_⟩
    · cases j with
      | zero =>
        rw [h3 _ (.inl (by omega)), Nat.add_zero, Array.getElem?_setIfInBounds_self_of_lt (by omega)]
        rfl
      | succ j =>
        have := h2 j (by simpa using hj)
        rw [show off + i + (j + 1) = off + (i + 1) + j by omega, this]
        simp
    · simp only [List.length_cons] at hj
      rw [h3 j (by omega), Array.getElem?_setIfInBounds_ne (by omega)]
theorem fill_cons {place : Nat → Option (Nat × Nat)} {cells : Array Value} {i off size : Nat} {v : Value} {rest : List (Nat × Value)} (hp : place i = some (off, size)) (hs : v.cells.size = size) (hl : off + size ≤ cells.size) :
    ∃ cs', Instr.fill place cells ((i, v) :: rest) = Instr.fill place cs' rest ∧ cs'.size = cells.size ∧ (∀ j, j < size → cs'[off + j]? = v.cells[j]?) ∧ (∀ j, j < off ∨ off + size ≤ j → cs'[j]? = cells[j]?) := by
  obtain ⟨h1, h2, h3⟩ := foldl_write off v.cells.toList 0 cells (by simp; omega)
  refine ⟨_, ?_, h1, fun j hj => ?_, fun j hj => ?_⟩
  · simp only [Instr.fill, hp]
    rw [if_neg (by simp only [hs]; simp; omega)]
    congr 1
    rw [← Array.foldl_toList, Array.toList_zipIdx]
  · have := h2 j (by simp; omega)
    simpa using this
  · have := h3 j (by simp; omega)
    simpa using this
theorem toArray_at (L : List Value) (j : Nat) : L.toArray[j]? = L[j]? := by simp
theorem ext_ints {k : IntKind} {l : List Int} {i : Nat} {n : Int} {cs : Array Value} (hi : i < l.length) (h1 : ∀ j, j < 1 → cs[i + j]? = (#[Value.int k n] : Array Value)[j]?)
    (h2 : ∀ j, j < i ∨ i + 1 ≤ j → cs[j]? = (l.map (Value.int k)).toArray[j]?) : cs = ((l.set i n).map (Value.int k)).toArray := by
  apply Array.ext_getElem?
  intro j
  have h2 : ∀ j, j < i ∨ i + 1 ≤ j → cs[j]? = (l.map (Value.int k))[j]? := fun j hj => (h2 j hj).trans (toArray_at _ j)
  refine Eq.trans ?_ (toArray_at _ j).symm
  rw [List.getElem?_map, List.getElem?_set]
  by_cases hj : i = j
  · subst hj
    have := h1 0 (by omega)
    simp only [Nat.add_zero] at this
    rw [this]
    simp [hi]
  · rw [if_neg hj, h2 j (by omega), List.getElem?_map]
/-- The parts of whole numbers. -/
theorem fill_ints (h : SimR W0 Wr E.nt A ρ s a w) {k : IntKind} {place : Nat → Option (Nat × Nat)} : ∀ (ps : List (Nat × Operand)) (l l' : List Int), (∀ i, i < l.length → place i = some (i, 1)) → buildInts s.t k l ps = some l' →
    l'.length = l.length ∧ Instr.fill place (l.map (Value.int k)).toArray (ps.map fun x => (x.1, a.eval x.2)) = some (l'.map (Value.int k)).toArray
  | [], l, l', _, hb => by
    simp only [buildInts, Option.some.injEq] at hb
    subst hb
    exact ⟨rfl, rfl⟩
  | (i, x) :: ps, l, l', hp, hb => by
    simp only [buildInts] at hb
    split at hb
    case h_2 => cases hb
    rename_i k' n hv
    obtain ⟨hc, hb⟩ := cond_some hb
    simp only [Bool.and_eq_true, decide_eq_true_eq] at hc
    obtain ⟨hk, hi⟩ := hc
    have hi := nat_blt hi
    have hx := h.ev x
    rw [hv, ← hk] at hx
    obtain ⟨cs', h1, _, h3, h4⟩ := fill_cons (place := place) (cells := (l.map (Value.int k)).toArray) (v := a.eval x) (rest := ps.map fun x => (x.1, a.eval x.2)) (hp i hi) (by rw [hx.int]; rfl) (by simp; omega)
    have he : cs' = ((l.set i n).map (Value.int k)).toArray := ext_ints hi (by rw [hx.int] at h3; exact h3) h4
    obtain ⟨g1, g2⟩ := fill_ints h ps (l.set i n) l' (fun j hj => hp j (by simpa using hj)) hb
    refine ⟨by simpa using g1, ?_⟩
    simp only [List.map_cons]
    rw [h1, he]
    exact g2
theorem ext_prs {k : IntKind} {l : List (Int × Int)} {i : Nat} {x y : Int} {cs : Array Value} (hi : i < l.length) (h1 : ∀ j, j < 2 → cs[i * 2 + j]? = (#[Value.int k x, Value.int k y] : Array Value)[j]?)
    (h2 : ∀ j, j < i * 2 ∨ i * 2 + 2 ≤ j → cs[j]? = (l.flatMap fun p => [Value.int k p.1, Value.int k p.2]).toArray[j]?) : cs = ((l.set i (x, y)).flatMap fun p => [Value.int k p.1, Value.int k p.2]).toArray := by
  apply Array.ext_getElem?
  intro j
  have hlen := flatMap_len (k := k) l
  have h2 : ∀ j, j < i * 2 ∨ i * 2 + 2 ≤ j → cs[j]? = (l.flatMap fun p => [Value.int k p.1, Value.int k p.2])[j]? := fun j hj => (h2 j hj).trans (toArray_at _ j)
  refine Eq.trans ?_ (toArray_at _ j).symm
  rw [flatMap_set l x y i hi]
  rcases Nat.lt_or_ge j (i * 2) with hj | hj
  · rw [h2 j (.inl hj), List.getElem?_set_ne (by omega), List.getElem?_set_ne (by omega)]
  · rcases Nat.lt_or_ge j (i * 2 + 2) with hj' | hj'
    · rcases (by omega : j = i * 2 + 0 ∨ j = i * 2 + 1) with rfl | rfl
      · rw [h1 0 (by omega), List.getElem?_set_ne (by omega), show i * 2 + 0 = 2 * i by omega, List.getElem?_set_self (by omega)]
        rfl
      · rw [h1 1 (by omega), show i * 2 + 1 = 2 * i + 1 by omega, List.getElem?_set_self (by rw [List.length_set, hlen]; omega)]
        rfl
    · rw [h2 j (.inr hj'), List.getElem?_set_ne (by omega), List.getElem?_set_ne (by omega)]
/-- The parts of pairs. -/
theorem fill_prs (h : SimR W0 Wr E.nt A ρ s a w) {k : IntKind} {place : Nat → Option (Nat × Nat)} : ∀ (ps : List (Nat × Operand)) (l l' : List (Int × Int)), (∀ i, i < l.length → place i = some (i * 2, 2)) → buildPrs s.t k l ps = some l' →
    l'.length = l.length ∧ Instr.fill place (l.flatMap fun p => [Value.int k p.1, Value.int k p.2]).toArray (ps.map fun x => (x.1, a.eval x.2)) = some (l'.flatMap fun p => [Value.int k p.1, Value.int k p.2]).toArray
  | [], l, l', _, hb => by
    simp only [buildPrs, Option.some.injEq] at hb
    subst hb
    exact ⟨rfl, rfl⟩
  | (i, x) :: ps, l, l', hp, hb => by
    simp only [buildPrs] at hb
    split at hb
    case h_2 => cases hb
    rename_i k1 u k2 v hv
    obtain ⟨hc, hb⟩ := cond_some hb
    simp only [Bool.and_eq_true, decide_eq_true_eq] at hc
    obtain ⟨⟨hk1, hk2⟩, hi⟩ := hc
    have hi := nat_blt hi
    have hx := h.ev x
    rw [hv, ← hk1, ← hk2] at hx
    simp only [SR, VR, CRs] at hx
    obtain ⟨_, ⟨_, _, rfl, ⟨_, _, rfl, rfl, rfl⟩, rfl⟩, hx⟩ := hx
    have hx' : a.eval x = .agg #[.int k u, .int k v] := hx
    have hlen := flatMap_len (k := k) l
    obtain ⟨cs', h1, _, h3, h4⟩ := fill_cons (place := place) (cells := (l.flatMap fun p => [Value.int k p.1, Value.int k p.2]).toArray) (v := a.eval x) (rest := ps.map fun x => (x.1, a.eval x.2)) (hp i hi) (by rw [hx']; rfl)
      (by rw [List.size_toArray]; omega)
    have he : cs' = ((l.set i (u, v)).flatMap fun p => [Value.int k p.1, Value.int k p.2]).toArray := ext_prs hi (by rw [hx'] at h3; exact h3) h4
    obtain ⟨g1, g2⟩ := fill_prs h ps (l.set i (u, v)) l' (fun j hj => hp j (by simpa using hj)) hb
    refine ⟨by simpa using g1, ?_⟩
    simp only [List.map_cons]
    rw [h1, he]
    exact g2
end
end Go.Proofs.YtbakldcbaikgpaaGreatDoor
/- Each operation of the evaluator is one of the machine (sixth part): structs, lists made and grown. Own work, program-independent. -/
namespace Go.Proofs.YtbakldcbaikgpaaGreatDoor
open Go.RowKit (Below)
section
variable {P : Program} {E : Env} {W0 : World} {Wr : Wk} {A A' : Nat → Prop} {ρ ρ' : Rho} {s : AS} {a : Act} {w w' : World} {o : Oper} {f : Eff}
theorem szs_take_set (p : AV) : ∀ (zs : List AV) (i j : Nat) (z : AV), zs[i]? = some z → p.sz = z.sz → AV.szs ((zs.set i p).take j) = AV.szs (zs.take j)
  | [], _, _, _, h, _ => by simp at h
  | q :: zs, 0, j, z, h, hs => by
    simp only [List.getElem?_cons_zero, Option.some.injEq] at h
    subst h
    cases j with
    | zero => rfl
    | succ j => simp only [List.set_cons_zero, List.take_succ_cons, AV.szs, hs]
  | q :: zs, i + 1, j, z, h, hs => by
    cases j with
    | zero => rfl
    | succ j =>
      simp only [List.set_cons_succ, List.take_succ_cons, AV.szs]
      rw [szs_take_set p zs i j z (by simpa using h) hs]
theorem CRs.set {p : AV} {v : Value} (hv : VR A w ρ p v) : ∀ (zs : List AV) (i : Nat) (z : AV) (cs : List Value), CRs A w ρ zs cs → zs[i]? = some z → p.sz = z.sz →
    ∃ pre mid post, cs = pre ++ mid ++ post ∧ pre.length = AV.szs (zs.take i) ∧ mid.length = v.cells.toList.length ∧ CRs A w ρ (zs.set i p) (pre ++ v.cells.toList ++ post)
  | [], _, _, _, _, h, _ => by simp at h
  | q :: zs, 0, z, cs, hc, h, hs => by
    simp only [List.getElem?_cons_zero, Option.some.injEq] at h
    subst h
    simp only [CRs] at hc
    obtain ⟨u, cs', h1, h2, rfl⟩ := hc
    refine ⟨[], u.cells.toList, cs', by simp, rfl, ?_, ?_⟩
    · simp only [Array.length_toList, VR.size _ _ h1, VR.size _ _ hv, hs]
    · simp only [List.set_cons_zero, CRs, List.nil_append]
      exact ⟨v, cs', hv, h2, rfl⟩
  | q :: zs, i + 1, z, cs, hc, h, hs => by
    simp only [CRs] at hc
    obtain ⟨u, cs', h1, h2, rfl⟩ := hc
    obtain ⟨pre, mid, post, g1, g2, g3, g4⟩ := CRs.set hv zs i z cs' h2 (by simpa using h) hs
    refine ⟨u.cells.toList ++ pre, mid, post, by rw [g1]; simp, ?_, g3, ?_⟩
    · simp only [List.length_append, Array.length_toList, VR.size _ _ h1, g2, List.take_succ_cons, AV.szs]
    · simp only [List.set_cons_succ, CRs]
      exact ⟨u, _, h1, g4, by simp⟩
theorem written {cs : List Value} {cs' : Array Value} {pre mid post ys : List Value} {o : Nat} (h1 : cs = pre ++ mid ++ post) (h2 : pre.length = o) (h3 : mid.length = ys.length) (h4 : ∀ j, j < ys.length → cs'[o + j]? = ys[j]?) (h5 : ∀ j, j < o ∨ o + ys.length ≤ j → cs'[j]? = cs[j]?) : cs' = (pre ++ ys ++ post).toArray := by
  obtain ⟨g1, g2, g3, g4⟩ := writes_eq (cs' := pre ++ ys ++ post) h1 h2 h3 rfl
  apply Array.ext_getElem?
  intro j
  refine Eq.trans ?_ (toArray_at _ j).symm
  rcases Nat.lt_or_ge j o with hj | hj
  · rw [h5 j (.inl hj), g4 j (.inl hj)]
  · rcases Nat.lt_or_ge j (o + ys.length) with hj' | hj'
    · obtain ⟨q, rfl⟩ : ∃ q, j = o + q := ⟨j - o, by omega⟩
      rw [h4 q (by omega), g3 q (by omega)]
    · rw [h5 j (.inr hj'), g4 j (.inr hj')]
theorem fill_st (h : SimR W0 Wr E.nt A ρ s a w) {place : Nat → Option (Nat × Nat)} : ∀ (ps : List (Nat × Operand)) (zs vs : List AV) (cs : List Value), (∀ i z, zs[i]? = some z → place i = some (AV.szs (zs.take i), z.sz)) →
    CRs A w ρ zs cs → buildSt s.t zs ps = some vs → ∃ cs', CRs A w ρ vs cs' ∧ Instr.fill place cs.toArray (ps.map fun x => (x.1, a.eval x.2)) = some cs'.toArray
  | [], zs, vs, cs, _, hc, hb => by
    simp only [buildSt, Option.some.injEq] at hb
    subst hb
    exact ⟨cs, hc, rfl⟩
  | (i, x) :: ps, zs, vs, cs, hp, hc, hb => by
    simp only [buildSt] at hb
    split at hb
    case h_2 => cases hb
    rename_i z hz
    obtain ⟨hb1, hb⟩ := cond_some hb
    simp only [Bool.and_eq_true] at hb1
    obtain ⟨hl, hsz⟩ := hb1
    have hsz := nat_beq hsz
    have hx := (h.ev x).vr hl
    obtain ⟨pre, mid, post, g1, g2, g3, g4⟩ := CRs.set hx zs i z cs hc hz hsz
    have hxs := VR.size _ _ hx
    have g3' : mid.length = (a.eval x).cells.size := g3.trans Array.length_toList
    obtain ⟨cs', h1, _, h3, h4⟩ := fill_cons (place := place) (cells := cs.toArray) (v := a.eval x) (rest := ps.map fun x => (x.1, a.eval x.2)) (hp i z hz) (by rw [hxs, hsz]) (by
      rw [List.size_toArray, g1]
      simp only [List.length_append]
      omega)
    have he : cs' = (pre ++ (a.eval x).cells.toList ++ post).toArray := written g1 g2 g3 (fun j hj => by
      rw [Array.length_toList] at hj
      rw [h3 j (by omega), Array.getElem?_toList]) (fun j hj => by
      rw [Array.length_toList] at hj
      exact (h4 j (by omega)).trans (toArray_at _ j))
    obtain ⟨cs2, k1, k2⟩ := fill_st h (place := place) ps (zs.set i (ev s.t x)) vs _ (fun j q hq => by
      rw [szs_take_set _ zs i j z hz hsz]
      by_cases hj : i = j
      · subst hj
        rw [List.getElem?_set_self (List.getElem?_eq_some_iff.1 hz).1] at hq
        simp only [Option.some.injEq] at hq
        rw [hp i z hz, ← hq, hsz]
      · rw [List.getElem?_set_ne hj] at hq
        exact hp j q hq) g4 hb
    refine ⟨cs2, k1, ?_⟩
    simp only [List.map_cons]
    rw [h1, he]
    exact k2
theorem lay_at : ∀ (fs : List (TypeId × Nat)) (zs : List AV) (off i : Nat) (z : AV), Lay P off fs zs → zs[i]? = some z → ∃ fd, fs[i]? = some fd ∧ fd.2 = off + AV.szs (zs.take i) ∧ ∃ i', P.info? fd.1 = some i' ∧ i'.size = z.sz
  | [], [], _, _, _, _, h => by simp at h
  | [], _ :: _, _, _, _, h, _ => h.elim
  | _ :: _, [], _, _, _, h, _ => h.elim
  | fd :: fs, q :: zs, off, 0, z, h, hz => by
    simp only [List.getElem?_cons_zero, Option.some.injEq] at hz
    subst hz
    exact ⟨fd, rfl, by simp [h.1, AV.szs], h.2.1⟩
  | fd :: fs, q :: zs, off, i + 1, z, h, hz => by
    obtain ⟨gd, h1, h2, h3⟩ := lay_at fs zs (off + q.sz) i z h.2.2 (by simpa using hz)
    exact ⟨gd, by simpa using h1, by rw [h2]; simp [AV.szs, Nat.add_assoc], h3⟩
theorem lay_all : ∀ (fs : List (TypeId × Nat)) (zs : List AV) (off : Nat), Lay P off fs zs → ∀ fd ∈ fs, ∃ i, P.info? fd.1 = some i
  | [], _, _, _, fd, hf => by simp at hf
  | _ :: _, [], _, h, _, _ => h.elim
  | gd :: fs, q :: zs, off, h, fd, hf => by
    simp only [List.mem_cons] at hf
    rcases hf with rfl | hf
    · obtain ⟨i, hi, _⟩ := h.2.1; exact ⟨i, hi⟩
    · exact lay_all fs zs _ h.2.2 fd hf
theorem run_places : ∀ (fs : List Field), (∀ fd ∈ fs, ∃ i, P.info? fd.type = some i) →
    (fs.mapM (fun fd => do pure (fd.offset, ← sizeOf fd.type) : Field → Sem (Nat × Nat))).run P w = .ok (fs.map fun fd => (fd.offset, P.cellsOf fd.type)) w
  | [], _ => by simp
  | fd :: fs, h => by
    obtain ⟨i, hi⟩ := h fd (by simp)
    have ih := run_places fs (fun g hg => h g (by simp [hg]))
    simp only [List.mapM_cons, Sem.run_bind, run_sizeOf w hi, Result.andThen_ok, Sem.run_pure, ih, List.map_cons]
theorem sound_build (hT : TabOk P E.ty) {t : TypeId} {ps : Array (Nat × Operand)} (ho : o.op = .build t ps) (h : SimR W0 Wr E.nt A ρ s a w) (hd : okDst E o.dst = true) (hf : opA E s o.dst o.op some = some f) :
    Gives P o a w (After W0 Wr E.nt s a o.dst f) := by
  rw [ho] at hf
  simp only [opA] at hf
  have hparts : ((ps.map fun x => (x.1, a.eval x.2)).toList : List (Nat × Value)) = ps.toList.map fun x => (x.1, a.eval x.2) := by rw [Array.toList_map]
  have hexec : ∀ {v : Value}, (Instr.build t (ps.map fun x => (x.1, a.eval x.2))).run P w = .ok v w → (execOp a.eval o).run P w = .ok (.value v) w := by
    intro v hv
    unfold execOp
    rw [ho]
    simp only [Sem.run_bind]
    rw [show (ps.map fun x : Nat × Operand => match x with | (i, x) => (i, a.eval x)) = ps.map fun x => (x.1, a.eval x.2) from rfl, hv]
    simp
  split at hf
  · rename_i fs sz by' zs cm hte
    split at hf
    case h_2 => cases hf
    rename_i vs hvs
    simp only [Option.some.injEq] at hf
    subst hf
    have ht := hT _ _ hte
    have hu := ht.und
    simp only [UndOk] at hu
    obtain ⟨fa, hu, hmap⟩ := hu
    have hlay := ht.lay fs zs rfl rfl
    obtain ⟨z, hz, hzv⟩ := ht.rZero w
    have hzv := hzv A w ρ
    simp only [VR] at hzv
    obtain ⟨cs, hcs, rfl⟩ := hzv
    obtain ⟨cs', k1, k2⟩ := fill_st h (place := fun i => (fa.toList.map fun fd => (fd.offset, P.cellsOf fd.type)).toArray[i]?) ps.toList zs vs cs (fun i z hz => by
      obtain ⟨fd, h1, h2, i', h3, h4⟩ := lay_at fs zs 0 i z hlay hz
      rw [← hmap, List.getElem?_map] at h1
      simp only [Option.map_eq_some_iff] at h1
      obtain ⟨gd, h5, rfl⟩ := h1
      have : ((fa.toList.map fun fd => (fd.offset, P.cellsOf fd.type)).toArray)[i]? = some (gd.offset, P.cellsOf gd.type) := by
        rw [List.getElem?_toArray, List.getElem?_map, h5]; rfl
      simp only at h2 h3
      rw [this, h2, Nat.zero_add]
      simp [Program.cellsOf, h3, h4]) hcs hvs
    refine Gives.val (hexec (v := .agg cs'.toArray) ?_) (After.val h (okDst_lt hd) (v := .st vs) (x := .agg cs'.toArray) (by simp only [SR, VR]; exact ⟨cs', k1, rfl⟩) rfl rfl rfl)
    unfold Instr.build
    simp only [Sem.run_bind, hz, run_underlying hu, Result.andThen_ok]
    rw [Array.mapM_eq_mapM_toList]
    have hpl := run_places (P := P) (w := w) fa.toList (fun fd hfd => lay_all fs zs 0 hlay (fd.type, fd.offset) (by rw [← hmap]; exact List.mem_map.2 ⟨fd, hfd, rfl⟩))
    have hm : (List.toArray <$> (fa.toList.mapM (fun fd => do pure (fd.offset, ← Go.sizeOf fd.type) : Field → Sem (Nat × Nat)))).run P w = .ok (fa.toList.map fun fd => (fd.offset, P.cellsOf fd.type)).toArray w := by
      rw [map_eq_pure_bind]
      simp only [Sem.run_bind, hpl, Result.andThen_ok, Sem.run_pure]
    rw [hm]
    simp only [Result.andThen_ok, hparts]
    have k2' : Instr.fill (fun i => ((fa.toList.map fun fd => (fd.offset, P.cellsOf fd.type)).toArray)[i]?) (Value.agg cs.toArray).cells (ps.toList.map fun x => (x.1, a.eval x.2)) = some cs'.toArray := k2
    rw [k2']
    rfl
  · rename_i n e sz by' n' k l cm hte
    split at hf
    case h_2 => cases hf
    rename_i te l' hte2 hl'
    obtain ⟨h1, hf⟩ := cond_some hf
    have h1 := nat_beq h1
    simp only [Option.some.injEq] at hf
    subst hf
    have ht := hT _ _ hte
    have hu := ht.und
    simp only [UndOk] at hu
    obtain ⟨z, hz, hzv⟩ := ht.rZero w
    have hzv := hzv A w ρ
    simp only [VR] at hzv
    obtain ⟨hln, rfl⟩ := hzv
    obtain ⟨g1, g2⟩ := fill_ints h (k := k) (place := fun i => some (i * te.size, te.size)) ps.toList l l' (fun i _ => by rw [h1, Nat.mul_one]) hl'
    refine Gives.val (hexec (v := .agg (l'.map (Value.int k)).toArray) ?_) (After.val h (okDst_lt hd) (VR_ints (A := A) (w := w) (ρ := ρ) (g1.trans hln)).sr rfl rfl rfl)
    unfold Instr.build
    simp only [Sem.run_bind, hz, run_underlying hu, Result.andThen_ok, (hT _ _ hte2).rSize, hparts]
    have g2' : Instr.fill (fun i => some (i * te.size, te.size)) (Value.agg (l.map (Value.int k)).toArray).cells (ps.toList.map fun x => (x.1, a.eval x.2)) = some (l'.map (Value.int k)).toArray := g2
    rw [g2']
    rfl
  · cases hf
end
end Go.Proofs.YtbakldcbaikgpaaGreatDoor
/- Each operation of the evaluator is one of the machine (seventh part): lists made, cut and grown. Own work, program-independent. -/
namespace Go.Proofs.YtbakldcbaikgpaaGreatDoor
open Go.RowKit (Below)
section
variable {P : Program} {E : Env} {W0 : World} {Wr : Wk} {A A' : Nat → Prop} {ρ ρ' : Rho} {s : AS} {a : Act} {w w' : World} {o : Oper} {f : Eff}
theorem SR_wsl {id b n cap m : Nat} (h : ρ id = some (some b, (n, m))) (hc : n ≤ cap) (hm : cap ≤ m) : SR A w ρ (.wsl id) (.slice (some ⟨b, 0, none⟩) n cap) := by
  simp only [SR, VR]
  exact ⟨some b, (n, m), h, .inr ⟨b, cap, rfl, rfl, hc, hm⟩⟩
theorem one_cell (v : Value) (j : Nat) (h : j < 1) : (#[v] : Array Value)[j]? = some v := by
  match j, h with
  | 0, _ => rfl
theorem two_cells (v : Value) (j : Nat) (h : j < 2) : (#[v, v] : Array Value)[j]? = some v := by
  match j, h with
  | 0, _ => rfl
  | 1, _ => rfl
theorem range_cells (z : Array Value) (v : Value) (m n : Nat) (hz : z.size = m) (hm : 0 < m) (hv : ∀ (j : Nat), j < m → z[j]? = some v) : (Array.range n).map (fun i => z[i % z.size]!) = (List.replicate n v).toArray := by
  apply Array.ext_getElem?
  intro j
  refine Eq.trans ?_ (toArray_at _ j).symm
  rw [Array.getElem?_map]
  rcases Nat.lt_or_ge j n with hj | hj
  · have : (Array.range n)[j]? = some j := by simp [hj]
    rw [this, List.getElem?_replicate, if_pos hj]
    have h1 := hv (j % z.size) (by rw [hz]; exact Nat.mod_lt _ hm)
    simp only [Option.map_some]
    congr 1
    rw [getElem!_def, h1]
  · have : (Array.range n)[j]? = none := by simp [hj]
    rw [this, List.getElem?_replicate, if_neg (by omega)]
    rfl
theorem replicate_prs (k : IntKind) : ∀ n : Nat, (List.replicate n ((0 : Int), (0 : Int))).flatMap (fun p => [Value.int k p.1, Value.int k p.2]) = List.replicate (n * 2) (.int k 0)
  | 0 => rfl
  | n + 1 => by
    simp only [List.replicate_succ, List.flatMap_cons, replicate_prs k n, show (n + 1) * 2 = n * 2 + 1 + 1 by omega, List.cons_append, List.nil_append]
/-- The noughts of an element. -/
theorem zero_int {t : TypeId} {te : TE} {k : IntKind} (ht : TEok P t te) (hz : te.zero = .int k 0) (w : World) : ∃ z : Value, (zeroValue t).run P w = .ok z w ∧ z.cells = #[.int k 0] ∧ te.size = 1 := by
  obtain ⟨z, h1, h2⟩ := ht.rZero w
  have h3 := h2 (fun _ => False) w (fun _ => none)
  rw [hz] at h3
  simp only [VR] at h3
  subst h3
  refine ⟨_, h1, rfl, ht.one ?_⟩
  rw [ht.agg, hz]; rfl
theorem zero_pair {t : TypeId} {te : TE} {k : IntKind} (ht : TEok P t te) (hz : te.zero = .st [.int k 0, .int k 0]) (w : World) : ∃ z : Value, (zeroValue t).run P w = .ok z w ∧ z.cells = #[.int k 0, .int k 0] ∧ te.size = 2 := by
  obtain ⟨i, z, h0, h1, h2, h3, h4⟩ := ht.info
  obtain ⟨z', g1, g2⟩ := ht.rZero w
  have h5 := g2 (fun _ => False) w (fun _ => none)
  rw [hz] at h5
  simp only [VR, CRs] at h5
  obtain ⟨_, ⟨_, _, rfl, ⟨_, _, rfl, rfl, rfl⟩, rfl⟩, rfl⟩ := h5
  refine ⟨_, g1, rfl, ?_⟩
  have h6 := ht.zsz
  rw [hz] at h6
  exact h6
theorem sound_buildSlice (hT : TabOk P E.ty) (hE : E.nt ≤ 1000) {t : TypeId} {len : Nat} {ps : Array (Nat × Operand)} (ho : o.op = .buildSlice t len ps) (h : SimR W0 Wr E.nt A ρ s a w) (hd : okDst E o.dst = true)
    (hf : opA E s o.dst o.op some = some f) : Gives P o a w (After W0 Wr E.nt s a o.dst f) := by
  rw [ho] at hf
  simp only [opA] at hf
  have hparts : ((ps.map fun x => (x.1, a.eval x.2)).toList : List (Nat × Value)) = ps.toList.map fun x => (x.1, a.eval x.2) := by rw [Array.toList_map]
  have hexec : ∀ {v : Value} {w' : World}, (Instr.buildSlice t len (ps.map fun x => (x.1, a.eval x.2))).run P w = .ok v w' → (execOp a.eval o).run P w = .ok (.value v) w' := by
    intro v w' hv
    unfold execOp
    rw [ho]
    simp only [Sem.run_bind]
    rw [show (ps.map fun x : Nat × Operand => match x with | (i, x) => (i, a.eval x)) = ps.map fun x => (x.1, a.eval x.2) from rfl, hv]
    simp
  split at hf
  case h_2 => cases hf
  rename_i e _ _ _ _ hte
  have hu := (hT _ _ hte).und
  simp only [UndOk] at hu
  split at hf
  · rename_i k _ _ k' _ hte2
    have hf2 := cond_some hf; clear hf; obtain ⟨hc, hf⟩ := hf2
    simp only [Bool.and_eq_true, decide_eq_true_eq] at hc
    obtain ⟨rfl, hlen⟩ := hc
    have hlen := Nat.le_of_ble_eq_true hlen
    split at hf
    case h_2 => cases hf
    rename_i l hl
    split at hf
    case h_2 => cases hf
    rename_i f' hn
    simp only [Option.some.injEq] at hf
    subst hf
    obtain ⟨d, hdst, rfl⟩ := newE_some hn
    have hdn := okDst_lt hd d hdst
    have he := hT _ _ hte2
    obtain ⟨z, hz, hzc, hsz⟩ := zero_int he rfl w
    dsimp only at hsz
    subst hsz
    obtain ⟨g1, g2⟩ := fill_ints h (k := k) (place := fun i => some (i * 1, 1)) ps.toList (List.replicate len 0) l (fun i _ => by rw [Nat.mul_one]) hl
    rw [List.length_replicate] at g1
    rw [hdst]
    refine Gives.val (hexec (v := .slice (some ⟨w.heap.size, 0, none⟩) len len) (w' := pushed w (l.map (Value.int k)).toArray e) ?_) ?_
    · unfold Instr.buildSlice
      have hz0 : (List.replicate len (0 : Int)).map (Value.int k) = List.replicate len (.int k 0) := by simp
      have hcells : ∀ zz : Array Value, (len * 1 = 0 → zz = #[]) → (len * 1 ≠ 0 → zz = #[.int k 0]) → (Array.range (len * 1)).map (fun i => zz[i % zz.size]!) = ((List.replicate len (0 : Int)).map (Value.int k)).toArray := by
        intro zz h0 h1
        rw [hz0, Nat.mul_one]
        by_cases hl0 : len = 0
        · subst hl0; simp
        · rw [h1 (by omega)]
          exact range_cells _ _ 1 len rfl (by omega) (one_cell _)
      simp only [Sem.run_bind, run_underlying hu, Result.andThen_ok, he.rSize]
      rw [if_neg (by omega)]
      by_cases hl0 : len * 1 = 0
      · rw [if_pos hl0]
        simp only [Sem.run_bind, Sem.run_pure, Result.andThen_ok, hparts]
        rw [hcells #[] (fun _ => rfl) (fun hh => absurd hl0 hh), g2]
        rfl
      · rw [if_neg hl0]
        simp only [Sem.run_bind, Sem.run_pure, Result.andThen_ok, hparts, hz]
        rw [hcells z.cells (fun hh => absurd hh hl0) (fun _ => hzc), g2]
        rfl
    · exact After.new (mk := .wsl) h hE hdn (pushed_more _ _) (h.alivePushed (pushed_more _ _)) (Nat.le_refl _) (pushed_at _ _) (VR_ints (A := A) (ρ := ρ) g1) (fun _ _ h => h) (m := len) (by simp [AV.esz, g1]) (fun ρ' hρ' => SR_wsl hρ' (Nat.le_refl _) (Nat.le_refl _))
  · rename_i fs _ _ k k' _ hte2
    have hf2 := cond_some hf; clear hf; obtain ⟨hc, hf⟩ := hf2
    simp only [Bool.and_eq_true, decide_eq_true_eq] at hc
    obtain ⟨rfl, hlen⟩ := hc
    have hlen := Nat.le_of_ble_eq_true hlen
    split at hf
    case h_2 => cases hf
    rename_i l hl
    split at hf
    case h_2 => cases hf
    rename_i f' hn
    simp only [Option.some.injEq] at hf
    subst hf
    obtain ⟨d, hdst, rfl⟩ := newE_some hn
    have hdn := okDst_lt hd d hdst
    have he := hT _ _ hte2
    obtain ⟨z, hz, hzc, hsz⟩ := zero_pair he rfl w
    dsimp only at hsz
    subst hsz
    obtain ⟨g1, g2⟩ := fill_prs h (k := k) (place := fun i => some (i * 2, 2)) ps.toList (List.replicate len (0, 0)) l (fun i _ => rfl) hl
    rw [List.length_replicate] at g1
    rw [hdst]
    refine Gives.val (hexec (v := .slice (some ⟨w.heap.size, 0, none⟩) len len) (w' := pushed w (l.flatMap fun p => [Value.int k p.1, Value.int k p.2]).toArray e) ?_) ?_
    · unfold Instr.buildSlice
      have hcells : ∀ zz : Array Value, (len * 2 = 0 → zz = #[]) → (len * 2 ≠ 0 → zz = #[.int k 0, .int k 0]) → (Array.range (len * 2)).map (fun i => zz[i % zz.size]!) = ((List.replicate len ((0 : Int), (0 : Int))).flatMap fun p => [Value.int k p.1, Value.int k p.2]).toArray := by
        intro zz h0 h1
        rw [replicate_prs]
        by_cases hl0 : len = 0
        · subst hl0; simp
        · rw [h1 (by omega)]
          exact range_cells _ _ 2 (len * 2) rfl (by omega) (two_cells _)
      simp only [Sem.run_bind, run_underlying hu, Result.andThen_ok, he.rSize]
      rw [if_neg (by omega)]
      by_cases hl0 : len * 2 = 0
      · rw [if_pos hl0]
        simp only [Sem.run_bind, Sem.run_pure, Result.andThen_ok, hparts]
        rw [hcells #[] (fun _ => rfl) (fun hh => absurd hl0 hh), g2]
        rfl
      · rw [if_neg hl0]
        simp only [Sem.run_bind, Sem.run_pure, Result.andThen_ok, hparts, hz]
        rw [hcells z.cells (fun hh => absurd hh hl0) (fun _ => hzc), g2]
        rfl
    · exact After.new (mk := .wsl) h hE hdn (pushed_more _ _) (h.alivePushed (pushed_more _ _)) (Nat.le_refl _) (pushed_at _ _) (VR_prs (A := A) (ρ := ρ) g1) (fun _ _ h => h) (m := len) (by have := flatMap_len (k := k) l; rw [List.size_toArray]; simp only [AV.esz]; omega) (fun ρ' hρ' => SR_wsl hρ' (Nat.le_refl _) (Nat.le_refl _))
  · cases hf
theorem wrap_id {n : Int} (h0 : 0 ≤ n) (h : n < 9223372036854775808) : IntKind.i64.wrap n = n := by
  unfold IntKind.wrap IntKind.bits IntKind.signed
  simp only [Bool.true_and, decide_eq_true_eq]
  split <;> omega
/-- What make does, where it has room. -/
theorem run_make {t e : TypeId} {te : TE} {n : Int} {k1 k2 : IntKind} {v : Value} {m : Nat} (hu : P.underlying t = some (.slice e)) (ht : TEok P e te) (h0 : 0 ≤ n) (h1 : (te.bytes : Int) * n ≤ 140737488355328) (h2 : n < 9223372036854775808)
    (hz : ∃ z : Value, (zeroValue e).run P w = .ok z w ∧ z.cells.size = m ∧ 0 < m ∧ (∀ (j : Nat), j < m → z.cells[j]? = some v)) (hs : te.size = m) :
    (Instr.makeSlice t (.int k1 n) (.int k2 n)).run P w = .ok (.slice (some ⟨w.heap.size, 0, none⟩) n.toNat n.toNat) (pushed w (List.replicate (n.toNat * m) v).toArray e) := by
  obtain ⟨z, hz, hzs, hm, hzv⟩ := hz
  obtain ⟨i, hi, hib, his, hpi⟩ := ht.rInfo w
  have hb : (i.bytes : Int) = te.bytes := by rw [hib]
  have hw := wrap_id h0 h2
  have hbn : (i.bytes : Int) * n ≤ 140737488355328 := by rw [hb]; exact h1
  have e1 : ¬ ((decide (n < 0) || decide ((i.bytes : Int) * n > 2 ^ 48) || decide (n < 0) || decide (n > n)) = true) := by
    simp only [Bool.or_eq_true, decide_eq_true_eq, not_or]
    refine ⟨⟨⟨by omega, ?_⟩, by omega⟩, by omega⟩
    have : (2 : Int) ^ 48 = 281474976710656 := by decide
    omega
  have e2 : n.toNat * i.bytes ≤ 2 ^ 47 := by
    have e3 : ((n.toNat * i.bytes : Nat) : Int) = (i.bytes : Int) * n := by
      rw [Int.natCast_mul, Int.toNat_of_nonneg h0, Int.mul_comm]
    have : (2 : Nat) ^ 47 = 140737488355328 := by decide
    omega
  have hroom : (askRoom (n.toNat * i.bytes)).run P w = .ok () w := by
    unfold askRoom
    rw [if_neg (by unfold roomBytes; omega)]
    rfl
  have hcells : ∀ zz : Array Value, (n.toNat * m = 0 → zz = #[]) → (n.toNat * m ≠ 0 → zz = z.cells) → (Array.range (n.toNat * m)).map (fun i => zz[i % zz.size]!) = (List.replicate (n.toNat * m) v).toArray := by
    intro zz g0 g1
    by_cases hn : n.toNat * m = 0
    · rw [hn]; simp
    · rw [g1 hn]
      exact range_cells _ _ m _ hzs hm hzv
  unfold Instr.makeSlice
  simp only [Sem.run_bind, run_underlying hu, Result.andThen_ok, asInt, asIntOf, Sem.run_pure, hi, hw]
  rw [if_neg (by simpa using e1)]
  simp only [Sem.run_bind, hroom, Result.andThen_ok, ht.rSize, hs]
  by_cases hn : n.toNat * m = 0
  · rw [if_pos hn]
    simp only [Sem.run_bind, Sem.run_pure, Result.andThen_ok]
    rw [hcells #[] (fun _ => rfl) (fun hh => absurd hn hh)]
    rfl
  · rw [if_neg hn]
    simp only [Sem.run_bind, Sem.run_pure, Result.andThen_ok, hz]
    rw [hcells z.cells (fun hh => absurd hh hn) (fun _ => rfl)]
    rfl
theorem sound_makeSlice (hT : TabOk P E.ty) (hE : E.nt ≤ 1000) {t : TypeId} {x y : Operand} (ho : o.op = .makeSlice t x y) (h : SimR W0 Wr E.nt A ρ s a w) (hd : okDst E o.dst = true)
    (hf : opA E s o.dst o.op some = some f) : Gives P o a w (After W0 Wr E.nt s a o.dst f) := by
  rw [ho] at hf
  simp only [opA] at hf
  split at hf
  case h_2 => cases hf
  rename_i e _ _ _ _ k1 n k2 n' hte hvx hvy
  have hx := h.ev x
  have hy := h.ev y
  rw [hvx] at hx
  rw [hvy] at hy
  have hx := hx.int
  have hy := hy.int
  have hu := (hT _ _ hte).und
  simp only [UndOk] at hu
  split at hf
  · rename_i k _ by' k' _ hte2
    have hf2 := chk_some hf; clear hf; obtain ⟨hc, hf⟩ := hf2
    simp only [Bool.and_eq_true, decide_eq_true_eq, beq_iff_eq] at hc
    obtain ⟨⟨⟨⟨rfl, rfl⟩, h0⟩, h1⟩, h2⟩ := hc
    split at hf
    case h_2 => cases hf
    rename_i f' hn
    simp only [Option.some.injEq] at hf
    subst hf
    obtain ⟨d, hdst, rfl⟩ := newE_some hn
    have hdn := okDst_lt hd d hdst
    have he := hT _ _ hte2
    obtain ⟨z, hz, hzc, hsz⟩ := zero_int he rfl w
    have hrun := run_make (k1 := k1) (k2 := k2) (v := .int k 0) (m := 1) hu he h0 h1 h2 ⟨z, hz, by rw [hzc]; rfl, by omega, fun j hj => by rw [hzc]; exact one_cell _ j hj⟩ hsz
    rw [hdst]
    refine Gives.val (x := .slice (some ⟨w.heap.size, 0, none⟩) n.toNat n.toNat) (w' := pushed w (List.replicate (n.toNat * 1) (.int k 0)).toArray e) ?_ ?_
    · unfold execOp
      rw [ho]
      simp only [Sem.run_bind, hx, hy, hrun, Result.andThen_ok, Sem.run_pure]
    · refine After.new (mk := .wsl) (u := .agg ((List.replicate n.toNat (0 : Int)).map (Value.int k)).toArray) h hE hdn (pushed_more _ _) (h.alivePushed (pushed_more _ _)) (Nat.le_refl _) (pushed_at _ _) (VR_ints (A := A) (ρ := ρ) (by simp)) ?_ (m := n.toNat) (by simp [AV.esz]) (fun ρ' hρ' => SR_wsl hρ' (Nat.le_refl _) (Nat.le_refl _))
      intro j q hq
      simpa [Value.cells] using hq
  · rename_i fs _ by' k k' _ hte2
    have hf2 := chk_some hf; clear hf; obtain ⟨hc, hf⟩ := hf2
    simp only [Bool.and_eq_true, decide_eq_true_eq, beq_iff_eq] at hc
    obtain ⟨⟨⟨⟨rfl, rfl⟩, h0⟩, h1⟩, h2⟩ := hc
    split at hf
    case h_2 => cases hf
    rename_i f' hn
    simp only [Option.some.injEq] at hf
    subst hf
    obtain ⟨d, hdst, rfl⟩ := newE_some hn
    have hdn := okDst_lt hd d hdst
    have he := hT _ _ hte2
    obtain ⟨z, hz, hzc, hsz⟩ := zero_pair he rfl w
    have hrun := run_make (k1 := k1) (k2 := k2) (v := .int k 0) (m := 2) hu he h0 h1 h2 ⟨z, hz, by rw [hzc]; rfl, by omega, fun j hj => by rw [hzc]; exact two_cells _ j hj⟩ hsz
    rw [hdst]
    refine Gives.val (x := .slice (some ⟨w.heap.size, 0, none⟩) n.toNat n.toNat) (w' := pushed w (List.replicate (n.toNat * 2) (.int k 0)).toArray e) ?_ ?_
    · unfold execOp
      rw [ho]
      simp only [Sem.run_bind, hx, hy, hrun, Result.andThen_ok, Sem.run_pure]
    · refine After.new (mk := .wsl) (u := .agg ((List.replicate n.toNat ((0 : Int), (0 : Int))).flatMap fun p => [Value.int k p.1, Value.int k p.2]).toArray) h hE hdn (pushed_more _ _) (h.alivePushed (pushed_more _ _)) (Nat.le_refl _) (pushed_at _ _) (VR_prs (A := A) (ρ := ρ) (by simp)) ?_ (m := n.toNat) (by simp [AV.esz]) (fun ρ' hρ' => SR_wsl hρ' (Nat.le_refl _) (Nat.le_refl _))
      intro j q hq
      rw [replicate_prs] at hq
      exact hq
  · cases hf
end
end Go.Proofs.YtbakldcbaikgpaaGreatDoor
/- Each operation of the evaluator is one of the machine (eighth part): lists cut and grown. Own work, program-independent. -/
namespace Go.Proofs.YtbakldcbaikgpaaGreatDoor
open Go.RowKit (Below)
section
variable {P : Program} {E : Env} {W0 : World} {Wr : Wk} {A A' : Nat → Prop} {ρ ρ' : Rho} {s : AS} {a : Act} {w w' : World} {o : Oper} {f : Eff}
theorem cells_ints (k : IntKind) (l : List Int) (j : Nat) : (Value.agg (l.map (Value.int k)).toArray).cells[j]? = (l.map (Value.int k))[j]? := toArray_at _ j
theorem cells_prs (k : IntKind) (l : List (Int × Int)) (j : Nat) : (Value.agg (l.flatMap fun p => [Value.int k p.1, Value.int k p.2]).toArray).cells[j]? = (l.flatMap fun p => [Value.int k p.1, Value.int k p.2])[j]? := toArray_at _ j
theorem flatMap_drop (k : IntKind) : ∀ (n : Nat) (l : List (Int × Int)), (l.drop n).flatMap (fun p => [Value.int k p.1, Value.int k p.2]) = (l.flatMap fun p => [Value.int k p.1, Value.int k p.2]).drop (2 * n)
  | 0, l => rfl
  | n + 1, [] => by simp
  | n + 1, p :: l => by
    simp only [List.drop_succ_cons, List.flatMap_cons, flatMap_drop k n l, show 2 * (n + 1) = 2 * n + 1 + 1 by omega, List.cons_append, List.nil_append]
theorem flatMap_take (k : IntKind) : ∀ (n : Nat) (l : List (Int × Int)), (l.take n).flatMap (fun p => [Value.int k p.1, Value.int k p.2]) = (l.flatMap fun p => [Value.int k p.1, Value.int k p.2]).take (2 * n)
  | 0, l => rfl
  | n + 1, [] => by simp
  | n + 1, p :: l => by
    simp only [List.take_succ_cons, List.flatMap_cons, flatMap_take k n l, show 2 * (n + 1) = 2 * n + 1 + 1 by omega, List.cons_append, List.nil_append]
theorem takeA_spec {l h : Nat} {c c' : AV} {u : Value} (ht : takeA l h c = some c') (hu : VR A w ρ c u) (h1 : l ≤ h) (h2 : h ≤ c.cnt) :
    ∃ u', VR A w ρ c' u' ∧ c'.cnt = h - l ∧ c'.plain = true ∧ ∀ (j : Nat) x, u'.cells[j]? = some x → u.cells[l * c.esz + j]? = some x := by
  cases c <;> simp only [takeA] at ht <;> try (cases ht; done)
  · rename_i n k xs
    simp only [Option.some.injEq] at ht
    subst ht
    simp only [VR] at hu
    obtain ⟨hl, rfl⟩ := hu
    simp only [AV.cnt] at h2
    refine ⟨_, VR_ints (by simp; omega), rfl, rfl, fun j x hj => ?_⟩
    rw [cells_ints] at hj
    rw [cells_ints]
    simp only [AV.esz, Nat.mul_one]
    rw [List.map_take, List.map_drop, List.getElem?_take] at hj
    split at hj
    · rw [List.getElem?_drop] at hj
      exact hj
    · cases hj
  · rename_i n k xs
    simp only [Option.some.injEq] at ht
    subst ht
    simp only [VR] at hu
    obtain ⟨hl, rfl⟩ := hu
    simp only [AV.cnt] at h2
    refine ⟨_, VR_prs (by simp; omega), rfl, rfl, fun j x hj => ?_⟩
    rw [cells_prs] at hj
    rw [cells_prs]
    simp only [AV.esz]
    rw [flatMap_take, flatMap_drop, List.getElem?_take] at hj
    split at hj
    · rw [List.getElem?_drop, Nat.mul_comm 2 l] at hj
      exact hj
    · cases hj
theorem boundA_rel (h : SimR W0 Wr E.nt A ρ s a w) {d n : Int} {x : Option Operand} (hb : boundA s.t d x = some n) : (x = none ∧ n = d) ∨ ∃ y k, x = some y ∧ a.eval y = .int k n := by
  cases x with
  | none => simp only [boundA, Option.some.injEq] at hb; exact .inl ⟨rfl, hb.symm⟩
  | some y =>
    simp only [boundA] at hb
    split at hb
    · rename_i k m hv
      simp only [Option.some.injEq] at hb
      subst hb
      have := h.ev y
      rw [hv] at this
      exact .inr ⟨y, k, rfl, this.int⟩
    · cases hb
theorem sliceBound_ok {k : IntKind} {n : Int} {y : Nat} {code : BoundsCode} (h0 : 0 ≤ n) (h1 : n ≤ y) : (Instr.sliceBound (.int k n) y code).run P w = .ok n.toNat w := by
  unfold Instr.sliceBound
  simp [asIntOf, h0, h1]
theorem sound_arrayPtr (hT : TabOk P E.ty) {t : TypeId} {x : Operand} (ho : o.op = .sliceToArrayPointer t x) (h : SimR W0 Wr E.nt A ρ s a w) (hd : okDst E o.dst = true) (hf : opA E s o.dst o.op some = some f) :
    Gives P o a w (After W0 Wr E.nt s a o.dst f) := by
  rw [ho] at hf
  simp only [opA] at hf
  split at hf
  case h_2 => cases hf
  rename_i n e _ _ _ _ id lo m e0 hte hv
  obtain ⟨hc, hf⟩ := chk_some hf
  simp only [Bool.and_eq_true] at hc
  have h1 := Nat.le_of_ble_eq_true hc.1
  have h2 := nat_blt hc.2
  simp only [val, Option.some.injEq] at hf
  subst hf
  have hu := (hT _ _ hte).und
  simp only [UndOk] at hu
  have hx := h.ev x
  rw [hv] at hx
  simp only [SR, VR] at hx
  obtain ⟨ob, N, g1, g2⟩ := hx
  rcases g2 with ⟨g2, _⟩ | ⟨b, cap, rfl, g3, g4, g5⟩
  · omega
  refine Gives.val (x := .pointer (some ⟨b, lo * e0, none⟩)) ?_ (After.val h (okDst_lt hd) (v := .ptr id lo e0 0) ?_ rfl rfl rfl)
  · unfold execOp
    rw [ho]
    simp only [Sem.run_bind, Instr.arrayAt, g3, run_underlying hu, Result.andThen_ok]
    rw [if_neg (by omega)]
    rfl
  · simp only [SR, VR]
    exact ⟨b, N, g1, by simp, .inr (by omega)⟩
theorem run_sliceAt (hT : TabOk P E.ty) {t e : TypeId} {te : TE} (hu : P.underlying t = some (.slice e)) (hte2 : lk E.ty e = some te) (h : SimR W0 Wr E.nt A ρ s a w) {lo hi mx : Option Operand} {cnt : Nat} {l hh : Int}
    (hlo : boundA s.t 0 lo = some l) (hhi : boundA s.t cnt hi = some hh) (h0 : 0 ≤ l) (h1 : l ≤ hh) (h2 : hh ≤ cnt) (hmx : mxA s.t hh cnt hi mx = true) (x : Operand) : ∀ ad cap, a.eval x = .slice ad cnt cap → cnt ≤ cap →
      ∃ M : Nat, hh.toNat ≤ M ∧ M ≤ cap ∧ (Instr.sliceAt t (a.eval x) (lo.map a.eval) (hi.map a.eval) (mx.map a.eval)).run P w = .ok (.slice (if M = l.toNat then ad else ad.map (·.add (l.toNat * te.size))) (hh.toNat - l.toNat) (M - l.toNat)) w := by
    intro ad cap hxe hcap
    have hb : ∃ M : Nat, hh.toNat ≤ M ∧ M ≤ cap ∧ (Instr.sliceBounds true cnt cap (lo.map a.eval) (hi.map a.eval) (mx.map a.eval)).run P w = .ok (l.toNat, hh.toNat, M) w := by
      cases mx with
      | none =>
        refine ⟨cap, by omega, Nat.le_refl _, ?_⟩
        unfold Instr.sliceBounds
        rcases boundA_rel h hlo with ⟨rfl, rfl⟩ | ⟨y1, k1, rfl, e1⟩ <;> rcases boundA_rel h hhi with ⟨rfl, rfl⟩ | ⟨y2, k2, rfl, e2⟩
        · simp
        · simp only [Option.map_some, Option.map_none, Sem.run_bind, Sem.run_pure, Result.andThen_ok, e2, sliceBound_ok (P := P) (w := w) (k := k2) (y := cap) (code := .sliceAcap) (n := hh) (by omega) (by omega), if_true]
          rfl
        · simp only [Option.map_some, Option.map_none, Sem.run_bind, Sem.run_pure, Result.andThen_ok, e1]
          rw [sliceBound_ok h0 h1]
          simp
        · simp only [Option.map_some, Option.map_none, Sem.run_bind, Sem.run_pure, Result.andThen_ok, e1, e2, sliceBound_ok (P := P) (w := w) (k := k2) (y := cap) (code := .sliceAcap) (n := hh) (by omega) (by omega), if_true]
          rw [sliceBound_ok h0 (by omega)]
          rfl
      | some y =>
        simp only [mxA] at hmx
        split at hmx
        case h_2 => cases hmx
        rename_i yh k m hm
        simp only [Bool.and_eq_true, decide_eq_true_eq] at hmx
        obtain ⟨m1, m2⟩ := hmx
        have em := h.ev y
        rw [hm] at em
        have em := em.int
        refine ⟨m.toNat, by omega, by omega, ?_⟩
        unfold Instr.sliceBounds
        have e2 : ∃ k2, a.eval yh = .int k2 hh := by
          rcases boundA_rel h hhi with ⟨e, _⟩ | ⟨y2, k2, e, e2⟩
          · cases e
          · cases e
            exact ⟨k2, e2⟩
        obtain ⟨k2, e2⟩ := e2
        rcases boundA_rel h hlo with ⟨rfl, rfl⟩ | ⟨y1, k1, rfl, e1⟩
        · simp only [Option.map_some, Option.map_none, Sem.run_bind, Sem.run_pure, Result.andThen_ok, em, e2, sliceBound_ok (P := P) (w := w) (k := k) (y := cap) (code := .slice3Acap) (n := m) (by omega) (by omega), if_true]
          rw [sliceBound_ok (by omega) (by omega)]
          rfl
        · simp only [Option.map_some, Sem.run_bind, Sem.run_pure, Result.andThen_ok, em, e1, e2, sliceBound_ok (P := P) (w := w) (k := k) (y := cap) (code := .slice3Acap) (n := m) (by omega) (by omega), if_true]
          rw [sliceBound_ok (by omega) (by omega)]
          simp only [Result.andThen_ok, Option.isSome_some, if_true]
          rw [sliceBound_ok h0 (by omega)]
          rfl
    obtain ⟨M, M1, M2, hb⟩ := hb
    refine ⟨M, M1, M2, ?_⟩
    unfold Instr.sliceAt
    rw [hxe]
    simp only [Sem.run_bind, run_underlying hu, Result.andThen_ok]
    unfold Instr.slice
    simp only [Sem.run_bind, run_underlying hu, Result.andThen_ok, hb, (hT _ _ hte2).rSize, Sem.run_pure]
theorem sound_slice (hT : TabOk P E.ty) {t : TypeId} {x : Operand} {lo hi mx : Option Operand} (ho : o.op = .slice t x lo hi mx) (h : SimR W0 Wr E.nt A ρ s a w) (hd : okDst E o.dst = true) (hf : opA E s o.dst o.op some = some f) :
    Gives P o a w (After W0 Wr E.nt s a o.dst f) := by
  rw [ho] at hf
  simp only [opA] at hf
  have fin : ∀ {q : AV} {v : Value} {rd : List Nat}, (Instr.sliceAt t (a.eval x) (lo.map a.eval) (hi.map a.eval) (mx.map a.eval)).run P w = .ok v w → SR A w ρ q v → Gives P o a w (After W0 Wr E.nt s a o.dst ⟨q, [], [], rd⟩) := by
    intro q v rd h1 h2
    refine Gives.val (x := v) ?_ (After.val h (okDst_lt hd) h2 rfl rfl rfl)
    unfold execOp
    rw [ho]
    simp only [Sem.run_bind, h1, Result.andThen_ok, Sem.run_pure]
  split at hf
  · rename_i n e _ _ _ _ id hte hv
    split at hf
    case h_2 => cases hf
    rename_i blk hm
    split at hf
    case h_2 => cases hf
    rename_i te l hh hte2 hlo hhi
    obtain ⟨hc, hf⟩ := chk_some hf
    simp only [Bool.and_eq_true, decide_eq_true_eq] at hc
    obtain ⟨⟨⟨⟨⟨hp, hcnt⟩, hsz⟩, h0⟩, h1⟩, h2⟩ := hc
    have hcnt := nat_beq hcnt
    have hsz := nat_beq hsz
    simp only [Option.some.injEq] at hf
    subst hf
    have hu := (hT _ _ hte).und
    simp only [UndOk] at hu
    have hx := h.ev x
    rw [hv] at hx
    simp only [SR, VR] at hx
    obtain ⟨b, N, g1, g2, _⟩ := hx
    obtain ⟨ob', u, mm, g3, _⟩ := h.mem _ _ hm
    rw [g1] at g3
    simp only [Option.some.injEq, Prod.mk.injEq] at g3
    obtain ⟨rfl, rfl⟩ := g3
    simp only [Nat.mul_zero, Nat.add_zero] at g2
    have hb : (Instr.sliceBounds false n n (lo.map a.eval) (hi.map a.eval) none).run P w = .ok (l.toNat, hh.toNat, n) w := by
      unfold Instr.sliceBounds
      rcases boundA_rel h hlo with ⟨rfl, rfl⟩ | ⟨y1, k1, rfl, e1⟩ <;> rcases boundA_rel h hhi with ⟨rfl, rfl⟩ | ⟨y2, k2, rfl, e2⟩
      · simp
      · simp only [Option.map_some, Option.map_none, Sem.run_bind, Sem.run_pure, Result.andThen_ok, e2, Bool.false_eq_true, if_false]
        rw [sliceBound_ok (by omega) (by omega)]
        simp
      · simp only [Option.map_some, Option.map_none, Sem.run_bind, Sem.run_pure, Result.andThen_ok, e1]
        rw [sliceBound_ok h0 (by omega)]
        simp
      · simp only [Option.map_some, Sem.run_bind, Sem.run_pure, Result.andThen_ok, e1, e2, Bool.false_eq_true, if_false]
        rw [sliceBound_ok (by omega) (by omega)]
        simp only [Result.andThen_ok, Option.isSome_none, Bool.false_eq_true, if_false]
        rw [sliceBound_ok h0 (by omega)]
        rfl
    have hM : (Instr.sliceAt t (a.eval x) (lo.map a.eval) (hi.map a.eval) ((none : Option Operand).map a.eval)).run P w = .ok (.slice (some (if n = l.toNat then ⟨b, 0, none⟩ else (⟨b, 0, none⟩ : Addr).add (l.toNat * te.size))) (hh.toNat - l.toNat) (n - l.toNat)) w := by
      unfold Instr.sliceAt
      rw [g2]
      simp only [Sem.run_bind, run_underlying hu, Result.andThen_ok, Instr.sureAddr, Sem.run_pure, Option.map_none, hb, (hT _ _ hte2).rSize]
    refine fin hM ?_
    simp only [SR, VR]
    by_cases hz : hh.toNat - l.toNat = 0
    · refine ⟨_, _, g1, .inl ⟨hz, ?_⟩⟩
      rw [hz]
      exact ⟨_, _, rfl⟩
    · refine ⟨_, _, g1, .inr ⟨b, n - l.toNat, rfl, ?_, by omega, by simp only; omega⟩⟩
      rw [if_neg (by omega), addr_add, hsz, Nat.zero_add]
  · rename_i e _ _ _ _ c hte hv
    split at hf
    case h_2 => cases hf
    rename_i te l hh hte2 hlo hhi
    have hf2 := chk_some hf
    clear hf
    obtain ⟨hc, hf⟩ := hf2
    simp only [Bool.and_eq_true, decide_eq_true_eq] at hc
    obtain ⟨hmx, ⟨⟨hsz, h0⟩, h1⟩, h2⟩ := hc
    have hsz := nat_beq hsz
    split at hf
    case h_2 => cases hf
    rename_i c' hta
    simp only [Option.some.injEq] at hf
    subst hf
    have hu := (hT _ _ hte).und
    simp only [UndOk] at hu
    have hx := h.ev x
    rw [hv] at hx
    simp only [SR, VR] at hx
    obtain ⟨u, hcu, hx⟩ := hx
    obtain ⟨u', hcu', hcnt, _, hcells⟩ := takeA_spec hta hcu (by omega) (by omega)
    have key := run_sliceAt hT hu hte2 h hlo hhi h0 h1 h2 hmx x
    rcases hx with ⟨hn, ad, cap, hx⟩ | ⟨b, off, cap, hA, hx, hcap, hat⟩
    · obtain ⟨M, M1, M2, hM⟩ := key ad cap (by rw [hn]; exact hx) (by omega)
      refine fin hM ?_
      simp only [SR, VR]
      refine ⟨u', hcu', .inl ⟨by omega, ?_⟩⟩
      rw [show hh.toNat - l.toNat = 0 by omega]
      exact ⟨_, _, rfl⟩
    · obtain ⟨M, M1, M2, hM⟩ := key _ cap hx hcap
      refine fin hM ?_
      simp only [SR, VR]
      by_cases hz : hh.toNat - l.toNat = 0
      · refine ⟨u', hcu', .inl ⟨by omega, ?_⟩⟩
        rw [hz]
        exact ⟨_, _, rfl⟩
      · refine ⟨u', hcu', .inr ⟨b, off + l.toNat * te.size, M - l.toNat, hA, ?_, by omega, fun j y hj => ?_⟩⟩
        · rw [if_neg (by omega), hcnt]
          simp only [Option.map_some, addr_add]
        · have := hat _ _ (hcells j y hj)
          rw [hsz, Nat.add_assoc]
          exact this
  · rename_i e _ _ _ _ id hte hv
    split at hf
    case h_2 => cases hf
    rename_i blk hm
    split at hf
    case h_2 => cases hf
    rename_i te l hh hte2 hlo hhi
    have hf2 := chk_some hf
    clear hf
    obtain ⟨hc, hf⟩ := hf2
    simp only [Bool.and_eq_true, decide_eq_true_eq] at hc
    obtain ⟨hmx, ⟨⟨⟨hp, hsz⟩, h0⟩, h1⟩, h2⟩ := hc
    have hsz := nat_beq hsz
    simp only [Option.some.injEq] at hf
    subst hf
    have hu := (hT _ _ hte).und
    simp only [UndOk] at hu
    have hx := h.ev x
    rw [hv] at hx
    simp only [SR, VR] at hx
    obtain ⟨ob, n, g1, g2⟩ := hx
    obtain ⟨ob', u, mm, g3, _⟩ := h.mem _ _ hm
    rw [g1] at g3
    simp only [Option.some.injEq, Prod.mk.injEq] at g3
    obtain ⟨rfl, rfl⟩ := g3
    have key := run_sliceAt hT hu hte2 h hlo hhi h0 h1 h2 hmx x
    rcases g2 with ⟨hn, hx⟩ | ⟨b, cap, rfl, hx, hcap, hcap2⟩
    · simp only at hn
      obtain ⟨M, M1, M2, hM⟩ := key none 0 (by rw [hn]; exact hx) (by omega)
      refine fin hM ?_
      simp only [SR, VR]
      refine ⟨ob, _, g1, .inl ⟨by omega, ?_⟩⟩
      rw [show hh.toNat - l.toNat = 0 by omega]
      exact ⟨_, _, rfl⟩
    · simp only at hcap hcap2
      obtain ⟨M, M1, M2, hM⟩ := key _ cap hx hcap
      refine fin hM ?_
      simp only [SR, VR]
      by_cases hz : hh.toNat - l.toNat = 0
      · refine ⟨_, _, g1, .inl ⟨hz, ?_⟩⟩
        rw [hz]
        exact ⟨_, _, rfl⟩
      · refine ⟨_, _, g1, .inr ⟨b, M - l.toNat, rfl, ?_, by omega, by simp only; omega⟩⟩
        rw [if_neg (by omega)]
        simp only [Option.map_some, addr_add, Nat.zero_add]
  · rename_i e _ _ _ _ id lo0 n e0 hte hv
    split at hf
    case h_2 => cases hf
    rename_i te l hh hte2 hlo hhi
    have hf2 := chk_some hf
    clear hf
    obtain ⟨hc, hf⟩ := hf2
    simp only [Bool.and_eq_true, decide_eq_true_eq] at hc
    obtain ⟨hmx, ⟨⟨hsz, h0⟩, h1⟩, h2⟩ := hc
    have hsz := nat_beq hsz
    simp only [val, Option.some.injEq] at hf
    subst hf
    have hu := (hT _ _ hte).und
    simp only [UndOk] at hu
    have hx := h.ev x
    rw [hv] at hx
    simp only [SR, VR] at hx
    obtain ⟨ob, N, g1, g2⟩ := hx
    have key := run_sliceAt hT hu hte2 h hlo hhi h0 h1 h2 hmx x
    rcases g2 with ⟨hn, ad, cap, hx⟩ | ⟨b, cap, rfl, hx, hcap, hcap2⟩
    · have hcase : ∃ cap', a.eval x = .slice ad n cap' ∧ n ≤ cap' := ⟨cap, by rw [hn]; exact hx, by omega⟩
      obtain ⟨cap', hx', hc'⟩ := hcase
      obtain ⟨M, M1, M2, hM⟩ := key ad cap' hx' hc'
      refine fin hM ?_
      simp only [SR, VR]
      refine ⟨ob, N, g1, .inl ⟨by omega, ?_⟩⟩
      rw [show hh.toNat - l.toNat = 0 by omega]
      exact ⟨_, _, rfl⟩
    · obtain ⟨M, M1, M2, hM⟩ := key _ cap hx hcap
      refine fin hM ?_
      simp only [SR, VR]
      by_cases hz : hh.toNat - l.toNat = 0
      · refine ⟨_, N, g1, .inl ⟨hz, ?_⟩⟩
        rw [hz]
        exact ⟨_, _, rfl⟩
      · refine ⟨_, N, g1, .inr ⟨b, M - l.toNat, rfl, ?_, by omega, by omega⟩⟩
        rw [if_neg (by omega), hsz, Nat.add_mul]
        simp only [Option.map_some, addr_add]
  · cases hf
end
end Go.Proofs.YtbakldcbaikgpaaGreatDoor
/- Each operation of the evaluator is one of the machine (ninth part): append. Own work, program-independent. -/
namespace Go.Proofs.YtbakldcbaikgpaaGreatDoor
open Go.RowKit (Below)
section
variable {P : Program} {E : Env} {W0 : World} {Wr : Wk} {A A' : Nat → Prop} {ρ ρ' : Rho} {s : AS} {a : Act} {w w' : World} {o : Oper} {f : Eff}
theorem growBy_le (n : Nat) : ∀ (r c : Nat), c ≤ n + (n + 768) / 4 → Builtin.growBy n r c ≤ n + (n + 768) / 4
  | 0, c, h => by simpa [Builtin.growBy] using h
  | r + 1, c, h => by
    simp only [Builtin.growBy]
    split
    · exact h
    · exact growBy_le n r _ (by omega)
theorem nextslicecap_le {n c : Nat} (h : c < n) : Builtin.nextslicecap n c ≤ 2 * n := by
  unfold Builtin.nextslicecap
  split
  · omega
  · split
    · omega
    · exact Nat.le_trans (growBy_le n 4 c (by omega)) (by omega)
theorem cells_size_plain {c : AV} {u : Value} (hp : c.plain = true) (hu : VR A w ρ c u) : u.cells.size = c.cnt * c.esz := by
  rw [VR.size _ _ hu]
  cases c <;> simp only [AV.plain, Bool.false_eq_true] at hp <;> simp [AV.sz, AV.cnt, AV.esz]
  omega
/-- A block whose cells are known, read from its begin on. -/
theorem run_cells {b off : Nat} (cs : Array Value) (h : CellsAt w b off cs) : (loadCells ⟨b, off, none⟩ cs.size).run P w = .ok cs w := by
  have := run_loadCells (P := P) (w := w) (b := b) (o := off) cs (fun j hj => by
    rw [Array.getElem?_eq_getElem hj]
    exact h j _ (Array.getElem?_eq_getElem hj)) cs.size 0 (by omega)
  simpa [loadCells] using this
/-- What a list that is appended from tells. -/
theorem list_read (h : SimR W0 Wr E.nt A ρ s a w) {p : AV} {v : Value} {c : AV} {rd : List Nat} {z : Option TE} (hl : listOf s z p = some (c, rd)) (hp : c.plain = true) (hv : SR A w ρ p v) :
    ∃ u, VR A w ρ c u ∧ (Builtin.lenOf v).run P w = .ok c.cnt w ∧ ∀ w', w'.heap = w.heap → (Builtin.firstCells c.esz c.cnt v).run P w' = .ok u.cells w' := by
  have fin : ∀ {u : Value} {b off cap : Nat}, VR A w ρ c u → v = .slice (some ⟨b, off, none⟩) c.cnt cap → CellsAt w b off u.cells →
      ∃ u, VR A w ρ c u ∧ (Builtin.lenOf v).run P w = .ok c.cnt w ∧ ∀ w', w'.heap = w.heap → (Builtin.firstCells c.esz c.cnt v).run P w' = .ok u.cells w' := by
    intro u b off cap hu hv hc
    subst hv
    refine ⟨u, hu, rfl, fun w' hw' => ?_⟩
    simp only [Builtin.firstCells]
    rw [← cells_size_plain hp hu]
    exact run_cells _ (hc.congr (fun _ => by rw [hw']))
  have nil : ∀ {u : Value} {ad : Option Addr} {cap : Nat}, VR A w ρ c u → c.cnt = 0 → v = .slice ad 0 cap →
      ∃ u, VR A w ρ c u ∧ (Builtin.lenOf v).run P w = .ok c.cnt w ∧ ∀ w', w'.heap = w.heap → (Builtin.firstCells c.esz c.cnt v).run P w' = .ok u.cells w' := by
    intro u ad cap hu hc hv
    subst hv
    have he : u.cells = #[] := Array.eq_empty_of_size_eq_zero (by rw [cells_size_plain hp hu, hc, Nat.zero_mul])
    refine ⟨u, hu, by rw [hc]; rfl, fun w' _ => ?_⟩
    rw [hc, he]
    cases ad with
    | none => rfl
    | some ad =>
      simp only [Builtin.firstCells, Nat.zero_mul]
      rfl
  unfold listOf at hl
  split at hl
  · split at hl
    · simp only [Option.some.injEq, Prod.mk.injEq] at hl
      obtain ⟨rfl, _⟩ := hl
      simp only [SR, VR] at hv
      exact nil (VR_ints rfl) rfl hv
    · cases hl
  · rename_i id
    split at hl
    case h_2 => cases hl
    rename_i blk hm
    simp only [Option.some.injEq, Prod.mk.injEq] at hl
    obtain ⟨rfl, _⟩ := hl
    simp only [SR, VR] at hv
    obtain ⟨ob, n, h1, h2⟩ := hv
    obtain ⟨ob', u, m, g1, g2, g3⟩ := h.mem _ _ hm
    rw [h1] at g1
    simp only [Option.some.injEq, Prod.mk.injEq] at g1
    obtain ⟨rfl, rfl⟩ := g1
    simp only at h2
    rcases h2 with ⟨h2, h3⟩ | ⟨b, cap, rfl, h3, _, _⟩
    · exact nil g2 h2 h3
    · obtain ⟨cs, fr, k1, k2, _, _⟩ := g3
      refine fin g2 h3 fun j x hj => ?_
      rw [Nat.zero_add]
      simp [World.cell?, k1, k2 j x hj]
  · simp only [Option.some.injEq, Prod.mk.injEq] at hl
    obtain ⟨rfl, _⟩ := hl
    simp only [SR, VR] at hv
    obtain ⟨u, h1, h2⟩ := hv
    rcases h2 with ⟨h2, ad, cap, h3⟩ | ⟨b, off, cap, _, h3, _, h4⟩
    · exact nil h1 h2 h3
    · exact fin h1 h3 h4
  · cases hl
theorem catA_spec {c1 c2 c : AV} {u1 u2 : Value} (h : catA c1 c2 = some c) (h1 : VR A w ρ c1 u1) (h2 : VR A w ρ c2 u2) :
    ∃ u, VR A w ρ c u ∧ u.cells = u1.cells ++ u2.cells ∧ c.cnt = c1.cnt + c2.cnt ∧ c.esz = c1.esz ∧ c.esz = c2.esz ∧ c1.plain = true ∧ c.plain = true := by
  unfold catA at h
  split at h
  · have h3 := cond_some h
    clear h
    obtain ⟨hk, h⟩ := h3
    simp only [decide_eq_true_eq] at hk
    subst hk
    simp only [Option.some.injEq] at h
    subst h
    simp only [VR] at h1 h2
    obtain ⟨rfl, rfl⟩ := h1
    obtain ⟨rfl, rfl⟩ := h2
    exact ⟨_, VR_ints (by simp), by simp [Value.cells], rfl, rfl, rfl, rfl, rfl⟩
  · have h3 := cond_some h
    clear h
    obtain ⟨hk, h⟩ := h3
    simp only [decide_eq_true_eq] at hk
    subst hk
    simp only [Option.some.injEq] at h
    subst h
    simp only [VR] at h1 h2
    obtain ⟨rfl, rfl⟩ := h1
    obtain ⟨rfl, rfl⟩ := h2
    exact ⟨_, VR_prs (by simp), by simp [Value.cells], rfl, rfl, rfl, rfl, rfl⟩
  · cases h
/-- A new list without memory. -/
theorem After.newNil (h : SimR W0 Wr E.nt A ρ s a w) (hE : E.nt ≤ 1000) {d : Nat} (hd : d < E.nt) {e : TypeId} {c : AV} {u : Value} {rd : List Nat} (hc : VR A w ρ c u) (hp : c.plain = true) (h0 : c.cnt = 0) :
    After W0 Wr E.nt s a (some d) ⟨.wsl (mkId d (s.c d)), [(mkId d (s.c d), some ⟨e, true, c⟩)], [d], rd⟩ (.slice none 0 0) w := by
  obtain ⟨h2, hnone, hmn⟩ := h.ext (d := d) (by omega) (none, (0, 0))
  have hρ : ∀ id x', ρ id = some x' → upd ρ (mkId d (s.c d)) (some (none, (0, 0))) id = some x' := by
    intro id x' hx
    by_cases hj : id = mkId d (s.c d)
    · subst hj; rw [hnone] at hx; cases hx
    · rw [upd_ne _ _ hj]; exact hx
  have key : ∀ id' blk', upd s.m (mkId d (s.c d)) (some ⟨e, true, c⟩) id' = some blk' → (id' = mkId d (s.c d) ∧ blk' = ⟨e, true, c⟩) ∨ (id' ≠ mkId d (s.c d) ∧ s.m id' = some blk') := by
    intro id' blk' h1
    by_cases hj : id' = mkId d (s.c d)
    · subst hj; rw [upd_self] at h1; exact .inl ⟨rfl, (Option.some.inj h1).symm⟩
    · rw [upd_ne _ _ hj] at h1; exact .inr ⟨hj, h1⟩
  have noblk : ∀ {id' : Nat} {b : Nat} {n : Nat × Nat}, id' = mkId d (s.c d) → upd ρ (mkId d (s.c d)) (some (none, (0, 0))) id' = some (some b, n) → False := by
    intro id' b n e1 e2
    rw [e1, upd_self] at e2
    cases e2
  have h3 : SimR W0 Wr E.nt A (upd ρ (mkId d (s.c d)) (some (none, (0, 0)))) { s with m := upd s.m (mkId d (s.c d)) (some ⟨e, true, c⟩), c := upd s.c d (s.c d + 1) } a w := by
    refine ⟨h2.dfr, h2.tsz, h2.slot, fun id' blk' h1 => ?_, fun id1 id2 blk1 blk2 b n n' h1 g1 hne ho1 hr1 hr2 => ?_, fun id' blk' b n h1 ho1 hr => ?_, h2.alive, h2.fresh, h2.fr, fun i b n hi hb hne => ?_, h2.gl⟩
    · rcases key _ _ h1 with ⟨e1, e2⟩ | ⟨_, g1⟩
      · subst e2
        exact ⟨none, u, 0, by rw [e1, upd_self, h0], VR.mono (fun _ h => h) (.refl _ _) hρ _ _ hc, by rw [cells_size_plain hp hc, h0, Nat.zero_mul]⟩
      · exact h2.mem _ _ g1
    · rcases key _ _ h1 with ⟨e1, e2⟩ | ⟨_, k1⟩
      · exact noblk e1 hr1
      · rcases key _ _ g1 with ⟨e1, e2⟩ | ⟨_, k2⟩
        · exact noblk e1 hr2
        · exact h2.inj id1 id2 blk1 blk2 b n n' k1 k2 hne ho1 hr1 hr2
    · rcases key _ _ h1 with ⟨e1, e2⟩ | ⟨_, k1⟩
      · exact (noblk e1 hr).elim
      · exact h2.own _ _ _ _ k1 ho1 hr
    · have hj : 8000 + i ≠ mkId d (s.c d) := by unfold mkId; omega
      simp only at hne
      rw [upd_ne _ _ hj] at hne
      exact h2.mt i b n hi hb hne
  refine ⟨A, _, h3.put (dst := some d) (by intro d' e'; cases e'; exact hd) (v := .wsl (mkId d (s.c d))) (x := .slice none 0 0) ?_⟩
  simp only [SR, VR]
  exact ⟨none, (0, 0), by rw [upd_self], .inl ⟨rfl, trivial⟩⟩
theorem zeroCells_size (z : Array Value) (n : Nat) : (Builtin.zeroCells z n).size = n * z.size := by simp [Builtin.zeroCells]
theorem run_choose_cap {need cap e : Nat} : ∃ nc, (choose (.appendCap need cap e)).run P w = .ok (need + nc) { w with drawn := w.drawn + 1 } := by
  refine ⟨w.tape w.drawn (.appendCap need cap e) % (2 ^ 63 - need), ?_⟩
  simp [choose, Sem.run, Question.forced, Question.cut]
theorem run_askRoom {n : Nat} : (askRoom n).run P w = .ok () w := by
  unfold askRoom
  split <;> rfl
/-- append's own run: as far as the choice whether there is room. -/
theorem run_append {t e : TypeId} {te : TE} {ts : Array TypeId} {ty : TypeId} {vs vx : Value} {base : Option Addr} {n1 cap n2 sz : Nat} {old new : Array Value}
    (h0 : ts[0]? = some t) (hz : ∃ t2 e2, ts[1]? = some t2 ∧ P.underlying t2 = some (.slice e2)) (hu : P.underlying t = some (.slice e)) (ht : TEok P e te) (hs : te.size = sz)
    (hvs : vs = .slice base n1 cap) (hlen : (Builtin.lenOf vx).run P w = .ok n2 w) (hnew : ∀ w', w'.heap = w.heap → (Builtin.firstCells sz n2 vx).run P w' = .ok new w')
    (hold : ∀ w', w'.heap = w.heap → (Builtin.firstCells sz n1 vs).run P w' = .ok old w') (hb : (n1 + n2) * te.bytes ≤ 140737488355328) (hbt : te.bytes < 1000) (hsz : 0 < te.bytes) :
    (n1 + n2 ≤ cap → ∀ w', (match base with | some ad => storeCells (ad.add (n1 * sz)) new.toList | none => (pure () : Sem Unit)).run P w = .ok () w' → (Builtin.append_ ts ty #[vs, vx]).run P w = .ok (.slice base (n1 + n2) cap) w') ∧
    (cap < n1 + n2 → ∃ nc : Nat, ∃ rest : Array Value, rest.size = nc * sz ∧ (Builtin.append_ ts ty #[vs, vx]).run P w =
      .ok (.slice (some ⟨w.heap.size, 0, none⟩) (n1 + n2) (n1 + n2 + nc)) (pushed { w with drawn := w.drawn + 1 } (old ++ new ++ rest) e)) := by
  obtain ⟨t2, e2, ht2, hu2⟩ := hz
  subst hvs
  refine ⟨fun hin w' hst => ?_, fun hout => ?_⟩
  · unfold Builtin.append_
    rw [h0, ht2, show (#[Value.slice base n1 cap, vx] : Array Value)[0]? = some (.slice base n1 cap) from rfl, show (#[Value.slice base n1 cap, vx] : Array Value)[1]? = some vx from rfl]
    dsimp only
    simp only [Sem.run_bind, run_underlying hu, run_underlying hu2, Result.andThen_ok, ht.rSize, hs, Sem.run_pure]
    simp only [Bool.false_eq_true, if_false, Sem.run_bind, hlen, Result.andThen_ok]
    rw [if_pos hin]
    simp only [Bool.not_false, if_true, Sem.run_bind, hnew w rfl, Result.andThen_ok]
    cases base with
    | none =>
      have e1 : w = w' := by simpa [Sem.run_pure] using hst
      subst e1
      rfl
    | some ad =>
      simp only at hst
      simp only [Sem.run_bind, hst, Result.andThen_ok, Sem.run_pure]
  · obtain ⟨i, hi, hib, his, hpi⟩ := ht.rInfo w
    obtain ⟨z, hzr, hzv⟩ := ht.rZero { w with drawn := w.drawn + 1 }
    have hzs : z.cells.size = sz := by rw [VR.size _ _ (hzv (fun _ => False) w (fun _ => none)), ← ht.zsz, hs]
    obtain ⟨nc, hnc⟩ := run_choose_cap (P := P) (w := w) (need := n1 + n2) (cap := cap) (e := e)
    refine ⟨nc, Builtin.zeroCells z.cells (n1 + n2 + nc - (n1 + n2)), ?_, ?_⟩
    · rw [zeroCells_size, hzs]; congr 1; omega
    · unfold Builtin.append_
      rw [h0, ht2, show (#[Value.slice base n1 cap, vx] : Array Value)[0]? = some (.slice base n1 cap) from rfl, show (#[Value.slice base n1 cap, vx] : Array Value)[1]? = some vx from rfl]
      dsimp only
      simp only [Sem.run_bind, run_underlying hu, run_underlying hu2, Result.andThen_ok, ht.rSize, hs, Sem.run_pure]
      simp only [Bool.false_eq_true, if_false, Sem.run_bind, hlen, Result.andThen_ok]
      rw [if_neg (by omega)]
      simp only [Sem.run_bind, hi, Result.andThen_ok]
      rw [if_neg (by simp only [false_or]; rw [hib]; omega)]
      simp only [Sem.run_bind, hi, Result.andThen_ok]
      have hcap := nextslicecap_le hout
      have hbytes : ¬ Builtin.nextslicecap (n1 + n2) cap * i.bytes > 2 ^ 48 := by
        rw [hib]
        have h1 : Builtin.nextslicecap (n1 + n2) cap * te.bytes ≤ 2 * (n1 + n2) * te.bytes := Nat.mul_le_mul_right _ hcap
        have h2 : 2 * (n1 + n2) * te.bytes = 2 * ((n1 + n2) * te.bytes) := by rw [Nat.mul_assoc]
        have h3 : (2 : Nat) ^ 48 = 281474976710656 := by decide
        omega
      rw [if_neg hbytes]
      have hi1 := ht.rInfo { w with drawn := w.drawn + 1 }
      obtain ⟨i1, hi1, _⟩ := hi1
      simp only [Sem.run_bind, hnc, Result.andThen_ok, hi1, run_askRoom, hold { w with drawn := w.drawn + 1 } rfl, Bool.not_false, if_true, hnew { w with drawn := w.drawn + 1 } rfl, hzr]
      rfl
end
end Go.Proofs.YtbakldcbaikgpaaGreatDoor
