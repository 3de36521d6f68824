/- Each operation of the evaluator is one of the machine (eighth part): lists cut and grown. Own work, program-independent. -/
import Derived.Test.YtdkebceiljdgjaaSound12
namespace Go.Proofs.Ytdkebceiljdgjaa
open Go.RowKit (Below)

section
variable {P : Program} {E : Env} {W0 : World} {Wr : Nat → Prop} {A A' : Nat → Prop} {ρ ρ' : Rho} {s : AS} {a : Act} {w w' : World} {o : Oper} {f : Eff}

theorem cells_ints (k : IntKind) (l : List Int) (j : Nat) : (Value.agg (l.map (Value.int k)).toArray).cells[j]? = (l.map (Value.int k))[j]? := toArray_at _ j
theorem cells_prs (k : IntKind) (l : List (Int × Int)) (j : Nat) : (Value.agg (l.flatMap fun p => [Value.int k p.1, Value.int k p.2]).toArray).cells[j]? = (l.flatMap fun p => [Value.int k p.1, Value.int k p.2])[j]? := toArray_at _ j

theorem flatMap_drop (k : IntKind) : ∀ (n : Nat) (l : List (Int × Int)), (l.drop n).flatMap (fun p => [Value.int k p.1, Value.int k p.2]) = (l.flatMap fun p => [Value.int k p.1, Value.int k p.2]).drop (2 * n)
  | 0, l => rfl
  | n + 1, [] => by simp
  | n + 1, p :: l => by
    simp only [List.drop_succ_cons, List.flatMap_cons, flatMap_drop k n l, show 2 * (n + 1) = 2 * n + 1 + 1 by omega, List.cons_append, List.nil_append]

theorem flatMap_take (k : IntKind) : ∀ (n : Nat) (l : List (Int × Int)), (l.take n).flatMap (fun p => [Value.int k p.1, Value.int k p.2]) = (l.flatMap fun p => [Value.int k p.1, Value.int k p.2]).take (2 * n)
  | 0, l => rfl
  | n + 1, [] => by simp
  | n + 1, p :: l => by
    simp only [List.take_succ_cons, List.flatMap_cons, flatMap_take k n l, show 2 * (n + 1) = 2 * n + 1 + 1 by omega, List.cons_append, List.nil_append]

theorem takeA_spec {l h : Nat} {c c' : AV} {u : Value} (ht : takeA l h c = some c') (hu : VR A w ρ c u) (h1 : l ≤ h) (h2 : h ≤ c.cnt) :
    ∃ u', VR A w ρ c' u' ∧ c'.cnt = h - l ∧ c'.plain = true ∧ ∀ (j : Nat) x, u'.cells[j]? = some x → u.cells[l * c.esz + j]? = some x := by
  cases c <;> simp only [takeA] at ht <;> try (cases ht; done)
  · rename_i n k xs
    simp only [Option.some.injEq] at ht
    subst ht
    simp only [VR] at hu
    obtain ⟨hl, rfl⟩ := hu
    simp only [AV.cnt] at h2
    refine ⟨_, VR_ints (by simp; omega), rfl, rfl, fun j x hj => ?_⟩
    rw [cells_ints] at hj
    rw [cells_ints]
    simp only [AV.esz, Nat.mul_one]
    rw [List.map_take, List.map_drop, List.getElem?_take] at hj
    split at hj
    · rw [List.getElem?_drop] at hj
      exact hj
    · cases hj
  · rename_i n k xs
    simp only [Option.some.injEq] at ht
    subst ht
    simp only [VR] at hu
    obtain ⟨hl, rfl⟩ := hu
    simp only [AV.cnt] at h2
    refine ⟨_, VR_prs (by simp; omega), rfl, rfl, fun j x hj => ?_⟩
    rw [cells_prs] at hj
    rw [cells_prs]
    simp only [AV.esz]
    rw [flatMap_take, flatMap_drop, List.getElem?_take] at hj
    split at hj
    · rw [List.getElem?_drop, Nat.mul_comm 2 l] at hj
      exact hj
    · cases hj

theorem boundA_rel (h : SimR W0 Wr E.nt A ρ s a w) {d n : Int} {x : Option Operand} (hb : boundA s.t d x = some n) : (x = none ∧ n = d) ∨ ∃ y k, x = some y ∧ a.eval y = .int k n := by
  cases x with
  | none => simp only [boundA, Option.some.injEq] at hb; exact .inl ⟨rfl, hb.symm⟩
  | some y =>
    simp only [boundA] at hb
    split at hb
    · rename_i k m hv
      simp only [Option.some.injEq] at hb
      subst hb
      have := h.ev y
      rw [hv] at this
      exact .inr ⟨y, k, rfl, this.int⟩
    · cases hb

theorem sliceBound_ok {k : IntKind} {n : Int} {y : Nat} {code : BoundsCode} (h0 : 0 ≤ n) (h1 : n ≤ y) : (Instr.sliceBound (.int k n) y code).run P w = .ok n.toNat w := by
  unfold Instr.sliceBound
  simp [asIntOf, h0, h1]

theorem sound_slice (hT : TabOk P E.ty) {t : TypeId} {x : Operand} {lo hi mx : Option Operand} (ho : o.op = .slice t x lo hi mx) (h : SimR W0 Wr E.nt A ρ s a w) (hd : okDst E o.dst = true) (hf : opA E s o.dst o.op some = some f) :
    Gives P o a w (After W0 Wr E.nt s a o.dst f) := by
  rw [ho] at hf
  simp only [opA] at hf
  split at hf
  case h_2 => cases hf
  rename_i e _ _ _ _ c hte hv
  split at hf
  case h_2 => cases hf
  rename_i te l hh hte2 hlo hhi
  have hf2 := chk_some hf
  clear hf
  obtain ⟨hc, hf⟩ := hf2
  simp only [Bool.and_eq_true, decide_eq_true_eq] at hc
  obtain ⟨hmx, ⟨⟨hsz, h0⟩, h1⟩, h2⟩ := hc
  have hsz := nat_beq hsz
  split at hf
  case h_2 => cases hf
  rename_i c' hta
  simp only [Option.some.injEq] at hf
  subst hf
  have hu := (hT _ _ hte).und
  simp only [UndOk] at hu
  have hx := h.ev x
  rw [hv] at hx
  simp only [SR, VR] at hx
  obtain ⟨u, hcu, hx⟩ := hx
  obtain ⟨u', hcu', hcnt, _, hcells⟩ := takeA_spec hta hcu (by omega) (by omega)
  have key : ∀ ad cap, a.eval x = .slice ad c.cnt cap → c.cnt ≤ cap →
      ∃ M : Nat, hh.toNat ≤ M ∧ M ≤ cap ∧ (Instr.sliceAt t (a.eval x) (lo.map a.eval) (hi.map a.eval) (mx.map a.eval)).run P w = .ok (.slice (if M = l.toNat then ad else ad.map (·.add (l.toNat * te.size))) (hh.toNat - l.toNat) (M - l.toNat)) w := by
    intro ad cap hxe hcap
    have hb : ∃ M : Nat, hh.toNat ≤ M ∧ M ≤ cap ∧ (Instr.sliceBounds true c.cnt cap (lo.map a.eval) (hi.map a.eval) (mx.map a.eval)).run P w = .ok (l.toNat, hh.toNat, M) w := by
      cases mx with
      | none =>
        refine ⟨cap, by omega, Nat.le_refl _, ?_⟩
        unfold Instr.sliceBounds
        rcases boundA_rel h hlo with ⟨rfl, rfl⟩ | ⟨y1, k1, rfl, e1⟩ <;> rcases boundA_rel h hhi with ⟨rfl, rfl⟩ | ⟨y2, k2, rfl, e2⟩
        · simp
        · simp only [Option.map_some, Option.map_none, Sem.run_bind, Sem.run_pure, Result.andThen_ok, e2, sliceBound_ok (P := P) (w := w) (k := k2) (y := cap) (code := .sliceAcap) (n := hh) (by omega) (by omega), if_true]
          rfl
        · simp only [Option.map_some, Option.map_none, Sem.run_bind, Sem.run_pure, Result.andThen_ok, e1]
          rw [sliceBound_ok h0 h1]
          simp
        · simp only [Option.map_some, Option.map_none, Sem.run_bind, Sem.run_pure, Result.andThen_ok, e1, e2, sliceBound_ok (P := P) (w := w) (k := k2) (y := cap) (code := .sliceAcap) (n := hh) (by omega) (by omega), if_true]
          rw [sliceBound_ok h0 (by omega)]
          rfl
      | some y =>
        simp only [mxA] at hmx
        split at hmx
        case h_2 => cases hmx
        rename_i yh k m hm
        simp only [Bool.and_eq_true, decide_eq_true_eq] at hmx
        obtain ⟨m1, m2⟩ := hmx
        have em := h.ev y
        rw [hm] at em
        have em := em.int
        refine ⟨m.toNat, by omega, by omega, ?_⟩
        unfold Instr.sliceBounds
        have e2 : ∃ k2, a.eval yh = .int k2 hh := by
          rcases boundA_rel h hhi with ⟨e, _⟩ | ⟨y2, k2, e, e2⟩
          · cases e
          · cases e
            exact ⟨k2, e2⟩
        obtain ⟨k2, e2⟩ := e2
        rcases boundA_rel h hlo with ⟨rfl, rfl⟩ | ⟨y1, k1, rfl, e1⟩
        · simp only [Option.map_some, Option.map_none, Sem.run_bind, Sem.run_pure, Result.andThen_ok, em, e2, sliceBound_ok (P := P) (w := w) (k := k) (y := cap) (code := .slice3Acap) (n := m) (by omega) (by omega), if_true]
          rw [sliceBound_ok (by omega) (by omega)]
          rfl
        · simp only [Option.map_some, Sem.run_bind, Sem.run_pure, Result.andThen_ok, em, e1, e2, sliceBound_ok (P := P) (w := w) (k := k) (y := cap) (code := .slice3Acap) (n := m) (by omega) (by omega), if_true]
          rw [sliceBound_ok (by omega) (by omega)]
          simp only [Sem.run_bind, Sem.run_pure, Result.andThen_ok, Option.isSome_some, if_true]
          rw [sliceBound_ok h0 (by omega)]
          rfl
    obtain ⟨M, M1, M2, hb⟩ := hb
    refine ⟨M, M1, M2, ?_⟩
    unfold Instr.sliceAt
    rw [hxe]
    simp only [Sem.run_bind, run_underlying hu, Result.andThen_ok]
    unfold Instr.slice
    simp only [Sem.run_bind, run_underlying hu, Result.andThen_ok, hb, (hT _ _ hte2).rSize, Sem.run_pure]
  have fin : ∀ {v : Value}, (Instr.sliceAt t (a.eval x) (lo.map a.eval) (hi.map a.eval) (mx.map a.eval)).run P w = .ok v w → SR A w ρ (.sl c') v → Gives P o a w (After W0 Wr E.nt s a o.dst (val (.sl c'))) := by
    intro v h1 h2
    refine Gives.val (x := v) ?_ (After.val h (okDst_lt hd) h2 rfl rfl rfl)
    unfold execOp
    rw [ho]
    simp only [Sem.run_bind, h1, Result.andThen_ok, Sem.run_pure]
  rcases hx with ⟨hn, ad, cap, hx⟩ | ⟨b, off, cap, hA, hx, hcap, hat⟩
  · obtain ⟨M, M1, M2, hM⟩ := key ad cap (by rw [hn]; exact hx) (by omega)
    refine fin hM ?_
    simp only [SR, VR]
    refine ⟨u', hcu', .inl ⟨by omega, ?_⟩⟩
    rw [show hh.toNat - l.toNat = 0 by omega]
    exact ⟨_, _, rfl⟩
  · obtain ⟨M, M1, M2, hM⟩ := key _ cap hx hcap
    refine fin hM ?_
    simp only [SR, VR]
    by_cases hz : hh.toNat - l.toNat = 0
    · refine ⟨u', hcu', .inl ⟨by omega, ?_⟩⟩
      rw [hz]
      exact ⟨_, _, rfl⟩
    · refine ⟨u', hcu', .inr ⟨b, off + l.toNat * te.size, M - l.toNat, hA, ?_, by omega, fun j y hj => ?_⟩⟩
      · rw [if_neg (by omega), hcnt]
        simp only [Option.map_some, addr_add]
      · have := hat _ _ (hcells j y hj)
        rw [hsz, Nat.add_assoc]
        exact this

end
end Go.Proofs.Ytdkebceiljdgjaa
