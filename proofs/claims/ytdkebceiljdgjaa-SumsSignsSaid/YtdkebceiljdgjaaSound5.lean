/- How the relation is kept: slots, blocks, worlds. Own work, program-independent. -/
import Derived.Test.YtdkebceiljdgjaaSound4
namespace Go.Proofs.Ytdkebceiljdgjaa
open Go.RowKit (Below)
section
variable {P : Program} {W0 : World} {Wr : Nat → Prop} {nt : Nat} {A A' : Nat → Prop} {ρ ρ' : Rho} {s : AS} {a : Act} {w w' : World}

theorem upd_self {α : Type} (f : Nat → α) (i : Nat) (x : α) : upd f i x i = x := by simp [upd]
theorem upd_ne {α : Type} (f : Nat → α) {i j : Nat} (x : α) (h : j ≠ i) : upd f i x j = f j := by
  unfold upd
  have : Nat.beq j i = false := by
    cases hb : Nat.beq j i with
    | false => rfl
    | true => exact absurd (nat_beq hb) h
  rw [this]; rfl
theorem upd_upd {α : Type} (f : Nat → α) (i : Nat) (x y : α) : upd (upd f i x) i y = upd f i y := by
  funext j
  by_cases h : j = i
  · subst h; rw [upd_self, upd_self]
  · rw [upd_ne _ _ h, upd_ne _ _ h, upd_ne _ _ h]

theorem mkId_inj {d d' v v' : Nat} (h : mkId d v = mkId d' v') (hd : d < 9000) (hd' : d' < 9000) : d = d' ∧ v = v' := by
  unfold mkId at h
  omega

theorem ofVal_rel (v : Value) : SR A w ρ (ofVal v) v := by
  unfold ofVal
  split <;> try (first | (simp only [SR]; done) | (simp only [SR, VR]; done) | (simp [SR, VR, conV]; done))
  · rename_i l c
    cases hb : (Nat.beq l 0 && Nat.beq c 0) with
    | false => trivial
    | true =>
      simp only [Bool.and_eq_true] at hb
      rw [nat_beq hb.1, nat_beq hb.2]
      simp [SR, VR]
  · rename_i f x y
    cases hb : (Nat.beq x.size 0 && Nat.beq y.size 0) with
    | false => trivial
    | true =>
      simp only [Bool.and_eq_true] at hb
      have h1 := Array.eq_empty_of_size_eq_zero (nat_beq hb.1)
      have h2 := Array.eq_empty_of_size_eq_zero (nat_beq hb.2)
      subst h1 h2
      simp [SR, VR]

theorem SimR.ev (h : SimR W0 Wr nt A ρ s a w) (x : Operand) : SR A w ρ (ev s.t x) (a.eval x) := by
  cases x
  case tmp t => exact h.slot t
  case const v => exact ofVal_rel v
  case global g => trivial
  case func f => simp only [Proofs.Ytdkebceiljdgjaa.ev, SR, VR, Act.eval]

theorem getD_put (t : Array Value) (d j : Nat) (x u : Value) (hd : d < t.size) : (t.setIfInBounds d x).getD j u = if j = d then x else t.getD j u := by
  simp only [Array.getD_eq_getD_getElem?, Array.getElem?_setIfInBounds]
  by_cases h : d = j
  · subst h; simp [hd]
  · rw [if_neg h, if_neg (fun e => h e.symm)]

def putT (t : Nat → AV) (dst : Option Tmp) (v : AV) : Nat → AV :=
  match dst with
  | some d => upd t d v
  | none => t

theorem SimR.put (h : SimR W0 Wr nt A ρ s a w) {dst : Option Tmp} (hd : ∀ d, dst = some d → d < nt) {v : AV} {x : Value} (hv : SR A w ρ v x) :
    SimR W0 Wr nt A ρ { s with t := putT s.t dst v } (a.put dst x) w := by
  cases dst with
  | none => exact h
  | some d =>
    have hdn := hd d rfl
    refine ⟨h.dfr, by simp [Act.put, h.tsz], fun j => ?_, h.mem, h.inj, h.own, h.alive, h.fresh, h.fr⟩
    simp only [putT, Act.put]
    rw [getD_put _ _ _ _ _ (by rw [h.tsz]; exact hdn)]
    by_cases hj : j = d
    · subst hj; rw [upd_self, if_pos rfl]; exact hv
    · rw [upd_ne _ _ hj, if_neg hj]; exact h.slot j

theorem SimR.drop (h : SimR W0 Wr nt A ρ s a w) (id : Nat) : SimR W0 Wr nt A ρ { s with m := upd s.m id none } a w := by
  have sub : ∀ id' blk, upd s.m id none id' = some blk → s.m id' = some blk := by
    intro id' blk hb
    by_cases hj : id' = id
    · subst hj; rw [upd_self] at hb; cases hb
    · rwa [upd_ne _ _ hj] at hb
  exact ⟨h.dfr, h.tsz, h.slot, fun id' blk hb => h.mem id' blk (sub _ _ hb), fun id id' blk blk' b n n' h1 h2 => h.inj id id' blk blk' b n n' (sub _ _ h1) (sub _ _ h2),
    fun id' blk b n hb => h.own id' blk b n (sub _ _ hb), h.alive, h.fresh, h.fr⟩

theorem BR.mono (hA : ∀ b, A b → A' b) (hw : ∀ b, A b → w'.heap[b]? = w.heap[b]?) (hρ : ∀ id x, ρ id = some x → ρ' id = some x) {id : Nat} {blk : Blk}
    (hb : ∀ b n, ρ id = some (some b, n) → w'.heap[b]? = w.heap[b]?) (h : BR A w ρ id blk) : BR A' w' ρ' id blk := by
  obtain ⟨ob, u, m, h1, h2, h3⟩ := h
  refine ⟨ob, u, m, hρ _ _ h1, VR.mono hA hw hρ _ _ h2, ?_⟩
  cases ob with
  | none => exact h3
  | some b =>
    obtain ⟨cs, fr, h4, h5⟩ := h3
    exact ⟨cs, fr, (hb b _ h1).trans h4, h5⟩

/-- A block that nobody else refers to has been turned. -/
theorem SimR.same {b : Nat} (h : SimR W0 Wr nt A ρ s a w) (hw : SameBut b w w') (hA : ¬ A b) (hW : W0.heap.size ≤ b) (ho : ∀ id blk n, s.m id = some blk → ρ id ≠ some (some b, n)) :
    SimR W0 Wr nt A ρ s a w' := by
  have hk : ∀ k, A k → w'.heap[k]? = w.heap[k]? := fun k hk => hw.block k (fun e => hA (e ▸ hk))
  refine ⟨h.dfr, h.tsz, fun j => (h.slot j).mono (fun _ h => h) hk (fun _ _ h => h), fun id blk hb => (h.mem id blk hb).mono (fun _ h => h) hk (fun _ _ h => h) (fun b' n hb' => hw.block b' (fun e => ho id blk n hb (e ▸ hb'))),
    h.inj, h.own, fun k hk => by rw [hw.size]; exact h.alive k hk, h.fresh, ⟨hw.os.trans h.fr.os, hw.tape.trans h.fr.tape, hw.output.trans h.fr.output, by rw [hw.size]; exact h.fr.size, fun k hk => ?_, h.fr.tr⟩⟩
  refine (hw.block k ?_).trans (h.fr.block k hk)
  rintro rfl
  omega

theorem BR.lt {id : Nat} {blk : Blk} {b : Nat} {n : Nat × Nat} (h : BR A w ρ id blk) (hr : ρ id = some (some b, n)) : b < w.heap.size := by
  obtain ⟨ob, u, m, h1, h2, h3⟩ := h
  rw [hr] at h1
  simp only [Option.some.injEq, Prod.mk.injEq] at h1
  obtain ⟨rfl, _⟩ := h1
  obtain ⟨cs, fr, h4, _⟩ := h3
  exact (Array.getElem?_eq_some_iff.1 h4).1

/-- More blocks, some of which may be read from now on. -/
theorem SimR.more (h : SimR W0 Wr nt A ρ s a w) (hm : More w w') (hA : ∀ b, A b → A' b) (hn : ∀ b, A' b → A b ∨ w.heap.size ≤ b) (hl : ∀ b, A' b → b < w'.heap.size) : SimR W0 Wr nt A' ρ s a w' := by
  have hk : ∀ k, A k → w'.heap[k]? = w.heap[k]? := fun k hk => hm.block k (h.alive k hk)
  refine ⟨h.dfr, h.tsz, fun j => (h.slot j).mono hA hk (fun _ _ h => h), fun id blk hb => (h.mem id blk hb).mono hA hk (fun _ _ h => h) (fun b' n hb' => hm.block b' ((h.mem id blk hb).lt hb')),
    h.inj, fun id blk b n hb ho hr => ⟨(h.own id blk b n hb ho hr).1, fun hA' => ?_⟩, hl, h.fresh,
    ⟨hm.os.trans h.fr.os, hm.tape.trans h.fr.tape, hm.output.trans h.fr.output, Nat.le_trans h.fr.size hm.size, fun k hk => (hm.block k (by have := h.fr.size; omega)).trans (h.fr.block k hk), fun b hb => (hn b hb).elim (h.fr.tr b) (fun hge => .inl (Nat.le_trans h.fr.size hge))⟩⟩
  rcases hn b hA' with h1 | h1
  · exact (h.own id blk b n hb ho hr).2 h1
  · have := (h.mem id blk hb).lt hr; omega

/-- A new id. -/
theorem SimR.ext (h : SimR W0 Wr nt A ρ s a w) {d : Nat} (hd : d < 9000) (x : Option Nat × Nat × Nat) :
    SimR W0 Wr nt A (upd ρ (mkId d (s.c d)) (some x)) { s with c := upd s.c d (s.c d + 1) } a w ∧ ρ (mkId d (s.c d)) = none ∧ s.m (mkId d (s.c d)) = none := by
  have hnone := h.fresh d (s.c d) hd (Nat.le_refl _)
  have hρ : ∀ id x', ρ id = some x' → upd ρ (mkId d (s.c d)) (some x) id = some x' := by
    intro id x' hx
    by_cases hj : id = mkId d (s.c d)
    · subst hj; rw [hnone] at hx; cases hx
    · rw [upd_ne _ _ hj]; exact hx
  have hm : s.m (mkId d (s.c d)) = none := by
    cases hmm : s.m (mkId d (s.c d)) with
    | none => rfl
    | some blk =>
      obtain ⟨ob, u, m, h1, _⟩ := h.mem _ _ hmm
      rw [hnone] at h1; cases h1
  have back : ∀ id blk y, s.m id = some blk → upd ρ (mkId d (s.c d)) (some x) id = some y → ρ id = some y := by
    intro id blk y hb hy
    by_cases hj : id = mkId d (s.c d)
    · subst hj; rw [hm] at hb; cases hb
    · rwa [upd_ne _ _ hj] at hy
  refine ⟨⟨h.dfr, h.tsz, fun j => (h.slot j).mono (fun _ h => h) (fun _ _ => rfl) hρ, fun id blk hb => (h.mem id blk hb).mono (fun _ h => h) (fun _ _ => rfl) hρ (fun _ _ _ => rfl),
    fun id id' blk blk' b n n' h1 h2 hne ho hr hr' => h.inj id id' blk blk' b n n' h1 h2 hne ho (back id blk _ h1 hr) (back id' blk' _ h2 hr'),
    fun id blk b n hb ho hr => h.own id blk b n hb ho (back id blk _ hb hr), h.alive, fun d' v hd' hv => ?_, h.fr⟩, hnone, hm⟩
  have hne : mkId d' v ≠ mkId d (s.c d) := by
    intro e
    obtain ⟨rfl, rfl⟩ := mkId_inj e hd' hd
    simp only [upd_self] at hv
    omega
  rw [upd_ne _ _ hne]
  refine h.fresh d' v hd' ?_
  simp only at hv
  by_cases hj : d' = d
  · subst hj; rw [upd_self] at hv; omega
  · rwa [upd_ne _ _ hj] at hv

/-- A block under an id. -/
theorem SimR.add (h : SimR W0 Wr nt A ρ s a w) {id b m : Nat} {blk : Blk} (hm : s.m id = none) (hρ : ρ id = some (some b, (blk.c.cnt, m))) (hb : W0.heap.size ≤ b) (hnA : ¬ A b)
    (ho : ∀ id' blk' n, s.m id' = some blk' → ρ id' ≠ some (some b, n)) (hbr : BR A w ρ id blk) : SimR W0 Wr nt A ρ { s with m := upd s.m id (some blk) } a w := by
  have key : ∀ id' blk', upd s.m id (some blk) id' = some blk' → (id' = id ∧ blk' = blk) ∨ (id' ≠ id ∧ s.m id' = some blk') := by
    intro id' blk' h1
    by_cases hj : id' = id
    · subst hj; rw [upd_self] at h1; exact .inl ⟨rfl, (Option.some.inj h1).symm⟩
    · rw [upd_ne _ _ hj] at h1; exact .inr ⟨hj, h1⟩
  refine ⟨h.dfr, h.tsz, h.slot, fun id' blk' h1 => ?_, fun id1 id2 blk1 blk2 b' n n' h1 h2 hne ho1 hr1 hr2 => ?_, fun id' blk' b' n h1 ho1 hr => ?_, h.alive, h.fresh, h.fr⟩
  · rcases key _ _ h1 with ⟨rfl, rfl⟩ | ⟨_, h1⟩
    · exact hbr
    · exact h.mem _ _ h1
  · rcases key _ _ h1 with ⟨e1, e2⟩ | ⟨_, g1⟩ <;> rcases key _ _ h2 with ⟨e3, e4⟩ | ⟨_, g2⟩
    · exact hne (e1.trans e3.symm)
    · rw [e1, hρ] at hr1
      simp only [Option.some.injEq, Prod.mk.injEq] at hr1
      exact ho id2 blk2 n' g2 (by rw [hr1.1]; exact hr2)
    · rw [e3, hρ] at hr2
      simp only [Option.some.injEq, Prod.mk.injEq] at hr2
      exact ho id1 blk1 n g1 (by rw [hr2.1]; exact hr1)
    · exact h.inj id1 id2 blk1 blk2 b' n n' g1 g2 hne ho1 hr1 hr2
  · rcases key _ _ h1 with ⟨rfl, rfl⟩ | ⟨_, h1⟩
    · rw [hρ] at hr
      simp only [Option.some.injEq, Prod.mk.injEq] at hr
      obtain ⟨rfl, _⟩ := hr
      exact ⟨hb, hnA⟩
    · exact h.own _ _ _ _ h1 ho1 hr

/-- A new block of one's own, in whatever new memory. -/
theorem SimR.new (h : SimR W0 Wr nt A ρ s a w) {d b m : Nat} {e : TypeId} {c : AV} {u : Value} {cs : Array Value} (hd : d < 9000) (hm : More w w') (hA : ∀ k, A k → k < w'.heap.size) (hb : w.heap.size ≤ b)
    (hc : VR A w' ρ c u) (hcell : w'.heap[b]? = some (.cells cs e (0, 0))) (hp : ∀ (j : Nat) x, u.cells[j]? = some x → cs[j]? = some x) (hcap : m * c.esz ≤ cs.size) :
    SimR W0 Wr nt A (upd ρ (mkId d (s.c d)) (some (some b, (c.cnt, m)))) { s with m := upd s.m (mkId d (s.c d)) (some ⟨e, true, c⟩), c := upd s.c d (s.c d + 1) } a w' := by
  have h1 := h.more hm (fun _ h => h) (fun _ h => .inl h) hA
  obtain ⟨h2, hnone, hmn⟩ := h1.ext hd (some b, (c.cnt, m))
  have hρ : ∀ id x', ρ id = some x' → upd ρ (mkId d (s.c d)) (some (some b, (c.cnt, m))) id = some x' := by
    intro id x' hx
    by_cases hj : id = mkId d (s.c d)
    · subst hj; rw [hnone] at hx; cases hx
    · rw [upd_ne _ _ hj]; exact hx
  refine h2.add (id := mkId d (s.c d)) (b := b) (blk := ⟨e, true, c⟩) hmn (by rw [upd_self]) (by have := h.fr.size; omega) (fun hAb => by have := h.alive b hAb; omega) ?_ ?_
  · intro id' blk' n hm' hr
    have hr' : ρ id' = some (some b, n) := by
      by_cases hj : id' = mkId d (s.c d)
      · subst hj; rw [hmn] at hm'; cases hm'
      · rwa [upd_ne _ _ hj] at hr
    have := (h.mem id' blk' hm').lt hr'
    omega
  · exact ⟨some b, u, m, by rw [upd_self], VR.mono (fun _ h => h) (fun _ _ => rfl) hρ _ _ hc, cs, (0, 0), hcell, hp, fun _ => rfl, hcap⟩

/-- What an operation gives. -/
def Gives (P : Program) (o : Oper) (a : Act) (w : World) (K : Value → World → Prop) : Prop :=
  match (execOp a.eval o).run P w with
  | .ok (.value x) w' => K x w'
  | .ok .skip w' => K undef w'
  | .ok (.enter f args) w' => Calls P f args w' fun e w'' => ∃ x, e = .returned x ∧ K x w''
  | _ => False

theorem Gives.wp {o : Oper} {K : Value → World → Prop} {next : Act → World → Prop} {Q : Exit → Act → World → Prop} (h : Gives P o a w K) (hn : ∀ x w', K x w' → next (a.put o.dst x) w') : o.wp P a w next Q := by
  unfold Gives at h
  unfold Oper.wp Oper.upon
  split at h
  · rename_i hr; rw [hr]; exact hn _ _ h
  · rename_i hr; rw [hr]; exact hn _ _ h
  · rename_i hr; rw [hr]
    refine h.mono ?_
    rintro e w'' ⟨x, rfl, hk⟩
    exact hn _ _ hk
  · exact h.elim

theorem Gives.val {o : Oper} {K : Value → World → Prop} {x : Value} (hr : (execOp a.eval o).run P w = .ok (.value x) w') (hk : K x w') : Gives P o a w K := by
  unfold Gives; rw [hr]; exact hk

theorem Gives.mono {o : Oper} {K K' : Value → World → Prop} (h : Gives P o a w K) (hk : ∀ x w', K x w' → K' x w') : Gives P o a w K' := by
  unfold Gives at *
  split at h
  · exact hk _ _ h
  · exact hk _ _ h
  · refine h.mono ?_
    rintro e w'' ⟨x, he, hx⟩
    exact ⟨x, he, hk _ _ hx⟩
  · exact h

/-- What an operation must give, given its effect. -/
def After (W0 : World) (Wr : Nat → Prop) (nt : Nat) (s : AS) (a : Act) (dst : Option Tmp) (f : Eff) (x : Value) (w' : World) : Prop :=
  ∃ A' ρ', SimR W0 Wr nt A' ρ' (s.put dst f) (a.put dst x) w'

theorem After.val (h : SimR W0 Wr nt A ρ s a w) {dst : Option Tmp} (hd : ∀ d, dst = some d → d < nt) {v : AV} {x : Value} (hv : SR A w ρ v x) {f : Eff} (hf : f.v = v) (h1 : f.up = []) (h2 : f.nw = []) : After W0 Wr nt s a dst f x w := by
  refine ⟨A, ρ, ?_⟩
  have := h.put hd hv
  unfold AS.put
  rw [h1, h2, hf]
  exact this
end
end Go.Proofs.Ytdkebceiljdgjaa
