/- Calls: what is handed over, what comes back. Own work, program-independent. -/
import Derived.Test.YtdkebceiljdgjaaSound15
namespace Go.Proofs.Ytdkebceiljdgjaa
open Go.RowKit (Below)

def ρ0 : Rho := fun _ => none

theorem VR.plain {A A' : Nat → Prop} {w w' : World} {ρ ρ' : Rho} {c : AV} {u : Value} (hp : c.plain = true) (h : VR A w ρ c u) : VR A' w' ρ' c u := by
  cases c <;> first | (cases hp; done) | simpa only [VR] using h

/-- A is grown by the blocks of some ids. -/
def Lent (A : Nat → Prop) (m : Nat → Option Blk) (ρ : Rho) (ids : List Nat) : Nat → Prop := fun b => A b ∨ ∃ id ∈ ids, ∃ blk n, m id = some blk ∧ blk.own = true ∧ ρ id = some (some b, n)

section
variable {A A' : Nat → Prop} {w w' : World} {ρ ρ' : Rho} {m : Nat → Option Blk}

theorem sl_of_wsl (hm : ∀ id blk, m id = some blk → BR A w ρ id blk) {id : Nat} {blk : Blk} (hb : m id = some blk) (ho : blk.own = true) (hp : blk.c.plain = true) {x : Value} (h : VR A w ρ (.wsl id) x) {ids : List Nat} (hi : id ∈ ids) : VR (Lent A m ρ ids) w ρ' (.sl blk.c) x := by
  obtain ⟨ob, u, k, h1, h2, h3⟩ := hm id blk hb
  simp only [VR] at h ⊢
  obtain ⟨ob', n, g1, g2⟩ := h
  rw [h1] at g1
  simp only [Option.some.injEq, Prod.mk.injEq] at g1
  obtain ⟨rfl, rfl⟩ := g1
  refine ⟨u, h2.plain hp, ?_⟩
  rcases g2 with ⟨g2, rfl⟩ | ⟨b, cap, rfl, rfl, g3, g4⟩
  · exact .inl ⟨g2, none, 0, rfl⟩
  · obtain ⟨cs, fr, h4, h5, h6⟩ := h3
    refine .inr ⟨b, 0, cap, .inr ⟨id, hi, blk, _, hb, ho, h1⟩, rfl, g3, fun j q hj => ?_⟩
    rw [Nat.zero_add]
    simp [World.cell?, h4, h5 j q hj]

mutual
theorem deepA_spec (hm : ∀ id blk, m id = some blk → BR A w ρ id blk) : ∀ (v v' : AV) (ids all : List Nat) (x : Value), deepA m v = some (v', ids) → (∀ i ∈ ids, i ∈ all) → VR A w ρ v x → VR (Lent A m ρ all) w ρ0 v' x
  | .wsl id, v', ids, all, x, hd, ha, h => by
    simp only [deepA] at hd
    split at hd
    case h_2 => cases hd
    rename_i blk hb
    have hd2 := cond_some hd
    obtain ⟨hp, hd⟩ := hd2
    simp only [Option.some.injEq, Prod.mk.injEq, Bool.and_eq_true] at hd hp
    obtain ⟨rfl, rfl⟩ := hd
    exact sl_of_wsl hm hb hp.1 hp.2 h (ha id (by simp))
  | .sl c, v', ids, all, x, hd, ha, h => by
    simp only [deepA] at hd
    have hd2 := cond_some hd
    obtain ⟨hp, hd⟩ := hd2
    simp only [Option.some.injEq, Prod.mk.injEq] at hd
    obtain ⟨rfl, rfl⟩ := hd
    simp only [VR] at h ⊢
    obtain ⟨u, h1, h2⟩ := h
    refine ⟨u, h1.plain hp, ?_⟩
    rcases h2 with h2 | ⟨b, off, cap, h2, h3, h4, h5⟩
    · exact .inl h2
    · exact .inr ⟨b, off, cap, .inl h2, h3, h4, h5⟩
  | .st ps, v', ids, all, x, hd, ha, h => by
    simp only [deepA, Option.map_eq_some_iff] at hd
    obtain ⟨⟨qs, js⟩, hq, hd⟩ := hd
    simp only [Prod.mk.injEq] at hd
    obtain ⟨rfl, rfl⟩ := hd
    simp only [VR] at h ⊢
    obtain ⟨cs, h1, h2⟩ := h
    exact ⟨cs, deepAs_specC hm ps qs js all cs hq ha h1, h2⟩
  | .iface t y, v', ids, all, x, hd, ha, h => by
    simp only [deepA, Option.map_eq_some_iff] at hd
    obtain ⟨⟨q, js⟩, hq, hd⟩ := hd
    simp only [Prod.mk.injEq] at hd
    obtain ⟨rfl, rfl⟩ := hd
    simp only [VR] at h ⊢
    obtain ⟨z, h1, h2⟩ := h
    exact ⟨z, deepA_spec hm y q js all z hq ha h1, h2⟩
  | .dead, _, _, _, _, hd, _, _ => by simp [deepA] at hd
  | .tup _, _, _, _, _, hd, _, _ => by simp [deepA] at hd
  | .ptr _ _ _ _, _, _, _, _, hd, _, _ => by simp [deepA] at hd
  | .pt _ _ _ _, _, _, _, _, hd, _, _ => by simp [deepA] at hd
  | .osl _ _, _, _, _, _, hd, _, _ => by simp [deepA] at hd
  | .bool b, v', ids, all, x, hd, _, h => by simp only [deepA, Option.some.injEq, Prod.mk.injEq] at hd; obtain ⟨rfl, rfl⟩ := hd; simpa only [VR] using h
  | .int _ _, v', ids, all, x, hd, _, h => by simp only [deepA, Option.some.injEq, Prod.mk.injEq] at hd; obtain ⟨rfl, rfl⟩ := hd; simpa only [VR] using h
  | .ints _ _ _, v', ids, all, x, hd, _, h => by simp only [deepA, Option.some.injEq, Prod.mk.injEq] at hd; obtain ⟨rfl, rfl⟩ := hd; simpa only [VR] using h
  | .prs _ _ _, v', ids, all, x, hd, _, h => by simp only [deepA, Option.some.injEq, Prod.mk.injEq] at hd; obtain ⟨rfl, rfl⟩ := hd; simpa only [VR] using h
  | .nilp, v', ids, all, x, hd, _, h => by simp only [deepA, Option.some.injEq, Prod.mk.injEq] at hd; obtain ⟨rfl, rfl⟩ := hd; simpa only [VR] using h
  | .nils, v', ids, all, x, hd, _, h => by simp only [deepA, Option.some.injEq, Prod.mk.injEq] at hd; obtain ⟨rfl, rfl⟩ := hd; simpa only [VR] using h
  | .func _, v', ids, all, x, hd, _, h => by simp only [deepA, Option.some.injEq, Prod.mk.injEq] at hd; obtain ⟨rfl, rfl⟩ := hd; simpa only [VR] using h
  | .nili, v', ids, all, x, hd, _, h => by simp only [deepA, Option.some.injEq, Prod.mk.injEq] at hd; obtain ⟨rfl, rfl⟩ := hd; simpa only [VR] using h
  | .con _, v', ids, all, x, hd, _, h => by simp only [deepA, Option.some.injEq, Prod.mk.injEq] at hd; obtain ⟨rfl, rfl⟩ := hd; simpa only [VR] using h
theorem deepAs_specC (hm : ∀ id blk, m id = some blk → BR A w ρ id blk) : ∀ (ps ps' : List AV) (ids all : List Nat) (cs : List Value), deepAs m ps = some (ps', ids) → (∀ i ∈ ids, i ∈ all) → CRs A w ρ ps cs → CRs (Lent A m ρ all) w ρ0 ps' cs
  | [], ps', ids, all, cs, hd, _, h => by
    simp only [deepAs, Option.some.injEq, Prod.mk.injEq] at hd
    obtain ⟨rfl, rfl⟩ := hd
    simpa only [CRs] using h
  | p :: ps, ps', ids, all, cs, hd, ha, h => by
    simp only [deepAs] at hd
    split at hd
    case h_2 => cases hd
    rename_i x hx
    split at hd
    case h_2 => cases hd
    rename_i y hy
    simp only [Option.some.injEq, Prod.mk.injEq] at hd
    obtain ⟨rfl, rfl⟩ := hd
    simp only [CRs] at h ⊢
    obtain ⟨v, cs', h1, h2, h3⟩ := h
    exact ⟨v, cs', deepA_spec hm p x.1 x.2 all v hx (fun i hi => ha i (by simp [hi])) h1, deepAs_specC hm ps y.1 y.2 all cs' hy (fun i hi => ha i (by simp [hi])) h2, h3⟩
end

theorem deepA_live {v v' : AV} {ids : List Nat} (h : deepA m v = some (v', ids)) : v.live = true := by
  cases v <;> first | rfl | (simp [deepA] at h; done)

/-- Operands that are handed over. -/
theorem deepAs_spec (hm : ∀ id blk, m id = some blk → BR A w ρ id blk) (t : Nat → AV) (a : Act) (hs : ∀ x, SR A w ρ (ev t x) (a.eval x)) : ∀ (xs : List Operand) (ps' : List AV) (ids all : List Nat), deepAs m (xs.map (ev t)) = some (ps', ids) → (∀ i ∈ ids, i ∈ all) → VRs (Lent A m ρ all) w ρ0 ps' (xs.map a.eval)
  | [], ps', ids, all, hd, _ => by
    simp only [List.map_nil, deepAs, Option.some.injEq, Prod.mk.injEq] at hd
    obtain ⟨rfl, rfl⟩ := hd
    simp [VRs]
  | x :: xs, ps', ids, all, hd, ha => by
    simp only [List.map_cons, deepAs] at hd
    split at hd
    case h_2 => cases hd
    rename_i p hx
    split at hd
    case h_2 => cases hd
    rename_i y hy
    simp only [Option.some.injEq, Prod.mk.injEq] at hd
    obtain ⟨rfl, rfl⟩ := hd
    simp only [List.map_cons, VRs]
    exact ⟨_, _, deepA_spec hm _ p.1 p.2 all _ hx (fun i hi => ha i (by simp [hi])) ((hs x).vr (deepA_live hx)), deepAs_spec hm t a hs xs y.1 y.2 all hy (fun i hi => ha i (by simp [hi])), rfl⟩
end

/-- What a callee hands back, and which blocks are its reader's own from then on. -/
def R1 (A : Nat → Prop) (w : World) : AV → Value → List Nat → Prop
  | .osl e c, v, bs => ∃ u, VR A w ρ0 c u ∧ ((c.cnt = 0 ∧ u.cells.size = 0 ∧ v = .slice none 0 0 ∧ bs = []) ∨
      ∃ b cap cs, bs = [b] ∧ v = .slice (some ⟨b, 0, none⟩) c.cnt cap ∧ c.cnt ≤ cap ∧ w.heap[b]? = some (.cells cs e (0, 0)) ∧ (∀ (j : Nat) x, u.cells[j]? = some x → (cs : Array Value)[j]? = some x) ∧ cap * c.esz ≤ cs.size)
  | r, v, bs => VR A w ρ0 r v ∧ bs = []

def Rs (A : Nat → Prop) (w : World) : List AV → List Value → List Nat → Prop
  | [], vs, bs => vs = [] ∧ bs = []
  | p :: ps, vs, bs => ∃ v vs' b1 b2, R1 A w p v b1 ∧ Rs A w ps vs' b2 ∧ vs = v :: vs' ∧ bs = b1 ++ b2

def RR (A : Nat → Prop) (w : World) : AV → Value → List Nat → Prop
  | .tup ps, v, bs => ∃ vs, Rs A w ps vs bs ∧ v = .tuple vs.toArray
  | r, v, bs => R1 A w r v bs

/-- A call, from within the machine's step: of a function with a body, or without one. -/
def Inv (P : Program) (f : FuncId) (args : Array Value) (w : World) (K : Value → World → Prop) : Prop :=
  match (callFunc f args).run P w with
  | .ok (.value x) w' => K x w'
  | .ok (.enter f args) w' => Calls P f args w' fun e w'' => ∃ x, e = .returned x ∧ K x w''
  | _ => False

structure EntOk (P : Program) (f : FuncId) (en : Ent) : Prop where
  law : EntLaw en
  ok : ∀ n args r, en.go AV n args some = some r → ∀ (A : Nat → Prop) (w : World) (vs : List Value), (∀ b, A b → b < w.heap.size) → VRs A w ρ0 args vs →
    Inv P f vs.toArray w fun x w' => More w w' ∧ ∃ (Ar : Nat → Prop) (bs : List Nat), (∀ b, Ar b → b < w'.heap.size ∧ ((en.frz = true ∧ A b) ∨ w.heap.size ≤ b)) ∧ (∀ b ∈ bs, w.heap.size ≤ b ∧ ¬ Ar b) ∧ bs.Nodup ∧ RR Ar w' r x bs

def OrcOk (P : Program) (E : Env) : Prop := ∀ f en, lk E.orc f = some en → EntOk P f en

theorem OrcOk.law {P : Program} {E : Env} (h : OrcOk P E) : OrcLaw E := fun f en hf => (h f en hf).law

section
variable {P : Program} {E : Env} {W0 : World} {Wr : Nat → Prop} {nt : Nat} {A A' : Nat → Prop} {ρ ρ' : Rho} {s : AS} {a : Act} {w w' : World} {o : Oper} {f : Eff}

theorem SimR.addNil (h : SimR W0 Wr nt A ρ s a w) {id : Nat} {blk : Blk} {x : Nat × Nat} (hρ : ρ id = some (none, x)) (hbr : BR A w ρ id blk) : SimR W0 Wr nt A ρ { s with m := upd s.m id (some blk) } a w := by
  have key : ∀ id' blk', upd s.m id (some blk) id' = some blk' → (id' = id ∧ blk' = blk) ∨ (id' ≠ id ∧ s.m id' = some blk') := by
    intro id' blk' h1
    by_cases hj : id' = id
    · subst hj; rw [upd_self] at h1; exact .inl ⟨rfl, (Option.some.inj h1).symm⟩
    · rw [upd_ne _ _ hj] at h1; exact .inr ⟨hj, h1⟩
  refine ⟨h.dfr, h.tsz, h.slot, fun id' blk' h1 => ?_, fun id1 id2 blk1 blk2 b' n n' h1 h2 hne ho1 hr1 hr2 => ?_, fun id' blk' b' n h1 ho1 hr => ?_, h.alive, h.fresh, h.fr⟩
  · rcases key _ _ h1 with ⟨rfl, rfl⟩ | ⟨_, h1⟩
    · exact hbr
    · exact h.mem _ _ h1
  · rcases key _ _ h1 with ⟨e1, e2⟩ | ⟨_, g1⟩ <;> rcases key _ _ h2 with ⟨e3, e4⟩ | ⟨_, g2⟩
    · exact hne (e1.trans e3.symm)
    · rw [e1, hρ] at hr1; cases hr1
    · rw [e3, hρ] at hr2; cases hr2
    · exact h.inj id1 id2 blk1 blk2 b' n n' g1 g2 hne ho1 hr1 hr2
  · rcases key _ _ h1 with ⟨rfl, rfl⟩ | ⟨_, h1⟩
    · rw [hρ] at hr; cases hr
    · exact h.own _ _ _ _ h1 ho1 hr

mutual
theorem deepA_ids {m : Nat → Option Blk} : ∀ (v v' : AV) (ids : List Nat), deepA m v = some (v', ids) → ∀ i ∈ ids, ∃ blk, m i = some blk
  | .wsl id, v', ids, hd => by
    simp only [deepA] at hd
    split at hd
    case h_2 => cases hd
    rename_i blk hb
    have hd2 := cond_some hd
    obtain ⟨hp, hd⟩ := hd2
    simp only [Option.some.injEq, Prod.mk.injEq] at hd
    obtain ⟨rfl, rfl⟩ := hd
    intro i hi
    simp only [List.mem_singleton] at hi
    subst hi
    exact ⟨blk, hb⟩
  | .sl c, v', ids, hd => by
    simp only [deepA] at hd
    have hd2 := cond_some hd
    obtain ⟨hp, hd⟩ := hd2
    simp only [Option.some.injEq, Prod.mk.injEq] at hd
    obtain ⟨rfl, rfl⟩ := hd
    simp
  | .st ps, v', ids, hd => by
    simp only [deepA, Option.map_eq_some_iff] at hd
    obtain ⟨⟨qs, js⟩, hq, hd⟩ := hd
    simp only [Prod.mk.injEq] at hd
    obtain ⟨rfl, rfl⟩ := hd
    exact deepAs_ids ps qs js hq
  | .iface t y, v', ids, hd => by
    simp only [deepA, Option.map_eq_some_iff] at hd
    obtain ⟨⟨q, js⟩, hq, hd⟩ := hd
    simp only [Prod.mk.injEq] at hd
    obtain ⟨rfl, rfl⟩ := hd
    exact deepA_ids y q js hq
  | .dead, _, _, hd => by simp [deepA] at hd
  | .tup _, _, _, hd => by simp [deepA] at hd
  | .ptr _ _ _ _, _, _, hd => by simp [deepA] at hd
  | .pt _ _ _ _, _, _, hd => by simp [deepA] at hd
  | .osl _ _, _, _, hd => by simp [deepA] at hd
  | .bool b, v', ids, hd => by simp only [deepA, Option.some.injEq, Prod.mk.injEq] at hd; obtain ⟨rfl, rfl⟩ := hd; simp
  | .int _ _, v', ids, hd => by simp only [deepA, Option.some.injEq, Prod.mk.injEq] at hd; obtain ⟨rfl, rfl⟩ := hd; simp
  | .ints _ _ _, v', ids, hd => by simp only [deepA, Option.some.injEq, Prod.mk.injEq] at hd; obtain ⟨rfl, rfl⟩ := hd; simp
  | .prs _ _ _, v', ids, hd => by simp only [deepA, Option.some.injEq, Prod.mk.injEq] at hd; obtain ⟨rfl, rfl⟩ := hd; simp
  | .nilp, v', ids, hd => by simp only [deepA, Option.some.injEq, Prod.mk.injEq] at hd; obtain ⟨rfl, rfl⟩ := hd; simp
  | .nils, v', ids, hd => by simp only [deepA, Option.some.injEq, Prod.mk.injEq] at hd; obtain ⟨rfl, rfl⟩ := hd; simp
  | .func _, v', ids, hd => by simp only [deepA, Option.some.injEq, Prod.mk.injEq] at hd; obtain ⟨rfl, rfl⟩ := hd; simp
  | .nili, v', ids, hd => by simp only [deepA, Option.some.injEq, Prod.mk.injEq] at hd; obtain ⟨rfl, rfl⟩ := hd; simp
  | .con _, v', ids, hd => by simp only [deepA, Option.some.injEq, Prod.mk.injEq] at hd; obtain ⟨rfl, rfl⟩ := hd; simp
theorem deepAs_ids {m : Nat → Option Blk} : ∀ (ps ps' : List AV) (ids : List Nat), deepAs m ps = some (ps', ids) → ∀ i ∈ ids, ∃ blk, m i = some blk
  | [], ps', ids, hd => by
    simp only [deepAs, Option.some.injEq, Prod.mk.injEq] at hd
    obtain ⟨rfl, rfl⟩ := hd
    simp
  | p :: ps, ps', ids, hd => by
    simp only [deepAs] at hd
    split at hd
    case h_2 => cases hd
    rename_i x hx
    split at hd
    case h_2 => cases hd
    rename_i y hy
    simp only [Option.some.injEq, Prod.mk.injEq] at hd
    obtain ⟨rfl, rfl⟩ := hd
    intro i hi
    rw [List.mem_append] at hi
    rcases hi with hi | hi
    · exact deepA_ids p x.1 x.2 hx i hi
    · exact deepAs_ids ps y.1 y.2 hy i hi
end

theorem R1.mono (hA : ∀ b, A b → A' b) {p : AV} {v : Value} {bs : List Nat} (h : R1 A w p v bs) : R1 A' w p v bs := by
  cases p
  case osl e c =>
    simp only [R1] at h ⊢
    obtain ⟨u, h1, h2⟩ := h
    exact ⟨u, VR.mono hA (fun _ _ => rfl) (fun _ _ h => h) _ _ h1, h2⟩
  all_goals exact ⟨VR.mono hA (fun _ _ => rfl) (fun _ _ h => h) _ _ h.1, h.2⟩

theorem Rs.mono (hA : ∀ b, A b → A' b) : ∀ (ps : List AV) (vs : List Value) (bs : List Nat), Rs A w ps vs bs → Rs A' w ps vs bs
  | [], _, _, h => h
  | p :: ps, vs, bs, h => by
    simp only [Rs] at h ⊢
    obtain ⟨v, vs', b1, b2, r1, r2, h3, h4⟩ := h
    exact ⟨v, vs', b1, b2, r1.mono hA, Rs.mono hA ps vs' b2 r2, h3, h4⟩

theorem RR.mono (hA : ∀ b, A b → A' b) {p : AV} {v : Value} {bs : List Nat} (h : RR A w p v bs) : RR A' w p v bs := by
  cases p
  case tup ps =>
    simp only [RR] at h ⊢
    obtain ⟨vs, h1, h2⟩ := h
    exact ⟨vs, Rs.mono hA ps vs bs h1, h2⟩
  all_goals (simp only [RR] at h ⊢; exact R1.mono hA h)

theorem bumps_notin (c : Nat → Nat) (i : Nat) : ∀ (l : List Nat), i ∉ l → bumps c l i = c i
  | [], _ => rfl
  | d :: r, h => by
    simp only [List.mem_cons, not_or] at h
    simp only [bumps]
    rw [upd_ne _ _ h.1, bumps_notin c i r h.2]

theorem resTup_nw (s : AS) (d : Nat) : ∀ (ps : List AV) (j i : Nat), i ∈ (resTup s d j ps).2.2 → d + 1000 * j ≤ i
  | [], j, i, h => by simp [resTup] at h
  | p :: ps, j, i, h => by
    have ih := resTup_nw s d ps (j + 1) i
    cases p
    case osl e c =>
      simp only [resTup, List.mem_cons] at h
      rcases h with rfl | h
      · exact Nat.le_refl _
      · have := ih h; omega
    all_goals (simp only [resTup] at h; have := ih h; omega)

theorem R1.vr {p : AV} {v : Value} {bs : List Nat} (hp : ∀ e c, p ≠ .osl e c) (h : R1 A w p v bs) : VR A w ρ0 p v ∧ bs = [] := by
  cases p
  case osl e c => exact absurd rfl (hp e c)
  all_goals exact h

theorem VR.of0 {p : AV} {v : Value} (h : VR A w ρ0 p v) : VR A w ρ p v := VR.mono (fun _ h => h) (fun _ _ => rfl) (fun id x h => by simp [ρ0] at h) p v h

/-- What comes back becomes one's own. -/
theorem resTup_sound (B : Nat) (hWB : W0.heap.size ≤ B) (d : Nat) (hd : d < 1000) : ∀ (ps : List AV) (j : Nat) (vs : List Value) (bs : List Nat), j + ps.length ≤ 8 →
    SimR W0 Wr nt A ρ s a w → (∀ id blk b n, s.m id = some blk → ρ id = some (some b, n) → b < B) → Rs A w ps vs bs → (∀ b ∈ bs, B ≤ b ∧ ¬ A b) → bs.Nodup →
    ∃ ρ', SimR W0 Wr nt A ρ' { s with m := ups s.m (resTup s d j ps).2.1, c := bumps s.c (resTup s d j ps).2.2 } a w ∧ VRs A w ρ' (resTup s d j ps).1 vs ∧
      (∀ id blk b n, ups s.m (resTup s d j ps).2.1 id = some blk → ρ' id = some (some b, n) → b < B ∨ b ∈ bs)
  | [], j, vs, bs, hj, h, ho, hr, hb, hn => by
    simp only [Rs] at hr
    obtain ⟨rfl, rfl⟩ := hr
    exact ⟨ρ, h, by simp [resTup, VRs], fun id blk b n h1 h2 => .inl (ho id blk b n h1 h2)⟩
  | p :: ps, j, vs, bs, hj, h, ho, hr, hb, hn => by
    simp only [List.length_cons] at hj
    simp only [Rs] at hr
    obtain ⟨v, vs', b1, b2, r1, r2, rfl, rfl⟩ := hr
    rw [List.nodup_append] at hn
    obtain ⟨n1, n2, n3⟩ := hn
    obtain ⟨ρ1, g1, g2, g3⟩ := resTup_sound B hWB d hd ps (j + 1) vs' b2 (by omega) h ho r2 (fun b hb' => hb b (by simp [hb'])) n2
    by_cases hp : ∃ e c, p = .osl e c
    · obtain ⟨e, c, rfl⟩ := hp
      simp only [R1] at r1
      obtain ⟨u, hu, r1⟩ := r1
      have hc : bumps s.c (resTup s d (j + 1) ps).2.2 (d + 1000 * j) = s.c (d + 1000 * j) := bumps_notin _ _ _ (fun hm => by have := resTup_nw s d ps _ _ hm; omega)
      simp only [resTup, ups, bumps]
      rcases r1 with ⟨hc0, hu0, rfl, rfl⟩ | ⟨b, cap, cs, rfl, rfl, hcap, hcell, hpre, hroom⟩
      · obtain ⟨t2, hnone, hmn⟩ := g1.ext (d := d + 1000 * j) (by omega) (none, (c.cnt, 0))
        simp only [hc] at t2 hnone hmn
        have hρ : ∀ id x', ρ1 id = some x' → upd ρ1 (mkId (d + 1000 * j) (s.c (d + 1000 * j))) (some (none, (c.cnt, 0))) id = some x' := by
          intro id x' hx
          by_cases hj : id = mkId (d + 1000 * j) (s.c (d + 1000 * j))
          · rw [hj, hnone] at hx; cases hx
          · rw [upd_ne _ _ hj]; exact hx
        have t3 := t2.addNil (id := mkId (d + 1000 * j) (s.c (d + 1000 * j))) (blk := ⟨e, true, c⟩) (by rw [upd_self]) ⟨none, u, 0, by rw [upd_self], hu.of0, hu0⟩
        refine ⟨_, by rw [hc]; exact t3, ?_, fun id blk b n h1 h2 => ?_⟩
        · simp only [VRs]
          refine ⟨_, vs', ?_, VRs.mono (fun _ h => h) (fun _ _ => rfl) hρ _ _ g2, rfl⟩
          simp only [VR]
          exact ⟨none, (c.cnt, 0), by rw [upd_self], by simp [hc0]⟩
        · by_cases hj : id = mkId (d + 1000 * j) (s.c (d + 1000 * j))
          · subst hj; rw [upd_self] at h2; cases h2
          · rw [upd_ne _ _ hj] at h1 h2
            simpa using g3 id blk b n h1 h2
      · obtain ⟨t2, hnone, hmn⟩ := g1.ext (d := d + 1000 * j) (by omega) (some b, (c.cnt, cap))
        simp only [hc] at t2 hnone hmn
        have hρ : ∀ id x', ρ1 id = some x' → upd ρ1 (mkId (d + 1000 * j) (s.c (d + 1000 * j))) (some (some b, (c.cnt, cap))) id = some x' := by
          intro id x' hx
          by_cases hj : id = mkId (d + 1000 * j) (s.c (d + 1000 * j))
          · rw [hj, hnone] at hx; cases hx
          · rw [upd_ne _ _ hj]; exact hx
        have hbB := hb b (by simp)
        have hfar : ∀ id' blk' n, ups s.m (resTup s d (j + 1) ps).2.1 id' = some blk' → upd ρ1 (mkId (d + 1000 * j) (s.c (d + 1000 * j))) (some (some b, (c.cnt, cap))) id' ≠ some (some b, n) := by
          intro id' blk' n h1 h2
          by_cases hj : id' = mkId (d + 1000 * j) (s.c (d + 1000 * j))
          · subst hj; rw [hmn] at h1; cases h1
          · rw [upd_ne _ _ hj] at h2
            rcases g3 id' blk' b n h1 h2 with h3 | h3
            · omega
            · exact n3 b (by simp) b h3 rfl
        have t3 := t2.add (id := mkId (d + 1000 * j) (s.c (d + 1000 * j))) (b := b) (m := cap) (blk := ⟨e, true, c⟩) hmn (by rw [upd_self]) (by omega) hbB.2 hfar
          ⟨some b, u, cap, by rw [upd_self], hu.of0, cs, (0, 0), hcell, hpre, fun _ => rfl, hroom⟩
        refine ⟨_, by rw [hc]; exact t3, ?_, fun id blk b' n h1 h2 => ?_⟩
        · simp only [VRs]
          refine ⟨_, vs', ?_, VRs.mono (fun _ h => h) (fun _ _ => rfl) hρ _ _ g2, rfl⟩
          exact SR_wsl (A := A) (w := w) (by rw [upd_self]) hcap (Nat.le_refl _)
        · by_cases hj : id = mkId (d + 1000 * j) (s.c (d + 1000 * j))
          · subst hj; rw [upd_self] at h2
            simp only [Option.some.injEq, Prod.mk.injEq] at h2
            exact .inr (by simp [h2.1])
          · rw [upd_ne _ _ hj] at h1 h2
            rcases g3 id blk b' n h1 h2 with h3 | h3
            · exact .inl h3
            · exact .inr (by simp [h3])
    · have hp' : ∀ e c, p ≠ .osl e c := fun e c h => hp ⟨e, c, h⟩
      obtain ⟨hv, rfl⟩ := r1.vr hp'
      have e1 : resTup s d j (p :: ps) = (p :: (resTup s d (j + 1) ps).1, (resTup s d (j + 1) ps).2.1, (resTup s d (j + 1) ps).2.2) := by
        cases p <;> first | rfl | exact absurd rfl (hp' _ _)
      rw [e1]
      exact ⟨ρ1, g1, by simp only [VRs]; exact ⟨v, vs', hv.of0, g2, rfl⟩, fun id blk b n h1 h2 => by simpa using g3 id blk b n h1 h2⟩

theorem resA_sound (B : Nat) (hWB : W0.heap.size ≤ B) (hnt : nt ≤ 1000) (h : SimR W0 Wr nt A ρ s a w) (ho : ∀ id blk b n, s.m id = some blk → ρ id = some (some b, n) → b < B) {dst : Option Tmp} (hdst : ∀ d, dst = some d → d < nt)
    {r : AV} {rd bs : List Nat} {x : Value} (hf : resA s dst rd r = some f) (hr : RR A w r x bs) (hb : ∀ b ∈ bs, B ≤ b ∧ ¬ A b) (hn : bs.Nodup) : After W0 Wr nt s a dst f x w := by
  unfold resA at hf
  split at hf
  · rename_i e c d
    have hdn : (d : Nat) < 1000 := Nat.lt_of_lt_of_le (hdst d rfl) hnt
    have hr' : Rs A w [.osl e c] [x] bs := by
      simp only [Rs]
      exact ⟨x, [], bs, [], hr, ⟨rfl, rfl⟩, rfl, by simp⟩
    obtain ⟨ρ', g1, g2, _⟩ := resTup_sound B hWB d hdn [.osl e c] 0 [x] bs (by simp) h ho hr' hb hn
    simp only [Option.some.injEq] at hf
    subst hf
    simp only [resTup, Nat.mul_zero, Nat.add_zero, VRs] at g1 g2
    obtain ⟨v, vs', hv, hvs, he⟩ := g2
    simp only [List.cons.injEq] at he
    obtain ⟨rfl, _⟩ := he
    exact ⟨A, ρ', g1.put hdst hv.sr⟩
  · simp only [Option.some.injEq] at hf
    subst hf
    exact ⟨A, ρ, h.put hdst (v := .dead) trivial⟩
  · rename_i ps d
    have hdn : (d : Nat) < 1000 := Nat.lt_of_lt_of_le (hdst d rfl) hnt
    have hf2 := cond_some hf
    obtain ⟨hl, hf⟩ := hf2
    simp only [RR] at hr
    obtain ⟨vs, hr, rfl⟩ := hr
    obtain ⟨ρ', g1, g2, _⟩ := resTup_sound B hWB d hdn ps 0 vs bs (by have := Nat.le_of_ble_eq_true hl; omega) h ho hr hb hn
    simp only [Option.some.injEq] at hf
    subst hf
    refine ⟨A, ρ', g1.put hdst (v := .tup (resTup s d 0 ps).1) ?_⟩
    simp only [SR]
    exact ⟨vs, g2, rfl⟩
  · simp only [Option.some.injEq] at hf
    subst hf
    exact ⟨A, ρ, h.put hdst (v := .dead) trivial⟩
  · rename_i h1 h2 h3 h4
    simp only [Option.some.injEq] at hf
    subst hf
    have hp1 : ∀ ps, r ≠ .tup ps := by
      intro ps e
      subst e
      cases dst with
      | none => exact h4 _ rfl rfl
      | some d => exact h3 _ _ rfl rfl
    have hp2 : ∀ e c, r ≠ .osl e c := by
      intro e c e'
      subst e'
      cases dst with
      | none => exact h2 _ _ rfl rfl
      | some d => exact h1 _ _ _ rfl rfl
    have hr' : R1 A w r x bs := by
      cases r
      case tup ps => exact absurd rfl (hp1 ps)
      all_goals exact hr
    obtain ⟨hv, rfl⟩ := hr'.vr hp2
    exact ⟨A, ρ, h.put hdst (v := r) (VR.sr hv.of0)⟩

theorem sound_callee (hO : OrcOk P E) (hE : E.nt ≤ 1000) {c : Call} {g : Operand} (ho : o.op = .call c) (hc : c.callee = .value g) (h : SimR W0 Wr E.nt A ρ s a w) (hd : okDst E o.dst = true) (hf : opA E s o.dst o.op some = some f) :
    Gives P o a w (After W0 Wr E.nt s a o.dst f) := by
  rw [ho] at hf
  simp only [opA, hc] at hf
  split at hf
  case h_2 => cases hf
  rename_i fid hg
  split at hf
  case h_2 => cases hf
  rename_i en ps rd hen hargs
  have hf2 := cond_none hf
  obtain ⟨hfr, hf⟩ := hf2
  have hen' := hO _ _ hen
  rw [hen'.law, Option.bind_eq_some_iff] at hf
  obtain ⟨r, hr, hf⟩ := hf
  split at hf
  case h_2 => cases hf
  rename_i f' hres
  simp only [Option.some.injEq] at hf
  subst hf
  have hgv := h.ev g
  rw [hg] at hgv
  simp only [SR, VR] at hgv
  have hexec : execOp a.eval o = callFunc fid (c.args.map a.eval) := by
    unfold execOp
    rw [ho]
    simp only [resolve, hc, hgv]
    show callFunc fid (#[] ++ c.args.map a.eval ++ #[]) = _
    simp
  have hvs : VRs (Lent A s.m ρ rd) w ρ0 ps (c.args.toList.map a.eval) := deepAs_spec h.mem s.t a h.ev c.args.toList ps rd rd hargs (fun _ h => h)
  have halive : ∀ b, Lent A s.m ρ rd b → b < w.heap.size := by
    rintro b (hb | ⟨id, hi, blk, n, hblk, _, hb⟩)
    · exact h.alive b hb
    · exact (h.mem id blk hblk).lt hb
  have hinv := hen'.ok E.n ps r hr (Lent A s.m ρ rd) w (c.args.toList.map a.eval) halive hvs
  have hargs' : (c.args.toList.map a.eval).toArray = c.args.map a.eval := by rw [← Array.toList_map]
  rw [hargs'] at hinv
  have fin : ∀ x w', (More w w' ∧ ∃ (Ar : Nat → Prop) (bs : List Nat), (∀ b, Ar b → b < w'.heap.size ∧ ((en.frz = true ∧ Lent A s.m ρ rd b) ∨ w.heap.size ≤ b)) ∧ (∀ b ∈ bs, w.heap.size ≤ b ∧ ¬ Ar b) ∧ bs.Nodup ∧ RR Ar w' r x bs) → After W0 Wr E.nt s a o.dst f' x w' := by
    rintro x w' ⟨hm, Ar, bs, hAr, hbs, hnd, hRR⟩
    have hold : ∀ b, Ar b → A b ∨ w.heap.size ≤ b := by
      intro b hb
      rcases (hAr b hb).2 with ⟨hfz, hl⟩ | hge
      · rw [hfz] at hfr
        cases rd with
        | cons i r => cases hfr
        | nil =>
          rcases hl with hl | ⟨i, hi, _⟩
          · exact .inl hl
          · cases hi
      · exact .inr hge
    have h1 := h.more (A' := fun b => A b ∨ Ar b) hm (fun _ h => .inl h) (fun b hb => hb.elim .inl (hold b)) (fun b hb => by
      rcases hb with hb | hb
      · have := h.alive b hb; have := hm.size; omega
      · exact (hAr b hb).1)
    refine resA_sound w.heap.size h.fr.size hE h1 (fun id blk b n hb hr => (h.mem id blk hb).lt hr) (okDst_lt hd) hres (hRR.mono (fun _ h => .inr h)) (fun b hb => ⟨(hbs b hb).1, ?_⟩) hnd
    rintro (h2 | h2)
    · have := h.alive b h2; have := (hbs b hb).1; omega
    · exact (hbs b hb).2 h2
  unfold Gives
  rw [hexec]
  unfold Inv at hinv
  split at hinv
  · rename_i hrun; rw [hrun]; exact fin _ _ hinv
  · rename_i hrun; rw [hrun]
    refine hinv.mono ?_
    rintro e w'' ⟨x, he, hx⟩
    exact ⟨x, he, fin _ _ hx⟩
  · exact hinv.elim
end
end Go.Proofs.Ytdkebceiljdgjaa
