/- Each operation of the evaluator is one of the machine (first part). Own work, program-independent. -/
import Derived.Test.YtdkebceiljdgjaaSound5
namespace Go.Proofs.Ytdkebceiljdgjaa
open Go.RowKit (Below)

theorem cond_some {α : Type} {b : Bool} {x : Option α} {y : α} (h : (bif b then x else none) = some y) : b = true ∧ x = some y := by
  cases b
  · cases h
  · exact ⟨rfl, h⟩
theorem cond_none {α : Type} {b : Bool} {x : Option α} {y : α} (h : (bif b then none else x) = some y) : b = false ∧ x = some y := by
  cases b
  · exact ⟨rfl, h⟩
  · cases h
theorem chk_some {α : Type} {b : Bool} {x : Option α} {y : α} (h : chk b x = some y) : b = true ∧ x = some y := cond_some h

section
variable {P : Program} {E : Env} {W0 : World} {Wr : Nat → Prop} {A A' : Nat → Prop} {ρ ρ' : Rho} {s : AS} {a : Act} {w w' : World} {o : Oper} {f : Eff}

theorem okDst_lt {dst : Option Tmp} (h : okDst E dst = true) : ∀ d, dst = some d → d < E.nt := by
  rintro d rfl
  exact nat_blt h

theorem SR.bool {b : Bool} {v : Value} (h : SR A w ρ (.bool b) v) : v = .bool b := by simpa only [SR, VR] using h
theorem SR.int {k : IntKind} {n : Int} {v : Value} (h : SR A w ρ (.int k n) v) : v = .int k n := by simpa only [SR, VR] using h

theorem sound_move {x : Operand} (ho : o.op = .move x) (h : SimR W0 Wr E.nt A ρ s a w) (hd : okDst E o.dst = true) (hf : opA E s o.dst o.op some = some f) :
    Gives P o a w (After W0 Wr E.nt s a o.dst f) := by
  rw [ho] at hf
  simp only [opA, Option.some.injEq] at hf
  subst hf
  exact Gives.val (x := a.eval x) (by unfold execOp; rw [ho]; rfl) (After.val h (okDst_lt hd) (h.ev x) rfl rfl rfl)

theorem sound_assign {x : Operand} (ho : o.op = .assign x) (h : SimR W0 Wr E.nt A ρ s a w) (hd : okDst E o.dst = true) (hf : opA E s o.dst o.op some = some f) :
    Gives P o a w (After W0 Wr E.nt s a o.dst f) := by
  rw [ho] at hf
  simp only [opA, Option.some.injEq] at hf
  subst hf
  exact Gives.val (x := a.eval x) (by unfold execOp; rw [ho]; rfl) (After.val h (okDst_lt hd) (h.ev x) rfl rfl rfl)

theorem sound_pick {c x y : Operand} (ho : o.op = .pick c x y) (h : SimR W0 Wr E.nt A ρ s a w) (hd : okDst E o.dst = true) (hf : opA E s o.dst o.op some = some f) :
    Gives P o a w (After W0 Wr E.nt s a o.dst f) := by
  rw [ho] at hf
  simp only [opA] at hf
  split at hf
  · rename_i v hv
    have hc := h.ev c
    rw [hv] at hc
    have hc := hc.bool
    cases v
    · simp only [cond_false, Option.some.injEq] at hf
      subst hf
      exact Gives.val (x := a.eval y) (by unfold execOp; rw [ho]; simp [hc, asBool]) (After.val h (okDst_lt hd) (h.ev y) rfl rfl rfl)
    · simp only [cond_true, Option.some.injEq] at hf
      subst hf
      exact Gives.val (x := a.eval x) (by unfold execOp; rw [ho]; simp [hc, asBool]) (After.val h (okDst_lt hd) (h.ev x) rfl rfl rfl)
  · cases hf

theorem newE_some {dst : Option Tmp} {e : TypeId} {c : AV} {mk : Nat → AV} {rd : List Nat} (h : newE s dst e c mk rd = some f) :
    ∃ d : Nat, dst = some d ∧ f = ⟨mk (mkId d (s.c d)), [(mkId d (s.c d), some ⟨e, true, c⟩)], [d], rd⟩ := by
  unfold newE at h
  cases dst with
  | none => cases h
  | some d => exact ⟨d, rfl, (Option.some.inj h).symm⟩

def pushed (w : World) (cs : Array Value) (e : TypeId) : World := { w with heap := w.heap.push (.cells cs e (0, 0)) }

theorem run_newVar {t : TypeId} {v : Value} : (newVar t v).run P w = .ok ⟨w.heap.size, 0, none⟩ (pushed w v.cells t) := rfl

theorem pushed_more (cs : Array Value) (e : TypeId) : More w (pushed w cs e) :=
  ⟨rfl, rfl, rfl, by simp [pushed], fun k hk => by simp only [pushed, Array.getElem?_push]; rw [if_neg (by omega)]⟩

theorem pushed_at (cs : Array Value) (e : TypeId) : (pushed w cs e).heap[w.heap.size]? = some (.cells cs e (0, 0)) := by
  simp only [pushed, Array.getElem?_push, if_pos]

/-- Behind a new block of one's own. -/
theorem After.new (h : SimR W0 Wr E.nt A ρ s a w) (hE : E.nt ≤ 1000) {d : Nat} (hd : d < E.nt) {e : TypeId} {c : AV} {u : Value} {cs : Array Value} {mk : Nat → AV} {rd : List Nat} {x : Value} {b m : Nat}
    (hm : More w w') (hA : ∀ k, A k → k < w'.heap.size) (hb : w.heap.size ≤ b) (hcell : w'.heap[b]? = some (.cells cs e (0, 0)))
    (hc : VR A w' ρ c u) (hp : ∀ (j : Nat) x, u.cells[j]? = some x → cs[j]? = some x) (hcap : m * c.esz ≤ cs.size)
    (hx : ∀ ρ' : Rho, ρ' (mkId d (s.c d)) = some (some b, (c.cnt, m)) → SR A w' ρ' (mk (mkId d (s.c d))) x) :
    After W0 Wr E.nt s a (some d) ⟨mk (mkId d (s.c d)), [(mkId d (s.c d), some ⟨e, true, c⟩)], [d], rd⟩ x w' := by
  have h1 := h.new (d := d) (b := b) (e := e) (c := c) (by omega) hm hA hb hc hcell hp hcap
  exact ⟨A, _, h1.put (dst := some d) (by intro d' e'; cases e'; exact hd) (hx _ (by rw [upd_self]))⟩

theorem SimR.alivePushed (h : SimR W0 Wr E.nt A ρ s a w) (hm : More w w') : ∀ k, A k → k < w'.heap.size := fun k hk => by
  have := h.alive k hk
  have := hm.size
  omega

theorem SimR.vr (h : SimR W0 Wr E.nt A ρ s a w) (hm : More w w') {c : AV} {u : Value} (hc : VR A w ρ c u) : VR A w' ρ c u :=
  VR.mono (fun _ h => h) (fun b hb => hm.block b (h.alive b hb)) (fun _ _ h => h) _ _ hc

theorem SR_ptr {id b : Nat} {n : Nat × Nat} (h : ρ id = some (some b, n)) : SR A w ρ (.ptr id 0 0 0) (.pointer (some ⟨b, 0, none⟩)) := by
  simp only [SR, VR]
  exact ⟨b, n, h, by simp, .inl trivial⟩

theorem sound_alloc (hT : TabOk P E.ty) (hE : E.nt ≤ 1000) {t : TypeId} (ho : o.op = .alloc t) (h : SimR W0 Wr E.nt A ρ s a w) (hd : okDst E o.dst = true) (hf : opA E s o.dst o.op some = some f) :
    Gives P o a w (After W0 Wr E.nt s a o.dst f) := by
  rw [ho] at hf
  simp only [opA] at hf
  split at hf
  · rename_i te hte
    split at hf
    · rename_i f' hn
      simp only [Option.some.injEq] at hf
      subst hf
      obtain ⟨d, hdst, rfl⟩ := newE_some hn
      obtain ⟨z, hz, hv⟩ := (hT _ _ hte).rZero w
      have hdn := okDst_lt hd d hdst
      rw [hdst]
      refine Gives.val (w' := pushed w z.cells t) (x := .pointer (some ⟨w.heap.size, 0, none⟩)) ?_ ?_
      · unfold execOp
        rw [ho]
        simp [Instr.alloc, hz, run_newVar]
      · exact After.new (mk := fun id => .ptr id 0 0 0) h hE hdn (pushed_more _ _) (h.alivePushed (pushed_more _ _)) (Nat.le_refl _) (pushed_at _ _) (hv A _ ρ) (fun _ _ h => h) (m := 0) (by omega) (fun ρ' hρ' => SR_ptr hρ')
    · cases hf
  · cases hf

theorem sound_box (hE : E.nt ≤ 1000) {t : TypeId} {x : Operand} (ho : o.op = .box t x) (h : SimR W0 Wr E.nt A ρ s a w) (hd : okDst E o.dst = true) (hf : opA E s o.dst o.op some = some f) :
    Gives P o a w (After W0 Wr E.nt s a o.dst f) := by
  rw [ho] at hf
  simp only [opA] at hf
  obtain ⟨hl, hf⟩ := cond_some hf
  split at hf
  · rename_i f' hn
    simp only [Option.some.injEq] at hf
    subst hf
    obtain ⟨d, hdst, rfl⟩ := newE_some hn
    have hv := (h.ev x).vr hl
    have hdn := okDst_lt hd d hdst
    rw [hdst]
    refine Gives.val (w' := pushed w (a.eval x).cells t) (x := .pointer (some ⟨w.heap.size, 0, none⟩)) ?_ ?_
    · unfold execOp
      rw [ho]
      simp [Instr.box, run_newVar]
    · exact After.new (mk := fun id => .ptr id 0 0 0) h hE hdn (pushed_more _ _) (h.alivePushed (pushed_more _ _)) (Nat.le_refl _) (pushed_at _ _) (h.vr (pushed_more _ _) hv) (fun _ _ h => h) (m := 0) (by omega) (fun ρ' hρ' => SR_ptr hρ')
  · cases hf

/-- What a pointer that is one's own points to. -/
theorem SimR.ptr (h : SimR W0 Wr E.nt A ρ s a w) {id i e g : Nat} {v : Value} (hv : SR A w ρ (.ptr id i e g) v) {blk : Blk} (hm : s.m id = some blk) :
    ∃ b u cs fr m, ρ id = some (some b, (blk.c.cnt, m)) ∧ v = .pointer (some ⟨b, i * e + g, none⟩) ∧ (e = 0 ∨ i < blk.c.cnt) ∧ VR A w ρ blk.c u ∧ w.heap[b]? = some (.cells cs blk.e fr) ∧
      (∀ (j : Nat) x, u.cells[j]? = some x → cs[j]? = some x) ∧ (blk.own = true → fr = (0, 0)) ∧ m * blk.c.esz ≤ cs.size := by
  simp only [SR, VR] at hv
  obtain ⟨b, n, h1, h2, h3⟩ := hv
  obtain ⟨ob, u, m, g1, g2, g3⟩ := h.mem _ _ hm
  rw [h1] at g1
  simp only [Option.some.injEq, Prod.mk.injEq] at g1
  obtain ⟨rfl, rfl⟩ := g1
  obtain ⟨cs, fr, k1, k2, k3, k4⟩ := g3
  exact ⟨b, u, cs, fr, m, h1, h2, h3, g2, k1, k2, k3, k4⟩

/-- Reading a part of what lies at a place. -/
theorem read_part {t : TypeId} {te : TE} (ht : TEok P t te) {i e g : Nat} {c v : AV} {u : Value} (hg : getA te i e g c = some v) (hu : VR A w ρ c u) (hb : e = 0 ∨ i < c.cnt) {b off : Nat}
    (hc : ∀ (j : Nat) x, u.cells[j]? = some x → w.cell? ⟨b, off + j, none⟩ = some x) : ∃ x, (loadVar t ⟨b, off + (i * e + g), none⟩).run P w = .ok x w ∧ VR A w ρ v x := by
  obtain ⟨h1, h2⟩ := getA_spec hg hu hb
  cases ha : isAgg te.td with
  | true =>
    obtain ⟨x, hx, ex, hs, hj⟩ := h1 ha
    refine ⟨x, ?_, hx⟩
    rw [ex]
    refine ht.rLoad.1 ha x.cells hs fun j hlt => ?_
    have h3 := hj j hlt
    have h4 : x.cells[j]? = some (x.cells[j]'(by omega)) := Array.getElem?_eq_getElem (by omega)
    rw [h4] at h3 ⊢
    rw [Nat.add_assoc]
    exact hc _ _ h3
  | false =>
    obtain ⟨x, hx, hj⟩ := h2 ha
    exact ⟨x, ht.rLoad.2 ha x (hc _ _ hj), hx⟩

theorem sound_load (hT : TabOk P E.ty) {t : TypeId} {x : Operand} (ho : o.op = .load t x) (h : SimR W0 Wr E.nt A ρ s a w) (hd : okDst E o.dst = true) (hf : opA E s o.dst o.op some = some f) :
    Gives P o a w (After W0 Wr E.nt s a o.dst f) := by
  rw [ho] at hf
  simp only [opA] at hf
  split at hf
  case h_2 => cases hf
  rename_i te hte
  have fin : ∀ {v : AV} {b off : Nat} {y : Value}, a.eval x = .pointer (some ⟨b, off, none⟩) → (loadVar t ⟨b, off, none⟩).run P w = .ok y w → VR A w ρ v y → ∀ rd, After W0 Wr E.nt s a o.dst ⟨v, [], [], rd⟩ y w →
      Gives P o a w (After W0 Wr E.nt s a o.dst ⟨v, [], [], rd⟩) := by
    intro v b off y h1 h2 _ rd h4
    refine Gives.val (x := y) ?_ h4
    unfold execOp
    rw [ho]
    simp only [h1, Instr.loadAt, Instr.sureAddr, Sem.run_bind, Sem.run_pure, Result.andThen_ok, h2]
  split at hf
  · rename_i id i e g hv
    split at hf
    case h_2 => cases hf
    rename_i blk hm
    split at hf
    case h_2 => cases hf
    rename_i v hg
    simp only [Option.some.injEq] at hf
    subst hf
    have hx := h.ev x
    rw [hv] at hx
    obtain ⟨b, u, cs, fr, m, h1, h2, h3, h4, h5, h6, h7, h8⟩ := h.ptr hx hm
    obtain ⟨y, hy, hvy⟩ := read_part (w := w) (hT _ _ hte) hg h4 h3 (b := b) (off := 0) (fun j x hj => by
      rw [Nat.zero_add]
      simp [World.cell?, h5, h6 j x hj])
    rw [Nat.zero_add] at hy
    exact fin h2 hy hvy _ (After.val h (okDst_lt hd) hvy.sr rfl rfl rfl)
  · rename_i c i e g hv
    split at hf
    case h_2 => cases hf
    rename_i v hg
    simp only [Option.some.injEq] at hf
    subst hf
    have hx := h.ev x
    rw [hv] at hx
    simp only [SR, VR] at hx
    obtain ⟨u, b, off, h1, h2, h3, h4, h5⟩ := hx
    obtain ⟨y, hy, hvy⟩ := read_part (w := w) (hT _ _ hte) hg h1 h5 (b := b) (off := off) (fun j x hj => h4 j x hj)
    exact fin h3 hy hvy _ (After.val h (okDst_lt hd) hvy.sr rfl rfl rfl)
  · cases hf

theorem setA_cnt {te : TE} {i e g : Nat} {c v c' : AV} (h : setA te i e g c v = some c') (he : e ≠ 0) : c'.cnt = c.cnt := by
  cases e with
  | zero => exact absurd rfl he
  | succ e =>
    cases c <;> simp only [setA] at h <;> try (cases h; done)
    · split at h
      · obtain ⟨_, h⟩ := cond_some h
        simp only [Option.some.injEq] at h; subst h; rfl
      · cases h
    · obtain ⟨_, h⟩ := cond_some h
      split at h
      · obtain ⟨_, h⟩ := cond_some h
        simp only [Option.some.injEq] at h; subst h; rfl
      · obtain ⟨_, h⟩ := cond_none h
        · cases h0 : Nat.beq g 0 with
          | true => rw [h0] at h; simp only [cond_true, Option.some.injEq] at h; subst h; rfl
          | false =>
            rw [h0] at h
            simp only [cond_false] at h
            obtain ⟨_, h⟩ := cond_some h
            simp only [Option.some.injEq] at h; subst h; rfl
      · cases h

theorem setA_esz {te : TE} {i e g : Nat} {c v c' : AV} (h : setA te i e g c v = some c') (he : e ≠ 0) : c'.esz = c.esz := by
  cases e with
  | zero => exact absurd rfl he
  | succ e =>
    cases c <;> simp only [setA] at h <;> try (cases h; done)
    · split at h
      · obtain ⟨_, h⟩ := cond_some h
        simp only [Option.some.injEq] at h; subst h; rfl
      · cases h
    · obtain ⟨_, h⟩ := cond_some h
      split at h
      · obtain ⟨_, h⟩ := cond_some h
        simp only [Option.some.injEq] at h; subst h; rfl
      · obtain ⟨_, h⟩ := cond_none h
        · cases h0 : Nat.beq g 0 with
          | true => rw [h0] at h; simp only [cond_true, Option.some.injEq] at h; subst h; rfl
          | false =>
            rw [h0] at h
            simp only [cond_false] at h
            obtain ⟨_, h⟩ := cond_some h
            simp only [Option.some.injEq] at h; subst h; rfl
      · cases h

theorem sound_store (hT : TabOk P E.ty) {t : TypeId} {x y : Operand} (ho : o.op = .store t x y) (h : SimR W0 Wr E.nt A ρ s a w) (hd : okDst E o.dst = true) (hf : opA E s o.dst o.op some = some f) :
    Gives P o a w (After W0 Wr E.nt s a o.dst f) := by
  rw [ho] at hf
  simp only [opA] at hf
  split at hf
  case h_2 => cases hf
  rename_i te hte
  split at hf
  case h_2 => cases hf
  rename_i id i e g hv
  split at hf
  case h_2 => cases hf
  rename_i blk hm
  obtain ⟨hc, hf⟩ := cond_some hf
  simp only [Bool.and_eq_true] at hc
  obtain ⟨hown, hlive⟩ := hc
  split at hf
  case h_2 => cases hf
  rename_i c hset
  obtain ⟨hcnt, hf⟩ := cond_some hf
  simp only [Option.some.injEq] at hf
  subst hf
  have ht := hT _ _ hte
  have hx := h.ev x
  rw [hv] at hx
  have hy := (h.ev y).vr hlive
  obtain ⟨b, u, cs, fr, m, h1, h2, h3, h4, h5, h6, h7, h8⟩ := h.ptr hx hm
  have hfr := h7 hown
  subst hfr
  have ecnt : c.cnt = blk.c.cnt := by
    cases e with
    | zero =>
      simp only [Bool.or_eq_true, Bool.not_eq_true'] at hcnt
      simp only [Bool.and_eq_true] at hcnt
      rcases hcnt with hcnt | hcnt
      · exact absurd hcnt (by decide)
      · exact nat_beq hcnt.1
    | succ e => exact setA_cnt hset (by omega)
  have eesz : c.esz = blk.c.esz := by
    cases e with
    | zero =>
      simp only [Bool.or_eq_true, Bool.not_eq_true'] at hcnt
      simp only [Bool.and_eq_true] at hcnt
      rcases hcnt with hcnt | hcnt
      · exact absurd hcnt (by decide)
      · exact nat_beq hcnt.2
    | succ e => exact setA_esz hset (by omega)
  obtain ⟨u', g1, g2, g3, g4, g5, g6, g7⟩ := setA_spec hset h4 hy h3 ht.one
  have hul : u.cells.size ≤ cs.size := by
    rcases Nat.lt_or_ge cs.size u.cells.size with hlt | hge
    · exfalso
      have := h6 cs.size (u.cells[cs.size]'hlt) (Array.getElem?_eq_getElem hlt)
      simp at this
    · exact hge
  obtain ⟨w', cs', k1, k2, k3, k4, k5, k6⟩ := ht.rStore (w := w) (o := i * e + g) h5 (VR.one _ _ hy) g3 (by omega)
  obtain ⟨hW, hnA⟩ := h.own _ _ _ _ hm hown h1
  have hoth : ∀ id' blk' n, (upd s.m id none) id' = some blk' → ρ id' ≠ some (some b, n) := by
    intro id' blk' n hm' hr
    by_cases hj : id' = id
    · subst hj; rw [upd_self] at hm'; cases hm'
    · rw [upd_ne _ _ hj] at hm'
      exact h.inj id id' blk blk' b _ n hm hm' (fun e => hj e.symm) hown h1 hr
  have s1 := (h.drop id).same k6 hnA hW hoth
  have hVR : ∀ (c : AV) (u : Value), VR A w ρ c u → VR A w' ρ c u := fun c u hcu => VR.mono (fun _ h => h) (fun k hk => k6.block k (fun e => hnA (e ▸ hk))) (fun _ _ h => h) c u hcu
  have s2 := s1.add (id := id) (b := b) (blk := { blk with c := c }) (by simp only [upd_self]) (by rw [h1, ecnt]) hW hnA hoth ⟨some b, u', m, by rw [h1, ecnt], hVR _ _ g1, cs', (0, 0), k2, fun j z hz => by
    rcases Nat.lt_or_ge j (i * e + g) with hlt | hge
    · rw [k5 j (.inl hlt)]
      rw [g7 j (.inl hlt)] at hz
      exact h6 j z hz
    · rcases Nat.lt_or_ge j (i * e + g + te.size) with hlt | hge'
      · obtain ⟨q, rfl⟩ : ∃ q, j = i * e + g + q := ⟨j - (i * e + g), by omega⟩
        rw [k4 q (by omega)]
        rw [g6 q (by omega)] at hz
        exact hz
      · rw [k5 j (.inr hge')]
        rw [g7 j (.inr hge')] at hz
        exact h6 j z hz, fun _ => rfl, by rw [k3, eesz]; exact h8⟩
  have s3 := s2.put (dst := o.dst) (okDst_lt hd) (v := .dead) (x := undef) trivial
  unfold Gives
  have hrun : (execOp a.eval o).run P w = .ok .skip w' := by
    unfold execOp
    rw [ho]
    simp only [h2, Instr.storeAt, Instr.sureAddr, Sem.run_bind, Sem.run_pure, Result.andThen_ok, k1]
  rw [hrun]
  refine ⟨A, ρ, ?_⟩
  simp only [upd_upd] at s3
  exact s3
end
end Go.Proofs.Ytdkebceiljdgjaa
