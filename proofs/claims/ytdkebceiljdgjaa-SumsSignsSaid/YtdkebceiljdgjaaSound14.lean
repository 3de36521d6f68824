/- Each operation of the evaluator is one of the machine (ninth part): append. Own work, program-independent. -/
import Derived.Test.YtdkebceiljdgjaaSound13
namespace Go.Proofs.Ytdkebceiljdgjaa
open Go.RowKit (Below)

section
variable {P : Program} {E : Env} {W0 : World} {Wr : Nat → Prop} {A A' : Nat → Prop} {ρ ρ' : Rho} {s : AS} {a : Act} {w w' : World} {o : Oper} {f : Eff}

theorem growBy_le (n : Nat) : ∀ (r c : Nat), c ≤ n + (n + 768) / 4 → Builtin.growBy n r c ≤ n + (n + 768) / 4
  | 0, c, h => by simpa [Builtin.growBy] using h
  | r + 1, c, h => by
    simp only [Builtin.growBy]
    split
    · exact h
    · exact growBy_le n r _ (by omega)

theorem nextslicecap_le {n c : Nat} (h : c < n) : Builtin.nextslicecap n c ≤ 2 * n + 192 := by
  unfold Builtin.nextslicecap
  split
  · omega
  · split
    · omega
    · exact Nat.le_trans (growBy_le n 4 c (by omega)) (by omega)

theorem cells_size_plain {c : AV} {u : Value} (hp : c.plain = true) (hu : VR A w ρ c u) : u.cells.size = c.cnt * c.esz := by
  rw [VR.size _ _ hu]
  cases c <;> simp only [AV.plain, Bool.false_eq_true] at hp <;> simp [AV.sz, AV.cnt, AV.esz]
  omega

/-- A block whose cells are known, read from its begin on. -/
theorem run_cells {b off : Nat} (cs : Array Value) (h : CellsAt w b off cs) : (loadCells ⟨b, off, none⟩ cs.size).run P w = .ok cs w := by
  have := run_loadCells (P := P) (w := w) (b := b) (o := off) cs (fun j hj => by
    rw [Array.getElem?_eq_getElem hj]
    exact h j _ (Array.getElem?_eq_getElem hj)) cs.size 0 (by omega)
  simpa [loadCells] using this

/-- What a list that is appended from tells. -/
theorem list_read (h : SimR W0 Wr E.nt A ρ s a w) {p : AV} {v : Value} {c : AV} {rd : List Nat} (hl : listOf s p = some (c, rd)) (hp : c.plain = true) (hv : SR A w ρ p v) :
    ∃ u, VR A w ρ c u ∧ (Builtin.lenOf v).run P w = .ok c.cnt w ∧ ∀ w', w'.heap = w.heap → (Builtin.firstCells c.esz c.cnt v).run P w' = .ok u.cells w' := by
  have fin : ∀ {u : Value} {b off cap : Nat}, VR A w ρ c u → v = .slice (some ⟨b, off, none⟩) c.cnt cap → CellsAt w b off u.cells →
      ∃ u, VR A w ρ c u ∧ (Builtin.lenOf v).run P w = .ok c.cnt w ∧ ∀ w', w'.heap = w.heap → (Builtin.firstCells c.esz c.cnt v).run P w' = .ok u.cells w' := by
    intro u b off cap hu hv hc
    subst hv
    refine ⟨u, hu, rfl, fun w' hw' => ?_⟩
    simp only [Builtin.firstCells]
    rw [← cells_size_plain hp hu]
    exact run_cells _ (hc.congr (by rw [hw']))
  have nil : ∀ {u : Value} {ad : Option Addr} {cap : Nat}, VR A w ρ c u → c.cnt = 0 → v = .slice ad 0 cap →
      ∃ u, VR A w ρ c u ∧ (Builtin.lenOf v).run P w = .ok c.cnt w ∧ ∀ w', w'.heap = w.heap → (Builtin.firstCells c.esz c.cnt v).run P w' = .ok u.cells w' := by
    intro u ad cap hu hc hv
    subst hv
    have he : u.cells = #[] := Array.eq_empty_of_size_eq_zero (by rw [cells_size_plain hp hu, hc, Nat.zero_mul])
    refine ⟨u, hu, by rw [hc]; rfl, fun w' _ => ?_⟩
    rw [hc, he]
    cases ad with
    | none => rfl
    | some ad =>
      simp only [Builtin.firstCells, Nat.zero_mul]
      rfl
  unfold listOf at hl
  split at hl
  · rename_i id
    split at hl
    case h_2 => cases hl
    rename_i blk hm
    simp only [Option.some.injEq, Prod.mk.injEq] at hl
    obtain ⟨rfl, _⟩ := hl
    simp only [SR, VR] at hv
    obtain ⟨ob, n, h1, h2⟩ := hv
    obtain ⟨ob', u, m, g1, g2, g3⟩ := h.mem _ _ hm
    rw [h1] at g1
    simp only [Option.some.injEq, Prod.mk.injEq] at g1
    obtain ⟨rfl, rfl⟩ := g1
    simp only at h2
    rcases h2 with ⟨h2, h3⟩ | ⟨b, cap, rfl, h3, _, _⟩
    · exact nil g2 h2 h3
    · obtain ⟨cs, fr, k1, k2, _, _⟩ := g3
      refine fin g2 h3 fun j x hj => ?_
      rw [Nat.zero_add]
      simp [World.cell?, k1, k2 j x hj]
  · simp only [Option.some.injEq, Prod.mk.injEq] at hl
    obtain ⟨rfl, _⟩ := hl
    simp only [SR, VR] at hv
    obtain ⟨u, h1, h2⟩ := hv
    rcases h2 with ⟨h2, ad, cap, h3⟩ | ⟨b, off, cap, _, h3, _, h4⟩
    · exact nil h1 h2 h3
    · exact fin h1 h3 h4
  · cases hl

theorem catA_spec {c1 c2 c : AV} {u1 u2 : Value} (h : catA c1 c2 = some c) (h1 : VR A w ρ c1 u1) (h2 : VR A w ρ c2 u2) :
    ∃ u, VR A w ρ c u ∧ u.cells = u1.cells ++ u2.cells ∧ c.cnt = c1.cnt + c2.cnt ∧ c.esz = c1.esz ∧ c.esz = c2.esz ∧ c1.plain = true ∧ c.plain = true := by
  unfold catA at h
  split at h
  · have h3 := cond_some h
    clear h
    obtain ⟨hk, h⟩ := h3
    simp only [decide_eq_true_eq] at hk
    subst hk
    simp only [Option.some.injEq] at h
    subst h
    simp only [VR] at h1 h2
    obtain ⟨rfl, rfl⟩ := h1
    obtain ⟨rfl, rfl⟩ := h2
    exact ⟨_, VR_ints (by simp), by simp [Value.cells], rfl, rfl, rfl, rfl, rfl⟩
  · have h3 := cond_some h
    clear h
    obtain ⟨hk, h⟩ := h3
    simp only [decide_eq_true_eq] at hk
    subst hk
    simp only [Option.some.injEq] at h
    subst h
    simp only [VR] at h1 h2
    obtain ⟨rfl, rfl⟩ := h1
    obtain ⟨rfl, rfl⟩ := h2
    exact ⟨_, VR_prs (by simp), by simp [Value.cells], rfl, rfl, rfl, rfl, rfl⟩
  · cases h

/-- A new list without memory. -/
theorem After.newNil (h : SimR W0 Wr E.nt A ρ s a w) (hE : E.nt ≤ 1000) {d : Nat} (hd : d < E.nt) {e : TypeId} {c : AV} {u : Value} {rd : List Nat} (hc : VR A w ρ c u) (hp : c.plain = true) (h0 : c.cnt = 0) :
    After W0 Wr E.nt s a (some d) ⟨.wsl (mkId d (s.c d)), [(mkId d (s.c d), some ⟨e, true, c⟩)], [d], rd⟩ (.slice none 0 0) w := by
  obtain ⟨h2, hnone, hmn⟩ := h.ext (d := d) (by omega) (none, (0, 0))
  have hρ : ∀ id x', ρ id = some x' → upd ρ (mkId d (s.c d)) (some (none, (0, 0))) id = some x' := by
    intro id x' hx
    by_cases hj : id = mkId d (s.c d)
    · subst hj; rw [hnone] at hx; cases hx
    · rw [upd_ne _ _ hj]; exact hx
  have key : ∀ id' blk', upd s.m (mkId d (s.c d)) (some ⟨e, true, c⟩) id' = some blk' → (id' = mkId d (s.c d) ∧ blk' = ⟨e, true, c⟩) ∨ (id' ≠ mkId d (s.c d) ∧ s.m id' = some blk') := by
    intro id' blk' h1
    by_cases hj : id' = mkId d (s.c d)
    · subst hj; rw [upd_self] at h1; exact .inl ⟨rfl, (Option.some.inj h1).symm⟩
    · rw [upd_ne _ _ hj] at h1; exact .inr ⟨hj, h1⟩
  have noblk : ∀ {id' : Nat} {b : Nat} {n : Nat × Nat}, id' = mkId d (s.c d) → upd ρ (mkId d (s.c d)) (some (none, (0, 0))) id' = some (some b, n) → False := by
    intro id' b n e1 e2
    rw [e1, upd_self] at e2
    cases e2
  have h3 : SimR W0 Wr E.nt A (upd ρ (mkId d (s.c d)) (some (none, (0, 0)))) { s with m := upd s.m (mkId d (s.c d)) (some ⟨e, true, c⟩), c := upd s.c d (s.c d + 1) } a w := by
    refine ⟨h2.dfr, h2.tsz, h2.slot, fun id' blk' h1 => ?_, fun id1 id2 blk1 blk2 b n n' h1 g1 hne ho1 hr1 hr2 => ?_, fun id' blk' b n h1 ho1 hr => ?_, h2.alive, h2.fresh, h2.fr⟩
    · rcases key _ _ h1 with ⟨e1, e2⟩ | ⟨_, g1⟩
      · subst e2
        exact ⟨none, u, 0, by rw [e1, upd_self, h0], VR.mono (fun _ h => h) (fun _ _ => rfl) hρ _ _ hc, by rw [cells_size_plain hp hc, h0, Nat.zero_mul]⟩
      · exact h2.mem _ _ g1
    · rcases key _ _ h1 with ⟨e1, e2⟩ | ⟨_, k1⟩
      · exact noblk e1 hr1
      · rcases key _ _ g1 with ⟨e1, e2⟩ | ⟨_, k2⟩
        · exact noblk e1 hr2
        · exact h2.inj id1 id2 blk1 blk2 b n n' k1 k2 hne ho1 hr1 hr2
    · rcases key _ _ h1 with ⟨e1, e2⟩ | ⟨_, k1⟩
      · exact (noblk e1 hr).elim
      · exact h2.own _ _ _ _ k1 ho1 hr
  refine ⟨A, _, h3.put (dst := some d) (by intro d' e'; cases e'; exact hd) (v := .wsl (mkId d (s.c d))) (x := .slice none 0 0) ?_⟩
  simp only [SR, VR]
  exact ⟨none, (0, 0), by rw [upd_self], .inl ⟨rfl, trivial⟩⟩

theorem zeroCells_size (z : Array Value) (n : Nat) : (Builtin.zeroCells z n).size = n * z.size := by simp [Builtin.zeroCells]

theorem run_choose_cap {need cap e : Nat} : ∃ nc, (choose (.appendCap need cap e)).run P w = .ok (need + nc) { w with drawn := w.drawn + 1 } := by
  refine ⟨w.tape w.drawn (.appendCap need cap e) % (2 ^ 63 - need), ?_⟩
  simp [choose, Sem.run, Question.forced, Question.cut]

theorem run_askRoom {n : Nat} : (askRoom n).run P w = .ok () w := by
  unfold askRoom
  split <;> rfl

/-- append's own run: as far as the choice whether there is room. -/
theorem run_append {t e : TypeId} {te : TE} {ts : Array TypeId} {ty : TypeId} {vs vx : Value} {base : Option Addr} {n1 cap n2 sz : Nat} {old new : Array Value}
    (h0 : ts[0]? = some t) (hz : ∃ t2 e2, ts[1]? = some t2 ∧ P.underlying t2 = some (.slice e2)) (hu : P.underlying t = some (.slice e)) (ht : TEok P e te) (hs : te.size = sz)
    (hvs : vs = .slice base n1 cap) (hlen : (Builtin.lenOf vx).run P w = .ok n2 w) (hnew : ∀ w', w'.heap = w.heap → (Builtin.firstCells sz n2 vx).run P w' = .ok new w')
    (hold : ∀ w', w'.heap = w.heap → (Builtin.firstCells sz n1 vs).run P w' = .ok old w') (hb : (n1 + n2) * te.bytes ≤ 70368744177664) (hbt : te.bytes < 1000) (hsz : 0 < te.bytes) :
    (n1 + n2 ≤ cap → ∀ w', (match base with | some ad => storeCells (ad.add (n1 * sz)) new.toList | none => (pure () : Sem Unit)).run P w = .ok () w' → (Builtin.append_ ts ty #[vs, vx]).run P w = .ok (.slice base (n1 + n2) cap) w') ∧
    (cap < n1 + n2 → ∃ nc : Nat, ∃ rest : Array Value, rest.size = nc * sz ∧ (Builtin.append_ ts ty #[vs, vx]).run P w =
      .ok (.slice (some ⟨w.heap.size, 0, none⟩) (n1 + n2) (n1 + n2 + nc)) (pushed { w with drawn := w.drawn + 1 } (old ++ new ++ rest) e)) := by
  obtain ⟨t2, e2, ht2, hu2⟩ := hz
  subst hvs
  refine ⟨fun hin w' hst => ?_, fun hout => ?_⟩
  · unfold Builtin.append_
    rw [h0, ht2, show (#[Value.slice base n1 cap, vx] : Array Value)[0]? = some (.slice base n1 cap) from rfl, show (#[Value.slice base n1 cap, vx] : Array Value)[1]? = some vx from rfl]
    dsimp only
    simp only [Sem.run_bind, run_underlying hu, run_underlying hu2, Result.andThen_ok, ht.rSize, hs, Sem.run_pure]
    simp only [Bool.false_eq_true, if_false, Sem.run_bind, hlen, Result.andThen_ok]
    rw [if_pos hin]
    simp only [Bool.not_false, if_true, Sem.run_bind, hnew w rfl, Result.andThen_ok]
    cases base with
    | none =>
      have e1 : w = w' := by simpa [Sem.run_pure] using hst
      subst e1
      rfl
    | some ad =>
      simp only at hst
      simp only [Sem.run_bind, hst, Result.andThen_ok, Sem.run_pure]
  · obtain ⟨i, hi, hib, his, hpi⟩ := ht.rInfo w
    obtain ⟨z, hzr, hzv⟩ := ht.rZero { w with drawn := w.drawn + 1 }
    have hzs : z.cells.size = sz := by rw [VR.size _ _ (hzv (fun _ => False) w (fun _ => none)), ← ht.zsz, hs]
    obtain ⟨nc, hnc⟩ := run_choose_cap (P := P) (w := w) (need := n1 + n2) (cap := cap) (e := e)
    refine ⟨nc, Builtin.zeroCells z.cells (n1 + n2 + nc - (n1 + n2)), ?_, ?_⟩
    · rw [zeroCells_size, hzs]; congr 1; omega
    · unfold Builtin.append_
      rw [h0, ht2, show (#[Value.slice base n1 cap, vx] : Array Value)[0]? = some (.slice base n1 cap) from rfl, show (#[Value.slice base n1 cap, vx] : Array Value)[1]? = some vx from rfl]
      dsimp only
      simp only [Sem.run_bind, run_underlying hu, run_underlying hu2, Result.andThen_ok, ht.rSize, hs, Sem.run_pure]
      simp only [Bool.false_eq_true, if_false, Sem.run_bind, hlen, Result.andThen_ok]
      rw [if_neg (by omega)]
      simp only [Sem.run_bind, hi, Result.andThen_ok]
      rw [if_neg (by simp only [false_or]; rw [hib]; omega)]
      simp only [Sem.run_bind, hi, Result.andThen_ok]
      have hcap := nextslicecap_le hout
      have hbytes : ¬ Builtin.nextslicecap (n1 + n2) cap * i.bytes > 2 ^ 48 := by
        rw [hib]
        have h1 : Builtin.nextslicecap (n1 + n2) cap * te.bytes ≤ (2 * (n1 + n2) + 192) * te.bytes := Nat.mul_le_mul_right _ hcap
        have h2 : (2 * (n1 + n2) + 192) * te.bytes = 2 * ((n1 + n2) * te.bytes) + 192 * te.bytes := by rw [Nat.add_mul, Nat.mul_assoc]
        have h3 : (2 : Nat) ^ 48 = 281474976710656 := by decide
        omega
      rw [if_neg hbytes]
      have hi1 := ht.rInfo { w with drawn := w.drawn + 1 }
      obtain ⟨i1, hi1, _⟩ := hi1
      simp only [Sem.run_bind, hnc, Result.andThen_ok, hi1, run_askRoom, hold { w with drawn := w.drawn + 1 } rfl, Bool.not_false, if_true, hnew { w with drawn := w.drawn + 1 } rfl, hzr]
      rfl
end
end Go.Proofs.Ytdkebceiljdgjaa
