/- Each operation of the evaluator is one of the machine (tenth part): append, as an operation. Own work, program-independent. -/
import Derived.Test.YtdkebceiljdgjaaSound14
namespace Go.Proofs.Ytdkebceiljdgjaa
open Go.RowKit (Below)

section
variable {P : Program} {E : Env} {W0 : World} {Wr : Nat → Prop} {A A' : Nat → Prop} {ρ ρ' : Rho} {s : AS} {a : Act} {w w' : World} {o : Oper} {f : Eff}

theorem tmp_lt {d n : Nat} (h : d < n) (hE : n ≤ 1000) : d < 9000 := by omega

theorem prefix_append {u1 u2 : Array Value} {rest : Array Value} (j : Nat) (x : Value) (h : (u1 ++ u2)[j]? = some x) : (u1 ++ u2 ++ rest)[j]? = some x := by
  have hj := (Array.getElem?_eq_some_iff.1 h).1
  rw [Array.getElem?_append_left hj]
  exact h

/-- Behind an append into new memory. -/
theorem After.grown (h : SimR W0 Wr E.nt A ρ s a w) (hE : E.nt ≤ 1000) {d : Nat} (hd : d < E.nt) {e : TypeId} {c : AV} {u : Value} {u1 u2 rest : Array Value} {rd : List Nat} {nc sz : Nat}
    (hc : VR A w ρ c u) (hu : u.cells = u1 ++ u2) (hp : c.plain = true) (hs : c.esz = sz) (hr : rest.size = nc * sz) :
    After W0 Wr E.nt s a (some d) ⟨.wsl (mkId d (s.c d)), [(mkId d (s.c d), some ⟨e, true, c⟩)], [d], rd⟩ (.slice (some ⟨w.heap.size, 0, none⟩) c.cnt (c.cnt + nc)) (pushed { w with drawn := w.drawn + 1 } (u1 ++ u2 ++ rest) e) := by
  have hm : More w (pushed { w with drawn := w.drawn + 1 } (u1 ++ u2 ++ rest) e) :=
    ⟨rfl, rfl, rfl, by simp [pushed], fun k hk => by simp only [pushed, Array.getElem?_push]; rw [if_neg (by omega)]⟩
  have hcell : (pushed { w with drawn := w.drawn + 1 } (u1 ++ u2 ++ rest) e).heap[w.heap.size]? = some (.cells (u1 ++ u2 ++ rest) e (0, 0)) := by simp only [pushed, Array.getElem?_push, if_pos]
  refine After.new (mk := .wsl) h hE hd hm (h.alivePushed hm) (Nat.le_refl _) hcell (h.vr hm hc) (fun j x hj => ?_) (m := c.cnt + nc) ?_ (fun ρ' hρ' => SR_wsl hρ' (by omega) (Nat.le_refl _))
  · rw [hu] at hj
    exact prefix_append j x hj
  · have := cells_size_plain hp hc
    rw [hu] at this
    rw [Array.size_append, this, hr, hs, Nat.add_mul]
    exact Nat.le_refl _

theorem sound_append (hT : TabOk P E.ty) (hE : E.nt ≤ 1000) {c : Call} {x y : Operand} (ho : o.op = .call c) (hc : c.callee = .builtin .append) (hx : c.args.toList = [x, y]) (h : SimR W0 Wr E.nt A ρ s a w) (hd : okDst E o.dst = true)
    (hf : bltA E s o.dst .append c.argTypes.toList [x, y] some = some f) : Gives P o a w (After W0 Wr E.nt s a o.dst f) := by
  simp only [bltA] at hf
  have hf2 := cond_some hf
  clear hf
  obtain ⟨htl, hf⟩ := hf2
  split at hf
  case h_2 => cases hf
  rename_i t ts hts
  rw [hts] at htl
  simp only [List.tail_cons] at htl
  unfold isSliceT at htl
  split at htl
  case h_2 => cases htl
  rename_i t2 ts2
  split at htl
  case h_2 => cases htl
  rename_i e2 _ _ _ _ hte2
  have hu2 := (hT _ _ hte2).und
  simp only [UndOk] at hu2
  split at hf
  case h_2 => cases hf
  rename_i e _ _ _ _ hte
  have hu := (hT _ _ hte).und
  simp only [UndOk] at hu
  split at hf
  case h_2 => cases hf
  rename_i te cy ry htee hly
  have he := hT _ _ htee
  have hf2 := cond_some hf
  clear hf
  obtain ⟨hb, hf⟩ := hf2
  simp only [Bool.and_eq_true] at hb
  obtain ⟨⟨⟨hpy, hsz⟩, hb1⟩, hb0⟩ := hb
  have hsz := nat_beq hsz
  have hb1 := nat_blt hb1
  have hb0 := nat_blt hb0
  obtain ⟨consts, hex⟩ := exec_builtin (a := a) ho hc
  have ha : c.args.map a.eval = #[a.eval x, a.eval y] := by
    apply Array.ext'
    rw [Array.toList_map, hx]; rfl
  have ht0 : c.argTypes[0]? = some t := by rw [← Array.getElem?_toList, hts]; rfl
  have ht1 : c.argTypes[1]? = some t2 := by rw [← Array.getElem?_toList, hts]; rfl
  obtain ⟨uy, hvy, hlen, hnew⟩ := list_read (P := P) h hly hpy (h.ev y)
  have hxr := h.ev x
  have fin : ∀ {v : Value} {w' : World} {f : Eff}, (Builtin.append_ c.argTypes o.type #[a.eval x, a.eval y]).run P w = .ok v w' → After W0 Wr E.nt s a o.dst f v w' → Gives P o a w (After W0 Wr E.nt s a o.dst f) := by
    intro v w' f h1 h2
    refine Gives.val (x := v) ?_ h2
    rw [hex, ha]
    simp only [builtin, Sem.run_bind, h1, Result.andThen_ok, Sem.run_pure]
  split at hf
  · rename_i hvx
    have hf2 := chk_some hf
    clear hf
    obtain ⟨hle, hf⟩ := hf2
    have hle := Nat.le_of_ble_eq_true hle
    split at hf
    case h_2 => cases hf
    rename_i f' hn
    simp only [Option.some.injEq] at hf
    subst hf
    obtain ⟨d, hdst, rfl⟩ := newE_some hn
    have hdn := okDst_lt hd d hdst
    rw [hvx] at hxr
    simp only [SR, VR] at hxr
    obtain ⟨r1, r2⟩ := run_append (w := w) (ty := o.type) (n1 := 0) (cap := 0) (n2 := cy.cnt) (sz := cy.esz) (old := #[]) (new := uy.cells) (vx := a.eval y) ht0 ⟨t2, e2, ht1, hu2⟩ hu he hsz hxr hlen hnew (fun w' _ => by rw [hxr]; rfl) (by rw [Nat.zero_add]; exact hle) hb1 hb0
    by_cases h0 : cy.cnt = 0
    · have := r1 (by omega) w rfl
      refine fin this ?_
      rw [hdst, Nat.zero_add, h0]
      exact After.newNil h hE hdn hvy hpy h0
    · obtain ⟨nc, rest, hr, hrun⟩ := r2 (by omega)
      refine fin hrun ?_
      rw [hdst, Nat.zero_add]
      exact After.grown (u1 := #[]) h hE hdn hvy (by simp) hpy rfl hr
  · rename_i id hvx
    split at hf
    case h_2 => cases hf
    rename_i blk hm
    have hf2 := cond_some hf
    clear hf
    obtain ⟨hbe, hf⟩ := hf2
    have hbe := nat_beq hbe
    split at hf
    case h_2 => cases hf
    rename_i c' hcat
    have hf2 := cond_some hf
    clear hf
    obtain ⟨hown, hf⟩ := hf2
    simp only [Bool.and_eq_true] at hown
    obtain ⟨hown, hnot⟩ := hown
    have hf2 := chk_some hf
    clear hf
    obtain ⟨hle, hf⟩ := hf2
    have hle := Nat.le_of_ble_eq_true hle
    split at hf
    case h_2 => cases hf
    rename_i f' hn
    simp only [Option.some.injEq] at hf
    subst hf
    obtain ⟨d, hdst, rfl⟩ := newE_some hn
    have hdn := okDst_lt hd d hdst
    rw [hvx] at hxr
    simp only [SR, VR] at hxr
    obtain ⟨ob, n, h1, h2⟩ := hxr
    obtain ⟨ob', u, m, g1, g2, g3⟩ := h.mem _ _ hm
    rw [h1] at g1
    simp only [Option.some.injEq, Prod.mk.injEq] at g1
    obtain ⟨rfl, rfl⟩ := g1
    simp only at h2
    obtain ⟨uc, hvc, hcells, hcnt, hes1, hes2, hpb, hpc⟩ := catA_spec hcat g2 hvy
    have hsu := cells_size_plain hpb g2
    have hdrop := h.drop id
    -- the state without the old id
    have toAfter : ∀ {v : Value} {w' : World}, After W0 Wr E.nt { s with m := upd s.m id none } a (some d) ⟨.wsl (mkId d (s.c d)), [(mkId d (s.c d), some ⟨e, true, c'⟩)], [d], id :: ry⟩ v w' →
        After W0 Wr E.nt s a o.dst ⟨.wsl (mkId d (s.c d)), [(mkId d (s.c d), some ⟨e, true, c'⟩)] ++ [(id, none)], [d], id :: ry⟩ v w' := by
      intro v w' hA
      rw [hdst]
      exact hA
    rcases h2 with ⟨h2, h3⟩ | ⟨b, cap, rfl, h3, hncap, hcapm⟩
    · have hu0 : u.cells = #[] := Array.eq_empty_of_size_eq_zero (by rw [hsu, h2, Nat.zero_mul])
      have hcnt' : c'.cnt = cy.cnt := by omega
      obtain ⟨r1, r2⟩ := run_append (w := w) (ty := o.type) (n1 := 0) (cap := 0) (n2 := cy.cnt) (sz := cy.esz) (old := #[]) (new := uy.cells) (vx := a.eval y) ht0 ⟨t2, e2, ht1, hu2⟩ hu he hsz h3 hlen hnew (fun w' _ => by rw [h3]; rfl) (by rw [Nat.zero_add, ← hcnt']; exact hle) hb1 hb0
      by_cases h0 : cy.cnt = 0
      · have := r1 (by omega) w rfl
        refine fin this (toAfter ?_)
        rw [Nat.zero_add, h0]
        exact After.newNil hdrop hE hdn hvc hpc (by omega)
      · obtain ⟨nc, rest, hr, hrun⟩ := r2 (by omega)
        refine fin hrun (toAfter ?_)
        rw [Nat.zero_add, ← hcnt']
        exact After.grown (u1 := #[]) hdrop hE hdn hvc (by rw [hcells, hu0]) hpc hes2 hr
    · obtain ⟨cs, fr, k1, k2, k3, k4⟩ := g3
      have hfr := k3 hown
      subst hfr
      have hul : u.cells.size ≤ cs.size := by
        rcases Nat.lt_or_ge cs.size u.cells.size with hlt | hge
        · exfalso
          have := k2 cs.size (u.cells[cs.size]'hlt) (Array.getElem?_eq_getElem hlt)
          simp at this
        · exact hge
      have hat : CellsAt w b 0 u.cells := fun j q hj => by
        rw [Nat.zero_add]
        simp [World.cell?, k1, k2 j q hj]
      obtain ⟨r1, r2⟩ := run_append (w := w) (ty := o.type) (n1 := blk.c.cnt) (cap := cap) (n2 := cy.cnt) (sz := cy.esz) (old := u.cells) (new := uy.cells) (vx := a.eval y) ht0 ⟨t2, e2, ht1, hu2⟩ hu he hsz h3 hlen hnew (fun w' hw' => by
        rw [h3]
        simp only [Builtin.firstCells]
        rw [← hes2, hes1, ← hsu]
        exact run_cells _ (hat.congr (by rw [hw']))) (by rw [← hcnt]; exact hle) hb1 hb0
      rcases Nat.lt_or_ge cap (blk.c.cnt + cy.cnt) with hout | hin
      · obtain ⟨nc, rest, hr, hrun⟩ := r2 hout
        refine fin hrun (toAfter ?_)
        rw [← hcnt]
        exact After.grown hdrop hE hdn hvc hcells hpc hes2 hr
      · have hsy := cells_size_plain hpy hvy
        have hroom : (blk.c.cnt + cy.cnt) * blk.c.esz ≤ cs.size := Nat.le_trans (Nat.mul_le_mul_right _ (by omega)) k4
        have hes3 : cy.esz = blk.c.esz := hes2.symm.trans hes1
        obtain ⟨w2, cs2, s1, s2, s3, s4, s5, s6⟩ := run_storeCells (P := P) (b := b) (o := blk.c.cnt * cy.esz) uy.cells.toList 0 w cs k1 (VR.one _ _ hvy) (by
          rw [Array.length_toList, hsy, hes3, Nat.add_zero, ← Nat.add_mul]
          exact hroom)
        have hrun := r1 hin w2 (by
          simp only [addr_add, Nat.zero_add]
          exact s1)
        refine fin hrun (toAfter ?_)
        obtain ⟨hW, hnA⟩ := h.own _ _ _ _ hm hown h1
        have hoth : ∀ id' blk' n, (upd s.m id none) id' = some blk' → ρ id' ≠ some (some b, n) := by
          intro id' blk' n hm' hr
          by_cases hj : id' = id
          · subst hj; rw [upd_self] at hm'; cases hm'
          · rw [upd_ne _ _ hj] at hm'
            exact h.inj id id' blk blk' b _ n hm hm' (fun e => hj e.symm) hown h1 hr
        have t1 := hdrop.same s6 hnA hW hoth
        obtain ⟨t2', hnone, hmn⟩ := t1.ext (d := d) (tmp_lt hdn hE) (some b, (c'.cnt, m))
        have hρ : ∀ id x', ρ id = some x' → upd ρ (mkId d (s.c d)) (some (some b, (c'.cnt, m))) id = some x' := by
          intro id x' hx
          by_cases hj : id = mkId d (s.c d)
          · subst hj; rw [hnone] at hx; cases hx
          · rw [upd_ne _ _ hj]; exact hx
        have hVR : VR A w2 ρ c' uc := VR.mono (fun _ h => h) (fun k hk => s6.block k (fun e => hnA (e ▸ hk))) (fun _ _ h => h) _ _ hvc
        have t3 := t2'.add (id := mkId d (s.c d)) (b := b) (m := m) (blk := ⟨e, true, c'⟩) hmn (by rw [upd_self]) hW hnA (fun id' blk' n hm' hr => by
          by_cases hj : id' = mkId d (s.c d)
          · subst hj
            have hmn' : upd s.m id none (mkId d (s.c d)) = none := hmn
            have hm'' : upd s.m id none (mkId d (s.c d)) = some blk' := hm'
            rw [hmn'] at hm''; cases hm''
          · rw [upd_ne _ _ hj] at hr
            exact hoth id' blk' n hm' hr) ⟨some b, uc, m, by rw [upd_self], VR.mono (fun _ h => h) (fun _ _ => rfl) hρ _ _ hVR, cs2, (0, 0), by rw [s2, hbe], fun j q hj => by
          rw [hcells] at hj
          rw [Nat.add_zero, Array.length_toList] at s4 s5
          rcases Nat.lt_or_ge j u.cells.size with hlt | hge
          · rw [Array.getElem?_append_left hlt] at hj
            rw [s5 j (.inl (by rw [hes3, ← hsu]; exact hlt))]
            exact k2 j q hj
          · rw [Array.getElem?_append_right hge] at hj
            have hjl := (Array.getElem?_eq_some_iff.1 hj).1
            have := s4 (j - u.cells.size) (by simpa using hjl)
            rw [hes3, ← hsu, show u.cells.size + (j - u.cells.size) = j by omega, Array.getElem?_toList] at this
            rw [this]
            exact hj, fun _ => rfl, by rw [s3, hes1]; exact k4⟩
        have t4 := t3.put (dst := some d) (by intro d' e'; cases e'; exact hdn) (v := .wsl (mkId d (s.c d))) (x := .slice (some ⟨b, 0, none⟩) (blk.c.cnt + cy.cnt) cap) (by
          rw [← hcnt]
          exact SR_wsl (by rw [upd_self]) (by omega) hcapm)
        exact ⟨A, _, t4⟩
  · cases hf
end
end Go.Proofs.Ytdkebceiljdgjaa
