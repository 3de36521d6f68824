/- The texts Sound15, Sound16, Sound17, Sound18, Sound19, Sound20, joined. Own work. -/
import Derived.Test.YtbakldcbaikgpaaGreatDoorEv2
import Derived.Orders
/- Each operation of the evaluator is one of the machine (tenth part): append, as an operation. Own work, program-independent. -/
namespace Go.Proofs.YtbakldcbaikgpaaGreatDoor
open Go.RowKit (Below)
section
variable {P : Program} {E : Env} {W0 : World} {Wr : Wk} {A A' : Nat → Prop} {ρ ρ' : Rho} {s : AS} {a : Act} {w w' : World} {o : Oper} {f : Eff}
theorem tmp_lt {d n : Nat} (h : d < n) (hE : n ≤ 1000) : d < 8000 := by omega
theorem prefix_append {u1 u2 : Array Value} {rest : Array Value} (j : Nat) (x : Value) (h : (u1 ++ u2)[j]? = some x) : (u1 ++ u2 ++ rest)[j]? = some x := by
  have hj := (Array.getElem?_eq_some_iff.1 h).1
  rw [Array.getElem?_append_left hj]
  exact h
/-- Behind an append into new memory. -/
theorem After.grown (h : SimR W0 Wr E.nt A ρ s a w) (hE : E.nt ≤ 1000) {d : Nat} (hd : d < E.nt) {e : TypeId} {c : AV} {u : Value} {u1 u2 rest : Array Value} {rd : List Nat} {nc sz : Nat}
    (hc : VR A w ρ c u) (hu : u.cells = u1 ++ u2) (hp : c.plain = true) (hs : c.esz = sz) (hr : rest.size = nc * sz) :
    After W0 Wr E.nt s a (some d) ⟨.wsl (mkId d (s.c d)), [(mkId d (s.c d), some ⟨e, true, c⟩)], [d], rd⟩ (.slice (some ⟨w.heap.size, 0, none⟩) c.cnt (c.cnt + nc)) (pushed { w with drawn := w.drawn + 1 } (u1 ++ u2 ++ rest) e) := by
  have hm : More w (pushed { w with drawn := w.drawn + 1 } (u1 ++ u2 ++ rest) e) :=
    ⟨rfl, rfl, rfl, by simp [pushed], fun k hk => by simp only [pushed, Array.getElem?_push]; rw [if_neg (by omega)]⟩
  have hcell : (pushed { w with drawn := w.drawn + 1 } (u1 ++ u2 ++ rest) e).heap[w.heap.size]? = some (.cells (u1 ++ u2 ++ rest) e (0, 0)) := by simp only [pushed, Array.getElem?_push, if_pos]
  refine After.new (mk := .wsl) h hE hd hm (h.alivePushed hm) (Nat.le_refl _) hcell (h.vr hm hc) (fun j x hj => ?_) (m := c.cnt + nc) ?_ (fun ρ' hρ' => SR_wsl hρ' (by omega) (Nat.le_refl _))
  · rw [hu] at hj
    exact prefix_append j x hj
  · have := cells_size_plain hp hc
    rw [hu] at this
    rw [Array.size_append, this, hr, hs, Nat.add_mul]
    exact Nat.le_refl _
theorem sound_append (hT : TabOk P E.ty) (hE : E.nt ≤ 1000) {c : Call} {x y : Operand} (ho : o.op = .call c) (hc : c.callee = .builtin .append) (hx : c.args.toList = [x, y]) (h : SimR W0 Wr E.nt A ρ s a w) (hd : okDst E o.dst = true)
    (hf : bltA E s o.dst .append c.argTypes.toList [x, y] some = some f) : Gives P o a w (After W0 Wr E.nt s a o.dst f) := by
  simp only [bltA] at hf
  have hf2 := cond_some hf
  clear hf
  obtain ⟨htl, hf⟩ := hf2
  split at hf
  case h_2 => cases hf
  rename_i t ts hts
  rw [hts] at htl
  simp only [List.tail_cons] at htl
  unfold isSliceT at htl
  split at htl
  case h_2 => cases htl
  rename_i t2 ts2
  split at htl
  case h_2 => cases htl
  rename_i e2 _ _ _ _ hte2
  have hu2 := (hT _ _ hte2).und
  simp only [UndOk] at hu2
  split at hf
  case h_2 => cases hf
  rename_i e _ _ _ _ hte
  have hu := (hT _ _ hte).und
  simp only [UndOk] at hu
  split at hf
  case h_2 => cases hf
  rename_i te cy ry htee hly
  have he := hT _ _ htee
  have hf2 := cond_some hf
  clear hf
  obtain ⟨hb, hf⟩ := hf2
  simp only [Bool.and_eq_true] at hb
  obtain ⟨⟨⟨hpy, hsz⟩, hb1⟩, hb0⟩ := hb
  have hsz := nat_beq hsz
  have hb1 := nat_blt hb1
  have hb0 := nat_blt hb0
  obtain ⟨consts, hex⟩ := exec_builtin (a := a) ho hc
  have ha : c.args.map a.eval = #[a.eval x, a.eval y] := by
    apply Array.ext'
    rw [Array.toList_map, hx]; rfl
  have ht0 : c.argTypes[0]? = some t := by rw [← Array.getElem?_toList, hts]; rfl
  have ht1 : c.argTypes[1]? = some t2 := by rw [← Array.getElem?_toList, hts]; rfl
  obtain ⟨uy, hvy, hlen, hnew⟩ := list_read (P := P) h hly hpy (h.ev y)
  have hxr := h.ev x
  have fin : ∀ {v : Value} {w' : World} {f : Eff}, (Builtin.append_ c.argTypes o.type #[a.eval x, a.eval y]).run P w = .ok v w' → After W0 Wr E.nt s a o.dst f v w' → Gives P o a w (After W0 Wr E.nt s a o.dst f) := by
    intro v w' f h1 h2
    refine Gives.val (x := v) ?_ h2
    rw [hex, ha]
    simp only [builtin, Sem.run_bind, h1, Result.andThen_ok, Sem.run_pure]
  split at hf
  · rename_i hvx
    have hf2 := chk_some hf
    clear hf
    obtain ⟨hle, hf⟩ := hf2
    have hle := Nat.le_of_ble_eq_true hle
    split at hf
    case h_2 => cases hf
    rename_i f' hn
    simp only [Option.some.injEq] at hf
    subst hf
    obtain ⟨d, hdst, rfl⟩ := newE_some hn
    have hdn := okDst_lt hd d hdst
    rw [hvx] at hxr
    simp only [SR, VR] at hxr
    obtain ⟨r1, r2⟩ := run_append (w := w) (ty := o.type) (n1 := 0) (cap := 0) (n2 := cy.cnt) (sz := cy.esz) (old := #[]) (new := uy.cells) (vx := a.eval y) ht0 ⟨t2, e2, ht1, hu2⟩ hu he hsz hxr hlen hnew (fun w' _ => by rw [hxr]; rfl) (by rw [Nat.zero_add]; exact hle) hb1 hb0
    by_cases h0 : cy.cnt = 0
    · have := r1 (by omega) w rfl
      refine fin this ?_
      rw [hdst, Nat.zero_add, h0]
      exact After.newNil h hE hdn hvy hpy h0
    · obtain ⟨nc, rest, hr, hrun⟩ := r2 (by omega)
      refine fin hrun ?_
      rw [hdst, Nat.zero_add]
      exact After.grown (u1 := #[]) h hE hdn hvy (by simp) hpy rfl hr
  · rename_i id hvx
    split at hf
    case h_2 => cases hf
    rename_i blk hm
    have hf2 := cond_some hf
    clear hf
    obtain ⟨hbe, hf⟩ := hf2
    have hbe := nat_beq hbe
    split at hf
    case h_2 => cases hf
    rename_i c' hcat
    have hf2 := cond_some hf
    clear hf
    obtain ⟨hown, hf⟩ := hf2
    simp only [Bool.and_eq_true] at hown
    obtain ⟨⟨hown, hnot⟩, hnm⟩ := hown
    simp only [Bool.not_eq_true'] at hnm
    have hf2 := chk_some hf
    clear hf
    obtain ⟨hle, hf⟩ := hf2
    have hle := Nat.le_of_ble_eq_true hle
    split at hf
    case h_2 => cases hf
    rename_i f' hn
    simp only [Option.some.injEq] at hf
    subst hf
    obtain ⟨d, hdst, rfl⟩ := newE_some hn
    have hdn := okDst_lt hd d hdst
    rw [hvx] at hxr
    simp only [SR, VR] at hxr
    obtain ⟨ob, n, h1, h2⟩ := hxr
    obtain ⟨ob', u, m, g1, g2, g3⟩ := h.mem _ _ hm
    rw [h1] at g1
    simp only [Option.some.injEq, Prod.mk.injEq] at g1
    obtain ⟨rfl, rfl⟩ := g1
    simp only at h2
    obtain ⟨uc, hvc, hcells, hcnt, hes1, hes2, hpb, hpc⟩ := catA_spec hcat g2 hvy
    have hsu := cells_size_plain hpb g2
    have hdrop := h.drop id
    -- the state without the old id
    have toAfter : ∀ {v : Value} {w' : World}, After W0 Wr E.nt { s with m := upd s.m id none } a (some d) ⟨.wsl (mkId d (s.c d)), [(mkId d (s.c d), some ⟨e, true, c'⟩)], [d], id :: ry⟩ v w' →
        After W0 Wr E.nt s a o.dst ⟨.wsl (mkId d (s.c d)), [(mkId d (s.c d), some ⟨e, true, c'⟩)] ++ [(id, none)], [d], id :: ry⟩ v w' := by
      intro v w' hA
      rw [hdst]
      exact hA
    rcases h2 with ⟨h2, h3⟩ | ⟨b, cap, rfl, h3, hncap, hcapm⟩
    · have hu0 : u.cells = #[] := Array.eq_empty_of_size_eq_zero (by rw [hsu, h2, Nat.zero_mul])
      have hcnt' : c'.cnt = cy.cnt := by omega
      obtain ⟨r1, r2⟩ := run_append (w := w) (ty := o.type) (n1 := 0) (cap := 0) (n2 := cy.cnt) (sz := cy.esz) (old := #[]) (new := uy.cells) (vx := a.eval y) ht0 ⟨t2, e2, ht1, hu2⟩ hu he hsz h3 hlen hnew (fun w' _ => by rw [h3]; rfl) (by rw [Nat.zero_add, ← hcnt']; exact hle) hb1 hb0
      by_cases h0 : cy.cnt = 0
      · have := r1 (by omega) w rfl
        refine fin this (toAfter ?_)
        rw [Nat.zero_add, h0]
        exact After.newNil hdrop hE hdn hvc hpc (by omega)
      · obtain ⟨nc, rest, hr, hrun⟩ := r2 (by omega)
        refine fin hrun (toAfter ?_)
        rw [Nat.zero_add, ← hcnt']
        exact After.grown (u1 := #[]) hdrop hE hdn hvc (by rw [hcells, hu0]) hpc hes2 hr
    · obtain ⟨cs, fr, k1, k2, k3, k4⟩ := g3
      have hfr := k3 hown
      subst hfr
      have hul : u.cells.size ≤ cs.size := by
        rcases Nat.lt_or_ge cs.size u.cells.size with hlt | hge
        · exfalso
          have := k2 cs.size (u.cells[cs.size]'hlt) (Array.getElem?_eq_getElem hlt)
          simp at this
        · exact hge
      have hat : CellsAt w b 0 u.cells := fun j q hj => by
        rw [Nat.zero_add]
        simp [World.cell?, k1, k2 j q hj]
      obtain ⟨r1, r2⟩ := run_append (w := w) (ty := o.type) (n1 := blk.c.cnt) (cap := cap) (n2 := cy.cnt) (sz := cy.esz) (old := u.cells) (new := uy.cells) (vx := a.eval y) ht0 ⟨t2, e2, ht1, hu2⟩ hu he hsz h3 hlen hnew (fun w' hw' => by
        rw [h3]
        simp only [Builtin.firstCells]
        rw [← hes2, hes1, ← hsu]
        exact run_cells _ (hat.congr (fun _ => by rw [hw']))) (by rw [← hcnt]; exact hle) hb1 hb0
      rcases Nat.lt_or_ge cap (blk.c.cnt + cy.cnt) with hout | hin
      · obtain ⟨nc, rest, hr, hrun⟩ := r2 hout
        refine fin hrun (toAfter ?_)
        rw [← hcnt]
        exact After.grown hdrop hE hdn hvc hcells hpc hes2 hr
      · have hsy := cells_size_plain hpy hvy
        have hroom : (blk.c.cnt + cy.cnt) * blk.c.esz ≤ cs.size := Nat.le_trans (Nat.mul_le_mul_right _ (by omega)) k4
        have hes3 : cy.esz = blk.c.esz := hes2.symm.trans hes1
        obtain ⟨w2, cs2, s1, s2, s3, s4, s5, s6⟩ := run_storeCells (P := P) (b := b) (o := blk.c.cnt * cy.esz) uy.cells.toList 0 w cs k1 (VR.one _ _ hvy) (by
          rw [Array.length_toList, hsy, hes3, Nat.add_zero, ← Nat.add_mul]
          exact hroom)
        have hrun := r1 hin w2 (by
          simp only [addr_add, Nat.zero_add]
          exact s1)
        refine fin hrun (toAfter ?_)
        obtain ⟨hW, hnA⟩ := h.own _ _ _ _ hm hown h1
        have hoth : ∀ id' blk' n, (upd s.m id none) id' = some blk' → ρ id' ≠ some (some b, n) := by
          intro id' blk' n hm' hr
          by_cases hj : id' = id
          · subst hj; rw [upd_self] at hm'; cases hm'
          · rw [upd_ne _ _ hj] at hm'
            exact h.inj id id' blk blk' b _ n hm hm' (fun e => hj e.symm) hown h1 hr
        have t1 := hdrop.same s6 hnA hW.any hoth (fun es c e => by rw [k1] at e; cases e)
        obtain ⟨t2', hnone, hmn⟩ := t1.ext (d := d) (tmp_lt hdn hE) (some b, (c'.cnt, m))
        have hρ : ∀ id x', ρ id = some x' → upd ρ (mkId d (s.c d)) (some (some b, (c'.cnt, m))) id = some x' := by
          intro id x' hx
          by_cases hj : id = mkId d (s.c d)
          · subst hj; rw [hnone] at hx; cases hx
          · rw [upd_ne _ _ hj]; exact hx
        have hVR : VR A w2 ρ c' uc := VR.mono (fun _ h => h) (.of fun k hk => s6.block k (fun e => hnA (e ▸ hk))) (fun _ _ h => h) _ _ hvc
        have t3 := t2'.add (id := mkId d (s.c d)) (b := b) (m := m) (blk := ⟨e, true, c'⟩) hmn (by rw [upd_self]) (.inl (hW.new hnm)) hnA (fun id' blk' n hm' hr => by
          by_cases hj : id' = mkId d (s.c d)
          · subst hj
            have hmn' : upd s.m id none (mkId d (s.c d)) = none := hmn
            have hm'' : upd s.m id none (mkId d (s.c d)) = some blk' := hm'
            rw [hmn'] at hm''; cases hm''
          · rw [upd_ne _ _ hj] at hr
            exact hoth id' blk' n hm' hr) ⟨some b, uc, m, by rw [upd_self], VR.mono (fun _ h => h) (.refl _ _) hρ _ _ hVR, cs2, (0, 0), by rw [s2, hbe], fun j q hj => by
          rw [hcells] at hj
          rw [Nat.add_zero, Array.length_toList] at s4 s5
          rcases Nat.lt_or_ge j u.cells.size with hlt | hge
          · rw [Array.getElem?_append_left hlt] at hj
            rw [s5 j (.inl (by rw [hes3, ← hsu]; exact hlt))]
            exact k2 j q hj
          · rw [Array.getElem?_append_right hge] at hj
            have hjl := (Array.getElem?_eq_some_iff.1 hj).1
            have := s4 (j - u.cells.size) (by simpa using hjl)
            rw [hes3, ← hsu, show u.cells.size + (j - u.cells.size) = j by omega, Array.getElem?_toList] at this
            rw [this]
            exact hj, fun _ => rfl, by rw [s3, hes1]; exact k4⟩ (fun i b' n hi e _ => by have := tmp_lt hdn hE; unfold mkId at e; omega)
        have t4 := t3.put (dst := some d) (by intro d' e'; cases e'; exact hdn) (v := .wsl (mkId d (s.c d))) (x := .slice (some ⟨b, 0, none⟩) (blk.c.cnt + cy.cnt) cap) (by
          rw [← hcnt]
          exact SR_wsl (by rw [upd_self]) (by omega) hcapm)
        exact ⟨A, _, t4⟩
  · cases hf
end
end Go.Proofs.YtbakldcbaikgpaaGreatDoor
/- Calls: what is handed over, what comes back. Own work, program-independent. -/
namespace Go.Proofs.YtbakldcbaikgpaaGreatDoor
open Go.RowKit (Below)
def ρ0 : Rho := fun _ => none
theorem VR.plain {A A' : Nat → Prop} {w w' : World} {ρ ρ' : Rho} {c : AV} {u : Value} (hp : c.plain = true) (h : VR A w ρ c u) : VR A' w' ρ' c u := by
  cases c <;> first | (cases hp; done) | simpa only [VR] using h
/-- A is grown by the blocks of some ids. -/
def Lent (A : Nat → Prop) (m : Nat → Option Blk) (ρ : Rho) (ids : List Nat) : Nat → Prop := fun b => A b ∨ ∃ id ∈ ids, ∃ blk n, m id = some blk ∧ blk.own = true ∧ ρ id = some (some b, n)
section
variable {A A' : Nat → Prop} {w w' : World} {ρ ρ' : Rho} {m : Nat → Option Blk}
theorem sl_of_wsl (hm : ∀ id blk, m id = some blk → BR A w ρ id blk) {id : Nat} {blk : Blk} (hb : m id = some blk) (ho : blk.own = true) (hp : blk.c.plain = true) {x : Value} (h : VR A w ρ (.wsl id) x) {ids : List Nat} (hi : id ∈ ids) : VR (Lent A m ρ ids) w ρ' (.sl blk.c) x := by
  obtain ⟨ob, u, k, h1, h2, h3⟩ := hm id blk hb
  simp only [VR] at h ⊢
  obtain ⟨ob', n, g1, g2⟩ := h
  rw [h1] at g1
  simp only [Option.some.injEq, Prod.mk.injEq] at g1
  obtain ⟨rfl, rfl⟩ := g1
  refine ⟨u, h2.plain hp, ?_⟩
  rcases g2 with ⟨g2, rfl⟩ | ⟨b, cap, rfl, rfl, g3, g4⟩
  · exact .inl ⟨g2, none, 0, rfl⟩
  · obtain ⟨cs, fr, h4, h5, h6⟩ := h3
    refine .inr ⟨b, 0, cap, .inr ⟨id, hi, blk, _, hb, ho, h1⟩, rfl, g3, fun j q hj => ?_⟩
    rw [Nat.zero_add]
    simp [World.cell?, h4, h5 j q hj]
theorem subA_spec {lo n : Nat} {c c' : AV} {u : Value} (ht : subA lo n c = some c') (hu : VR A w ρ c u) (h2 : n = 0 ∨ lo + n ≤ c.cnt) :
    ∃ u', VR A w ρ c' u' ∧ c'.cnt = n ∧ c'.plain = true ∧ ∀ (j : Nat) x, u'.cells[j]? = some x → u.cells[lo * c.esz + j]? = some x := by
  cases c <;> simp only [subA] at ht <;> try (cases ht; done)
  · rename_i m k xs
    simp only [Option.some.injEq] at ht
    subst ht
    simp only [VR] at hu
    obtain ⟨hl, rfl⟩ := hu
    simp only [AV.cnt] at h2
    refine ⟨_, VR_ints (by simp; omega), rfl, rfl, fun j x hj => ?_⟩
    rw [cells_ints] at hj
    rw [cells_ints]
    simp only [AV.esz, Nat.mul_one]
    rw [List.map_take, List.map_drop, List.getElem?_take] at hj
    split at hj
    · rw [List.getElem?_drop] at hj
      exact hj
    · cases hj
  · rename_i m k xs
    simp only [Option.some.injEq] at ht
    subst ht
    simp only [VR] at hu
    obtain ⟨hl, rfl⟩ := hu
    simp only [AV.cnt] at h2
    refine ⟨_, VR_prs (by simp; omega), rfl, rfl, fun j x hj => ?_⟩
    rw [cells_prs] at hj
    rw [cells_prs]
    simp only [AV.esz]
    rw [flatMap_take, flatMap_drop, List.getElem?_take] at hj
    split at hj
    · rw [List.getElem?_drop, Nat.mul_comm 2 lo] at hj
      exact hj
    · cases hj
theorem sl_of_wv (hm : ∀ id blk, m id = some blk → BR A w ρ id blk) {id : Nat} {blk : Blk} (hb : m id = some blk) (ho : blk.own = true) {lo n : Nat} {c : AV} (hc : subA lo n blk.c = some c) {x : Value} (h : VR A w ρ (.wv id lo n blk.c.esz) x) {ids : List Nat} (hi : id ∈ ids) : VR (Lent A m ρ ids) w ρ' (.sl c) x := by
  obtain ⟨ob, u, k, h1, h2, h3⟩ := hm id blk hb
  simp only [VR] at h ⊢
  obtain ⟨ob', N, g1, g2⟩ := h
  rw [h1] at g1
  simp only [Option.some.injEq, Prod.mk.injEq] at g1
  obtain ⟨rfl, rfl⟩ := g1
  obtain ⟨u', a1, a2, a3, a4⟩ := subA_spec hc h2 (by
    rcases g2 with ⟨g2, _⟩ | ⟨_, _, _, _, _, g4⟩
    · exact .inl g2
    · exact .inr g4)
  refine ⟨u', a1.plain a3, ?_⟩
  rcases g2 with ⟨g2, ad, cap, rfl⟩ | ⟨b, cap, rfl, rfl, g3, g4⟩
  · exact .inl ⟨by omega, ad, cap, rfl⟩
  · obtain ⟨cs, fr, h4, h5, h6⟩ := h3
    refine .inr ⟨b, lo * blk.c.esz, cap, .inr ⟨id, hi, blk, _, hb, ho, h1⟩, by rw [a2], by omega, fun j q hj => ?_⟩
    simp [World.cell?, h4, h5 _ q (a4 j q hj)]
mutual
theorem deepA_spec (hm : ∀ id blk, m id = some blk → BR A w ρ id blk) : ∀ (v v' : AV) (ids all : List Nat) (x : Value), deepA m v = some (v', ids) → (∀ i ∈ ids, i ∈ all) → VR A w ρ v x → VR (Lent A m ρ all) w ρ0 v' x
  | .wsl id, v', ids, all, x, hd, ha, h => by
    simp only [deepA] at hd
    split at hd
    case h_2 => cases hd
    rename_i blk hb
    have hd2 := cond_some hd
    obtain ⟨hp, hd⟩ := hd2
    simp only [Option.some.injEq, Prod.mk.injEq, Bool.and_eq_true] at hd hp
    obtain ⟨rfl, rfl⟩ := hd
    exact sl_of_wsl hm hb hp.1 hp.2 h (ha id (by simp))
  | .sl c, v', ids, all, x, hd, ha, h => by
    simp only [deepA] at hd
    have hd2 := cond_some hd
    obtain ⟨hp, hd⟩ := hd2
    simp only [Option.some.injEq, Prod.mk.injEq] at hd
    obtain ⟨rfl, rfl⟩ := hd
    simp only [VR] at h ⊢
    obtain ⟨u, h1, h2⟩ := h
    refine ⟨u, h1.plain hp, ?_⟩
    rcases h2 with h2 | ⟨b, off, cap, h2, h3, h4, h5⟩
    · exact .inl h2
    · exact .inr ⟨b, off, cap, .inl h2, h3, h4, h5⟩
  | .st ps, v', ids, all, x, hd, ha, h => by
    simp only [deepA, Option.map_eq_some_iff] at hd
    obtain ⟨⟨qs, js⟩, hq, hd⟩ := hd
    simp only [Prod.mk.injEq] at hd
    obtain ⟨rfl, rfl⟩ := hd
    simp only [VR] at h ⊢
    obtain ⟨cs, h1, h2⟩ := h
    exact ⟨cs, deepAs_specC hm ps qs js all cs hq ha h1, h2⟩
  | .iface t y, v', ids, all, x, hd, ha, h => by
    simp only [deepA, Option.map_eq_some_iff] at hd
    obtain ⟨⟨q, js⟩, hq, hd⟩ := hd
    simp only [Prod.mk.injEq] at hd
    obtain ⟨rfl, rfl⟩ := hd
    simp only [VR] at h ⊢
    obtain ⟨z, h1, h2⟩ := h
    exact ⟨z, deepA_spec hm y q js all z hq ha h1, h2⟩
  | .dead, _, _, _, _, hd, _, _ => by simp [deepA] at hd
  | .tup _, _, _, _, _, hd, _, _ => by simp [deepA] at hd
  | .ptr _ _ _ _, _, _, _, _, hd, _, _ => by simp [deepA] at hd
  | .pt _ _ _ _, _, _, _, _, hd, _, _ => by simp [deepA] at hd
  | .osl _ _, _, _, _, _, hd, _, _ => by simp [deepA] at hd
  | .rf _ _, _, _, _, _, hd, _, _ => by simp [deepA] at hd
  | .rv _ _ _ _ _, _, _, _, _, hd, _, _ => by simp [deepA] at hd
  | .mt _ _, _, _, _, _, hd, _, _ => by simp [deepA] at hd
  | .wv id lo n e, v', ids, all, x, hd, ha, h => by
    simp only [deepA] at hd
    split at hd
    case h_2 => cases hd
    rename_i blk hb
    have hd2 := cond_some hd
    obtain ⟨hp, hd⟩ := hd2
    split at hd
    case h_2 => cases hd
    rename_i c hc
    simp only [Option.some.injEq, Prod.mk.injEq, Bool.and_eq_true] at hd hp
    obtain ⟨rfl, rfl⟩ := hd
    have he := Nat.eq_of_beq_eq_true hp.2
    subst he
    exact sl_of_wv hm hb hp.1.1 hc h (ha id (by simp))
  | .rts, v', ids, all, x, hd, _, h => by
    simp only [deepA, Option.some.injEq, Prod.mk.injEq] at hd
    obtain ⟨rfl, rfl⟩ := hd
    simp only [VR] at h ⊢
    obtain ⟨b, k, h1, h2, h3⟩ := h
    exact ⟨b, k, .inl h1, .inl h2, h3⟩
  | .bool b, v', ids, all, x, hd, _, h => by simp only [deepA, Option.some.injEq, Prod.mk.injEq] at hd; obtain ⟨rfl, rfl⟩ := hd; simpa only [VR] using h
  | .int _ _, v', ids, all, x, hd, _, h => by simp only [deepA, Option.some.injEq, Prod.mk.injEq] at hd; obtain ⟨rfl, rfl⟩ := hd; simpa only [VR] using h
  | .ints _ _ _, v', ids, all, x, hd, _, h => by simp only [deepA, Option.some.injEq, Prod.mk.injEq] at hd; obtain ⟨rfl, rfl⟩ := hd; simpa only [VR] using h
  | .prs _ _ _, v', ids, all, x, hd, _, h => by simp only [deepA, Option.some.injEq, Prod.mk.injEq] at hd; obtain ⟨rfl, rfl⟩ := hd; simpa only [VR] using h
  | .nilp, v', ids, all, x, hd, _, h => by simp only [deepA, Option.some.injEq, Prod.mk.injEq] at hd; obtain ⟨rfl, rfl⟩ := hd; simpa only [VR] using h
  | .nils, v', ids, all, x, hd, _, h => by simp only [deepA, Option.some.injEq, Prod.mk.injEq] at hd; obtain ⟨rfl, rfl⟩ := hd; simpa only [VR] using h
  | .func _, v', ids, all, x, hd, _, h => by simp only [deepA, Option.some.injEq, Prod.mk.injEq] at hd; obtain ⟨rfl, rfl⟩ := hd; simpa only [VR] using h
  | .nili, v', ids, all, x, hd, _, h => by simp only [deepA, Option.some.injEq, Prod.mk.injEq] at hd; obtain ⟨rfl, rfl⟩ := hd; simpa only [VR] using h
  | .con _, v', ids, all, x, hd, _, h => by simp only [deepA, Option.some.injEq, Prod.mk.injEq] at hd; obtain ⟨rfl, rfl⟩ := hd; simpa only [VR] using h
theorem deepAs_specC (hm : ∀ id blk, m id = some blk → BR A w ρ id blk) : ∀ (ps ps' : List AV) (ids all : List Nat) (cs : List Value), deepAs m ps = some (ps', ids) → (∀ i ∈ ids, i ∈ all) → CRs A w ρ ps cs → CRs (Lent A m ρ all) w ρ0 ps' cs
  | [], ps', ids, all, cs, hd, _, h => by
    simp only [deepAs, Option.some.injEq, Prod.mk.injEq] at hd
    obtain ⟨rfl, rfl⟩ := hd
    simpa only [CRs] using h
  | p :: ps, ps', ids, all, cs, hd, ha, h => by
    simp only [deepAs] at hd
    split at hd
    case h_2 => cases hd
    rename_i x hx
    split at hd
    case h_2 => cases hd
    rename_i y hy
    simp only [Option.some.injEq, Prod.mk.injEq] at hd
    obtain ⟨rfl, rfl⟩ := hd
    simp only [CRs] at h ⊢
    obtain ⟨v, cs', h1, h2, h3⟩ := h
    exact ⟨v, cs', deepA_spec hm p x.1 x.2 all v hx (fun i hi => ha i (by simp [hi])) h1, deepAs_specC hm ps y.1 y.2 all cs' hy (fun i hi => ha i (by simp [hi])) h2, h3⟩
end
theorem deepA_live {v v' : AV} {ids : List Nat} (h : deepA m v = some (v', ids)) : v.live = true := by
  cases v <;> first | rfl | (simp [deepA] at h; done)
/-- Operands that are handed over. -/
theorem deepAs_spec (hm : ∀ id blk, m id = some blk → BR A w ρ id blk) (t : Nat → AV) (a : Act) (hs : ∀ x, SR A w ρ (ev t x) (a.eval x)) : ∀ (xs : List Operand) (ps' : List AV) (ids all : List Nat), deepAs m (xs.map (ev t)) = some (ps', ids) → (∀ i ∈ ids, i ∈ all) → VRs (Lent A m ρ all) w ρ0 ps' (xs.map a.eval)
  | [], ps', ids, all, hd, _ => by
    simp only [List.map_nil, deepAs, Option.some.injEq, Prod.mk.injEq] at hd
    obtain ⟨rfl, rfl⟩ := hd
    simp [VRs]
  | x :: xs, ps', ids, all, hd, ha => by
    simp only [List.map_cons, deepAs] at hd
    split at hd
    case h_2 => cases hd
    rename_i p hx
    split at hd
    case h_2 => cases hd
    rename_i y hy
    simp only [Option.some.injEq, Prod.mk.injEq] at hd
    obtain ⟨rfl, rfl⟩ := hd
    simp only [List.map_cons, VRs]
    exact ⟨_, _, deepA_spec hm _ p.1 p.2 all _ hx (fun i hi => ha i (by simp [hi])) ((hs x).vr (deepA_live hx)), deepAs_spec hm t a hs xs y.1 y.2 all hy (fun i hi => ha i (by simp [hi])), rfl⟩
end
/-- What a callee hands back, and which blocks are its reader's own from then on. -/
def R1 (A : Nat → Prop) (w : World) : AV → Value → List Nat → Prop
  | .osl e c, v, bs => ∃ u, VR A w ρ0 c u ∧ ((c.cnt = 0 ∧ u.cells.size = 0 ∧ v = .slice none 0 0 ∧ bs = []) ∨
      ∃ b cap cs, bs = [b] ∧ v = .slice (some ⟨b, 0, none⟩) c.cnt cap ∧ c.cnt ≤ cap ∧ w.heap[b]? = some (.cells cs e (0, 0)) ∧ (∀ (j : Nat) x, u.cells[j]? = some x → (cs : Array Value)[j]? = some x) ∧ cap * c.esz ≤ cs.size)
  | r, v, bs => VR A w ρ0 r v ∧ bs = []
def Rs (A : Nat → Prop) (w : World) : List AV → List Value → List Nat → Prop
  | [], vs, bs => vs = [] ∧ bs = []
  | p :: ps, vs, bs => ∃ v vs' b1 b2, R1 A w p v b1 ∧ Rs A w ps vs' b2 ∧ vs = v :: vs' ∧ bs = b1 ++ b2
def RR (A : Nat → Prop) (w : World) : AV → Value → List Nat → Prop
  | .tup ps, v, bs => ∃ vs, Rs A w ps vs bs ∧ v = .tuple vs.toArray
  | r, v, bs => R1 A w r v bs
/-- A call, from within the machine's step: of a function with a body, or without one. -/
def Inv (P : Program) (f : FuncId) (args : Array Value) (w : World) (K : Value → World → Prop) : Prop :=
  match (callFunc f args).run P w with
  | .ok (.value x) w' => K x w'
  | .ok (.enter f args) w' => Calls P f args w' fun e w'' => ∃ x, e = .returned x ∧ K x w''
  | _ => False
/-- What is handed over to be written: its value, and its block, room and content. -/
def PR1 (A : Nat → Prop) (w : World) : AV → Value → List (Nat × Nat × AV) → Prop
  | .rf e c, v, ms => ∃ b u cs m, VR A w ρ0 c u ∧ w.heap[b]? = some (.cells cs e (0, 0)) ∧ (∀ (j : Nat) x, u.cells[j]? = some x → (cs : Array Value)[j]? = some x) ∧ m * c.esz ≤ cs.size ∧ v = .pointer (some ⟨b, 0, none⟩) ∧ ms = [(b, m, c)]
  | .rv t lo n e c, v, ms => ∃ b u cs m cap, VR A w ρ0 c u ∧ w.heap[b]? = some (.cells cs t (0, 0)) ∧ (∀ (j : Nat) x, u.cells[j]? = some x → (cs : Array Value)[j]? = some x) ∧ m * c.esz ≤ cs.size ∧ v = .slice (some ⟨b, lo * e, none⟩) n cap ∧ n ≤ cap ∧ lo + n ≤ c.cnt ∧ ms = [(b, m, c)]
  | p, v, ms => VR A w ρ0 p v ∧ ms = []
def PRs (A : Nat → Prop) (w : World) : List AV → List Value → List (Nat × Nat × AV) → Prop
  | [], vs, ms => vs = [] ∧ ms = []
  | p :: ps, vs, ms => ∃ v vs' m1 m2, PR1 A w p v m1 ∧ PRs A w ps vs' m2 ∧ vs = v :: vs' ∧ ms = m1 ++ m2
/-- What was written. -/
def MC (A : Nat → Prop) (w : World) : List (Nat × Nat × AV) → List AV → Prop
  | [], l => l = []
  | (b, m, c) :: ms, l => ∃ e c' l', l = .rf e c' :: l' ∧ c'.cnt = c.cnt ∧ (∃ u cs, VR A w ρ0 c' u ∧ w.heap[b]? = some (.cells cs e (0, 0)) ∧ (∀ (j : Nat) x, u.cells[j]? = some x → (cs : Array Value)[j]? = some x) ∧ m * c'.esz ≤ cs.size) ∧ MC A w ms l'
structure EntOk (P : Program) (f : FuncId) (en : Ent) : Prop where
  law : EntLaw en
  ok : en.wr = false → ∀ n args r, en.go AV n args some = some r → ∀ (A : Nat → Prop) (w : World) (vs : List Value), (∀ b, A b → b < w.heap.size) → VRs A w ρ0 args vs → Glob P A w →
    Inv P f vs.toArray w fun x w' => MoreX (fun _ => False) A w w' ∧ ∃ (Ar : Nat → Prop) (bs : List Nat), (∀ b, Ar b → b < w'.heap.size ∧ ((en.frz = true ∧ A b) ∨ w.heap.size ≤ b)) ∧ (∀ b ∈ bs, w.heap.size ≤ b ∧ ¬ Ar b) ∧ bs.Nodup ∧ RR Ar w' r x bs
  okm : en.wr = true → ∀ n args r, en.go AV n args some = some r → ∀ (A : Nat → Prop) (w : World) (vs : List Value) (ms : List (Nat × Nat × AV)), (∀ b, A b → b < w.heap.size) → PRs A w args vs ms → (∀ x ∈ ms, ¬ A x.1) → (ms.map (·.1)).Nodup → Glob P A w →
    Inv P f vs.toArray w fun x w' => MoreX (fun b => b ∈ ms.map (·.1)) A w w' ∧ ∃ (r' : AV) (cs : List AV) (Ar : Nat → Prop) (bs : List Nat), r = .mt r' cs ∧ (∀ b, Ar b → b < w'.heap.size ∧ ((en.frz = true ∧ A b) ∨ w.heap.size ≤ b)) ∧ (∀ b ∈ bs, w.heap.size ≤ b ∧ ¬ Ar b) ∧ bs.Nodup ∧ RR Ar w' r' x bs ∧ MC Ar w' ms cs
def OrcOk (P : Program) (E : Env) : Prop := ∀ f en, lk E.orc f = some en → EntOk P f en
theorem OrcOk.law {P : Program} {E : Env} (h : OrcOk P E) : OrcLaw E := fun f en hf => (h f en hf).law
section
variable {P : Program} {E : Env} {W0 : World} {Wr : Wk} {nt : Nat} {A A' : Nat → Prop} {ρ ρ' : Rho} {s : AS} {a : Act} {w w' : World} {o : Oper} {f : Eff}
theorem SimR.addNil (h : SimR W0 Wr nt A ρ s a w) {id : Nat} {blk : Blk} {x : Nat × Nat} (hid : ∀ i, i < 1000 → 8000 + i ≠ id) (hρ : ρ id = some (none, x)) (hbr : BR A w ρ id blk) : SimR W0 Wr nt A ρ { s with m := upd s.m id (some blk) } a w := by
  have key : ∀ id' blk', upd s.m id (some blk) id' = some blk' → (id' = id ∧ blk' = blk) ∨ (id' ≠ id ∧ s.m id' = some blk') := by
    intro id' blk' h1
    by_cases hj : id' = id
    · subst hj; rw [upd_self] at h1; exact .inl ⟨rfl, (Option.some.inj h1).symm⟩
    · rw [upd_ne _ _ hj] at h1; exact .inr ⟨hj, h1⟩
  refine ⟨h.dfr, h.tsz, h.slot, fun id' blk' h1 => ?_, fun id1 id2 blk1 blk2 b' n n' h1 h2 hne ho1 hr1 hr2 => ?_, fun id' blk' b' n h1 ho1 hr => ?_, h.alive, h.fresh, h.fr, fun i b' n hi hb' hne => h.mt i b' n hi hb' (by simp only at hne; rwa [upd_ne _ _ (hid i hi)] at hne), h.gl⟩
  · rcases key _ _ h1 with ⟨rfl, rfl⟩ | ⟨_, h1⟩
    · exact hbr
    · exact h.mem _ _ h1
  · rcases key _ _ h1 with ⟨e1, e2⟩ | ⟨_, g1⟩ <;> rcases key _ _ h2 with ⟨e3, e4⟩ | ⟨_, g2⟩
    · exact hne (e1.trans e3.symm)
    · rw [e1, hρ] at hr1; cases hr1
    · rw [e3, hρ] at hr2; cases hr2
    · exact h.inj id1 id2 blk1 blk2 b' n n' g1 g2 hne ho1 hr1 hr2
  · rcases key _ _ h1 with ⟨rfl, rfl⟩ | ⟨_, h1⟩
    · rw [hρ] at hr; cases hr
    · exact h.own _ _ _ _ h1 ho1 hr
theorem R1.mono (hA : ∀ b, A b → A' b) {p : AV} {v : Value} {bs : List Nat} (h : R1 A w p v bs) : R1 A' w p v bs := by
  cases p
  case osl e c =>
    simp only [R1] at h ⊢
    obtain ⟨u, h1, h2⟩ := h
    exact ⟨u, VR.mono hA (.refl _ _) (fun _ _ h => h) _ _ h1, h2⟩
  all_goals exact ⟨VR.mono hA (.refl _ _) (fun _ _ h => h) _ _ h.1, h.2⟩
theorem Rs.mono (hA : ∀ b, A b → A' b) : ∀ (ps : List AV) (vs : List Value) (bs : List Nat), Rs A w ps vs bs → Rs A' w ps vs bs
  | [], _, _, h => h
  | p :: ps, vs, bs, h => by
    simp only [Rs] at h ⊢
    obtain ⟨v, vs', b1, b2, r1, r2, h3, h4⟩ := h
    exact ⟨v, vs', b1, b2, r1.mono hA, Rs.mono hA ps vs' b2 r2, h3, h4⟩
theorem RR.mono (hA : ∀ b, A b → A' b) {p : AV} {v : Value} {bs : List Nat} (h : RR A w p v bs) : RR A' w p v bs := by
  cases p
  case tup ps =>
    simp only [RR] at h ⊢
    obtain ⟨vs, h1, h2⟩ := h
    exact ⟨vs, Rs.mono hA ps vs bs h1, h2⟩
  all_goals (simp only [RR] at h ⊢; exact R1.mono hA h)
theorem bumps_notin (c : Nat → Nat) (i : Nat) : ∀ (l : List Nat), i ∉ l → bumps c l i = c i
  | [], _ => rfl
  | d :: r, h => by
    simp only [List.mem_cons, not_or] at h
    simp only [bumps]
    rw [upd_ne _ _ h.1, bumps_notin c i r h.2]
theorem resTup_nw (s : AS) (d : Nat) : ∀ (ps : List AV) (j i : Nat), i ∈ (resTup s d j ps).2.2 → d + 1000 * j ≤ i
  | [], j, i, h => by simp [resTup] at h
  | p :: ps, j, i, h => by
    have ih := resTup_nw s d ps (j + 1) i
    cases p
    case osl e c =>
      simp only [resTup, List.mem_cons] at h
      rcases h with rfl | h
      · exact Nat.le_refl _
      · have := ih h; omega
    all_goals (simp only [resTup] at h; have := ih h; omega)
theorem R1.vr {p : AV} {v : Value} {bs : List Nat} (hp : ∀ e c, p ≠ .osl e c) (h : R1 A w p v bs) : VR A w ρ0 p v ∧ bs = [] := by
  cases p
  case osl e c => exact absurd rfl (hp e c)
  all_goals exact h
theorem VR.of0 {p : AV} {v : Value} (h : VR A w ρ0 p v) : VR A w ρ p v := VR.mono (fun _ h => h) (.refl _ _) (fun id x h => by simp [ρ0] at h) p v h
/-- What comes back becomes one's own. -/
theorem resTup_sound (B : Nat) (hWB : W0.heap.size ≤ B) (d : Nat) (hd : d < 1000) : ∀ (ps : List AV) (j : Nat) (vs : List Value) (bs : List Nat), j + ps.length ≤ 8 →
    SimR W0 Wr nt A ρ s a w → (∀ id blk b n, s.m id = some blk → ρ id = some (some b, n) → b < B) → Rs A w ps vs bs → (∀ b ∈ bs, B ≤ b ∧ ¬ A b) → bs.Nodup →
    ∃ ρ', SimR W0 Wr nt A ρ' { s with m := ups s.m (resTup s d j ps).2.1, c := bumps s.c (resTup s d j ps).2.2 } a w ∧ VRs A w ρ' (resTup s d j ps).1 vs ∧
      (∀ id blk b n, ups s.m (resTup s d j ps).2.1 id = some blk → ρ' id = some (some b, n) → b < B ∨ b ∈ bs)
  | [], j, vs, bs, hj, h, ho, hr, hb, hn => by
    simp only [Rs] at hr
    obtain ⟨rfl, rfl⟩ := hr
    exact ⟨ρ, h, by simp [resTup, VRs], fun id blk b n h1 h2 => .inl (ho id blk b n h1 h2)⟩
  | p :: ps, j, vs, bs, hj, h, ho, hr, hb, hn => by
    simp only [List.length_cons] at hj
    simp only [Rs] at hr
    obtain ⟨v, vs', b1, b2, r1, r2, rfl, rfl⟩ := hr
    rw [List.nodup_append] at hn
    obtain ⟨n1, n2, n3⟩ := hn
    obtain ⟨ρ1, g1, g2, g3⟩ := resTup_sound B hWB d hd ps (j + 1) vs' b2 (by omega) h ho r2 (fun b hb' => hb b (by simp [hb'])) n2
    by_cases hp : ∃ e c, p = .osl e c
    · obtain ⟨e, c, rfl⟩ := hp
      simp only [R1] at r1
      obtain ⟨u, hu, r1⟩ := r1
      have hc : bumps s.c (resTup s d (j + 1) ps).2.2 (d + 1000 * j) = s.c (d + 1000 * j) := bumps_notin _ _ _ (fun hm => by have := resTup_nw s d ps _ _ hm; omega)
      simp only [resTup, ups, bumps]
      rcases r1 with ⟨hc0, hu0, rfl, rfl⟩ | ⟨b, cap, cs, rfl, rfl, hcap, hcell, hpre, hroom⟩
      · obtain ⟨t2, hnone, hmn⟩ := g1.ext (d := d + 1000 * j) (by omega) (none, (c.cnt, 0))
        simp only [hc] at t2 hnone hmn
        have hρ : ∀ id x', ρ1 id = some x' → upd ρ1 (mkId (d + 1000 * j) (s.c (d + 1000 * j))) (some (none, (c.cnt, 0))) id = some x' := by
          intro id x' hx
          by_cases hj : id = mkId (d + 1000 * j) (s.c (d + 1000 * j))
          · rw [hj, hnone] at hx; cases hx
          · rw [upd_ne _ _ hj]; exact hx
        have t3 := t2.addNil (id := mkId (d + 1000 * j) (s.c (d + 1000 * j))) (blk := ⟨e, true, c⟩) (fun i hi => by unfold mkId; omega) (by rw [upd_self]) ⟨none, u, 0, by rw [upd_self], hu.of0, hu0⟩
        refine ⟨_, by rw [hc]; exact t3, ?_, fun id blk b n h1 h2 => ?_⟩
        · simp only [VRs]
          refine ⟨_, vs', ?_, VRs.mono (fun _ h => h) (.refl _ _) hρ _ _ g2, rfl⟩
          simp only [VR]
          exact ⟨none, (c.cnt, 0), by rw [upd_self], by simp [hc0]⟩
        · by_cases hj : id = mkId (d + 1000 * j) (s.c (d + 1000 * j))
          · subst hj; rw [upd_self] at h2; cases h2
          · rw [upd_ne _ _ hj] at h1 h2
            simpa using g3 id blk b n h1 h2
      · obtain ⟨t2, hnone, hmn⟩ := g1.ext (d := d + 1000 * j) (by omega) (some b, (c.cnt, cap))
        simp only [hc] at t2 hnone hmn
        have hρ : ∀ id x', ρ1 id = some x' → upd ρ1 (mkId (d + 1000 * j) (s.c (d + 1000 * j))) (some (some b, (c.cnt, cap))) id = some x' := by
          intro id x' hx
          by_cases hj : id = mkId (d + 1000 * j) (s.c (d + 1000 * j))
          · rw [hj, hnone] at hx; cases hx
          · rw [upd_ne _ _ hj]; exact hx
        have hbB := hb b (by simp)
        have hfar : ∀ id' blk' n, ups s.m (resTup s d (j + 1) ps).2.1 id' = some blk' → upd ρ1 (mkId (d + 1000 * j) (s.c (d + 1000 * j))) (some (some b, (c.cnt, cap))) id' ≠ some (some b, n) := by
          intro id' blk' n h1 h2
          by_cases hj : id' = mkId (d + 1000 * j) (s.c (d + 1000 * j))
          · subst hj; rw [hmn] at h1; cases h1
          · rw [upd_ne _ _ hj] at h2
            rcases g3 id' blk' b n h1 h2 with h3 | h3
            · omega
            · exact n3 b (by simp) b h3 rfl
        have t3 := t2.add (id := mkId (d + 1000 * j) (s.c (d + 1000 * j))) (b := b) (m := cap) (blk := ⟨e, true, c⟩) hmn (by rw [upd_self]) (.inl (by omega)) hbB.2 hfar
          ⟨some b, u, cap, by rw [upd_self], hu.of0, cs, (0, 0), hcell, hpre, fun _ => rfl, hroom⟩ (fun i b' n hi e' _ => by unfold mkId at e'; omega)
        refine ⟨_, by rw [hc]; exact t3, ?_, fun id blk b' n h1 h2 => ?_⟩
        · simp only [VRs]
          refine ⟨_, vs', ?_, VRs.mono (fun _ h => h) (.refl _ _) hρ _ _ g2, rfl⟩
          exact SR_wsl (A := A) (w := w) (by rw [upd_self]) hcap (Nat.le_refl _)
        · by_cases hj : id = mkId (d + 1000 * j) (s.c (d + 1000 * j))
          · subst hj; rw [upd_self] at h2
            simp only [Option.some.injEq, Prod.mk.injEq] at h2
            exact .inr (by simp [h2.1])
          · rw [upd_ne _ _ hj] at h1 h2
            rcases g3 id blk b' n h1 h2 with h3 | h3
            · exact .inl h3
            · exact .inr (by simp [h3])
    · have hp' : ∀ e c, p ≠ .osl e c := fun e c h => hp ⟨e, c, h⟩
      obtain ⟨hv, rfl⟩ := r1.vr hp'
      have e1 : resTup s d j (p :: ps) = (p :: (resTup s d (j + 1) ps).1, (resTup s d (j + 1) ps).2.1, (resTup s d (j + 1) ps).2.2) := by
        cases p <;> first | rfl | exact absurd rfl (hp' _ _)
      rw [e1]
      exact ⟨ρ1, g1, by simp only [VRs]; exact ⟨v, vs', hv.of0, g2, rfl⟩, fun id blk b n h1 h2 => by simpa using g3 id blk b n h1 h2⟩
theorem resA_sound (B : Nat) (hWB : W0.heap.size ≤ B) (hnt : nt ≤ 1000) (h : SimR W0 Wr nt A ρ s a w) (ho : ∀ id blk b n, s.m id = some blk → ρ id = some (some b, n) → b < B) {dst : Option Tmp} (hdst : ∀ d, dst = some d → d < nt)
    {r : AV} {rd bs : List Nat} {x : Value} (hf : resA s dst rd r = some f) (hr : RR A w r x bs) (hb : ∀ b ∈ bs, B ≤ b ∧ ¬ A b) (hn : bs.Nodup) : After W0 Wr nt s a dst f x w := by
  unfold resA at hf
  split at hf
  · rename_i e c d
    have hdn : (d : Nat) < 1000 := Nat.lt_of_lt_of_le (hdst d rfl) hnt
    have hr' : Rs A w [.osl e c] [x] bs := by
      simp only [Rs]
      exact ⟨x, [], bs, [], hr, ⟨rfl, rfl⟩, rfl, by simp⟩
    obtain ⟨ρ', g1, g2, _⟩ := resTup_sound B hWB d hdn [.osl e c] 0 [x] bs (by simp) h ho hr' hb hn
    simp only [Option.some.injEq] at hf
    subst hf
    simp only [resTup, Nat.mul_zero, Nat.add_zero, VRs] at g1 g2
    obtain ⟨v, vs', hv, hvs, he⟩ := g2
    simp only [List.cons.injEq] at he
    obtain ⟨rfl, _⟩ := he
    exact ⟨A, ρ', g1.put hdst hv.sr⟩
  · simp only [Option.some.injEq] at hf
    subst hf
    exact ⟨A, ρ, h.put hdst (v := .dead) trivial⟩
  · rename_i ps d
    have hdn : (d : Nat) < 1000 := Nat.lt_of_lt_of_le (hdst d rfl) hnt
    have hf2 := cond_some hf
    obtain ⟨hl, hf⟩ := hf2
    simp only [RR] at hr
    obtain ⟨vs, hr, rfl⟩ := hr
    obtain ⟨ρ', g1, g2, _⟩ := resTup_sound B hWB d hdn ps 0 vs bs (by have := Nat.le_of_ble_eq_true hl; omega) h ho hr hb hn
    simp only [Option.some.injEq] at hf
    subst hf
    refine ⟨A, ρ', g1.put hdst (v := .tup (resTup s d 0 ps).1) ?_⟩
    simp only [SR]
    exact ⟨vs, g2, rfl⟩
  · simp only [Option.some.injEq] at hf
    subst hf
    exact ⟨A, ρ, h.put hdst (v := .dead) trivial⟩
  · rename_i h1 h2 h3 h4
    simp only [Option.some.injEq] at hf
    subst hf
    have hp1 : ∀ ps, r ≠ .tup ps := by
      intro ps e
      subst e
      cases dst with
      | none => exact h4 _ rfl rfl
      | some d => exact h3 _ _ rfl rfl
    have hp2 : ∀ e c, r ≠ .osl e c := by
      intro e c e'
      subst e'
      cases dst with
      | none => exact h2 _ _ rfl rfl
      | some d => exact h1 _ _ _ rfl rfl
    have hr' : R1 A w r x bs := by
      cases r
      case tup ps => exact absurd rfl (hp1 ps)
      all_goals exact hr
    obtain ⟨hv, rfl⟩ := hr'.vr hp2
    exact ⟨A, ρ, h.put hdst (v := r) (VR.sr hv.of0)⟩
theorem deepA_cnt {m : Nat → Option Blk} {v v' : AV} {ids : List Nat} (h : deepA m v = some (v', ids)) : v'.cnt = v.cnt ∧ v'.esz = v.esz := by
  cases v
  case wsl id =>
    simp only [deepA] at h
    split at h
    case h_2 => cases h
    obtain ⟨_, h⟩ := cond_some h
    simp only [Option.some.injEq, Prod.mk.injEq] at h
    obtain ⟨rfl, _⟩ := h
    exact ⟨rfl, rfl⟩
  case sl c =>
    simp only [deepA] at h
    obtain ⟨_, h⟩ := cond_some h
    simp only [Option.some.injEq, Prod.mk.injEq] at h
    obtain ⟨rfl, _⟩ := h
    exact ⟨rfl, rfl⟩
  case st ps =>
    simp only [deepA, Option.map_eq_some_iff, Prod.mk.injEq] at h
    obtain ⟨_, _, rfl, _⟩ := h
    exact ⟨rfl, rfl⟩
  case iface t x =>
    simp only [deepA, Option.map_eq_some_iff, Prod.mk.injEq] at h
    obtain ⟨_, _, rfl, _⟩ := h
    exact ⟨rfl, rfl⟩
  case wv id lo n e =>
    simp only [deepA] at h
    split at h
    case h_2 => cases h
    obtain ⟨_, h⟩ := cond_some h
    split at h
    case h_2 => cases h
    simp only [Option.some.injEq, Prod.mk.injEq] at h
    obtain ⟨rfl, _⟩ := h
    exact ⟨rfl, rfl⟩
  all_goals first | (simp [deepA] at h; done) | (simp only [deepA, Option.some.injEq, Prod.mk.injEq] at h; obtain ⟨rfl, _⟩ := h; exact ⟨rfl, rfl⟩)
/-- What is handed over to be written, on the giver's side. -/
def MI (m : Nat → Option Blk) (ρ : Rho) (w : World) : List Nat → List (Nat × Nat × AV) → Prop
  | [], ms => ms = []
  | id :: ids, l => ∃ b k c ms blk cs, l = (b, k, c) :: ms ∧ m id = some blk ∧ blk.own = true ∧ ρ id = some (some b, (blk.c.cnt, k)) ∧ c.cnt = blk.c.cnt ∧ c.esz = blk.c.esz ∧ w.heap[b]? = some (.cells cs blk.e (0, 0)) ∧ MI m ρ w ids ms
theorem MI.append {m : Nat → Option Blk} {ρ : Rho} {w : World} : ∀ {i1 i2 : List Nat} {l1 l2 : List (Nat × Nat × AV)}, MI m ρ w i1 l1 → MI m ρ w i2 l2 → MI m ρ w (i1 ++ i2) (l1 ++ l2)
  | [], i2, l1, l2, h1, h2 => by
    simp only [MI] at h1
    subst h1
    exact h2
  | id :: i1, i2, l1, l2, h1, h2 => by
    simp only [MI] at h1
    obtain ⟨b, k, c, ms, blk, cs, rfl, g1, g2, g3, g4, g5, g6, g7⟩ := h1
    simp only [List.cons_append, MI]
    exact ⟨b, k, c, ms ++ l2, blk, cs, rfl, g1, g2, g3, g4, g5, g6, g7.append h2⟩
theorem MI.mem {m : Nat → Option Blk} {ρ : Rho} {w : World} : ∀ {ids : List Nat} {l : List (Nat × Nat × AV)}, MI m ρ w ids l → ∀ b ∈ l.map (·.1), ∃ id ∈ ids, ∃ blk n cs, m id = some blk ∧ blk.own = true ∧ ρ id = some (some b, n) ∧ w.heap[b]? = some (.cells cs blk.e (0, 0))
  | [], l, h, b, hb => by
    simp only [MI] at h
    subst h
    simp at hb
  | id :: ids, l, h, b, hb => by
    simp only [MI] at h
    obtain ⟨b1, k, c, ms, blk, cs, rfl, g1, g2, g3, g4, g5, g6, g7⟩ := h
    simp only [List.map_cons, List.mem_cons] at hb
    rcases hb with rfl | hb
    · exact ⟨id, by simp, blk, _, cs, g1, g2, g3, g6⟩
    · obtain ⟨id', h1, h2⟩ := g7.mem b hb
      exact ⟨id', by simp [h1], h2⟩
theorem MI.nodup (h : SimR W0 Wr nt A ρ s a w) : ∀ {ids : List Nat} {l : List (Nat × Nat × AV)}, MI s.m ρ w ids l → ids.Nodup → (l.map (·.1)).Nodup
  | [], l, hi, _ => by
    simp only [MI] at hi
    subst hi
    simp
  | id :: ids, l, hi, hn => by
    simp only [MI] at hi
    obtain ⟨b, k, c, ms, blk, cs, rfl, g1, g2, g3, g4, g5, g6, g7⟩ := hi
    rw [List.nodup_cons] at hn
    simp only [List.map_cons, List.nodup_cons]
    refine ⟨fun hb => ?_, MI.nodup h g7 hn.2⟩
    obtain ⟨id', h1, blk', n, cs', h2, _, h3, _⟩ := g7.mem b hb
    exact h.inj id id' blk blk' b _ n g1 h2 (fun e => hn.1 (e ▸ h1)) g2 g3 h3
theorem packA_spec (h : SimR W0 Wr nt A ρ s a w) {v p : AV} {rd ms : List Nat} {g : Bool} {x : Value} {all : List Nat} (hp : packA s.m v = some (p, rd, ms, g)) (hg : g = true) (ha : ∀ i ∈ rd, i ∈ all) (hv : SR A w ρ v x) :
    ∃ l, PR1 (Lent A s.m ρ all) w p x l ∧ MI s.m ρ w ms l := by
  unfold packA at hp
  split at hp
  · rename_i id
    split at hp
    case h_2 => cases hp
    rename_i blk hm
    obtain ⟨hown, hp⟩ := cond_some hp
    split at hp
    case h_2 => cases hp
    rename_i c hd
    simp only [Option.some.injEq, Prod.mk.injEq] at hp
    obtain ⟨rfl, rfl, rfl, _⟩ := hp
    simp only [SR, VR] at hv
    obtain ⟨b, n, h1, rfl, _⟩ := hv
    obtain ⟨ob, u, k, g1, g2, g3⟩ := h.mem _ _ hm
    rw [h1] at g1
    simp only [Option.some.injEq, Prod.mk.injEq] at g1
    obtain ⟨rfl, rfl⟩ := g1
    obtain ⟨cs, fr, k1, k2, k3, k4⟩ := g3
    have hfr := k3 hown
    subst hfr
    obtain ⟨e1, e2⟩ := deepA_cnt hd
    refine ⟨[(b, k, c)], ?_, ?_⟩
    · simp only [PR1]
      exact ⟨b, u, cs, k, deepA_spec h.mem blk.c c [] all u hd (by simp) g2, k1, k2, by rw [e2]; exact k4, by simp, rfl⟩
    · simp only [MI]
      exact ⟨b, k, c, [], blk, cs, rfl, hm, hown, h1, e1, e2, k1, rfl⟩
  · rename_i id lo n e
    split at hp
    case h_2 => cases hp
    rename_i blk hm
    obtain ⟨hc, hp⟩ := cond_some hp
    simp only [Bool.and_eq_true] at hc
    obtain ⟨⟨hown, hpl⟩, he⟩ := hc
    have he := nat_beq he
    simp only [Option.some.injEq, Prod.mk.injEq] at hp
    obtain ⟨rfl, rfl, rfl, rfl⟩ := hp
    simp only [Bool.and_eq_true] at hg
    have hn := nat_blt hg.1
    have hle := Nat.le_of_ble_eq_true hg.2
    simp only [SR, VR] at hv
    obtain ⟨ob, N, h1, h2⟩ := hv
    obtain ⟨ob', u, k, g1, g2, g3⟩ := h.mem _ _ hm
    rw [h1] at g1
    simp only [Option.some.injEq, Prod.mk.injEq] at g1
    obtain ⟨rfl, rfl⟩ := g1
    rcases h2 with ⟨h2, _⟩ | ⟨b, cap, rfl, rfl, h4, h5⟩
    · omega
    obtain ⟨cs, fr, k1, k2, k3, k4⟩ := g3
    have hfr := k3 hown
    subst hfr
    refine ⟨[(b, k, blk.c)], ?_, ?_⟩
    · simp only [PR1]
      exact ⟨b, u, cs, k, cap, g2.plain hpl, k1, k2, k4, rfl, h4, hle, rfl⟩
    · simp only [MI]
      exact ⟨b, k, blk.c, [], blk, cs, rfl, hm, hown, h1, rfl, rfl, k1, rfl⟩
  · rename_i hn1 hn2
    split at hp
    case h_2 => cases hp
    rename_i y hd
    simp only [Option.some.injEq, Prod.mk.injEq] at hp
    obtain ⟨rfl, rfl, rfl, _⟩ := hp
    have hv' := hv.vr (deepA_live hd)
    have h3 := deepA_spec h.mem v y.1 y.2 all x hd ha hv'
    refine ⟨[], ?_, rfl⟩
    have hne : ∀ p : AV, VR (Lent A s.m ρ all) w ρ0 p x → PR1 (Lent A s.m ρ all) w p x [] := by
      intro p hp
      cases p
      case rf e c => simp only [VR] at hp
      case rv t lo n e c => simp only [VR] at hp
      all_goals exact ⟨hp, rfl⟩
    exact hne _ h3
theorem packAs_spec (h : SimR W0 Wr nt A ρ s a w) : ∀ (xs : List Operand) (ps : List AV) (rd ms all : List Nat) (g : Bool), packAs s.m (xs.map (ev s.t)) = some (ps, rd, ms, g) → g = true → (∀ i ∈ rd, i ∈ all) →
    ∃ l, PRs (Lent A s.m ρ all) w ps (xs.map a.eval) l ∧ MI s.m ρ w ms l
  | [], ps, rd, ms, all, g, hp, hg, ha => by
    simp only [List.map_nil, packAs, Option.some.injEq, Prod.mk.injEq] at hp
    obtain ⟨rfl, rfl, rfl, _⟩ := hp
    exact ⟨[], ⟨rfl, rfl⟩, rfl⟩
  | x :: xs, ps, rd, ms, all, g, hp, hg, ha => by
    simp only [List.map_cons, packAs] at hp
    split at hp
    case h_2 => cases hp
    rename_i p1 hx
    split at hp
    case h_2 => cases hp
    rename_i p2 hxs
    simp only [Option.some.injEq, Prod.mk.injEq] at hp
    obtain ⟨rfl, rfl, rfl, rfl⟩ := hp
    simp only [Bool.and_eq_true] at hg
    obtain ⟨q1, q2, q3, q4⟩ := p1
    obtain ⟨r1, r2, r3, r4⟩ := p2
    simp only at ha hg
    obtain ⟨l1, a1, b1⟩ := packA_spec h hx hg.1 (all := all) (fun i hi => ha i (by simp [hi])) (h.ev x)
    obtain ⟨l2, a2, b2⟩ := packAs_spec h xs r1 r2 r3 all r4 hxs hg.2 (fun i hi => ha i (by simp [hi]))
    exact ⟨l1 ++ l2, ⟨_, _, l1, l2, a1, a2, rfl, rfl⟩, b1.append b2⟩
theorem ups_append (m : Nat → Option Blk) : ∀ (l l' : List (Nat × Option Blk)), ups m (l ++ l') = ups (ups m l') l
  | [], _ => rfl
  | (i, b) :: r, l' => by
    simp only [List.cons_append, ups]
    rw [ups_append m r l']
theorem SimR.drops (h : SimR W0 Wr nt A ρ s a w) : ∀ (ids : List Nat), SimR W0 Wr nt A ρ { s with m := ups s.m (ids.map fun i => (i, none)) } a w
  | [] => h
  | i :: r => (SimR.drops h r).drop i
theorem drops_some {m : Nat → Option Blk} : ∀ {ids : List Nat} {i : Nat} {blk : Blk}, ups m (ids.map fun i => (i, none)) i = some blk → i ∉ ids ∧ m i = some blk
  | [], i, blk, h => ⟨by simp, h⟩
  | j :: r, i, blk, h => by
    simp only [List.map_cons, ups] at h
    by_cases e : i = j
    · subst e; rw [upd_self] at h; cases h
    · rw [upd_ne _ _ e] at h
      obtain ⟨h1, h2⟩ := drops_some h
      exact ⟨by simp [e, h1], h2⟩
theorem mutUp_ids {m : Nat → Option Blk} : ∀ {ids : List Nat} {cs : List AV} {up : List (Nat × Option Blk)}, mutUp m ids cs = some up → up.map (·.1) = ids
  | [], [], up, h => by simp only [mutUp, Option.some.injEq] at h; subst h; rfl
  | [], _ :: _, up, h => by simp [mutUp] at h
  | id :: ids, [], up, h => by simp [mutUp] at h
  | id :: ids, c :: cs, up, h => by
    cases c
    case rf e c =>
      simp only [mutUp] at h
      split at h
      case h_2 => cases h
      obtain ⟨_, h⟩ := cond_some h
      split at h
      case h_2 => cases h
      rename_i l hl
      simp only [Option.some.injEq] at h
      subst h
      simp only [List.map_cons, mutUp_ids hl]
    all_goals simp [mutUp] at h
theorem ups_over (m : Nat → Option Blk) : ∀ (up : List (Nat × Option Blk)) (ids : List Nat), (∀ i ∈ ids, i ∈ up.map (·.1)) → ups (ups m (ids.map fun i => (i, none))) up = ups m up := by
  intro up ids hi
  funext j
  have key : ∀ (up : List (Nat × Option Blk)) (m1 m2 : Nat → Option Blk), (j ∈ up.map (·.1) ∨ m1 j = m2 j) → ups m1 up j = ups m2 up j := by
    intro up
    induction up with
    | nil => intro m1 m2 h; simpa [ups] using h
    | cons x r ih =>
      intro m1 m2 h
      obtain ⟨i, b⟩ := x
      simp only [ups]
      by_cases e : j = i
      · subst e; rw [upd_self, upd_self]
      · rw [upd_ne _ _ e, upd_ne _ _ e]
        refine ih _ _ ?_
        simp only [List.map_cons, List.mem_cons] at h
        rcases h with (h | h) | h
        · exact absurd h e
        · exact .inl h
        · exact .inr h
  by_cases hj : j ∈ up.map (·.1)
  · exact key up _ _ (.inl hj)
  · refine key up _ _ (.inr ?_)
    have : ∀ (ids : List Nat), j ∉ ids → ups m (ids.map fun i => (i, none)) j = m j := by
      intro ids
      induction ids with
      | nil => intro _; rfl
      | cons i r ih =>
        intro h
        simp only [List.mem_cons, not_or] at h
        simp only [List.map_cons, ups]
        rw [upd_ne _ _ h.1, ih h.2]
    exact this ids (fun h => hj (hi j h))
theorem ups_notin' (m : Nat → Option Blk) (i : Nat) : ∀ (l : List (Nat × Option Blk)), i ∉ l.map (·.1) → ups m l i = m i
  | [], _ => rfl
  | (j, b) :: r, h => by
    simp only [List.map_cons, List.mem_cons, not_or] at h
    simp only [ups]
    rw [upd_ne _ _ h.1, ups_notin' m i r h.2]
theorem nodupB_nodup : ∀ (l : List Nat), nodupB l = true → l.Nodup
  | [], _ => List.nodup_nil
  | x :: r, h => by
    simp only [nodupB, Bool.and_eq_true, Bool.not_eq_true'] at h
    rw [List.nodup_cons]
    refine ⟨fun hx => ?_, nodupB_nodup r h.2⟩
    have := List.any_eq_false.1 h.1 x hx
    rw [Nat.beq_refl] at this
    exact this rfl
theorem resTup_m (s : AS) (m : Nat → Option Blk) (d : Nat) : ∀ (l : List AV) (j : Nat), resTup { s with m := m } d j l = resTup s d j l
  | [], j => rfl
  | v :: r, j => by cases v <;> simp only [resTup, resTup_m s m d r (j + 1)]
theorem resA_m (s : AS) (m : Nat → Option Blk) (dst : Option Tmp) (rd : List Nat) (r : AV) : resA { s with m := m } dst rd r = resA s dst rd r := by
  unfold resA
  split <;> simp only [resTup_m]
theorem MI.blk {m : Nat → Option Blk} {ρ : Rho} {w : World} : ∀ {ids : List Nat} {l : List (Nat × Nat × AV)}, MI m ρ w ids l → ∀ id ∈ ids, ∃ b n, b ∈ l.map (·.1) ∧ ρ id = some (some b, n)
  | id :: ids, l, h, i, hi => by
    simp only [MI] at h
    obtain ⟨b, k, c, ms, blk, cs, rfl, g1, g2, g3, g4, g5, g6, g7⟩ := h
    rcases List.mem_cons.1 hi with rfl | hi
    · exact ⟨b, _, by simp, g3⟩
    · obtain ⟨b', n, h1, h2⟩ := g7.blk i hi
      exact ⟨b', n, by simp [h1], h2⟩
theorem MI.blk' {m : Nat → Option Blk} {ρ : Rho} {w : World} : ∀ {ids : List Nat} {l : List (Nat × Nat × AV)}, MI m ρ w ids l → ∀ id ∈ ids, ∃ b n, b ∈ l.map (·.1) ∧ ρ id = some (some b, n) ∧ ∃ blk, m id = some blk ∧ blk.own = true
  | id :: ids, l, h, i, hi => by
    simp only [MI] at h
    obtain ⟨b, k, c, ms, blk, cs, rfl, g1, g2, g3, g4, g5, g6, g7⟩ := h
    rcases List.mem_cons.1 hi with rfl | hi
    · exact ⟨b, _, by simp, g3, blk, g1, g2⟩
    · obtain ⟨b', n, h1, h2⟩ := g7.blk' i hi
      exact ⟨b', n, by simp [h1], h2⟩
/-- What was written becomes known again. -/
theorem mutUp_sound {w0 : World} {m0 : Nat → Option Blk} {Ar : Nat → Prop} (hAr : ∀ b, Ar b → A b) : ∀ (ids : List Nat) (ms : List (Nat × Nat × AV)) (cs : List AV) (up : List (Nat × Option Blk)) (s : AS), SimR W0 Wr nt A ρ s a w → MI m0 ρ w0 ids ms → mutUp m0 ids cs = some up → MC Ar w ms cs →
    (∀ id ∈ ids, s.m id = none) → ids.Nodup → (ms.map (·.1)).Nodup → (∀ b ∈ ms.map (·.1), ¬ A b) → (∀ id ∈ ids, ∀ b n, ρ id = some (some b, n) → OwnB W0 Wr id b) → (∀ id blk b n, s.m id = some blk → ρ id = some (some b, n) → b ∉ ms.map (·.1)) →
    (∀ id ∈ ids, ∀ i b' n, i < 1000 → id = 8000 + i → Wr.mb i = some (b', n) → ρ id = some (some b', n)) →
    SimR W0 Wr nt A ρ { s with m := ups s.m up } a w
  | [], ms, cs, up, s, h, hi, hu, hc, _, _, _, _, _, _, _ => by
    cases cs with
    | nil => simp only [mutUp, Option.some.injEq] at hu; subst hu; exact h
    | cons c cs => simp [mutUp] at hu
  | id :: ids, l, cs, up, s, h, hi, hu, hc, hnone, hnd, hnb, hnA, hown, hfar, hmt => by
    simp only [MI] at hi
    obtain ⟨b, k, c, ms, blk, cs0, rfl, g1, g2, g3, g4, g5, g6, g7⟩ := hi
    simp only [MC] at hc
    obtain ⟨e, c', cs', rfl, hcnt, ⟨u, cc, v1, v2, v3, v4⟩, hc'⟩ := hc
    simp only [mutUp] at hu
    rw [g1] at hu
    simp only at hu
    obtain ⟨he, hu⟩ := cond_some hu
    simp only [Bool.and_eq_true] at he
    have he1 := nat_beq he.1
    split at hu
    case h_2 => cases hu
    rename_i up' hup
    simp only [Option.some.injEq] at hu
    subst hu
    rw [List.nodup_cons] at hnd
    simp only [List.map_cons, List.nodup_cons] at hnb
    have hown' := hown id (by simp) b _ g3
    have ih := mutUp_sound hAr ids ms cs' up' s h g7 hup hc' (fun i hi => hnone i (by simp [hi])) hnd.2 hnb.2 (fun b' hb' => hnA b' (by simp [hb'])) (fun i hi => hown i (by simp [hi])) (fun id' blk' b' n h1 h2 h3 => hfar id' blk' b' n h1 h2 (by simp [h3])) (fun i hi => hmt i (by simp [hi]))
    have hups : ∀ j, j ∉ ids → ups s.m up' j = s.m j := by
      intro j hj
      rw [← mutUp_ids hup] at hj
      exact ups_notin' s.m j up' hj
    have := ih.add (id := id) (b := b) (m := k) (blk := { blk with c := c' }) (by simp only; rw [hups id hnd.1]; exact hnone id (by simp)) (by rw [g3, hcnt, g4]) hown' (hnA b (by simp)) (fun id' blk' n h1 h2 => ?_)
      ⟨some b, u, k, by rw [g3, hcnt, g4], VR.mono hAr (.refl _ _) (fun _ _ h => by simp [ρ0] at h) _ _ v1, cc, (0, 0), by rw [v2, he1], v3, fun _ => rfl, v4⟩ (hmt id (by simp))
    · exact this
    · simp only at h1
      by_cases hj : id' ∈ ids
      · obtain ⟨b1, n1, hb1, hb2⟩ := MI.blk g7 id' hj
        rw [hb2] at h2
        simp only [Option.some.injEq, Prod.mk.injEq] at h2
        obtain ⟨rfl, _⟩ := h2
        exact hnb.1 hb1
      · rw [hups id' hj] at h1
        exact hfar id' blk' b n h1 h2 (by simp)
theorem sound_callee (hO : OrcOk P E) (hG : Wr.gv = globP P) (hE : E.nt ≤ 1000) {c : Call} {g : Operand} (ho : o.op = .call c) (hc : c.callee = .value g) (h : SimR W0 Wr E.nt A ρ s a w) (hd : okDst E o.dst = true) (hf : opA E s o.dst o.op some = some f) :
    Gives P o a w (After W0 Wr E.nt s a o.dst f) := by
  rw [ho] at hf
  simp only [opA, hc] at hf
  split at hf
  case h_2 => cases hf
  rename_i fid hg
  split at hf
  case h_2 => cases hf
  rename_i en hen
  have hen' := hO _ _ hen
  have hgl : ∀ all : List Nat, Glob P (Lent A s.m ρ all) w := fun all => by have := h.gl.mono (A' := Lent A s.m ρ all) (fun _ h => .inl h) (.refl _ _); rw [hG] at this; exact this
  have hgv := h.ev g
  rw [hg] at hgv
  simp only [SR, VR] at hgv
  have hexec : execOp a.eval o = callFunc fid (c.args.map a.eval) := by
    unfold execOp
    rw [ho]
    simp only [resolve, hc, hgv]
    show callFunc fid (#[] ++ c.args.map a.eval ++ #[]) = _
    simp
  have hargs' : (c.args.toList.map a.eval).toArray = c.args.map a.eval := by rw [← Array.toList_map]
  have halive : ∀ all : List Nat, ∀ b, Lent A s.m ρ all b → b < w.heap.size := by
    rintro all b (hb | ⟨id, hi, blk, n, hblk, _, hb⟩)
    · exact h.alive b hb
    · exact (h.mem id blk hblk).lt hb
  have hlentC : ∀ all : List Nat, ∀ b, Lent A s.m ρ all b → A b ∨ isC w b := by
    rintro all b (hb | ⟨id, hi, blk, n, hblk, _, hb⟩)
    · exact .inl hb
    · exact .inr ((h.mem id blk hblk).isC hb)
  have hgiv : ∀ {K : Value → World → Prop}, Inv P fid (c.args.map a.eval) w K → (∀ x w', K x w' → After W0 Wr E.nt s a o.dst f x w') → Gives P o a w (After W0 Wr E.nt s a o.dst f) := by
    intro K hinv fin
    unfold Gives
    rw [hexec]
    unfold Inv at hinv
    split at hinv
    · rename_i hrun; rw [hrun]; exact fin _ _ hinv
    · rename_i hrun; rw [hrun]
      refine hinv.mono ?_
      rintro e w'' ⟨x, he, hx⟩
      exact ⟨x, he, fin _ _ hx⟩
    · exact hinv.elim
  have hold : ∀ (rd : List Nat) (Ar : Nat → Prop) (w' : World), (en.frz && !rd.isEmpty) = false → (∀ b, Ar b → b < w'.heap.size ∧ ((en.frz = true ∧ Lent A s.m ρ rd b) ∨ w.heap.size ≤ b)) → ∀ b, Ar b → A b ∨ w.heap.size ≤ b := by
    intro rd Ar w' hfr hAr b hb
    rcases (hAr b hb).2 with ⟨hfz, hl⟩ | hge
    · rw [hfz] at hfr
      cases rd with
      | cons i r => cases hfr
      | nil =>
        rcases hl with hl | ⟨i, hi, _⟩
        · exact .inl hl
        · cases hi
    · exact .inr hge
  cases hmut : en.wr with
  | false =>
    rw [hmut] at hf
    simp only [cond_false] at hf
    split at hf
    case h_2 => cases hf
    rename_i ps rd hargs
    have hf2 := cond_none hf
    obtain ⟨hfr, hf⟩ := hf2
    rw [hen'.law, Option.bind_eq_some_iff] at hf
    obtain ⟨r, hr, hf⟩ := hf
    split at hf
    case h_2 => cases hf
    rename_i f' hres
    simp only [Option.some.injEq] at hf
    subst hf
    have hvs : VRs (Lent A s.m ρ rd) w ρ0 ps (c.args.toList.map a.eval) := deepAs_spec h.mem s.t a h.ev c.args.toList ps rd rd hargs (fun _ h => h)
    have hinv := hen'.ok hmut E.n ps r hr (Lent A s.m ρ rd) w (c.args.toList.map a.eval) (halive rd) hvs (hgl rd)
    rw [hargs'] at hinv
    refine hgiv hinv ?_
    rintro x w' ⟨hm, Ar, bs, hAr, hbs, hnd, hRR⟩
    have hold := hold rd Ar w' hfr hAr
    have h1 := h.moreX (A' := fun b => A b ∨ Ar b) hm (fun _ h => .inl h) (hlentC rd) (fun _ h => .inl h) (fun b hb => hb.elim .inl (hold b)) (fun b hb => by
      rcases hb with hb | hb
      · have := h.alive b hb; have := hm.size; omega
      · exact (hAr b hb).1) (fun _ h => h.elim) (fun _ _ _ _ _ _ h => h)
    refine resA_sound w.heap.size h.fr.size hE h1 (fun id blk b n hb hr => (h.mem id blk hb).lt hr) (okDst_lt hd) hres (hRR.mono (fun _ h => .inr h)) (fun b hb => ⟨(hbs b hb).1, ?_⟩) hnd
    rintro (h2 | h2)
    · have := h.alive b h2; have := (hbs b hb).1; omega
    · exact (hbs b hb).2 h2
  | true =>
    rw [hmut] at hf
    simp only [cond_true] at hf
    split at hf
    case h_2 => cases hf
    rename_i ps rd ms gd hargs
    have hf2 := cond_none hf
    obtain ⟨hfr, hf⟩ := hf2
    simp only [Bool.or_eq_false_iff, Bool.not_eq_false'] at hfr
    obtain ⟨⟨hfr, hndm⟩, hdis⟩ := hfr
    obtain ⟨hgd, hf⟩ := chk_some hf
    rw [hen'.law, Option.bind_eq_some_iff] at hf
    obtain ⟨r, hr, hf⟩ := hf
    split at hf
    case h_2 => cases hf
    rename_i r' cs'
    split at hf
    case h_2 => cases hf
    rename_i up f' hup hres
    simp only [Option.some.injEq] at hf
    obtain ⟨l, hpr, hmi⟩ := packAs_spec h c.args.toList ps rd ms rd gd hargs hgd (fun _ h => h)
    have hndi := nodupB_nodup ms hndm
    have hndb := hmi.nodup h hndi
    have hdisj : ∀ i ∈ ms, i ∉ rd := by
      intro i hi hj
      have h1 := List.any_eq_false.1 hdis i hi
      exact h1 (List.any_eq_true.2 ⟨i, hj, by rw [Nat.beq_refl]⟩)
    have hnl : ∀ b ∈ l.map (·.1), ¬ Lent A s.m ρ rd b := by
      intro b hb
      obtain ⟨id, h1, blk, n, cs0, h2, h3, h4, h5⟩ := hmi.mem b hb
      rintro (h6 | ⟨id', h6, blk', n', h7, h8, h9⟩)
      · exact (h.own id blk b n h2 h3 h4).2 h6
      · exact h.inj id id' blk blk' b n n' h2 h7 (fun e => hdisj id h1 (e ▸ h6)) h3 h4 h9
    have hinv := hen'.okm hmut E.n ps _ hr (Lent A s.m ρ rd) w (c.args.toList.map a.eval) l (halive rd) hpr (fun x hx => hnl x.1 (List.mem_map_of_mem hx)) hndb (hgl rd)
    rw [hargs'] at hinv
    refine hgiv hinv ?_
    rintro x w' ⟨hm, r1, cs1, Ar, bs, hr1, hAr, hbs, hnd, hRR, hMC⟩
    simp only [AV.mt.injEq] at hr1
    obtain ⟨rfl, rfl⟩ := hr1
    have hold := hold rd Ar w' hfr hAr
    have hA'b : ∀ b ∈ l.map (·.1), ¬ (A b ∨ Ar b) := by
      rintro b hb (h2 | h2)
      · exact hnl b hb (.inl h2)
      · rcases hold b h2 with h3 | h3
        · exact hnl b hb (.inl h3)
        · obtain ⟨id, _, blk, n, cs0, h4, _, h5, _⟩ := hmi.mem b hb
          have := (h.mem id blk h4).lt h5
          omega
    have hownb : ∀ b ∈ l.map (·.1), W0.heap.size ≤ b ∨ ∃ i n, Wr.mb i = some (b, n) := by
      intro b hb
      obtain ⟨id, _, blk, n, cs0, h4, h6, h5, _⟩ := hmi.mem b hb
      exact (h.own id blk b n h4 h6 h5).1.any
    have h0 := (h.drops ms).moreX (A' := fun b => A b ∨ Ar b) hm (fun _ h => .inl h) (hlentC rd) (fun _ h => .inl h) (fun b hb => hb.elim .inl (hold b)) (fun b hb => by
      rcases hb with hb | hb
      · have := h.alive b hb; have := hm.size; omega
      · exact (hAr b hb).1) (fun b hb => ⟨fun h1 => hA'b b hb (.inl h1), hownb b hb, by
        obtain ⟨id, _, blk, n, cs0, _, _, _, h5⟩ := hmi.mem b hb
        exact ⟨cs0, blk.e, (0, 0), h5⟩⟩) (fun id blk b n h1 h2 h3 => by
        obtain ⟨h4, h5⟩ := drops_some h1
        obtain ⟨id', h6, blk', n', _, h7, h8, h9, _⟩ := hmi.mem b h3
        exact h.inj id' id blk' blk b n' n h7 h5 (fun e => h4 (e ▸ h6)) h8 h9 h2)
    have h1 := mutUp_sound (w0 := w) (fun _ h => .inr h) ms l cs' up _ h0 hmi hup hMC (fun id hid => by
        show ups s.m (ms.map fun i => (i, none)) id = none
        cases hh : ups s.m (ms.map fun i => (i, none)) id with
        | none => rfl
        | some blk => exact absurd hid (drops_some hh).1) hndi hndb hA'b (fun id hid b n hr => by
        obtain ⟨b1, n1, hb1, hb2, blk, hm2, ho2⟩ := MI.blk' hmi id hid
        exact (h.own id blk b n hm2 ho2 hr).1) (fun id blk b n h1 h2 h3 => by
        obtain ⟨h4, h5⟩ := drops_some h1
        obtain ⟨id', h6, blk', n', _, h7, h8, h9, _⟩ := hmi.mem b h3
        exact h.inj id' id blk' blk b n' n h7 h5 (fun e => h4 (e ▸ h6)) h8 h9 h2) (fun id hid i b' n hi e hb' => by
        obtain ⟨b1, n1, hb1, hb2, blk, hm2, ho2⟩ := MI.blk' hmi id hid
        exact e ▸ h.mt i b' n hi hb' (by rw [← e, hm2]; simp))
    simp only [ups_over s.m up ms (fun i hi => by rw [mutUp_ids hup]; exact hi)] at h1
    have h2 := resA_sound (s := { s with m := ups s.m up }) (f := f') w.heap.size h.fr.size hE h1 (fun id blk b n hb hr => by
        by_cases hj : id ∈ ms
        · obtain ⟨b1, n1, hb1, hb2, _⟩ := MI.blk' hmi id hj
          rw [hb2] at hr
          simp only [Option.some.injEq, Prod.mk.injEq] at hr
          obtain ⟨rfl, _⟩ := hr
          obtain ⟨id', _, blk', n', _, h7, _, h9, _⟩ := hmi.mem _ hb1
          exact (h.mem id' blk' h7).lt h9
        · simp only at hb
          rw [ups_notin' s.m id up (by rw [mutUp_ids hup]; exact hj)] at hb
          exact (h.mem id blk hb).lt hr) (okDst_lt hd) ((resA_m s (ups s.m up) o.dst (rd ++ ms) r').trans hres) (hRR.mono (fun _ h => .inr h)) (fun b hb => ⟨(hbs b hb).1, by
        rintro (h2 | h2)
        · have := h.alive b h2; have := (hbs b hb).1; omega
        · exact (hbs b hb).2 h2⟩) hnd
    obtain ⟨A2, ρ2, h3⟩ := h2
    refine ⟨A2, ρ2, ?_⟩
    subst hf
    have e1 : s.put o.dst { f' with up := f'.up ++ up } = ({ s with m := ups s.m up } : AS).put o.dst f' := by
      unfold AS.put
      simp only [ups_append]
    rw [e1]
    exact h3
end
end Go.Proofs.YtbakldcbaikgpaaGreatDoor
/- Any operation; freezing; regions in the order of the text. Own work, program-independent. -/
namespace Go.Proofs.YtbakldcbaikgpaaGreatDoor
open Go.RowKit (Below)
section
variable {P : Program} {E : Env} {W0 : World} {Wr : Wk} {nt : Nat} {A A' : Nat → Prop} {ρ ρ' : Rho} {s : AS} {a : Act} {w w' : World} {o : Oper} {f : Eff}
theorem sound_op (hT : TabOk P E.ty) (hO : OrcOk P E) (hG : Wr.gv = globP P) (hE : E.nt ≤ 1000) (h : SimR W0 Wr E.nt A ρ s a w) (hd : okDst E o.dst = true) (hf : opA E s o.dst o.op some = some f) :
    Gives P o a w (After W0 Wr E.nt s a o.dst f) := by
  cases ho : o.op
  case move x => exact sound_move ho h hd hf
  case assign x => exact sound_assign ho h hd hf
  case pick c x y => exact sound_pick ho h hd hf
  case alloc t => exact sound_alloc hT hE ho h hd hf
  case box t x => exact sound_box hE ho h hd hf
  case build t ps => exact sound_build hT ho h hd hf
  case buildSlice t len ps => exact sound_buildSlice hT hE ho h hd hf
  case load t x => exact sound_load hT ho h hd hf
  case store t x y => exact sound_store hT ho h hd hf
  case nilCheck x => exact sound_nilCheck ho h hd hf
  case binOp op t x y t' => exact sound_binOp hT ho h hd hf
  case unOp op t x => exact sound_unOp ho h hd hf
  case convert t t' x => exact sound_convert hT ho h hd hf
  case makeInterface t x => exact sound_makeInterface hT ho h hd hf
  case makeSlice t x y => exact sound_makeSlice hT hE ho h hd hf
  case slice t x lo hi mx => exact sound_slice hT ho h hd hf
  case sliceToArrayPointer t x => exact sound_arrayPtr hT ho h hd hf
  case fieldAddr t x n => exact sound_fieldAddr hT ho h hd hf
  case field t x n => exact sound_field hT ho h hd hf
  case indexAddr t x y => exact sound_indexAddr hT ho h hd hf
  case index t x y => exact sound_index hT ho h hd hf
  case extract x n => exact sound_extract ho h hd hf
  case call c =>
    cases hc : c.callee
    case value g => exact sound_callee hO hG hE ho hc h hd hf
    case invoke r n => rw [ho] at hf; simp [opA, hc] at hf
    case builtin b =>
      rw [ho] at hf
      simp only [opA, hc] at hf
      by_cases hlen : ∃ x, b = .len ∧ c.args.toList = [x]
      · obtain ⟨x, rfl, hx⟩ := hlen
        rw [hx] at hf
        exact sound_len hT ho hc hx h hd hf
      by_cases happ : ∃ x y, b = .append ∧ c.args.toList = [x, y]
      · obtain ⟨x, y, rfl, hx⟩ := happ
        rw [hx] at hf
        exact sound_append hT hE ho hc hx h hd hf
      cases b
      case max => exact sound_max ho hc h hd hf
      case min => exact sound_min ho hc h hd hf
      all_goals (exfalso; revert hf; unfold bltA; split <;> first | (intro hf; cases hf; done) | skip)
      all_goals simp_all
  all_goals (rw [ho] at hf; simp [opA] at hf)
/-! ### Freezing -/
theorem any_beq {ids : List Nat} {i : Nat} : ids.any (Nat.beq i) = true ↔ i ∈ ids := by
  rw [List.any_eq_true]
  constructor
  · rintro ⟨x, hx, hb⟩
    rw [nat_beq hb]; exact hx
  · intro h
    exact ⟨i, h, Nat.beq_refl i⟩
mutual
theorem frzV_spec {m : Nat → Option Blk} (hm : ∀ id blk, m id = some blk → BR A w ρ id blk) (ids : List Nat) : ∀ (v v' : AV) (x : Value), frzV m ids v = some v' → VR A w ρ v x → VR (Lent A m ρ ids) w ρ v' x
  | .wsl id, v', x, hf, h => by
    simp only [frzV] at hf
    cases hb : ids.any (Nat.beq id) with
    | false =>
      rw [hb] at hf
      simp only [cond_false, Option.some.injEq] at hf
      subst hf
      exact VR.mono (fun _ h => .inl h) (.refl _ _) (fun _ _ h => h) _ _ h
    | true =>
      rw [hb] at hf
      simp only [cond_true] at hf
      split at hf
      case h_2 => cases hf
      rename_i blk hblk
      have hf2 := cond_some hf
      obtain ⟨hown, hf⟩ := hf2
      simp only [Option.some.injEq] at hf
      subst hf
      obtain ⟨ob, u, k, h1, h2, h3⟩ := hm id blk hblk
      simp only [VR] at h ⊢
      obtain ⟨ob', n, g1, g2⟩ := h
      rw [h1] at g1
      simp only [Option.some.injEq, Prod.mk.injEq] at g1
      obtain ⟨rfl, rfl⟩ := g1
      refine ⟨u, VR.mono (fun _ h => .inl h) (.refl _ _) (fun _ _ h => h) _ _ h2, ?_⟩
      rcases g2 with ⟨g2, rfl⟩ | ⟨b, cap, rfl, rfl, g3, g4⟩
      · exact .inl ⟨g2, none, 0, rfl⟩
      · obtain ⟨cs, fr, h4, h5, h6⟩ := h3
        refine .inr ⟨b, 0, cap, .inr ⟨id, any_beq.1 hb, blk, _, hblk, hown, h1⟩, rfl, g3, fun j q hj => ?_⟩
        rw [Nat.zero_add]
        simp [World.cell?, h4, h5 j q hj]
  | .ptr id i e g, v', x, hf, h => by
    simp only [frzV] at hf
    obtain ⟨_, hf⟩ := cond_none hf
    simp only [Option.some.injEq] at hf
    subst hf
    exact VR.mono (fun _ h => .inl h) (.refl _ _) (fun _ _ h => h) _ _ h
  | .st ps, v', x, hf, h => by
    simp only [frzV, Option.map_eq_some_iff] at hf
    obtain ⟨qs, hq, rfl⟩ := hf
    simp only [VR] at h ⊢
    obtain ⟨cs, h1, h2⟩ := h
    exact ⟨cs, frzVs_specC hm ids ps qs cs hq h1, h2⟩
  | .tup ps, v', x, hf, h => by simp only [VR] at h
  | .iface t y, v', x, hf, h => by
    simp only [frzV, Option.map_eq_some_iff] at hf
    obtain ⟨q, hq, rfl⟩ := hf
    simp only [VR] at h ⊢
    obtain ⟨z, h1, h2⟩ := h
    exact ⟨z, frzV_spec hm ids y q z hq h1, h2⟩
  | .pt c i e g, v', x, hf, h => by
    simp only [frzV] at hf
    obtain ⟨_, hf⟩ := cond_some hf
    simp only [Option.some.injEq] at hf
    subst hf
    exact VR.mono (fun _ h => .inl h) (.refl _ _) (fun _ _ h => h) _ _ h
  | .sl c, v', x, hf, h => by
    simp only [frzV] at hf
    obtain ⟨_, hf⟩ := cond_some hf
    simp only [Option.some.injEq] at hf
    subst hf
    exact VR.mono (fun _ h => .inl h) (.refl _ _) (fun _ _ h => h) _ _ h
  | .dead, v', x, hf, h => by simp only [VR] at h
  | .osl _ _, v', x, hf, h => by simp only [VR] at h
  | .bool b, v', x, hf, h => by simp only [frzV, Option.some.injEq] at hf; subst hf; simpa only [VR] using h
  | .int _ _, v', x, hf, h => by simp only [frzV, Option.some.injEq] at hf; subst hf; simpa only [VR] using h
  | .ints _ _ _, v', x, hf, h => by simp only [frzV, Option.some.injEq] at hf; subst hf; simpa only [VR] using h
  | .prs _ _ _, v', x, hf, h => by simp only [frzV, Option.some.injEq] at hf; subst hf; simpa only [VR] using h
  | .nilp, v', x, hf, h => by simp only [frzV, Option.some.injEq] at hf; subst hf; simpa only [VR] using h
  | .nils, v', x, hf, h => by simp only [frzV, Option.some.injEq] at hf; subst hf; simpa only [VR] using h
  | .func _, v', x, hf, h => by simp only [frzV, Option.some.injEq] at hf; subst hf; simpa only [VR] using h
  | .nili, v', x, hf, h => by simp only [frzV, Option.some.injEq] at hf; subst hf; simpa only [VR] using h
  | .con _, v', x, hf, h => by simp only [frzV, Option.some.injEq] at hf; subst hf; simpa only [VR] using h
  | .rf _ _, v', x, hf, h => by simp only [VR] at h
  | .rv _ _ _ _ _, v', x, hf, h => by simp only [VR] at h
  | .mt _ _, v', x, hf, h => by simp only [VR] at h
  | .wv id lo n e, v', x, hf, h => by
    simp only [frzV] at hf
    obtain ⟨_, hf⟩ := cond_none hf
    simp only [Option.some.injEq] at hf
    subst hf
    exact VR.mono (fun _ h => .inl h) (.refl _ _) (fun _ _ h => h) _ _ h
  | .rts, v', x, hf, h => by
    simp only [frzV, Option.some.injEq] at hf
    subst hf
    exact VR.mono (fun _ h => .inl h) (.refl _ _) (fun _ _ h => h) _ _ h
theorem frzVs_specC {m : Nat → Option Blk} (hm : ∀ id blk, m id = some blk → BR A w ρ id blk) (ids : List Nat) : ∀ (ps ps' : List AV) (cs : List Value), frzVs m ids ps = some ps' → CRs A w ρ ps cs → CRs (Lent A m ρ ids) w ρ ps' cs
  | [], ps', cs, hf, h => by
    simp only [frzVs, Option.some.injEq] at hf
    subst hf
    simpa only [CRs] using h
  | p :: ps, ps', cs, hf, h => by
    simp only [frzVs] at hf
    split at hf
    case h_2 => cases hf
    rename_i q hq
    split at hf
    case h_2 => cases hf
    rename_i qs hqs
    simp only [Option.some.injEq] at hf
    subst hf
    simp only [CRs] at h ⊢
    obtain ⟨v, cs', h1, h2, h3⟩ := h
    exact ⟨v, cs', frzV_spec hm ids p q v hq h1, frzVs_specC hm ids ps qs cs' hqs h2, h3⟩
end
theorem frzVs_spec {m : Nat → Option Blk} (hm : ∀ id blk, m id = some blk → BR A w ρ id blk) (ids : List Nat) : ∀ (ps ps' : List AV) (vs : List Value), frzVs m ids ps = some ps' → VRs A w ρ ps vs → VRs (Lent A m ρ ids) w ρ ps' vs
  | [], ps', cs, hf, h => by
    simp only [frzVs, Option.some.injEq] at hf
    subst hf
    simpa only [VRs] using h
  | p :: ps, ps', cs, hf, h => by
    simp only [frzVs] at hf
    split at hf
    case h_2 => cases hf
    rename_i q hq
    split at hf
    case h_2 => cases hf
    rename_i qs hqs
    simp only [Option.some.injEq] at hf
    subst hf
    simp only [VRs] at h ⊢
    obtain ⟨v, cs', h1, h2, h3⟩ := h
    exact ⟨v, cs', frzV_spec hm ids p q v hq h1, frzVs_spec hm ids ps qs cs' hqs h2, h3⟩
theorem frzV_cnt {m : Nat → Option Blk} {ids : List Nat} {v v' : AV} {A : Nat → Prop} {w : World} {x : Value} (h : frzV m ids v = some v') (hv : VR A w ρ v x) : v'.cnt = v.cnt ∧ v'.esz = v.esz := by
  cases v <;> simp only [frzV] at h
  case dead => simp only [VR] at hv
  case osl => simp only [VR] at hv
  case tup => simp only [VR] at hv
  case wsl id =>
    cases hb : ids.any (Nat.beq id) with
    | false => rw [hb] at h; cases h; exact ⟨rfl, rfl⟩
    | true =>
      rw [hb] at h
      simp only [cond_true] at h
      split at h
      · obtain ⟨_, h⟩ := cond_some h; cases h; exact ⟨rfl, rfl⟩
      · cases h
  case st => obtain ⟨q, _, rfl⟩ := Option.map_eq_some_iff.1 h; exact ⟨rfl, rfl⟩
  case iface => obtain ⟨q, _, rfl⟩ := Option.map_eq_some_iff.1 h; exact ⟨rfl, rfl⟩
  case ptr => obtain ⟨_, h⟩ := cond_none h; cases h; exact ⟨rfl, rfl⟩
  case pt => obtain ⟨_, h⟩ := cond_some h; cases h; exact ⟨rfl, rfl⟩
  case sl => obtain ⟨_, h⟩ := cond_some h; cases h; exact ⟨rfl, rfl⟩
  case wv => obtain ⟨_, h⟩ := cond_none h; cases h; exact ⟨rfl, rfl⟩
  all_goals (cases h; exact ⟨rfl, rfl⟩)
theorem SimR.frz (h : SimR W0 Wr nt A ρ s a w) (ids : List Nat) (hids : ids.any isMut = false) : SimR W0 Wr nt (Lent A s.m ρ ids) ρ (frzS s ids) a w := by
  have sub : ∀ id blk, (frzS s ids).m id = some blk → id ∉ ids ∧ ∃ c0, s.m id = some { blk with c := c0 } ∧ frzV s.m ids c0 = some blk.c := by
    intro id blk hb
    simp only [frzS] at hb
    obtain ⟨hn, hb⟩ := cond_none hb
    split at hb
    case h_2 => cases hb
    rename_i b hbm
    split at hb
    case h_2 => cases hb
    rename_i c hc
    simp only [Option.some.injEq] at hb
    subst hb
    refine ⟨fun hi => ?_, b.c, hbm, hc⟩
    rw [any_beq.2 hi] at hn
    cases hn
  have hmono : ∀ b, A b → Lent A s.m ρ ids b := fun _ h => .inl h
  refine ⟨h.dfr, h.tsz, fun j => ?_, fun id blk hb => ?_, fun id id' blk blk' b n n' h1 h2 hne ho hr hr' => ?_, fun id blk b n h1 ho hr => ?_, fun b hb => ?_, h.fresh, ⟨h.fr.os, h.fr.tape, h.fr.output, h.fr.size, h.fr.block, h.fr.maps, fun b hb => ?_⟩, fun i b n hi hb hne => ?_, h.gl.mono hmono (.refl _ _)⟩
  · simp only [frzS]
    cases hv : frzV s.m ids (s.t j) with
    | none => trivial
    | some v =>
      have hs := h.slot j
      simp only [Option.getD_some]
      cases ht : s.t j
      case dead => rw [ht] at hv; simp only [frzV, Option.some.injEq] at hv; subst hv; trivial
      case tup ps =>
        rw [ht] at hv hs
        simp only [frzV, Option.map_eq_some_iff] at hv
        obtain ⟨qs, hq, rfl⟩ := hv
        obtain ⟨vs, h1, h2⟩ := hs
        exact ⟨vs, frzVs_spec h.mem ids ps qs vs hq h1, h2⟩
      all_goals (rw [ht] at hv hs; exact VR.sr (frzV_spec h.mem ids _ _ _ hv hs))
  · obtain ⟨hn, c0, hm, hc⟩ := sub id blk hb
    obtain ⟨ob, u, m, h1, h2, h3⟩ := h.mem _ _ hm
    obtain ⟨e1, e2⟩ := frzV_cnt hc h2
    refine ⟨ob, u, m, by rw [h1, e1], frzV_spec h.mem ids _ _ _ hc h2, ?_⟩
    cases ob with
    | none => exact h3
    | some b => rw [e2]; exact h3
  · obtain ⟨_, c0, hm, _⟩ := sub id blk h1
    obtain ⟨_, c1, hm', _⟩ := sub id' blk' h2
    exact h.inj id id' _ _ b n n' hm hm' hne ho hr hr'
  · obtain ⟨hn, c0, hm, _⟩ := sub id blk h1
    refine ⟨(h.own id _ b n hm ho hr).1, ?_⟩
    rintro (hA | ⟨id', hi, blk', n', hm', ho', hr'⟩)
    · exact (h.own id _ b n hm ho hr).2 hA
    · exact h.inj id id' _ _ b n n' hm hm' (fun e => hn (e ▸ hi)) ho hr hr'
  · rcases hb with hb | ⟨id, _, blk, n, hm, _, hr⟩
    · exact h.alive b hb
    · exact (h.mem id blk hm).lt hr
  · rcases hb with hb | ⟨id, hi, blk, n, hm, ho, hr⟩
    · exact h.fr.tr b hb
    · exact .inl ((h.own id blk b n hm ho hr).1.new (by
        cases hb : isMut id with
        | false => rfl
        | true => rw [List.any_eq_false] at hids; exact absurd hb (hids id hi)))
  · cases hm : (frzS s ids).m (8000 + i) with
    | none => exact absurd hm hne
    | some blk =>
      obtain ⟨_, c0, h1, _⟩ := sub _ blk hm
      exact h.mt i b n hi hb (by rw [h1]; simp)
end
end Go.Proofs.YtbakldcbaikgpaaGreatDoor
/- Guards, steps, regions. Own work, program-independent. -/
namespace Go.Proofs.YtbakldcbaikgpaaGreatDoor
open Go.RowKit (Below)
/-- Is an operation wanted? -/
def wantA (ops : Array Oper) (s : AS) (o : Oper) : Option Bool :=
  match o.guard with
  | none => some true
  | some (g, want) =>
    match (ops[g]?).bind (·.dst) with
    | none => none
    | some d => match s.t d with
      | .bool b => some (b == want)
      | .tup [] => some false
      | _ => none
/-- One operation, guard and all. -/
def stp (E : Env) (ops : Array Oper) (s : AS) (o : Oper) : Option Eff :=
  bif okDst E o.dst then
    match wantA ops s o with
    | some true => opA E s o.dst o.op some
    | some false => some (val skipV)
    | none => none
  else none
section
variable {R : Type} {P : Program} {E : Env} {W0 : World} {Wr : Wk} {A A' : Nat → Prop} {ρ ρ' : Rho} {s s' : AS} {a : Act} {w w' : World} {o : Oper} {f : Eff} {ops : Array Oper} {Q : Exit → Act → World → Prop} {r : R}
theorem upd_same {α : Type} (g : Nat → α) (i : Nat) (x : α) (h : g i = x) : upd g i x = g := by
  funext j
  by_cases hj : j = i
  · subst hj; rw [upd_self, h]
  · rw [upd_ne _ _ hj]
theorem partA_some {kk : AS → Option R} (h : partA ops s o kk = some r) : kk s = some r := by
  unfold partA at h
  split at h
  · exact h
  · split at h
    · cases h
    · split at h
      · rename_i d hd b hb
        cases b
        · rw [upd_same _ _ _ hb] at h; exact h
        · rw [upd_same _ _ _ hb] at h; exact h
      · exact h
      · cases h
theorem stepA_some (hO : OrcLaw E) {kk : List Nat → List Nat → AS → Option R} (h : stepA E ops s o kk = some r) : ∃ f, stp E ops s o = some f ∧ kk f.rd (f.up.map (·.1)) (s.put o.dst f) = some r := by
  unfold stepA at h
  obtain ⟨hd, h⟩ := cond_some h
  have key : ∀ x, opA E s o.dst o.op (fun f => kk f.rd (f.up.map (·.1)) (s.put o.dst f)) = some x → ∃ f, opA E s o.dst o.op some = some f ∧ kk f.rd (f.up.map (·.1)) (s.put o.dst f) = some x := by
    intro x hx
    rw [opA_bind hO, Option.bind_eq_some_iff] at hx
    exact hx
  unfold stp wantA
  rw [hd]
  simp only [cond_true]
  split at h
  · rename_i hg
    simp only [hg]
    exact key _ h
  · rename_i g want hg
    simp only [hg]
    split at h
    · cases h
    · rename_i d hgd
      simp only [hgd]
      split at h
      · rename_i ht
        simp only [ht]
        cases want
        · exact ⟨_, rfl, h⟩
        · exact key _ h
      · rename_i ht
        simp only [ht]
        cases want
        · exact key _ h
        · exact ⟨_, rfl, h⟩
      · rename_i ht
        simp only [ht]
        exact ⟨_, rfl, h⟩
      · cases h
theorem wantA_sound (h : SimR W0 Wr E.nt A ρ s a w) {b : Bool} (hw : wantA ops s o = some b) : Region.wanted o (yielded ops a.tmps) = b := by
  unfold wantA at hw
  unfold Region.wanted
  split at hw
  · rename_i hg
    simp only [hg]
    exact Option.some.inj hw
  · rename_i g want hg
    simp only [hg]
    split at hw
    · cases hw
    · rename_i d hgd
      split at hw
      · rename_i b' ht
        have hs := h.slot d
        rw [ht] at hs
        simp only [SR, VR] at hs
        unfold yielded
        simp only [hgd, Option.bind_some]
        have hd : a.tmps[d]? = some (.bool b') := by
          rw [Array.getD_eq_getD_getElem?] at hs
          cases hx : a.tmps[d]? with
          | none => rw [hx] at hs; cases hs
          | some v => rw [hx] at hs; simpa using hs
        rw [hd]
        simp only [Option.some.injEq] at hw
        rw [← hw]
        cases b' <;> cases want <;> rfl
      · rename_i ht
        have hs := h.slot d
        rw [ht] at hs
        simp only [SR, VRs] at hs
        obtain ⟨vs, rfl, hs⟩ := hs
        unfold yielded
        simp only [hgd, Option.bind_some]
        simp only [Option.some.injEq] at hw
        subst hw
        rw [Array.getD_eq_getD_getElem?] at hs
        cases hx : a.tmps[d]? with
        | none => cases want <;> rfl
        | some v =>
          rw [hx] at hs
          simp only [Option.getD_some] at hs
          subst hs
          cases want <;> rfl
      · cases hw
theorem stp_wp (hT : TabOk P E.ty) (hO : OrcOk P E) (hG : Wr.gv = globP P) (hE : E.nt ≤ 1000) (h : SimR W0 Wr E.nt A ρ s a w) {i : Nat} (hi : ops[i]? = some o) (hs : stp E ops s o = some f) {K : Act → World → Prop}
    (hK : ∀ A' ρ' a' w', SimR W0 Wr E.nt A' ρ' (s.put o.dst f) a' w' → K a' w') : wpOp P ops Q i K a w := by
  unfold stp at hs
  obtain ⟨hd, hs⟩ := cond_some hs
  unfold wpOp
  simp only [hi]
  split at hs
  · rename_i hw
    rw [wantA_sound h hw]
    simp only [if_true]
    refine .inl ((sound_op hT hO hG hE h hd hs).wp fun x w' hx => ?_)
    obtain ⟨A', ρ', hx⟩ := hx
    exact hK _ _ _ _ hx
  · rename_i hw
    rw [wantA_sound h hw]
    simp only [Bool.false_eq_true, if_false]
    simp only [Option.some.injEq] at hs
    subst hs
    exact hK _ _ _ _ (h.put (okDst_lt hd) (v := skipV) ⟨[], rfl, rfl⟩)
  · cases hs
theorem SimR.frzIf (h : SimR W0 Wr E.nt A ρ s a w) (ids : List Nat) (hids : ids.any isMut = false) : ∃ A', SimR W0 Wr E.nt A' ρ (frzIf s ids) a w := by
  cases ids with
  | nil => exact ⟨A, h⟩
  | cons i r => exact ⟨_, h.frz (i :: r) hids⟩
theorem frzR_ok (l : List Nat) : (frzR l).any isMut = false := by
  unfold frzR
  cases h : l.any isMut with
  | true => rfl
  | false => exact h
theorem frzO_ok (E : Env) (s : AS) (o : Op) : (frzO E s o).any isMut = false := by
  unfold frzO
  split
  · split
    · split
      · split
        · rename_i en _
          cases en.frz
          · rfl
          · cases en.wr
            · simp only [cond_true, cond_false]
              split
              · exact frzR_ok _
              · rfl
            · simp only [cond_true]
              split
              · exact frzR_ok _
              · rfl
        · rfl
      · rfl
    · rfl
  · rfl
/-- A region in the order of its text. -/
theorem ops_wp (hT : TabOk P E.ty) (hO : OrcOk P E) (hG : Wr.gv = globP P) (hE : E.nt ≤ 1000) {kk : AS → Option R} : ∀ (l : List Oper) (i : Nat) (s : AS) (a : Act) (w : World) (A : Nat → Prop) (ρ : Rho), ops.toList.drop i = l →
    SimR W0 Wr E.nt A ρ s a w → opsA E ops l s kk = some r → (∀ s' a' w' A' ρ', kk s' = some r → SimR W0 Wr E.nt A' ρ' s' a' w' → Q .normal a' w') → wpOps P ops Q (List.range' i l.length) a w
  | [], i, s, a, w, A, ρ, hl, h, hr, hk => by
    simp only [opsA] at hr
    simp only [List.length_nil, List.range'_zero, wpOps]
    exact hk _ _ _ _ _ hr h
  | o :: l, i, s, a, w, A, ρ, hl, h, hr, hk => by
    simp only [opsA] at hr
    have hr := partA_some hr
    obtain ⟨f, hf, hr⟩ := stepA_some hO.law hr
    obtain ⟨A1, h1⟩ := h.frzIf (frzO E s o.op) (frzO_ok E s o.op)
    have hi : ops[i]? = some o := by
      have : ops.toList[i]? = some o := by
        have := congrArg (fun l => l[0]?) hl
        simpa using this
      simpa using this
    simp only [List.length_cons, List.range'_succ]
    rw [wpOps_cons]
    refine stp_wp hT hO hG hE h1 hi hf fun A' ρ' a' w' h2 => ?_
    exact ops_wp hT hO hG hE l (i + 1) _ a' w' A' ρ' (by rw [← List.drop_drop, hl]; rfl) h2 hr hk
end
end Go.Proofs.YtbakldcbaikgpaaGreatDoor
/- What an operation looks at. Own work, program-independent. -/
namespace Go.Proofs.YtbakldcbaikgpaaGreatDoor
open Go.RowKit (Below)
/-- Two states that an operation cannot tell apart. -/
structure Alike (o : Op) (dst : Option Tmp) (ids : List Nat) (s s' : AS) : Prop where
  t : ∀ x ∈ o.operands, ev s'.t x = ev s.t x
  m : ∀ id ∈ ids, s'.m id = s.m id
  c : ∀ d j, dst = some d → s'.c (d + 1000 * j) = s.c (d + 1000 * j)
section
variable {E : Env} {s s' : AS} {dst : Option Tmp} {f : Eff}
mutual
theorem deepA_local {m m' : Nat → Option Blk} : ∀ (v v' : AV) (ids : List Nat), deepA m v = some (v', ids) → (∀ i ∈ ids, m' i = m i) → deepA m' v = some (v', ids)
  | .wsl id, v', ids, hd, hm => by
    simp only [deepA] at hd ⊢
    split at hd
    case h_2 => cases hd
    rename_i blk hb
    obtain ⟨hp, hd⟩ := cond_some hd
    simp only [Option.some.injEq, Prod.mk.injEq] at hd
    obtain ⟨rfl, rfl⟩ := hd
    rw [hm id (by simp), hb]
    simp only [hp, cond_true]
  | .sl c, v', ids, hd, hm => hd
  | .st ps, v', ids, hd, hm => by
    simp only [deepA, Option.map_eq_some_iff] at hd ⊢
    obtain ⟨⟨qs, js⟩, hq, hd⟩ := hd
    simp only [Prod.mk.injEq] at hd
    obtain ⟨rfl, rfl⟩ := hd
    exact ⟨(qs, js), deepAs_local ps qs js hq hm, rfl⟩
  | .iface t y, v', ids, hd, hm => by
    simp only [deepA, Option.map_eq_some_iff] at hd ⊢
    obtain ⟨⟨q, js⟩, hq, hd⟩ := hd
    simp only [Prod.mk.injEq] at hd
    obtain ⟨rfl, rfl⟩ := hd
    exact ⟨(q, js), deepA_local y q js hq hm, rfl⟩
  | .dead, _, _, hd, _ => by simp [deepA] at hd
  | .tup _, _, _, hd, _ => by simp [deepA] at hd
  | .ptr _ _ _ _, _, _, hd, _ => by simp [deepA] at hd
  | .pt _ _ _ _, _, _, hd, _ => by simp [deepA] at hd
  | .osl _ _, _, _, hd, _ => by simp [deepA] at hd
  | .bool b, v', ids, hd, _ => by simpa only [deepA] using hd
  | .int _ _, v', ids, hd, _ => by simpa only [deepA] using hd
  | .ints _ _ _, v', ids, hd, _ => by simpa only [deepA] using hd
  | .prs _ _ _, v', ids, hd, _ => by simpa only [deepA] using hd
  | .nilp, v', ids, hd, _ => by simpa only [deepA] using hd
  | .nils, v', ids, hd, _ => by simpa only [deepA] using hd
  | .func _, v', ids, hd, _ => by simpa only [deepA] using hd
  | .nili, v', ids, hd, _ => by simpa only [deepA] using hd
  | .con _, v', ids, hd, _ => by simpa only [deepA] using hd
  | .rf _ _, _, _, hd, _ => by simp [deepA] at hd
  | .rv _ _ _ _ _, _, _, hd, _ => by simp [deepA] at hd
  | .mt _ _, _, _, hd, _ => by simp [deepA] at hd
  | .wv id lo n e, v', ids, hd, hm => by
    simp only [deepA] at hd ⊢
    split at hd
    case h_2 => cases hd
    rename_i blk hb
    obtain ⟨hp, hd⟩ := cond_some hd
    split at hd
    case h_2 => cases hd
    rename_i c hc
    simp only [Option.some.injEq, Prod.mk.injEq] at hd
    obtain ⟨rfl, rfl⟩ := hd
    rw [hm id (by simp), hb]
    simp only [hp, cond_true, hc]
  | .rts, v', ids, hd, _ => by simpa only [deepA] using hd
theorem deepAs_local {m m' : Nat → Option Blk} : ∀ (ps ps' : List AV) (ids : List Nat), deepAs m ps = some (ps', ids) → (∀ i ∈ ids, m' i = m i) → deepAs m' ps = some (ps', ids)
  | [], ps', ids, hd, _ => hd
  | p :: ps, ps', ids, hd, hm => by
    simp only [deepAs] at hd ⊢
    split at hd
    case h_2 => cases hd
    rename_i x hx
    split at hd
    case h_2 => cases hd
    rename_i y hy
    simp only [Option.some.injEq, Prod.mk.injEq] at hd
    obtain ⟨rfl, rfl⟩ := hd
    rw [deepA_local p x.1 x.2 hx (fun i hi => hm i (by simp [hi])), deepAs_local ps y.1 y.2 hy (fun i hi => hm i (by simp [hi]))]
end
theorem packA_local {m m' : Nat → Option Blk} {v v' : AV} {rd ms : List Nat} {g : Bool} (hd : packA m v = some (v', rd, ms, g)) (hm : ∀ i, i ∈ rd ∨ i ∈ ms → m' i = m i) : packA m' v = some (v', rd, ms, g) := by
  unfold packA at hd ⊢
  split at hd
  · rename_i id
    (try simp only [])
    split at hd
    case h_2 => cases hd
    rename_i blk hb
    obtain ⟨hp, hd⟩ := cond_some hd
    split at hd
    case h_2 => cases hd
    rename_i c hc
    simp only [Option.some.injEq, Prod.mk.injEq] at hd
    obtain ⟨rfl, rfl, rfl, rfl⟩ := hd
    rw [hm id (.inr (by simp)), hb]
    simp only [hp, cond_true]
    rw [deepA_local _ _ _ hc (fun i hi => by cases hi)]
  · rename_i id lo n e
    (try simp only [])
    split at hd
    case h_2 => cases hd
    rename_i blk hb
    have hd0 := hd
    obtain ⟨hp, hd⟩ := cond_some hd
    simp only [Option.some.injEq, Prod.mk.injEq] at hd
    obtain ⟨rfl, rfl, rfl, rfl⟩ := hd
    rw [hm id (.inr (by simp)), hb]
    exact hd0
  · rename_i h1 h2
    split at hd
    case h_2 => cases hd
    rename_i x hx
    simp only [Option.some.injEq, Prod.mk.injEq] at hd
    obtain ⟨rfl, rfl, rfl, rfl⟩ := hd
    have hx' := deepA_local v x.1 x.2 hx (fun i hi => hm i (.inl hi))
    rw [hx']
    try rfl
theorem packAs_local {m m' : Nat → Option Blk} : ∀ (ps ps' : List AV) (rd ms : List Nat) (g : Bool), packAs m ps = some (ps', rd, ms, g) → (∀ i, i ∈ rd ∨ i ∈ ms → m' i = m i) → packAs m' ps = some (ps', rd, ms, g)
  | [], ps', rd, ms, g, hd, _ => hd
  | p :: ps, ps', rd, ms, g, hd, hm => by
    simp only [packAs] at hd ⊢
    split at hd
    case h_2 => cases hd
    rename_i x hx
    split at hd
    case h_2 => cases hd
    rename_i y hy
    simp only [Option.some.injEq, Prod.mk.injEq] at hd
    obtain ⟨rfl, rfl, rfl, rfl⟩ := hd
    obtain ⟨x1, x2, x3, x4⟩ := x
    obtain ⟨y1, y2, y3, y4⟩ := y
    simp only [List.mem_append] at hm
    rw [packA_local hx (fun i hi => hm i (hi.elim (fun h => .inl (.inl h)) (fun h => .inr (.inl h))))]
    rw [packAs_local ps y1 y2 y3 y4 hy (fun i hi => hm i (hi.elim (fun h => .inl (.inr h)) (fun h => .inr (.inr h))))]
theorem mutUp_local {m m' : Nat → Option Blk} : ∀ (ids : List Nat) (cs : List AV) (up : List (Nat × Option Blk)), mutUp m ids cs = some up → (∀ i ∈ ids, m' i = m i) → mutUp m' ids cs = some up
  | [], [], up, h, _ => h
  | [], _ :: _, up, h, _ => by simp [mutUp] at h
  | id :: ids, [], up, h, _ => by simp [mutUp] at h
  | id :: ids, c :: cs, up, h, hm => by
    cases c
    case rf e c =>
      simp only [mutUp] at h ⊢
      rw [hm id (by simp)]
      split at h
      case h_2 => cases h
      rename_i b hb
      obtain ⟨h1, h⟩ := cond_some h
      split at h
      case h_2 => cases h
      rename_i l hl
      simp only [h1, cond_true, mutUp_local ids cs l hl (fun i hi => hm i (by simp [hi]))]
      exact h
    all_goals simp [mutUp] at h
theorem newE_local {e : TypeId} {c : AV} {mk : Nat → AV} {rd : List Nat} (hc : ∀ d j, dst = some d → s'.c (d + 1000 * j) = s.c (d + 1000 * j)) : newE s' dst e c mk rd = newE s dst e c mk rd := by
  unfold newE
  cases dst with
  | none => rfl
  | some d =>
    have := hc d 0 rfl
    simp only [Nat.mul_zero, Nat.add_zero] at this
    simp only [this]
theorem resTup_local (d : Nat) (hc : ∀ j, s'.c (d + 1000 * j) = s.c (d + 1000 * j)) : ∀ (ps : List AV) (j : Nat), resTup s' d j ps = resTup s d j ps
  | [], j => rfl
  | p :: ps, j => by
    have ih := resTup_local d hc ps (j + 1)
    cases p <;> simp only [resTup, ih, hc]
theorem resA_local {rd : List Nat} {r : AV} (hc : ∀ d j, dst = some d → s'.c (d + 1000 * j) = s.c (d + 1000 * j)) : resA s' dst rd r = resA s dst rd r := by
  unfold resA
  split
  · rename_i e c d
    have := hc d 0 rfl
    simp only [Nat.mul_zero, Nat.add_zero] at this
    simp only [this]
  · rfl
  · rename_i ps d
    simp only [resTup_local d (fun j => hc d j rfl)]
  · rfl
  · rfl
theorem buildSt_local {t t' : Nat → AV} : ∀ (ps : List (Nat × Operand)) (zs : List AV), (∀ p ∈ ps, ev t' p.2 = ev t p.2) → buildSt t' zs ps = buildSt t zs ps
  | [], _, _ => rfl
  | (i, x) :: r, zs, h => by
    have hx := h (i, x) (by simp)
    simp only [] at hx
    simp only [buildSt, hx]
    split
    · rw [buildSt_local r _ (fun p hp => h p (by simp [hp]))]
    · rfl
theorem buildInts_local {t t' : Nat → AV} {k : IntKind} : ∀ (ps : List (Nat × Operand)) (zs : List Int), (∀ p ∈ ps, ev t' p.2 = ev t p.2) → buildInts t' k zs ps = buildInts t k zs ps
  | [], _, _ => rfl
  | (i, x) :: r, zs, h => by
    have hx := h (i, x) (by simp)
    simp only [] at hx
    simp only [buildInts, hx]
    split
    · rw [buildInts_local r _ (fun p hp => h p (by simp [hp]))]
    · rfl
theorem buildPrs_local {t t' : Nat → AV} {k : IntKind} : ∀ (ps : List (Nat × Operand)) (zs : List (Int × Int)), (∀ p ∈ ps, ev t' p.2 = ev t p.2) → buildPrs t' k zs ps = buildPrs t k zs ps
  | [], _, _ => rfl
  | (i, x) :: r, zs, h => by
    have hx := h (i, x) (by simp)
    simp only [] at hx
    simp only [buildPrs, hx]
    split
    · rw [buildPrs_local r _ (fun p hp => h p (by simp [hp]))]
    · rfl
theorem map_ev_local {t t' : Nat → AV} {xs : List Operand} (h : ∀ x ∈ xs, ev t' x = ev t x) : xs.map (ev t') = xs.map (ev t) := List.map_congr_left h
theorem newE_rd {e : TypeId} {c : AV} {mk : Nat → AV} {rd : List Nat} (h : newE s dst e c mk rd = some f) : f.rd = rd := by
  unfold newE at h
  cases dst with
  | none => cases h
  | some d => cases h; rfl
theorem resA_rd {rd : List Nat} {r : AV} (h : resA s dst rd r = some f) : f.rd = rd := by
  unfold resA at h
  split at h
  · cases h; rfl
  · cases h; rfl
  · obtain ⟨_, h⟩ := cond_some h; cases h; rfl
  · cases h; rfl
  · cases h; rfl
theorem listOf_local {v cy : AV} {ry : List Nat} {z : Option TE} (h : listOf s z v = some (cy, ry)) (hm : ∀ id ∈ ry, s'.m id = s.m id) : listOf s' z v = some (cy, ry) := by
  cases v <;> simp only [listOf] at h ⊢
  case wsl id =>
    cases hb : s.m id with
    | none => rw [hb] at h; cases h
    | some blk =>
      rw [hb] at h
      simp only [Option.some.injEq, Prod.mk.injEq] at h
      obtain ⟨rfl, rfl⟩ := h
      rw [hm id (by simp), hb]
  case sl c => exact h
  case nils => exact h
  all_goals cases h
theorem bltA_local {b : Builtin} {ts : List TypeId} {xs : List Operand} (ht : ∀ x ∈ xs, ev s'.t x = ev s.t x) (hm : ∀ id ∈ f.rd, s'.m id = s.m id) (hc : ∀ d j, dst = some d → s'.c (d + 1000 * j) = s.c (d + 1000 * j))
    (hf : bltA E s dst b ts xs some = some f) : bltA E s' dst b ts xs some = some f := by
  unfold bltA at hf ⊢
  split at hf
  · rename_i x
    rw [ht x (by simp)]
    obtain ⟨h1, hf⟩ := cond_some hf
    simp only [h1, cond_true]
    split at hf
    · rename_i id hx
      (try simp only [hx])
      split at hf
      · rename_i blk hb
        simp only [Option.some.injEq] at hf
        subst hf
        rw [hm id (by simp), hb]
      · cases hf
    · rename_i c hx
      (try simp only [hx])
      exact hf
    · rename_i hx
      (try simp only [hx])
      exact hf
    · rename_i hx
      (try simp only [hx])
      exact hf
    · cases hf
  · simp only [map_ev_local ht]
    exact hf
  · simp only [map_ev_local ht]
    exact hf
  · rename_i x y
    obtain ⟨h1, hf⟩ := cond_some hf
    simp only [h1, cond_true]
    cases ts with
    | nil => cases hf
    | cons t ts' =>
    simp only [] at hf ⊢
    split at hf
    case h_2 => cases hf
    rename_i e _ _ _ _ hte
    split at hf
    case h_2 => cases hf
    rename_i te cy ry htee hly
    obtain ⟨h2, hf⟩ := cond_some hf
    have hx := ht x (by simp)
    have hy := ht y (by simp)
    have main : ∀ (hry : ∀ id ∈ ry, s'.m id = s.m id), listOf s' (lk E.ty e) (ev s.t y) = some (cy, ry) := by
      exact listOf_local hly
    rw [hx, hy]
    split at hf
    · rename_i hxv
      obtain ⟨h3, hf⟩ := chk_some hf
      split at hf
      case h_2 => cases hf
      rename_i f' hne
      simp only [Option.some.injEq] at hf
      subst hf
      have hrd := newE_rd hne
      rw [main (fun id hi => hm id (by rw [hrd]; exact hi))]
      simp only [htee, h2, cond_true, h3, chk, newE_local hc, hne]
    · rename_i id hxv
      split at hf
      case h_2 => cases hf
      rename_i blk hb
      obtain ⟨h3, hf⟩ := cond_some hf
      split at hf
      case h_2 => cases hf
      rename_i c hcat
      obtain ⟨h4, hf⟩ := cond_some hf
      obtain ⟨h5, hf⟩ := chk_some hf
      split at hf
      case h_2 => cases hf
      rename_i f' hne
      simp only [Option.some.injEq] at hf
      subst hf
      have hrd := newE_rd hne
      simp only [hrd] at hm
      rw [main (fun id hi => hm id (by simp [hi]))]
      simp only [htee, h2, cond_true, hm id (by simp), hb, h3, hcat, h4, h5, chk, newE_local hc, hne]
    · cases hf
  · cases hf
theorem opA_local (hO : OrcLaw E) {o : Op} (hl : Alike o dst f.rd s s') (hf : opA E s dst o some = some f) : opA E s' dst o some = some f := by
  obtain ⟨ht, hm, hc⟩ := hl
  cases o
  case move x => have := ht x (by simp [Op.operands]); simp only [opA, this] at hf ⊢; exact hf
  case assign x => have := ht x (by simp [Op.operands]); simp only [opA, this] at hf ⊢; exact hf
  case pick c x y =>
    have h1 := ht c (by simp [Op.operands])
    have h2 := ht x (by simp [Op.operands])
    have h3 := ht y (by simp [Op.operands])
    simp only [opA, h1, h2, h3] at hf ⊢; exact hf
  case alloc t => simp only [opA, newE_local hc] at hf ⊢; exact hf
  case box t x => have := ht x (by simp [Op.operands]); simp only [opA, this, newE_local hc] at hf ⊢; exact hf
  case build t ps =>
    have h1 : ∀ p ∈ ps.toList, ev s'.t p.2 = ev s.t p.2 := fun p hp => ht p.2 (by simp only [Op.operands, List.mem_toArray, List.mem_map]; exact ⟨p, hp, rfl⟩)
    simp only [opA, buildSt_local _ _ h1, buildInts_local _ _ h1] at hf ⊢; exact hf
  case buildSlice t n ps =>
    have h1 : ∀ p ∈ ps.toList, ev s'.t p.2 = ev s.t p.2 := fun p hp => ht p.2 (by simp only [Op.operands, List.mem_toArray, List.mem_map]; exact ⟨p, hp, rfl⟩)
    simp only [opA, buildInts_local _ _ h1, buildPrs_local _ _ h1, newE_local hc] at hf ⊢; exact hf
  case load t x =>
    have hx := ht x (by simp [Op.operands])
    simp only [opA, hx] at hf ⊢
    split at hf
    case h_2 => cases hf
    rename_i te hte
    (try simp only [])
    split at hf
    · rename_i id i e g hv
      (try simp only [])
      split at hf
      case h_2 => cases hf
      rename_i blk hb
      split at hf
      case h_2 => cases hf
      rename_i v hg
      simp only [Option.some.injEq] at hf
      subst hf
      simp only [hm id (by simp), hb, hg]
    · rename_i hv
      (try simp only [])
      exact hf
    · cases hf
  case store t x y =>
    have hx := ht x (by simp [Op.operands])
    have hy := ht y (by simp [Op.operands])
    simp only [opA, hx, hy] at hf ⊢
    split at hf
    case h_2 => cases hf
    rename_i te hte
    (try simp only [])
    split at hf
    · rename_i id i e g hv
      (try simp only [])
      split at hf
      case h_2 => cases hf
      rename_i blk hb
      obtain ⟨h1, hf⟩ := cond_some hf
      split at hf
      case h_2 => cases hf
      rename_i c hg
      obtain ⟨h2, hf⟩ := cond_some hf
      simp only [Option.some.injEq] at hf
      subst hf
      simp only [hm id (by simp), hb, h1, hg, h2, cond_true]
    · cases hf
  case nilCheck x => have := ht x (by simp [Op.operands]); simp only [opA, this] at hf ⊢; exact hf
  case binOp op t x y t' =>
    have h1 := ht x (by simp [Op.operands])
    have h2 := ht y (by simp [Op.operands])
    simp only [opA, h1, h2] at hf ⊢; exact hf
  case unOp op t x => have := ht x (by simp [Op.operands]); simp only [opA, this] at hf ⊢; exact hf
  case convert t t' x => have := ht x (by simp [Op.operands]); simp only [opA, this] at hf ⊢; exact hf
  case makeInterface t x => have := ht x (by simp [Op.operands]); simp only [opA, this] at hf ⊢; exact hf
  case makeSlice t x y =>
    have h1 := ht x (by simp [Op.operands])
    have h2 := ht y (by simp [Op.operands])
    simp only [opA, h1, h2, newE_local hc] at hf ⊢; exact hf
  case slice t x lo hi mx =>
      have h1 := ht x (by simp [Op.operands])
      have h2 : ∀ d, boundA s'.t d lo = boundA s.t d lo := by
        intro d
        cases lo with
        | none => rfl
        | some y => simp only [boundA, ht y (by simp [Op.operands])]
      have h3 : ∀ d, boundA s'.t d hi = boundA s.t d hi := by
        intro d
        cases hi with
        | none => rfl
        | some y => simp only [boundA, ht y (by simp [Op.operands])]
      have h4 : ∀ d c, mxA s'.t d c hi mx = mxA s.t d c hi mx := by
        intro d c
        cases mx with
        | none => rfl
        | some y => simp only [mxA, ht y (by simp [Op.operands])]
      simp only [opA, h1, h2, h3, h4] at hf ⊢
      split at hf
      · rename_i id hte hv
        (try simp only [])
        split at hf
        case h_2 => cases hf
        rename_i blk hb
        have hf0 := hf
        split at hf
        case h_2 => cases hf
        obtain ⟨g1, hf⟩ := chk_some hf
        simp only [Option.some.injEq] at hf
        subst hf
        simp only [hm id (by simp), hb]
        first | exact hf0 | simp only [chk, g1, cond_true]
      · exact hf
      · rename_i id hte hv
        (try simp only [])
        split at hf
        case h_2 => cases hf
        rename_i blk hb
        have hf0 := hf
        split at hf
        case h_2 => cases hf
        rename_i te l hh q1 q2 q3
        obtain ⟨g1, hf⟩ := chk_some hf
        simp only [Option.some.injEq] at hf
        subst hf
        simp only [hm id (by simp), hb]
        exact hf0
      · exact hf
      · cases hf
  case fieldAddr t x n => have := ht x (by simp [Op.operands]); simp only [opA, this] at hf ⊢; exact hf
  case sliceToArrayPointer t x => have := ht x (by simp [Op.operands]); simp only [opA, this] at hf ⊢; exact hf
  case field t x n => have := ht x (by simp [Op.operands]); simp only [opA, this] at hf ⊢; exact hf
  case indexAddr t x y =>
    have hx := ht x (by simp [Op.operands])
    have hy := ht y (by simp [Op.operands])
    simp only [opA, hx, hy] at hf ⊢
    split at hf
    · rename_i n e _ _ _ _ _ j hte hj
      (try simp only [])
      split at hf
      · rename_i te id _ g htee hv
        (try simp only [])
        obtain ⟨h1, hf⟩ := chk_some hf
        split at hf
        case h_2 => cases hf
        rename_i blk hb
        cases hcc : (Nat.beq blk.c.cnt n && Nat.beq g 0 && !Nat.beq te.size 0) with
        | true =>
          rw [hcc] at hf
          simp only [cond_true, Option.some.injEq] at hf
          subst hf
          simp only [chk, h1, cond_true, hm id (by simp), hb, hcc]
        | false =>
          rw [hcc] at hf
          simp only [cond_false, Option.some.injEq] at hf
          subst hf
          simp only [chk, h1, cond_true, hm id (by simp), hb, hcc, cond_false]
      · exact hf
      · cases hf
    · rename_i e _ _ _ _ _ j hte hj
      (try simp only [])
      split at hf
      · rename_i te id htee hv
        (try simp only [])
        split at hf
        case h_2 => cases hf
        rename_i blk hb
        have hf0 := hf
        obtain ⟨h1, hf⟩ := chk_some hf
        simp only [Option.some.injEq] at hf
        subst hf
        simp only [hm id (by simp), hb]
        exact hf0
      · exact hf
      · exact hf
      · cases hf
    · cases hf
  case index t x y =>
    have h1 := ht x (by simp [Op.operands])
    have h2 := ht y (by simp [Op.operands])
    simp only [opA, h1, h2] at hf ⊢; exact hf
  case extract x n => have := ht x (by simp [Op.operands]); simp only [opA, this] at hf ⊢; exact hf
  case call c =>
    simp only [opA] at hf ⊢
    split at hf
    · rename_i b hcb
      refine bltA_local (fun x hx => ht x ?_) hm hc hf
      simp only [Op.operands, Call.operands]
      simp [hcb] at hx ⊢
      exact hx
    · rename_i g hcg
      have hg := ht g (by simp [Op.operands, Call.operands, hcg])
      have hxs : ∀ x ∈ c.args.toList, ev s'.t x = ev s.t x := fun x hx => ht x (by
        simp only [Op.operands, Call.operands]
        simp [hcg] at hx ⊢
        exact .inr hx)
      rw [hg]
      split at hf
      case h_2 => cases hf
      rename_i fid hfid
      (try simp only [])
      split at hf
      case h_2 => cases hf
      rename_i en hen
      (try rw [hen])
      (try simp only [])
      cases hw : en.wr with
      | false =>
        rw [hw] at hf
        simp only [cond_false] at hf ⊢
        split at hf
        case h_2 => cases hf
        rename_i as rd hargs
        obtain ⟨h1, hf⟩ := cond_none hf
        rw [hO _ _ hen, Option.bind_eq_some_iff] at hf
        obtain ⟨r, hr, hf⟩ := hf
        split at hf
        case h_2 => cases hf
        rename_i f' hres
        simp only [Option.some.injEq] at hf
        subst hf
        have hrd := resA_rd hres
        have hargs' : argsA s' c.args.toList = some (as, rd) := by
          unfold argsA at hargs ⊢
          rw [map_ev_local hxs]
          exact deepAs_local _ _ _ hargs (fun i hi => hm i (by rw [hrd]; exact hi))
        simp only [hargs', h1, cond_false]
        rw [hO _ _ hen, hr]
        simp only [Option.bind_some, resA_local hc, hres]
      | true =>
        rw [hw] at hf
        simp only [cond_true] at hf ⊢
        split at hf
        case h_2 => cases hf
        rename_i as rd ms g hargs
        obtain ⟨h1, hf⟩ := cond_none hf
        obtain ⟨h2, hf⟩ := chk_some hf
        rw [hO _ _ hen, Option.bind_eq_some_iff] at hf
        obtain ⟨r, hr, hf⟩ := hf
        split at hf
        case h_2 => cases hf
        rename_i r' cs
        split at hf
        case h_2 => cases hf
        rename_i up f' hup hres
        simp only [Option.some.injEq] at hf
        subst hf
        have hrd := resA_rd hres
        simp only [hrd] at hm
        have hargs' : packAs s'.m (c.args.toList.map (ev s'.t)) = some (as, rd, ms, g) := by
          rw [map_ev_local hxs]
          exact packAs_local _ _ _ _ _ hargs (fun i hi => hm i (List.mem_append.2 hi))
        simp only [hargs', h1, cond_false, h2, chk, cond_true]
        rw [hO _ _ hen, hr]
        simp only [Option.bind_some, resA_local hc, hres, mutUp_local ms cs up hup (fun i hi => hm i (by simp [hi]))]
    · cases hf
  all_goals (simp [opA] at hf)
end
end Go.Proofs.YtbakldcbaikgpaaGreatDoor
/- Regions in any order. Own work, program-independent. -/
namespace Go.Proofs.YtbakldcbaikgpaaGreatDoor
open Go.RowKit (Below)
section
variable {E : Env} {s s' : AS} {dst : Option Tmp} {f g : Eff}
theorem cond_or {α : Type} {b : Bool} {x y : Option α} {z : α} (h : (bif b then x else y) = some z) : x = some z ∨ y = some z := by
  cases b
  · exact .inr h
  · exact .inl h
theorem newE_nw {e : TypeId} {c : AV} {mk : Nat → AV} {rd : List Nat} (h : newE s dst e c mk rd = some f) : ∀ i ∈ f.nw, ∃ d j, dst = some d ∧ i = d + 1000 * j := by
  unfold newE at h
  cases dst with
  | none => cases h
  | some d =>
    cases h
    intro i hi
    simp only [List.mem_singleton] at hi
    exact ⟨d, 0, rfl, hi⟩
theorem resTup_nw' (s : AS) (d : Nat) : ∀ (ps : List AV) (j i : Nat), i ∈ (resTup s d j ps).2.2 → ∃ j', i = d + 1000 * j'
  | [], j, i, h => by simp [resTup] at h
  | p :: ps, j, i, h => by
    have ih := resTup_nw' s d ps (j + 1) i
    cases p
    case osl e c =>
      simp only [resTup, List.mem_cons] at h
      rcases h with rfl | h
      · exact ⟨j, rfl⟩
      · exact ih h
    all_goals (simp only [resTup] at h; exact ih h)
theorem resA_nw {rd : List Nat} {r : AV} (h : resA s dst rd r = some f) : ∀ i ∈ f.nw, ∃ d j, dst = some d ∧ i = d + 1000 * j := by
  unfold resA at h
  split at h
  · cases h
    intro i hi
    simp only [List.mem_singleton] at hi
    exact ⟨_, 0, rfl, hi⟩
  · cases h; simp
  · obtain ⟨_, h⟩ := cond_some h
    cases h
    intro i hi
    obtain ⟨j, hj⟩ := resTup_nw' _ _ _ _ _ hi
    exact ⟨_, j, rfl, hj⟩
  · cases h; simp
  · cases h; simp
theorem bltA_nw {b : Builtin} {ts : List TypeId} {xs : List Operand} (hf : bltA E s dst b ts xs some = some f) : ∀ i ∈ f.nw, ∃ d j, dst = some d ∧ i = d + 1000 * j := by
  unfold bltA at hf
  split at hf
  · obtain ⟨_, hf⟩ := cond_some hf
    (repeat' split at hf) <;> first | (cases hf; done) | (cases hf; simp [val])
  · split at hf
    · cases hf; simp [val]
    · cases hf
  · split at hf
    · cases hf; simp [val]
    · cases hf
  · obtain ⟨_, hf⟩ := cond_some hf
    split at hf
    case h_2 => cases hf
    split at hf
    case h_2 => cases hf
    split at hf
    case h_2 => cases hf
    obtain ⟨_, hf⟩ := cond_some hf
    split at hf
    · obtain ⟨_, hf⟩ := chk_some hf
      split at hf
      case h_2 => cases hf
      rename_i hne
      cases hf
      exact newE_nw hne
    · split at hf
      case h_2 => cases hf
      obtain ⟨_, hf⟩ := cond_some hf
      split at hf
      case h_2 => cases hf
      obtain ⟨_, hf⟩ := cond_some hf
      obtain ⟨_, hf⟩ := chk_some hf
      split at hf
      case h_2 => cases hf
      rename_i hne
      cases hf
      have := newE_nw hne
      exact this
    · cases hf
  · cases hf
theorem binA_val {op : BinOp} {t : TypeId} {x y : Operand} {u v : AV} (h : binA E.ty op t x y u v (fun v => some (val v)) = some f) : ∃ r, f = val r := by
  rw [binA_bind, Option.bind_eq_some_iff] at h
  obtain ⟨r, _, h⟩ := h
  exact ⟨r, (Option.some.inj h).symm⟩
theorem opA_nw (hO : OrcLaw E) {o : Op} (hf : opA E s dst o some = some f) : ∀ i ∈ f.nw, ∃ d j, dst = some d ∧ i = d + 1000 * j := by
  cases o
  case alloc t =>
    simp only [opA] at hf
    split at hf
    case h_2 => cases hf
    split at hf
    case h_2 => cases hf
    rename_i hne
    cases hf
    exact newE_nw hne
  case box t x =>
    simp only [opA] at hf
    obtain ⟨_, hf⟩ := cond_some hf
    split at hf
    case h_2 => cases hf
    rename_i hne
    cases hf
    exact newE_nw hne
  case buildSlice t n ps =>
    simp only [opA] at hf
    split at hf
    case h_2 => cases hf
    split at hf
    case h_3 => cases hf
    all_goals
      obtain ⟨_, hf⟩ := cond_some hf
      split at hf
      case h_2 => cases hf
      split at hf
      case h_2 => cases hf
      rename_i hne
      cases hf
      exact newE_nw hne
  case makeSlice t x y =>
    simp only [opA] at hf
    split at hf
    case h_2 => cases hf
    split at hf
    case h_3 => cases hf
    all_goals
      obtain ⟨_, hf⟩ := chk_some hf
      split at hf
      case h_2 => cases hf
      rename_i hne
      cases hf
      exact newE_nw hne
  case call c =>
    simp only [opA] at hf
    split at hf
    · exact bltA_nw hf
    · split at hf
      case h_2 => cases hf
      split at hf
      case h_2 => cases hf
      rename_i en hen
      rcases cond_or hf with hf | hf
      · split at hf
        case h_2 => cases hf
        rename_i as rd ms g hargs
        obtain ⟨h1, hf⟩ := cond_none hf
        obtain ⟨h2, hf⟩ := chk_some hf
        rw [hO _ _ hen, Option.bind_eq_some_iff] at hf
        obtain ⟨r, hr, hf⟩ := hf
        split at hf
        case h_2 => cases hf
        split at hf
        case h_2 => cases hf
        rename_i up f' hup hres
        cases hf
        exact resA_nw (f := f') hres
      · split at hf
        case h_2 => cases hf
        rename_i as rd hargs
        obtain ⟨h1, hf⟩ := cond_none hf
        rw [hO _ _ hen, Option.bind_eq_some_iff] at hf
        obtain ⟨r, hr, hf⟩ := hf
        split at hf
        case h_2 => cases hf
        rename_i hres
        cases hf
        exact resA_nw hres
    · cases hf
  case binOp op t x y t' =>
    simp only [opA] at hf
    obtain ⟨r, rfl⟩ := binA_val hf
    simp [val]
  case slice t x lo hi mx =>
      simp only [opA] at hf
      split at hf
      · split at hf
        case h_2 => cases hf
        split at hf
        case h_2 => cases hf
        obtain ⟨_, hf⟩ := chk_some hf
        cases hf
        simp
      · split at hf
        case h_2 => cases hf
        obtain ⟨_, hf⟩ := chk_some hf
        split at hf
        case h_2 => cases hf
        cases hf
        simp [val]
      · split at hf
        case h_2 => cases hf
        split at hf
        case h_2 => cases hf
        obtain ⟨_, hf⟩ := chk_some hf
        cases hf
        simp
      · split at hf
        case h_2 => cases hf
        obtain ⟨_, hf⟩ := chk_some hf
        cases hf
        simp [val]
      · cases hf
  case indexAddr t x y =>
    simp only [opA] at hf
    split at hf
    · split at hf
      · obtain ⟨h1, hf⟩ := chk_some hf
        split at hf
        case h_2 => cases hf
        rcases cond_or hf with hf | hf <;> (cases hf; simp)
      · obtain ⟨h1, hf⟩ := chk_some hf
        rcases cond_or hf with hf | hf <;> (cases hf; simp [val])
      · cases hf
    · split at hf
      · split at hf
        case h_2 => cases hf
        obtain ⟨h1, hf⟩ := chk_some hf
        cases hf; simp
      · obtain ⟨h1, hf⟩ := chk_some hf
        cases hf; simp [val]
      · obtain ⟨h1, hf⟩ := chk_some hf
        cases hf; simp [val]
      · cases hf
    · cases hf
  case index t x y =>
    simp only [opA] at hf
    split at hf
    · split at hf
      case h_2 => cases hf
      obtain ⟨h1, hf⟩ := chk_some hf
      obtain ⟨h1, hf⟩ := cond_some hf
      cases hf; simp [val]
    · obtain ⟨h1, hf⟩ := chk_some hf
      cases hf; simp [val]
    · cases hf
  case store t x y =>
    simp only [opA] at hf
    split at hf
    case h_2 => cases hf
    split at hf
    case h_2 => cases hf
    split at hf
    case h_2 => cases hf
    obtain ⟨_, hf⟩ := cond_some hf
    split at hf
    case h_2 => cases hf
    obtain ⟨_, hf⟩ := cond_some hf
    cases hf; simp
  case makeInterface t x =>
    simp only [opA] at hf
    split at hf
    · cases hf
    · obtain ⟨_, hf⟩ := cond_some hf
      cases hf; simp [val]
    · cases hf
  case pick c x y =>
    simp only [opA] at hf
    split at hf
    · rcases cond_or hf with hf | hf <;> (cases hf; simp [val])
    · cases hf
  case sliceToArrayPointer t x =>
    simp only [opA] at hf
    split at hf
    case h_2 => cases hf
    obtain ⟨_, hf⟩ := chk_some hf
    cases hf
    simp [val]
  case fieldAddr t x n =>
    simp only [opA] at hf
    split at hf
    case h_2 => cases hf
    split at hf
    case h_2 => cases hf
    split at hf
    case h_2 => cases hf
    obtain ⟨_, hf⟩ := cond_none hf
    split at hf
    · cases hf; simp [val]
    · cases hf; simp [val]
    · cases hf
  case build t ps =>
    simp only [opA] at hf
    split at hf
    · split at hf
      · cases hf; simp [val]
      · cases hf
    · split at hf
      · obtain ⟨_, hf⟩ := cond_some hf
        cases hf; simp [val]
      · cases hf
    · cases hf
  case field t x n =>
    simp only [opA] at hf
    split at hf
    case h_2 => cases hf
    split at hf
    case h_2 => cases hf
    split at hf
    case h_2 => cases hf
    obtain ⟨_, hf⟩ := cond_some hf
    cases hf; simp [val]
  all_goals first
    | (simp only [opA] at hf; (repeat' split at hf) <;> first | (cases hf; done) | (cases hf; simp [val]))
    | (simp [opA] at hf)
/-! ### Two operations that have nothing to do with one another -/
theorem ups_notin (m : Nat → Option Blk) (i : Nat) : ∀ (l : List (Nat × Option Blk)), i ∉ l.map (·.1) → ups m l i = m i
  | [], _ => rfl
  | (d, b) :: r, h => by
    simp only [List.map_cons, List.mem_cons, not_or] at h
    simp only [ups]
    rw [upd_ne _ _ h.1, ups_notin m i r h.2]
theorem ups_in (m m' : Nat → Option Blk) (i : Nat) : ∀ (l : List (Nat × Option Blk)), i ∈ l.map (·.1) → ups m l i = ups m' l i
  | [], h => by simp at h
  | (d, b) :: r, h => by
    simp only [ups]
    by_cases hd : i = d
    · subst hd; rw [upd_self, upd_self]
    · rw [upd_ne _ _ hd, upd_ne _ _ hd]
      simp only [List.map_cons, List.mem_cons] at h
      exact ups_in m m' i r (h.resolve_left hd)
theorem ups_comm (m : Nat → Option Blk) (l l' : List (Nat × Option Blk)) (h : ∀ i ∈ l.map (·.1), i ∉ l'.map (·.1)) : ups (ups m l) l' = ups (ups m l') l := by
  funext i
  by_cases h1 : i ∈ l.map (·.1)
  · rw [ups_notin _ _ _ (h i h1)]
    exact ups_in _ _ _ _ h1
  · rw [ups_notin _ _ l h1]
    by_cases h2 : i ∈ l'.map (·.1)
    · exact ups_in _ _ _ _ h2
    · rw [ups_notin _ _ _ h2, ups_notin _ _ _ h2, ups_notin _ _ _ h1]
theorem bumps_count (c : Nat → Nat) (i : Nat) : ∀ (l : List Nat), bumps c l i = c i + l.count i
  | [] => by simp [bumps]
  | d :: r => by
    simp only [bumps]
    by_cases hd : i = d
    · subst hd; rw [upd_self, bumps_count c i r]; simp; omega
    · rw [upd_ne _ _ hd, bumps_count c i r, List.count_cons_of_ne (fun e => hd e.symm)]
theorem bumps_comm (c : Nat → Nat) (l l' : List Nat) : bumps (bumps c l) l' = bumps (bumps c l') l := by
  funext i
  simp only [bumps_count]
  omega
theorem putT_comm (t : Nat → AV) {x y : Option Tmp} (u v : AV) (h : ∀ d, x = some d → y ≠ some d) : putT (putT t x u) y v = putT (putT t y v) x u := by
  cases x with
  | none => rfl
  | some d =>
    cases y with
    | none => rfl
    | some e =>
      have hne : d ≠ e := fun he => h d rfl (he ▸ rfl)
      funext i
      simp only [putT]
      by_cases h1 : i = e
      · subst h1
        rw [upd_self, upd_ne _ _ (fun e => hne e.symm), upd_self]
      · rw [upd_ne _ _ h1]
        by_cases h2 : i = d
        · subst h2; rw [upd_self, upd_self]
        · rw [upd_ne _ _ h2, upd_ne _ _ h2, upd_ne _ _ h1]
theorem put_eq (s : AS) (dst : Option Tmp) (f : Eff) : s.put dst f = ⟨putT s.t dst f.v, ups s.m f.up, bumps s.c f.nw⟩ := rfl
abbrev FP := List Nat × List Nat
def fpOf (f : Eff) : FP := (f.rd, f.up.map (·.1))
theorem clash_false {x y : FP} (h : clash x y = false) : (∀ i ∈ x.2, i ∉ y.1 ∧ i ∉ y.2) ∧ (∀ i ∈ y.2, i ∉ x.1) := by
  unfold clash at h
  rw [Bool.or_eq_false_iff] at h
  obtain ⟨h1, h2⟩ := h
  rw [List.any_eq_false] at h1 h2
  refine ⟨fun i hi => ?_, fun i hi hx => ?_⟩
  · have := h1 i hi
    simp only [Bool.or_eq_true, not_or] at this
    exact ⟨fun h => this.1 (any_beq.2 h), fun h => this.2 (any_beq.2 h)⟩
  · exact h2 i hi (any_beq.2 hx)
variable {ops : Array Oper} {x y : Oper}
theorem ev_put {t : Nat → AV} {dst : Option Tmp} {v : AV} {o : Operand} (h : ∀ d, dst = some d → o ≠ .tmp d) : ev (putT t dst v) o = ev t o := by
  cases dst with
  | none => rfl
  | some d =>
    cases o with
    | tmp i =>
      have hne : i ≠ d := fun e => h d rfl (e ▸ rfl)
      simp only [ev, putT]
      rw [upd_ne _ _ hne]
    | _ => rfl
theorem mem_looks {o : Oper} {t : Tmp} (h : Operand.tmp t ∈ o.op.operands) : t ∈ o.looksAt ops :=
  List.mem_append_left _ (List.mem_filterMap.2 ⟨.tmp t, by simpa using h, rfl⟩)
theorem wantA_put {o : Oper} {dst : Option Tmp} {f : Eff} (h : ∀ d, dst = some d → d ∉ o.looksAt ops) : wantA ops (s.put dst f) o = wantA ops s o := by
  unfold wantA
  cases hg : o.guard with
  | none => rfl
  | some gw =>
    obtain ⟨g, want⟩ := gw
    simp only []
    cases hd : (ops[g]?).bind (·.dst) with
    | none => rfl
    | some t =>
      have : (s.put dst f).t t = s.t t := by
        cases dst with
        | none => rfl
        | some d =>
          have hne : t ≠ d := fun e => h d rfl (by subst e; simp [Oper.looksAt, hg, hd])
          exact upd_ne _ _ hne
      simp only [this]
theorem stp_nw (hO : OrcLaw E) {o : Oper} (h : stp E ops s o = some f) : okDst E o.dst = true ∧ ∀ i ∈ f.nw, ∃ d j, o.dst = some d ∧ i = d + 1000 * j := by
  unfold stp at h
  obtain ⟨hd, h⟩ := cond_some h
  refine ⟨hd, ?_⟩
  split at h
  · exact opA_nw hO h
  · cases h; simp [val]
  · cases h
/-- An operation does the same behind another one that has nothing to do with it, as ahead of it. -/
theorem stp_over (hO : OrcLaw E) (hE : E.nt ≤ 1000) {f' : Eff} (hx : okDst E x.dst = true) (hnw : ∀ i ∈ f.nw, ∃ d j, x.dst = some d ∧ i = d + 1000 * j) (h1 : ∀ d, x.dst = some d → d ∉ y.looksAt ops) (h2 : ∀ d, x.dst = some d → y.dst ≠ some d)
    (h3 : ∀ i ∈ f.up.map (·.1), i ∉ f'.rd) :
    (stp E ops (s.put x.dst f) y = some f' → stp E ops s y = some f') ∧ (stp E ops s y = some f' → stp E ops (s.put x.dst f) y = some f') := by
  have hal : okDst E y.dst = true → (∀ z ∈ y.op.operands, ev (s.put x.dst f).t z = ev s.t z) ∧ (∀ id ∈ f'.rd, (s.put x.dst f).m id = s.m id) ∧ (∀ d j, y.dst = some d → (s.put x.dst f).c (d + 1000 * j) = s.c (d + 1000 * j)) := by
    intro hy
    refine ⟨fun z hz => ?_, fun id hid => ?_, fun d j hd => ?_⟩
    · rw [put_eq]
      exact ev_put (fun d hd e => h1 d hd (mem_looks (e ▸ hz)))
    · rw [put_eq]
      exact ups_notin _ _ _ (fun hm => h3 id hm hid)
    · rw [put_eq]
      simp only []
      refine bumps_notin _ _ _ (fun hm => ?_)
      obtain ⟨d', j', hd', he⟩ := hnw _ hm
      have l1 : (d : Nat) < 1000 := Nat.lt_of_lt_of_le (okDst_lt hy d hd) hE
      have l2 : (d' : Nat) < 1000 := Nat.lt_of_lt_of_le (okDst_lt hx d' hd') hE
      have : d = d' := by
        have e1 : (d + 1000 * j) % 1000 = d := by rw [Nat.add_mul_mod_self_left]; exact Nat.mod_eq_of_lt l1
        have e2 : (d' + 1000 * j') % 1000 = d' := by rw [Nat.add_mul_mod_self_left]; exact Nat.mod_eq_of_lt l2
        rw [← e1, ← e2, he]
      exact h2 d' hd' (this ▸ hd)
  unfold stp
  rw [wantA_put h1]
  constructor
  · intro h
    obtain ⟨hd, h⟩ := cond_some h
    obtain ⟨a1, a2, a3⟩ := hal hd
    rw [hd]
    simp only [cond_true]
    split at h
    · exact opA_local hO ⟨fun z hz => (a1 z hz).symm, fun i hi => (a2 i hi).symm, fun d j hd => (a3 d j hd).symm⟩ h
    · exact h
    · cases h
  · intro h
    obtain ⟨hd, h⟩ := cond_some h
    obtain ⟨a1, a2, a3⟩ := hal hd
    rw [hd]
    simp only [cond_true]
    split at h
    · exact opA_local hO ⟨a1, a2, a3⟩ h
    · exact h
    · cases h
theorem stp_swap (hO : OrcLaw E) (hE : E.nt ≤ 1000) (hap : x.apart ops y = true) (hcl : clash (fpOf f) (fpOf g) = false) (h1 : stp E ops s x = some f) (h2 : stp E ops (s.put x.dst f) y = some g) :
    stp E ops s y = some g ∧ stp E ops (s.put y.dst g) x = some f ∧ (s.put y.dst g).put x.dst f = (s.put x.dst f).put y.dst g := by
  obtain ⟨a1, a2, a3⟩ := Oper.apart_spec hap
  obtain ⟨c1, c2⟩ := clash_false hcl
  obtain ⟨d1, n1⟩ := stp_nw hO h1
  obtain ⟨d2, n2⟩ := stp_nw hO h2
  have k1 := (stp_over (s := s) hO hE d1 n1 a1 a2 (fun i hi => (c1 i hi).1)).1 h2
  have k2 := (stp_over (s := s) (x := y) (y := x) (f := g) (f' := f) hO hE d2 n2 a3 (fun d hd he => a2 d he hd) (fun i hi => c2 i hi)).2 h1
  refine ⟨k1, k2, ?_⟩
  simp only [put_eq]
  rw [putT_comm _ _ _ (fun d hd he => a2 d he hd), ups_comm _ _ _ (fun i hi hi' => (c1 i hi').2 hi), bumps_comm]
end
end Go.Proofs.YtbakldcbaikgpaaGreatDoor
