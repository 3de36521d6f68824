/- Each operation of the evaluator is one of the machine (sixth part): structs, lists made and grown. Own work, program-independent. -/
import Derived.Test.YtdkebceiljdgjaaSound10
namespace Go.Proofs.Ytdkebceiljdgjaa
open Go.RowKit (Below)

section
variable {P : Program} {E : Env} {W0 : World} {Wr : Nat → Prop} {A A' : Nat → Prop} {ρ ρ' : Rho} {s : AS} {a : Act} {w w' : World} {o : Oper} {f : Eff}

theorem szs_take_set (p : AV) : ∀ (zs : List AV) (i j : Nat) (z : AV), zs[i]? = some z → p.sz = z.sz → AV.szs ((zs.set i p).take j) = AV.szs (zs.take j)
  | [], _, _, _, h, _ => by simp at h
  | q :: zs, 0, j, z, h, hs => by
    simp only [List.getElem?_cons_zero, Option.some.injEq] at h
    subst h
    cases j with
    | zero => rfl
    | succ j => simp only [List.set_cons_zero, List.take_succ_cons, AV.szs, hs]
  | q :: zs, i + 1, j, z, h, hs => by
    cases j with
    | zero => rfl
    | succ j =>
      simp only [List.set_cons_succ, List.take_succ_cons, AV.szs]
      rw [szs_take_set p zs i j z (by simpa using h) hs]

theorem CRs.set {p : AV} {v : Value} (hv : VR A w ρ p v) : ∀ (zs : List AV) (i : Nat) (z : AV) (cs : List Value), CRs A w ρ zs cs → zs[i]? = some z → p.sz = z.sz →
    ∃ pre mid post, cs = pre ++ mid ++ post ∧ pre.length = AV.szs (zs.take i) ∧ mid.length = v.cells.toList.length ∧ CRs A w ρ (zs.set i p) (pre ++ v.cells.toList ++ post)
  | [], _, _, _, _, h, _ => by simp at h
  | q :: zs, 0, z, cs, hc, h, hs => by
    simp only [List.getElem?_cons_zero, Option.some.injEq] at h
    subst h
    simp only [CRs] at hc
    obtain ⟨u, cs', h1, h2, rfl⟩ := hc
    refine ⟨[], u.cells.toList, cs', by simp, rfl, ?_, ?_⟩
    · simp only [Array.length_toList, VR.size _ _ h1, VR.size _ _ hv, hs]
    · simp only [List.set_cons_zero, CRs, List.nil_append]
      exact ⟨v, cs', hv, h2, rfl⟩
  | q :: zs, i + 1, z, cs, hc, h, hs => by
    simp only [CRs] at hc
    obtain ⟨u, cs', h1, h2, rfl⟩ := hc
    obtain ⟨pre, mid, post, g1, g2, g3, g4⟩ := CRs.set hv zs i z cs' h2 (by simpa using h) hs
    refine ⟨u.cells.toList ++ pre, mid, post, by rw [g1]; simp, ?_, g3, ?_⟩
    · simp only [List.length_append, Array.length_toList, VR.size _ _ h1, g2, List.take_succ_cons, AV.szs]
    · simp only [List.set_cons_succ, CRs]
      exact ⟨u, _, h1, g4, by simp⟩

theorem written {cs : List Value} {cs' : Array Value} {pre mid post ys : List Value} {o : Nat} (h1 : cs = pre ++ mid ++ post) (h2 : pre.length = o) (h3 : mid.length = ys.length) (h4 : ∀ j, j < ys.length → cs'[o + j]? = ys[j]?) (h5 : ∀ j, j < o ∨ o + ys.length ≤ j → cs'[j]? = cs[j]?) : cs' = (pre ++ ys ++ post).toArray := by
  obtain ⟨g1, g2, g3, g4⟩ := writes_eq (cs' := pre ++ ys ++ post) h1 h2 h3 rfl
  apply Array.ext_getElem?
  intro j
  refine Eq.trans ?_ (toArray_at _ j).symm
  rcases Nat.lt_or_ge j o with hj | hj
  · rw [h5 j (.inl hj), g4 j (.inl hj)]
  · rcases Nat.lt_or_ge j (o + ys.length) with hj' | hj'
    · obtain ⟨q, rfl⟩ : ∃ q, j = o + q := ⟨j - o, by omega⟩
      rw [h4 q (by omega), g3 q (by omega)]
    · rw [h5 j (.inr hj'), g4 j (.inr hj')]

theorem fill_st (h : SimR W0 Wr E.nt A ρ s a w) {place : Nat → Option (Nat × Nat)} : ∀ (ps : List (Nat × Operand)) (zs vs : List AV) (cs : List Value), (∀ i z, zs[i]? = some z → place i = some (AV.szs (zs.take i), z.sz)) →
    CRs A w ρ zs cs → buildSt s.t zs ps = some vs → ∃ cs', CRs A w ρ vs cs' ∧ Instr.fill place cs.toArray (ps.map fun x => (x.1, a.eval x.2)) = some cs'.toArray
  | [], zs, vs, cs, _, hc, hb => by
    simp only [buildSt, Option.some.injEq] at hb
    subst hb
    exact ⟨cs, hc, rfl⟩
  | (i, x) :: ps, zs, vs, cs, hp, hc, hb => by
    simp only [buildSt] at hb
    split at hb
    case h_2 => cases hb
    rename_i z hz
    obtain ⟨hb1, hb⟩ := cond_some hb
    simp only [Bool.and_eq_true] at hb1
    obtain ⟨hl, hsz⟩ := hb1
    have hsz := nat_beq hsz
    have hx := (h.ev x).vr hl
    obtain ⟨pre, mid, post, g1, g2, g3, g4⟩ := CRs.set hx zs i z cs hc hz hsz
    have hxs := VR.size _ _ hx
    have g3' : mid.length = (a.eval x).cells.size := g3.trans Array.length_toList
    obtain ⟨cs', h1, _, h3, h4⟩ := fill_cons (place := place) (cells := cs.toArray) (v := a.eval x) (rest := ps.map fun x => (x.1, a.eval x.2)) (hp i z hz) (by rw [hxs, hsz]) (by
      rw [List.size_toArray, g1]
      simp only [List.length_append]
      omega)
    have he : cs' = (pre ++ (a.eval x).cells.toList ++ post).toArray := written g1 g2 g3 (fun j hj => by
      rw [Array.length_toList] at hj
      rw [h3 j (by omega), Array.getElem?_toList]) (fun j hj => by
      rw [Array.length_toList] at hj
      exact (h4 j (by omega)).trans (toArray_at _ j))
    obtain ⟨cs2, k1, k2⟩ := fill_st h (place := place) ps (zs.set i (ev s.t x)) vs _ (fun j q hq => by
      rw [szs_take_set _ zs i j z hz hsz]
      by_cases hj : i = j
      · subst hj
        rw [List.getElem?_set_self (List.getElem?_eq_some_iff.1 hz).1] at hq
        simp only [Option.some.injEq] at hq
        rw [hp i z hz, ← hq, hsz]
      · rw [List.getElem?_set_ne hj] at hq
        exact hp j q hq) g4 hb
    refine ⟨cs2, k1, ?_⟩
    simp only [List.map_cons]
    rw [h1, he]
    exact k2

theorem lay_at : ∀ (fs : List (TypeId × Nat)) (zs : List AV) (off i : Nat) (z : AV), Lay P off fs zs → zs[i]? = some z → ∃ fd, fs[i]? = some fd ∧ fd.2 = off + AV.szs (zs.take i) ∧ ∃ i', P.info? fd.1 = some i' ∧ i'.size = z.sz
  | [], [], _, _, _, _, h => by simp at h
  | [], _ :: _, _, _, _, h, _ => h.elim
  | _ :: _, [], _, _, _, h, _ => h.elim
  | fd :: fs, q :: zs, off, 0, z, h, hz => by
    simp only [List.getElem?_cons_zero, Option.some.injEq] at hz
    subst hz
    exact ⟨fd, rfl, by simp [h.1, AV.szs], h.2.1⟩
  | fd :: fs, q :: zs, off, i + 1, z, h, hz => by
    obtain ⟨gd, h1, h2, h3⟩ := lay_at fs zs (off + q.sz) i z h.2.2 (by simpa using hz)
    exact ⟨gd, by simpa using h1, by rw [h2]; simp [AV.szs, Nat.add_assoc], h3⟩

theorem lay_all : ∀ (fs : List (TypeId × Nat)) (zs : List AV) (off : Nat), Lay P off fs zs → ∀ fd ∈ fs, ∃ i, P.info? fd.1 = some i
  | [], _, _, _, fd, hf => by simp at hf
  | _ :: _, [], _, h, _, _ => h.elim
  | gd :: fs, q :: zs, off, h, fd, hf => by
    simp only [List.mem_cons] at hf
    rcases hf with rfl | hf
    · obtain ⟨i, hi, _⟩ := h.2.1; exact ⟨i, hi⟩
    · exact lay_all fs zs _ h.2.2 fd hf

theorem run_places : ∀ (fs : List Field), (∀ fd ∈ fs, ∃ i, P.info? fd.type = some i) →
    (fs.mapM (fun fd => do pure (fd.offset, ← sizeOf fd.type) : Field → Sem (Nat × Nat))).run P w = .ok (fs.map fun fd => (fd.offset, P.cellsOf fd.type)) w
  | [], _ => by simp
  | fd :: fs, h => by
    obtain ⟨i, hi⟩ := h fd (by simp)
    have ih := run_places fs (fun g hg => h g (by simp [hg]))
    simp only [List.mapM_cons, Sem.run_bind, run_sizeOf w hi, Result.andThen_ok, Sem.run_pure, ih, List.map_cons]

theorem sound_build (hT : TabOk P E.ty) {t : TypeId} {ps : Array (Nat × Operand)} (ho : o.op = .build t ps) (h : SimR W0 Wr E.nt A ρ s a w) (hd : okDst E o.dst = true) (hf : opA E s o.dst o.op some = some f) :
    Gives P o a w (After W0 Wr E.nt s a o.dst f) := by
  rw [ho] at hf
  simp only [opA] at hf
  have hparts : ((ps.map fun x => (x.1, a.eval x.2)).toList : List (Nat × Value)) = ps.toList.map fun x => (x.1, a.eval x.2) := by rw [Array.toList_map]
  have hexec : ∀ {v : Value}, (Instr.build t (ps.map fun x => (x.1, a.eval x.2))).run P w = .ok v w → (execOp a.eval o).run P w = .ok (.value v) w := by
    intro v hv
    unfold execOp
    rw [ho]
    simp only [Sem.run_bind]
    rw [show (ps.map fun x : Nat × Operand => match x with | (i, x) => (i, a.eval x)) = ps.map fun x => (x.1, a.eval x.2) from rfl, hv]
    simp
  split at hf
  · rename_i fs sz by' zs cm hte
    split at hf
    case h_2 => cases hf
    rename_i vs hvs
    simp only [Option.some.injEq] at hf
    subst hf
    have ht := hT _ _ hte
    have hu := ht.und
    simp only [UndOk] at hu
    obtain ⟨fa, hu, hmap⟩ := hu
    have hlay := ht.lay fs zs rfl rfl
    obtain ⟨z, hz, hzv⟩ := ht.rZero w
    have hzv := hzv A w ρ
    simp only [VR] at hzv
    obtain ⟨cs, hcs, rfl⟩ := hzv
    obtain ⟨cs', k1, k2⟩ := fill_st h (place := fun i => (fa.toList.map fun fd => (fd.offset, P.cellsOf fd.type)).toArray[i]?) ps.toList zs vs cs (fun i z hz => by
      obtain ⟨fd, h1, h2, i', h3, h4⟩ := lay_at fs zs 0 i z hlay hz
      rw [← hmap, List.getElem?_map] at h1
      simp only [Option.map_eq_some_iff] at h1
      obtain ⟨gd, h5, rfl⟩ := h1
      have : ((fa.toList.map fun fd => (fd.offset, P.cellsOf fd.type)).toArray)[i]? = some (gd.offset, P.cellsOf gd.type) := by
        rw [List.getElem?_toArray, List.getElem?_map, h5]; rfl
      simp only at h2 h3
      rw [this, h2, Nat.zero_add]
      simp [Program.cellsOf, h3, h4]) hcs hvs
    refine Gives.val (hexec (v := .agg cs'.toArray) ?_) (After.val h (okDst_lt hd) (v := .st vs) (x := .agg cs'.toArray) (by simp only [SR, VR]; exact ⟨cs', k1, rfl⟩) rfl rfl rfl)
    unfold Instr.build
    simp only [Sem.run_bind, hz, run_underlying hu, Result.andThen_ok]
    rw [Array.mapM_eq_mapM_toList]
    have hpl := run_places (P := P) (w := w) fa.toList (fun fd hfd => lay_all fs zs 0 hlay (fd.type, fd.offset) (by rw [← hmap]; exact List.mem_map.2 ⟨fd, hfd, rfl⟩))
    have hm : (List.toArray <$> (fa.toList.mapM (fun fd => do pure (fd.offset, ← Go.sizeOf fd.type) : Field → Sem (Nat × Nat)))).run P w = .ok (fa.toList.map fun fd => (fd.offset, P.cellsOf fd.type)).toArray w := by
      rw [map_eq_pure_bind]
      simp only [Sem.run_bind, hpl, Result.andThen_ok, Sem.run_pure]
    rw [hm]
    simp only [Result.andThen_ok, hparts]
    have k2' : Instr.fill (fun i => ((fa.toList.map fun fd => (fd.offset, P.cellsOf fd.type)).toArray)[i]?) (Value.agg cs.toArray).cells (ps.toList.map fun x => (x.1, a.eval x.2)) = some cs'.toArray := k2
    rw [k2']
    rfl
  · rename_i n e sz by' n' k l cm hte
    split at hf
    case h_2 => cases hf
    rename_i te l' hte2 hl'
    obtain ⟨h1, hf⟩ := cond_some hf
    have h1 := nat_beq h1
    simp only [Option.some.injEq] at hf
    subst hf
    have ht := hT _ _ hte
    have hu := ht.und
    simp only [UndOk] at hu
    obtain ⟨z, hz, hzv⟩ := ht.rZero w
    have hzv := hzv A w ρ
    simp only [VR] at hzv
    obtain ⟨hln, rfl⟩ := hzv
    obtain ⟨g1, g2⟩ := fill_ints h (k := k) (place := fun i => some (i * te.size, te.size)) ps.toList l l' (fun i _ => by rw [h1, Nat.mul_one]) hl'
    refine Gives.val (hexec (v := .agg (l'.map (Value.int k)).toArray) ?_) (After.val h (okDst_lt hd) (VR_ints (A := A) (w := w) (ρ := ρ) (g1.trans hln)).sr rfl rfl rfl)
    unfold Instr.build
    simp only [Sem.run_bind, hz, run_underlying hu, Result.andThen_ok, (hT _ _ hte2).rSize, hparts]
    have g2' : Instr.fill (fun i => some (i * te.size, te.size)) (Value.agg (l.map (Value.int k)).toArray).cells (ps.toList.map fun x => (x.1, a.eval x.2)) = some (l'.map (Value.int k)).toArray := g2
    rw [g2']
    rfl
  · cases hf
end
end Go.Proofs.Ytdkebceiljdgjaa
