/- Each operation of the evaluator is one of the machine (second part): numbers, comparisons, places. Own work, program-independent. -/
import Derived.Test.YtdkebceiljdgjaaSound6
import Derived.ChangeKeysEq
import Derived.Laws.StructEq
namespace Go.Proofs.Ytdkebceiljdgjaa
open Go.RowKit (Below)

section
variable {P : Program} {E : Env} {W0 : World} {Wr : Nat → Prop} {A A' : Nat → Prop} {ρ ρ' : Rho} {s : AS} {a : Act} {w w' : World} {o : Oper} {f : Eff}

theorem run_part_single {t : TypeId} {te : TE} (ht : TEok P t te) {cs : Array Value} {off : Nat} {v : Value} (h : ∀ (j : Nat), j < v.cells.size → cs[off + j]? = v.cells[j]?) (hs : v.cells.size = te.size)
    (hc : v = .agg v.cells ∧ isAgg te.td = true ∨ v.cells = #[v] ∧ isAgg te.td = false) : (part t cs off).run P w = .ok v w := by
  unfold part
  rcases hc with ⟨h1, h2⟩ | ⟨h1, h2⟩
  · simp only [Sem.run_bind, ht.rAgg, h2, Result.andThen_ok, if_true, ht.rSize, Sem.run_pure]
    congr 1
    rw [h1]
    congr 1
    apply Array.ext_getElem?
    intro j
    rw [Array.getElem?_extract]
    rcases Nat.lt_or_ge j te.size with hj | hj
    · have h3 := h j (by omega)
      rw [Array.getElem?_eq_getElem (show j < v.cells.size by omega)] at h3
      have h4 := (Array.getElem?_eq_some_iff.1 h3).1
      rw [if_pos (by omega)]
      exact h j (by omega)
    · rw [if_neg (by omega), Array.getElem?_eq_none (by omega)]
  · simp only [Sem.run_bind, ht.rAgg, h2, Result.andThen_ok, Bool.false_eq_true, if_false]
    have := h 0 (by rw [h1]; simp)
    rw [h1] at this
    simp only [Nat.add_zero] at this
    simp [this]

theorem eqItems_ints (k : IntKind) {e : TypeId} {te : TE} (ht : TEok P e te) {kk : IntKind} (htd : te.td = .int kk) (D : Nat) (l l' : List Int) (hl : l.length = l'.length) (c : Nat) (hc : c = 1) : ∀ (m j : Nat), j + m = l.length →
    (Op.eqItems (D + 1) e c (l.map (Value.int k)).toArray (l'.map (Value.int k)).toArray (List.range' j m)).run P w = .ok (decide (l.drop j = l'.drop j)) w
  | 0, j, hj => by
    subst hc
    rw [List.drop_of_length_le (by omega), List.drop_of_length_le (by omega)]
    simp [Op.eqItems]
  | m + 1, j, hj => by
    subst hc
    have hu : P.underlying e = some (.int kk) := by have := ht.und; rw [htd] at this; exact this
    have h1 : ∀ (q : List Int), q.length = l.length → (part e (q.map (Value.int k)).toArray (j * 1)).run P w = .ok (.int k (q.getD j 0)) w := by
      intro q hq
      refine run_part_single ht (fun i hi => ?_) (by rw [ht.one (by rw [htd]; rfl)]; rfl) (.inr ⟨rfl, by rw [htd]; rfl⟩)
      simp only [Value.cells, List.size_toArray, List.length_cons, List.length_nil] at hi
      obtain rfl : i = 0 := by omega
      rw [Nat.mul_one, Nat.add_zero, List.getElem?_toArray]
      exact getD_map_int q j (by omega)
    rw [List.range'_succ]
    have hjl : j < l.length := by omega
    have hjl' : j < l'.length := by omega
    simp only [Op.eqItems, Sem.run_bind, h1 l rfl, h1 l' hl.symm, Result.andThen_ok, run_equalIn_int w D e k kk _ _ hu]
    rw [List.drop_eq_getElem_cons hjl, List.drop_eq_getElem_cons hjl']
    have e1 : l.getD j 0 = l[j] := by simp [List.getD, hjl]
    have e2 : l'.getD j 0 = l'[j] := by simp [List.getD, hjl']
    rw [e1, e2]
    by_cases he : l[j] = l'[j]
    · rw [he]
      simp only [beq_self_eq_true, Bool.not_true, Bool.false_eq_true, if_false, List.cons.injEq, true_and]
      exact eqItems_ints k ht htd D l l' hl 1 rfl m (j + 1) (by omega)
    · have h3 : (l[j] == l'[j]) = false := by simpa using he
      rw [decide_eq_false (fun h => he (List.cons.inj h).1), h3]
      rfl

theorem eqFs_sound {tab : List (TypeId × TE)} (hT : TabOk P tab) {g : TypeId → AV → AV → Option Bool} {D : Nat}
    (hg : ∀ t p q r x y, g t p q = some r → VR A w ρ p x → VR A w ρ q y → (Op.equalIn D t x y).run P w = .ok r w) (xs ys : Array Value) :
    ∀ (fl : List Field) (off : Nat) (fs : List (TypeId × Nat)) (ps qs : List AV) (r : Bool), eqFs tab g off fs ps qs = some r → fl.map (fun f => (f.type, f.offset)) = fs → (∀ f ∈ fl, f.name ≠ "_") →
      (∃ cs, CRs A w ρ ps cs ∧ ∀ (j : Nat) x, cs[j]? = some x → xs[off + j]? = some x) → (∃ cs, CRs A w ρ qs cs ∧ ∀ (j : Nat) x, cs[j]? = some x → ys[off + j]? = some x) →
      (Op.eqFields D xs ys fl).run P w = .ok r w
  | [], off, fs, ps, qs, r, h, hm, _, _, _ => by
    simp only [List.map_nil] at hm
    subst hm
    cases ps <;> cases qs <;> simp only [eqFs] at h <;> try (cases h; done)
    simp only [Option.some.injEq] at h
    subst h
    simp [Op.eqFields]
  | fd :: fl, off, fs, ps, qs, r, h, hm, hn, hx, hy => by
    simp only [List.map_cons] at hm
    subst hm
    cases ps with
    | nil => cases qs <;> simp [eqFs] at h
    | cons p ps =>
      cases qs with
      | nil => simp [eqFs] at h
      | cons q qs =>
        simp only [eqFs] at h
        split at h
        case h_2 => cases h
        rename_i te hte
        obtain ⟨hc, h⟩ := cond_some h
        simp only [Bool.and_eq_true, beq_iff_eq] at hc
        obtain ⟨⟨⟨⟨ho, hp⟩, hq⟩, hpc⟩, hqc⟩ := hc
        have ho := nat_beq ho
        have hp := nat_beq hp
        have hq := nat_beq hq
        split at h
        case h_2 => cases h
        rename_i b1 hb1
        split at h
        case h_2 => cases h
        rename_i b2 hb2
        simp only [Option.some.injEq] at h
        subst h
        have ht := hT _ _ hte
        obtain ⟨cx, hcx, hx⟩ := hx
        obtain ⟨cy, hcy, hy⟩ := hy
        simp only [CRs] at hcx hcy
        obtain ⟨vx, cx', vx1, hcx', rfl⟩ := hcx
        obtain ⟨vy, cy', vy1, hcy', rfl⟩ := hcy
        have sx := VR.size _ _ vx1
        have sy := VR.size _ _ vy1
        have part1 : ∀ (zs : Array Value) (p : AV) (v : Value) (c' : List Value), VR A w ρ p v → p.sz = te.size → p.comp = isAgg te.td → (∀ (j : Nat) x, (v.cells.toList ++ c')[j]? = some x → zs[off + j]? = some x) → (part fd.type zs fd.offset).run P w = .ok v w := by
          intro zs p v c' hv hs hcp hz
          refine run_part_single ht (fun j hj => ?_) ((VR.size _ _ hv).trans hs) ?_
          · rw [Array.getElem?_eq_getElem hj, ho]
            refine hz j _ ?_
            rw [List.getElem?_append_left (by simpa using hj)]
            simp [hj]
          · cases hpp : p.comp with
            | true => exact .inl ⟨VR.comp hv hpp, by rw [← hcp, hpp]⟩
            | false => exact .inr ⟨VR.single hv hpp, by rw [← hcp, hpp]⟩
        have rest : ∀ (zs : Array Value) (v : Value) (c' : List Value), v.cells.size = te.size → (∀ (j : Nat) x, (v.cells.toList ++ c')[j]? = some x → zs[off + j]? = some x) → (∀ (j : Nat) x, c'[j]? = some x → zs[off + te.size + j]? = some x) := by
          intro zs v c' hs hz j x hj
          rw [Nat.add_assoc]
          refine hz _ _ ?_
          rw [List.getElem?_append_right (by simp [hs])]
          rw [← hj]
          congr 1
          simp [hs]
        have ih := eqFs_sound hT hg xs ys fl (off + te.size) _ ps qs b2 hb2 rfl (fun f hf => hn f (by simp [hf])) ⟨cx', hcx', rest xs vx cx' (sx.trans hp) hx⟩ ⟨cy', hcy', rest ys vy cy' (sy.trans hq) hy⟩
        simp only [Op.eqFields, hn fd (by simp), ne_eq, not_false_eq_true, if_true, Sem.run_bind, part1 xs p vx cx' vx1 hp hpc hx, part1 ys q vy cy' vy1 hq hqc hy, Result.andThen_ok, hg _ _ _ _ _ _ hb1 vx1 vy1]
        cases b1
        · simp
        · simpa using ih

theorem eqT_sound {tab : List (TypeId × TE)} (hT : TabOk P tab) : ∀ (d : Nat) (D : Nat) (t : TypeId) (p q : AV) (r : Bool) (x y : Value), eqT tab d t p q = some r → VR A w ρ p x → VR A w ρ q y → (Op.equalIn (D + 1 + d) t x y).run P w = .ok r w
  | 0, D, t, p, q, r, x, y, h, _, _ => by simp [eqT] at h
  | d + 1, D, t, p, q, r, x, y, h, hx, hy => by
    simp only [eqT] at h
    split at h
    · cases h
    rename_i te hte
    have ht := hT _ _ hte
    have hu := ht.und
    split at h
    · rename_i htd
      rw [htd] at hu
      simp only [VR] at hx hy
      subst hx hy
      simp only [Option.some.injEq] at h
      subst h
      exact run_equalIn_bool' w (D + 1 + d) t _ _ hu
    · rename_i htd
      rw [htd] at hu
      simp only [VR] at hx hy
      subst hx hy
      obtain ⟨hk, h⟩ := cond_some h
      simp only [Option.some.injEq] at h
      simp only [decide_eq_true_eq] at hk
      subst h hk
      exact run_equalIn_int w (D + 1 + d) t _ _ _ _ hu
    · rename_i n e n1 k l n2 k' l' htd
      rw [htd] at hu
      simp only [UndOk] at hu
      split at h
      · rename_i kk by' z cm hte2
        obtain ⟨hc, hh⟩ := cond_some h
        clear h
        simp only [Bool.and_eq_true, decide_eq_true_eq] at hc
        obtain ⟨⟨h1, h2⟩, hkk⟩ := hc
        have h1 := nat_beq h1
        have h2 := nat_beq h2
        subst hkk h1 h2
        simp only [Option.some.injEq] at hh
        subst hh
        simp only [VR] at hx hy
        obtain ⟨hl, rfl⟩ := hx
        obtain ⟨hl', rfl⟩ := hy
        have he := hT _ _ hte2
        obtain ⟨i, zz, hi, hs, _⟩ := he.info
        rw [show D + 1 + (d + 1) = (D + 1 + d) + 1 by omega, run_equalIn_array w (D + 1 + d) _ _ hu hi, List.range_eq_range']
        have h3 := eqItems_ints (w := w) k he rfl (D + d) l l' (by omega) (P.cellsOf e) (by simp [Program.cellsOf, hi, hs]) n 0 (by omega)
        rw [show D + 1 + d = D + d + 1 by omega]
        simpa using h3
      · cases h
    · rename_i fs ps qs htd
      obtain ⟨hcm, h⟩ := cond_some h
      rw [htd] at hu
      simp only [UndOk] at hu
      obtain ⟨fa, hu, hmap⟩ := hu
      simp only [VR] at hx hy
      obtain ⟨cx, hcx, rfl⟩ := hx
      obtain ⟨cy, hcy, rfl⟩ := hy
      obtain ⟨_, hst, hnm⟩ := ht.cmp hcm
      have hfo : P.fieldsOf t = fa := by simp [Program.fieldsOf, hu]
      rw [show D + 1 + (d + 1) = (D + 1 + d) + 1 by omega, run_equalIn_agg w (D + 1 + d) t _ _ (by rw [hfo]; exact hu) hst, hfo]
      exact eqFs_sound hT (fun t p q r x y h1 h2 h3 => eqT_sound hT d D t p q r x y h1 h2 h3) _ _ fa.toList 0 fs ps qs r h hmap (hnm fa hu)
        ⟨cx, hcx, fun j x hj => by simpa using hj⟩ ⟨cy, hcy, fun j x hj => by simpa using hj⟩
    · rename_i htd
      rw [htd] at hu
      simp only [UndOk] at hu
      obtain ⟨ms, hu⟩ := hu
      simp only [VR] at hx hy
      obtain ⟨z, _, rfl⟩ := hy
      subst hx
      simp only [Option.some.injEq] at h
      subst h
      rw [show D + 1 + (d + 1) = (D + 1 + d) + 1 by omega]
      simp [Op.equalIn, run_underlying hu]
    · rename_i htd
      rw [htd] at hu
      simp only [UndOk] at hu
      obtain ⟨ms, hu⟩ := hu
      simp only [VR] at hx hy
      obtain ⟨z, _, rfl⟩ := hx
      subst hy
      simp only [Option.some.injEq] at h
      subst h
      rw [show D + 1 + (d + 1) = (D + 1 + d) + 1 by omega]
      simp [Op.equalIn, run_underlying hu]
    · cases h
end
end Go.Proofs.Ytdkebceiljdgjaa
