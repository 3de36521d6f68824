/- Each operation of the evaluator is one of the machine (seventh part): lists made, cut and grown. Own work, program-independent. -/
import Derived.Test.YtdkebceiljdgjaaSound11
namespace Go.Proofs.Ytdkebceiljdgjaa
open Go.RowKit (Below)

section
variable {P : Program} {E : Env} {W0 : World} {Wr : Nat → Prop} {A A' : Nat → Prop} {ρ ρ' : Rho} {s : AS} {a : Act} {w w' : World} {o : Oper} {f : Eff}

theorem SR_wsl {id b n cap m : Nat} (h : ρ id = some (some b, (n, m))) (hc : n ≤ cap) (hm : cap ≤ m) : SR A w ρ (.wsl id) (.slice (some ⟨b, 0, none⟩) n cap) := by
  simp only [SR, VR]
  exact ⟨some b, (n, m), h, .inr ⟨b, cap, rfl, rfl, hc, hm⟩⟩

theorem one_cell (v : Value) (j : Nat) (h : j < 1) : (#[v] : Array Value)[j]? = some v := by
  match j, h with
  | 0, _ => rfl
theorem two_cells (v : Value) (j : Nat) (h : j < 2) : (#[v, v] : Array Value)[j]? = some v := by
  match j, h with
  | 0, _ => rfl
  | 1, _ => rfl

theorem range_cells (z : Array Value) (v : Value) (m n : Nat) (hz : z.size = m) (hm : 0 < m) (hv : ∀ (j : Nat), j < m → z[j]? = some v) : (Array.range n).map (fun i => z[i % z.size]!) = (List.replicate n v).toArray := by
  apply Array.ext_getElem?
  intro j
  refine Eq.trans ?_ (toArray_at _ j).symm
  rw [Array.getElem?_map]
  rcases Nat.lt_or_ge j n with hj | hj
  · have : (Array.range n)[j]? = some j := by simp [hj]
    rw [this, List.getElem?_replicate, if_pos hj]
    have h1 := hv (j % z.size) (by rw [hz]; exact Nat.mod_lt _ hm)
    simp only [Option.map_some]
    congr 1
    rw [getElem!_def, h1]
  · have : (Array.range n)[j]? = none := by simp [hj]
    rw [this, List.getElem?_replicate, if_neg (by omega)]
    rfl

theorem replicate_prs (k : IntKind) : ∀ n : Nat, (List.replicate n ((0 : Int), (0 : Int))).flatMap (fun p => [Value.int k p.1, Value.int k p.2]) = List.replicate (n * 2) (.int k 0)
  | 0 => rfl
  | n + 1 => by
    simp only [List.replicate_succ, List.flatMap_cons, replicate_prs k n, show (n + 1) * 2 = n * 2 + 1 + 1 by omega, List.cons_append, List.nil_append]

/-- The noughts of an element. -/
theorem zero_int {t : TypeId} {te : TE} {k : IntKind} (ht : TEok P t te) (hz : te.zero = .int k 0) (w : World) : ∃ z : Value, (zeroValue t).run P w = .ok z w ∧ z.cells = #[.int k 0] ∧ te.size = 1 := by
  obtain ⟨z, h1, h2⟩ := ht.rZero w
  have h3 := h2 (fun _ => False) w (fun _ => none)
  rw [hz] at h3
  simp only [VR] at h3
  subst h3
  refine ⟨_, h1, rfl, ht.one ?_⟩
  rw [ht.agg, hz]; rfl

theorem zero_pair {t : TypeId} {te : TE} {k : IntKind} (ht : TEok P t te) (hz : te.zero = .st [.int k 0, .int k 0]) (w : World) : ∃ z : Value, (zeroValue t).run P w = .ok z w ∧ z.cells = #[.int k 0, .int k 0] ∧ te.size = 2 := by
  obtain ⟨i, z, h0, h1, h2, h3, h4⟩ := ht.info
  obtain ⟨z', g1, g2⟩ := ht.rZero w
  have h5 := g2 (fun _ => False) w (fun _ => none)
  rw [hz] at h5
  simp only [VR, CRs] at h5
  obtain ⟨_, ⟨_, _, rfl, ⟨_, _, rfl, rfl, rfl⟩, rfl⟩, rfl⟩ := h5
  refine ⟨_, g1, rfl, ?_⟩
  have h6 := ht.zsz
  rw [hz] at h6
  exact h6

theorem sound_buildSlice (hT : TabOk P E.ty) (hE : E.nt ≤ 1000) {t : TypeId} {len : Nat} {ps : Array (Nat × Operand)} (ho : o.op = .buildSlice t len ps) (h : SimR W0 Wr E.nt A ρ s a w) (hd : okDst E o.dst = true)
    (hf : opA E s o.dst o.op some = some f) : Gives P o a w (After W0 Wr E.nt s a o.dst f) := by
  rw [ho] at hf
  simp only [opA] at hf
  have hparts : ((ps.map fun x => (x.1, a.eval x.2)).toList : List (Nat × Value)) = ps.toList.map fun x => (x.1, a.eval x.2) := by rw [Array.toList_map]
  have hexec : ∀ {v : Value} {w' : World}, (Instr.buildSlice t len (ps.map fun x => (x.1, a.eval x.2))).run P w = .ok v w' → (execOp a.eval o).run P w = .ok (.value v) w' := by
    intro v w' hv
    unfold execOp
    rw [ho]
    simp only [Sem.run_bind]
    rw [show (ps.map fun x : Nat × Operand => match x with | (i, x) => (i, a.eval x)) = ps.map fun x => (x.1, a.eval x.2) from rfl, hv]
    simp
  split at hf
  case h_2 => cases hf
  rename_i e _ _ _ _ hte
  have hu := (hT _ _ hte).und
  simp only [UndOk] at hu
  split at hf
  · rename_i k _ _ k' _ hte2
    have hf2 := cond_some hf; clear hf; obtain ⟨hc, hf⟩ := hf2
    simp only [Bool.and_eq_true, decide_eq_true_eq] at hc
    obtain ⟨rfl, hlen⟩ := hc
    have hlen := Nat.le_of_ble_eq_true hlen
    split at hf
    case h_2 => cases hf
    rename_i l hl
    split at hf
    case h_2 => cases hf
    rename_i f' hn
    simp only [Option.some.injEq] at hf
    subst hf
    obtain ⟨d, hdst, rfl⟩ := newE_some hn
    have hdn := okDst_lt hd d hdst
    have he := hT _ _ hte2
    obtain ⟨z, hz, hzc, hsz⟩ := zero_int he rfl w
    dsimp only at hsz
    subst hsz
    obtain ⟨g1, g2⟩ := fill_ints h (k := k) (place := fun i => some (i * 1, 1)) ps.toList (List.replicate len 0) l (fun i _ => by rw [Nat.mul_one]) hl
    rw [List.length_replicate] at g1
    rw [hdst]
    refine Gives.val (hexec (v := .slice (some ⟨w.heap.size, 0, none⟩) len len) (w' := pushed w (l.map (Value.int k)).toArray e) ?_) ?_
    · unfold Instr.buildSlice
      have hz0 : (List.replicate len (0 : Int)).map (Value.int k) = List.replicate len (.int k 0) := by simp
      have hcells : ∀ zz : Array Value, (len * 1 = 0 → zz = #[]) → (len * 1 ≠ 0 → zz = #[.int k 0]) → (Array.range (len * 1)).map (fun i => zz[i % zz.size]!) = ((List.replicate len (0 : Int)).map (Value.int k)).toArray := by
        intro zz h0 h1
        rw [hz0, Nat.mul_one]
        by_cases hl0 : len = 0
        · subst hl0; simp
        · rw [h1 (by omega)]
          exact range_cells _ _ 1 len rfl (by omega) (one_cell _)
      simp only [Sem.run_bind, run_underlying hu, Result.andThen_ok, he.rSize]
      rw [if_neg (by omega)]
      by_cases hl0 : len * 1 = 0
      · rw [if_pos hl0]
        simp only [Sem.run_bind, Sem.run_pure, Result.andThen_ok, hparts]
        rw [hcells #[] (fun _ => rfl) (fun hh => absurd hl0 hh), g2]
        rfl
      · rw [if_neg hl0]
        simp only [Sem.run_bind, Sem.run_pure, Result.andThen_ok, hparts, hz]
        rw [hcells z.cells (fun hh => absurd hh hl0) (fun _ => hzc), g2]
        rfl
    · exact After.new (mk := .wsl) h hE hdn (pushed_more _ _) (h.alivePushed (pushed_more _ _)) (Nat.le_refl _) (pushed_at _ _) (VR_ints (A := A) (ρ := ρ) g1) (fun _ _ h => h) (m := len) (by simp [AV.esz, g1]) (fun ρ' hρ' => SR_wsl hρ' (Nat.le_refl _) (Nat.le_refl _))
  · rename_i fs _ _ k k' _ hte2
    have hf2 := cond_some hf; clear hf; obtain ⟨hc, hf⟩ := hf2
    simp only [Bool.and_eq_true, decide_eq_true_eq] at hc
    obtain ⟨rfl, hlen⟩ := hc
    have hlen := Nat.le_of_ble_eq_true hlen
    split at hf
    case h_2 => cases hf
    rename_i l hl
    split at hf
    case h_2 => cases hf
    rename_i f' hn
    simp only [Option.some.injEq] at hf
    subst hf
    obtain ⟨d, hdst, rfl⟩ := newE_some hn
    have hdn := okDst_lt hd d hdst
    have he := hT _ _ hte2
    obtain ⟨z, hz, hzc, hsz⟩ := zero_pair he rfl w
    dsimp only at hsz
    subst hsz
    obtain ⟨g1, g2⟩ := fill_prs h (k := k) (place := fun i => some (i * 2, 2)) ps.toList (List.replicate len (0, 0)) l (fun i _ => rfl) hl
    rw [List.length_replicate] at g1
    rw [hdst]
    refine Gives.val (hexec (v := .slice (some ⟨w.heap.size, 0, none⟩) len len) (w' := pushed w (l.flatMap fun p => [Value.int k p.1, Value.int k p.2]).toArray e) ?_) ?_
    · unfold Instr.buildSlice
      have hcells : ∀ zz : Array Value, (len * 2 = 0 → zz = #[]) → (len * 2 ≠ 0 → zz = #[.int k 0, .int k 0]) → (Array.range (len * 2)).map (fun i => zz[i % zz.size]!) = ((List.replicate len ((0 : Int), (0 : Int))).flatMap fun p => [Value.int k p.1, Value.int k p.2]).toArray := by
        intro zz h0 h1
        rw [replicate_prs]
        by_cases hl0 : len = 0
        · subst hl0; simp
        · rw [h1 (by omega)]
          exact range_cells _ _ 2 (len * 2) rfl (by omega) (two_cells _)
      simp only [Sem.run_bind, run_underlying hu, Result.andThen_ok, he.rSize]
      rw [if_neg (by omega)]
      by_cases hl0 : len * 2 = 0
      · rw [if_pos hl0]
        simp only [Sem.run_bind, Sem.run_pure, Result.andThen_ok, hparts]
        rw [hcells #[] (fun _ => rfl) (fun hh => absurd hl0 hh), g2]
        rfl
      · rw [if_neg hl0]
        simp only [Sem.run_bind, Sem.run_pure, Result.andThen_ok, hparts, hz]
        rw [hcells z.cells (fun hh => absurd hh hl0) (fun _ => hzc), g2]
        rfl
    · exact After.new (mk := .wsl) h hE hdn (pushed_more _ _) (h.alivePushed (pushed_more _ _)) (Nat.le_refl _) (pushed_at _ _) (VR_prs (A := A) (ρ := ρ) g1) (fun _ _ h => h) (m := len) (by have := flatMap_len (k := k) l; rw [List.size_toArray]; simp only [AV.esz]; omega) (fun ρ' hρ' => SR_wsl hρ' (Nat.le_refl _) (Nat.le_refl _))
  · cases hf

theorem wrap_id {n : Int} (h0 : 0 ≤ n) (h : n < 9223372036854775808) : IntKind.i64.wrap n = n := by
  unfold IntKind.wrap IntKind.bits IntKind.signed
  simp only [Bool.true_and, decide_eq_true_eq]
  split <;> omega

/-- What make does, where it has room. -/
theorem run_make {t e : TypeId} {te : TE} {n : Int} {k1 k2 : IntKind} {v : Value} {m : Nat} (hu : P.underlying t = some (.slice e)) (ht : TEok P e te) (h0 : 0 ≤ n) (h1 : (te.bytes : Int) * n ≤ 140737488355328) (h2 : n < 9223372036854775808)
    (hz : ∃ z : Value, (zeroValue e).run P w = .ok z w ∧ z.cells.size = m ∧ 0 < m ∧ (∀ (j : Nat), j < m → z.cells[j]? = some v)) (hs : te.size = m) :
    (Instr.makeSlice t (.int k1 n) (.int k2 n)).run P w = .ok (.slice (some ⟨w.heap.size, 0, none⟩) n.toNat n.toNat) (pushed w (List.replicate (n.toNat * m) v).toArray e) := by
  obtain ⟨z, hz, hzs, hm, hzv⟩ := hz
  obtain ⟨i, hi, hib, his, hpi⟩ := ht.rInfo w
  have hb : (i.bytes : Int) = te.bytes := by rw [hib]
  have hw := wrap_id h0 h2
  have hbn : (i.bytes : Int) * n ≤ 140737488355328 := by rw [hb]; exact h1
  have e1 : ¬ ((decide (n < 0) || decide ((i.bytes : Int) * n > 2 ^ 48) || decide (n < 0) || decide (n > n)) = true) := by
    simp only [Bool.or_eq_true, decide_eq_true_eq, not_or]
    refine ⟨⟨⟨by omega, ?_⟩, by omega⟩, by omega⟩
    have : (2 : Int) ^ 48 = 281474976710656 := by decide
    omega
  have e2 : n.toNat * i.bytes ≤ 2 ^ 47 := by
    have e3 : ((n.toNat * i.bytes : Nat) : Int) = (i.bytes : Int) * n := by
      rw [Int.natCast_mul, Int.toNat_of_nonneg h0, Int.mul_comm]
    have : (2 : Nat) ^ 47 = 140737488355328 := by decide
    omega
  have hroom : (askRoom (n.toNat * i.bytes)).run P w = .ok () w := by
    unfold askRoom
    rw [if_neg (by unfold roomBytes; omega)]
    rfl
  have hcells : ∀ zz : Array Value, (n.toNat * m = 0 → zz = #[]) → (n.toNat * m ≠ 0 → zz = z.cells) → (Array.range (n.toNat * m)).map (fun i => zz[i % zz.size]!) = (List.replicate (n.toNat * m) v).toArray := by
    intro zz g0 g1
    by_cases hn : n.toNat * m = 0
    · rw [hn]; simp
    · rw [g1 hn]
      exact range_cells _ _ m _ hzs hm hzv
  unfold Instr.makeSlice
  simp only [Sem.run_bind, run_underlying hu, Result.andThen_ok, asInt, asIntOf, Sem.run_pure, hi, hw]
  rw [if_neg (by simpa using e1)]
  simp only [Sem.run_bind, hroom, Result.andThen_ok, ht.rSize, hs]
  by_cases hn : n.toNat * m = 0
  · rw [if_pos hn]
    simp only [Sem.run_bind, Sem.run_pure, Result.andThen_ok]
    rw [hcells #[] (fun _ => rfl) (fun hh => absurd hn hh)]
    rfl
  · rw [if_neg hn]
    simp only [Sem.run_bind, Sem.run_pure, Result.andThen_ok, hz]
    rw [hcells z.cells (fun hh => absurd hh hn) (fun _ => rfl)]
    rfl

theorem sound_makeSlice (hT : TabOk P E.ty) (hE : E.nt ≤ 1000) {t : TypeId} {x y : Operand} (ho : o.op = .makeSlice t x y) (h : SimR W0 Wr E.nt A ρ s a w) (hd : okDst E o.dst = true)
    (hf : opA E s o.dst o.op some = some f) : Gives P o a w (After W0 Wr E.nt s a o.dst f) := by
  rw [ho] at hf
  simp only [opA] at hf
  split at hf
  case h_2 => cases hf
  rename_i e _ _ _ _ k1 n k2 n' hte hvx hvy
  have hx := h.ev x
  have hy := h.ev y
  rw [hvx] at hx
  rw [hvy] at hy
  have hx := hx.int
  have hy := hy.int
  have hu := (hT _ _ hte).und
  simp only [UndOk] at hu
  split at hf
  · rename_i k _ by' k' _ hte2
    have hf2 := chk_some hf; clear hf; obtain ⟨hc, hf⟩ := hf2
    simp only [Bool.and_eq_true, decide_eq_true_eq, beq_iff_eq] at hc
    obtain ⟨⟨⟨⟨rfl, rfl⟩, h0⟩, h1⟩, h2⟩ := hc
    split at hf
    case h_2 => cases hf
    rename_i f' hn
    simp only [Option.some.injEq] at hf
    subst hf
    obtain ⟨d, hdst, rfl⟩ := newE_some hn
    have hdn := okDst_lt hd d hdst
    have he := hT _ _ hte2
    obtain ⟨z, hz, hzc, hsz⟩ := zero_int he rfl w
    have hrun := run_make (k1 := k1) (k2 := k2) (v := .int k 0) (m := 1) hu he h0 h1 h2 ⟨z, hz, by rw [hzc]; rfl, by omega, fun j hj => by rw [hzc]; exact one_cell _ j hj⟩ hsz
    rw [hdst]
    refine Gives.val (x := .slice (some ⟨w.heap.size, 0, none⟩) n.toNat n.toNat) (w' := pushed w (List.replicate (n.toNat * 1) (.int k 0)).toArray e) ?_ ?_
    · unfold execOp
      rw [ho]
      simp only [Sem.run_bind, hx, hy, hrun, Result.andThen_ok, Sem.run_pure]
    · refine After.new (mk := .wsl) (u := .agg ((List.replicate n.toNat (0 : Int)).map (Value.int k)).toArray) h hE hdn (pushed_more _ _) (h.alivePushed (pushed_more _ _)) (Nat.le_refl _) (pushed_at _ _) (VR_ints (A := A) (ρ := ρ) (by simp)) ?_ (m := n.toNat) (by simp [AV.esz]) (fun ρ' hρ' => SR_wsl hρ' (Nat.le_refl _) (Nat.le_refl _))
      intro j q hq
      simpa [Value.cells] using hq
  · rename_i fs _ by' k k' _ hte2
    have hf2 := chk_some hf; clear hf; obtain ⟨hc, hf⟩ := hf2
    simp only [Bool.and_eq_true, decide_eq_true_eq, beq_iff_eq] at hc
    obtain ⟨⟨⟨⟨rfl, rfl⟩, h0⟩, h1⟩, h2⟩ := hc
    split at hf
    case h_2 => cases hf
    rename_i f' hn
    simp only [Option.some.injEq] at hf
    subst hf
    obtain ⟨d, hdst, rfl⟩ := newE_some hn
    have hdn := okDst_lt hd d hdst
    have he := hT _ _ hte2
    obtain ⟨z, hz, hzc, hsz⟩ := zero_pair he rfl w
    have hrun := run_make (k1 := k1) (k2 := k2) (v := .int k 0) (m := 2) hu he h0 h1 h2 ⟨z, hz, by rw [hzc]; rfl, by omega, fun j hj => by rw [hzc]; exact two_cells _ j hj⟩ hsz
    rw [hdst]
    refine Gives.val (x := .slice (some ⟨w.heap.size, 0, none⟩) n.toNat n.toNat) (w' := pushed w (List.replicate (n.toNat * 2) (.int k 0)).toArray e) ?_ ?_
    · unfold execOp
      rw [ho]
      simp only [Sem.run_bind, hx, hy, hrun, Result.andThen_ok, Sem.run_pure]
    · refine After.new (mk := .wsl) (u := .agg ((List.replicate n.toNat ((0 : Int), (0 : Int))).flatMap fun p => [Value.int k p.1, Value.int k p.2]).toArray) h hE hdn (pushed_more _ _) (h.alivePushed (pushed_more _ _)) (Nat.le_refl _) (pushed_at _ _) (VR_prs (A := A) (ρ := ρ) (by simp)) ?_ (m := n.toNat) (by simp [AV.esz]) (fun ρ' hρ' => SR_wsl hρ' (Nat.le_refl _) (Nat.le_refl _))
      intro j q hq
      rw [replicate_prs] at hq
      exact hq
  · cases hf

end
end Go.Proofs.Ytdkebceiljdgjaa
