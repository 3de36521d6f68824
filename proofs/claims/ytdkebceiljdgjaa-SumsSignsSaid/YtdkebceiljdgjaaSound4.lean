/- When a state of the evaluator stands for a state of the machine; types; memory. Own work, program-independent. -/
import Derived.Test.YtdkebceiljdgjaaSound3
namespace Go.Proofs.Ytdkebceiljdgjaa
open Go.RowKit (Below)

/-- Since the call began: old memory stays; what may be read is new, or was handed over. -/
structure FrW (Wr : Nat → Prop) (w : World) (A : Nat → Prop) (w' : World) : Prop where
  os : w'.os = w.os
  tape : w'.tape = w.tape
  output : w'.output = w.output
  size : w.heap.size ≤ w'.heap.size
  block : ∀ k, k < w.heap.size → w'.heap[k]? = w.heap[k]?
  tr : ∀ b, A b → w.heap.size ≤ b ∨ Wr b

theorem FrW.refl (Wr : Nat → Prop) (w : World) : FrW Wr w Wr w := ⟨rfl, rfl, rfl, Nat.le_refl _, fun _ _ => rfl, fun _ h => .inr h⟩


/-- w' is w with more blocks, and some draws. -/
structure More (w w' : World) : Prop where
  os : w'.os = w.os
  tape : w'.tape = w.tape
  output : w'.output = w.output
  size : w.heap.size ≤ w'.heap.size
  block : ∀ k, k < w.heap.size → w'.heap[k]? = w.heap[k]?

theorem More.of_below {w w' : World} (h : Below w.heap.size w w') : More w w' := ⟨h.os, h.tape, h.output, h.size, h.block⟩
theorem More.refl (w : World) : More w w := ⟨rfl, rfl, rfl, Nat.le_refl _, fun _ _ => rfl⟩

/-- What a block of the evaluator's memory stands for. -/
def BR (A : Nat → Prop) (w : World) (ρ : Rho) (id : Nat) (blk : Blk) : Prop :=
  ∃ ob u m, ρ id = some (ob, (blk.c.cnt, m)) ∧ VR A w ρ blk.c u ∧
    match ob with
    | none => u.cells.size = 0
    | some b => ∃ cs fr, w.heap[b]? = some (.cells cs blk.e fr) ∧ (∀ (j : Nat) x, u.cells[j]? = some x → (cs : Array Value)[j]? = some x) ∧ (blk.own = true → fr = (0, 0)) ∧ m * blk.c.esz ≤ cs.size

structure SimR (W0 : World) (Wr : Nat → Prop) (nt : Nat) (A : Nat → Prop) (ρ : Rho) (s : AS) (a : Act) (w : World) : Prop where
  dfr : a.defers = []
  tsz : a.tmps.size = nt
  slot : ∀ j, SR A w ρ (s.t j) (a.tmps.getD j undef)
  mem : ∀ id blk, s.m id = some blk → BR A w ρ id blk
  inj : ∀ id id' blk blk' b n n', s.m id = some blk → s.m id' = some blk' → id ≠ id' → blk.own = true → ρ id = some (some b, n) → ρ id' = some (some b, n') → False
  own : ∀ id blk b n, s.m id = some blk → blk.own = true → ρ id = some (some b, n) → W0.heap.size ≤ b ∧ ¬ A b
  alive : ∀ b, A b → b < w.heap.size
  fresh : ∀ d v, d < 9000 → s.c d ≤ v → ρ (mkId d v) = none
  fr : FrW Wr W0 A w

def UndOk (P : Program) (t : TypeId) : TD → Prop
  | .int k => P.underlying t = some (.int k)
  | .bool => P.underlying t = some .bool
  | .slice e => P.underlying t = some (.slice e)
  | .arr n e => P.underlying t = some (.array n e)
  | .struct fs => ∃ a, P.underlying t = some (.struct a) ∧ a.toList.map (fun f => (f.type, f.offset)) = fs
  | .iface => ∃ ms, P.underlying t = some (.interface ms)
  | .str => P.underlying t = some .string
  | .other => ∃ d, P.underlying t = some d ∧ (match d with | .struct _ | .array _ _ | .interface _ => False | _ => True)

/-- The fields of a struct lie one behind the other. -/
def Lay (P : Program) : Nat → List (TypeId × Nat) → List AV → Prop
  | _, [], [] => True
  | off, f :: fs, z :: zs => f.2 = off ∧ (∃ i, P.info? f.1 = some i ∧ i.size = z.sz) ∧ Lay P (off + z.sz) fs zs
  | _, _, _ => False

structure TEok (P : Program) (t : TypeId) (te : TE) : Prop where
  info : ∃ i z, P.info? t = some i ∧ i.size = te.size ∧ i.bytes = te.bytes ∧ i.zero = some z ∧ ∀ A w ρ, VR A w ρ te.zero z
  und : UndOk P t te.td
  one : isAgg te.td = false → te.size = 1
  zsz : te.size = te.zero.sz
  agg : isAgg te.td = te.zero.comp
  lay : ∀ fs zs, te.td = .struct fs → te.zero = .st zs → Lay P 0 fs zs
  cmp : te.cmp = true → P.eqGuardType P.depth t = false ∧ P.stoodInHeld t = false ∧ ∀ a, P.underlying t = some (.struct a) → ∀ f ∈ a.toList, f.name ≠ "_"

def TabOk (P : Program) (tab : List (TypeId × TE)) : Prop := ∀ t te, lk tab t = some te → TEok P t te

section
variable {P : Program} {A A' : Nat → Prop} {w w' : World} {ρ ρ' : Rho} {t : TypeId} {te : TE}

theorem TEok.rAgg (h : TEok P t te) (w : World) : (Go.isAgg t).run P w = .ok (isAgg te.td) w := by
  have hu := h.und
  unfold Go.isAgg
  cases hd : te.td <;> rw [hd] at hu <;> simp only [UndOk] at hu
  case struct fs => obtain ⟨a, hu, _⟩ := hu; simp [run_underlying hu, Proofs.Ytdkebceiljdgjaa.isAgg]
  case iface => obtain ⟨a, hu⟩ := hu; simp [run_underlying hu, Proofs.Ytdkebceiljdgjaa.isAgg]
  case other =>
    obtain ⟨d, hu, hd⟩ := hu
    cases d <;> simp only [] at hd <;> simp [run_underlying hu, Proofs.Ytdkebceiljdgjaa.isAgg]
  all_goals simp [run_underlying hu, Proofs.Ytdkebceiljdgjaa.isAgg]

theorem TEok.rSize (h : TEok P t te) (w : World) : (Go.sizeOf t).run P w = .ok te.size w := by
  obtain ⟨i, z, hi, hs, _⟩ := h.info
  unfold Go.sizeOf
  simp [run_typeInfo w hi, hs]

theorem TEok.rInfo (h : TEok P t te) (w : World) : ∃ i, (typeInfo t).run P w = .ok i w ∧ i.bytes = te.bytes ∧ i.size = te.size ∧ P.info? t = some i := by
  obtain ⟨i, z, hi, hs, hb, _⟩ := h.info
  exact ⟨i, run_typeInfo w hi, hb, hs, hi⟩

theorem TEok.rZero (h : TEok P t te) (w : World) : ∃ z, (zeroValue t).run P w = .ok z w ∧ ∀ A w ρ, VR A w ρ te.zero z := by
  obtain ⟨i, z, hi, hs, _, hz, hv⟩ := h.info
  refine ⟨z, ?_, hv⟩
  unfold zeroValue
  simp [run_typeInfo w hi, hz]

theorem addr_add (b o n : Nat) : (⟨b, o, none⟩ : Addr).add n = ⟨b, o + n, none⟩ := by
  unfold Addr.add
  split
  · rename_i h; subst h; rfl
  · rfl

theorem run_load {ad : Addr} {x : Value} (h : w.cell? ad = some x) : (load ad).run P w = .ok x w := by
  unfold load
  simp [Sem.run, h]

theorem run_loadCells {b o : Nat} (cs : Array Value) (h : ∀ j, j < cs.size → w.cell? ⟨b, o + j, none⟩ = cs[j]?) : ∀ (n i : Nat), i + n = cs.size →
    (loadCellsFrom ⟨b, o, none⟩ i n (cs.extract 0 i)).run P w = .ok cs w
  | 0, i, hi => by
    simp only [loadCellsFrom]
    have : cs.extract 0 i = cs := by rw [show i = cs.size by omega]; simp
    rw [this]; rfl
  | n + 1, i, hi => by
    have hlt : i < cs.size := by omega
    have hc := h i hlt
    rw [Array.getElem?_eq_getElem hlt] at hc
    simp only [loadCellsFrom, addr_add, Sem.run_bind, run_load hc, Result.andThen_ok]
    have e : (cs.extract 0 i).push cs[i] = cs.extract 0 (i + 1) := by
      simp
    rw [e]
    exact run_loadCells cs h n (i + 1) (by omega)

/-- Reading a variable. -/
theorem TEok.rLoad (h : TEok P t te) {b o : Nat} :
    (isAgg te.td = true → ∀ cs : Array Value, cs.size = te.size → (∀ j, j < te.size → w.cell? ⟨b, o + j, none⟩ = cs[j]?) → (loadVar t ⟨b, o, none⟩).run P w = .ok (.agg cs) w) ∧
    (isAgg te.td = false → ∀ x, w.cell? ⟨b, o, none⟩ = some x → (loadVar t ⟨b, o, none⟩).run P w = .ok x w) := by
  refine ⟨fun ha cs hs hc => ?_, fun ha x hx => ?_⟩
  · unfold Go.loadVar
    simp only [Sem.run_bind, h.rAgg, ha, Result.andThen_ok, if_true, h.rSize]
    have := run_loadCells (P := P) cs (fun j hj => hc j (by omega)) cs.size 0 (by omega)
    simp only [loadCells, ← hs]
    simp only [Array.extract_zero] at this
    simp [this]
  · unfold Go.loadVar
    simp only [Sem.run_bind, h.rAgg, ha, Result.andThen_ok, Bool.false_eq_true, if_false]
    exact run_load hx

structure SameBut (b : Nat) (w w' : World) : Prop where
  os : w'.os = w.os
  tape : w'.tape = w.tape
  output : w'.output = w.output
  size : w'.heap.size = w.heap.size
  block : ∀ k, k ≠ b → w'.heap[k]? = w.heap[k]?

theorem run_store {b o : Nat} {cs : Array Value} {e : TypeId} {x y : Value} (hh : w.heap[b]? = some (.cells cs e (0, 0))) (ho : cs[o]? = some y) (hx : oneV x = true) :
    ∃ w', (store ⟨b, o, none⟩ x).run P w = .ok () w' ∧ w'.heap[b]? = some (.cells (cs.setIfInBounds o x) e (0, 0)) ∧ SameBut b w w' := by
  have hc : w.cell? ⟨b, o, none⟩ = some y := by simp [World.cell?, hh, ho]
  have hf : w.frozen? ⟨b, o, none⟩ = false := by simp [World.frozen?, hh]
  refine ⟨w.setCell ⟨b, o, none⟩ x, ?_, ?_, ⟨rfl, rfl, rfl, by simp [World.setCell], fun k hk => ?_⟩⟩
  · unfold store
    cases x <;> simp [oneV] at hx <;> simp [Sem.run, hc, hf]
  · simp [World.setCell, Array.getElem?_modify, hh]
  · simp only [World.setCell, Array.getElem?_modify]
    rw [if_neg (by simpa using fun h => hk h.symm)]

theorem run_storeCells {b o : Nat} {e : TypeId} : ∀ (vs : List Value) (i : Nat) (w : World) (cs : Array Value), w.heap[b]? = some (.cells cs e (0, 0)) → (∀ x ∈ vs, oneV x = true) → o + i + vs.length ≤ cs.size →
    ∃ w' cs', (storeCells ⟨b, o, none⟩ vs i).run P w = .ok () w' ∧ w'.heap[b]? = some (.cells cs' e (0, 0)) ∧ cs'.size = cs.size ∧
      (∀ j, j < vs.length → cs'[o + i + j]? = vs[j]?) ∧ (∀ j, j < o + i ∨ o + i + vs.length ≤ j → cs'[j]? = cs[j]?) ∧ SameBut b w w'
  | [], i, w, cs, hh, _, _ => ⟨w, cs, rfl, hh, rfl, fun j hj => by simp at hj, fun _ _ => rfl, ⟨rfl, rfl, rfl, rfl, fun _ _ => rfl⟩⟩
  | v :: vs, i, w, cs, hh, hv, hl => by
    simp only [List.length_cons] at hl
    have hlt : o + i < cs.size := by omega
    obtain ⟨w1, h1, h2, h3⟩ := run_store (P := P) (o := o + i) (y := cs[o + i]'hlt) hh (Array.getElem?_eq_getElem hlt) (hv v (by simp))
    obtain ⟨w2, cs2, g1, g2, g3, g4, g5, g6⟩ := run_storeCells (o := o) vs (i + 1) w1 (cs.setIfInBounds (o + i) v) h2 (fun x hx => hv x (by simp [hx])) (by simp; omega)
    refine ⟨w2, cs2, ?_, g2, by simpa using g3, fun j hj => ?_, fun j hj => ?_, ⟨g6.os.trans h3.os, g6.tape.trans h3.tape, g6.output.trans h3.output, g6.size.trans h3.size, fun k hk => (g6.block k hk).trans (h3.block k hk)⟩⟩
    · simp only [storeCells, addr_add, Sem.run_bind, h1, Result.andThen_ok]
      exact g1
    · cases j with
      | zero =>
        rw [g5 (o + i + 0) (.inl (by omega))]
        simp only [Nat.add_zero, List.getElem?_cons_zero]
        rw [Array.getElem?_setIfInBounds_self_of_lt (by omega)]
      | succ j =>
        have := g4 j (by simpa using hj)
        rw [show o + i + (j + 1) = o + (i + 1) + j by omega, this]
        simp
    · simp only [List.length_cons] at hj
      rw [g5 j (by omega), Array.getElem?_setIfInBounds_ne (by omega)]

/-- Writing a variable. -/
theorem TEok.rStore (h : TEok P t te) {b o : Nat} {cs : Array Value} {e : TypeId} {y : Value} (hh : w.heap[b]? = some (.cells cs e (0, 0))) (hy : ∀ x ∈ y.cells.toList, oneV x = true)
    (hs : y.cells.size = te.size) (hl : o + te.size ≤ cs.size) :
    ∃ w' cs', (storeVar t ⟨b, o, none⟩ y).run P w = .ok () w' ∧ w'.heap[b]? = some (.cells cs' e (0, 0)) ∧ cs'.size = cs.size ∧
      (∀ j, j < te.size → cs'[o + j]? = y.cells[j]?) ∧ (∀ j, j < o ∨ o + te.size ≤ j → cs'[j]? = cs[j]?) ∧ SameBut b w w' := by
  obtain ⟨w', cs', h1, h2, h3, h4, h5, h6⟩ := run_storeCells (P := P) (o := o) y.cells.toList 0 w cs hh hy (by simpa [hs] using hl)
  refine ⟨w', cs', ?_, h2, h3, fun j hj => ?_, fun j hj => ?_, h6⟩
  · unfold Go.storeVar
    simp only [Sem.run_bind, h.rSize, Result.andThen_ok, hs, ne_eq, not_true_eq_false, if_false]
    exact h1
  · have := h4 j (by simpa [hs] using hj)
    simpa using this
  · exact h5 j (by simpa [hs] using hj)

end
end Go.Proofs.Ytdkebceiljdgjaa
