/- What abstract values stand for, and that parts are read and laid as cells are. Own work, program-independent. -/
import Derived.Test.YtdkebceiljdgjaaAbs
namespace Go.Proofs.Ytdkebceiljdgjaa

abbrev Rho := Nat → Option (Option Nat × Nat × Nat)

def CellsAt (w : World) (b off : Nat) (cs : Array Value) : Prop := ∀ i x, cs[i]? = some x → w.cell? ⟨b, off + i, none⟩ = some x

theorem cell?_congr {w w' : World} {b o : Nat} (h : w'.heap[b]? = w.heap[b]?) : w'.cell? ⟨b, o, none⟩ = w.cell? ⟨b, o, none⟩ := by
  unfold World.cell?
  simp only [h]

theorem CellsAt.congr {w w' : World} {b off : Nat} {cs : Array Value} (h : CellsAt w b off cs) (hb : w'.heap[b]? = w.heap[b]?) : CellsAt w' b off cs :=
  fun i x hx => (cell?_congr hb).trans (h i x hx)

/-- May it be the content of one cell? -/
def oneV : Value → Bool
  | .agg _ | .tuple _ => false
  | _ => true

/-- The other constants. -/
def conV : Value → Bool
  | .string _ | .nilFunc => true
  | _ => false

mutual
def VR (A : Nat → Prop) (w : World) (ρ : Rho) : AV → Value → Prop
  | .dead, _ => False
  | .bool b, v => v = .bool b
  | .int k n, v => v = .int k n
  | .ints n k l, v => l.length = n ∧ v = .agg (l.map (Value.int k)).toArray
  | .prs n k l, v => l.length = n ∧ v = .agg (l.flatMap fun p => [Value.int k p.1, Value.int k p.2]).toArray
  | .st ps, v => ∃ cs, CRs A w ρ ps cs ∧ v = .agg cs.toArray
  | .tup _, _ => False
  | .ptr id i e f, v => ∃ b n, ρ id = some (some b, n) ∧ v = .pointer (some ⟨b, i * e + f, none⟩) ∧ (e = 0 ∨ i < n.1)
  | .pt c i e f, v => ∃ u b off, VR A w ρ c u ∧ A b ∧ v = .pointer (some ⟨b, off + (i * e + f), none⟩) ∧ CellsAt w b off u.cells ∧ (e = 0 ∨ i < c.cnt)
  | .nilp, v => v = .pointer none
  | .wsl id, v => ∃ ob n, ρ id = some (ob, n) ∧ ((n.1 = 0 ∧ v = .slice none 0 0) ∨ ∃ b cap, ob = some b ∧ v = .slice (some ⟨b, 0, none⟩) n.1 cap ∧ n.1 ≤ cap ∧ cap ≤ n.2)
  | .sl c, v => ∃ u, VR A w ρ c u ∧ ((c.cnt = 0 ∧ ∃ ad cap, v = .slice ad 0 cap) ∨
      ∃ b off cap, A b ∧ v = .slice (some ⟨b, off, none⟩) c.cnt cap ∧ c.cnt ≤ cap ∧ CellsAt w b off u.cells)
  | .osl _ _, _ => False
  | .nils, v => v = .slice none 0 0
  | .func f, v => v = .func (.func f) #[] #[]
  | .iface t x, v => ∃ y, VR A w ρ x y ∧ v = .iface t y
  | .nili, v => v = .nilIface
  | .con u, v => v = u ∧ conV u = true
def CRs (A : Nat → Prop) (w : World) (ρ : Rho) : List AV → List Value → Prop
  | [], cs => cs = []
  | p :: ps, cs => ∃ v cs', VR A w ρ p v ∧ CRs A w ρ ps cs' ∧ cs = v.cells.toList ++ cs'
end

def VRs (A : Nat → Prop) (w : World) (ρ : Rho) : List AV → List Value → Prop
  | [], vs => vs = []
  | p :: ps, vs => ∃ v vs', VR A w ρ p v ∧ VRs A w ρ ps vs' ∧ vs = v :: vs'

/-- What a slot stands for. -/
def SR (A : Nat → Prop) (w : World) (ρ : Rho) : AV → Value → Prop
  | .dead, _ => True
  | .tup ps, v => ∃ vs, VRs A w ρ ps vs ∧ v = .tuple vs.toArray
  | a, v => VR A w ρ a v

section
variable {A A' : Nat → Prop} {w w' : World} {ρ ρ' : Rho}

mutual
theorem VR.mono (hA : ∀ b, A b → A' b) (hw : ∀ b, A b → w'.heap[b]? = w.heap[b]?) (hρ : ∀ id x, ρ id = some x → ρ' id = some x) :
    ∀ (a : AV) (v : Value), VR A w ρ a v → VR A' w' ρ' a v
  | .dead, _, h => by simp only [VR] at h
  | .bool _, _, h => by simpa only [VR] using h
  | .int _ _, _, h => by simpa only [VR] using h
  | .ints _ _ _, _, h => by simpa only [VR] using h
  | .prs _ _ _, _, h => by simpa only [VR] using h
  | .st ps, v, h => by
    simp only [VR] at h ⊢
    obtain ⟨cs, h1, h2⟩ := h
    exact ⟨cs, CRs.mono hA hw hρ ps cs h1, h2⟩
  | .tup ps, v, h => by simp only [VR] at h
  | .ptr id i e f, v, h => by
    simp only [VR] at h ⊢
    obtain ⟨b, n, h1, h2⟩ := h
    exact ⟨b, n, hρ _ _ h1, h2⟩
  | .pt c i e f, v, h => by
    simp only [VR] at h ⊢
    obtain ⟨u, b, off, h1, h2, h3, h4, h5⟩ := h
    exact ⟨u, b, off, VR.mono hA hw hρ c u h1, hA _ h2, h3, h4.congr (hw _ h2), h5⟩
  | .nilp, _, h => by simpa only [VR] using h
  | .wsl id, v, h => by
    simp only [VR] at h ⊢
    obtain ⟨ob, n, h1, h2⟩ := h
    exact ⟨ob, n, hρ _ _ h1, h2⟩
  | .sl c, v, h => by
    simp only [VR] at h ⊢
    obtain ⟨u, h1, h2⟩ := h
    refine ⟨u, VR.mono hA hw hρ c u h1, ?_⟩
    rcases h2 with h2 | ⟨b, off, cap, h2, h3, h4, h5⟩
    · exact .inl h2
    · exact .inr ⟨b, off, cap, hA _ h2, h3, h4, h5.congr (hw _ h2)⟩
  | .osl _ _, _, h => by simp only [VR] at h
  | .nils, _, h => by simpa only [VR] using h
  | .func _, _, h => by simpa only [VR] using h
  | .iface t x, v, h => by
    simp only [VR] at h ⊢
    obtain ⟨y, h1, h2⟩ := h
    exact ⟨y, VR.mono hA hw hρ x y h1, h2⟩
  | .nili, _, h => by simpa only [VR] using h
  | .con _, _, h => by simpa only [VR] using h
theorem CRs.mono (hA : ∀ b, A b → A' b) (hw : ∀ b, A b → w'.heap[b]? = w.heap[b]?) (hρ : ∀ id x, ρ id = some x → ρ' id = some x) :
    ∀ (ps : List AV) (cs : List Value), CRs A w ρ ps cs → CRs A' w' ρ' ps cs
  | [], _, h => by simpa only [CRs] using h
  | p :: ps, cs, h => by
    simp only [CRs] at h ⊢
    obtain ⟨v, cs', h1, h2, h3⟩ := h
    exact ⟨v, cs', VR.mono hA hw hρ p v h1, CRs.mono hA hw hρ ps cs' h2, h3⟩
end

theorem VRs.mono (hA : ∀ b, A b → A' b) (hw : ∀ b, A b → w'.heap[b]? = w.heap[b]?) (hρ : ∀ id x, ρ id = some x → ρ' id = some x) :
    ∀ (ps : List AV) (cs : List Value), VRs A w ρ ps cs → VRs A' w' ρ' ps cs
  | [], _, h => by simpa only [VRs] using h
  | p :: ps, cs, h => by
    simp only [VRs] at h ⊢
    obtain ⟨v, cs', h1, h2, h3⟩ := h
    exact ⟨v, cs', VR.mono hA hw hρ p v h1, VRs.mono hA hw hρ ps cs' h2, h3⟩

theorem flatMap_len {k : IntKind} (l : List (Int × Int)) : (l.flatMap fun p => [Value.int k p.1, Value.int k p.2]).length = 2 * l.length := by
  induction l with
  | nil => rfl
  | cons a l ih => simp only [List.flatMap_cons, List.length_append, List.length_cons, List.length_nil, ih]; omega

theorem flatMap_get {k : IntKind} (l : List (Int × Int)) : ∀ (i : Nat), i < l.length →
    (l.flatMap fun p => [Value.int k p.1, Value.int k p.2])[2 * i]? = some (.int k (l.getD i (0, 0)).1) ∧
    (l.flatMap fun p => [Value.int k p.1, Value.int k p.2])[2 * i + 1]? = some (.int k (l.getD i (0, 0)).2) := by
  induction l with
  | nil => intro i h; simp at h
  | cons a l ih =>
    intro i h
    cases i with
    | zero => simp
    | succ i =>
      have := ih i (by simpa using h)
      simp only [List.flatMap_cons, List.cons_append, List.nil_append, show 2 * (i + 1) = 2 * i + 1 + 1 by omega, List.getElem?_cons_succ, List.getD_cons_succ]
      exact this

theorem flatMap_set {k : IntKind} (l : List (Int × Int)) (x y : Int) : ∀ (i : Nat), i < l.length →
    ((l.set i (x, y)).flatMap fun p => [Value.int k p.1, Value.int k p.2]) =
      ((l.flatMap fun p => [Value.int k p.1, Value.int k p.2]).set (2 * i) (.int k x)).set (2 * i + 1) (.int k y) := by
  induction l with
  | nil => intro i h; simp at h
  | cons a l ih =>
    intro i h
    cases i with
    | zero => simp
    | succ i =>
      have := ih i (by simpa using h)
      simp only [List.set_cons_succ, List.flatMap_cons, List.cons_append, List.nil_append, show 2 * (i + 1) = 2 * i + 1 + 1 by omega, List.set_cons_succ, this]

mutual
theorem VR.size : ∀ (a : AV) (v : Value), VR A w ρ a v → v.cells.size = a.sz
  | .dead, _, h => by simp only [VR] at h
  | .bool _, _, h => by simp only [VR] at h; subst h; rfl
  | .int _ _, _, h => by simp only [VR] at h; subst h; rfl
  | .ints n _ l, _, h => by simp only [VR] at h; obtain ⟨rfl, rfl⟩ := h; simp [Value.cells, AV.sz]
  | .prs n _ l, _, h => by simp only [VR] at h; obtain ⟨rfl, rfl⟩ := h; simp only [Value.cells, AV.sz, List.size_toArray]; exact flatMap_len l
  | .st ps, v, h => by
    simp only [VR] at h
    obtain ⟨cs, h1, rfl⟩ := h
    simp only [Value.cells, AV.sz, List.size_toArray]
    exact CRs.size ps cs h1
  | .tup ps, v, h => by simp only [VR] at h
  | .ptr id i e f, v, h => by simp only [VR] at h; obtain ⟨b, n, h1, rfl, h2⟩ := h; rfl
  | .pt c i e f, v, h => by simp only [VR] at h; obtain ⟨u, b, off, h1, h2, rfl, h4, h5⟩ := h; rfl
  | .nilp, _, h => by simp only [VR] at h; subst h; rfl
  | .wsl id, v, h => by
    simp only [VR] at h
    obtain ⟨ob, n, h1, h2⟩ := h
    rcases h2 with ⟨_, rfl⟩ | ⟨b, cap, _, rfl, _⟩ <;> rfl
  | .sl c, v, h => by
    simp only [VR] at h
    obtain ⟨u, h1, h2⟩ := h
    rcases h2 with ⟨_, _, _, rfl⟩ | ⟨b, off, cap, h2, rfl, h4, h5⟩ <;> rfl
  | .osl _ _, _, h => by simp only [VR] at h
  | .nils, _, h => by simp only [VR] at h; subst h; rfl
  | .func _, _, h => by simp only [VR] at h; subst h; rfl
  | .iface t x, v, h => by simp only [VR] at h; obtain ⟨y, h1, rfl⟩ := h; rfl
  | .nili, _, h => by simp only [VR] at h; subst h; rfl
  | .con u, _, h => by simp only [VR] at h; obtain ⟨e, h⟩ := h; rw [e]; cases u <;> first | rfl | cases h
theorem CRs.size : ∀ (ps : List AV) (cs : List Value), CRs A w ρ ps cs → cs.length = AV.szs ps
  | [], _, h => by simp only [CRs] at h; subst h; rfl
  | p :: ps, cs, h => by
    simp only [CRs] at h
    obtain ⟨v, cs', h1, h2, rfl⟩ := h
    simp only [List.length_append, Array.length_toList, AV.szs]
    rw [VR.size p v h1, CRs.size ps cs' h2]
end

theorem VR.comp {a : AV} {v : Value} (h : VR A w ρ a v) (hc : a.comp = true) : v = .agg v.cells := by
  cases a <;> simp only [AV.comp, Bool.false_eq_true] at hc <;> simp only [VR] at h
  · obtain ⟨_, rfl⟩ := h; rfl
  · obtain ⟨_, rfl⟩ := h; rfl
  · obtain ⟨_, _, rfl⟩ := h; rfl

theorem VR.single {a : AV} {v : Value} (h : VR A w ρ a v) (hc : a.comp = false) : v.cells = #[v] := by
  cases a <;> simp only [AV.comp, Bool.true_eq_false] at hc <;> simp only [VR] at h
  · subst h; rfl
  · subst h; rfl
  · obtain ⟨_, _, _, rfl, _⟩ := h; rfl
  · obtain ⟨_, _, _, _, _, rfl, _⟩ := h; rfl
  · subst h; rfl
  · obtain ⟨_, _, _, h2⟩ := h
    rcases h2 with ⟨_, rfl⟩ | ⟨b, cap, _, rfl, _⟩ <;> rfl
  · obtain ⟨_, _, h2⟩ := h
    rcases h2 with ⟨_, _, _, rfl⟩ | ⟨b, off, cap, h2, rfl, h4, h5⟩ <;> rfl
  · subst h; rfl
  · subst h; rfl
  · obtain ⟨_, _, rfl⟩ := h; rfl
  · subst h; rfl
  · rename_i u; obtain ⟨e, h⟩ := h; rw [e]; cases u <;> first | rfl | cases h

mutual
theorem VR.one : ∀ (a : AV) (v : Value), VR A w ρ a v → ∀ x ∈ v.cells.toList, oneV x = true
  | .dead, _, h => by simp only [VR] at h
  | .bool _, _, h => by simp only [VR] at h; subst h; simp [Value.cells, oneV]
  | .int _ _, _, h => by simp only [VR] at h; subst h; simp [Value.cells, oneV]
  | .ints n _ l, _, h => by simp only [VR] at h; obtain ⟨rfl, rfl⟩ := h; simp [Value.cells, oneV]
  | .prs n _ l, _, h => by
    simp only [VR] at h; obtain ⟨rfl, rfl⟩ := h
    intro x hx
    simp only [Value.cells, List.mem_flatMap] at hx
    obtain ⟨p, _, hp⟩ := hx
    simp only [List.mem_cons, List.not_mem_nil, or_false] at hp
    rcases hp with rfl | rfl <;> rfl
  | .st ps, v, h => by
    simp only [VR] at h
    obtain ⟨cs, h1, rfl⟩ := h
    simp only [Value.cells]
    exact CRs.one ps cs h1
  | .tup ps, v, h => by simp only [VR] at h
  | .ptr id i e f, v, h => by simp only [VR] at h; obtain ⟨b, n, h1, rfl, h2⟩ := h; simp [Value.cells, oneV]
  | .pt c i e f, v, h => by simp only [VR] at h; obtain ⟨u, b, off, h1, h2, rfl, h4, h5⟩ := h; simp [Value.cells, oneV]
  | .nilp, _, h => by simp only [VR] at h; subst h; simp [Value.cells, oneV]
  | .wsl id, v, h => by
    simp only [VR] at h
    obtain ⟨ob, n, h1, h2⟩ := h
    rcases h2 with ⟨_, rfl⟩ | ⟨b, cap, _, rfl, _⟩ <;> simp [Value.cells, oneV]
  | .sl c, v, h => by
    simp only [VR] at h
    obtain ⟨u, h1, h2⟩ := h
    rcases h2 with ⟨_, _, _, rfl⟩ | ⟨b, off, cap, h2, rfl, h4, h5⟩ <;> simp [Value.cells, oneV]
  | .osl _ _, _, h => by simp only [VR] at h
  | .nils, _, h => by simp only [VR] at h; subst h; simp [Value.cells, oneV]
  | .func _, _, h => by simp only [VR] at h; subst h; simp [Value.cells, oneV]
  | .iface t x, v, h => by simp only [VR] at h; obtain ⟨y, h1, rfl⟩ := h; simp [Value.cells, oneV]
  | .nili, _, h => by simp only [VR] at h; subst h; simp [Value.cells, oneV]
  | .con u, _, h => by simp only [VR] at h; obtain ⟨e, h⟩ := h; rw [e]; cases u <;> first | (cases h; done) | simp [Value.cells, oneV]
theorem CRs.one : ∀ (ps : List AV) (cs : List Value), CRs A w ρ ps cs → ∀ x ∈ cs, oneV x = true
  | [], _, h => by simp only [CRs] at h; subst h; simp
  | p :: ps, cs, h => by
    simp only [CRs] at h
    obtain ⟨v, cs', h1, h2, rfl⟩ := h
    intro x hx
    rw [List.mem_append] at hx
    rcases hx with hx | hx
    · exact VR.one p v h1 x hx
    · exact CRs.one ps cs' h2 x hx
end

theorem SR.mono (hA : ∀ b, A b → A' b) (hw : ∀ b, A b → w'.heap[b]? = w.heap[b]?) (hρ : ∀ id x, ρ id = some x → ρ' id = some x) {a : AV} {v : Value} (h : SR A w ρ a v) : SR A' w' ρ' a v := by
  cases a
  case dead => trivial
  case tup ps => obtain ⟨vs, h1, h2⟩ := h; exact ⟨vs, VRs.mono hA hw hρ ps vs h1, h2⟩
  all_goals exact VR.mono hA hw hρ _ v h

theorem SR.vr {a : AV} {v : Value} (h : SR A w ρ a v) (hl : a.live = true) : VR A w ρ a v := by
  cases a
  case dead => cases hl
  case tup ps => cases hl
  all_goals exact h

theorem VR.sr {a : AV} {v : Value} (h : VR A w ρ a v) : SR A w ρ a v := by
  cases a
  case dead => trivial
  case tup ps => simp only [VR] at h
  all_goals exact h

theorem VRs.length : ∀ (ps : List AV) (vs : List Value), VRs A w ρ ps vs → vs.length = ps.length
  | [], _, h => by simp only [VRs] at h; subst h; rfl
  | p :: ps, cs, h => by
    simp only [VRs] at h
    obtain ⟨v, cs', h1, h2, rfl⟩ := h
    simp [VRs.length ps cs' h2]

theorem VRs.get : ∀ (ps : List AV) (vs : List Value) (i : Nat) (p : AV), VRs A w ρ ps vs → ps[i]? = some p → ∃ v, vs[i]? = some v ∧ VR A w ρ p v
  | [], _, i, p, _, hp => by simp at hp
  | q :: ps, cs, i, p, h, hp => by
    simp only [VRs] at h
    obtain ⟨v, cs', h1, h2, rfl⟩ := h
    cases i with
    | zero => simp at hp; subst hp; exact ⟨v, by simp, h1⟩
    | succ i =>
      simp at hp
      obtain ⟨x, hx, hy⟩ := VRs.get ps cs' i p h2 hp
      exact ⟨x, by simpa using hx, hy⟩

/-! ### Parts -/

mutual
theorem leaf_spec : ∀ (c : AV) (f r : Nat) (q : AV) (u : Value), leaf f c = some (r, q) → VR A w ρ c u →
    ∃ x pre post, VR A w ρ q x ∧ u.cells.toList = pre ++ x.cells.toList ++ post ∧ pre.length + r = f
  | .st ps, f, r, q, u, h, hu => by
    simp only [leaf] at h
    simp only [VR] at hu
    obtain ⟨cs, h1, rfl⟩ := hu
    exact leafs_spec ps f r q cs h h1
  | .dead, f, r, q, u, h, hu => by simp only [leaf, Option.some.injEq, Prod.mk.injEq] at h; obtain ⟨rfl, rfl⟩ := h; exact ⟨u, [], [], hu, by simp, by simp⟩
  | .bool _, f, r, q, u, h, hu => by simp only [leaf, Option.some.injEq, Prod.mk.injEq] at h; obtain ⟨rfl, rfl⟩ := h; exact ⟨u, [], [], hu, by simp, by simp⟩
  | .int _ _, f, r, q, u, h, hu => by simp only [leaf, Option.some.injEq, Prod.mk.injEq] at h; obtain ⟨rfl, rfl⟩ := h; exact ⟨u, [], [], hu, by simp, by simp⟩
  | .ints _ _ _, f, r, q, u, h, hu => by simp only [leaf, Option.some.injEq, Prod.mk.injEq] at h; obtain ⟨rfl, rfl⟩ := h; exact ⟨u, [], [], hu, by simp, by simp⟩
  | .prs _ _ _, f, r, q, u, h, hu => by simp only [leaf, Option.some.injEq, Prod.mk.injEq] at h; obtain ⟨rfl, rfl⟩ := h; exact ⟨u, [], [], hu, by simp, by simp⟩
  | .tup _, f, r, q, u, h, hu => by simp only [leaf, Option.some.injEq, Prod.mk.injEq] at h; obtain ⟨rfl, rfl⟩ := h; exact ⟨u, [], [], hu, by simp, by simp⟩
  | .ptr _ _ _ _, f, r, q, u, h, hu => by simp only [leaf, Option.some.injEq, Prod.mk.injEq] at h; obtain ⟨rfl, rfl⟩ := h; exact ⟨u, [], [], hu, by simp, by simp⟩
  | .pt _ _ _ _, f, r, q, u, h, hu => by simp only [leaf, Option.some.injEq, Prod.mk.injEq] at h; obtain ⟨rfl, rfl⟩ := h; exact ⟨u, [], [], hu, by simp, by simp⟩
  | .nilp, f, r, q, u, h, hu => by simp only [leaf, Option.some.injEq, Prod.mk.injEq] at h; obtain ⟨rfl, rfl⟩ := h; exact ⟨u, [], [], hu, by simp, by simp⟩
  | .wsl _, f, r, q, u, h, hu => by simp only [leaf, Option.some.injEq, Prod.mk.injEq] at h; obtain ⟨rfl, rfl⟩ := h; exact ⟨u, [], [], hu, by simp, by simp⟩
  | .sl _, f, r, q, u, h, hu => by simp only [leaf, Option.some.injEq, Prod.mk.injEq] at h; obtain ⟨rfl, rfl⟩ := h; exact ⟨u, [], [], hu, by simp, by simp⟩
  | .osl _ _, f, r, q, u, h, hu => by simp only [leaf, Option.some.injEq, Prod.mk.injEq] at h; obtain ⟨rfl, rfl⟩ := h; exact ⟨u, [], [], hu, by simp, by simp⟩
  | .nils, f, r, q, u, h, hu => by simp only [leaf, Option.some.injEq, Prod.mk.injEq] at h; obtain ⟨rfl, rfl⟩ := h; exact ⟨u, [], [], hu, by simp, by simp⟩
  | .func _, f, r, q, u, h, hu => by simp only [leaf, Option.some.injEq, Prod.mk.injEq] at h; obtain ⟨rfl, rfl⟩ := h; exact ⟨u, [], [], hu, by simp, by simp⟩
  | .iface _ _, f, r, q, u, h, hu => by simp only [leaf, Option.some.injEq, Prod.mk.injEq] at h; obtain ⟨rfl, rfl⟩ := h; exact ⟨u, [], [], hu, by simp, by simp⟩
  | .nili, f, r, q, u, h, hu => by simp only [leaf, Option.some.injEq, Prod.mk.injEq] at h; obtain ⟨rfl, rfl⟩ := h; exact ⟨u, [], [], hu, by simp, by simp⟩
  | .con _, f, r, q, u, h, hu => by simp only [leaf, Option.some.injEq, Prod.mk.injEq] at h; obtain ⟨rfl, rfl⟩ := h; exact ⟨u, [], [], hu, by simp, by simp⟩
theorem leafs_spec : ∀ (ps : List AV) (f r : Nat) (q : AV) (cs : List Value), leafs f ps = some (r, q) → CRs A w ρ ps cs →
    ∃ x pre post, VR A w ρ q x ∧ cs = pre ++ x.cells.toList ++ post ∧ pre.length + r = f
  | [], f, r, q, cs, h, _ => by simp [leafs] at h
  | p :: ps, f, r, q, cs, h, hc => by
    simp only [CRs] at hc
    obtain ⟨v, cs', h1, h2, rfl⟩ := hc
    simp only [leafs] at h
    cases hb : Nat.blt f p.sz with
    | true =>
      rw [hb] at h
      obtain ⟨x, pre, post, a, b, c⟩ := leaf_spec p f r q v h h1
      exact ⟨x, pre, post ++ cs', a, by rw [b]; simp, c⟩
    | false =>
      rw [hb] at h
      obtain ⟨x, pre, post, a, b, c⟩ := leafs_spec ps (f - p.sz) r q cs' h h2
      have hlt : ¬ f < p.sz := by intro hh; rw [← Nat.blt_eq] at hh; rw [hh] at hb; cases hb
      refine ⟨x, v.cells.toList ++ pre, post, a, by rw [b]; simp, ?_⟩
      simp only [List.length_append, Array.length_toList, VR.size p v h1]
      omega
end

end
end Go.Proofs.Ytdkebceiljdgjaa
