/- Parts are read and laid as cells are (second part). Own work, program-independent. -/
import Derived.Test.YtdkebceiljdgjaaSound1
namespace Go.Proofs.Ytdkebceiljdgjaa
section
variable {A A' : Nat → Prop} {w w' : World} {ρ ρ' : Rho}

theorem VR_int {k : IntKind} {n : Int} : VR A w ρ (.int k n) (.int k n) := by simp only [VR]
theorem VR_bool {b : Bool} : VR A w ρ (.bool b) (.bool b) := by simp only [VR]
theorem VR_ints {k : IntKind} {n : Nat} {l : List Int} (h : l.length = n) : VR A w ρ (.ints n k l) (.agg (l.map (Value.int k)).toArray) := by
  simp only [VR]
  exact ⟨h, trivial⟩
theorem VR_prs {k : IntKind} {n : Nat} {l : List (Int × Int)} (h : l.length = n) : VR A w ρ (.prs n k l) (.agg (l.flatMap fun p => [Value.int k p.1, Value.int k p.2]).toArray) := by
  simp only [VR]
  exact ⟨h, trivial⟩
theorem VR_pair {k : IntKind} {a b : Int} : VR A w ρ (.st [.int k a, .int k b]) (.agg #[.int k a, .int k b]) := by
  simp only [VR, CRs]
  exact ⟨_, ⟨_, _, rfl, ⟨_, _, rfl, rfl, rfl⟩, rfl⟩, rfl⟩

theorem nat_blt {a b : Nat} (h : Nat.blt a b = true) : a < b := by rwa [Nat.blt_eq] at h
theorem nat_blt_not {a b : Nat} (h : Nat.blt a b = false) : b ≤ a := by
  rcases Nat.lt_or_ge a b with h' | h'
  · rw [← Nat.blt_eq] at h'; rw [h'] at h; cases h
  · exact h'
theorem nat_beq {a b : Nat} (h : Nat.beq a b = true) : a = b := Nat.eq_of_beq_eq_true h

theorem piece_one {f n : Nat} {c q : AV} {u : Value} (h : (bif c.comp && Nat.beq f 0 && Nat.beq c.sz n then some c else none) = some q) (hu : VR A w ρ c u) :
    ∃ x pre post, VR A w ρ q x ∧ q.comp = true ∧ q.sz = n ∧ u.cells.toList = pre ++ x.cells.toList ++ post ∧ pre.length = f := by
  cases hb : (c.comp && Nat.beq f 0 && Nat.beq c.sz n) with
  | false => rw [hb] at h; cases h
  | true =>
    rw [hb] at h
    simp only [cond_true, Option.some.injEq] at h
    subst h
    simp only [Bool.and_eq_true] at hb
    obtain ⟨⟨h1, h2⟩, h3⟩ := hb
    exact ⟨u, [], [], hu, h1, nat_beq h3, by simp, (nat_beq h2).symm⟩

mutual
theorem piece_spec : ∀ (c : AV) (f n : Nat) (q : AV) (u : Value), piece f n c = some q → VR A w ρ c u →
    ∃ x pre post, VR A w ρ q x ∧ q.comp = true ∧ q.sz = n ∧ u.cells.toList = pre ++ x.cells.toList ++ post ∧ pre.length = f
  | .st ps, f, n, q, u, h, hu => by
    simp only [piece] at h
    cases hb : (Nat.beq f 0 && Nat.beq (AV.szs ps) n) with
    | true =>
      rw [hb] at h
      simp only [cond_true, Option.some.injEq] at h
      subst h
      simp only [Bool.and_eq_true] at hb
      exact ⟨u, [], [], hu, rfl, nat_beq hb.2, by simp, (nat_beq hb.1).symm⟩
    | false =>
      rw [hb] at h
      simp only [VR] at hu
      obtain ⟨cs, h1, rfl⟩ := hu
      exact pieces_spec ps f n q cs h h1
  | .dead, f, n, q, u, h, hu => piece_one (by simpa only [piece] using h) hu
  | .bool _, f, n, q, u, h, hu => piece_one (by simpa only [piece] using h) hu
  | .int _ _, f, n, q, u, h, hu => piece_one (by simpa only [piece] using h) hu
  | .ints _ _ _, f, n, q, u, h, hu => piece_one (by simpa only [piece] using h) hu
  | .prs _ _ _, f, n, q, u, h, hu => piece_one (by simpa only [piece] using h) hu
  | .tup _, f, n, q, u, h, hu => piece_one (by simpa only [piece] using h) hu
  | .ptr _ _ _ _, f, n, q, u, h, hu => piece_one (by simpa only [piece] using h) hu
  | .pt _ _ _ _, f, n, q, u, h, hu => piece_one (by simpa only [piece] using h) hu
  | .nilp, f, n, q, u, h, hu => piece_one (by simpa only [piece] using h) hu
  | .wsl _, f, n, q, u, h, hu => piece_one (by simpa only [piece] using h) hu
  | .sl _, f, n, q, u, h, hu => piece_one (by simpa only [piece] using h) hu
  | .osl _ _, f, n, q, u, h, hu => piece_one (by simpa only [piece] using h) hu
  | .nils, f, n, q, u, h, hu => piece_one (by simpa only [piece] using h) hu
  | .func _, f, n, q, u, h, hu => piece_one (by simpa only [piece] using h) hu
  | .iface _ _, f, n, q, u, h, hu => piece_one (by simpa only [piece] using h) hu
  | .nili, f, n, q, u, h, hu => piece_one (by simpa only [piece] using h) hu
  | .con _, f, n, q, u, h, hu => piece_one (by simpa only [piece] using h) hu
theorem pieces_spec : ∀ (ps : List AV) (f n : Nat) (q : AV) (cs : List Value), pieces f n ps = some q → CRs A w ρ ps cs →
    ∃ x pre post, VR A w ρ q x ∧ q.comp = true ∧ q.sz = n ∧ cs = pre ++ x.cells.toList ++ post ∧ pre.length = f
  | [], f, n, q, cs, h, _ => by simp [pieces] at h
  | p :: ps, f, n, q, cs, h, hc => by
    simp only [CRs] at hc
    obtain ⟨v, cs', h1, h2, rfl⟩ := hc
    simp only [pieces] at h
    cases hb : Nat.blt f p.sz with
    | true =>
      rw [hb] at h
      obtain ⟨x, pre, post, a, a1, a2, b, c⟩ := piece_spec p f n q v h h1
      exact ⟨x, pre, post ++ cs', a, a1, a2, by rw [b]; simp, c⟩
    | false =>
      rw [hb] at h
      obtain ⟨x, pre, post, a, a1, a2, b, c⟩ := pieces_spec ps (f - p.sz) n q cs' h h2
      have hlt := nat_blt_not hb
      refine ⟨x, v.cells.toList ++ pre, post, a, a1, a2, by rw [b]; simp, ?_⟩
      simp only [List.length_append, Array.length_toList, VR.size p v h1]
      omega
end

theorem repl_one {f : Nat} {c v c' : AV} {u y : Value} (h : (bif Nat.beq f 0 && Nat.beq c.sz v.sz then some v else none) = some c') (hu : VR A w ρ c u) (hy : VR A w ρ v y) :
    ∃ pre mid post u', u.cells.toList = pre ++ mid ++ post ∧ pre.length = f ∧ mid.length = y.cells.toList.length ∧ VR A w ρ c' u' ∧ u'.cells.toList = pre ++ y.cells.toList ++ post ∧ c'.sz = c.sz := by
  cases hb : (Nat.beq f 0 && Nat.beq c.sz v.sz) with
  | false => rw [hb] at h; cases h
  | true =>
    rw [hb] at h
    simp only [cond_true, Option.some.injEq] at h
    subst h
    simp only [Bool.and_eq_true] at hb
    refine ⟨[], u.cells.toList, [], y, by simp, (nat_beq hb.1).symm, ?_, hy, by simp, (nat_beq hb.2).symm⟩
    simp only [Array.length_toList, VR.size _ _ hu, VR.size _ _ hy, nat_beq hb.2]

mutual
theorem repl_spec (v : AV) (y : Value) (hy : VR A w ρ v y) : ∀ (c : AV) (f : Nat) (c' : AV) (u : Value), repl f v c = some c' → VR A w ρ c u →
    ∃ pre mid post u', u.cells.toList = pre ++ mid ++ post ∧ pre.length = f ∧ mid.length = y.cells.toList.length ∧ VR A w ρ c' u' ∧ u'.cells.toList = pre ++ y.cells.toList ++ post ∧ c'.sz = c.sz
  | .st ps, f, c', u, h, hu => by
    simp only [repl] at h
    cases hb : (Nat.beq f 0 && Nat.beq (AV.szs ps) v.sz) with
    | true => rw [hb] at h; exact repl_one (c := .st ps) (by simp only [AV.sz]; rw [hb]; exact h) hu hy
    | false =>
      rw [hb] at h
      simp only [cond_false, Option.map_eq_some_iff] at h
      obtain ⟨ps', h, rfl⟩ := h
      simp only [VR] at hu
      obtain ⟨cs, h1, rfl⟩ := hu
      obtain ⟨pre, mid, post, a, b, c, d, e⟩ := repls_spec v y hy ps f ps' cs h h1
      exact ⟨pre, mid, post, .agg (pre ++ y.cells.toList ++ post).toArray, a, b, c, by simp only [VR]; exact ⟨_, d, rfl⟩, by simp [Value.cells], by simp only [AV.sz]; exact e⟩
  | .dead, f, c', u, h, hu => repl_one (by simpa only [repl] using h) hu hy
  | .bool _, f, c', u, h, hu => repl_one (by simpa only [repl] using h) hu hy
  | .int _ _, f, c', u, h, hu => repl_one (by simpa only [repl] using h) hu hy
  | .ints _ _ _, f, c', u, h, hu => repl_one (by simpa only [repl] using h) hu hy
  | .prs _ _ _, f, c', u, h, hu => repl_one (by simpa only [repl] using h) hu hy
  | .tup _, f, c', u, h, hu => repl_one (by simpa only [repl] using h) hu hy
  | .ptr _ _ _ _, f, c', u, h, hu => repl_one (by simpa only [repl] using h) hu hy
  | .pt _ _ _ _, f, c', u, h, hu => repl_one (by simpa only [repl] using h) hu hy
  | .nilp, f, c', u, h, hu => repl_one (by simpa only [repl] using h) hu hy
  | .wsl _, f, c', u, h, hu => repl_one (by simpa only [repl] using h) hu hy
  | .sl _, f, c', u, h, hu => repl_one (by simpa only [repl] using h) hu hy
  | .osl _ _, f, c', u, h, hu => repl_one (by simpa only [repl] using h) hu hy
  | .nils, f, c', u, h, hu => repl_one (by simpa only [repl] using h) hu hy
  | .func _, f, c', u, h, hu => repl_one (by simpa only [repl] using h) hu hy
  | .iface _ _, f, c', u, h, hu => repl_one (by simpa only [repl] using h) hu hy
  | .nili, f, c', u, h, hu => repl_one (by simpa only [repl] using h) hu hy
  | .con _, f, c', u, h, hu => repl_one (by simpa only [repl] using h) hu hy
theorem repls_spec (v : AV) (y : Value) (hy : VR A w ρ v y) : ∀ (ps : List AV) (f : Nat) (ps' : List AV) (cs : List Value), repls f v ps = some ps' → CRs A w ρ ps cs →
    ∃ pre mid post, cs = pre ++ mid ++ post ∧ pre.length = f ∧ mid.length = y.cells.toList.length ∧ CRs A w ρ ps' (pre ++ y.cells.toList ++ post) ∧ AV.szs ps' = AV.szs ps
  | [], f, ps', cs, h, _ => by simp [repls] at h
  | p :: ps, f, ps', cs, h, hc => by
    simp only [CRs] at hc
    obtain ⟨x, cs', h1, h2, rfl⟩ := hc
    simp only [repls] at h
    cases hb : Nat.blt f p.sz with
    | true =>
      rw [hb] at h
      simp only [cond_true, Option.map_eq_some_iff] at h
      obtain ⟨q, h, rfl⟩ := h
      obtain ⟨pre, mid, post, u', a, b, c, d, e, g⟩ := repl_spec v y hy p f q x h h1
      refine ⟨pre, mid, post ++ cs', by rw [a]; simp, b, c, ?_, by simp only [AV.szs, g]⟩
      simp only [CRs]
      exact ⟨u', cs', d, h2, by rw [e]; simp⟩
    | false =>
      rw [hb] at h
      simp only [cond_false, Option.map_eq_some_iff] at h
      obtain ⟨qs, h, rfl⟩ := h
      have hlt := nat_blt_not hb
      obtain ⟨pre, mid, post, a, b, c, d, e⟩ := repls_spec v y hy ps (f - p.sz) qs cs' h h2
      refine ⟨x.cells.toList ++ pre, mid, post, by rw [a]; simp, ?_, c, ?_, by simp only [AV.szs, e]⟩
      · simp only [List.length_append, Array.length_toList, VR.size p x h1]; omega
      · simp only [CRs]
        exact ⟨x, _, h1, d, by simp⟩
end

/-- What a change of one leaf asks. -/
def LeafOk (A : Nat → Prop) (w : World) (ρ : Rho) (g : Nat → AV → Option AV) (z : Value) : Prop :=
  ∀ (r : Nat) (q q' : AV) (u : Value), g r q = some q' → VR A w ρ q u → ∃ pre m post u', u.cells.toList = pre ++ m :: post ∧ pre.length = r ∧ VR A w ρ q' u' ∧ u'.cells.toList = pre ++ z :: post ∧ q'.sz = q.sz

mutual
theorem relf_spec (g : Nat → AV → Option AV) (z : Value) (hg : LeafOk A w ρ g z) : ∀ (c : AV) (f : Nat) (c' : AV) (u : Value), relf f g c = some c' → VR A w ρ c u →
    ∃ pre m post u', u.cells.toList = pre ++ m :: post ∧ pre.length = f ∧ VR A w ρ c' u' ∧ u'.cells.toList = pre ++ z :: post ∧ c'.sz = c.sz
  | .st ps, f, c', u, h, hu => by
    simp only [relf, Option.map_eq_some_iff] at h
    obtain ⟨ps', h, rfl⟩ := h
    simp only [VR] at hu
    obtain ⟨cs, h1, rfl⟩ := hu
    obtain ⟨pre, m, post, a, b, d, e⟩ := relfs_spec g z hg ps f ps' cs h h1
    exact ⟨pre, m, post, .agg (pre ++ z :: post).toArray, a, b, by simp only [VR]; exact ⟨_, d, rfl⟩, by simp [Value.cells], by simp only [AV.sz]; exact e⟩
  | .dead, f, c', u, h, hu => hg f _ c' u (by simpa only [relf] using h) hu
  | .bool _, f, c', u, h, hu => hg f _ c' u (by simpa only [relf] using h) hu
  | .int _ _, f, c', u, h, hu => hg f _ c' u (by simpa only [relf] using h) hu
  | .ints _ _ _, f, c', u, h, hu => hg f _ c' u (by simpa only [relf] using h) hu
  | .prs _ _ _, f, c', u, h, hu => hg f _ c' u (by simpa only [relf] using h) hu
  | .tup _, f, c', u, h, hu => hg f _ c' u (by simpa only [relf] using h) hu
  | .ptr _ _ _ _, f, c', u, h, hu => hg f _ c' u (by simpa only [relf] using h) hu
  | .pt _ _ _ _, f, c', u, h, hu => hg f _ c' u (by simpa only [relf] using h) hu
  | .nilp, f, c', u, h, hu => hg f _ c' u (by simpa only [relf] using h) hu
  | .wsl _, f, c', u, h, hu => hg f _ c' u (by simpa only [relf] using h) hu
  | .sl _, f, c', u, h, hu => hg f _ c' u (by simpa only [relf] using h) hu
  | .osl _ _, f, c', u, h, hu => hg f _ c' u (by simpa only [relf] using h) hu
  | .nils, f, c', u, h, hu => hg f _ c' u (by simpa only [relf] using h) hu
  | .func _, f, c', u, h, hu => hg f _ c' u (by simpa only [relf] using h) hu
  | .iface _ _, f, c', u, h, hu => hg f _ c' u (by simpa only [relf] using h) hu
  | .nili, f, c', u, h, hu => hg f _ c' u (by simpa only [relf] using h) hu
  | .con _, f, c', u, h, hu => hg f _ c' u (by simpa only [relf] using h) hu
theorem relfs_spec (g : Nat → AV → Option AV) (z : Value) (hg : LeafOk A w ρ g z) : ∀ (ps : List AV) (f : Nat) (ps' : List AV) (cs : List Value), relfs f g ps = some ps' → CRs A w ρ ps cs →
    ∃ pre m post, cs = pre ++ m :: post ∧ pre.length = f ∧ CRs A w ρ ps' (pre ++ z :: post) ∧ AV.szs ps' = AV.szs ps
  | [], f, ps', cs, h, _ => by simp [relfs] at h
  | p :: ps, f, ps', cs, h, hc => by
    simp only [CRs] at hc
    obtain ⟨x, cs', h1, h2, rfl⟩ := hc
    simp only [relfs] at h
    cases hb : Nat.blt f p.sz with
    | true =>
      rw [hb] at h
      simp only [cond_true, Option.map_eq_some_iff] at h
      obtain ⟨q, h, rfl⟩ := h
      obtain ⟨pre, m, post, u', a, b, d, e, k⟩ := relf_spec g z hg p f q x h h1
      refine ⟨pre, m, post ++ cs', by rw [a]; simp, b, ?_, by simp only [AV.szs, k]⟩
      simp only [CRs]
      exact ⟨u', cs', d, h2, by rw [e]; simp⟩
    | false =>
      rw [hb] at h
      simp only [cond_false, Option.map_eq_some_iff] at h
      obtain ⟨qs, h, rfl⟩ := h
      have hlt := nat_blt_not hb
      obtain ⟨pre, m, post, a, b, d, e⟩ := relfs_spec g z hg ps (f - p.sz) qs cs' h h2
      refine ⟨x.cells.toList ++ pre, m, post, by rw [a]; simp, ?_, ?_, by simp only [AV.szs, e]⟩
      · simp only [List.length_append, Array.length_toList, VR.size p x h1]; omega
      · simp only [CRs]
        exact ⟨x, _, h1, d, by simp⟩
end

mutual
theorem relf_some (g : Nat → AV → Option AV) : ∀ (c : AV) (f : Nat) (c' : AV), relf f g c = some c' → ∃ r q q', g r q = some q'
  | .st ps, f, c', h => by
    simp only [relf, Option.map_eq_some_iff] at h
    obtain ⟨ps', h, rfl⟩ := h
    exact relfs_some g ps f ps' h
  | .dead, f, c', h => ⟨f, _, c', by simpa only [relf] using h⟩
  | .bool _, f, c', h => ⟨f, _, c', by simpa only [relf] using h⟩
  | .int _ _, f, c', h => ⟨f, _, c', by simpa only [relf] using h⟩
  | .ints _ _ _, f, c', h => ⟨f, _, c', by simpa only [relf] using h⟩
  | .prs _ _ _, f, c', h => ⟨f, _, c', by simpa only [relf] using h⟩
  | .tup _, f, c', h => ⟨f, _, c', by simpa only [relf] using h⟩
  | .ptr _ _ _ _, f, c', h => ⟨f, _, c', by simpa only [relf] using h⟩
  | .pt _ _ _ _, f, c', h => ⟨f, _, c', by simpa only [relf] using h⟩
  | .nilp, f, c', h => ⟨f, _, c', by simpa only [relf] using h⟩
  | .wsl _, f, c', h => ⟨f, _, c', by simpa only [relf] using h⟩
  | .sl _, f, c', h => ⟨f, _, c', by simpa only [relf] using h⟩
  | .osl _ _, f, c', h => ⟨f, _, c', by simpa only [relf] using h⟩
  | .nils, f, c', h => ⟨f, _, c', by simpa only [relf] using h⟩
  | .func _, f, c', h => ⟨f, _, c', by simpa only [relf] using h⟩
  | .iface _ _, f, c', h => ⟨f, _, c', by simpa only [relf] using h⟩
  | .nili, f, c', h => ⟨f, _, c', by simpa only [relf] using h⟩
  | .con _, f, c', h => ⟨f, _, c', by simpa only [relf] using h⟩
theorem relfs_some (g : Nat → AV → Option AV) : ∀ (ps : List AV) (f : Nat) (ps' : List AV), relfs f g ps = some ps' → ∃ r q q', g r q = some q'
  | [], f, ps', h => by simp [relfs] at h
  | p :: ps, f, ps', h => by
    simp only [relfs] at h
    cases hb : Nat.blt f p.sz with
    | true =>
      rw [hb] at h
      simp only [cond_true, Option.map_eq_some_iff] at h
      obtain ⟨q, h, rfl⟩ := h
      exact relf_some g p f q h
    | false =>
      rw [hb] at h
      simp only [cond_false, Option.map_eq_some_iff] at h
      obtain ⟨qs, h, rfl⟩ := h
      exact relfs_some g ps (f - p.sz) qs h
end

theorem getD_map_int {k : IntKind} (l : List Int) (i : Nat) (h : i < l.length) : (l.map (Value.int k))[i]? = some (.int k (l.getD i 0)) := by
  simp [List.getD, List.getElem?_eq_getElem h]

theorem cellOf_spec {f : Nat} {c v : AV} {u : Value} (h : cellOf f c = some v) (hu : VR A w ρ c u) : ∃ x, u.cells.toList[f]? = some x ∧ VR A w ρ v x ∧ v.comp = false := by
  cases c
  case ints n k l =>
    simp only [cellOf] at h
    simp only [VR] at hu
    obtain ⟨hl, rfl⟩ := hu
    cases hb : Nat.blt f n with
    | false => rw [hb] at h; cases h
    | true =>
      rw [hb] at h
      simp only [cond_true, Option.some.injEq] at h
      subst h
      refine ⟨.int k (l.getD f 0), ?_, VR_int, rfl⟩
      show (l.map (Value.int k))[f]? = _
      exact getD_map_int l f (by have := nat_blt hb; omega)
  case prs => simp [cellOf] at h
  case st => simp [cellOf] at h
  case dead => simp [cellOf] at h
  all_goals
    simp only [cellOf] at h
    cases hb : Nat.beq f 0 with
    | false => rw [hb] at h; cases h
    | true =>
      rw [hb] at h
      simp only [cond_true, Option.some.injEq] at h
      subst h
      have := nat_beq hb
      subst this
      refine ⟨u, ?_, hu, rfl⟩
      rw [VR.single hu rfl]
      rfl

/-- What is read, as cells. -/
theorem getA_spec {te : TE} {i e f : Nat} {c v : AV} {u : Value} (h : getA te i e f c = some v) (hu : VR A w ρ c u) (hb : e = 0 ∨ i < c.cnt) :
    (isAgg te.td = true → ∃ x, VR A w ρ v x ∧ x = .agg x.cells ∧ x.cells.size = te.size ∧ ∀ j, j < te.size → u.cells[i * e + f + j]? = x.cells[j]?) ∧
    (isAgg te.td = false → ∃ x, VR A w ρ v x ∧ u.cells[i * e + f]? = some x) := by
  cases e with
  | zero =>
    simp only [getA] at h
    cases ha : isAgg te.td with
    | true =>
      rw [ha] at h
      obtain ⟨x, pre, post, h1, h2, h3, h4, h5⟩ := piece_spec c f te.size v u h hu
      refine ⟨fun _ => ⟨x, h1, h1.comp h2, (VR.size _ _ h1).trans h3, fun j hj => ?_⟩, fun hh => by cases hh⟩
      rw [← Array.getElem?_toList, h4, ← Array.getElem?_toList]
      have hs : x.cells.toList.length = te.size := by rw [Array.length_toList, VR.size _ _ h1, h3]
      rw [List.append_assoc, List.getElem?_append_right (by omega), List.getElem?_append_left (by omega)]
      congr 1
      omega
    | false =>
      rw [ha] at h
      refine ⟨(fun hh => by cases hh), fun _ => ?_⟩
      simp only [cond_false, Option.bind_eq_some_iff] at h
      obtain ⟨⟨r, q⟩, h1, h2⟩ := h
      obtain ⟨x, pre, post, a1, a2, a3⟩ := leaf_spec c f r q u h1 hu
      obtain ⟨y, b1, b2, _⟩ := cellOf_spec h2 a1
      refine ⟨y, b2, ?_⟩
      have hr : r < x.cells.toList.length := by
        rcases Nat.lt_or_ge r x.cells.toList.length with hh | hh
        · exact hh
        · rw [List.getElem?_eq_none hh] at b1; cases b1
      rw [← Array.getElem?_toList, a2, List.append_assoc, List.getElem?_append_right (by omega), List.getElem?_append_left (by omega)]
      rw [← b1]
      congr 1
      omega
  | succ e =>
    have hi : i < c.cnt := by exact hb.resolve_left (by omega)
    cases c <;> simp only [getA] at h <;> try (cases h; done)
    case ints n k l =>
      simp only [VR] at hu
      obtain ⟨hl, rfl⟩ := hu
      cases hc : (Nat.beq (e + 1) 1 && Nat.beq f 0 && !isAgg te.td) with
      | false => rw [hc] at h; cases h
      | true =>
        rw [hc] at h
        simp only [cond_true, Option.some.injEq] at h
        subst h
        simp only [Bool.and_eq_true, Bool.not_eq_true'] at hc
        obtain ⟨⟨h1, h2⟩, h3⟩ := hc
        have e1 := nat_beq h1
        have e2 := nat_beq h2
        refine ⟨(fun hh => by rw [h3] at hh; cases hh), fun _ => ⟨_, VR_int, ?_⟩⟩
        rw [e1, e2]
        simp only [AV.cnt] at hi
        show (l.map (Value.int k)).toArray[_]? = _
        rw [List.getElem?_toArray, Nat.mul_one, Nat.add_zero]
        exact getD_map_int (k := k) l i (by omega)
    case prs n k l =>
      simp only [VR] at hu
      obtain ⟨hl, rfl⟩ := hu
      simp only [AV.cnt] at hi
      have hfl := flatMap_get (k := k) l i (by omega)
      cases hc : Nat.beq (e + 1) 2 with
      | false => rw [hc] at h; cases h
      | true =>
        have e1 := nat_beq hc
        rw [hc] at h
        simp only [cond_true] at h
        have ecs : ∀ m : Nat, (Value.agg (l.flatMap fun p => [Value.int k p.1, Value.int k p.2]).toArray).cells[m]? = (l.flatMap fun p => [Value.int k p.1, Value.int k p.2])[m]? := by
          intro m; simp [Value.cells]
        rw [e1]
        cases ha : isAgg te.td with
        | true =>
          rw [ha] at h
          simp only [cond_true] at h
          cases hd : (Nat.beq f 0 && Nat.beq te.size 2) with
          | false => rw [hd] at h; cases h
          | true =>
            rw [hd] at h
            simp only [cond_true, Option.some.injEq] at h
            subst h
            simp only [Bool.and_eq_true] at hd
            have e2 := nat_beq hd.1
            have e3 := nat_beq hd.2
            refine ⟨fun _ => ⟨.agg #[.int k (l.getD i (0, 0)).1, .int k (l.getD i (0, 0)).2], ?_, rfl, by rw [e3]; rfl, fun j hj => ?_⟩, fun hh => by cases hh⟩
            · exact VR_pair
            · rw [ecs, e2]
              rw [e3] at hj
              rcases (by omega : j = 0 ∨ j = 1) with rfl | rfl
              · simp only [Nat.add_zero, Nat.mul_comm i 2, hfl.1]; rfl
              · simp only [Nat.add_zero, Nat.mul_comm i 2, hfl.2]; rfl
        | false =>
          rw [ha] at h
          refine ⟨(fun hh => by cases hh), fun _ => ?_⟩
          simp only [cond_false] at h
          cases h0 : Nat.beq f 0 with
          | true =>
            rw [h0] at h
            simp only [cond_true, Option.some.injEq] at h
            subst h
            refine ⟨_, VR_int, ?_⟩
            rw [ecs, nat_beq h0, Nat.add_zero, Nat.mul_comm i 2, hfl.1]
          | false =>
            rw [h0] at h
            simp only [cond_false] at h
            cases h1 : Nat.beq f 1 with
            | false => rw [h1] at h; cases h
            | true =>
              rw [h1] at h
              simp only [cond_true, Option.some.injEq] at h
              subst h
              refine ⟨_, VR_int, ?_⟩
              rw [ecs, nat_beq h1, Nat.mul_comm i 2, hfl.2]

theorem set_self {α : Type} (x : α) : ∀ (l : List α) (i : Nat), l[i]? = some x → l.set i x = l
  | [], i, h => by simp at h
  | a :: l, 0, h => by simp at h; subst h; rfl
  | a :: l, i + 1, h => by simp at h; simp [set_self x l i h]

theorem set_two {α : Type} (a b : α) : ∀ (j : Nat) (l : List α), j + 2 ≤ l.length → (l.set j a).set (j + 1) b = l.take j ++ [a, b] ++ l.drop (j + 2)
  | 0, x :: y :: l, _ => by simp
  | 0, [], h => by simp at h
  | 0, [x], h => by simp at h
  | j + 1, [], h => by simp at h
  | j + 1, x :: l, h => by
    have := set_two a b j l (by simpa using h)
    simp only [List.set_cons_succ, List.take_succ_cons, List.cons_append, List.drop_succ_cons, this]

theorem set_split {α : Type} (l : List α) (i : Nat) (x : α) (h : i < l.length) : ∃ pre m post, l = pre ++ m :: post ∧ pre.length = i ∧ l.set i x = pre ++ x :: post := by
  refine ⟨l.take i, l[i], l.drop (i + 1), ?_, by simp; omega, ?_⟩
  · rw [← List.drop_eq_getElem_cons h, List.take_append_drop]
  · rw [List.set_eq_take_append_cons_drop, if_pos h]

theorem setCellOf_ok {v : AV} {z : Value} (hz : VR A w ρ v z) (hc : z.cells = #[z] ∨ ∃ q, z.cells = #[q]) (hv : ∃ q, z.cells = #[q]) : LeafOk A w ρ (setCellOf v) (z.cells[0]?.getD undef) := by
  intro r q q' u h hu
  obtain ⟨y, hy⟩ := hv
  have hy0 : z.cells[0]?.getD undef = y := by rw [hy]; rfl
  rw [hy0]
  have other : ∀ (hq : q.comp = false), (bif Nat.beq r 0 && Nat.beq v.sz 1 then some v else none) = some q' → ∃ pre m post u', u.cells.toList = pre ++ m :: post ∧ pre.length = r ∧ VR A w ρ q' u' ∧ u'.cells.toList = pre ++ y :: post ∧ q'.sz = q.sz := by
    intro hq h
    cases hb : (Nat.beq r 0 && Nat.beq v.sz 1) with
    | false => rw [hb] at h; cases h
    | true =>
      rw [hb] at h
      simp only [cond_true, Option.some.injEq] at h
      subst h
      simp only [Bool.and_eq_true] at hb
      have e0 := nat_beq hb.1
      subst e0
      have hs := VR.single hu hq
      exact ⟨[], u, [], z, by rw [hs]; rfl, rfl, hz, by rw [hy]; rfl, by rw [nat_beq hb.2, ← VR.size _ _ hu, hs]; rfl⟩
  cases q
  case ints n k l =>
    simp only [setCellOf] at h
    cases v <;> simp only [] at h <;> try (cases h; done)
    rename_i k' x
    simp only [VR] at hu hz
    subst hz
    obtain ⟨hl, rfl⟩ := hu
    cases hb : (Nat.blt r n && decide (k = k')) with
    | false => rw [hb] at h; cases h
    | true =>
      rw [hb] at h
      simp only [cond_true, Option.some.injEq] at h
      subst h
      simp only [Bool.and_eq_true, decide_eq_true_eq] at hb
      obtain ⟨h1, rfl⟩ := hb
      have hr := nat_blt h1
      have ey : y = .int k x := by simpa [Value.cells] using hy.symm
      subst ey
      obtain ⟨pre, m, post, a, b, c⟩ := set_split (l.map (Value.int k)) r (.int k x) (by simp; omega)
      refine ⟨pre, m, post, .agg ((l.set r x).map (Value.int k)).toArray, by simpa [Value.cells] using a, b, VR_ints (by simpa using hl), ?_, rfl⟩
      simp only [Value.cells]
      rw [← c, List.map_set]
  case prs => simp [setCellOf] at h
  case st => simp [setCellOf] at h
  all_goals exact other rfl (by simpa only [setCellOf] using h)

theorem writes_eq {α : Type} {cs cs' ys pre mid post : List α} {o : Nat} (h1 : cs = pre ++ mid ++ post) (h2 : pre.length = o) (h3 : mid.length = ys.length) (h4 : cs' = pre ++ ys ++ post) :
    cs'.length = cs.length ∧ o + ys.length ≤ cs.length ∧ (∀ j, j < ys.length → cs'[o + j]? = ys[j]?) ∧ (∀ j, j < o ∨ o + ys.length ≤ j → cs'[j]? = cs[j]?) := by
  subst h1 h2 h4
  refine ⟨by simp [h3], by simp; omega, fun j hj => ?_, fun j hj => ?_⟩
  · rw [List.append_assoc, List.getElem?_append_right (by omega), List.getElem?_append_left (by omega)]
    congr 1; omega
  · rcases hj with hj | hj
    · rw [List.append_assoc, List.getElem?_append_left hj, List.append_assoc, List.getElem?_append_left hj]
    · rw [List.getElem?_append_right (by simp; omega), List.getElem?_append_right (by simp; omega)]
      simp [h3]

def Laid (A : Nat → Prop) (w : World) (ρ : Rho) (te : TE) (i e f : Nat) (c c' : AV) (u y : Value) : Prop :=
  ∃ u', VR A w ρ c' u' ∧ c'.sz = c.sz ∧ y.cells.size = te.size ∧ u'.cells.size = u.cells.size ∧ i * e + f + te.size ≤ u.cells.size ∧
      (∀ j, j < te.size → u'.cells[i * e + f + j]? = y.cells[j]?) ∧ (∀ j, j < i * e + f ∨ i * e + f + te.size ≤ j → u'.cells[j]? = u.cells[j]?)

/-- What is laid, as cells. -/
theorem setA_spec {te : TE} {i e f : Nat} {c v c' : AV} {u y : Value} (h : setA te i e f c v = some c') (hu : VR A w ρ c u) (hy : VR A w ρ v y) (hb : e = 0 ∨ i < c.cnt) (hsz : isAgg te.td = false → te.size = 1) :
    Laid A w ρ te i e f c c' u y := by
  have fin : ∀ (u' : Value) (pre mid post : List Value), VR A w ρ c' u' → c'.sz = c.sz → y.cells.size = te.size → u.cells.toList = pre ++ mid ++ post → pre.length = i * e + f →
      mid.length = y.cells.toList.length → u'.cells.toList = pre ++ y.cells.toList ++ post → Laid A w ρ te i e f c c' u y := fun u' pre mid post h1 h2 h3 h4 h5 h6 h7 => by
    obtain ⟨a1, a2, a3, a4⟩ := writes_eq h4 h5 h6 h7
    rw [Array.length_toList] at a2 a3 a4
    rw [Array.length_toList, Array.length_toList] at a1
    refine ⟨u', h1, h2, h3, a1, by rw [← h3]; exact a2, fun j hj => ?_, fun j hj => ?_⟩
    · have := a3 j (by omega)
      simpa using this
    · have := a4 j (by omega)
      simpa using this
  cases e with
  | zero =>
    simp only [setA] at h
    cases ha : isAgg te.td with
    | true =>
      rw [ha] at h
      simp only [cond_true] at h
      cases hs : Nat.beq v.sz te.size with
      | false => rw [hs] at h; cases h
      | true =>
        rw [hs] at h
        simp only [cond_true] at h
        obtain ⟨pre, mid, post, u', a, b, c1, d, e1, g⟩ := repl_spec v y hy c f c' u h hu
        exact fin u' pre mid post d g ((VR.size _ _ hy).trans (nat_beq hs)) a (by omega) c1 e1
    | false =>
      rw [ha] at h
      simp only [cond_false] at h
      have h1 := hsz ha
      by_cases hv : ∃ q, y.cells = #[q]
      · obtain ⟨q, hq⟩ := hv
        obtain ⟨pre, m, post, u', a, b, d, e1, g⟩ := relf_spec (setCellOf v) (y.cells[0]?.getD undef) (setCellOf_ok hy (.inr ⟨q, hq⟩) ⟨q, hq⟩) c f c' u h hu
        have hq0 : y.cells[0]?.getD undef = q := by rw [hq]; rfl
        rw [hq0] at e1
        exact fin u' pre [m] post d g (by rw [hq, h1]; rfl) (by rw [a]; simp) (by omega) (by rw [hq]; rfl) (by rw [e1, hq]; simp)
      · exfalso
        have key : ∀ (r : Nat) (q q' : AV), setCellOf v r q = some q' → v.sz = 1 := by
          intro r q q' hh
          have other : (bif Nat.beq r 0 && Nat.beq v.sz 1 then some v else none) = some q' → v.sz = 1 := by
            intro h
            cases hb : (Nat.beq r 0 && Nat.beq v.sz 1) with
            | false => rw [hb] at h; cases h
            | true => simp only [Bool.and_eq_true] at hb; exact nat_beq hb.2
          cases q
          case ints n k l => cases v <;> simp only [setCellOf] at hh <;> first | (cases hh; done) | rfl
          case prs => simp [setCellOf] at hh
          case st => simp [setCellOf] at hh
          all_goals exact other (by simpa only [setCellOf] using hh)
        obtain ⟨r, q, q', hq⟩ := relf_some (setCellOf v) c f c' h
        have hs := key r q q' hq
        rw [← VR.size _ _ hy] at hs
        obtain ⟨x, hx⟩ := Array.size_eq_one_iff.1 hs
        exact hv ⟨x, hx⟩
  | succ e =>
    have hi : i < c.cnt := hb.resolve_left (by omega)
    cases c <;> simp only [setA] at h <;> try (cases h; done)
    case ints n k l =>
      cases v <;> simp only [] at h <;> try (cases h; done)
      rename_i k' x
      simp only [VR] at hu hy
      subst hy
      obtain ⟨hl, rfl⟩ := hu
      cases hc : (Nat.beq (e + 1) 1 && Nat.beq f 0 && !isAgg te.td && decide (k = k')) with
      | false => rw [hc] at h; cases h
      | true =>
        rw [hc] at h
        simp only [cond_true, Option.some.injEq] at h
        subst h
        simp only [Bool.and_eq_true, Bool.not_eq_true', decide_eq_true_eq] at hc
        obtain ⟨⟨⟨h1, h2⟩, h3⟩, rfl⟩ := hc
        have e1 := nat_beq h1
        have e2 := nat_beq h2
        simp only [AV.cnt] at hi
        obtain ⟨pre, m, post, a, b, c⟩ := set_split (l.map (Value.int k)) i (.int k x) (by simp; omega)
        refine fin (.agg ((l.set i x).map (Value.int k)).toArray) pre [m] post (VR_ints (by simpa using hl)) rfl (by rw [hsz h3]; rfl) ?_ (by rw [e1, e2]; omega) rfl ?_
        · show l.map (Value.int k) = _
          rw [a]; simp
        · show (l.set i x).map (Value.int k) = _
          rw [List.map_set, c]; simp [Value.cells]
    case prs n k l =>
      simp only [VR] at hu
      obtain ⟨hl, rfl⟩ := hu
      simp only [AV.cnt] at hi
      cases hc : Nat.beq (e + 1) 2 with
      | false => rw [hc] at h; cases h
      | true =>
        have e1 := nat_beq hc
        rw [hc] at h
        simp only [cond_true] at h
        have hlen : (l.flatMap fun p => [Value.int k p.1, Value.int k p.2]).length = 2 * l.length := flatMap_len l
        have one : ∀ (x : Int) (p : Int × Int) (g : Nat), g < 2 → y = .int k x → te.size = 1 → f = g → c' = .prs n k (l.set i p) →
            ((l.set i p).flatMap fun p => [Value.int k p.1, Value.int k p.2]) = (l.flatMap fun p => [Value.int k p.1, Value.int k p.2]).set (2 * i + g) (.int k x) → Laid A w ρ te i (e + 1) f (.prs n k l) c' (.agg (l.flatMap fun p => [Value.int k p.1, Value.int k p.2]).toArray) y := by
          intro x p g hg hyx ht hf hc' hs
          subst hyx hf hc'
          obtain ⟨pre, m, post, a, b, c⟩ := set_split (l.flatMap fun p => [Value.int k p.1, Value.int k p.2]) (2 * i + f) (.int k x) (by omega)
          refine fin (.agg ((l.set i p).flatMap fun p => [Value.int k p.1, Value.int k p.2]).toArray) pre [m] post (VR_prs (by simpa using hl)) rfl (by rw [ht]; rfl) ?_ (by rw [e1]; omega) rfl ?_
          · show (l.flatMap fun p => [Value.int k p.1, Value.int k p.2]) = _
            rw [a]; simp
          · show ((l.set i p).flatMap fun p => [Value.int k p.1, Value.int k p.2]) = _
            rw [hs, c]; simp [Value.cells]
        have first : ∀ (x : Int), ((l.set i (x, (l.getD i (0, 0)).2)).flatMap fun p => [Value.int k p.1, Value.int k p.2]) = (l.flatMap fun p => [Value.int k p.1, Value.int k p.2]).set (2 * i + 0) (.int k x) := by
          intro x
          rw [flatMap_set l _ _ i (by omega)]
          have := (flatMap_get (k := k) l i (by omega)).2
          rw [set_self, Nat.add_zero]
          rw [List.getElem?_set_ne (by omega), this]
        have second : ∀ (x : Int), ((l.set i ((l.getD i (0, 0)).1, x)).flatMap fun p => [Value.int k p.1, Value.int k p.2]) = (l.flatMap fun p => [Value.int k p.1, Value.int k p.2]).set (2 * i + 1) (.int k x) := by
          intro x
          rw [flatMap_set l _ _ i (by omega)]
          have := (flatMap_get (k := k) l i (by omega)).1
          rw [set_self _ _ _ this]
        have scalar : ∀ (k' : IntKind) (x : Int), v = .int k' x → (bif isAgg te.td || !decide (k = k') then none
            else bif Nat.beq f 0 then some (AV.prs n k (l.set i (x, (l.getD i (0, 0)).2)))
            else bif Nat.beq f 1 then some (.prs n k (l.set i ((l.getD i (0, 0)).1, x))) else none) = some c' → Laid A w ρ te i (e + 1) f (.prs n k l) c' (.agg (l.flatMap fun p => [Value.int k p.1, Value.int k p.2]).toArray) y := by
          clear h
          intro k' x hv h
          subst hv
          simp only [VR] at hy
          cases hd : (isAgg te.td || !decide (k = k')) with
          | true => rw [hd] at h; cases h
          | false =>
            rw [hd] at h
            simp only [cond_false] at h
            simp only [Bool.or_eq_false_iff, Bool.not_eq_false', decide_eq_true_eq] at hd
            obtain ⟨h3, rfl⟩ := hd
            cases h0 : Nat.beq f 0 with
            | true =>
              rw [h0] at h
              simp only [cond_true, Option.some.injEq] at h
              exact one x _ 0 (by omega) hy (hsz h3) (nat_beq h0) h.symm (first x)
            | false =>
              rw [h0] at h
              simp only [cond_false] at h
              cases h1 : Nat.beq f 1 with
              | false => rw [h1] at h; cases h
              | true =>
                rw [h1] at h
                simp only [cond_true, Option.some.injEq] at h
                exact one x _ 1 (by omega) hy (hsz h3) (nat_beq h1) h.symm (second x)
        split at h
        · rename_i k1 x k2 z
          cases hd : (isAgg te.td && Nat.beq f 0 && Nat.beq te.size 2 && decide (k = k1) && decide (k = k2)) with
          | false => rw [hd] at h; cases h
          | true =>
            rw [hd] at h
            simp only [cond_true, Option.some.injEq] at h
            subst h
            simp only [Bool.and_eq_true, decide_eq_true_eq] at hd
            obtain ⟨⟨⟨⟨_, h2⟩, h3⟩, rfl⟩, rfl⟩ := hd
            have e2 := nat_beq h2
            have e3 := nat_beq h3
            simp only [VR, CRs] at hy
            obtain ⟨cs, ⟨v1, cs1, rfl, ⟨v2, cs2, rfl, rfl, rfl⟩, rfl⟩, rfl⟩ := hy
            have hfs := flatMap_set (k := k) l x z i (by omega)
            have hl2 : 2 * i + 2 ≤ (l.flatMap fun p => [Value.int k p.1, Value.int k p.2]).length := by omega
            refine fin (.agg ((l.set i (x, z)).flatMap fun p => [Value.int k p.1, Value.int k p.2]).toArray) ((l.flatMap fun p => [Value.int k p.1, Value.int k p.2]).take (2 * i))
              (((l.flatMap fun p => [Value.int k p.1, Value.int k p.2]).drop (2 * i)).take 2) ((l.flatMap fun p => [Value.int k p.1, Value.int k p.2]).drop (2 * i + 2))
              (VR_prs (by simpa using hl)) rfl (by rw [e3]; rfl) ?_ (by rw [e1, e2, List.length_take]; omega) (by rw [List.length_take, List.length_drop, hlen]; show min 2 _ = 2; omega) ?_
            · show (l.flatMap fun p => [Value.int k p.1, Value.int k p.2]) = _
              rw [List.append_assoc, ← List.drop_drop, List.take_append_drop, List.take_append_drop]
            · show ((l.set i (x, z)).flatMap fun p => [Value.int k p.1, Value.int k p.2]) = _
              rw [hfs]
              exact set_two _ _ _ _ hl2
        · rename_i k' x
          exact scalar k' x rfl h
        · cases h
end
end Go.Proofs.Ytdkebceiljdgjaa
