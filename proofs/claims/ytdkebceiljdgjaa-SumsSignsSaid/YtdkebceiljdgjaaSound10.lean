/- Each operation of the evaluator is one of the machine (fifth part): lengths, parts laid, lists made. Own work, program-independent. -/
import Derived.Test.YtdkebceiljdgjaaSound9
namespace Go.Proofs.Ytdkebceiljdgjaa
open Go.RowKit (Below)

section
variable {P : Program} {E : Env} {W0 : World} {Wr : Nat → Prop} {A A' : Nat → Prop} {ρ ρ' : Rho} {s : AS} {a : Act} {w w' : World} {o : Oper} {f : Eff}

/-- A builtin's run, its operands being values. -/
theorem exec_builtin {c : Call} {b : Builtin} (ho : o.op = .call c) (hc : c.callee = .builtin b) : ∃ consts, execOp a.eval o = builtin b c.argTypes o.type consts (c.args.map a.eval) := by
  refine ⟨c.args.map (fun | .const _ => true | _ => false), ?_⟩
  unfold execOp
  rw [ho]
  simp only [resolve, hc]
  rfl

theorem evs_rel (h : SimR W0 Wr E.nt A ρ s a w) : ∀ (xs : List Operand) (ps : List AV), xs.map (ev s.t) = ps → (∀ p ∈ ps, p.live = true) → VRs A w ρ ps (xs.map a.eval)
  | [], _, rfl, _ => by simp [VRs]
  | x :: xs, _, rfl, hl => by
    simp only [List.map_cons, VRs]
    exact ⟨_, _, (h.ev x).vr (hl _ (by simp)), evs_rel h xs _ rfl (fun p hp => hl p (by simp at hp ⊢; exact .inr hp)), rfl⟩

theorem sound_len (hT : TabOk P E.ty) {c : Call} {x : Operand} (ho : o.op = .call c) (hc : c.callee = .builtin .len) (hx : c.args.toList = [x]) (h : SimR W0 Wr E.nt A ρ s a w) (hd : okDst E o.dst = true)
    (hf : bltA E s o.dst .len c.argTypes.toList [x] some = some f) : Gives P o a w (After W0 Wr E.nt s a o.dst f) := by
  simp only [bltA] at hf
  obtain ⟨ht, hf⟩ := cond_some hf
  unfold isSliceT at ht
  split at ht
  case h_2 => cases ht
  rename_i t ts hts
  split at ht
  case h_2 => cases ht
  rename_i e _ _ _ _ hte
  have hu := (hT _ _ hte).und
  simp only [UndOk] at hu
  obtain ⟨consts, he⟩ := exec_builtin (a := a) ho hc
  have ha : c.args.map a.eval = #[a.eval x] := by
    apply Array.ext'
    rw [Array.toList_map, hx]; rfl
  have ht0 : c.argTypes[0]? = some t := by rw [← Array.getElem?_toList, hts]; rfl
  have hxr := h.ev x
  have fin : ∀ {n : Nat} {rd : List Nat}, (∃ ad cap, a.eval x = .slice ad n cap) → Gives P o a w (After W0 Wr E.nt s a o.dst ⟨.int .i64 n, [], [], rd⟩) := by
    rintro n rd ⟨ad, cap, hv⟩
    refine Gives.val (x := .int .i64 n) ?_ (After.val h (okDst_lt hd) (VR_int (A := A) (w := w) (ρ := ρ)).sr rfl rfl rfl)
    rw [he, ha, hv]
    simp [builtin, Builtin.len_, ht0, run_underlying hu, goInt]
  split at hf
  · rename_i id hv
    split at hf
    case h_2 => cases hf
    rename_i blk hm
    simp only [Option.some.injEq] at hf
    subst hf
    rw [hv] at hxr
    simp only [SR, VR] at hxr
    obtain ⟨ob, n, h1, h2⟩ := hxr
    obtain ⟨ob', u, mm, g1, _⟩ := h.mem _ _ hm
    rw [h1] at g1
    simp only [Option.some.injEq, Prod.mk.injEq] at g1
    obtain ⟨_, rfl⟩ := g1
    simp only at h2
    refine fin ?_
    rcases h2 with ⟨h2, h3⟩ | ⟨b, cap, _, h3, _⟩
    · rw [h2]; exact ⟨_, _, h3⟩
    · exact ⟨_, _, h3⟩
  · rename_i c' hv
    simp only [Option.some.injEq] at hf
    subst hf
    rw [hv] at hxr
    simp only [SR, VR] at hxr
    obtain ⟨u, h1, h2⟩ := hxr
    refine fin ?_
    rcases h2 with ⟨h2, ad, cap, h3⟩ | ⟨b, off, cap, _, h3, _⟩
    · rw [h2]; exact ⟨_, _, h3⟩
    · exact ⟨_, _, h3⟩
  · rename_i hv
    simp only [Option.some.injEq] at hf
    subst hf
    rw [hv] at hxr
    simp only [SR, VR] at hxr
    exact fin (n := 0) ⟨_, _, hxr⟩
  · cases hf

theorem list_two {α β : Type} {g : α → β} {xs : List α} {y z : β} (h : xs.map g = [y, z]) : ∃ p q, xs = [p, q] ∧ g p = y ∧ g q = z := by
  match xs, h with
  | [p, q], h => simp at h; exact ⟨p, q, rfl, h⟩
theorem list_three {α β : Type} {g : α → β} {xs : List α} {y z u : β} (h : xs.map g = [y, z, u]) : ∃ p q r, xs = [p, q, r] ∧ g p = y ∧ g q = z ∧ g r = u := by
  match xs, h with
  | [p, q, r], h => simp at h; exact ⟨p, q, r, rfl, h⟩

theorem sound_max {c : Call} (ho : o.op = .call c) (hc : c.callee = .builtin .max) (h : SimR W0 Wr E.nt A ρ s a w) (hd : okDst E o.dst = true)
    (hf : bltA E s o.dst .max c.argTypes.toList c.args.toList some = some f) : Gives P o a w (After W0 Wr E.nt s a o.dst f) := by
  simp only [bltA] at hf
  split at hf
  case h_2 => cases hf
  rename_i v hv
  simp only [Option.some.injEq] at hf
  subst hf
  obtain ⟨consts, he⟩ := exec_builtin (a := a) ho hc
  unfold maxA at hv
  split at hv
  · rename_i k x k' y hm
    obtain ⟨hk, hv'⟩ := cond_some hv
    clear hv
    simp only [decide_eq_true_eq] at hk
    simp only [Option.some.injEq] at hv'
    subst hk hv'
    obtain ⟨p, q, hl, h1, h2⟩ := list_two hm
    have e1 := h.ev p
    have e2 := h.ev q
    rw [h1] at e1
    rw [h2] at e2
    have ha : c.args.toList.map a.eval = [.int k x, .int k y] := by rw [hl]; simp [e1.int, e2.int]
    refine Gives.val (x := .int k (if y > x then y else x)) ?_ (After.val h (okDst_lt hd) (VR_int (A := A) (w := w) (ρ := ρ)).sr rfl rfl rfl)
    rw [he]
    simp [builtin, Builtin.max_, ha, Builtin.max2]
  · rename_i k x k' y k'' z hm
    obtain ⟨hk, hv'⟩ := cond_some hv
    clear hv
    simp only [Bool.and_eq_true, decide_eq_true_eq] at hk
    simp only [Option.some.injEq] at hv'
    obtain ⟨rfl, rfl⟩ := hk
    subst hv'
    obtain ⟨p, q, r, hl, h1, h2, h3⟩ := list_three hm
    have e1 := h.ev p
    have e2 := h.ev q
    have e3 := h.ev r
    rw [h1] at e1
    rw [h2] at e2
    rw [h3] at e3
    have ha : c.args.toList.map a.eval = [.int k x, .int k y, .int k z] := by rw [hl]; simp [e1.int, e2.int, e3.int]
    refine Gives.val (x := .int k (if z > (if y > x then y else x) then z else (if y > x then y else x))) ?_ (After.val h (okDst_lt hd) (VR_int (A := A) (w := w) (ρ := ρ)).sr rfl rfl rfl)
    rw [he]
    simp [builtin, Builtin.max_, ha, Builtin.max2]
  · cases hv

theorem sound_min {c : Call} (ho : o.op = .call c) (hc : c.callee = .builtin .min) (h : SimR W0 Wr E.nt A ρ s a w) (hd : okDst E o.dst = true)
    (hf : bltA E s o.dst .min c.argTypes.toList c.args.toList some = some f) : Gives P o a w (After W0 Wr E.nt s a o.dst f) := by
  simp only [bltA] at hf
  split at hf
  case h_2 => cases hf
  rename_i v hv
  simp only [Option.some.injEq] at hf
  subst hf
  obtain ⟨consts, he⟩ := exec_builtin (a := a) ho hc
  unfold minA at hv
  split at hv
  · rename_i k x k' y hm
    obtain ⟨hk, hv'⟩ := cond_some hv
    clear hv
    simp only [decide_eq_true_eq] at hk
    simp only [Option.some.injEq] at hv'
    subst hk hv'
    obtain ⟨p, q, hl, h1, h2⟩ := list_two hm
    have e1 := h.ev p
    have e2 := h.ev q
    rw [h1] at e1
    rw [h2] at e2
    have ha : c.args.toList.map a.eval = [.int k x, .int k y] := by rw [hl]; simp [e1.int, e2.int]
    refine Gives.val (x := .int k (if y < x then y else x)) ?_ (After.val h (okDst_lt hd) (VR_int (A := A) (w := w) (ρ := ρ)).sr rfl rfl rfl)
    rw [he]
    simp [builtin, Builtin.min_, ha, Builtin.min2]
  · rename_i k x k' y k'' z hm
    obtain ⟨hk, hv'⟩ := cond_some hv
    clear hv
    simp only [Bool.and_eq_true, decide_eq_true_eq] at hk
    simp only [Option.some.injEq] at hv'
    obtain ⟨rfl, rfl⟩ := hk
    subst hv'
    obtain ⟨p, q, r, hl, h1, h2, h3⟩ := list_three hm
    have e1 := h.ev p
    have e2 := h.ev q
    have e3 := h.ev r
    rw [h1] at e1
    rw [h2] at e2
    rw [h3] at e3
    have ha : c.args.toList.map a.eval = [.int k x, .int k y, .int k z] := by rw [hl]; simp [e1.int, e2.int, e3.int]
    refine Gives.val (x := .int k (if z < (if y < x then y else x) then z else (if y < x then y else x))) ?_ (After.val h (okDst_lt hd) (VR_int (A := A) (w := w) (ρ := ρ)).sr rfl rfl rfl)
    rw [he]
    simp [builtin, Builtin.min_, ha, Builtin.min2]
  · cases hv

/-! ### Cells filled in -/

theorem foldl_write (off : Nat) : ∀ (vs : List Value) (i : Nat) (cs : Array Value), off + i + vs.length ≤ cs.size →
    (((vs.zipIdx i).foldl (fun (cs : Array Value) (x : Value × Nat) => cs.setIfInBounds (off + x.2) x.1) cs).size = cs.size ∧
      (∀ j, j < vs.length → ((vs.zipIdx i).foldl (fun (cs : Array Value) (x : Value × Nat) => cs.setIfInBounds (off + x.2) x.1) cs)[off + i + j]? = vs[j]?) ∧
      (∀ j, j < off + i ∨ off + i + vs.length ≤ j → ((vs.zipIdx i).foldl (fun (cs : Array Value) (x : Value × Nat) => cs.setIfInBounds (off + x.2) x.1) cs)[j]? = cs[j]?))
  | [], i, cs, _ => by simp
  | v :: vs, i, cs, h => by
    simp only [List.length_cons] at h
    obtain ⟨h1, h2, h3⟩ := foldl_write off vs (i + 1) (cs.setIfInBounds (off + i) v) (by simp; omega)
    simp only [List.zipIdx_cons, List.foldl_cons]
    refine ⟨by rw [h1]; simp, fun j hj => ?_, fun j hj => ?_⟩
    · cases j with
      | zero =>
        rw [h3 _ (.inl (by omega)), Nat.add_zero, Array.getElem?_setIfInBounds_self_of_lt (by omega)]
        rfl
      | succ j =>
        have := h2 j (by simpa using hj)
        rw [show off + i + (j + 1) = off + (i + 1) + j by omega, this]
        simp
    · simp only [List.length_cons] at hj
      rw [h3 j (by omega), Array.getElem?_setIfInBounds_ne (by omega)]

theorem fill_cons {place : Nat → Option (Nat × Nat)} {cells : Array Value} {i off size : Nat} {v : Value} {rest : List (Nat × Value)} (hp : place i = some (off, size)) (hs : v.cells.size = size) (hl : off + size ≤ cells.size) :
    ∃ cs', Instr.fill place cells ((i, v) :: rest) = Instr.fill place cs' rest ∧ cs'.size = cells.size ∧ (∀ j, j < size → cs'[off + j]? = v.cells[j]?) ∧ (∀ j, j < off ∨ off + size ≤ j → cs'[j]? = cells[j]?) := by
  obtain ⟨h1, h2, h3⟩ := foldl_write off v.cells.toList 0 cells (by simp; omega)
  refine ⟨_, ?_, h1, fun j hj => ?_, fun j hj => ?_⟩
  · simp only [Instr.fill, hp]
    rw [if_neg (by simp only [hs]; simp; omega)]
    congr 1
    rw [← Array.foldl_toList, Array.toList_zipIdx]
  · have := h2 j (by simp; omega)
    simpa using this
  · have := h3 j (by simp; omega)
    simpa using this

theorem toArray_at (L : List Value) (j : Nat) : L.toArray[j]? = L[j]? := by simp

theorem ext_ints {k : IntKind} {l : List Int} {i : Nat} {n : Int} {cs : Array Value} (hi : i < l.length) (h1 : ∀ j, j < 1 → cs[i + j]? = (#[Value.int k n] : Array Value)[j]?)
    (h2 : ∀ j, j < i ∨ i + 1 ≤ j → cs[j]? = (l.map (Value.int k)).toArray[j]?) : cs = ((l.set i n).map (Value.int k)).toArray := by
  apply Array.ext_getElem?
  intro j
  have h2 : ∀ j, j < i ∨ i + 1 ≤ j → cs[j]? = (l.map (Value.int k))[j]? := fun j hj => (h2 j hj).trans (toArray_at _ j)
  refine Eq.trans ?_ (toArray_at _ j).symm
  rw [List.getElem?_map, List.getElem?_set]
  by_cases hj : i = j
  · subst hj
    have := h1 0 (by omega)
    simp only [Nat.add_zero] at this
    rw [this]
    simp [hi]
  · rw [if_neg hj, h2 j (by omega), List.getElem?_map]

/-- The parts of whole numbers. -/
theorem fill_ints (h : SimR W0 Wr E.nt A ρ s a w) {k : IntKind} {place : Nat → Option (Nat × Nat)} : ∀ (ps : List (Nat × Operand)) (l l' : List Int), (∀ i, i < l.length → place i = some (i, 1)) → buildInts s.t k l ps = some l' →
    l'.length = l.length ∧ Instr.fill place (l.map (Value.int k)).toArray (ps.map fun x => (x.1, a.eval x.2)) = some (l'.map (Value.int k)).toArray
  | [], l, l', _, hb => by
    simp only [buildInts, Option.some.injEq] at hb
    subst hb
    exact ⟨rfl, rfl⟩
  | (i, x) :: ps, l, l', hp, hb => by
    simp only [buildInts] at hb
    split at hb
    case h_2 => cases hb
    rename_i k' n hv
    obtain ⟨hc, hb⟩ := cond_some hb
    simp only [Bool.and_eq_true, decide_eq_true_eq] at hc
    obtain ⟨hk, hi⟩ := hc
    have hi := nat_blt hi
    have hx := h.ev x
    rw [hv, ← hk] at hx
    obtain ⟨cs', h1, _, h3, h4⟩ := fill_cons (place := place) (cells := (l.map (Value.int k)).toArray) (v := a.eval x) (rest := ps.map fun x => (x.1, a.eval x.2)) (hp i hi) (by rw [hx.int]; rfl) (by simp; omega)
    have he : cs' = ((l.set i n).map (Value.int k)).toArray := ext_ints hi (by rw [hx.int] at h3; exact h3) h4
    obtain ⟨g1, g2⟩ := fill_ints h ps (l.set i n) l' (fun j hj => hp j (by simpa using hj)) hb
    refine ⟨by simpa using g1, ?_⟩
    simp only [List.map_cons]
    rw [h1, he]
    exact g2

theorem ext_prs {k : IntKind} {l : List (Int × Int)} {i : Nat} {x y : Int} {cs : Array Value} (hi : i < l.length) (h1 : ∀ j, j < 2 → cs[i * 2 + j]? = (#[Value.int k x, Value.int k y] : Array Value)[j]?)
    (h2 : ∀ j, j < i * 2 ∨ i * 2 + 2 ≤ j → cs[j]? = (l.flatMap fun p => [Value.int k p.1, Value.int k p.2]).toArray[j]?) : cs = ((l.set i (x, y)).flatMap fun p => [Value.int k p.1, Value.int k p.2]).toArray := by
  apply Array.ext_getElem?
  intro j
  have hlen := flatMap_len (k := k) l
  have h2 : ∀ j, j < i * 2 ∨ i * 2 + 2 ≤ j → cs[j]? = (l.flatMap fun p => [Value.int k p.1, Value.int k p.2])[j]? := fun j hj => (h2 j hj).trans (toArray_at _ j)
  refine Eq.trans ?_ (toArray_at _ j).symm
  rw [flatMap_set l x y i hi]
  rcases Nat.lt_or_ge j (i * 2) with hj | hj
  · rw [h2 j (.inl hj), List.getElem?_set_ne (by omega), List.getElem?_set_ne (by omega)]
  · rcases Nat.lt_or_ge j (i * 2 + 2) with hj' | hj'
    · rcases (by omega : j = i * 2 + 0 ∨ j = i * 2 + 1) with rfl | rfl
      · rw [h1 0 (by omega), List.getElem?_set_ne (by omega), show i * 2 + 0 = 2 * i by omega, List.getElem?_set_self (by omega)]
        rfl
      · rw [h1 1 (by omega), show i * 2 + 1 = 2 * i + 1 by omega, List.getElem?_set_self (by rw [List.length_set, hlen]; omega)]
        rfl
    · rw [h2 j (.inr hj'), List.getElem?_set_ne (by omega), List.getElem?_set_ne (by omega)]

/-- The parts of pairs. -/
theorem fill_prs (h : SimR W0 Wr E.nt A ρ s a w) {k : IntKind} {place : Nat → Option (Nat × Nat)} : ∀ (ps : List (Nat × Operand)) (l l' : List (Int × Int)), (∀ i, i < l.length → place i = some (i * 2, 2)) → buildPrs s.t k l ps = some l' →
    l'.length = l.length ∧ Instr.fill place (l.flatMap fun p => [Value.int k p.1, Value.int k p.2]).toArray (ps.map fun x => (x.1, a.eval x.2)) = some (l'.flatMap fun p => [Value.int k p.1, Value.int k p.2]).toArray
  | [], l, l', _, hb => by
    simp only [buildPrs, Option.some.injEq] at hb
    subst hb
    exact ⟨rfl, rfl⟩
  | (i, x) :: ps, l, l', hp, hb => by
    simp only [buildPrs] at hb
    split at hb
    case h_2 => cases hb
    rename_i k1 u k2 v hv
    obtain ⟨hc, hb⟩ := cond_some hb
    simp only [Bool.and_eq_true, decide_eq_true_eq] at hc
    obtain ⟨⟨hk1, hk2⟩, hi⟩ := hc
    have hi := nat_blt hi
    have hx := h.ev x
    rw [hv, ← hk1, ← hk2] at hx
    simp only [SR, VR, CRs] at hx
    obtain ⟨_, ⟨_, _, rfl, ⟨_, _, rfl, rfl, rfl⟩, rfl⟩, hx⟩ := hx
    have hx' : a.eval x = .agg #[.int k u, .int k v] := hx
    have hlen := flatMap_len (k := k) l
    obtain ⟨cs', h1, _, h3, h4⟩ := fill_cons (place := place) (cells := (l.flatMap fun p => [Value.int k p.1, Value.int k p.2]).toArray) (v := a.eval x) (rest := ps.map fun x => (x.1, a.eval x.2)) (hp i hi) (by rw [hx']; rfl)
      (by rw [List.size_toArray]; omega)
    have he : cs' = ((l.set i (u, v)).flatMap fun p => [Value.int k p.1, Value.int k p.2]).toArray := ext_prs hi (by rw [hx'] at h3; exact h3) h4
    obtain ⟨g1, g2⟩ := fill_prs h ps (l.set i (u, v)) l' (fun j hj => hp j (by simpa using hj)) hb
    refine ⟨by simpa using g1, ?_⟩
    simp only [List.map_cons]
    rw [h1, he]
    exact g2
end
end Go.Proofs.Ytdkebceiljdgjaa
