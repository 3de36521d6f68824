/- Arguments of the laws: lists of pairs that came in. Own work. -/
import Derived.Test.YtbakldcbaikgpaaGreatDoorArg0
import Derived.Test.YtbakldcbaikgpaaGreatDoorFlyA
import Derived.ChangeArms
import Derived.SizedLaws
namespace Go.Proofs.YtbakldcbaikgpaaGreatDoor
open Go.ChangeShapes Go.WideShapes Go.ChangeAt Go.RowKit
set_option maxRecDepth 100000
theorem pairs_cells {w : World} {b : Nat} : ∀ (X : List PZ) (o : Nat), (∀ i, i < X.length → w.cell? ⟨b, o + i * 2, none⟩ = some (.int .u64 (gp X i).1) ∧ w.cell? ⟨b, o + (i * 2 + 1), none⟩ = some (.int .u64 (gp X i).2)) →
    ∀ (j : Nat) (q : Value), (X.flatMap fun p => [Value.int .u64 p.1, Value.int .u64 p.2])[j]? = some q → w.cell? ⟨b, o + j, none⟩ = some q
  | [], o, _, j, q, h => by simp at h
  | p :: X, o, hc, j, q, h => by
    have h0 := hc 0 (by simp)
    rw [List.flatMap_cons] at h
    match j with
    | 0 => simp at h; rw [← h]; simpa [gp] using h0.1
    | 1 => simp at h; rw [← h]; simpa [gp] using h0.2
    | j + 2 =>
      have hj : (X.flatMap fun p => [Value.int .u64 p.1, Value.int .u64 p.2])[j]? = some q := by simpa using h
      have := pairs_cells X (o + 2) (fun i hi => by
        have h1 := hc (i + 1) (by simp; omega)
        have e : gp (p :: X) (i + 1) = gp X i := rfl
        rw [e] at h1
        rw [show o + 2 + i * 2 = o + (i + 1) * 2 by omega, show o + 2 + (i * 2 + 1) = o + ((i + 1) * 2 + 1) by omega]
        exact h1) j q hj
      rw [show o + (j + 2) = o + 2 + j by omega]
      exact this
section
variable {H : Type} {enc : TypeId × Value → H} {P : Program} {w : World} {base : Nat} {spare : Nat → Bool} {held : Bool}
/-- A list of pairs that came in. -/
theorem vr_pairs {t e u : TypeId} {f0 f1 : Field} {fuel : Nat} {ad : Option Addr} {len cap : Nat} {x : DataW H × List MemPlace} (ht : P.underlying t = some (.slice e)) (he : P.underlying e = some (.struct #[f0, f1])) (hu : P.underlying u = some (.int .u64))
    (t0 : f0.type = u) (t1 : f1.type = u) (o0 : f0.offset = 0) (o1 : f1.offset = 1) (hc : P.cellsOf e = 2) (hcu : P.cellsOf u = 1)
    (h : DataW.trod enc P w base spare held fuel t (Value.slice ad len cap).cells.toList = some x) :
    ∃ X : List PZ, X.length = len ∧ (∀ p ∈ X, inU p.1 = true ∧ inU p.2 = true) ∧ VR (Live w) w ρ0 (.sl (.prs len .u64 X)) (.slice ad len cap) ∧ (len = 0 ∨ ∃ elems rest, x.1 = .slice elems rest ∧ elems.length = len) := by
  rcases DataW.trod_slice ht h with ⟨hcs, _⟩ | ⟨a, len', cap', elems, rest, n, _, hcs, hx, _, hl, _, hlen, hel, _, _⟩
  · simp [Value.cells] at hcs
    obtain ⟨rfl, rfl, rfl⟩ := hcs
    refine ⟨[], rfl, by simp, ?_, .inl rfl⟩
    simp only [VR]
    exact ⟨.agg #[], ⟨rfl, rfl⟩, .inl ⟨rfl, none, 0, rfl⟩⟩
  · simp [Value.cells] at hcs
    obtain ⟨rfl, rfl, rfl⟩ := hcs
    have each : ∀ i, i < len → ∃ p : PZ, inU p.1 = true ∧ inU p.2 = true ∧ w.cell? ((a.add (i * 2)).add 0) = some (.int .u64 p.1) ∧ w.cell? ((a.add (i * 2)).add 1) = some (.int .u64 p.2) := by
      intro i hi
      have h1 := hel i hi
      rw [List.getElem?_eq_getElem (by omega), hc, Option.bind_eq_some_iff] at h1
      obtain ⟨cs, hcs, hy⟩ := h1
      obtain ⟨_, hl2, hcell⟩ := World.cells?_some hcs
      match cs, hl2 with
      | [c0, c1], _ =>
        obtain ⟨xs, m, _, _, _, hxs, hf⟩ := DataW.trod_struct he hy
        have g0 := hf 0 f0 rfl
        have g1 := hf 1 f1 rfl
        rw [t0, o0, hcu, List.getElem?_eq_getElem (by rw [hxs]; show 0 < 2; omega)] at g0
        rw [t1, o1, hcu, List.getElem?_eq_getElem (by rw [hxs]; show 1 < 2; omega)] at g1
        obtain ⟨y0, e0, _, w0⟩ := DataW.trod_int hu g0
        obtain ⟨y1, e1, _, w1⟩ := DataW.trod_int hu g1
        simp at e0 e1
        refine ⟨(y0, y1), wf_u w0, wf_u w1, ?_, ?_⟩
        · rw [hcell 0 (by omega), ← e0]; rfl
        · rw [hcell 1 (by omega), ← e1]; rfl
    have mk : ∀ m, m ≤ len → ∃ X : List PZ, X.length = m ∧ (∀ p ∈ X, inU p.1 = true ∧ inU p.2 = true) ∧ ∀ i, i < m → w.cell? ((a.add (i * 2)).add 0) = some (.int .u64 (gp X i).1) ∧ w.cell? ((a.add (i * 2)).add 1) = some (.int .u64 (gp X i).2) := by
      intro m
      induction m with
      | zero => exact fun _ => ⟨[], rfl, by simp, fun i hi => by omega⟩
      | succ m ih =>
        intro hm
        obtain ⟨X, h1, h2, h3⟩ := ih (by omega)
        obtain ⟨p, p1, p2, p3, p4⟩ := each m (by omega)
        refine ⟨X ++ [p], by simp [h1], fun q hq => ?_, fun i hi => ?_⟩
        · rcases List.mem_append.1 hq with hq | hq
          · exact h2 q hq
          · rw [List.mem_singleton.1 hq]; exact ⟨p1, p2⟩
        · by_cases hi' : i < m
          · have e : gp (X ++ [p]) i = gp X i := by
              unfold gp
              rw [List.getD_eq_getElem?_getD, List.getD_eq_getElem?_getD, List.getElem?_append_left (by omega)]
            rw [e]
            exact h3 i hi'
          · obtain rfl : i = m := by omega
            have e : gp (X ++ [p]) i = p := by
              unfold gp
              rw [List.getD_eq_getElem?_getD, List.getElem?_append_right (by omega), h1]
              simp
            rw [e]
            exact ⟨p3, p4⟩
    obtain ⟨X, h1, h2, h3⟩ := mk len (Nat.le_refl _)
    refine ⟨X, h1, h2, ?_, .inr ⟨_, _, congrArg Prod.fst hx, by simpa using hlen⟩⟩
    simp only [VR]
    refine ⟨_, ⟨h1, rfl⟩, ?_⟩
    by_cases h0 : len = 0
    · exact .inl ⟨h0, _, _, by rw [h0]⟩
    · right
      have c0 := (h3 0 (by omega)).1
      obtain ⟨b, off, spot⟩ := a
      have hspot : spot = none := by simpa [Addr.add] using World.cell?_spot c0
      subst hspot
      simp only [addr_add] at h3 c0
      refine ⟨b, off, cap, isC_cell c0, rfl, hl, fun i q hq => ?_⟩
      simp only [Value.cells, List.getElem?_toArray] at hq
      exact pairs_cells X off (fun i hi => by simpa [Nat.add_assoc] using h3 i (by omega)) i q hq
end
end Go.Proofs.YtbakldcbaikgpaaGreatDoor
