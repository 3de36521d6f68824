/- From a contract to the walk that a row asks for. Own work. -/
import Derived.Test.YtbakldcbaikgpaaGreatDoorBase
import Derived.WalkKit
import Derived.ProofKit
import Derived.OpenShut
import Derived.ShutString
import Derived.ChangeOld
import Derived.Below
namespace Go.Proofs.YtbakldcbaikgpaaGreatDoor
open Go.ChangeShapes Go.WideShapes Go.ChangeAt Go.RowKit

def Live (w : World) : Nat → Prop := fun b => isC w b
theorem live_lt {w : World} {b : Nat} (h : Live w b) : b < w.heap.size := by
  obtain ⟨cs, e, fr, h⟩ := h
  exact (Array.getElem?_eq_some_iff.1 h).1
theorem glob_none {P : Program} (h : P.globalNamed "errors.errorType" = none) (hg : globs = []) (A : Nat → Prop) (w : World) : Glob P A w := by
  refine ⟨fun g k l hl => ?_, fun i v hi => ?_⟩
  · rw [hg] at hl; cases hl
  · unfold globP at hi
    rw [h] at hi
    simp at hi

theorem calls_true {P : Program} {f : FuncId} {fn : Func} {c : Code} {en : Ent} {args : List AV} {vs : List Value} {w : World} (hf : P.funcs[f]? = some fn) (hname : (fn.name == "runtime.NumGoroutine") = false) (hb : fn.body = some c)
    (h : EntOk P f en) (hgo : en.go AV 0 args some = some (.bool true)) (hv : VRs (Live w) w ρ0 args vs) (hG : Glob P (Live w) w) (hwr : en.wr = false := by rfl) : Calls P f vs.toArray w fun e w' => e = .returned (.bool true) ∧ Below w.heap.size w w' := by
  have hi := h.ok hwr 0 args _ hgo (Live w) w vs (fun _ h => live_lt h) hv hG
  unfold Inv at hi
  rw [run_callFunc_body hf hname hb] at hi
  refine hi.mono ?_
  rintro e w' ⟨x, rfl, hm, Ar, bs, _, _, _, hr⟩
  have hx : x = .bool true := by
    simp only [RR, R1, VR] at hr
    exact hr.1
  subst hx
  exact ⟨rfl, hm.os, hm.tape, hm.output, hm.size, fun k hk => hm.block k hk (fun h => h) (fun h => h)⟩

/-- A slice of integers that came in. -/
theorem vr_row {w : World} {k : IntKind} {a : Option Addr} {len cap : Nat} {zs : List Int}
    (h : (a = none ∧ len = 0 ∧ cap = 0 ∧ zs = []) ∨ ∃ x, a = some x ∧ len ≤ cap ∧ cap ≤ maxLen ∧ zs.length = cap ∧ (∀ i, i < zs.length → w.cell? (x.add i) = some (.int k (zs.getD i 0))) ∧ ∀ n ∈ zs, (Lit.int k n).wf = true) :
    ∃ l : List Int, l.length = len ∧ (∀ n ∈ l, (Lit.int k n).wf = true) ∧ VR (Live w) w ρ0 (.sl (.ints len k l)) (.slice a len cap) := by
  rcases h with ⟨rfl, rfl, rfl, rfl⟩ | ⟨x, rfl, hl, _, hz, hcell, hwf⟩
  · refine ⟨[], rfl, by simp, ?_⟩
    simp only [VR]
    exact ⟨.agg #[], ⟨rfl, rfl⟩, .inl ⟨rfl, none, 0, rfl⟩⟩
  · refine ⟨zs.take len, by rw [List.length_take]; omega, fun n hn => hwf n (List.mem_of_mem_take hn), ?_⟩
    simp only [VR]
    refine ⟨.agg ((zs.take len).map (Value.int k)).toArray, ⟨by rw [List.length_take]; omega, rfl⟩, ?_⟩
    by_cases h0 : len = 0
    · subst h0
      exact .inl ⟨rfl, some x, cap, rfl⟩
    · right
      have hz0 : 0 < zs.length := by omega
      obtain ⟨b, off, rfl, hc⟩ := ints_at hcell hz0
      refine ⟨b, off, cap, ?_, rfl, hl, fun i q hq => ?_⟩
      · have h1 := hcell 0 hz0
        rw [addr_add, Nat.add_zero] at h1
        unfold World.cell? at h1
        exact isC_cell (ad := ⟨b, off, none⟩) (by unfold World.cell?; exact h1)
      · simp only [Value.cells, List.getElem?_toArray, List.getElem?_map] at hq
        rw [Option.map_eq_some_iff] at hq
        obtain ⟨n, hn, rfl⟩ := hq
        have hi := (List.getElem?_eq_some_iff.1 hn).1
        rw [List.length_take] at hi
        have h1 := hcell i (by omega)
        rw [addr_add] at h1
        rw [h1]
        rw [List.getElem?_take, if_pos (by omega)] at hn
        simp [List.getD, hn]
end Go.Proofs.YtbakldcbaikgpaaGreatDoor
