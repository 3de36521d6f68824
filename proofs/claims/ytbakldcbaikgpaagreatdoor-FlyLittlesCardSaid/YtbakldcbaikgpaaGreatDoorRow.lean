/- From a contract to the walk that a row asks for. Own work. -/
import Derived.Test.YtbakldcbaikgpaaGreatDoorBase
import Derived.WalkKit
import Derived.ProofKit
import Derived.OpenShut
import Derived.ShutString
import Derived.ChangeOld
import Derived.Below
namespace Go.Proofs.YtbakldcbaikgpaaGreatDoor
open Go.ChangeShapes Go.WideShapes Go.ChangeAt Go.RowKit
def Live (w : World) : Nat → Prop := fun b => isC w b
theorem live_lt {w : World} {b : Nat} (h : Live w b) : b < w.heap.size := by
  obtain ⟨cs, e, fr, h⟩ := h
  exact (Array.getElem?_eq_some_iff.1 h).1
theorem calls_true {P : Program} {f : FuncId} {fn : Func} {c : Code} {en : Ent} {args : List AV} {vs : List Value} {w : World} (hf : P.funcs[f]? = some fn) (hname : (fn.name == "runtime.NumGoroutine") = false) (hb : fn.body = some c)
    (h : EntOk P f en) (hgo : en.go AV 0 args some = some (.bool true)) (hv : VRs (Live w) w ρ0 args vs) (hG : Glob P (Live w) w) (hwr : en.wr = false := by rfl) : Calls P f vs.toArray w fun e w' => e = .returned (.bool true) ∧ Below w.heap.size w w' := by
  have hi := h.ok hwr 0 args _ hgo (Live w) w vs (fun _ h => live_lt h) hv hG
  unfold Inv at hi
  rw [run_callFunc_body hf hname hb] at hi
  refine hi.mono ?_
  rintro e w' ⟨x, rfl, hm, Ar, bs, _, _, _, hr⟩
  have hx : x = .bool true := by
    simp only [RR, R1, VR] at hr
    exact hr.1
  subst hx
  exact ⟨rfl, hm.os, hm.tape, hm.output, hm.size, fun k hk => hm.block k hk (fun h => h) (fun h => h)⟩
end Go.Proofs.YtbakldcbaikgpaaGreatDoor
