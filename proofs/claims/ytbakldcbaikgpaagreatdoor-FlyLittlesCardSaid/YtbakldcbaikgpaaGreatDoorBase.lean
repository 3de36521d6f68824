/- The evaluator over this program: environments, entries by a plain function. Own work. -/
import Derived.Test.YtbakldcbaikgpaaGreatDoorEv4
import Derived.Test.YtbakldcbaikgpaaGreatDoorTypes
import Derived.Test.YtbakldcbaikgpaaGreatDoorProg
namespace Go.Proofs.YtbakldcbaikgpaaGreatDoor
set_option maxRecDepth 100000
theorem tabOk : TabOk Tryz.prog tyTab := tab_ok tyTab (by kernel_rfl)
theorem mixed : Tryz.prog.follows .mixedOrders = true := by kernel_rfl
def env (nt : Nat) (orc : List (FuncId × Ent)) (lorc : List (Nat × LEnt)) : Env := { nt := nt, n := 0, ty := tyTab, orc := orc, hint := [], lorc := lorc }
/-- An entry by a plain function: a guard, and the answer. -/
def entS (frz : Bool) (spec : List AV → Option (Bool × AV)) : Ent :=
  { frz := frz
    wr := false
    go := fun _ _ l k => match spec l with
      | some (b, r) => chk b (k r)
      | none => none }
theorem entS_law (frz : Bool) (spec : List AV → Option (Bool × AV)) : EntLaw (entS frz spec) := by
  intro R n l k
  simp only [entS]
  split
  · rename_i b r _
    cases b <;> rfl
  · rfl
theorem entS_some {frz : Bool} {spec : List AV → Option (Bool × AV)} {n : Nat} {l : List AV} {r : AV} (h : (entS frz spec).go AV n l some = some r) : spec l = some (true, r) := by
  simp only [entS] at h
  split at h
  · rename_i b r' hs
    cases b
    · cases h
    · simp only [chk, cond_true, Option.some.injEq] at h
      subst h
      exact hs
  · cases h
def bodyC (fn : Func) : Code := fn.body.getD .skip
def blkOf (id : Nat) : Code → Option Code
  | .seq x y => match blkOf id x with
    | some c => some c
    | none => blkOf id y
  | .cond _ x y => match blkOf id x with
    | some c => some c
    | none => blkOf id y
  | .block j x => bif Nat.beq j id then some x else blkOf id x
  | .loop x => blkOf id x
  | _ => none
def loopOf (id : Nat) (c : Code) : Code :=
  match blkOf id c with
  | some (.loop y) => y
  | _ => .skip
section
variable {P : Program} {nt : Nat} {lo : List (Nat × LEnt)} {c : Code}
theorem loops_none (h : loopsIn lo c = []) : LoopsOk P nt lo c := by
  intro x hx
  rw [h] at hx
  cases hx
theorem loops_one {id : Nat} {y : Code} (h : loopsIn lo c = [(id, y)]) (hl : LoopOk P nt lo id y) : LoopsOk P nt lo c := by
  intro x hx
  rw [h] at hx
  simp only [List.mem_singleton] at hx
  subst hx
  exact hl
theorem loops_two {id id' : Nat} {y y' : Code} (h : loopsIn lo c = [(id, y), (id', y')]) (hl : LoopOk P nt lo id y) (hl' : LoopOk P nt lo id' y') : LoopsOk P nt lo c := by
  intro x hx
  rw [h] at hx
  simp only [List.mem_cons, List.not_mem_nil, or_false] at hx
  rcases hx with rfl | rfl
  · exact hl
  · exact hl'
end
theorem orc_nil {nt : Nat} {lo : List (Nat × LEnt)} : OrcOk Tryz.prog (env nt [] lo) := fun f en h => by cases h
theorem orc_cons {nt : Nat} {f : FuncId} {en : Ent} {orc : List (FuncId × Ent)} {lo : List (Nat × LEnt)} (h : EntOk Tryz.prog f en) (ho : OrcOk Tryz.prog (env nt orc lo)) : OrcOk Tryz.prog (env nt ((f, en) :: orc) lo) := by
  intro g en' hg
  simp only [env, lk] at hg
  cases hb : Nat.beq f g with
  | true =>
    rw [hb] at hg
    simp only [cond_true, Option.some.injEq] at hg
    subst hg
    rw [← nat_beq hb]
    exact h
  | false =>
    rw [hb] at hg
    exact ho g en' hg
/-- A function keeps a plain contract. -/
theorem contractS {f : FuncId} {fn : Func} {orc : List (FuncId × Ent)} {lo : List (Nat × LEnt)} {frz : Bool} {spec : List AV → Option (Bool × AV)} (hf : Tryz.prog.funcs[f]? = some fn) (hO : OrcOk Tryz.prog (env fn.ntmps orc lo)) (hnt : Nat.ble fn.ntmps 1000 = true)
    (hname : (fn.name == "runtime.NumGoroutine") = false) (hb : fn.body = some (bodyC fn)) (hL : LoopsOk Tryz.prog fn.ntmps lo (bodyC fn))
    (hgo : ∀ args r, spec args = some (true, r) → Nat.ble args.length fn.ntmps = true ∧ (frz = true ∨ flatA r = true) ∧ callA (env fn.ntmps orc lo) (bodyC fn) fn.results.toList (slots 0 args) some = some r) : EntOk Tryz.prog f (entS frz spec) := by
  refine contract (E := env fn.ntmps orc lo) mixed tabOk hO (Nat.le_of_ble_eq_true hnt) hf hname hb rfl hL (entS_law _ _) rfl fun n args r h => ?_
  obtain ⟨h1, h2, h3⟩ := hgo args r (entS_some h)
  exact ⟨Nat.le_of_ble_eq_true h1, h2, 0, h3⟩
/-- An entry to which something is handed over to be written: a guard, the answer, what was written. -/
def entM (frz : Bool) (spec : List AV → Option (Bool × AV × List AV)) : Ent :=
  { frz := frz
    wr := true
    go := fun _ _ l k => match spec l with
      | some (b, r, cs) => chk b (k (.mt r cs))
      | none => none }
theorem entM_law (frz : Bool) (spec : List AV → Option (Bool × AV × List AV)) : EntLaw (entM frz spec) := by
  intro R n l k
  simp only [entM]
  split
  · rename_i b r cs _
    cases b <;> rfl
  · rfl
/-- A function that writes what is handed over keeps a plain contract. -/
theorem contractMS {f : FuncId} {fn : Func} {orc : List (FuncId × Ent)} {lo : List (Nat × LEnt)} {frz : Bool} {spec : List AV → Option (Bool × AV × List AV)} (hf : Tryz.prog.funcs[f]? = some fn) (hO : OrcOk Tryz.prog (env fn.ntmps orc lo)) (hnt : Nat.ble fn.ntmps 1000 = true)
    (hname : (fn.name == "runtime.NumGoroutine") = false) (hb : fn.body = some (bodyC fn)) (hL : LoopsOk Tryz.prog fn.ntmps lo (bodyC fn))
    (hgo : ∀ args r cs, spec args = some (true, r, cs) → Nat.ble args.length fn.ntmps = true ∧ (frz = true ∨ flatM (.mt r cs) = true) ∧ callM (env fn.ntmps orc lo) (bodyC fn) fn.results.toList args some = some (.mt r cs)) : EntOk Tryz.prog f (entM frz spec) := by
  refine contractM (E := env fn.ntmps orc lo) mixed tabOk hO (Nat.le_of_ble_eq_true hnt) hf hname hb rfl hL (entM_law _ _) rfl fun n args r h => ?_
  simp only [entM] at h
  split at h
  · rename_i b r' cs hs
    cases b
    · cases h
    · simp only [chk, cond_true, Option.some.injEq] at h
      subst h
      obtain ⟨h1, h2, h3⟩ := hgo args r' cs hs
      exact ⟨Nat.le_of_ble_eq_true h1, h2, 0, h3⟩
  · cases h
/-- A loop's law, by a plain function of one round. -/
theorem loopS {nt : Nat} {orc : List (FuncId × Ent)} {lo lo' : List (Nat × LEnt)} {y : Code} {id : Nat} {le : LEnt} (hO : OrcOk Tryz.prog (env nt orc lo')) (hnt : Nat.ble nt 1000 = true) (hle : lk lo id = some le) (hL : LoopsOk Tryz.prog nt lo' y)
    (step : (R : Type) → List AV → (List AV → Option R) → (Nat → List AV → Option R) → Option R)
    (hstep : ∀ (R : Type) vs k1 k2 (r : R), step R vs k1 k2 = some r → runA (env nt orc lo') y id (stateOf le.inn vs) (bodyK le id k1 k2) = some r)
    (hgo : ∀ (R : Type) n vs kk (r : R), le.go R n vs kk = some r → ∃ m, loopN (step R) m vs kk = some r) : LoopOk Tryz.prog nt lo id (.loop y) := by
  refine loop_ok (E := env nt [] lo) (E' := env nt orc lo') mixed tabOk hO (Nat.le_of_ble_eq_true hnt) rfl hle hL (fun R _ => step R) (fun R n vs k1 k2 r h => ⟨0, hstep R vs k1 k2 r h⟩) (fun R n vs kk r h => ?_)
  obtain ⟨m, hm⟩ := hgo R n vs kk r h
  exact ⟨0, m, hm⟩
/-! ### Answers that branch -/
inductive Br where
  | leaf (r : AV)
  | br (b : Bool) (x y : Br)
  | chk (b : Bool) (x : Br)
def Br.run {R : Type} (k : AV → Option R) : Br → Option R
  | .leaf r => k r
  | .br b x y => bif b then x.run k else y.run k
  | .chk b x => Proofs.YtbakldcbaikgpaaGreatDoor.chk b (x.run k)
def Br.flat : Br → Bool
  | .leaf r => flatA r
  | .br _ x y => x.flat && y.flat
  | .chk _ x => x.flat
theorem Br.run_bind {R : Type} (k : AV → Option R) : ∀ (t : Br), t.run k = (t.run some).bind k
  | .leaf r => rfl
  | .br b x y => by cases b <;> simp only [Br.run, cond_true, cond_false] <;> exact Br.run_bind k _
  | .chk b x => by cases b <;> simp only [Br.run, Proofs.YtbakldcbaikgpaaGreatDoor.chk, cond_true, cond_false, Option.bind_none] ; exact Br.run_bind k x
theorem Br.flat_run : ∀ (t : Br) (r : AV), t.flat = true → t.run some = some r → flatA r = true
  | .leaf r, r', hf, h => by
    simp only [Br.run, Option.some.injEq] at h
    subst h
    exact hf
  | .br b x y, r, hf, h => by
    simp only [Br.flat, Bool.and_eq_true] at hf
    cases b
    · exact Br.flat_run y r hf.2 h
    · exact Br.flat_run x r hf.1 h
  | .chk b x, r, hf, h => by
    cases b
    · cases h
    · exact Br.flat_run x r hf h
def entB (frz : Bool) (spec : List AV → Option Br) : Ent :=
  { frz := frz
    wr := false
    go := fun _ _ l k => match spec l with
      | some t => t.run k
      | none => none }
/-- A function keeps a contract that branches. -/
theorem contractB {f : FuncId} {fn : Func} {orc : List (FuncId × Ent)} {lo : List (Nat × LEnt)} {frz : Bool} {spec : List AV → Option Br} (hf : Tryz.prog.funcs[f]? = some fn) (hO : OrcOk Tryz.prog (env fn.ntmps orc lo)) (hnt : Nat.ble fn.ntmps 1000 = true)
    (hname : (fn.name == "runtime.NumGoroutine") = false) (hb : fn.body = some (bodyC fn)) (hL : LoopsOk Tryz.prog fn.ntmps lo (bodyC fn))
    (hgo : ∀ args t, spec args = some t → Nat.ble args.length fn.ntmps = true ∧ (frz = true ∨ t.flat = true) ∧ ∀ r, t.run some = some r → callA (env fn.ntmps orc lo) (bodyC fn) fn.results.toList (slots 0 args) some = some r) : EntOk Tryz.prog f (entB frz spec) := by
  refine contract (E := env fn.ntmps orc lo) mixed tabOk hO (Nat.le_of_ble_eq_true hnt) hf hname hb rfl hL (fun R n l k => ?_) ?_ fun n args r h => ?_
  · simp only [entB]
    split
    · exact Br.run_bind k _
    · rfl
  · rfl
  · simp only [entB] at h
    split at h
    · rename_i t ht
      obtain ⟨h1, h2, h3⟩ := hgo args t ht
      refine ⟨Nat.le_of_ble_eq_true h1, ?_, 0, h3 r h⟩
      rcases h2 with h2 | h2
      · exact .inl h2
      · exact .inr (Br.flat_run t r h2 h)
    · cases h
end Go.Proofs.YtbakldcbaikgpaaGreatDoor
