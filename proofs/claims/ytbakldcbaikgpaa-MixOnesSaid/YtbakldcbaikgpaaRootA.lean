/- The texts Root1, Root2, Root3, Root4, Root5, joined. Own work. -/
import Derived.Test.YtbakldcbaikgpaaTurnA
import Derived.MapKept
import Derived.WalkKit
import Derived.ProofKit
import Derived.Below
import Derived.Carry
import Derived.Laws.ResultCell
import Derived.Laws.Rows

/- turn.Roots: how the points that are remembered are found. Own work. -/
namespace Go.Proofs.Ytbakldcbaikgpaa
set_option maxRecDepth 100000

theorem vr_two {A : Nat → Prop} {w : World} {ρ : Rho} (k : IntKind) (a b : Int) : VR A w ρ (.st [.int k a, .int k b]) (.agg #[.int k a, .int k b]) := by
  simp only [VR]
  refine ⟨[.int k a, .int k b], ?_, rfl⟩
  simp only [CRs, VR]
  exact ⟨_, _, rfl, ⟨_, _, rfl, rfl, rfl⟩, rfl⟩
theorem eqPart (a b c d : Int) (w : World) : (Op.equal 115 (.agg #[.int .i64 a, .int .i64 b]) (.agg #[.int .i64 c, .int .i64 d])).run Try.prog w = .ok (a == c && (b == d && true)) w :=
  eqT_sound (A := fun _ => False) (ρ := fun _ => none) (w := w) (P := Try.prog) tabOk 8 9991 115 (.st [.int .i64 a, .int .i64 b]) (.st [.int .i64 c, .int .i64 d]) _ _ _ (by kernel_rfl) (vr_two _ _ _) (vr_two _ _ _)
theorem chkPart (e : Bool) (a b : Int) (w : World) : (Instr.checkKey e 10000 115 (.agg #[.int .i64 a, .int .i64 b])).run Try.prog w = .ok () w := by kernel_rfl

/-- A point that is remembered is found, or none. -/
theorem run_findAsking (k n : Int) (w : World) : ∀ (es : List MapEntry) (i : Nat), (∀ e ∈ es, ∃ k n : Int, e.key = .agg #[.int .i64 k, .int .i64 n]) →
    ∃ r, (Instr.findAsking 115 (.agg #[.int .i64 k, .int .i64 n]) es i).run Try.prog w = .ok r w ∧ (∀ j v, r = some (j, v) → ∃ e ∈ es, e.key = .agg #[.int .i64 k, .int .i64 n] ∧ v = e.val) ∧ (r = none → ∀ e ∈ es, e.key ≠ .agg #[.int .i64 k, .int .i64 n])
  | [], i, _ => ⟨none, rfl, fun j v h => (by cases h), fun _ e he => by cases he⟩
  | e :: es, i, h => by
    obtain ⟨c, d, he⟩ := h e (by simp)
    have hrun : (Op.equal 115 (.agg #[.int .i64 k, .int .i64 n]) e.key).run Try.prog w = .ok (k == c && (n == d && true)) w := by rw [he]; exact eqPart k n c d w
    obtain ⟨r, h1, h2, h9⟩ := run_findAsking k n w es (i + 1) (fun e' he' => h e' (by simp [he']))
    cases hb : (k == c && (n == d && true)) with
    | true =>
      refine ⟨some (i, e.val), ?_, fun j v hv => ?_, fun hn => by cases hn⟩
      · unfold Instr.findAsking
        simp only [Sem.run_bind, hrun, hb, Result.andThen_ok, if_true, Sem.run_pure]
      · simp only [Option.some.injEq, Prod.mk.injEq] at hv
        obtain ⟨-, rfl⟩ := hv
        simp only [Bool.and_true, Bool.and_eq_true, beq_iff_eq] at hb
        obtain ⟨rfl, rfl⟩ := hb
        exact ⟨e, by simp, he, rfl⟩
    | false =>
      refine ⟨r, ?_, fun j v hv => ?_, fun hn e' he' hk => ?_⟩
      · unfold Instr.findAsking
        simp only [Sem.run_bind, hrun, hb, Result.andThen_ok, Bool.false_eq_true, if_false]
        exact h1
      · obtain ⟨e', h3, h4⟩ := h2 j v hv
        exact ⟨e', by simp [h3], h4⟩
      · rcases List.mem_cons.1 he' with rfl | he'
        · rw [he] at hk
          simp only [Value.agg.injEq, Array.mk.injEq, List.cons.injEq, Value.int.injEq, true_and, and_true] at hk
          obtain ⟨rfl, rfl⟩ := hk
          simp at hb
        · exact h9 hn e' he' hk
theorem run_findKey (k n : Int) (w : World) (es : List MapEntry) (h : ∀ e ∈ es, ∃ k n : Int, e.key = .agg #[.int .i64 k, .int .i64 n]) :
    ∃ r, (Instr.findKey 115 (.agg #[.int .i64 k, .int .i64 n]) es).run Try.prog w = .ok r w ∧ (∀ j v, r = some (j, v) → ∃ e ∈ es, e.key = .agg #[.int .i64 k, .int .i64 n] ∧ v = e.val) ∧ (r = none → ∀ e ∈ es, e.key ≠ .agg #[.int .i64 k, .int .i64 n]) := by
  have hu : Try.prog.underlying 115 = some (.struct (match Try.prog.underlying 115 with | some (.struct fs) => fs | _ => #[])) := by kernel_rfl
  generalize (match Try.prog.underlying 115 with | some (.struct fs) => fs | _ => #[]) = fs at hu
  cases es with
  | nil =>
    refine ⟨none, ?_, fun j v h => (by cases h), fun _ e he => by cases he⟩
    unfold Instr.findKey
    simp only [Sem.run_bind, run_underlying hu, Result.andThen_ok, Instr.findNow, Sem.run_pure]
  | cons e es =>
    obtain ⟨r, h1, h2⟩ := run_findAsking k n w (e :: es) 0 h
    refine ⟨r, ?_, h2⟩
    obtain ⟨c, d, he⟩ := h e (by simp)
    unfold Instr.findKey
    simp only [Sem.run_bind, run_underlying hu, Result.andThen_ok, Instr.findNow, Instr.sameNow]
    exact h1
theorem run_lookup (k n : Int) (w : World) {hb c : Nat} {es : Array MapEntry} (hm : w.heap[hb]? = some (.map es c)) (h : ∀ e ∈ es.toList, ∃ k n : Int, e.key = .agg #[.int .i64 k, .int .i64 n]) :
    ∃ v ok, (Instr.lookup 75 (.map (some hb)) (.agg #[.int .i64 k, .int .i64 n]) true).run Try.prog w = .ok (.tuple #[v, .bool ok]) w ∧
      (ok = true → ∃ e ∈ es.toList, e.key = .agg #[.int .i64 k, .int .i64 n] ∧ v = e.val) ∧ (ok = false → v = .agg #[.int .u64 0, .int .u64 0] ∧ ∀ e ∈ es.toList, e.key ≠ .agg #[.int .i64 k, .int .i64 n]) := by
  have hu : Try.prog.underlying 75 = some (.map 115 25) := by kernel_rfl
  obtain ⟨r, h1, h2, h3⟩ := run_findKey k n w es.toList h
  have hg : (getObj hb).run Try.prog w = .ok (.map es c) w := by simp [getObj, Sem.run, hm]
  cases r with
  | none =>
    have hz : (zeroValue 25).run Try.prog w = .ok (.agg #[.int .u64 0, .int .u64 0]) w := by kernel_rfl
    refine ⟨_, false, ?_, (fun h => by cases h), fun _ => ⟨rfl, h3 rfl⟩⟩
    unfold Instr.lookup
    simp only [Sem.run_bind, run_underlying hu, hg, Result.andThen_ok, Sem.run_pure, chkPart, h1, hz, if_true]
  | some x =>
    obtain ⟨j, v⟩ := x
    refine ⟨v, true, ?_, fun _ => h2 j v rfl, fun h => by cases h⟩
    unfold Instr.lookup
    simp only [Sem.run_bind, run_underlying hu, hg, Result.andThen_ok, Sem.run_pure, chkPart, h1, if_true]
/-- A point that is not there is laid at the end. -/
theorem run_mapUpdate (k n : Int) (v : Value) (w : World) {hb c : Nat} {es : Array MapEntry} (hm : w.heap[hb]? = some (.map es c)) (h : ∀ e ∈ es.toList, ∃ k n : Int, e.key = .agg #[.int .i64 k, .int .i64 n])
    (hno : ∀ e ∈ es.toList, e.key ≠ .agg #[.int .i64 k, .int .i64 n]) :
    (Instr.mapUpdate 75 (.map (some hb)) (.agg #[.int .i64 k, .int .i64 n]) v).run Try.prog w =
      (setObj hb (.map (es.push { key := .agg #[.int .i64 k, .int .i64 n], val := v, born := c }) (c + 1))).run Try.prog w := by
  have hu : Try.prog.underlying 75 = some (.map 115 25) := by kernel_rfl
  obtain ⟨r, h1, h2, _⟩ := run_findKey k n w es.toList h
  have hg : (getObj hb).run Try.prog w = .ok (.map es c) w := by simp [getObj, Sem.run, hm]
  cases r with
  | none =>
    unfold Instr.mapUpdate
    simp only [Sem.run_bind, run_underlying hu, hg, Result.andThen_ok, chkPart, h1]
  | some x =>
    obtain ⟨j, u⟩ := x
    obtain ⟨e, h3, h4, _⟩ := h2 j u rfl
    exact absurd h4 (hno e h3)
end Go.Proofs.Ytbakldcbaikgpaa

/- turn.NewRoots, by hand. Own work. -/
namespace Go.Proofs.Ytbakldcbaikgpaa
open Go.RowKit Go.ChangeShapes Go.WideShapes
set_option maxRecDepth 100000

theorem newRoots (w : World) : Calls Try.prog 25 #[] w fun e w' => e = .returned (.pointer (some ⟨w.heap.size + 1, 0, none⟩)) ∧ w' = (w.alloc (.map #[] 0)).alloc (.cells #[.map (some w.heap.size)] 77) := by
  have hmm := @run_makeMap Try.prog
  go_enter Try.func25, Try.ntmps25
  go_wp2
  go_ret
  exact ⟨by simp, rfl⟩
end Go.Proofs.Ytbakldcbaikgpaa

/- (*turn.Roots).At, by hand. Own work. -/
namespace Go.Proofs.Ytbakldcbaikgpaa
open Go.RowKit Go.ChangeShapes Go.WideShapes
set_option maxRecDepth 100000

/-- Lists of variables are not of nothing. -/
theorem globs_ne : ∀ g k l, lk globs g = some (k, l) → l ≠ [] := by
  intro g k l h
  simp [globs, lk] at h
theorem glob_isC {P : Program} {A : Nat → Prop} {w : World} (h : Glob P A w) : Glob P (fun b => A b ∧ isC w b) w := by
  refine ⟨fun g k l hg => ?_, fun i v hi => ?_⟩
  · obtain ⟨h1, h2⟩ := h.lists g k l hg
    refine ⟨⟨h1, ?_⟩, h2⟩
    cases l with
    | nil => exact absurd rfl (globs_ne g k [] hg)
    | cons x l =>
      have := h2 0 (.int k x) (by simp)
      rw [Nat.zero_add] at this
      exact isC_cell this
  · obtain ⟨h1, h2⟩ := h.cells i v hi
    exact ⟨⟨h1, isC_cell h2⟩, h2⟩
/-- A call of a function that keeps a contract, of values alone. -/
theorem calls_of {P : Program} {f : FuncId} {fn : Func} {c : Code} {en : Ent} {args : List AV} {vs : List Value} {r : AV} {w : World} {A : Nat → Prop} (hf : P.funcs[f]? = some fn) (hname : (fn.name == "runtime.NumGoroutine") = false) (hb : fn.body = some c)
    (h : EntOk P f en) (hwr : en.wr = false) (hgo : en.go AV 0 args some = some r) (hv : VRs (fun _ => False) w ρ0 args vs) (hA : ∀ b, A b → b < w.heap.size) (hG : Glob P A w) :
    Calls P f vs.toArray w fun e w' => ∃ x, e = .returned x ∧ More w w' ∧ ∃ Ar bs, RR Ar w' r x bs := by
  have hi := h.ok hwr 0 args r hgo (fun b => A b ∧ isC w b) w vs (fun b hb => hA b hb.1) (VRs.mono (fun _ h => h.elim) (Kp.refl _ w) (fun _ _ h => h) args vs hv) (glob_isC hG)
  unfold Inv at hi
  rw [run_callFunc_body hf hname hb] at hi
  refine hi.mono ?_
  rintro e w' ⟨x, rfl, hm, Ar, bs, _, _, _, hr⟩
  exact ⟨x, rfl, ⟨hm.os, hm.tape, hm.output, hm.size, fun k hk => hm.block k hk (fun h => h) fun h => h.2⟩, Ar, bs, hr⟩

theorem check_calls {n : Int} {w : World} {A : Nat → Prop} (h1 : 1 ≤ n) (h2 : n ≤ 67108864) (hA : ∀ b, A b → b < w.heap.size) (hG : Glob Try.prog A w) :
    Calls Try.prog 27 #[.int .i64 n] w fun e w' => e = .returned .nilIface ∧ More w w' := by
  refine (calls_of (args := [.int .i64 n]) (vs := [.int .i64 n]) (r := .nili) Try.func27 (by kernel_rfl) (c := bodyC Try.f27) (by kernel_rfl) ok_tCheck rfl ?_ ?_ hA hG).mono ?_
  · simp only [entB, sp_tCheck, Br.run]
    rw [decide_eq_false (show ¬ n < 1 by omega), decide_eq_false (show ¬ n > 67108864 by omega)]
    rfl
  · simp [VRs, VR]
  · rintro e w' ⟨x, rfl, hm, Ar, bs, hr⟩
    simp only [RR, R1, VR] at hr
    rw [hr.1]
    exact ⟨rfl, hm⟩
theorem root_calls {k n : Int} {w : World} {A : Nat → Prop} (h1 : 1 ≤ n) (h2 : n ≤ 67108864) (hA : ∀ b, A b → b < w.heap.size) (hG : Glob Try.prog A w) :
    Calls Try.prog 7 #[.int .i64 k, .int .i64 n] w fun e w' => e = .returned (.tuple #[.agg #[.int .u64 ((cosZ k n : Nat) : Int), .int .u64 ((sinZ k n : Nat) : Int)], .nilIface]) ∧ More w w' := by
  refine (calls_of (args := [.int .i64 k, .int .i64 n]) (vs := [.int .i64 k, .int .i64 n]) (r := .tup [.st [.int .u64 (cosR k n), .int .u64 (sinR k n)], .nili]) Try.func7 (by kernel_rfl) (c := bodyC Try.f7) (by kernel_rfl) ok_tRootG rfl ?_ ?_ hA hG).mono ?_
  · simp only [entS, sp_tRootG, okN_iff.2 ⟨h1, h2⟩, chk, cond_true]
  · simp [VRs, VR]
  · rintro e w' ⟨x, rfl, hm, Ar, bs, hr⟩
    simp only [RR, Rs, R1, VR, CRs] at hr
    obtain ⟨vs, ⟨v, vs', b1, b2, ⟨⟨cs, ⟨y, cs', rfl, ⟨z, cs'', rfl, rfl, rfl⟩, rfl⟩, rfl⟩, rfl⟩, ⟨v2, vs2, b3, b4, ⟨rfl, rfl⟩, ⟨rfl, rfl⟩, rfl, rfl⟩, rfl, rfl⟩, rfl⟩ := hr
    unfold cosR sinR
    rw [stk_eq, stk_eq]
    exact ⟨rfl, hm⟩
end Go.Proofs.Ytbakldcbaikgpaa

/- (*turn.Roots).At, by hand, second part. Own work. -/
namespace Go.Proofs.Ytbakldcbaikgpaa
open Go.RowKit Go.ChangeShapes Go.WideShapes
set_option maxRecDepth 100000

def kyV (k n : Int) : Value := .agg #[.int .i64 k, .int .i64 n]
def ptV (k n : Int) : Value := .agg #[.int .u64 ((cosZ k n : Nat) : Int), .int .u64 ((sinZ k n : Nat) : Int)]
theorem good_keys {es : Array MapEntry} (hg : goodEs es) : ∀ e ∈ es.toList, ∃ k n : Int, e.key = .agg #[.int .i64 k, .int .i64 n] := fun e he => by
  obtain ⟨k, n, h, _⟩ := hg e he
  exact ⟨k, n, h⟩
theorem kyV_inj {k n k' n' : Int} (h : (.agg #[.int .i64 k, .int .i64 n] : Value) = .agg #[.int .i64 k', .int .i64 n']) : k = k' ∧ n = n' := by
  simp only [Value.agg.injEq, Array.mk.injEq, List.cons.injEq, Value.int.injEq, true_and, and_true] at h
  exact h
theorem at_mod (k n : Int) : cosZ (k % n) n = cosZ k n ∧ sinZ (k % n) n = sinZ k n := by
  unfold cosZ sinZ
  rw [Int.emod_emod_of_dvd k (Int.dvd_refl n)]
  exact ⟨rfl, rfl⟩
theorem at_look {k n : Int} {w : World} {h c : Nat} {es : Array MapEntry} (hm : w.heap[h]? = some (.map es c)) (hg : goodEs es) :
    ((Instr.lookup 75 (.map (some h)) (.agg #[.int .i64 (k % n), .int .i64 n]) true).run Try.prog w = .ok (.tuple #[.agg #[.int .u64 ((cosZ k n : Nat) : Int), .int .u64 ((sinZ k n : Nat) : Int)], .bool true]) w ∧ ∃ e ∈ es.toList, e.key = .agg #[.int .i64 (k % n), .int .i64 n]) ∨
    ((Instr.lookup 75 (.map (some h)) (.agg #[.int .i64 (k % n), .int .i64 n]) true).run Try.prog w = .ok (.tuple #[.agg #[.int .u64 0, .int .u64 0], .bool false]) w ∧ ∀ e ∈ es.toList, e.key ≠ .agg #[.int .i64 (k % n), .int .i64 n]) := by
  obtain ⟨v, ok, hl, hl1, hl2⟩ := run_lookup (k % n) n w hm (good_keys hg)
  cases ok with
  | true =>
    obtain ⟨e, he, hk, rfl⟩ := hl1 rfl
    obtain ⟨k', n', h1, h2, h3, h4, h5⟩ := hg e he
    obtain ⟨rfl, rfl⟩ := kyV_inj (hk.symm.trans h1)
    rw [h5, (at_mod k n).1, (at_mod k n).2] at hl
    exact .inl ⟨hl, e, he, hk⟩
  | false =>
    obtain ⟨rfl, h2⟩ := hl2 rfl
    exact .inr ⟨hl, h2⟩
theorem at_idx {k n : Int} (h1 : 1 ≤ n) (h2 : n ≤ 67108864) : (wrap64 (k.tmod n + n)).tmod n = k % n := by
  have a0 := Int.emod_nonneg k (show n ≠ 0 by omega)
  have a1 := Int.emod_lt_of_pos k (show 0 < n by omega)
  have a2 : k.tmod n = k % n ∨ k.tmod n = k % n - n := by
    rw [Int.tmod_eq_emod]
    split <;> omega
  rcases a2 with a2 | a2
  · rw [a2, show wrap64 (k % n + n) = k % n + n by unfold wrap64; omega, Int.tmod_eq_emod_of_nonneg (by omega), Int.add_emod_right]
    exact Int.emod_eq_of_lt a0 a1
  · rw [a2, show wrap64 (k % n - n + n) = k % n by unfold wrap64; omega, Int.tmod_eq_emod_of_nonneg a0]
    exact Int.emod_eq_of_lt a0 a1
/-- What a table of points became: as it was, or with one point more. -/
def Grown (w w' : World) (h c : Nat) (es : Array MapEntry) (k n : Int) : Prop :=
  w'.os = w.os ∧ w'.tape = w.tape ∧ w'.output = w.output ∧ w.heap.size ≤ w'.heap.size ∧ (∀ b, b < w.heap.size → b ≠ h → w'.heap[b]? = w.heap[b]?) ∧
    (((∃ e ∈ es.toList, e.key = .agg #[.int .i64 (k % n), .int .i64 n]) ∧ w'.heap[h]? = some (.map es c)) ∨
     ((∀ e ∈ es.toList, e.key ≠ .agg #[.int .i64 (k % n), .int .i64 n]) ∧ w'.heap[h]? = some (.map (es.push { key := .agg #[.int .i64 (k % n), .int .i64 n], val := .agg #[.int .u64 ((cosZ k n : Nat) : Int), .int .u64 ((sinZ k n : Nat) : Int)], born := c }) (c + 1))))

theorem root_mod {k n : Int} {w : World} {A : Nat → Prop} (h1 : 1 ≤ n) (h2 : n ≤ 67108864) (hA : ∀ b, A b → b < w.heap.size) (hG : Glob Try.prog A w) :
    Calls Try.prog 7 #[.int .i64 (k % n), .int .i64 n] w fun e w' => e = .returned (.tuple #[.agg #[.int .u64 ((cosZ k n : Nat) : Int), .int .u64 ((sinZ k n : Nat) : Int)], .nilIface]) ∧ More w w' := by
  have h := root_calls (k := k % n) h1 h2 hA hG
  rw [(at_mod k n).1, (at_mod k n).2] at h
  exact h
theorem upd_world {k n : Int} {v : Value} {W : World} {h c : Nat} {es : Array MapEntry} (hm : W.heap[h]? = some (.map es c)) (hg : goodEs es) (hno : ∀ e ∈ es.toList, e.key ≠ .agg #[.int .i64 k, .int .i64 n]) :
    ∃ W4, (Instr.mapUpdate 75 (.map (some h)) (.agg #[.int .i64 k, .int .i64 n]) v).run Try.prog W = .ok () W4 ∧ W4.os = W.os ∧ W4.tape = W.tape ∧ W4.output = W.output ∧ W4.heap.size = W.heap.size ∧
      (∀ b, b ≠ h → W4.heap[b]? = W.heap[b]?) ∧ W4.heap[h]? = some (.map (es.push { key := .agg #[.int .i64 k, .int .i64 n], val := v, born := c }) (c + 1)) := by
  have hh : h < W.heap.size := (Array.getElem?_eq_some_iff.1 hm).1
  refine ⟨{ W with heap := W.heap.setIfInBounds h (.map (es.push { key := .agg #[.int .i64 k, .int .i64 n], val := v, born := c }) (c + 1)) }, ?_, rfl, rfl, rfl, by simp, fun b hb => ?_, ?_⟩
  · rw [run_mapUpdate k n v W hm (good_keys hg) hno]
    unfold setObj
    simp only [Sem.run, hm]
  · simp [Ne.symm hb]
  · simp [hh]
theorem load_pair {W : World} {s : Nat} {a b : Value} {T : TypeId} {fr : Nat × Nat} (hs : W.heap[s]? = some (.cells #[a, b] T fr)) : (loadVar 25 ⟨s, 0, none⟩).run Try.prog W = .ok (.agg #[a, b]) W := by
  have hu : Try.prog.underlying 25 = some (.struct (match Try.prog.underlying 25 with | some (.struct fs) => fs | _ => #[])) := by kernel_rfl
  exact run_loadVar_row W s T _ #[a, b] fr _ hs hu rfl (by kernel_rfl)
/-- What a function hands back: what its cell holds, and a slot. -/
theorem ret_pair {fn : Func} {p u : Tmp} (h : fn.results = #[.cell p 25, .tmp u]) {tmps : Array Value} {W : World} {s : Nat} {a b v : Value} {T : TypeId} {fr : Nat × Nat} (hp : tmps.getD p undef = .pointer (some ⟨s, 0, none⟩)) (hv : tmps.getD u undef = v) (hs : W.heap[s]? = some (.cells #[a, b] T fr)) :
    (results fn tmps).run Try.prog W = .ok (.tuple #[.agg #[a, b], v]) W := by
  rw [results_cell_tmp h, hp, hv]
  simp [asAddr, Result.andThen, load_pair hs]
theorem cell_two {W : World} {s : Nat} {a b : Value} {T : TypeId} (hs : W.heap[s]? = some (.cells #[a, b] T)) :
    W.cell? ⟨s, 0, none⟩ = some a ∧ W.cell? ⟨s, 1, none⟩ = some b ∧ W.frozen? ⟨s, 0, none⟩ = false ∧ (∀ v, (W.setCell ⟨s, 0, none⟩ v).heap[s]? = some (.cells #[v, b] T)) ∧ (∀ v, (W.setCell ⟨s, 1, none⟩ v).heap[s]? = some (.cells #[a, v] T)) ∧
      (∀ i v x, x ≠ s → (W.setCell ⟨s, i, none⟩ v).heap[x]? = W.heap[x]?) := by
  refine ⟨by simp [World.cell?, hs], by simp [World.cell?, hs], by simp [World.frozen?, hs], fun v => ?_, fun v => ?_, fun i v x hx => ?_⟩
  · simp [World.setCell, Array.getElem?_modify, hs]
  · simp [World.setCell, Array.getElem?_modify, hs]
  · simp [World.setCell, Array.getElem?_modify, Ne.symm hx]
theorem store_two {W : World} {s : Nat} {a b v u : Value} {T : TypeId} (hs : W.heap[s]? = some (.cells #[a, b] T)) :
    W.cell? ⟨s, 0, none⟩ = some a ∧ W.frozen? ⟨s, 0, none⟩ = false ∧ (W.setCell ⟨s, 0, none⟩ v).cell? ⟨s, 1, none⟩ = some b ∧ (W.setCell ⟨s, 0, none⟩ v).frozen? ⟨s, 1, none⟩ = false ∧
      ((W.setCell ⟨s, 0, none⟩ v).setCell ⟨s, 1, none⟩ u).cell? ⟨s, 0, none⟩ = some v ∧ ((W.setCell ⟨s, 0, none⟩ v).setCell ⟨s, 1, none⟩ u).cell? ⟨s, 1, none⟩ = some u := by
  obtain ⟨a1, a2, a3, a4, a5, a6⟩ := cell_two hs
  obtain ⟨b1, b2, b3, b4, b5, b6⟩ := cell_two (a4 v)
  obtain ⟨c1, c2, c3, c4, c5, c6⟩ := cell_two (b5 u)
  exact ⟨a1, a3, b2, by simp [World.frozen?, a4 v], c1, c2⟩
set_option maxHeartbeats 8000000 in
theorem at_walk {k n : Int} {w : World} {A : Nat → Prop} {b h c : Nat} {es : Array MapEntry} {e : TypeId} {fr : Nat × Nat} (h1 : 1 ≤ n) (h2 : n ≤ 67108864) (hb : w.heap[b]? = some (.cells #[.map (some h)] e fr)) (hm : w.heap[h]? = some (.map es c)) (hg : goodEs es)
    (hA : ∀ b, A b → b < w.heap.size) (hG : Glob Try.prog A w) :
    Calls Try.prog 47 #[.pointer (some ⟨b, 0, none⟩), .int .i64 k, .int .i64 n] w fun e w' => e = .returned (.tuple #[.agg #[.int .u64 ((cosZ k n : Nat) : Int), .int .u64 ((sinZ k n : Nat) : Int)], .nilIface]) ∧ Grown w w' h c es k n := by
  have hG1 : ∀ w1, More w w1 → Glob Try.prog A w1 := fun w1 hm1 => hG.mono (fun _ h => h) (hm1.kp hA)
  have hA1 : ∀ w1, More w w1 → ∀ b, A b → b < w1.heap.size := fun w1 hm1 b hb => Nat.lt_of_lt_of_le (hA b hb) hm1.size
  have m0 : More w ((w.alloc (.cells #[.int .u64 0, .int .u64 0] 25)).alloc (.cells #[.int .u64 0, .int .u64 0] 25)) := .of_below (((Below.refl _ _).alloc (Nat.le_refl _) _).alloc (by simp) _)
  have hk0 := at_idx (k := k) h1 h2
  have hbl : b < w.heap.size := (Array.getElem?_eq_some_iff.1 hb).1
  have hml : h < w.heap.size := (Array.getElem?_eq_some_iff.1 hm).1
  have hbc : w.cell? ⟨b, 0, none⟩ = some (.map (some h)) := by unfold World.cell?; simp [hb]
  have c1 : (w.alloc (.cells #[.int .u64 0, .int .u64 0] 25)).cell? ⟨b, 0, none⟩ = some (.map (some h)) := by rw [World.cell?_alloc_lt _ _ ⟨b, 0, none⟩ hbl]; exact hbc
  have c2 : (w.alloc (.cells #[.int .u64 0, .int .u64 0] 25)).heap[h]? = some (.map es c) := by
    rw [World.alloc, Array.getElem?_push, if_neg (Nat.ne_of_lt hml)]; exact hm
  go_enter Try.func47, Try.ntmps47
  rcases at_look (k := k) (n := n) c2 hg with ⟨hl, hl1⟩ | ⟨hl, hl1⟩
  · go_wp2_with go_in
    refine bodyPost_ret (ret_pair (p := 6) (u := 7) (v := .nilIface) (by kernel_rfl) rfl rfl (s := w.heap.size) (T := 25) (fr := (0, 0)) (a := .int .u64 ((cosZ k n : Nat) : Int)) (b := .int .u64 ((sinZ k n : Nat) : Int)) ?_) rfl ?_
    · show ((w.heap.push _).push _)[w.heap.size]? = _
      rw [Array.getElem?_push, if_neg (by rw [Array.size_push]; omega), Array.getElem?_push, if_pos rfl]
    refine ⟨rfl, rfl, rfl, rfl, ?_, fun x hx1 hx2 => ?_, .inl ⟨hl1, ?_⟩⟩
    · show _ ≤ ((w.heap.push _).push _).size
      rw [Array.size_push, Array.size_push]; omega
    · show ((w.heap.push _).push _)[x]? = _
      rw [Array.getElem?_push, if_neg (by rw [Array.size_push]; omega), Array.getElem?_push, if_neg (by omega)]
    · show ((w.heap.push _).push _)[h]? = _
      rw [Array.getElem?_push, if_neg (by rw [Array.size_push]; omega), Array.getElem?_push, if_neg (by omega)]
      exact hm
  · go_wp2_with (first | (go_at_call 7; refine (root_mod h1 h2 (hA1 _ m0) (hG1 _ m0)).mono ?_; rintro e w2 ⟨rfl, hm2⟩) | (go_at_call 27; go_in))
    have hml2 : h < w2.heap.size := Nat.lt_of_lt_of_le hml (Nat.le_trans m0.size hm2.size)
    have hbl2 : b < w2.heap.size := Nat.lt_of_lt_of_le hbl (Nat.le_trans m0.size hm2.size)
    have hx : ∀ x, x < w.heap.size → w2.heap[x]? = w.heap[x]? := fun x hx => (hm2.block x (Nat.lt_of_lt_of_le hx m0.size)).trans (m0.block x hx)
    have c3 : (w2.alloc (.cells #[.int .u64 ((cosZ k n : Nat) : Int), .int .u64 ((sinZ k n : Nat) : Int)] 25)).drew.heap[h]? = some (.map es c) := by
      show (w2.alloc _).heap[h]? = _
      rw [World.alloc, Array.getElem?_push, if_neg (Nat.ne_of_lt hml2)]; exact (hx h hml).trans hm
    have c4 : ∀ x, (w2.alloc x).cell? ⟨b, 0, none⟩ = some (.map (some h)) := fun x => by
      rw [World.cell?_alloc_lt _ _ ⟨b, 0, none⟩ hbl2, cell?_congr (hx b hbl)]; exact hbc
    obtain ⟨W4, hu, u1, u2, u3, u4, u5, u6⟩ := upd_world (v := .agg #[.int .u64 ((cosZ k n : Nat) : Int), .int .u64 ((sinZ k n : Nat) : Int)]) c3 hg hl1
    have s2 : w.heap.size < w2.heap.size := Nat.lt_of_lt_of_le (by show w.heap.size < ((w.heap.push _).push _).size; rw [Array.size_push, Array.size_push]; omega) hm2.size
    have k1 : W4.heap[w2.heap.size]? = some (.cells #[.int .u64 ((cosZ k n : Nat) : Int), .int .u64 ((sinZ k n : Nat) : Int)] 25) := by
      rw [u5 _ (by omega)]
      show (w2.heap.push _)[w2.heap.size]? = _
      rw [Array.getElem?_push, if_pos rfl]
    have k2 : W4.heap[w.heap.size]? = some (.cells #[.int .u64 0, .int .u64 0] 25) := by
      rw [u5 _ (by omega)]
      show (w2.heap.push _)[w.heap.size]? = _
      rw [Array.getElem?_push, if_neg (by omega), hm2.block _ (by show w.heap.size < ((w.heap.push _).push _).size; rw [Array.size_push, Array.size_push]; omega)]
      show ((w.heap.push _).push _)[w.heap.size]? = _
      rw [Array.getElem?_push, if_neg (by rw [Array.size_push]; omega), Array.getElem?_push, if_pos rfl]
    obtain ⟨g0, g1, -⟩ := cell_two k1
    obtain ⟨f0, f1, f2, f3, f4, f5⟩ := store_two (v := .int .u64 ((cosZ k n : Nat) : Int)) (u := .int .u64 ((sinZ k n : Nat) : Int)) k2
    go_region
    go_wp2
    obtain ⟨-, -, -, -, -, n1⟩ := cell_two k2
    obtain ⟨-, -, -, q4, -, -⟩ := cell_two k2
    obtain ⟨-, -, -, -, q5, n2⟩ := cell_two (q4 (.int .u64 ((cosZ k n : Nat) : Int)))
    refine bodyPost_ret (ret_pair (p := 6) (u := 7) (v := .nilIface) (by kernel_rfl) rfl rfl (q5 (.int .u64 ((sinZ k n : Nat) : Int)))) rfl ?_
    have hs4 : w.heap.size ≤ W4.heap.size := by
      rw [u4]
      show _ ≤ (w2.heap.push _).size
      rw [Array.size_push]
      omega
    refine ⟨rfl, u1.trans (hm2.os.trans m0.os), u2.trans (hm2.tape.trans m0.tape), u3.trans (hm2.output.trans m0.output), ?_, fun x hx1 hx2 => ?_, .inr ⟨hl1, ?_⟩⟩
    · simp only [World.setCell, Array.size_modify]
      exact hs4
    · rw [n2 _ _ _ (by omega), n1 _ _ _ (by omega), u5 x hx2]
      show (w2.heap.push _)[x]? = _
      rw [Array.getElem?_push, if_neg (by omega), hx x hx1]
    · rw [n2 _ _ _ (by omega), n1 _ _ _ (by omega), u6]
end Go.Proofs.Ytbakldcbaikgpaa

/- turn.NewRoots and (*turn.Roots).At: contracts. Own work. -/
namespace Go.Proofs.Ytbakldcbaikgpaa
open Go.RowKit Go.ChangeShapes Go.WideShapes
set_option maxRecDepth 100000
noncomputable section

theorem good_push {es : Array MapEntry} {k n : Int} {c : Nat} (h1 : 1 ≤ n) (h2 : n ≤ 67108864) (hg : goodEs es) :
    goodEs (es.push { key := .agg #[.int .i64 (k % n), .int .i64 n], val := .agg #[.int .u64 ((cosZ k n : Nat) : Int), .int .u64 ((sinZ k n : Nat) : Int)], born := c }) := by
  intro e he
  rw [Array.toList_push, List.mem_append] at he
  rcases he with he | he
  · exact hg e he
  · simp only [List.mem_singleton] at he
    subst he
    refine ⟨k % n, n, rfl, Int.emod_nonneg k (by omega), Int.emod_lt_of_pos k (by omega), h2, ?_⟩
    rw [(at_mod k n).1, (at_mod k n).2]
theorem Grown.moreX {A : Nat → Prop} {w w' : World} {h c : Nat} {es : Array MapEntry} {k n : Int} (h1 : 1 ≤ n) (h2 : n ≤ 67108864) (hm : w.heap[h]? = some (.map es c)) (hg : goodEs es) (hA : ∀ b, A b → b < w.heap.size) (hh : A h) (hG : Grown w w' h c es k n) : MoreX (fun _ => False) A w w' := by
  obtain ⟨g1, g2, g3, g4, g5, g6⟩ := hG
  refine ⟨g1, g2, g3, g4, fun b hb _ hc => ?_, fun b hb hgm => ?_⟩
  · refine g5 b hb fun he => ?_
    subst he
    obtain ⟨cs, e, fr, hx⟩ := hc hh
    rw [hm] at hx
    cases hx
  · by_cases he : b = h
    · subst he
      rcases g6 with ⟨_, g6⟩ | ⟨_, g6⟩
      · exact ⟨es, c, g6, hg⟩
      · exact ⟨_, _, g6, good_push h1 h2 hg⟩
    · obtain ⟨es', c', hx, hgx⟩ := hgm
      exact ⟨es', c', (g5 b (hA b hb) he).trans hx, hgx⟩

def sp_At : List AV → Option (Bool × AV)
  | [.rts, .int .i64 k, .int .i64 n] => some (okN n, .tup [.st [.int .u64 (cosR k n), .int .u64 (sinR k n)], .nili])
  | _ => none
theorem ok_At : EntOk Try.prog 47 (entS false sp_At) := by
  refine ⟨entS_law _ _, fun _ m args r hr A w vs hA hv hG => ?_, fun h => by cases h⟩
  have h := entS_some hr
  clear hr
  unfold sp_At at h
  split at h
  · rename_i k n
    simp only [Option.some.injEq, Prod.mk.injEq] at h
    obtain ⟨hn, rfl⟩ := h
    obtain ⟨n1, n2⟩ := okN_iff.1 hn
    simp only [VRs, VR] at hv
    obtain ⟨v, vs', ⟨b, hb, hA1, hA2, rfl, ⟨e, fr, hx⟩, es, c, hm, hg⟩, ⟨v2, vs2, rfl, ⟨v3, vs3, rfl, rfl, rfl⟩, rfl⟩, rfl⟩ := hv
    unfold Inv
    rw [run_callFunc_body Try.func47 (by kernel_rfl) rfl]
    simp only []
    refine (at_walk (k := k) n1 n2 hx hm hg hA hG).mono ?_
    rintro e w' ⟨rfl, hgr⟩
    refine ⟨_, rfl, hgr.moreX n1 n2 hm hg hA hA2, fun _ => False, [], fun _ h => h.elim, by simp, by simp, ?_⟩
    simp only [RR, Rs, R1, VR, CRs]
    unfold cosR sinR
    rw [stk_eq, stk_eq]
    exact ⟨_, ⟨_, _, [], [], ⟨⟨_, ⟨_, _, rfl, ⟨_, _, rfl, rfl, rfl⟩, rfl⟩, rfl⟩, rfl⟩, ⟨_, _, [], [], ⟨rfl, rfl⟩, ⟨rfl, rfl⟩, rfl, rfl⟩, rfl, rfl⟩, rfl⟩
  · cases h

def sp_newR : List AV → Option (Bool × AV)
  | [] => some (true, .rts)
  | _ => none
theorem ok_newR : EntOk Try.prog 25 (entS false sp_newR) := by
  refine ⟨entS_law _ _, fun _ m args r hr A w vs hA hv hG => ?_, fun h => by cases h⟩
  have h := entS_some hr
  clear hr
  unfold sp_newR at h
  split at h
  · simp only [Option.some.injEq, Prod.mk.injEq] at h
    obtain ⟨-, rfl⟩ := h
    simp only [VRs] at hv
    subst hv
    unfold Inv
    rw [run_callFunc_body Try.func25 (by kernel_rfl) rfl]
    simp only []
    refine (newRoots w).mono ?_
    rintro e w' ⟨rfl, rfl⟩
    have hbl : Below w.heap.size w ((w.alloc (.map #[] 0)).alloc (.cells #[.map (some w.heap.size)] 77)) := ((Below.refl _ _).alloc (Nat.le_refl _) _).alloc (by show _ ≤ (w.heap.push _).size; rw [Array.size_push]; omega) _
    have hsz : ((w.alloc (.map #[] 0)).alloc (.cells #[.map (some w.heap.size)] 77)).heap.size = w.heap.size + 2 := by
      show ((w.heap.push _).push _).size = _
      rw [Array.size_push, Array.size_push]
    refine ⟨_, rfl, (More.of_below hbl).x _ _, fun b => b = w.heap.size ∨ b = w.heap.size + 1, [], fun b hb => ⟨by omega, .inr (by omega)⟩, by simp, by simp, ?_⟩
    simp only [RR, R1, VR]
    refine ⟨⟨w.heap.size + 1, w.heap.size, .inr rfl, .inl rfl, rfl, ⟨77, (0, 0), ?_⟩, #[], 0, ?_, fun e he => by simp at he⟩, trivial⟩
    · show ((w.heap.push _).push _)[w.heap.size + 1]? = _
      rw [Array.getElem?_push, if_pos (by rw [Array.size_push])]
    · show ((w.heap.push _).push _)[w.heap.size]? = _
      rw [Array.getElem?_push, if_neg (by rw [Array.size_push]; omega), Array.getElem?_push, if_pos rfl]
  · cases h
end
end Go.Proofs.Ytbakldcbaikgpaa
