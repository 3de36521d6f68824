/- Contracts. Own work, program-independent. -/
import Derived.Test.YtdkebceiljdgjaaSound24
namespace Go.Proofs.Ytdkebceiljdgjaa
open Go.RowKit (Below)

def slots : Nat → List AV → List (Nat × AV)
  | _, [] => []
  | i, x :: r => (i, x) :: slots (i + 1) r

section
variable {P : Program} {E : Env} {W0 : World} {Wr : Nat → Prop} {A A' : Nat → Prop} {ρ ρ' : Rho} {s s' : AS} {a : Act} {w w' : World}

theorem lk_slots : ∀ (l : List AV) (vs : List Value) (i j : Nat) (v : AV), VRs A w ρ l vs → lk (slots i l) j = some v → ∃ x, i ≤ j ∧ vs[j - i]? = some x ∧ VR A w ρ v x
  | [], _, i, j, v, _, h => by simp [slots, lk] at h
  | p :: l, vs, i, j, v, hv, h => by
    simp only [VRs] at hv
    obtain ⟨x, vs', h1, h2, rfl⟩ := hv
    simp only [slots, lk] at h
    cases hb : Nat.beq i j with
    | true =>
      rw [hb] at h
      simp only [cond_true, Option.some.injEq] at h
      subst h
      have := nat_beq hb
      subst this
      exact ⟨x, Nat.le_refl _, by simp, h1⟩
    | false =>
      rw [hb] at h
      obtain ⟨y, g1, g2, g3⟩ := lk_slots l vs' (i + 1) j v h2 h
      refine ⟨y, by omega, ?_, g3⟩
      rw [show j - i = (j - (i + 1)) + 1 by omega, List.getElem?_cons_succ]
      exact g2

theorem SimR.start (w : World) (A : Nat → Prop) (hA : ∀ b, A b → b < w.heap.size) {nt : Nat} {args : List AV} {vs : List Value} (hv : VRs A w ρ0 args vs) (hn : vs.length ≤ nt) :
    SimR w A nt A ρ0 ⟨mkT (slots 0 args), mkM [], mkC []⟩ { tmps := vs.toArray ++ Array.replicate (nt - vs.toArray.size) undef, defers := [] } w := by
  refine ⟨rfl, by simp; omega, fun j => ?_, fun id blk h => by simp [mkM, lk] at h, fun id id' blk blk' b n n' h => by simp [mkM, lk] at h, fun id blk b n h => by simp [mkM, lk] at h, hA, fun d v _ _ => rfl, FrW.refl A w⟩
  simp only [mkT]
  cases hk : lk (slots 0 args) j with
  | none => trivial
  | some v =>
    obtain ⟨x, _, h1, h2⟩ := lk_slots args vs 0 j v hv hk
    simp only [Nat.sub_zero] at h1
    have hj := (List.getElem?_eq_some_iff.1 h1).1
    have : (vs.toArray ++ Array.replicate (nt - vs.toArray.size) undef).getD j undef = x := by
      rw [Array.getD_eq_getD_getElem?, Array.getElem?_append_left (by simpa using hj)]
      simp [h1]
    simp only [Option.getD_some]
    rw [this]
    exact h2.sr

theorem run_callFunc_body {f : FuncId} {fn : Func} {c : Code} (hf : P.funcs[f]? = some fn) (hname : (fn.name == "runtime.NumGoroutine") = false) (hb : fn.body = some c) (args : Array Value) (w : World) :
    (callFunc f args).run P w = .ok (.enter f args) w := by
  unfold callFunc
  have hn : ¬ fn.name = "runtime.NumGoroutine" := by
    intro e
    rw [e] at hname
    simp at hname
  simp [Sem.run_bind, hf, hn, hb]

/-- A function keeps its contract. -/
theorem contract {f : FuncId} {fn : Func} {c : Code} {en : Ent} (hm : P.follows .mixedOrders = true) (hT : TabOk P E.ty) (hO : OrcOk P E) (hE : E.nt ≤ 1000) (hf : P.funcs[f]? = some fn) (hname : (fn.name == "runtime.NumGoroutine") = false)
    (hb : fn.body = some c) (hnt : fn.ntmps = E.nt) (hL : LoopsOk P E.nt E.lorc c) (hlaw : EntLaw en)
    (hgo : ∀ n args r, en.go AV n args some = some r → args.length ≤ E.nt ∧ (en.frz = true ∨ flatA r = true) ∧ ∃ n', callA { E with n := n' } c fn.results.toList (slots 0 args) some = some r) : EntOk P f en := by
  refine ⟨hlaw, fun n args r hr A w vs hA hv => ?_⟩
  obtain ⟨hlen, hfl, n', hc⟩ := hgo n args r hr
  have hvl := VRs.length args vs hv
  unfold Inv
  rw [run_callFunc_body hf hname hb]
  simp only []
  have hs := SimR.start (nt := E.nt) w A hA hv (by omega)
  unfold callA at hc
  have hwp := runA_wp (E := { E with n := n' }) hm hT hO hE c hL 999999 _ _ w A ρ0 _ hs hc
  refine calls_of_wp hf hb ?_
  rw [hnt]
  refine wp_mono hwp fun e a' w' hp => ?_
  have fin : ∀ (e : Ex) (s : AS) (A1 : Nat → Prop) (ρ1 : Rho), (∀ id, e ≠ .exit id) → SimR w A E.nt A1 ρ1 s a' w' → endA { E with n := n' } fn.results.toList some e s = some r →
      a'.defers = [] ∧ ∃ v, (results fn a'.tmps).run P w' = .ok v w' ∧ ∃ x, Ending.returned v = .returned x ∧ (More w w' ∧ ∃ (Ar : Nat → Prop) (bs : List Nat), (∀ b, Ar b → b < w'.heap.size ∧ ((en.frz = true ∧ A b) ∨ w.heap.size ≤ b)) ∧ (∀ b ∈ bs, w.heap.size ≤ b ∧ ¬ Ar b) ∧ bs.Nodup ∧ RR Ar w' r x bs) := by
    intro e s A1 ρ1 hex h1 he
    have he' : ∃ x : List AV × List Nat, resultsA { E with n := n' } s fn.results.toList = some x ∧ nodupB x.2 = true ∧ (match x.1 with | [v] => some v | vs => some (.tup vs)) = some r := by
      cases e with
      | exit id => exact absurd rfl (hex id)
      | normal =>
        simp only [endA] at he
        split at he
        case h_2 => cases he
        rename_i x hx
        obtain ⟨hn, he⟩ := cond_some he
        exact ⟨x, hx, hn, he⟩
      | ret =>
        simp only [endA] at he
        split at he
        case h_2 => cases he
        rename_i x hx
        obtain ⟨hn, he⟩ := cond_some he
        exact ⟨x, hx, hn, he⟩
    obtain ⟨⟨avs, ids⟩, hres, hnd, hr1⟩ := he'
    obtain ⟨xs, owned, lent, bs, g1, g2, g3, g4, g5, g6, g7, g8⟩ := resultsA_sound (E := { E with n := n' }) hT h1 fn.results.toList avs ids hres (nodupB_iff _ hnd)
    refine ⟨h1.dfr, _, run_results fn a'.tmps g1, _, rfl, ⟨h1.fr.os, h1.fr.tape, h1.fr.output, h1.fr.size, h1.fr.block⟩, ?_⟩
    have hRR : RR (Lent A1 s.m ρ1 lent) w' r (resV xs) bs := by
      match avs, hr1, g8 with
      | [], hr1, g8 =>
        simp only [Option.some.injEq] at hr1
        subst hr1
        simp only [Rs] at g8
        obtain ⟨rfl, rfl⟩ := g8
        exact ⟨[], ⟨rfl, rfl⟩, rfl⟩
      | [v], hr1, g8 =>
        simp only [Option.some.injEq] at hr1
        subst hr1
        simp only [Rs] at g8
        obtain ⟨x, vs', b1, b2, r1, ⟨rfl, rfl⟩, rfl, rfl⟩ := g8
        simp only [resV, List.append_nil]
        cases v
        case tup ps => obtain ⟨h1, _⟩ := r1; simp only [VR] at h1
        all_goals exact r1
      | v1 :: v2 :: vs', hr1, g8 =>
        simp only [Option.some.injEq] at hr1
        subst hr1
        refine ⟨xs, g8, ?_⟩
        simp only [Rs] at g8
        obtain ⟨x, vs', b1, b2, r1, ⟨y, vs'', b3, b4, r2, _, rfl, _⟩, rfl, _⟩ := g8
        rfl
    have hbs : ∀ b ∈ bs, w.heap.size ≤ b ∧ ¬ Lent A1 s.m ρ1 lent b := by
      intro b hb
      obtain ⟨i, hi, n, hρ⟩ := g6 b hb
      obtain ⟨blk, hblk, hown⟩ := g5 i hi
      obtain ⟨o1, o2⟩ := h1.own i blk b n hblk hown hρ
      refine ⟨o1, ?_⟩
      rintro (hA1 | ⟨i', hi', blk', n', hb', ho', hρ'⟩)
      · exact o2 hA1
      · exact h1.inj i i' blk blk' b n n' hblk hb' (fun e => g4 i hi (e ▸ hi')) hown hρ hρ'
    rcases hfl with hfz | hfl
    · refine ⟨Lent A1 s.m ρ1 lent, bs, fun b hb => ⟨?_, ?_⟩, hbs, g7, hRR⟩
      · rcases hb with hb | ⟨i, _, blk, n, hb, _, hρ⟩
        · exact h1.alive b hb
        · exact (h1.mem i blk hb).lt hρ
      · rcases hb with hb | ⟨i, _, blk, n, hb, ho, hρ⟩
        · rcases h1.fr.tr b hb with h | h
          · exact .inr h
          · exact .inl ⟨hfz, h⟩
        · exact .inr (h1.own i blk b n hb ho hρ).1
    · exact ⟨fun _ => False, bs, fun b hb => hb.elim, fun b hb => ⟨(hbs b hb).1, fun h => h⟩, g7, flatA_rr hfl hRR⟩
  cases e with
  | normal =>
    obtain ⟨s, A1, ρ1, h1, hk⟩ := hp
    exact fin .normal s A1 ρ1 (fun _ => by simp) h1 hk
  | ret =>
    obtain ⟨s, A1, ρ1, h1, hk⟩ := hp
    exact fin .ret s A1 ρ1 (fun _ => by simp) h1 hk
  | exit id =>
    obtain ⟨s, A1, ρ1, h1, hk⟩ := hp
    simp only [endA] at hk
    cases hk
  | goto l => exact hp.elim
  | panic ch => exact hp.elim
  | outgrown => exact hp.elim
end
end Go.Proofs.Ytdkebceiljdgjaa
