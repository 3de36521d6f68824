/- Regions that are drawn. Own work, program-independent. -/
import Derived.Test.YtdkebceiljdgjaaSound20
namespace Go.Proofs.Ytdkebceiljdgjaa
open Go.RowKit (Below)

/-- An operation that is still to run: its number, itself, what it touches. -/
abbrev It := Nat × Oper × FP

def Runs (E : Env) (ops : Array Oper) : List It → AS → AS → Prop
  | [], s, s' => s' = s
  | x :: r, s, s' => ∃ f, stp E ops s x.2.1 = some f ∧ fpOf f = x.2.2 ∧ Runs E ops r (s.put x.2.1.dst f) s'

def Free (ops : Array Oper) (x y : It) : Prop := waitsB y.2.1 x.1 = true ∨ (x.2.1.apart ops y.2.1 = true ∧ clash x.2.2 y.2.2 = false)

section
variable {R : Type} {P : Program} {E : Env} {W0 : World} {Wr : Nat → Prop} {A A' : Nat → Prop} {ρ ρ' : Rho} {s s' : AS} {a : Act} {w w' : World} {o : Oper} {f : Eff} {ops : Array Oper} {Q : Exit → Act → World → Prop} {r : R}

theorem Runs.pull (hO : OrcLaw E) (hE : E.nt ≤ 1000) (x : It) (post : List It) : ∀ (pre : List It) (s : AS), (∀ p ∈ pre, p.2.1.apart ops x.2.1 = true ∧ clash p.2.2 x.2.2 = false) → Runs E ops (pre ++ x :: post) s s' →
    ∃ f, stp E ops s x.2.1 = some f ∧ fpOf f = x.2.2 ∧ Runs E ops (pre ++ post) (s.put x.2.1.dst f) s'
  | [], s, _, h => h
  | p :: pre, s, hp, h => by
    obtain ⟨g, h1, h2, h3⟩ := h
    obtain ⟨f, k1, k2, k3⟩ := Runs.pull hO hE x post pre _ (fun q hq => hp q (by simp [hq])) h3
    obtain ⟨hap, hcl⟩ := hp p (by simp)
    rw [← h2, ← k2] at hcl
    obtain ⟨m1, m2, m3⟩ := stp_swap hO hE hap hcl h1 k1
    exact ⟨f, m1, k2, g, m2, h2, by rw [m3]; exact k3⟩

theorem waits_after {o : Oper} {i : Nat} (h : waitsB o i = true) : ∃ e ∈ o.after, Region.binds .any e = true ∧ e.on = i := by
  unfold waitsB at h
  rw [Array.any_eq_true'] at h
  obtain ⟨e, he, hb⟩ := h
  simp only [Bool.and_eq_true] at hb
  exact ⟨e, he, hb.1, nat_beq hb.2⟩

/-- A region in any order. -/
theorem any_wp (hT : TabOk P E.ty) (hO : OrcOk P E) (hE : E.nt ≤ 1000) (hQ : ∀ a' w' A' ρ', SimR W0 Wr E.nt A' ρ' s' a' w' → Q .normal a' w') : ∀ (fuel : Nat) (rem : List It) (listed : Array Bool) (s : AS) (a : Act) (w : World) (A : Nat → Prop) (ρ : Rho),
    rem.length ≤ fuel → listed.size = ops.size → (∀ j, j < ops.size → listed.getD j true = false → ∃ x ∈ rem, x.1 = j) → (∀ x ∈ rem, ops[x.1]? = some x.2.1 ∧ listed.getD x.1 true = false) →
    rem.Pairwise (fun x y => x.1 < y.1 ∧ Free ops x y) → (∀ x ∈ rem, ∀ e ∈ x.2.1.after, Region.binds .any e = true → e.on < x.1) → SimR W0 Wr E.nt A ρ s a w → Runs E ops rem s s' → wpAny P .any ops Q fuel listed a w
  | fuel, [], listed, s, a, w, A, ρ, hl, hsz, hun, hrem, hpw, hlt, h, hr => by
    have hno : Region.ready .any ops listed = [] := by
      apply List.eq_nil_iff_forall_not_mem.2
      intro j hj
      obtain ⟨h0, o, ho, _⟩ := mem_ready.1 hj
      obtain ⟨x, hx, _⟩ := hun j (Array.getElem?_eq_some_iff.1 ho).1 h0
      cases hx
    have hd : Q .normal a w := by
      have : s' = s := hr
      subst this
      exact hQ _ _ _ _ h
    cases fuel with
    | zero => exact ⟨hno, hd⟩
    | succ fuel => exact ⟨fun _ => hd, fun i hi => by rw [hno] at hi; cases hi⟩
  | 0, x :: rem, listed, s, a, w, A, ρ, hl, hsz, hun, hrem, hpw, hlt, h, hr => by simp at hl
  | fuel + 1, x :: rem, listed, s, a, w, A, ρ, hl, hsz, hun, hrem, hpw, hlt, h, hr => by
    have hlisted : ∀ j, j < ops.size → (∀ y ∈ x :: rem, y.1 ≠ j) → listed.getD j false = true := by
      intro j hj hn
      have hjl : j < listed.size := by rw [hsz]; exact hj
      cases hb : listed.getD j true with
      | false =>
        obtain ⟨y, hy, he⟩ := hun j hj hb
        exact absurd he (hn y hy)
      | true =>
        rw [Array.getD_eq_getD_getElem?, Array.getElem?_eq_getElem hjl] at hb ⊢
        exact hb
    refine ⟨fun hno => ?_, fun i hi => ?_⟩
    · exfalso
      have hx := hrem x (by simp)
      have : x.1 ∈ Region.ready .any ops listed := by
        refine mem_ready.2 ⟨hx.2, x.2.1, hx.1, fun e he hb => ?_⟩
        have hlt' := hlt x (by simp) e he hb
        have hxs := (Array.getElem?_eq_some_iff.1 hx.1).1
        refine hlisted e.on (Nat.lt_trans hlt' hxs) (fun y hy heq => ?_)
        rcases List.mem_cons.1 hy with rfl | hy
        · omega
        · have := ((List.pairwise_cons.1 hpw).1 y hy).1
          omega
      rw [hno] at this
      cases this
    · obtain ⟨h0, o, ho, hall⟩ := mem_ready.1 hi
      have his := (Array.getElem?_eq_some_iff.1 ho).1
      obtain ⟨z, hz, hzi⟩ := hun i his h0
      obtain ⟨pre, post, hsplit⟩ := List.append_of_mem hz
      have hzo : z.2.1 = o := by
        have := (hrem z hz).1
        rw [hzi, ho] at this
        exact (Option.some.inj this).symm
      rw [hsplit] at hr hpw hrem hlt hun
      have hpre : ∀ p ∈ pre, p.2.1.apart ops z.2.1 = true ∧ clash p.2.2 z.2.2 = false := by
        intro p hp
        have hfree := ((List.pairwise_append.1 hpw).2.2 p hp z (by simp)).2
        rcases hfree with hw | hf
        · exfalso
          obtain ⟨e, he, hb, hon⟩ := waits_after hw
          rw [hzo] at he
          have h1 := hall e he hb
          have h2 := (hrem p (by simp [hp])).2
          rw [hon] at h1
          have hps := (Array.getElem?_eq_some_iff.1 (hrem p (by simp [hp])).1).1
          rw [← hsz] at hps
          rw [Array.getD_eq_getD_getElem?, Array.getElem?_eq_getElem hps] at h1 h2
          simp only [Option.getD_some] at h1 h2
          rw [h1] at h2
          cases h2
        · exact hf
      obtain ⟨f, k1, k2, k3⟩ := Runs.pull hO.law hE z post pre s hpre hr
      rw [hzo] at k1 k3
      refine stp_wp hT hO hE h ho k1 fun A1 ρ1 a1 w1 h1 => ?_
      have hsub : ∀ y, y ∈ pre ++ post → y ∈ pre ++ z :: post := by
        intro y hy
        rcases List.mem_append.1 hy with hy | hy
        · simp [hy]
        · simp [hy]
      have hne : ∀ y ∈ pre ++ post, y.1 ≠ i := by
        intro y hy heq
        rw [← hzi] at heq
        rcases List.mem_append.1 hy with hy | hy
        · have := ((List.pairwise_append.1 hpw).2.2 y hy z (by simp)).1
          omega
        · have := ((List.pairwise_cons.1 (List.pairwise_append.1 hpw).2.1).1 y hy).1
          omega
      refine any_wp hT hO hE hQ fuel (pre ++ post) (listed.setIfInBounds i true) _ a1 w1 A1 ρ1 ?_ (by rw [Array.size_setIfInBounds]; exact hsz) (fun j hj hjl => ?_) (fun y hy => ?_) ?_ (fun y hy => hlt y (hsub y hy)) h1 k3
      · have := congrArg List.length hsplit
        simp only [List.length_cons, List.length_append] at this hl ⊢
        omega
      · by_cases hij : i = j
        · subst hij
          exfalso
          rw [Array.getD_eq_getD_getElem?, Array.getElem?_setIfInBounds_self_of_lt (by rw [hsz]; exact hj)] at hjl
          cases hjl
        · rw [getD_set_ne true hij] at hjl
          obtain ⟨y, hy, he⟩ := hun j hj hjl
          refine ⟨y, ?_, he⟩
          rcases List.mem_append.1 hy with hy | hy
          · simp [hy]
          · rcases List.mem_cons.1 hy with rfl | hy
            · exact absurd (hzi.symm.trans he) hij
            · simp [hy]
      · obtain ⟨y1, y2⟩ := hrem y (hsub y hy)
        exact ⟨y1, by rw [getD_set_ne true (fun e => hne y hy e.symm)]; exact y2⟩
      · rw [List.pairwise_append] at hpw ⊢
        obtain ⟨p1, p2, p3⟩ := hpw
        exact ⟨p1, (List.pairwise_cons.1 p2).2, fun u hu v hv => p3 u hu v (by simp [hv])⟩

/-! ### From the evaluator's run -/

def zipI : Nat → List Oper → List FP → List It
  | i, o :: l, f :: fs => (i, o, f) :: zipI (i + 1) l fs
  | _, _, _ => []

theorem opsD_runs (hO : OrcLaw E) {kk : AS → List FP → Option R} : ∀ (l : List Oper) (i : Nat) (s : AS) (acc : List FP), opsD E ops l s acc kk = some r → ∃ s' fs, fs.length = l.length ∧ Runs E ops (zipI i l fs) s s' ∧ kk s' (acc.reverse ++ fs) = some r
  | [], i, s, acc, h => ⟨s, [], rfl, rfl, by simpa [opsD] using h⟩
  | o :: l, i, s, acc, h => by
    simp only [opsD] at h
    have h := partA_some h
    obtain ⟨f, hf, h⟩ := stepA_some hO h
    obtain ⟨s', fs, h1, h2, h3⟩ := opsD_runs hO l (i + 1) _ _ h
    exact ⟨s', fpOf f :: fs, by simp [h1], ⟨f, hf, rfl, h2⟩, by simpa [fpOf] using h3⟩

theorem mem_zipI : ∀ (l : List Oper) (fs : List FP) (i : Nat), fs.length = l.length → ∀ x ∈ zipI i l fs, i ≤ x.1 ∧ l[x.1 - i]? = some x.2.1
  | [], [], i, _, x, hx => by simp [zipI] at hx
  | [], _ :: _, i, h, x, hx => by simp at h
  | _ :: _, [], i, h, x, hx => by simp at h
  | o :: l, f :: fs, i, h, x, hx => by
    simp only [zipI, List.mem_cons] at hx
    rcases hx with rfl | hx
    · exact ⟨Nat.le_refl _, by simp⟩
    · obtain ⟨h1, h2⟩ := mem_zipI l fs (i + 1) (by simpa using h) x hx
      refine ⟨by omega, ?_⟩
      rw [show x.1 - i = (x.1 - (i + 1)) + 1 by omega, List.getElem?_cons_succ]
      exact h2

theorem zipI_has : ∀ (l : List Oper) (fs : List FP) (i : Nat), fs.length = l.length → ∀ j, j < l.length → ∃ x ∈ zipI i l fs, x.1 = i + j
  | [], [], i, _, j, hj => by simp at hj
  | [], _ :: _, i, h, _, _ => by simp at h
  | _ :: _, [], i, h, _, _ => by simp at h
  | o :: l, f :: fs, i, h, j, hj => by
    cases j with
    | zero => exact ⟨(i, o, f), by simp [zipI], rfl⟩
    | succ j =>
      obtain ⟨x, hx, he⟩ := zipI_has l fs (i + 1) (by simpa using h) j (by simpa using hj)
      exact ⟨x, by simp [zipI, hx], by omega⟩

theorem zipI_length : ∀ (l : List Oper) (fs : List FP) (i : Nat), (zipI i l fs).length ≤ l.length
  | [], _, i => by simp [zipI]
  | _ :: _, [], i => by simp [zipI]
  | o :: l, f :: fs, i => by
    have := zipI_length l fs (i + 1)
    simp only [zipI, List.length_cons]
    omega

theorem freeOf_mem : ∀ (l : List Oper) (fs : List FP) (i i0 : Nat) (o : Oper) (f : FP), freeOf ops i0 o f l fs = true → ∀ y ∈ zipI i l fs, Free ops (i0, o, f) y
  | [], _, i, i0, o, f, _, y, hy => by simp [zipI] at hy
  | _ :: _, [], i, i0, o, f, h, y, hy => by simp [zipI] at hy
  | p :: l, g :: fs, i, i0, o, f, h, y, hy => by
    simp only [freeOf, Bool.and_eq_true, Bool.or_eq_true, Bool.not_eq_true'] at h
    simp only [zipI, List.mem_cons] at hy
    rcases hy with rfl | hy
    · exact h.1
    · exact freeOf_mem l fs (i + 1) i0 o f h.2 y hy

theorem drawOk_pw : ∀ (l : List Oper) (fs : List FP) (i : Nat), fs.length = l.length → drawOk ops i l fs = true → (zipI i l fs).Pairwise (fun x y => x.1 < y.1 ∧ Free ops x y) ∧ ∀ x ∈ zipI i l fs, ∀ e ∈ x.2.1.after, Region.binds .any e = true → e.on < x.1
  | [], _, i, _, _ => by simp [zipI]
  | _ :: _, [], i, h, _ => by simp at h
  | o :: l, f :: fs, i, hl, h => by
    simp only [drawOk, Bool.and_eq_true] at h
    obtain ⟨⟨h1, h2⟩, h3⟩ := h
    obtain ⟨k1, k2⟩ := drawOk_pw l fs (i + 1) (by simpa using hl) h3
    simp only [zipI]
    refine ⟨List.pairwise_cons.2 ⟨fun y hy => ⟨?_, freeOf_mem l fs (i + 1) i o f h2 y hy⟩, k1⟩, fun x hx => ?_⟩
    · have := (mem_zipI l fs (i + 1) (by simpa using hl) y hy).1
      simp only []
      omega
    · rcases List.mem_cons.1 hx with rfl | hx
      · intro e he hb
        rw [Array.all_eq_true_iff_forall_mem] at h1
        have := h1 e he
        rw [hb] at this
        simpa using this
      · exact k2 x hx

/-- A drawn region. -/
theorem draw_wp (hm : P.follows .mixedOrders = true) (hT : TabOk P E.ty) (hO : OrcOk P E) (hE : E.nt ≤ 1000) {kk : AS → List FP → Option R} {id : Nat} (h : SimR W0 Wr E.nt A ρ s a w)
    (hr : opsD E ops ops.toList s [] (fun s fs => bif drawOk ops 0 ops.toList fs then kk s fs else none) = some r) (hk : ∀ s' fs a' w' A' ρ', kk s' fs = some r → SimR W0 Wr E.nt A' ρ' s' a' w' → Q .normal a' w') :
    (Code.region id ops true).wp P Q a w := by
  obtain ⟨s', fs, hlen, hruns, hr⟩ := opsD_runs hO.law ops.toList 0 s [] hr
  simp only [List.reverse_nil, List.nil_append] at hr
  obtain ⟨hok, hr⟩ := cond_some hr
  obtain ⟨hpw, hlt⟩ := drawOk_pw ops.toList fs 0 hlen hok
  refine wp_region_any hm ?_
  have h' : SimR W0 Wr E.nt A ρ s a { w with drawn := w.drawn + 1 } :=
    h.more ⟨rfl, rfl, rfl, Nat.le_refl _, fun _ _ => rfl⟩ (fun _ h => h) (fun _ h => .inl h) h.alive
  refine any_wp hT hO hE (fun a' w' A' ρ' hs => hk s' fs a' w' A' ρ' hr hs) ops.size (zipI 0 ops.toList fs) _ s a _ A ρ ?_ (by simp) (fun j hj _ => ?_) (fun x hx => ?_) hpw hlt h' hruns
  · have := zipI_length ops.toList fs 0
    simpa using this
  · obtain ⟨x, hx, he⟩ := zipI_has ops.toList fs 0 hlen j (by simpa using hj)
    exact ⟨x, hx, by omega⟩
  · obtain ⟨_, h2⟩ := mem_zipI ops.toList fs 0 hlen x hx
    simp only [Nat.sub_zero] at h2
    have h3 : ops[x.1]? = some x.2.1 := by simpa using h2
    refine ⟨h3, ?_⟩
    have := (Array.getElem?_eq_some_iff.1 h3).1
    simp [this]
end
end Go.Proofs.Ytdkebceiljdgjaa
