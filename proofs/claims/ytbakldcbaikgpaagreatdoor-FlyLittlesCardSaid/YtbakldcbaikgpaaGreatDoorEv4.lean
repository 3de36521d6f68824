/- The texts Sound21, Sound22, Sound23, Sound24, Sound25, Sound26, joined. Own work. -/
import Derived.Test.YtbakldcbaikgpaaGreatDoorEv3
import Derived.LoopN
/- Regions that are drawn. Own work, program-independent. -/
namespace Go.Proofs.YtbakldcbaikgpaaGreatDoor
open Go.RowKit (Below)
/-- An operation that is still to run: its number, itself, what it touches. -/
abbrev It := Nat × Oper × FP
def Runs (E : Env) (ops : Array Oper) : List It → AS → AS → Prop
  | [], s, s' => s' = s
  | x :: r, s, s' => ∃ f, stp E ops s x.2.1 = some f ∧ fpOf f = x.2.2 ∧ Runs E ops r (s.put x.2.1.dst f) s'
def Free (ops : Array Oper) (x y : It) : Prop := waitsT ops 12 y.2.1 x.1 = true ∨ (x.2.1.apart ops y.2.1 = true ∧ clash x.2.2 y.2.2 = false)
section
variable {R : Type} {P : Program} {E : Env} {W0 : World} {Wr : Wk} {A A' : Nat → Prop} {ρ ρ' : Rho} {s s' : AS} {a : Act} {w w' : World} {o : Oper} {f : Eff} {ops : Array Oper} {Q : Exit → Act → World → Prop} {r : R}
theorem Runs.pull (hO : OrcLaw E) (hE : E.nt ≤ 1000) (x : It) (post : List It) : ∀ (pre : List It) (s : AS), (∀ p ∈ pre, p.2.1.apart ops x.2.1 = true ∧ clash p.2.2 x.2.2 = false) → Runs E ops (pre ++ x :: post) s s' →
    ∃ f, stp E ops s x.2.1 = some f ∧ fpOf f = x.2.2 ∧ Runs E ops (pre ++ post) (s.put x.2.1.dst f) s'
  | [], s, _, h => h
  | p :: pre, s, hp, h => by
    obtain ⟨g, h1, h2, h3⟩ := h
    obtain ⟨f, k1, k2, k3⟩ := Runs.pull hO hE x post pre _ (fun q hq => hp q (by simp [hq])) h3
    obtain ⟨hap, hcl⟩ := hp p (by simp)
    rw [← h2, ← k2] at hcl
    obtain ⟨m1, m2, m3⟩ := stp_swap hO hE hap hcl h1 k1
    exact ⟨f, m1, k2, g, m2, h2, by rw [m3]; exact k3⟩
theorem waits_after {o : Oper} {i : Nat} (h : waitsB o i = true) : ∃ e ∈ o.after, Region.binds .any e = true ∧ e.on = i := by
  unfold waitsB at h
  rw [Array.any_eq_true'] at h
  obtain ⟨e, he, hb⟩ := h
  simp only [Bool.and_eq_true] at hb
  exact ⟨e, he, hb.1, nat_beq hb.2⟩
theorem waitsB_T {o : Oper} {i : Nat} (h : waitsB o i = true) : ∀ k, waitsT ops k o i = true
  | 0 => h
  | _ + 1 => by simp only [waitsT, h, Bool.true_or]
/-- What is done has all done that it waits for. -/
def Down (ops : Array Oper) (listed : Array Bool) : Prop := ∀ j o, ops[j]? = some o → listed.getD j false = true → ∀ e ∈ o.after, Region.binds .any e = true → listed.getD e.on false = true
theorem waitsT_done {listed : Array Bool} (hd : Down ops listed) {i : Nat} : ∀ (k : Nat) (o : Oper), (∀ e ∈ o.after, Region.binds .any e = true → listed.getD e.on false = true) → waitsT ops k o i = true → listed.getD i false = true
  | 0, o, ha, h => by
    obtain ⟨e, he, hb, hon⟩ := waits_after (show waitsB o i = true from h)
    rw [← hon]
    exact ha e he hb
  | k + 1, o, ha, h => by
    simp only [waitsT, Bool.or_eq_true] at h
    rcases h with h | h
    · obtain ⟨e, he, hb, hon⟩ := waits_after h
      rw [← hon]
      exact ha e he hb
    · rw [Array.any_eq_true'] at h
      obtain ⟨e, he, hb⟩ := h
      rw [Bool.and_eq_true] at hb
      obtain ⟨hb, hm⟩ := hb
      split at hm
      · rename_i p hp
        exact waitsT_done hd k p (hd e.on p hp (ha e he hb)) hm
      · cases hm
/-- A region in any order. -/
theorem any_wp (hT : TabOk P E.ty) (hO : OrcOk P E) (hG : Wr.gv = globP P) (hE : E.nt ≤ 1000) (hQ : ∀ a' w' A' ρ', SimR W0 Wr E.nt A' ρ' s' a' w' → Q .normal a' w') : ∀ (fuel : Nat) (rem : List It) (listed : Array Bool) (s : AS) (a : Act) (w : World) (A : Nat → Prop) (ρ : Rho),
    rem.length ≤ fuel → listed.size = ops.size → Down ops listed → (∀ j, j < ops.size → listed.getD j true = false → ∃ x ∈ rem, x.1 = j) → (∀ x ∈ rem, ops[x.1]? = some x.2.1 ∧ listed.getD x.1 true = false) →
    rem.Pairwise (fun x y => x.1 < y.1 ∧ Free ops x y) → (∀ x ∈ rem, ∀ e ∈ x.2.1.after, Region.binds .any e = true → e.on < x.1) → SimR W0 Wr E.nt A ρ s a w → Runs E ops rem s s' → wpAny P .any ops Q fuel listed a w
  | fuel, [], listed, s, a, w, A, ρ, hl, hsz, hdn, hun, hrem, hpw, hlt, h, hr => by
    have hno : Region.ready .any ops listed = [] := by
      apply List.eq_nil_iff_forall_not_mem.2
      intro j hj
      obtain ⟨h0, o, ho, _⟩ := mem_ready.1 hj
      obtain ⟨x, hx, _⟩ := hun j (Array.getElem?_eq_some_iff.1 ho).1 h0
      cases hx
    have hd : Q .normal a w := by
      have : s' = s := hr
      subst this
      exact hQ _ _ _ _ h
    cases fuel with
    | zero => exact ⟨hno, hd⟩
    | succ fuel => exact ⟨fun _ => hd, fun i hi => by rw [hno] at hi; cases hi⟩
  | 0, x :: rem, listed, s, a, w, A, ρ, hl, hsz, hdn, hun, hrem, hpw, hlt, h, hr => by simp at hl
  | fuel + 1, x :: rem, listed, s, a, w, A, ρ, hl, hsz, hdn, hun, hrem, hpw, hlt, h, hr => by
    have hlisted : ∀ j, j < ops.size → (∀ y ∈ x :: rem, y.1 ≠ j) → listed.getD j false = true := by
      intro j hj hn
      have hjl : j < listed.size := by rw [hsz]; exact hj
      cases hb : listed.getD j true with
      | false =>
        obtain ⟨y, hy, he⟩ := hun j hj hb
        exact absurd he (hn y hy)
      | true =>
        rw [Array.getD_eq_getD_getElem?, Array.getElem?_eq_getElem hjl] at hb ⊢
        exact hb
    refine ⟨fun hno => ?_, fun i hi => ?_⟩
    · exfalso
      have hx := hrem x (by simp)
      have : x.1 ∈ Region.ready .any ops listed := by
        refine mem_ready.2 ⟨hx.2, x.2.1, hx.1, fun e he hb => ?_⟩
        have hlt' := hlt x (by simp) e he hb
        have hxs := (Array.getElem?_eq_some_iff.1 hx.1).1
        refine hlisted e.on (Nat.lt_trans hlt' hxs) (fun y hy heq => ?_)
        rcases List.mem_cons.1 hy with rfl | hy
        · omega
        · have := ((List.pairwise_cons.1 hpw).1 y hy).1
          omega
      rw [hno] at this
      cases this
    · obtain ⟨h0, o, ho, hall⟩ := mem_ready.1 hi
      have his := (Array.getElem?_eq_some_iff.1 ho).1
      obtain ⟨z, hz, hzi⟩ := hun i his h0
      obtain ⟨pre, post, hsplit⟩ := List.append_of_mem hz
      have hzo : z.2.1 = o := by
        have := (hrem z hz).1
        rw [hzi, ho] at this
        exact (Option.some.inj this).symm
      rw [hsplit] at hr hpw hrem hlt hun
      have hpre : ∀ p ∈ pre, p.2.1.apart ops z.2.1 = true ∧ clash p.2.2 z.2.2 = false := by
        intro p hp
        have hfree := ((List.pairwise_append.1 hpw).2.2 p hp z (by simp)).2
        rcases hfree with hw | hf
        · exfalso
          rw [hzo] at hw
          have h1 := waitsT_done hdn 12 o hall hw
          have h2 := (hrem p (by simp [hp])).2
          have hps := (Array.getElem?_eq_some_iff.1 (hrem p (by simp [hp])).1).1
          rw [← hsz] at hps
          rw [Array.getD_eq_getD_getElem?, Array.getElem?_eq_getElem hps] at h1 h2
          simp only [Option.getD_some] at h1 h2
          rw [h1] at h2
          cases h2
        · exact hf
      obtain ⟨f, k1, k2, k3⟩ := Runs.pull hO.law hE z post pre s hpre hr
      rw [hzo] at k1 k3
      refine stp_wp hT hO hG hE h ho k1 fun A1 ρ1 a1 w1 h1 => ?_
      have hsub : ∀ y, y ∈ pre ++ post → y ∈ pre ++ z :: post := by
        intro y hy
        rcases List.mem_append.1 hy with hy | hy
        · simp [hy]
        · simp [hy]
      have hne : ∀ y ∈ pre ++ post, y.1 ≠ i := by
        intro y hy heq
        rw [← hzi] at heq
        rcases List.mem_append.1 hy with hy | hy
        · have := ((List.pairwise_append.1 hpw).2.2 y hy z (by simp)).1
          omega
        · have := ((List.pairwise_cons.1 (List.pairwise_append.1 hpw).2.1).1 y hy).1
          omega
      refine any_wp hT hO hG hE hQ fuel (pre ++ post) (listed.setIfInBounds i true) _ a1 w1 A1 ρ1 ?_ (by rw [Array.size_setIfInBounds]; exact hsz) ?_ (fun j hj hjl => ?_) (fun y hy => ?_) ?_ (fun y hy => hlt y (hsub y hy)) h1 k3
      · have := congrArg List.length hsplit
        simp only [List.length_cons, List.length_append] at this hl ⊢
        omega
      · have hup : ∀ j, listed.getD j false = true → (listed.setIfInBounds i true).getD j false = true := by
          intro j hj
          by_cases hij : i = j
          · subst hij
            rw [Array.getD_eq_getD_getElem?, Array.getElem?_setIfInBounds_self_of_lt (by rw [hsz]; exact his)]
            rfl
          · rw [getD_set_ne false hij]
            exact hj
        intro j oj hoj hj e he hb
        by_cases hij : i = j
        · subst hij
          rw [ho] at hoj
          cases hoj
          exact hup _ (hall e he hb)
        · rw [getD_set_ne false hij] at hj
          exact hup _ (hdn j oj hoj hj e he hb)
      · by_cases hij : i = j
        · subst hij
          exfalso
          rw [Array.getD_eq_getD_getElem?, Array.getElem?_setIfInBounds_self_of_lt (by rw [hsz]; exact hj)] at hjl
          cases hjl
        · rw [getD_set_ne true hij] at hjl
          obtain ⟨y, hy, he⟩ := hun j hj hjl
          refine ⟨y, ?_, he⟩
          rcases List.mem_append.1 hy with hy | hy
          · simp [hy]
          · rcases List.mem_cons.1 hy with rfl | hy
            · exact absurd (hzi.symm.trans he) hij
            · simp [hy]
      · obtain ⟨y1, y2⟩ := hrem y (hsub y hy)
        exact ⟨y1, by rw [getD_set_ne true (fun e => hne y hy e.symm)]; exact y2⟩
      · rw [List.pairwise_append] at hpw ⊢
        obtain ⟨p1, p2, p3⟩ := hpw
        exact ⟨p1, (List.pairwise_cons.1 p2).2, fun u hu v hv => p3 u hu v (by simp [hv])⟩
/-! ### From the evaluator's run -/
def zipI : Nat → List Oper → List FP → List It
  | i, o :: l, f :: fs => (i, o, f) :: zipI (i + 1) l fs
  | _, _, _ => []
theorem opsD_runs (hO : OrcLaw E) {kk : AS → List FP → Option R} : ∀ (l : List Oper) (i : Nat) (s : AS) (acc : List FP), opsD E ops l s acc kk = some r → ∃ s' fs, fs.length = l.length ∧ Runs E ops (zipI i l fs) s s' ∧ kk s' (acc.reverse ++ fs) = some r
  | [], i, s, acc, h => ⟨s, [], rfl, rfl, by simpa [opsD] using h⟩
  | o :: l, i, s, acc, h => by
    simp only [opsD] at h
    have h := partA_some h
    obtain ⟨f, hf, h⟩ := stepA_some hO h
    obtain ⟨s', fs, h1, h2, h3⟩ := opsD_runs hO l (i + 1) _ _ h
    exact ⟨s', fpOf f :: fs, by simp [h1], ⟨f, hf, rfl, h2⟩, by simpa [fpOf] using h3⟩
theorem mem_zipI : ∀ (l : List Oper) (fs : List FP) (i : Nat), fs.length = l.length → ∀ x ∈ zipI i l fs, i ≤ x.1 ∧ l[x.1 - i]? = some x.2.1
  | [], [], i, _, x, hx => by simp [zipI] at hx
  | [], _ :: _, i, h, x, hx => by simp at h
  | _ :: _, [], i, h, x, hx => by simp at h
  | o :: l, f :: fs, i, h, x, hx => by
    simp only [zipI, List.mem_cons] at hx
    rcases hx with rfl | hx
    · exact ⟨Nat.le_refl _, by simp⟩
    · obtain ⟨h1, h2⟩ := mem_zipI l fs (i + 1) (by simpa using h) x hx
      refine ⟨by omega, ?_⟩
      rw [show x.1 - i = (x.1 - (i + 1)) + 1 by omega, List.getElem?_cons_succ]
      exact h2
theorem zipI_has : ∀ (l : List Oper) (fs : List FP) (i : Nat), fs.length = l.length → ∀ j, j < l.length → ∃ x ∈ zipI i l fs, x.1 = i + j
  | [], [], i, _, j, hj => by simp at hj
  | [], _ :: _, i, h, _, _ => by simp at h
  | _ :: _, [], i, h, _, _ => by simp at h
  | o :: l, f :: fs, i, h, j, hj => by
    cases j with
    | zero => exact ⟨(i, o, f), by simp [zipI], rfl⟩
    | succ j =>
      obtain ⟨x, hx, he⟩ := zipI_has l fs (i + 1) (by simpa using h) j (by simpa using hj)
      exact ⟨x, by simp [zipI, hx], by omega⟩
theorem zipI_length : ∀ (l : List Oper) (fs : List FP) (i : Nat), (zipI i l fs).length ≤ l.length
  | [], _, i => by simp [zipI]
  | _ :: _, [], i => by simp [zipI]
  | o :: l, f :: fs, i => by
    have := zipI_length l fs (i + 1)
    simp only [zipI, List.length_cons]
    omega
theorem freeOf_mem : ∀ (l : List Oper) (fs : List FP) (i i0 : Nat) (o : Oper) (f : FP), freeOf ops i0 o f l fs = true → ∀ y ∈ zipI i l fs, Free ops (i0, o, f) y
  | [], _, i, i0, o, f, _, y, hy => by simp [zipI] at hy
  | _ :: _, [], i, i0, o, f, h, y, hy => by simp [zipI] at hy
  | p :: l, g :: fs, i, i0, o, f, h, y, hy => by
    simp only [freeOf, Bool.and_eq_true, Bool.or_eq_true, Bool.not_eq_true'] at h
    simp only [zipI, List.mem_cons] at hy
    rcases hy with rfl | hy
    · rcases h.1 with h1 | h1 | h1
      · exact .inl (waitsB_T h1 12)
      · exact .inr h1
      · exact .inl h1
    · exact freeOf_mem l fs (i + 1) i0 o f h.2 y hy
theorem drawOk_pw : ∀ (l : List Oper) (fs : List FP) (i : Nat), fs.length = l.length → drawOk ops i l fs = true → (zipI i l fs).Pairwise (fun x y => x.1 < y.1 ∧ Free ops x y) ∧ ∀ x ∈ zipI i l fs, ∀ e ∈ x.2.1.after, Region.binds .any e = true → e.on < x.1
  | [], _, i, _, _ => by simp [zipI]
  | _ :: _, [], i, h, _ => by simp at h
  | o :: l, f :: fs, i, hl, h => by
    simp only [drawOk, Bool.and_eq_true] at h
    obtain ⟨⟨h1, h2⟩, h3⟩ := h
    obtain ⟨k1, k2⟩ := drawOk_pw l fs (i + 1) (by simpa using hl) h3
    simp only [zipI]
    refine ⟨List.pairwise_cons.2 ⟨fun y hy => ⟨?_, freeOf_mem l fs (i + 1) i o f h2 y hy⟩, k1⟩, fun x hx => ?_⟩
    · have := (mem_zipI l fs (i + 1) (by simpa using hl) y hy).1
      simp only []
      omega
    · rcases List.mem_cons.1 hx with rfl | hx
      · intro e he hb
        rw [Array.all_eq_true_iff_forall_mem] at h1
        have := h1 e he
        rw [hb] at this
        simpa using this
      · exact k2 x hx
/-- A drawn region. -/
theorem draw_wp (hm : P.follows .mixedOrders = true) (hT : TabOk P E.ty) (hO : OrcOk P E) (hG : Wr.gv = globP P) (hE : E.nt ≤ 1000) {kk : AS → List FP → Option R} {id : Nat} (h : SimR W0 Wr E.nt A ρ s a w)
    (hr : opsD E ops ops.toList s [] (fun s fs => bif drawOk ops 0 ops.toList fs then kk s fs else none) = some r) (hk : ∀ s' fs a' w' A' ρ', kk s' fs = some r → SimR W0 Wr E.nt A' ρ' s' a' w' → Q .normal a' w') :
    (Code.region id ops true).wp P Q a w := by
  obtain ⟨s', fs, hlen, hruns, hr⟩ := opsD_runs hO.law ops.toList 0 s [] hr
  simp only [List.reverse_nil, List.nil_append] at hr
  obtain ⟨hok, hr⟩ := cond_some hr
  obtain ⟨hpw, hlt⟩ := drawOk_pw ops.toList fs 0 hlen hok
  refine wp_region_any hm ?_
  have h' : SimR W0 Wr E.nt A ρ s a { w with drawn := w.drawn + 1 } :=
    h.more ⟨rfl, rfl, rfl, Nat.le_refl _, fun _ _ => rfl⟩ (fun _ h => h) (fun _ h => .inl h) h.alive
  refine any_wp hT hO hG hE (fun a' w' A' ρ' hs => hk s' fs a' w' A' ρ' hr hs) ops.size (zipI 0 ops.toList fs) _ s a _ A ρ ?_ (by simp) (fun j o _ hj => ?_) (fun j hj _ => ?_) (fun x hx => ?_) hpw hlt h' hruns
  · have := zipI_length ops.toList fs 0
    simpa using this
  · exfalso
    simp only [Array.getD_eq_getD_getElem?, Array.getElem?_replicate] at hj
    split at hj <;> cases hj
  · obtain ⟨x, hx, he⟩ := zipI_has ops.toList fs 0 hlen j (by simpa using hj)
    exact ⟨x, hx, by omega⟩
  · obtain ⟨_, h2⟩ := mem_zipI ops.toList fs 0 hlen x hx
    simp only [Nat.sub_zero] at h2
    have h3 : ops[x.1]? = some x.2.1 := by simpa using h2
    refine ⟨h3, ?_⟩
    have := (Array.getElem?_eq_some_iff.1 h3).1
    simp [this]
end
end Go.Proofs.YtbakldcbaikgpaaGreatDoor
/- A loop's head: what is kept, and under which names. Own work, program-independent. -/
namespace Go.Proofs.YtbakldcbaikgpaaGreatDoor
open Go.RowKit (Below)
def rhoOf (ρ : Rho) : List Ref → Rho
  | [], _ => none
  | x :: r, i => bif Nat.beq x.1.2.1 i then (match x.2.1 with | some o => ρ o | none => some (none, (0, 0))) else rhoOf ρ r i
section
variable {R : Type} {P : Program} {E : Env} {W0 : World} {Wr : Wk} {nt : Nat} {A A' : Nat → Prop} {ρ ρ' : Rho} {s s' : AS} {a : Act} {w w' : World} {r : R}
theorem nodupB_iff : ∀ (l : List Nat), nodupB l = true → l.Nodup
  | [], _ => List.nodup_nil
  | x :: r, h => by
    simp only [nodupB, Bool.and_eq_true, Bool.not_eq_true'] at h
    refine List.nodup_cons.2 ⟨fun hx => ?_, nodupB_iff r h.2⟩
    rw [any_beq.2 hx] at h
    cases h.1
theorem rhoOf_mem (ρ : Rho) : ∀ (l : List Ref), (l.map (·.1.2.1)).Nodup → ∀ x ∈ l, rhoOf ρ l x.1.2.1 = (match x.2.1 with | some o => ρ o | none => some (none, (0, 0)))
  | [], _, x, hx => by cases hx
  | y :: r, hn, x, hx => by
    simp only [List.map_cons, List.nodup_cons] at hn
    simp only [rhoOf]
    rcases List.mem_cons.1 hx with rfl | hx
    · rw [Nat.beq_refl]; rfl
    · have hne : ¬ y.1.2.1 = x.1.2.1 := fun e => hn.1 (e ▸ List.mem_map.2 ⟨x, hx, rfl⟩)
      have : Nat.beq y.1.2.1 x.1.2.1 = false := by
        cases hb : Nat.beq y.1.2.1 x.1.2.1 with
        | false => rfl
        | true => exact absurd (nat_beq hb) hne
      rw [this]
      exact rhoOf_mem ρ r hn.2 x hx
theorem rhoOf_some (ρ : Rho) : ∀ (l : List Ref) (i : Nat) y, rhoOf ρ l i = some y → ∃ x ∈ l, x.1.2.1 = i
  | [], i, y, h => by cases h
  | z :: r, i, y, h => by
    simp only [rhoOf] at h
    cases hb : Nat.beq z.1.2.1 i with
    | true => exact ⟨z, by simp, nat_beq hb⟩
    | false =>
      rw [hb] at h
      obtain ⟨x, hx, he⟩ := rhoOf_some ρ r i y h
      exact ⟨x, by simp [hx], he⟩
theorem rnOf_mem : ∀ (l : List Ref) (id new : Nat), rnOf l id = some new → ∃ x ∈ l, x.2.1 = some id ∧ x.1.2.1 = new
  | [], id, new, h => by cases h
  | (r, old, c) :: l, id, new, h => by
    cases old with
    | none =>
      simp only [rnOf] at h
      obtain ⟨x, hx, he⟩ := rnOf_mem l id new h
      exact ⟨x, by simp [hx], he⟩
    | some o =>
      simp only [rnOf] at h
      cases hb : Nat.beq o id with
      | true =>
        rw [hb] at h
        simp only [cond_true, Option.some.injEq] at h
        exact ⟨(r, some o, c), by simp, by rw [nat_beq hb], h⟩
      | false =>
        rw [hb] at h
        obtain ⟨x, hx, he⟩ := rnOf_mem l id new h
        exact ⟨x, by simp [hx], he⟩
mutual
theorem renA_spec {rn : Nat → Option Nat} (hr : ∀ id new, rn id = some new → ρ' new = ρ id) : ∀ (v v' : AV) (x : Value), renA rn v = some v' → VR A w ρ v x → VR A w ρ' v' x ∧ v'.cnt = v.cnt ∧ v'.esz = v.esz
  | .wsl id, v', x, hf, h => by
    simp only [renA, Option.map_eq_some_iff] at hf
    obtain ⟨j, hj, rfl⟩ := hf
    simp only [VR] at h ⊢
    rw [hr _ _ hj]
    exact ⟨h, rfl, rfl⟩
  | .ptr id i e g, v', x, hf, h => by
    simp only [renA, Option.map_eq_some_iff] at hf
    obtain ⟨j, hj, rfl⟩ := hf
    simp only [VR] at h ⊢
    rw [hr _ _ hj]
    exact ⟨h, rfl, rfl⟩
  | .st ps, v', x, hf, h => by
    simp only [renA, Option.map_eq_some_iff] at hf
    obtain ⟨qs, hq, rfl⟩ := hf
    simp only [VR] at h ⊢
    obtain ⟨cs, h1, h2⟩ := h
    exact ⟨⟨cs, renAs_specC hr ps qs cs hq h1, h2⟩, rfl, rfl⟩
  | .tup ps, v', x, hf, h => by simp only [VR] at h
  | .iface t y, v', x, hf, h => by
    simp only [renA, Option.map_eq_some_iff] at hf
    obtain ⟨q, hq, rfl⟩ := hf
    simp only [VR] at h ⊢
    obtain ⟨z, h1, h2⟩ := h
    exact ⟨⟨z, (renA_spec hr y q z hq h1).1, h2⟩, rfl, rfl⟩
  | .pt c i e g, v', x, hf, h => by
    simp only [renA, Option.map_eq_some_iff] at hf
    obtain ⟨q, hq, rfl⟩ := hf
    simp only [VR] at h ⊢
    obtain ⟨u, b, off, h1, h2, h3, h4, h5⟩ := h
    obtain ⟨k1, k2, k3⟩ := renA_spec hr c q u hq h1
    exact ⟨⟨u, b, off, k1, h2, h3, h4, by rw [k2]; exact h5⟩, rfl, rfl⟩
  | .sl c, v', x, hf, h => by
    simp only [renA, Option.map_eq_some_iff] at hf
    obtain ⟨q, hq, rfl⟩ := hf
    simp only [VR] at h ⊢
    obtain ⟨u, h1, h2⟩ := h
    obtain ⟨k1, k2, k3⟩ := renA_spec hr c q u hq h1
    refine ⟨⟨u, k1, ?_⟩, rfl, rfl⟩
    rw [k2]; exact h2
  | .dead, v', x, hf, h => by simp only [VR] at h
  | .osl _ _, v', x, hf, h => by simp only [VR] at h
  | .bool b, v', x, hf, h => by simp only [renA, Option.some.injEq] at hf; subst hf; exact ⟨by simpa only [VR] using h, rfl, rfl⟩
  | .int _ _, v', x, hf, h => by simp only [renA, Option.some.injEq] at hf; subst hf; exact ⟨by simpa only [VR] using h, rfl, rfl⟩
  | .ints _ _ _, v', x, hf, h => by simp only [renA, Option.some.injEq] at hf; subst hf; exact ⟨by simpa only [VR] using h, rfl, rfl⟩
  | .prs _ _ _, v', x, hf, h => by simp only [renA, Option.some.injEq] at hf; subst hf; exact ⟨by simpa only [VR] using h, rfl, rfl⟩
  | .nilp, v', x, hf, h => by simp only [renA, Option.some.injEq] at hf; subst hf; exact ⟨by simpa only [VR] using h, rfl, rfl⟩
  | .nils, v', x, hf, h => by simp only [renA, Option.some.injEq] at hf; subst hf; exact ⟨by simpa only [VR] using h, rfl, rfl⟩
  | .func _, v', x, hf, h => by simp only [renA, Option.some.injEq] at hf; subst hf; exact ⟨by simpa only [VR] using h, rfl, rfl⟩
  | .nili, v', x, hf, h => by simp only [renA, Option.some.injEq] at hf; subst hf; exact ⟨by simpa only [VR] using h, rfl, rfl⟩
  | .con _, v', x, hf, h => by simp only [renA, Option.some.injEq] at hf; subst hf; exact ⟨by simpa only [VR] using h, rfl, rfl⟩
  | .rf _ _, v', x, hf, h => by simp only [VR] at h
  | .rv _ _ _ _ _, v', x, hf, h => by simp only [VR] at h
  | .mt _ _, v', x, hf, h => by simp only [VR] at h
  | .wv id lo n e, v', x, hf, h => by
    simp only [renA, Option.map_eq_some_iff] at hf
    obtain ⟨j, hj, rfl⟩ := hf
    simp only [VR] at h ⊢
    rw [hr _ _ hj]
    exact ⟨h, rfl, rfl⟩
  | .rts, v', x, hf, h => by simp only [renA, Option.some.injEq] at hf; subst hf; exact ⟨by simpa only [VR] using h, rfl, rfl⟩
theorem renAs_specC {rn : Nat → Option Nat} (hr : ∀ id new, rn id = some new → ρ' new = ρ id) : ∀ (ps ps' : List AV) (cs : List Value), renAs rn ps = some ps' → CRs A w ρ ps cs → CRs A w ρ' ps' cs
  | [], ps', cs, hf, h => by
    simp only [renAs, Option.some.injEq] at hf
    subst hf
    simpa only [CRs] using h
  | p :: ps, ps', cs, hf, h => by
    simp only [renAs] at hf
    split at hf
    case h_2 => cases hf
    rename_i q hq
    split at hf
    case h_2 => cases hf
    rename_i qs hqs
    simp only [Option.some.injEq] at hf
    subst hf
    simp only [CRs] at h ⊢
    obtain ⟨v, cs', h1, h2, h3⟩ := h
    exact ⟨v, cs', (renA_spec hr p q v hq h1).1, renAs_specC hr ps qs cs' hqs h2, h3⟩
end
theorem renAs_spec {rn : Nat → Option Nat} (hr : ∀ id new, rn id = some new → ρ' new = ρ id) : ∀ (ps ps' : List AV) (vs : List Value), renAs rn ps = some ps' → VRs A w ρ ps vs → VRs A w ρ' ps' vs
  | [], ps', cs, hf, h => by
    simp only [renAs, Option.some.injEq] at hf
    subst hf
    simpa only [VRs] using h
  | p :: ps, ps', cs, hf, h => by
    simp only [renAs] at hf
    split at hf
    case h_2 => cases hf
    rename_i q hq
    split at hf
    case h_2 => cases hf
    rename_i qs hqs
    simp only [Option.some.injEq] at hf
    subst hf
    simp only [VRs] at h ⊢
    obtain ⟨v, cs', h1, h2, h3⟩ := h
    exact ⟨v, cs', (renA_spec hr p q v hq h1).1, renAs_spec hr ps qs cs' hqs h2, h3⟩
/-- What an entry of refsA says. -/
def RefOk (s : AS) (x : Ref) : Prop :=
  (∃ id, x.2.1 = some id ∧ blkA s x.1.2.2.1 id = some x.2.2 ∧ ((s.t x.1.1 = .ptr id 0 0 0 ∧ refV x.1 = .ptr x.1.2.1 0 0 0) ∨ (s.t x.1.1 = .wsl id ∧ refV x.1 = .wsl x.1.2.1) ∨ refV x.1 = .dead)) ∨
  (s.t x.1.1 = .nils ∧ x.2.1 = none ∧ refV x.1 = .wsl x.1.2.1 ∧ emptyA x.2.2 = true)
theorem refA_ok {r : Nat × Nat × TypeId × AV} {y : Option Nat × AV} (h : refA s r = some y) : RefOk s (r, y) := by
  obtain ⟨j, new, e, c⟩ := r
  unfold refA at h
  by_cases hc : c = .dead
  · subst hc
    simp only [] at h
    split at h
    · rename_i id ht
      split at h
      · rename_i c hb
        simp only [Option.some.injEq] at h
        subst h
        exact .inl ⟨id, rfl, hb, .inl ⟨ht, rfl⟩⟩
      · cases h
    · cases h
  · by_cases hc2 : ∃ q1 q2 q3 q4, c = .wv q1 q2 q3 q4
    · obtain ⟨q1, q2, q3, q4, rfl⟩ := hc2
      simp only [] at h
      split at h
      · rename_i id _ _ _ ht
        split at h
        · rename_i c hb
          simp only [Option.some.injEq] at h
          subst h
          exact .inl ⟨id, rfl, hb, .inr (.inr rfl)⟩
        · cases h
      · cases h
    have hV : refV (j, new, e, c) = .wsl new := by
      unfold refV
      cases c <;> first | (exact absurd rfl hc) | (exact absurd ⟨_, _, _, _, rfl⟩ hc2) | rfl
    have h' : (match s.t j with
      | .wsl id => match blkA s e id with
        | some c => some (some id, c)
        | none => none
      | .nils => bif emptyA c then some (none, c) else none
      | _ => none) = some y := by
      cases c <;> first | (exact absurd rfl hc) | (exact absurd ⟨_, _, _, _, rfl⟩ hc2) | exact h
    split at h'
    · rename_i id ht
      split at h'
      · rename_i c' hb
        simp only [Option.some.injEq] at h'
        subst h'
        exact .inl ⟨id, rfl, hb, .inr (.inl ⟨ht, hV⟩)⟩
      · cases h'
    · rename_i ht
      obtain ⟨h1, h2⟩ := cond_some h'
      simp only [Option.some.injEq] at h2
      subst h2
      exact .inr ⟨ht, rfl, hV, h1⟩
    · cases h'
theorem refsA_ok : ∀ (rs : List (Nat × Nat × TypeId × AV)) (l : List Ref), refsA s rs = some l → l.map (·.1) = rs ∧ ∀ x ∈ l, RefOk s x
  | [], l, hl => by
    simp only [refsA, Option.some.injEq] at hl
    subst hl
    exact ⟨rfl, by simp⟩
  | r :: rs, l, hl => by
    simp only [refsA] at hl
    split at hl
    case h_1 => cases hl
    rename_i y hy
    split at hl
    case h_1 => cases hl
    rename_i l' hl'
    simp only [Option.some.injEq] at hl
    subst hl
    obtain ⟨h1, h2⟩ := refsA_ok rs l' hl'
    refine ⟨by simp [h1], fun x hx => ?_⟩
    rcases List.mem_cons.1 hx with rfl | hx
    · exact refA_ok hy
    · exact h2 x hx
theorem renC_get {rn : Nat → Option Nat} : ∀ (l : List Ref) (cs : List AV), renC rn l = some cs → cs.length = l.length ∧ ∀ (i : Nat) x, l[i]? = some x → ∃ c, cs[i]? = some c ∧ renA rn x.2.2 = some c
  | [], cs, h => by
    simp only [renC, Option.some.injEq] at h
    subst h
    exact ⟨rfl, fun i x hx => by simp at hx⟩
  | y :: l, cs, h => by
    simp only [renC] at h
    split at h
    case h_1 => cases h
    rename_i c hc
    split at h
    case h_1 => cases h
    rename_i cs' hcs
    simp only [Option.some.injEq] at h
    subst h
    obtain ⟨h1, h2⟩ := renC_get l cs' hcs
    refine ⟨by simp [h1], fun i x hx => ?_⟩
    cases i with
    | zero =>
      simp only [List.getElem?_cons_zero, Option.some.injEq] at hx
      subst hx
      exact ⟨c, rfl, hc⟩
    | succ i =>
      simp only [List.getElem?_cons_succ] at hx
      simpa using h2 i x hx
theorem zipR_mem : ∀ (rs : List (Nat × Nat × TypeId × AV)) (vs : List AV) y, y ∈ zipR rs vs → ∃ (i : Nat) (r : Nat × Nat × TypeId × AV) (v : AV), rs[i]? = some r ∧ vs[i]? = some v ∧ y = (r.2.1, some ⟨r.2.2.1, true, v⟩)
  | [], _, y, h => by simp [zipR] at h
  | _ :: _, [], y, h => by simp [zipR] at h
  | r :: rs, v :: vs, y, h => by
    simp only [zipR, List.mem_cons] at h
    rcases h with rfl | h
    · exact ⟨0, r, v, rfl, rfl, rfl⟩
    · obtain ⟨i, r', v', h1, h2, h3⟩ := zipR_mem rs vs y h
      exact ⟨i + 1, r', v', by simpa using h1, by simpa using h2, h3⟩
theorem zipK_map (g : Nat → AV) : ∀ (js : List Nat), zipK js (js.map g) = js.map (fun j => (j, g j))
  | [] => rfl
  | j :: js => by simp only [List.map_cons, zipK, zipK_map g js]
theorem filterMap_inj : ∀ (l : List Ref), (l.filterMap (·.2.1)).Nodup → ∀ x y, x ∈ l → y ∈ l → x ≠ y → ∀ o, x.2.1 = some o → y.2.1 = some o → False
  | [], _, x, y, hx, _, _, _, _, _ => by cases hx
  | z :: r, hn, x, y, hx, hy, hne, o, hxo, hyo => by
    cases hz : z.2.1 with
    | none =>
      rw [List.filterMap_cons_none (f := fun x : Ref => x.2.1) hz] at hn
      rcases List.mem_cons.1 hx with rfl | hx
      · rw [hz] at hxo; cases hxo
      · rcases List.mem_cons.1 hy with rfl | hy
        · rw [hz] at hyo; cases hyo
        · exact filterMap_inj r hn x y hx hy hne o hxo hyo
    | some o' =>
      rw [List.filterMap_cons_some (f := fun x : Ref => x.2.1) hz, List.nodup_cons] at hn
      rcases List.mem_cons.1 hx with rfl | hx2
      · rcases List.mem_cons.1 hy with rfl | hy2
        · exact hne rfl
        · rw [hz] at hxo
          cases hxo
          exact hn.1 (List.mem_filterMap.2 ⟨y, hy2, hyo⟩)
      · rcases List.mem_cons.1 hy with rfl | hy2
        · rw [hz] at hyo
          cases hyo
          exact hn.1 (List.mem_filterMap.2 ⟨x, hx2, hxo⟩)
        · exact filterMap_inj r hn.2 x y hx2 hy2 hne o hxo hyo
theorem lk_mem {α : Type} : ∀ (l : List (Nat × α)) (i : Nat) (x : α), lk l i = some x → (i, x) ∈ l
  | [], i, x, h => by cases h
  | (j, y) :: r, i, x, h => by
    simp only [lk] at h
    cases hb : Nat.beq j i with
    | true =>
      rw [hb] at h
      simp only [cond_true, Option.some.injEq] at h
      subst h
      rw [nat_beq hb]
      simp
    | false =>
      rw [hb] at h
      exact List.mem_cons_of_mem _ (lk_mem r i x h)
theorem vals_sound {h : Hint} {vs : List AV} (hw : valsA h s = some vs) (hs : SimR W0 Wr nt A ρ s a w) : ∃ ρ', SimR W0 Wr nt A ρ' (stateOf h vs) a w := by
  unfold valsA at hw
  split at hw
  case h_1 => cases hw
  rename_i l hl
  obtain ⟨hc, hw⟩ := cond_some hw
  split at hw
  case h_1 => cases hw
  rename_i cs hcs
  simp only [Option.some.injEq] at hw
  simp only [Bool.and_eq_true, List.all_eq_true] at hc
  obtain ⟨⟨⟨hold, hnew⟩, hlt⟩, hmut⟩ := hc
  unfold mutRef at hmut
  rw [List.all_eq_true] at hmut
  have hold := nodupB_iff _ hold
  have hnew := nodupB_iff _ hnew
  obtain ⟨hmap, hok⟩ := refsA_ok _ _ hl
  have hnew' : (l.map (·.1.2.1)).Nodup := by
    have : l.map (·.1.2.1) = h.refs.map (·.2.1) := by rw [← hmap, List.map_map]; rfl
    rw [this]; exact hnew
  obtain ⟨hlen, hget⟩ := renC_get _ _ hcs
  have hrl : h.refs.length = l.length := by rw [← hmap, List.length_map]
  have hrho : ∀ x ∈ l, rhoOf ρ l x.1.2.1 = (match x.2.1 with | some o => ρ o | none => some (none, (0, 0))) := rhoOf_mem ρ l hnew'
  have hren : ∀ id new, rnOf l id = some new → rhoOf ρ l new = ρ id := by
    intro id new he
    obtain ⟨x, hx, h1, h2⟩ := rnOf_mem l id new he
    have := hrho x hx
    rw [h1, h2] at this
    exact this
  have hbA : ∀ e id c, blkA s e id = some c → s.m id = some ⟨e, true, c⟩ := by
    intro e id c hb
    unfold blkA at hb
    split at hb
    · rename_i b hm
      obtain ⟨h1, h2⟩ := cond_some hb
      simp only [Bool.and_eq_true, Option.some.injEq] at h1 h2
      rw [hm]
      obtain ⟨be, bo, bc⟩ := b
      simp only at h1 h2
      rw [nat_beq h1.2, h1.1, h2]
    · cases hb
  refine ⟨rhoOf ρ l, ?_⟩
  have hblk : ∀ id blk, mkM (zipR h.refs vs) id = some blk → ∃ x ∈ l, x.1.2.1 = id ∧ ∃ c, renA (rnOf l) x.2.2 = some c ∧ blk = ⟨x.1.2.2.1, true, c⟩ := by
    intro id blk hb
    unfold mkM at hb
    cases hk : lk (zipR h.refs vs) id with
    | none => rw [hk] at hb; cases hb
    | some ob =>
      rw [hk] at hb
      simp only [Option.getD_some] at hb
      subst hb
      obtain ⟨i, r, v, h1, h2, h3⟩ := zipR_mem _ _ _ (lk_mem _ _ _ hk)
      simp only [Prod.mk.injEq, Option.some.injEq] at h3
      obtain ⟨rfl, rfl⟩ := h3
      rw [← hmap, List.getElem?_map, Option.map_eq_some_iff] at h1
      obtain ⟨x, hx, rfl⟩ := h1
      obtain ⟨c, hc1, hc2⟩ := hget i x hx
      have hil : i < cs.length := (List.getElem?_eq_some_iff.1 hc1).1
      rw [← hw, List.getElem?_append_left hil, hc1] at h2
      simp only [Option.some.injEq] at h2
      subst h2
      exact ⟨x, List.mem_of_getElem? hx, rfl, c, hc2, rfl⟩
  have hback : ∀ id blk b n, mkM (zipR h.refs vs) id = some blk → rhoOf ρ l id = some (some b, n) →
      ∃ x ∈ l, x.1.2.1 = id ∧ ∃ o, x.2.1 = some o ∧ s.m o = some ⟨x.1.2.2.1, true, x.2.2⟩ ∧ ρ o = some (some b, n) := by
    intro id blk b n hb hr
    obtain ⟨x, hx, he, c, _, hbe⟩ := hblk id blk hb
    have hv := hrho x hx
    rw [he, hr] at hv
    refine ⟨x, hx, he, ?_⟩
    rcases hok x hx with ⟨o, h2, h4, _⟩ | ⟨_, h2, _⟩
    · rw [h2] at hv
      exact ⟨o, h2, hbA _ _ _ h4, hv.symm⟩
    · rw [h2] at hv
      simp at hv
  refine ⟨hs.dfr, hs.tsz, fun j => ?_, fun id blk hb => ?_, fun id id' blk blk' b n n' h1 h2 hne ho hr hr' => ?_, fun id blk b n h1 ho hr => ?_, hs.alive, fun d v hd hv => ?_, hs.fr, fun i b n hi hb hne => ?_, hs.gl⟩
  · have hdrop : vs.drop h.refs.length = h.keep.map (fun j => (renA (rnOf l) (s.t j)).getD .dead) := by
      rw [← hw, hrl, ← hlen, List.drop_left]
    simp only [stateOf, mkT, hdrop, zipK_map]
    cases hk : lk (h.refs.map (fun r => (r.1, refV r)) ++ h.keep.map (fun j => (j, (renA (rnOf l) (s.t j)).getD .dead))) j with
    | none => trivial
    | some v =>
      simp only [Option.getD_some]
      have hsl := hs.slot j
      rcases List.mem_append.1 (lk_mem _ _ _ hk) with hm | hm
      · obtain ⟨r, hr, he⟩ := List.mem_map.1 hm
        simp only [Prod.mk.injEq] at he
        obtain ⟨he1, he2⟩ := he
        subst he1 he2
        rw [← hmap] at hr
        obtain ⟨x, hx, rfl⟩ := List.mem_map.1 hr
        have hv := hrho x hx
        rcases hok x hx with ⟨o, h2, _, ⟨h1, h3⟩ | ⟨h1, h3⟩ | h3⟩ | ⟨h1, h2, h3, _⟩
        · rw [h1] at hsl
          rw [h2] at hv
          rw [h3]
          simp only [SR, VR] at hsl ⊢
          rw [hv]
          exact hsl
        · rw [h1] at hsl
          rw [h2] at hv
          rw [h3]
          simp only [SR, VR] at hsl ⊢
          rw [hv]
          exact hsl
        · rw [h3]; trivial
        · rw [h1] at hsl
          rw [h2] at hv
          rw [h3]
          simp only [SR, VR] at hsl ⊢
          rw [hv]
          exact ⟨none, (0, 0), rfl, .inl ⟨rfl, hsl⟩⟩
      · obtain ⟨j', _, he⟩ := List.mem_map.1 hm
        simp only [Prod.mk.injEq] at he
        obtain ⟨rfl, rfl⟩ := he
        cases hrn : renA (rnOf l) (s.t j') with
        | none => trivial
        | some v' =>
          simp only [Option.getD_some]
          cases ht : s.t j'
          case dead => rw [ht] at hrn; simp only [renA, Option.some.injEq] at hrn; subst hrn; trivial
          case tup ps =>
            rw [ht] at hrn hsl
            simp only [renA, Option.map_eq_some_iff] at hrn
            obtain ⟨qs, hq, rfl⟩ := hrn
            obtain ⟨vs, h1, h2⟩ := hsl
            exact ⟨vs, renAs_spec hren ps qs vs hq h1, h2⟩
          all_goals (rw [ht] at hrn hsl; exact VR.sr (renA_spec hren _ _ _ hrn hsl).1)
  · obtain ⟨x, hx, he, c, hcc, rfl⟩ := hblk id blk hb
    have hv := hrho x hx
    rw [he] at hv
    rcases hok x hx with ⟨o, h2, h4, _⟩ | ⟨_, h2, _, hE⟩
    · rw [h2] at hv
      obtain ⟨ob, u, m, g1, g2, g3⟩ := hs.mem o _ (hbA _ _ _ h4)
      obtain ⟨k1, k2, k3⟩ := renA_spec hren _ _ _ hcc g2
      refine ⟨ob, u, m, by rw [hv]; simp only []; rw [g1, k2], k1, ?_⟩
      cases ob with
      | none => exact g3
      | some b => rw [k3]; exact g3
    · rw [h2] at hv
      unfold emptyA at hE
      split at hE
      · rename_i k hc0
        rw [hc0] at hcc
        simp only [renA, Option.some.injEq] at hcc
        subst hcc
        exact ⟨none, .agg #[], 0, hv, by simp only [VR]; exact ⟨rfl, rfl⟩, rfl⟩
      · rename_i k hc0
        rw [hc0] at hcc
        simp only [renA, Option.some.injEq] at hcc
        subst hcc
        exact ⟨none, .agg #[], 0, hv, by simp only [VR]; exact ⟨rfl, rfl⟩, rfl⟩
      · cases hE
  · obtain ⟨x, hx, hxe, o, hxo, hm, hro⟩ := hback id blk b n h1 hr
    obtain ⟨y, hy, hye, o', hyo, hm', hro'⟩ := hback id' blk' b n' h2 hr'
    refine hs.inj o o' _ _ b n n' hm hm' (fun e => ?_) rfl hro hro'
    have hxy : x ≠ y := fun e => hne (by rw [← hxe, ← hye, e])
    exact filterMap_inj l hold x y hx hy hxy o hxo (e ▸ hyo)
  · obtain ⟨x, hx, hxe, o, hxo, hm, hro⟩ := hback id blk b n h1 hr
    obtain ⟨g1, g2⟩ := hs.own o _ b n hm rfl hro
    refine ⟨?_, g2⟩
    rcases g1 with g1 | ⟨i, k, hi, e, hb⟩
    · exact .inl g1
    · have h3 := hmut x hx
      rw [hxo] at h3
      simp only [] at h3
      have hio : isMut o = true := by
        rw [e]
        unfold isMut
        rw [Bool.and_eq_true]
        exact ⟨Nat.ble_eq_true_of_le (by omega), by rw [Nat.blt_eq]; omega⟩
      rw [hio] at h3
      simp only [Bool.true_or, cond_true] at h3
      have h4 := nat_beq h3
      exact .inr ⟨i, k, hi, by rw [← hxe, ← h4, e], hb⟩
  · cases hr : rhoOf ρ l (mkId d v) with
    | none => rfl
    | some y =>
      exfalso
      obtain ⟨x, hx, he⟩ := rhoOf_some ρ l _ y hr
      have hxr : x.1 ∈ h.refs := by rw [← hmap]; exact List.mem_map.2 ⟨x, hx, rfl⟩
      have hlt' := hlt x.1 hxr
      rw [Nat.blt_eq] at hlt'
      rw [he] at hlt'
      unfold mkId at hlt' he
      have hv0 : v = 0 := by omega
      subst hv0
      have hin : d ∈ h.refs.map (·.2.1) := List.mem_map.2 ⟨x.1, hxr, by simpa using he⟩
      simp only [stateOf, mkC, any_beq.2 hin, cond_true] at hv
      omega
  · cases hm : mkM (zipR h.refs vs) (8000 + i) with
    | none => exact absurd hm hne
    | some blk =>
      obtain ⟨x, hx, hxe, c, _, _⟩ := hblk _ blk hm
      have him : isMut x.1.2.1 = true := by
        rw [hxe]
        unfold isMut
        rw [Bool.and_eq_true]
        exact ⟨Nat.ble_eq_true_of_le (by omega), by rw [Nat.blt_eq]; omega⟩
      have h3 := hmut x hx
      have hv := hrho x hx
      rcases hok x hx with ⟨o, h2, h4, _⟩ | ⟨_, h2, _⟩
      · rw [h2] at h3 hv
        rw [him] at h3
        simp only [Bool.or_true, cond_true] at h3
        have h5 := nat_beq h3
        rw [hxe] at hv h5
        subst h5
        simp only [] at hv
        rw [hv]
        exact hs.mt i b n hi hb (by rw [hbA _ _ _ h4]; simp)
      · rw [h2] at h3
        simp only [him] at h3
        cases h3
theorem weakA_sound {h : Hint} {kk : AS → Option R} (hw : weakA h s kk = some r) (hs : SimR W0 Wr nt A ρ s a w) : ∃ s' ρ', kk s' = some r ∧ SimR W0 Wr nt A ρ' s' a w := by
  unfold weakA at hw
  split at hw
  · rename_i vs hv
    obtain ⟨ρ', h'⟩ := vals_sound hv hs
    exact ⟨_, ρ', hw, h'⟩
  · cases hw
end
end Go.Proofs.YtbakldcbaikgpaaGreatDoor
/- Code; a call's end; contracts. Own work, program-independent. -/
namespace Go.Proofs.YtbakldcbaikgpaaGreatDoor
open Go.RowKit (Below)
section
variable {R : Type} {P : Program} {E : Env} {W0 : World} {Wr : Wk} {A A' : Nat → Prop} {ρ ρ' : Rho} {s s' : AS} {a : Act} {w w' : World} {r : R}
/-- What holds where code is left. -/
def Post (nt : Nat) (W0 : World) (Wr : Wk) (kk : Ex → AS → Option R) (r : R) : Exit → Act → World → Prop
  | .normal, a, w => ∃ s A ρ, SimR W0 Wr nt A ρ s a w ∧ kk .normal s = some r
  | .exit id, a, w => ∃ s A ρ, SimR W0 Wr nt A ρ s a w ∧ kk (.exit id) s = some r
  | .ret, a, w => ∃ s A ρ, SimR W0 Wr nt A ρ s a w ∧ kk .ret s = some r
  | _, _, _ => False
/-- A loop keeps its law. -/
def LoopOk (P : Program) (nt : Nat) (lo : List (Nat × LEnt)) (id : Nat) (x : Code) : Prop :=
  ∀ le, lk lo id = some le → ∀ (R : Type) (W0 : World) (Wr : Wk) (n : Nat) (s : AS) (a : Act) (w : World) (A : Nat → Prop) (ρ : Rho) (kk : Ex → AS → Option R) (r : R),
    Wr.gv = globP P → SimR W0 Wr nt A ρ s a w → lorcA le n s kk = some r → (Code.block id x).wp P (Post nt W0 Wr kk r) a w
/-- The loops of a code that have laws. -/
def loopsIn (lo : List (Nat × LEnt)) : Code → List (Nat × Code)
  | .seq x y => loopsIn lo x ++ loopsIn lo y
  | .cond _ x y => loopsIn lo x ++ loopsIn lo y
  | .block id x => match lk lo id with
    | some _ => [(id, x)]
    | none => loopsIn lo x
  | .loop x => loopsIn lo x
  | _ => []
def LoopsOk (P : Program) (nt : Nat) (lo : List (Nat × LEnt)) (c : Code) : Prop := ∀ x ∈ loopsIn lo c, LoopOk P nt lo x.1 x.2
theorem iterA_wp {c : Code} {wk : AS → (AS → Option R) → Option R} (hwk : ∀ (s : AS) (a : Act) (w : World) (A : Nat → Prop) (ρ : Rho) (kk : AS → Option R), SimR W0 Wr E.nt A ρ s a w → wk s kk = some r → ∃ s' ρ', kk s' = some r ∧ SimR W0 Wr E.nt A ρ' s' a w) {b : Nat} (hbody : ∀ (s : AS) (a : Act) (w : World) (A : Nat → Prop) (ρ : Rho) (kk : Ex → AS → Option R), SimR W0 Wr E.nt A ρ s a w → runA E c b s kk = some r → c.wp P (Post E.nt W0 Wr kk r) a w) :
    ∀ (m : Nat) (s : AS) (a : Act) (w : World) (A : Nat → Prop) (ρ : Rho) (kk : Ex → AS → Option R), SimR W0 Wr E.nt A ρ s a w → iterA wk (fun s kk => runA E c b s kk) m s kk = some r →
    Code.rounds P c (Post E.nt W0 Wr (fun e s => match e with | .normal => none | e => kk e s) r) m a w
  | 0, s, a, w, A, ρ, kk, hs, hr => by simp [iterA] at hr
  | m + 1, s, a, w, A, ρ, kk, hs, hr => by
    simp only [iterA] at hr
    obtain ⟨s1, ρ1, hr, hs1⟩ := hwk s a w A ρ _ hs hr
    simp only [Code.rounds]
    refine wp_mono (hbody s1 a w A ρ1 _ hs1 hr) fun e a' w' hp => ?_
    cases e with
    | normal =>
      obtain ⟨s2, A2, ρ2, h2, hk⟩ := hp
      exact iterA_wp hwk hbody m s2 a' w' A2 ρ2 kk h2 hk
    | exit id => exact hp
    | ret => exact hp
    | goto l => exact hp
    | panic ch => exact hp
    | outgrown => exact hp
theorem rounds_mono {c : Code} {Q Q' : Exit → Act → World → Prop} (hq : ∀ e a w, Q e a w → Q' e a w) : ∀ (n : Nat) (a : Act) (w : World), Code.rounds P c Q n a w → Code.rounds P c Q' n a w
  | 0, _, _, h => h
  | n + 1, a, w, h => by
    simp only [Code.rounds] at h ⊢
    refine wp_mono h fun e a' w' hp => ?_
    cases e with
    | normal => exact rounds_mono hq n a' w' hp
    | exit id => exact hq _ _ _ hp
    | ret => exact hq _ _ _ hp
    | goto l => exact hq _ _ _ hp
    | panic ch => exact hq _ _ _ hp
    | outgrown => exact hq _ _ _ hp
theorem runA_wp (hm : P.follows .mixedOrders = true) (hT : TabOk P E.ty) (hO : OrcOk P E) (hG : Wr.gv = globP P) (hE : E.nt ≤ 1000) : ∀ (c : Code), LoopsOk P E.nt E.lorc c → ∀ (b : Nat) (s : AS) (a : Act) (w : World) (A : Nat → Prop) (ρ : Rho) (kk : Ex → AS → Option R),
    SimR W0 Wr E.nt A ρ s a w → runA E c b s kk = some r → c.wp P (Post E.nt W0 Wr kk r) a w
  | .skip, hL, b, s, a, w, A, ρ, kk, hs, hr => by
    simp only [runA] at hr
    exact wp_skip ⟨s, A, ρ, hs, hr⟩
  | .region id ops draw, hL, b, s, a, w, A, ρ, kk, hs, hr => by
    simp only [runA] at hr
    cases draw with
    | true =>
      simp only [cond_true] at hr
      exact draw_wp hm hT hO hG hE hs hr (kk := fun s _ => kk .normal s) (fun s' fs a' w' A' ρ' hk h => ⟨s', A', ρ', h, hk⟩)
    | false =>
      simp only [cond_false] at hr
      refine wp_region ?_
      have := ops_wp (Q := Post E.nt W0 Wr kk r) hT hO hG hE ops.toList 0 s a w A ρ rfl hs hr (fun s' a' w' A' ρ' hk h => ⟨s', A', ρ', h, hk⟩)
      rw [List.range_eq_range']
      simpa using this
  | .seq x y, hL, b, s, a, w, A, ρ, kk, hs, hr => by
    simp only [runA] at hr
    refine wp_seq (wp_mono (runA_wp hm hT hO hG hE x (fun z hz => hL z (by simp [loopsIn, hz])) b s a w A ρ _ hs hr) fun e a' w' hp => ?_)
    cases e with
    | normal =>
      obtain ⟨s1, A1, ρ1, h1, hk⟩ := hp
      exact runA_wp hm hT hO hG hE y (fun z hz => hL z (by simp [loopsIn, hz])) b s1 a' w' A1 ρ1 kk h1 hk
    | exit id => exact hp
    | ret => exact hp
    | goto l => exact hp
    | panic ch => exact hp
    | outgrown => exact hp
  | .cond c x y, hL, b, s, a, w, A, ρ, kk, hs, hr => by
    simp only [runA] at hr
    split at hr
    case h_2 => cases hr
    rename_i v hv
    have hc := hs.ev c
    rw [hv] at hc
    simp only [SR, VR] at hc
    refine wp_cond hc ?_
    cases v with
    | true => exact runA_wp hm hT hO hG hE x (fun z hz => hL z (by simp [loopsIn, hz])) b s a w A ρ kk hs hr
    | false => exact runA_wp hm hT hO hG hE y (fun z hz => hL z (by simp [loopsIn, hz])) b s a w A ρ kk hs hr
  | .block id x, hL, b, s, a, w, A, ρ, kk, hs, hr => by
    simp only [runA] at hr
    cases hle : lk E.lorc id with
    | some le =>
      rw [hle] at hr
      exact hL (id, x) (by simp [loopsIn, hle]) le hle R W0 Wr E.n s a w A ρ kk r hG hs hr
    | none =>
    rw [hle] at hr
    refine wp_block (wp_mono (runA_wp hm hT hO hG hE x (fun z hz => hL z (by simp only [loopsIn, hle]; exact hz)) id s a w A ρ _ hs hr) fun e a' w' hp => ?_)
    cases e with
    | normal => exact hp
    | exit j =>
      obtain ⟨s1, A1, ρ1, h1, hk⟩ := hp
      simp only [Exit.inBlock]
      by_cases hj : j = id
      · subst hj
        rw [if_pos rfl]
        simp only [Nat.beq_refl, cond_true] at hk
        exact ⟨s1, A1, ρ1, h1, hk⟩
      · rw [if_neg hj]
        have : Nat.beq j id = false := by
          cases hb : Nat.beq j id with
          | false => rfl
          | true => exact absurd (nat_beq hb) hj
        simp only [this, cond_false] at hk
        exact ⟨s1, A1, ρ1, h1, hk⟩
    | ret => exact hp
    | goto l => exact hp
    | panic ch => exact hp
    | outgrown => exact hp
  | .loop x, hL, b, s, a, w, A, ρ, kk, hs, hr => by
    simp only [runA] at hr
    have fin : ∀ (wk : AS → (AS → Option R) → Option R) (m : Nat), (∀ (s : AS) (a : Act) (w : World) (A : Nat → Prop) (ρ : Rho) (kk : AS → Option R), SimR W0 Wr E.nt A ρ s a w → wk s kk = some r → ∃ s' ρ', kk s' = some r ∧ SimR W0 Wr E.nt A ρ' s' a w) →
        iterA wk (fun s kk => runA E x b s kk) m s kk = some r → (Code.loop x).wp P (Post E.nt W0 Wr kk r) a w := by
      intro wk m hwk hr
      refine wp_loop_rounds m ?_
      have := iterA_wp (P := P) hwk (fun s a w A ρ kk hs hr => runA_wp hm hT hO hG hE x (fun z hz => hL z (by simp [loopsIn, hz])) b s a w A ρ kk hs hr) m s a w A ρ kk hs hr
      refine rounds_mono (fun e a' w' hp => ?_) _ _ _ this
      cases e with
      | normal => obtain ⟨_, _, _, _, hk⟩ := hp; cases hk
      | exit id => exact hp
      | ret => exact hp
      | goto l => exact hp
      | panic ch => exact hp
      | outgrown => exact hp
    split at hr
    · rename_i h hh
      exact fin _ _ (fun s a w A ρ kk hs hr => weakA_sound hr hs) hr
    · exact fin _ _ (fun s a w A ρ kk hs hr => ⟨s, ρ, hr, hs⟩) hr
  | .exit id, hL, b, s, a, w, A, ρ, kk, hs, hr => by
    simp only [runA] at hr
    exact wp_exit ⟨s, A, ρ, hs, hr⟩
  | .ret, hL, b, s, a, w, A, ρ, kk, hs, hr => by
    simp only [runA] at hr
    exact wp_ret ⟨s, A, ρ, hs, hr⟩
  | .rangeFunc _ _ _ _, hL, b, s, a, w, A, ρ, kk, hs, hr => by simp [runA] at hr
  | .scope _, hL, b, s, a, w, A, ρ, kk, hs, hr => by simp [runA] at hr
  | .label _, hL, b, s, a, w, A, ρ, kk, hs, hr => by simp [runA] at hr
  | .goto _, hL, b, s, a, w, A, ρ, kk, hs, hr => by simp [runA] at hr
  | .refuse _, hL, b, s, a, w, A, ρ, kk, hs, hr => by simp [runA] at hr
/-- A loop's law, from what one round does. -/
theorem loop_ok {E' : Env} {y : Code} {id : Nat} {le : LEnt} (hm : P.follows .mixedOrders = true) (hT : TabOk P E'.ty) (hO : OrcOk P E') (hE : E'.nt ≤ 1000) (hnt : E.nt = E'.nt) (hle : lk E.lorc id = some le) (hL : LoopsOk P E'.nt E'.lorc y)
    (step : (R : Type) → Nat → List AV → (List AV → Option R) → (Nat → List AV → Option R) → Option R)
    (hstep : ∀ (R : Type) n vs k1 k2 (r : R), step R n vs k1 k2 = some r → ∃ n', runA { E' with n := n' } y id (stateOf le.inn vs) (bodyK le id k1 k2) = some r)
    (hgo : ∀ (R : Type) n vs kk (r : R), le.go R n vs kk = some r → ∃ n' m, loopN (step R n') m vs kk = some r) : LoopOk P E.nt E.lorc id (.loop y) := by
  intro le' hle' R W0 Wr n s a w A ρ kk r hG hs hr
  rw [hle] at hle'
  simp only [Option.some.injEq] at hle'
  subst hle'
  unfold lorcA at hr
  split at hr
  case h_2 => cases hr
  rename_i vs hv
  obtain ⟨n1, m, hr⟩ := hgo R n vs _ r hr
  refine wp_block (wp_loop_rounds m ?_)
  have key : ∀ (m : Nat) (s : AS) (a : Act) (w : World) (A : Nat → Prop) (ρ : Rho) (vs : List AV), SimR W0 Wr E.nt A ρ s a w → valsA le.inn s = some vs → loopN (step R n1) m vs (outK le kk) = some r →
      Code.rounds P y (Exit.inBlock id (Post E.nt W0 Wr kk r)) m a w := by
    intro m
    induction m with
    | zero => intro s a w A ρ vs _ _ h; simp [loopN] at h
    | succ m ih =>
      intro s a w A ρ vs hs hv h
      simp only [loopN] at h
      obtain ⟨n', h⟩ := hstep R n1 vs _ _ r h
      obtain ⟨ρ1, hs1⟩ := vals_sound hv hs
      rw [hnt] at hs1
      simp only [Code.rounds]
      refine wp_mono (runA_wp (E := { E' with n := n' }) hm hT hO hG hE y hL id _ a w A ρ1 _ hs1 h) fun e a' w' hp => ?_
      cases e with
      | normal =>
        obtain ⟨s2, A2, ρ2, h2, hk⟩ := hp
        simp only [bodyK] at hk
        split at hk
        · rename_i vs' hv'
          exact ih s2 a' w' A2 ρ2 vs' (hnt ▸ h2) hv' hk
        · cases hk
      | exit j =>
        obtain ⟨s2, A2, ρ2, h2, hk⟩ := hp
        simp only [bodyK] at hk
        split at hk
        · rename_i vs' hv'
          obtain ⟨ρ3, h3⟩ := vals_sound hv' h2
          simp only [Exit.then, Exit.inBlock]
          by_cases hj : j = id
          · subst hj
            rw [if_pos rfl]
            simp only [Nat.beq_refl, cond_true, outK] at hk
            exact ⟨_, A2, ρ3, hnt ▸ h3, hk⟩
          · rw [if_neg hj]
            have : Nat.beq j id = false := by
              cases hb : Nat.beq j id with
              | false => rfl
              | true => exact absurd (nat_beq hb) hj
            simp only [this, cond_false, outK] at hk
            exact ⟨_, A2, ρ3, hnt ▸ h3, hk⟩
        · cases hk
      | ret =>
        obtain ⟨s2, A2, ρ2, h2, hk⟩ := hp
        simp only [bodyK] at hk
        split at hk
        · rename_i vs' hv'
          obtain ⟨ρ3, h3⟩ := vals_sound hv' h2
          simp only [outK] at hk
          exact ⟨_, A2, ρ3, hnt ▸ h3, hk⟩
        · cases hk
      | goto l => exact hp
      | panic ch => exact hp
      | outgrown => exact hp
  exact key m s a w A ρ vs hs hv hr
end
end Go.Proofs.YtbakldcbaikgpaaGreatDoor
/- What a call hands back; contracts. Own work, program-independent. -/
namespace Go.Proofs.YtbakldcbaikgpaaGreatDoor
open Go.RowKit (Below)
mutual
/-- Does a value refer to no memory? -/
def flatA : AV → Bool
  | .bool _ | .int _ _ | .ints _ _ _ | .prs _ _ _ | .nilp | .nils | .func _ | .nili | .con _ => true
  | .st ps => flatAs ps
  | .tup ps => flatAs ps
  | .iface _ v => flatA v
  | .osl _ c => c.plain
  | _ => false
def flatAs : List AV → Bool
  | [] => true
  | p :: ps => flatA p && flatAs ps
end
section
variable {R : Type} {P : Program} {E : Env} {W0 : World} {Wr : Wk} {A A' : Nat → Prop} {ρ ρ' : Rho} {s s' : AS} {a : Act} {w w' : World} {r : R}
mutual
theorem flatA_vr : ∀ (v : AV) (x : Value), flatA v = true → VR A w ρ v x → VR A' w ρ' v x
  | .bool _, _, _, h => by simpa only [VR] using h
  | .int _ _, _, _, h => by simpa only [VR] using h
  | .ints _ _ _, _, _, h => by simpa only [VR] using h
  | .prs _ _ _, _, _, h => by simpa only [VR] using h
  | .nilp, _, _, h => by simpa only [VR] using h
  | .nils, _, _, h => by simpa only [VR] using h
  | .func _, _, _, h => by simpa only [VR] using h
  | .nili, _, _, h => by simpa only [VR] using h
  | .con _, _, _, h => by simpa only [VR] using h
  | .st ps, x, hf, h => by
    simp only [flatA] at hf
    simp only [VR] at h ⊢
    obtain ⟨cs, h1, h2⟩ := h
    exact ⟨cs, flatAs_crs ps cs hf h1, h2⟩
  | .iface t v, x, hf, h => by
    simp only [flatA] at hf
    simp only [VR] at h ⊢
    obtain ⟨y, h1, h2⟩ := h
    exact ⟨y, flatA_vr v y hf h1, h2⟩
  | .tup _, _, _, h => by simp only [VR] at h
  | .osl _ _, _, _, h => by simp only [VR] at h
  | .dead, _, _, h => by simp only [VR] at h
  | .ptr _ _ _ _, _, hf, _ => by simp [flatA] at hf
  | .pt _ _ _ _, _, hf, _ => by simp [flatA] at hf
  | .wsl _, _, hf, _ => by simp [flatA] at hf
  | .sl _, _, hf, _ => by simp [flatA] at hf
theorem flatAs_crs : ∀ (ps : List AV) (cs : List Value), flatAs ps = true → CRs A w ρ ps cs → CRs A' w ρ' ps cs
  | [], cs, _, h => by simpa only [CRs] using h
  | p :: ps, cs, hf, h => by
    simp only [flatAs, Bool.and_eq_true] at hf
    simp only [CRs] at h ⊢
    obtain ⟨v, cs', h1, h2, h3⟩ := h
    exact ⟨v, cs', flatA_vr p v hf.1 h1, flatAs_crs ps cs' hf.2 h2, h3⟩
end
theorem flatA_r1 {p : AV} {v : Value} {bs : List Nat} (hf : flatA p = true) (h : R1 A w p v bs) : R1 A' w p v bs := by
  cases p
  case osl e c =>
    simp only [flatA] at hf
    simp only [R1] at h ⊢
    obtain ⟨u, h1, h2⟩ := h
    exact ⟨u, h1.plain hf, h2⟩
  all_goals exact ⟨flatA_vr _ _ hf h.1, h.2⟩
theorem flatA_rs : ∀ (ps : List AV) (vs : List Value) (bs : List Nat), flatAs ps = true → Rs A w ps vs bs → Rs A' w ps vs bs
  | [], _, _, _, h => h
  | p :: ps, vs, bs, hf, h => by
    simp only [flatAs, Bool.and_eq_true] at hf
    simp only [Rs] at h ⊢
    obtain ⟨v, vs', b1, b2, r1, r2, h3, h4⟩ := h
    exact ⟨v, vs', b1, b2, flatA_r1 hf.1 r1, flatA_rs ps vs' b2 hf.2 r2, h3, h4⟩
theorem flatA_rr {p : AV} {v : Value} {bs : List Nat} (hf : flatA p = true) (h : RR A w p v bs) : RR A' w p v bs := by
  cases p
  case tup ps =>
    simp only [flatA] at hf
    simp only [RR] at h ⊢
    obtain ⟨vs, h1, h2⟩ := h
    exact ⟨vs, flatA_rs ps vs bs hf h1, h2⟩
  all_goals (simp only [RR] at h ⊢; exact flatA_r1 hf h)
/-- One result. -/
def oneRes (tmps : Array Value) : ResultVar → Sem Value
  | .tmp t => pure (tmps.getD t undef)
  | .cell a t => do loadVar t (← asAddr (tmps.getD a undef))
theorem resultA_sound (hT : TabOk P E.ty) (h : SimR W0 Wr E.nt A ρ s a w) {rv : ResultVar} {v : AV} {ids : List Nat} (hr : resultA E s rv = some (v, ids)) :
    ∃ x, (oneRes a.tmps rv).run P w = .ok x w ∧
      ((∃ id blk bs, ids = [id] ∧ s.m id = some blk ∧ blk.own = true ∧ (∀ B, R1 B w v x bs) ∧ (bs = [] ∨ ∃ b n, bs = [b] ∧ ρ id = some (some b, n))) ∨ R1 (Lent A s.m ρ ids) w v x []) := by
  have low : ∀ {u v' : AV} {js : List Nat} {x : Value}, deepA s.m u = some (v', js) → VR A w ρ u x → R1 (Lent A s.m ρ js) w v' x [] := by
    intro u v' js x hd hv
    have h1 := deepA_spec h.mem u v' js js x hd (fun _ h => h) hv
    cases v'
    case osl => simp only [VR] at h1
    all_goals exact ⟨h1, rfl⟩
  cases rv with
  | tmp d =>
    simp only [resultA] at hr
    refine ⟨_, rfl, ?_⟩
    have hs := h.slot d
    split at hr
    · rename_i id hd
      split at hr
      case h_2 => cases hr
      rename_i blk hb
      obtain ⟨hc, hr⟩ := cond_some hr
      simp only [Bool.and_eq_true, Option.some.injEq, Prod.mk.injEq] at hc hr
      obtain ⟨rfl, rfl⟩ := hr
      rw [hd] at hs
      simp only [SR, VR] at hs
      obtain ⟨ob, n, h1, h2⟩ := hs
      obtain ⟨ob', u, m, g1, g2, g3⟩ := h.mem id blk hb
      rw [h1] at g1
      simp only [Option.some.injEq, Prod.mk.injEq] at g1
      obtain ⟨rfl, rfl⟩ := g1
      left
      rcases h2 with ⟨h2, h3⟩ | ⟨b, cap, rfl, h3, h4, h5⟩
      · refine ⟨id, blk, [], rfl, hb, hc.1, fun B => ?_, .inl rfl⟩
        simp only [R1]
        refine ⟨u, g2.plain hc.2, .inl ⟨h2, ?_, h3, trivial⟩⟩
        have := cells_size_plain hc.2 g2
        rw [this, show blk.c.cnt = 0 from h2, Nat.zero_mul]
      · obtain ⟨cs, fr, k1, k2, k3, k4⟩ := g3
        refine ⟨id, blk, [b], rfl, hb, hc.1, fun B => ?_, .inr ⟨b, _, rfl, h1⟩⟩
        simp only [R1]
        have hfr := k3 hc.1
        subst hfr
        exact ⟨u, g2.plain hc.2, .inr ⟨b, cap, cs, rfl, h3, h4, k1, k2, Nat.le_trans (Nat.mul_le_mul_right _ h5) k4⟩⟩
    · rename_i u hnw
      split at hr
      case h_2 => cases hr
      rename_i x hx
      simp only [Option.some.injEq, Prod.mk.injEq] at hr
      obtain ⟨rfl, rfl⟩ := hr
      exact .inr (low hx (hs.vr (deepA_live hx)))
  | cell d t =>
    simp only [resultA] at hr
    split at hr
    case h_2 => cases hr
    rename_i te id i e g hte hd
    split at hr
    case h_2 => cases hr
    rename_i blk hb
    split at hr
    case h_2 => cases hr
    rename_i v0 hg
    split at hr
    case h_2 => cases hr
    rename_i x hx
    simp only [Option.some.injEq, Prod.mk.injEq] at hr
    obtain ⟨rfl, rfl⟩ := hr
    have hs := h.slot d
    rw [hd] at hs
    obtain ⟨b, u, cs, fr, m, h1, h2, h3, h4, h5, h6, h7, h8⟩ := h.ptr hs hb
    obtain ⟨y, hy, hvy⟩ := read_part (w := w) (hT _ _ hte) hg h4 h3 (b := b) (off := 0) (fun j x hj => by
      rw [Nat.zero_add]
      simp [World.cell?, h5, h6 j x hj])
    rw [Nat.zero_add] at hy
    refine ⟨y, ?_, .inr (low hx hvy)⟩
    simp only [oneRes, h2, asAddr, Sem.run_bind, Sem.run_pure, Result.andThen_ok, hy]
theorem Lent.mono {m : Nat → Option Blk} {l l' : List Nat} (h : ∀ i ∈ l, i ∈ l') : ∀ b, Lent A m ρ l b → Lent A m ρ l' b := by
  rintro b (hb | ⟨id, hi, hb⟩)
  · exact .inl hb
  · exact .inr ⟨id, h id hi, hb⟩
theorem resultsA_sound (hT : TabOk P E.ty) (h : SimR W0 Wr E.nt A ρ s a w) : ∀ (rs : List ResultVar) (vs : List AV) (ids : List Nat), resultsA E s rs = some (vs, ids) → ids.Nodup →
    ∃ (xs : List Value) (owned lent bs : List Nat), (rs.mapM (oneRes a.tmps)).run P w = .ok xs w ∧ (∀ i ∈ owned, i ∈ ids) ∧ (∀ i ∈ lent, i ∈ ids) ∧ (∀ i ∈ owned, i ∉ lent) ∧ (∀ i ∈ owned, ∃ blk, s.m i = some blk ∧ blk.own = true) ∧
      (∀ b ∈ bs, ∃ i ∈ owned, ∃ n, ρ i = some (some b, n)) ∧ bs.Nodup ∧ Rs (Lent A s.m ρ lent) w vs xs bs
  | [], vs, ids, hr, hn => by
    simp only [resultsA, Option.some.injEq, Prod.mk.injEq] at hr
    obtain ⟨rfl, rfl⟩ := hr
    exact ⟨[], [], [], [], rfl, by simp, by simp, by simp, by simp, by simp, List.nodup_nil, rfl, rfl⟩
  | rv :: rs, vs, ids, hr, hn => by
    simp only [resultsA] at hr
    split at hr
    case h_2 => cases hr
    rename_i v hv
    split at hr
    case h_2 => cases hr
    rename_i vs' hvs
    simp only [Option.some.injEq, Prod.mk.injEq] at hr
    obtain ⟨rfl, rfl⟩ := hr
    rw [List.nodup_append] at hn
    obtain ⟨n1, n2, n3⟩ := hn
    obtain ⟨xs, owned, lent, bs, g1, g2, g3, g4, g5, g6, g7, g8⟩ := resultsA_sound hT h rs vs'.1 vs'.2 hvs n2
    obtain ⟨x, hx, hcase⟩ := resultA_sound hT h hv
    have hrun : ((rv :: rs).mapM (oneRes a.tmps)).run P w = .ok (x :: xs) w := by
      rw [List.mapM_cons]
      simp only [Sem.run_bind, hx, Result.andThen_ok, g1, Sem.run_pure]
    rcases hcase with ⟨id, blk, b1, hid, hb, hown, hR, hbs⟩ | hR
    · rw [hid] at n3 ⊢
      refine ⟨x :: xs, id :: owned, lent, b1 ++ bs, hrun, ?_, fun i hi => by simp [g3 i hi], ?_, ?_, ?_, ?_, ?_⟩
      · intro i hi
        rcases List.mem_cons.1 hi with rfl | hi
        · simp
        · simp [g2 i hi]
      · intro i hi hl
        rcases List.mem_cons.1 hi with rfl | hi
        · exact n3 i (by simp) i (g3 i hl) rfl
        · exact g4 i hi hl
      · intro i hi
        rcases List.mem_cons.1 hi with rfl | hi
        · exact ⟨blk, hb, hown⟩
        · exact g5 i hi
      · intro b hb'
        rcases List.mem_append.1 hb' with hb' | hb'
        · rcases hbs with rfl | ⟨b0, n, rfl, hρ⟩
          · cases hb'
          · simp only [List.mem_singleton] at hb'
            subst hb'
            exact ⟨id, by simp, n, hρ⟩
        · obtain ⟨i, hi, hn⟩ := g6 b hb'
          exact ⟨i, by simp [hi], hn⟩
      · rcases hbs with rfl | ⟨b0, n, rfl, hρ⟩
        · exact g7
        · refine List.nodup_cons.2 ⟨fun hm => ?_, g7⟩
          obtain ⟨i, hi, n', hρ'⟩ := g6 b0 hm
          obtain ⟨blk', hb', _⟩ := g5 i hi
          exact h.inj id i blk blk' b0 n n' hb hb' (fun e => n3 id (by simp) i (g2 i hi) e) hown hρ hρ'
      · simp only [Rs]
        exact ⟨x, xs, b1, bs, hR _, g8, rfl, rfl⟩
    · refine ⟨x :: xs, owned, v.2 ++ lent, bs, hrun, fun i hi => by simp [g2 i hi], ?_, ?_, g5, g6, g7, ?_⟩
      · intro i hi
        rcases List.mem_append.1 hi with hi | hi
        · simp [hi]
        · simp [g3 i hi]
      · intro i hi hl
        rcases List.mem_append.1 hl with hl | hl
        · exact n3 i hl i (g2 i hi) rfl
        · exact g4 i hi hl
      · simp only [Rs]
        exact ⟨x, xs, [], bs, hR.mono (Lent.mono (fun i hi => by simp [hi])), Rs.mono (Lent.mono (fun i hi => by simp [hi])) _ _ _ g8, rfl, rfl⟩
def resV : List Value → Value
  | [x] => x
  | xs => .tuple xs.toArray
theorem run_results (fn : Func) (tmps : Array Value) {xs : List Value} (h : (fn.results.toList.mapM (oneRes tmps)).run P w = .ok xs w) : (results fn tmps).run P w = .ok (resV xs) w := by
  have e : results fn tmps = (do
      let vs ← fn.results.mapM (oneRes tmps)
      pure (if h : vs.size = 1 then vs[0] else .tuple vs)) := by
    unfold results
    congr 2
  rw [e, Array.mapM_eq_mapM_toList]
  simp only [Sem.run_bind, map_eq_pure_bind, bind_assoc, h, Result.andThen_ok, Sem.run_pure]
  match xs with
  | [] => rfl
  | [x] => rfl
  | _ :: _ :: _ => rfl
end
end Go.Proofs.YtbakldcbaikgpaaGreatDoor
/- Contracts. Own work, program-independent. -/
namespace Go.Proofs.YtbakldcbaikgpaaGreatDoor
open Go.RowKit (Below)
section
variable {P : Program} {E : Env} {W0 : World} {Wr : Wk} {A A' : Nat → Prop} {ρ ρ' : Rho} {s s' : AS} {a : Act} {w w' : World}
theorem lk_slots : ∀ (l : List AV) (vs : List Value) (i j : Nat) (v : AV), VRs A w ρ l vs → lk (slots i l) j = some v → ∃ x, i ≤ j ∧ vs[j - i]? = some x ∧ VR A w ρ v x
  | [], _, i, j, v, _, h => by simp [slots, lk] at h
  | p :: l, vs, i, j, v, hv, h => by
    simp only [VRs] at hv
    obtain ⟨x, vs', h1, h2, rfl⟩ := hv
    simp only [slots, lk] at h
    cases hb : Nat.beq i j with
    | true =>
      rw [hb] at h
      simp only [cond_true, Option.some.injEq] at h
      subst h
      have := nat_beq hb
      subst this
      exact ⟨x, Nat.le_refl _, by simp, h1⟩
    | false =>
      rw [hb] at h
      obtain ⟨y, g1, g2, g3⟩ := lk_slots l vs' (i + 1) j v h2 h
      refine ⟨y, by omega, ?_, g3⟩
      rw [show j - i = (j - (i + 1)) + 1 by omega, List.getElem?_cons_succ]
      exact g2
theorem SimR.start (w : World) (A : Nat → Prop) (hA : ∀ b, A b → b < w.heap.size) {nt : Nat} {args : List AV} {vs : List Value} (hv : VRs A w ρ0 args vs) (hn : vs.length ≤ nt) (hG : Glob P A w) :
    SimR w ⟨A, fun _ => none, globP P⟩ nt A ρ0 ⟨mkT (slots 0 args), mkM [], mkC []⟩ { tmps := vs.toArray ++ Array.replicate (nt - vs.toArray.size) undef, defers := [] } w := by
  refine ⟨rfl, by simp; omega, fun j => ?_, fun id blk h => by simp [mkM, lk] at h, fun id id' blk blk' b n n' h => by simp [mkM, lk] at h, fun id blk b n h => by simp [mkM, lk] at h, hA, fun d v _ _ => rfl, FrW.refl ⟨A, fun _ => none, globP P⟩ w, fun i b n _ h => (by cases h), hG⟩
  simp only [mkT]
  cases hk : lk (slots 0 args) j with
  | none => trivial
  | some v =>
    obtain ⟨x, _, h1, h2⟩ := lk_slots args vs 0 j v hv hk
    simp only [Nat.sub_zero] at h1
    have hj := (List.getElem?_eq_some_iff.1 h1).1
    have : (vs.toArray ++ Array.replicate (nt - vs.toArray.size) undef).getD j undef = x := by
      rw [Array.getD_eq_getD_getElem?, Array.getElem?_append_left (by simpa using hj)]
      simp [h1]
    simp only [Option.getD_some]
    rw [this]
    exact h2.sr
theorem run_callFunc_body {f : FuncId} {fn : Func} {c : Code} (hf : P.funcs[f]? = some fn) (hname : (fn.name == "runtime.NumGoroutine") = false) (hb : fn.body = some c) (args : Array Value) (w : World) :
    (callFunc f args).run P w = .ok (.enter f args) w := by
  unfold callFunc
  have hn : ¬ fn.name = "runtime.NumGoroutine" := by
    intro e
    rw [e] at hname
    simp at hname
  simp [Sem.run_bind, hf, hn, hb]
/-- What a call hands back, at its end. -/
theorem end_core (hT : TabOk P E.ty) {fn : Func} {A0 A1 : Nat → Prop} {mb : Nat → Option (Nat × Nat × Nat)} {gv : Nat → Option Value} {ρ1 : Rho} {a' : Act} {nt : Nat} (hnt : nt = E.nt) (h1 : SimR w ⟨A0, mb, gv⟩ nt A1 ρ1 s a' w') {avs : List AV} {ids : List Nat} (hres : resultsA E s fn.results.toList = some (avs, ids)) (hnd : ids.Nodup)
    (hids : ∀ i ∈ ids, ∀ k b n, k < 1000 → mb k = some (b, n) → i ≠ 8000 + k) {r : AV} (hr1 : (match avs with | [v] => some v | vs => some (.tup vs)) = some r) :
    ∃ (x : Value) (lent bs : List Nat), (results fn a'.tmps).run P w' = .ok x w' ∧ RR (Lent A1 s.m ρ1 lent) w' r x bs ∧ bs.Nodup ∧ (∀ b ∈ bs, w.heap.size ≤ b ∧ ¬ Lent A1 s.m ρ1 lent b) ∧
      (∀ b, Lent A1 s.m ρ1 lent b → b < w'.heap.size ∧ (A0 b ∨ w.heap.size ≤ b)) := by
  subst hnt
  have hnew : ∀ i ∈ ids, ∀ blk b n, s.m i = some blk → blk.own = true → ρ1 i = some (some b, n) → w.heap.size ≤ b := by
    intro i hi blk b n hm ho hr
    rcases (h1.own i blk b n hm ho hr).1 with h | ⟨k, n', hk, he, hb⟩
    · exact h
    · exact absurd he (hids i hi k b n' hk hb)
  obtain ⟨xs, owned, lent, bs, g1, g2, g3, g4, g5, g6, g7, g8⟩ := resultsA_sound hT h1 fn.results.toList avs ids hres hnd
  refine ⟨_, lent, bs, run_results fn a'.tmps g1, ?_, g7, ?_, ?_⟩
  · match avs, hr1, g8 with
    | [], hr1, g8 =>
      simp only [Option.some.injEq] at hr1
      subst hr1
      simp only [Rs] at g8
      obtain ⟨rfl, rfl⟩ := g8
      exact ⟨[], ⟨rfl, rfl⟩, rfl⟩
    | [v], hr1, g8 =>
      simp only [Option.some.injEq] at hr1
      subst hr1
      simp only [Rs] at g8
      obtain ⟨x, vs', b1, b2, r1, ⟨rfl, rfl⟩, rfl, rfl⟩ := g8
      simp only [resV, List.append_nil]
      cases v
      case tup ps => obtain ⟨h1, _⟩ := r1; simp only [VR] at h1
      all_goals exact r1
    | v1 :: v2 :: vs', hr1, g8 =>
      simp only [Option.some.injEq] at hr1
      subst hr1
      refine ⟨xs, g8, ?_⟩
      simp only [Rs] at g8
      obtain ⟨x, vs', b1, b2, r1, ⟨y, vs'', b3, b4, r2, _, rfl, _⟩, rfl, _⟩ := g8
      rfl
  · intro b hb
    obtain ⟨i, hi, n, hρ⟩ := g6 b hb
    obtain ⟨blk, hblk, hown⟩ := g5 i hi
    refine ⟨hnew i (g2 i hi) blk b n hblk hown hρ, ?_⟩
    rintro (hA1 | ⟨i', hi', blk', n', hb', ho', hρ'⟩)
    · exact (h1.own i blk b n hblk hown hρ).2 hA1
    · exact h1.inj i i' blk blk' b n n' hblk hb' (fun e => g4 i hi (e ▸ hi')) hown hρ hρ'
  · intro b hb
    rcases hb with hb | ⟨i, hi, blk, n, hb, ho, hρ⟩
    · refine ⟨h1.alive b hb, ?_⟩
      rcases h1.fr.tr b hb with h | h
      · exact .inr h
      · exact .inl h
    · exact ⟨(h1.mem i blk hb).lt hρ, .inr (hnew i (g3 i hi) blk b n hb ho hρ)⟩
/-- A function keeps its contract. -/
theorem contract {f : FuncId} {fn : Func} {c : Code} {en : Ent} (hm : P.follows .mixedOrders = true) (hT : TabOk P E.ty) (hO : OrcOk P E) (hE : E.nt ≤ 1000) (hf : P.funcs[f]? = some fn) (hname : (fn.name == "runtime.NumGoroutine") = false)
    (hb : fn.body = some c) (hnt : fn.ntmps = E.nt) (hL : LoopsOk P E.nt E.lorc c) (hlaw : EntLaw en) (hwr : en.wr = false)
    (hgo : ∀ n args r, en.go AV n args some = some r → args.length ≤ E.nt ∧ (en.frz = true ∨ flatA r = true) ∧ ∃ n', callA { E with n := n' } c fn.results.toList (slots 0 args) some = some r) : EntOk P f en := by
  refine ⟨hlaw, fun _ n args r hr A w vs hA hv hG => ?_, fun h => by rw [hwr] at h; cases h⟩
  obtain ⟨hlen, hfl, n', hc⟩ := hgo n args r hr
  have hvl := VRs.length args vs hv
  unfold Inv
  rw [run_callFunc_body hf hname hb]
  simp only []
  have hs := SimR.start (nt := E.nt) w A hA hv (by omega) hG
  unfold callA at hc
  have hwp := runA_wp (E := { E with n := n' }) hm hT hO rfl hE c hL 999999 _ _ w A ρ0 _ hs hc
  refine calls_of_wp hf hb ?_
  rw [hnt]
  refine wp_mono hwp fun e a' w' hp => ?_
  have fin : ∀ (e : Ex) (s : AS) (A1 : Nat → Prop) (ρ1 : Rho), (∀ id, e ≠ .exit id) → SimR w ⟨A, fun _ => none, globP P⟩ E.nt A1 ρ1 s a' w' → endA { E with n := n' } fn.results.toList some e s = some r →
      a'.defers = [] ∧ ∃ v, (results fn a'.tmps).run P w' = .ok v w' ∧ ∃ x, Ending.returned v = .returned x ∧ (MoreX (fun _ => False) A w w' ∧ ∃ (Ar : Nat → Prop) (bs : List Nat), (∀ b, Ar b → b < w'.heap.size ∧ ((en.frz = true ∧ A b) ∨ w.heap.size ≤ b)) ∧ (∀ b ∈ bs, w.heap.size ≤ b ∧ ¬ Ar b) ∧ bs.Nodup ∧ RR Ar w' r x bs) := by
    intro e s A1 ρ1 hex h1 he
    have he' : ∃ x : List AV × List Nat, resultsA { E with n := n' } s fn.results.toList = some x ∧ nodupB x.2 = true ∧ (match x.1 with | [v] => some v | vs => some (.tup vs)) = some r := by
      cases e with
      | exit id => exact absurd rfl (hex id)
      | normal =>
        simp only [endA] at he
        split at he
        case h_2 => cases he
        rename_i x hx
        obtain ⟨hn, he⟩ := cond_some he
        exact ⟨x, hx, hn, he⟩
      | ret =>
        simp only [endA] at he
        split at he
        case h_2 => cases he
        rename_i x hx
        obtain ⟨hn, he⟩ := cond_some he
        exact ⟨x, hx, hn, he⟩
    obtain ⟨⟨avs, ids⟩, hres, hnd, hr1⟩ := he'
    obtain ⟨x, lent, bs, g1, g2, g3, g4, g5⟩ := end_core (E := { E with n := n' }) hT (fn := fn) rfl h1 hres (nodupB_iff _ hnd) (fun i _ k b n _ h => by cases h) hr1
    refine ⟨h1.dfr, x, g1, x, rfl, ⟨h1.fr.os, h1.fr.tape, h1.fr.output, h1.fr.size, fun k hk _ hc => h1.fr.block k hk (fun i n h => by cases h) hc, h1.fr.maps⟩, ?_⟩
    rcases hfl with hfz | hfl
    · exact ⟨Lent A1 s.m ρ1 lent, bs, fun b hb => ⟨(g5 b hb).1, (g5 b hb).2.elim (fun h => .inl ⟨hfz, h⟩) .inr⟩, g4, g3, g2⟩
    · exact ⟨fun _ => False, bs, fun b hb => hb.elim, fun b hb => ⟨(g4 b hb).1, fun h => h⟩, g3, flatA_rr hfl g2⟩
  cases e with
  | normal =>
    obtain ⟨s, A1, ρ1, h1, hk⟩ := hp
    exact fin .normal s A1 ρ1 (fun _ => by simp) h1 hk
  | ret =>
    obtain ⟨s, A1, ρ1, h1, hk⟩ := hp
    exact fin .ret s A1 ρ1 (fun _ => by simp) h1 hk
  | exit id =>
    obtain ⟨s, A1, ρ1, h1, hk⟩ := hp
    simp only [endA] at hk
    cases hk
  | goto l => exact hp.elim
  | panic ch => exact hp.elim
  | outgrown => exact hp.elim
/-! ### With something handed over to be written -/
def rhoM (ms : List (Nat × Nat × AV)) : Rho := fun id => bif Nat.blt id 8000 then none else (ms[id - 8000]?).map fun x => (some x.1, (x.2.2.cnt, x.2.1))
def mbM (ms : List (Nat × Nat × AV)) : Nat → Option (Nat × Nat × Nat) := fun i => (ms[i]?).map fun x => (x.1, (x.2.2.cnt, x.2.1))
theorem rhoM_at (ms : List (Nat × Nat × AV)) (i : Nat) : rhoM ms (8000 + i) = (ms[i]?).map fun x => (some x.1, (x.2.2.cnt, x.2.1)) := by
  unfold rhoM
  have : Nat.blt (8000 + i) 8000 = false := by
    cases h : Nat.blt (8000 + i) 8000 with
    | false => rfl
    | true => have := nat_blt h; omega
  rw [this, show 8000 + i - 8000 = i by omega]
  rfl
theorem rhoM_some {ms : List (Nat × Nat × AV)} {id : Nat} {y : Option Nat × Nat × Nat} (h : rhoM ms id = some y) : ∃ i x, id = 8000 + i ∧ ms[i]? = some x ∧ y = (some x.1, (x.2.2.cnt, x.2.1)) := by
  unfold rhoM at h
  cases hb : Nat.blt id 8000 with
  | true => rw [hb] at h; cases h
  | false =>
    rw [hb] at h
    have := nat_blt_not hb
    simp only [cond_false, Option.map_eq_some_iff] at h
    obtain ⟨x, h1, h2⟩ := h
    exact ⟨id - 8000, x, by omega, h1, h2.symm⟩
/-- What unpA lays down. -/
def UnpOk (w : World) (A : Nat → Prop) (ms : List (Nat × Nat × AV)) (i : Nat) (args : List AV) (vs : List Value) (l : List (Nat × Nat × AV)) : Prop :=
    VRs A w (rhoM ms) (unpA i args).1 vs ∧
    (∀ y ∈ (unpA i args).2.1, ∃ k b m c e u cs, y = (8000 + (i + k), some ⟨e, true, c⟩) ∧ l[k]? = some (b, m, c) ∧ VR A w ρ0 c u ∧ w.heap[b]? = some (.cells cs e (0, 0)) ∧ (∀ (j : Nat) x, u.cells[j]? = some x → (cs : Array Value)[j]? = some x) ∧ m * c.esz ≤ cs.size) ∧
    (unpA i args).2.2 = (List.range l.length).map (fun k => 8000 + (i + k)) ∧ l.length ≤ args.length
theorem unp_spec {ms : List (Nat × Nat × AV)} : ∀ (args : List AV) (vs : List Value) (i : Nat) (l : List (Nat × Nat × AV)), PRs A w args vs l → (∀ k x, l[k]? = some x → ms[i + k]? = some x) → UnpOk w A ms i args vs l
  | [], vs, i, l, hp, hl => by
    simp only [PRs] at hp
    obtain ⟨rfl, rfl⟩ := hp
    exact ⟨rfl, by simp [unpA], rfl, Nat.le_refl _⟩
  | p :: ps, vs, i, l, hp, hl => by
    simp only [PRs] at hp
    obtain ⟨v, vs', m1, m2, h1, h2, rfl, rfl⟩ := hp
    have plain : ∀ (hp1 : VR A w ρ0 p v) (hm1 : m1 = []) (e1 : unpA i (p :: ps) = (p :: (unpA i ps).1, (unpA i ps).2.1, (unpA i ps).2.2)), UnpOk w A ms i (p :: ps) (v :: vs') (m1 ++ m2) := by
      intro hp1 hm1 e1
      subst hm1
      obtain ⟨g1, g2, g3, g4⟩ := unp_spec ps vs' i m2 h2 hl
      unfold UnpOk
      rw [e1]
      exact ⟨⟨v, vs', hp1.of0, g1, rfl⟩, g2, g3, Nat.le_succ_of_le g4⟩
    have wr : ∀ {q : AV} {e : TypeId} {b m : Nat} {c : AV} {u : Value} {cs : Array Value} (hm1 : m1 = [(b, m, c)]) (e1 : unpA i (p :: ps) = (q :: (unpA (i + 1) ps).1, (8000 + i, some ⟨e, true, c⟩) :: (unpA (i + 1) ps).2.1, (8000 + i) :: (unpA (i + 1) ps).2.2))
        (hq : rhoM ms (8000 + i) = some (some b, (c.cnt, m)) → VR A w (rhoM ms) q v) (hc : VR A w ρ0 c u) (hh : w.heap[b]? = some (.cells cs e (0, 0))) (hpre : ∀ (j : Nat) x, u.cells[j]? = some x → (cs : Array Value)[j]? = some x) (hroom : m * c.esz ≤ cs.size), UnpOk w A ms i (p :: ps) (v :: vs') (m1 ++ m2) := by
      intro q e b m c u cs hm1 e1 hq hc hh hpre hroom
      subst hm1
      have h0 : ms[i]? = some (b, m, c) := by simpa using hl 0 (b, m, c) rfl
      obtain ⟨g1, g2, g3, g4⟩ := unp_spec ps vs' (i + 1) m2 h2 (fun k x hk => by
        have := hl (k + 1) x (by simpa using hk)
        rw [show i + 1 + k = i + (k + 1) by omega]
        exact this)
      unfold UnpOk
      rw [e1]
      refine ⟨⟨v, vs', hq (by rw [rhoM_at, h0]; rfl), g1, rfl⟩, fun y hy => ?_, ?_, by simp only [List.length_append, List.length_cons, List.length_nil]; omega⟩
      · rcases List.mem_cons.1 hy with rfl | hy
        · exact ⟨0, b, m, c, e, u, cs, by rw [Nat.add_zero], rfl, hc, hh, hpre, hroom⟩
        · obtain ⟨k, b', m', c', e', u', cs', k1, k2, k3⟩ := g2 y hy
          exact ⟨k + 1, b', m', c', e', u', cs', by rw [k1, show i + 1 + k = i + (k + 1) by omega], by simpa using k2, k3⟩
      · simp only [g3, List.length_append, List.length_cons, List.length_nil]
        rw [show 0 + 1 + m2.length = m2.length + 1 by omega, List.range_succ_eq_map, List.map_cons, List.map_map, Nat.add_zero]
        congr 1
        refine List.map_congr_left fun k _ => ?_
        simp only [Function.comp_apply]
        omega
    cases p
    case rf e c =>
      simp only [PR1] at h1
      obtain ⟨b, u, cs, m, k1, k2, k3, k4, k5, k6⟩ := h1
      refine wr (q := .ptr (8000 + i) 0 0 0) (e := e) k6 rfl (fun hρ => ?_) k1 k2 k3 k4
      simp only [VR]
      exact ⟨b, _, hρ, by simpa using k5, .inl trivial⟩
    case rv t lo n e c =>
      simp only [PR1] at h1
      obtain ⟨b, u, cs, m, cap, k1, k2, k3, k4, k5, k6, k7, k8⟩ := h1
      refine wr (q := .wv (8000 + i) lo n e) (e := t) k8 rfl (fun hρ => ?_) k1 k2 k3 k4
      simp only [VR]
      exact ⟨some b, _, hρ, .inr ⟨b, cap, rfl, k5, k6, k7⟩⟩
    all_goals exact plain h1.1 h1.2 rfl
theorem PRs.length : ∀ (ps : List AV) (vs : List Value) (ms : List (Nat × Nat × AV)), PRs A w ps vs ms → vs.length = ps.length
  | [], _, _, h => by simp only [PRs] at h; obtain ⟨rfl, _⟩ := h; rfl
  | p :: ps, vs, ms, h => by
    simp only [PRs] at h
    obtain ⟨v, vs', m1, m2, _, h2, rfl, _⟩ := h
    simp only [List.length_cons, PRs.length ps vs' m2 h2]
theorem SimR.startM (w : World) (A : Nat → Prop) (hA : ∀ b, A b → b < w.heap.size) {nt : Nat} {args : List AV} {vs : List Value} {ms : List (Nat × Nat × AV)} (hv : PRs A w args vs ms) (hn : vs.length ≤ nt) (_ : nt ≤ 1000) (hlen : args.length ≤ 1000)
    (hms : ∀ x ∈ ms, ¬ A x.1) (hnd : (ms.map (·.1)).Nodup) (hG : Glob P A w) :
    SimR w ⟨A, mbM ms, globP P⟩ nt A (rhoM ms) ⟨mkT (slots 0 (unpA 0 args).1), mkM (unpA 0 args).2.1, mkC (unpA 0 args).2.2⟩ { tmps := vs.toArray ++ Array.replicate (nt - vs.toArray.size) undef, defers := [] } w := by
  obtain ⟨g1, g2, g3, g4⟩ := unp_spec (ms := ms) args vs 0 ms hv (fun k x hk => by simpa using hk)
  have hget : ∀ id blk, mkM (unpA 0 args).2.1 id = some blk → ∃ k b m c e u cs, id = 8000 + k ∧ blk = ⟨e, true, c⟩ ∧ ms[k]? = some (b, m, c) ∧ VR A w ρ0 c u ∧ w.heap[b]? = some (.cells cs e (0, 0)) ∧ (∀ (j : Nat) x, u.cells[j]? = some x → (cs : Array Value)[j]? = some x) ∧ m * c.esz ≤ cs.size := by
    intro id blk h
    unfold mkM at h
    cases hk : lk (unpA 0 args).2.1 id with
    | none => rw [hk] at h; cases h
    | some ob =>
      rw [hk] at h
      simp only [Option.getD_some] at h
      subst h
      obtain ⟨k, b, m, c, e, u, cs, h1, h2⟩ := g2 _ (lk_mem _ _ _ hk)
      simp only [Prod.mk.injEq, Option.some.injEq, Nat.zero_add] at h1
      obtain ⟨rfl, rfl⟩ := h1
      exact ⟨k, b, m, c, e, u, cs, rfl, rfl, h2⟩
  have hlt : ∀ k x, ms[k]? = some x → k < 1000 := by
    intro k x hk
    have := (List.getElem?_eq_some_iff.1 hk).1
    omega
  refine ⟨rfl, by simp; omega, fun j => ?_, fun id blk h => ?_, fun id id' blk blk' b n n' h h' hne _ hr hr' => ?_, fun id blk b n h ho hr => ?_, hA, fun d v hd hv' => ?_, FrW.refl ⟨A, mbM ms, globP P⟩ w, fun i b n hi hb _ => ?_, hG⟩
  · simp only [mkT]
    cases hk : lk (slots 0 (unpA 0 args).1) j with
    | none => trivial
    | some v =>
      obtain ⟨x, _, h1, h2⟩ := lk_slots _ vs 0 j v g1 hk
      simp only [Nat.sub_zero] at h1
      have hj := (List.getElem?_eq_some_iff.1 h1).1
      have : (vs.toArray ++ Array.replicate (nt - vs.toArray.size) undef).getD j undef = x := by
        rw [Array.getD_eq_getD_getElem?, Array.getElem?_append_left (by simpa using hj)]
        simp [h1]
      simp only [Option.getD_some]
      rw [this]
      exact h2.sr
  · obtain ⟨k, b, m, c, e, u, cs, rfl, rfl, h1, h2, h3, h4, h5⟩ := hget id blk h
    exact ⟨some b, u, m, by rw [rhoM_at, h1]; rfl, h2.of0, cs, (0, 0), h3, h4, fun _ => rfl, h5⟩
  · obtain ⟨i, x, rfl, h1, h2⟩ := rhoM_some hr
    obtain ⟨i', x', rfl, h3, h4⟩ := rhoM_some hr'
    simp only [Prod.mk.injEq, Option.some.injEq] at h2 h4
    have hii : i ≠ i' := fun e => hne (by rw [e])
    have e1 : (ms.map (·.1))[i]? = some b := by rw [List.getElem?_map, h1]; simp [h2.1.symm]
    have e2 : (ms.map (·.1))[i']? = some b := by rw [List.getElem?_map, h3]; simp [h4.1.symm]
    have l1 := (List.getElem?_eq_some_iff.1 e1).1
    exact hii ((List.getElem?_inj l1 hnd).1 (e1.trans e2.symm))
  · obtain ⟨i, x, rfl, h1, h2⟩ := rhoM_some hr
    simp only [Prod.mk.injEq, Option.some.injEq] at h2
    obtain ⟨rfl, rfl⟩ := h2
    refine ⟨.inr ⟨i, (x.2.2.cnt, x.2.1), hlt i x h1, rfl, ?_⟩, hms x (List.mem_of_getElem? h1)⟩
    show mbM ms i = _
    unfold mbM
    rw [h1]; rfl
  · cases hr : rhoM ms (mkId d v) with
    | none => rfl
    | some y =>
      exfalso
      obtain ⟨i, x, h1, h2, _⟩ := rhoM_some hr
      have := hlt i x h2
      unfold mkId at h1
      have hv0 : v = 0 := by omega
      subst hv0
      have hin : d ∈ (unpA 0 args).2.2 := by
        rw [g3]
        exact List.mem_map.2 ⟨i, List.mem_range.2 (List.getElem?_eq_some_iff.1 h2).1, by omega⟩
      simp only [mkC, any_beq.2 hin, cond_true] at hv'
      omega
  · have hb' : mbM ms i = some (b, n) := hb
    unfold mbM at hb'
    rw [Option.map_eq_some_iff] at hb'
    obtain ⟨x, h1, h2⟩ := hb'
    rw [rhoM_at, h1]
    simp only [Prod.mk.injEq] at h2
    simp only [Option.map_some]
    rw [← h2.1, ← h2.2]
theorem mutEnd_spec {A0 A1 : Nat → Prop} {mb : Nat → Option (Nat × Nat × Nat)} {gv : Nat → Option Value} {ρ1 : Rho} {a' : Act} {nt : Nat} (h1 : SimR w ⟨A0, mb, gv⟩ nt A1 ρ1 s a' w') (all : List Nat) : ∀ (l : List (Nat × Nat × AV)) (i : Nat) (cs : List AV), (∀ k x, l[k]? = some x → i + k < 1000 ∧ mb (i + k) = some (x.1, (x.2.2.cnt, x.2.1))) →
    mutEnd s.m ((List.range l.length).map (fun k => 8000 + (i + k))) = some cs → MC (Lent A1 s.m ρ1 all) w' l cs
  | [], i, cs, hl, hm => by
    simp only [List.length_nil, List.range_zero, List.map_nil, mutEnd, Option.some.injEq] at hm
    subst hm
    rfl
  | x :: l, i, cs, hl, hm => by
    rw [List.length_cons, List.range_succ_eq_map, List.map_cons, List.map_map] at hm
    simp only [mutEnd, Nat.add_zero] at hm
    split at hm
    case h_2 => cases hm
    rename_i blk hblk
    obtain ⟨hown, hm⟩ := cond_some hm
    split at hm
    case h_2 => cases hm
    rename_i c hd
    split at hm
    case h_2 => cases hm
    rename_i l' hl'
    simp only [Option.some.injEq] at hm
    subst hm
    obtain ⟨b, m, c0⟩ := x
    obtain ⟨h0, hb⟩ := hl 0 _ rfl
    simp only [Nat.add_zero] at h0 hb
    have hρ := h1.mt i b _ h0 hb (by rw [hblk]; simp)
    obtain ⟨ob, u, m', g1, g2, g3⟩ := h1.mem _ _ hblk
    rw [hρ] at g1
    simp only [Option.some.injEq, Prod.mk.injEq] at g1
    obtain ⟨rfl, hcnt, rfl⟩ := g1
    obtain ⟨cs', fr, k1, k2, k3, k4⟩ := g3
    have := k3 hown
    subst this
    obtain ⟨e1, e2⟩ := deepA_cnt hd
    simp only [MC]
    refine ⟨blk.e, c, l', rfl, by rw [e1, ← hcnt], ⟨u, cs', deepA_spec h1.mem blk.c c [] all u hd (by simp) g2, k1, k2, by rw [e2]; exact k4⟩, ?_⟩
    refine mutEnd_spec h1 all l (i + 1) l' (fun k x hk => ?_) ?_
    · have := hl (k + 1) x (by simpa using hk)
      rw [show i + 1 + k = i + (k + 1) by omega]
      exact this
    · rw [← hl']
      congr 1
      refine List.map_congr_left fun k _ => ?_
      simp only [Function.comp_apply]
      omega
/-- Do the contents that come back refer to no memory? -/
def flatM : AV → Bool
  | .mt r cs => flatA r && cs.all (fun c => match c with | .rf _ c => flatA c | _ => false)
  | _ => false
theorem MC.flat {A1 A2 : Nat → Prop} : ∀ {l : List (Nat × Nat × AV)} {cs : List AV}, MC A1 w l cs → (cs.all (fun c => match c with | .rf _ c => flatA c | _ => false)) = true → MC A2 w l cs
  | [], cs, h, _ => h
  | (b, m, c) :: l, cs, h, hf => by
    simp only [MC] at h ⊢
    obtain ⟨e, c', l', rfl, h1, ⟨u, cc, h2, h3⟩, h4⟩ := h
    simp only [List.all_cons, Bool.and_eq_true] at hf
    exact ⟨e, c', l', rfl, h1, ⟨u, cc, flatA_vr _ _ hf.1 h2, h3⟩, h4.flat hf.2⟩
/-- A function to which something is handed over to be written keeps its contract. -/
theorem contractM {f : FuncId} {fn : Func} {c : Code} {en : Ent} (hm : P.follows .mixedOrders = true) (hT : TabOk P E.ty) (hO : OrcOk P E) (hE : E.nt ≤ 1000) (hf : P.funcs[f]? = some fn) (hname : (fn.name == "runtime.NumGoroutine") = false)
    (hb : fn.body = some c) (hnt : fn.ntmps = E.nt) (hL : LoopsOk P E.nt E.lorc c) (hlaw : EntLaw en) (hwr : en.wr = true)
    (hgo : ∀ n args r, en.go AV n args some = some r → args.length ≤ E.nt ∧ (en.frz = true ∨ flatM r = true) ∧ ∃ n', callM { E with n := n' } c fn.results.toList args some = some r) : EntOk P f en := by
  refine ⟨hlaw, fun h => (by rw [hwr] at h; cases h), fun _ n args r hr A w vs ms hA hv hms hndm hG => ?_⟩
  obtain ⟨hlen, hfl, n', hc⟩ := hgo n args r hr
  have hvl := PRs.length args vs ms hv
  obtain ⟨_, _, hnames, hml⟩ := unp_spec (ms := ms) args vs 0 ms hv (fun k x hk => by simpa using hk)
  unfold Inv
  rw [run_callFunc_body hf hname hb]
  simp only []
  have hs := SimR.startM (nt := E.nt) w A hA hv (by omega) hE (by omega) hms hndm hG
  unfold callM at hc
  have hwp := runA_wp (E := { E with n := n' }) hm hT hO rfl hE c hL 999999 _ _ w A (rhoM ms) _ hs hc
  refine calls_of_wp hf hb ?_
  rw [hnt]
  refine wp_mono hwp fun e a' w' hp => ?_
  have fin : ∀ (e : Ex) (s : AS) (A1 : Nat → Prop) (ρ1 : Rho), (∀ id, e ≠ .exit id) → SimR w ⟨A, mbM ms, globP P⟩ E.nt A1 ρ1 s a' w' → endM { E with n := n' } fn.results.toList (unpA 0 args).2.2 some e s = some r →
      a'.defers = [] ∧ ∃ v, (results fn a'.tmps).run P w' = .ok v w' ∧ ∃ x, Ending.returned v = .returned x ∧ (MoreX (fun b => b ∈ ms.map (·.1)) A w w' ∧ ∃ (r' : AV) (cs : List AV) (Ar : Nat → Prop) (bs : List Nat), r = .mt r' cs ∧ (∀ b, Ar b → b < w'.heap.size ∧ ((en.frz = true ∧ A b) ∨ w.heap.size ≤ b)) ∧ (∀ b ∈ bs, w.heap.size ≤ b ∧ ¬ Ar b) ∧ bs.Nodup ∧ RR Ar w' r' x bs ∧ MC Ar w' ms cs) := by
    intro e s A1 ρ1 hex h1 he
    have he' : ∃ (x : List AV × List Nat) (l : List AV) (r' : AV), resultsA { E with n := n' } s fn.results.toList = some x ∧ mutEnd s.m (unpA 0 args).2.2 = some l ∧ nodupB (x.2 ++ (unpA 0 args).2.2) = true ∧ (match x.1 with | [v] => some v | vs => some (.tup vs)) = some r' ∧ r = .mt r' l := by
      have fin2 : ∀ (x : List AV × List Nat) (l : List AV), resultsA { E with n := n' } s fn.results.toList = some x → mutEnd s.m (unpA 0 args).2.2 = some l → nodupB (x.2 ++ (unpA 0 args).2.2) = true →
          (match x.1 with
            | [v] => some (AV.mt v l)
            | vs => some (.mt (.tup vs) l)) = some r → ∃ (x : List AV × List Nat) (l : List AV) (r' : AV), resultsA { E with n := n' } s fn.results.toList = some x ∧ mutEnd s.m (unpA 0 args).2.2 = some l ∧ nodupB (x.2 ++ (unpA 0 args).2.2) = true ∧ (match x.1 with | [v] => some v | vs => some (.tup vs)) = some r' ∧ r = .mt r' l := by
        intro x l hx hl hn key
        obtain ⟨x1, x2⟩ := x
        match x1, hx, hn, key with
        | [], hx, hn, key => exact ⟨([], x2), l, .tup [], hx, hl, hn, rfl, (Option.some.inj key).symm⟩
        | [v], hx, hn, key => exact ⟨([v], x2), l, v, hx, hl, hn, rfl, (Option.some.inj key).symm⟩
        | v1 :: v2 :: vs', hx, hn, key => exact ⟨(v1 :: v2 :: vs', x2), l, .tup (v1 :: v2 :: vs'), hx, hl, hn, rfl, (Option.some.inj key).symm⟩
      cases e with
      | exit id => exact absurd rfl (hex id)
      | normal =>
        simp only [endM] at he
        split at he
        case h_2 => cases he
        rename_i x l hx hl
        obtain ⟨hn, he⟩ := cond_some he
        exact fin2 x l hx hl hn he
      | ret =>
        simp only [endM] at he
        split at he
        case h_2 => cases he
        rename_i x l hx hl
        obtain ⟨hn, he⟩ := cond_some he
        exact fin2 x l hx hl hn he
    obtain ⟨⟨avs, ids⟩, l, r', hres, hl, hnd, hr1, rfl⟩ := he'
    have hnd' := nodupB_iff _ hnd
    rw [List.nodup_append] at hnd'
    obtain ⟨n1, n2, n3⟩ := hnd'
    have hmb : ∀ k x, ms[k]? = some x → 0 + k < 1000 ∧ mbM ms (0 + k) = some (x.1, (x.2.2.cnt, x.2.1)) := by
      intro k x hk
      have := (List.getElem?_eq_some_iff.1 hk).1
      refine ⟨by omega, ?_⟩
      unfold mbM
      rw [Nat.zero_add, hk]; rfl
    obtain ⟨x, lent, bs, g1, g2, g3, g4, g5⟩ := end_core (E := { E with n := n' }) hT (fn := fn) rfl h1 hres n1 (fun i hi k b n hk hb' he => by
      unfold mbM at hb'
      rw [Option.map_eq_some_iff] at hb'
      obtain ⟨y, hy, _⟩ := hb'
      refine n3 i hi (8000 + k) ?_ he
      rw [hnames]
      exact List.mem_map.2 ⟨k, List.mem_range.2 (List.getElem?_eq_some_iff.1 hy).1, by omega⟩) hr1
    rw [hnames] at hl
    have hMC := mutEnd_spec h1 lent ms 0 l hmb hl
    refine ⟨h1.dfr, x, g1, x, rfl, ⟨h1.fr.os, h1.fr.tape, h1.fr.output, h1.fr.size, fun k hk hno hc => h1.fr.block k hk (fun i n h => ?_) hc, h1.fr.maps⟩, ?_⟩
    · have h' : mbM ms i = some (k, n) := h
      unfold mbM at h'
      rw [Option.map_eq_some_iff] at h'
      obtain ⟨y, hy, he⟩ := h'
      simp only [Prod.mk.injEq] at he
      exact hno (List.mem_map.2 ⟨y, List.mem_of_getElem? hy, he.1⟩)
    · rcases hfl with hfz | hfl
      · exact ⟨r', l, Lent A1 s.m ρ1 lent, bs, rfl, fun b hb => ⟨(g5 b hb).1, (g5 b hb).2.elim (fun h => .inl ⟨hfz, h⟩) .inr⟩, g4, g3, g2, hMC⟩
      · simp only [flatM, Bool.and_eq_true] at hfl
        exact ⟨r', l, fun _ => False, bs, rfl, fun b hb => hb.elim, fun b hb => ⟨(g4 b hb).1, fun h => h⟩, g3, flatA_rr hfl.1 g2, hMC.flat hfl.2⟩
  cases e with
  | normal =>
    obtain ⟨s, A1, ρ1, h1, hk⟩ := hp
    exact fin .normal s A1 ρ1 (fun _ => by simp) h1 hk
  | ret =>
    obtain ⟨s, A1, ρ1, h1, hk⟩ := hp
    exact fin .ret s A1 ρ1 (fun _ => by simp) h1 hk
  | exit id =>
    obtain ⟨s, A1, ρ1, h1, hk⟩ := hp
    simp only [endM] at hk
    cases hk
  | goto l => exact hp.elim
  | panic ch => exact hp.elim
  | outgrown => exact hp.elim
end
end Go.Proofs.YtbakldcbaikgpaaGreatDoor
/- The table of types, checked by reckoning. Own work, program-independent. -/
namespace Go.Proofs.YtbakldcbaikgpaaGreatDoor
open Go.RowKit (Below)
def intsB (k : IntKind) : List Int → List Value → Bool
  | [], [] => true
  | n :: l, .int k' m :: cs => decide (k = k') && decide (n = m) && intsB k l cs
  | _, _ => false
def prsB (k : IntKind) : List (Int × Int) → List Value → Bool
  | [], [] => true
  | n :: l, .int k' m :: .int k'' m' :: cs => decide (k = k') && decide (n.1 = m) && decide (k = k'') && decide (n.2 = m') && prsB k l cs
  | _, _ => false
def nilpB : Value → Bool
  | .pointer none => true
  | _ => false
def nilsB : Value → Bool
  | .slice none l c => Nat.beq l 0 && Nat.beq c 0
  | _ => false
def conB : Value → Value → Bool
  | .string a, .string b => decide (a.data = b.data)
  | _, _ => false
theorem conB_eq {u v : Value} (h : conB u v = true) : v = u ∧ conV u = true := by
  cases u <;> cases v <;> simp only [conB, Bool.false_eq_true, decide_eq_true_eq] at h
  rename_i a b
  cases a
  cases b
  simp only at h
  subst h
  exact ⟨rfl, rfl⟩
mutual
def vrB : AV → Value → Bool
  | .bool b, .bool c => b == c
  | .int k n, .int k' m => decide (k = k') && decide (n = m)
  | .ints n k l, .agg cs => Nat.beq l.length n && intsB k l cs.toList
  | .prs n k l, .agg cs => Nat.beq l.length n && prsB k l cs.toList
  | .st ps, .agg cs => crsB ps cs.toList
  | .nilp, v => nilpB v
  | .nils, v => nilsB v
  | .nili, .nilIface => true
  | .con u, v => conB u v
  | _, _ => false
def crsB : List AV → List Value → Bool
  | [], cs => cs.isEmpty
  | p :: ps, cs => bif p.comp then Nat.ble p.sz cs.length && vrB p (.agg (cs.take p.sz).toArray) && crsB ps (cs.drop p.sz)
    else match cs with
      | v :: r => oneV v && vrB p v && crsB ps r
      | [] => false
end
theorem intsB_eq {k : IntKind} : ∀ (l : List Int) (cs : List Value), intsB k l cs = true → cs = l.map (Value.int k)
  | [], [], _ => rfl
  | [], _ :: _, h => by simp [intsB] at h
  | n :: l, [], h => by simp [intsB] at h
  | n :: l, c :: cs, h => by
    cases c <;> simp only [intsB, Bool.and_eq_true, decide_eq_true_eq, Bool.false_eq_true] at h
    obtain ⟨⟨rfl, rfl⟩, h⟩ := h
    rw [intsB_eq l cs h]; rfl
theorem prsB_eq {k : IntKind} : ∀ (l : List (Int × Int)) (cs : List Value), prsB k l cs = true → cs = l.flatMap fun p => [Value.int k p.1, Value.int k p.2]
  | [], [], _ => rfl
  | [], _ :: _, h => by simp [prsB] at h
  | n :: l, [], h => by simp [prsB] at h
  | n :: l, [c], h => by cases c <;> simp [prsB] at h
  | n :: l, c :: d :: cs, h => by
    cases c <;> cases d <;> simp only [prsB, Bool.and_eq_true, decide_eq_true_eq, Bool.false_eq_true] at h
    obtain ⟨⟨⟨⟨rfl, h1⟩, rfl⟩, h2⟩, h⟩ := h
    rw [prsB_eq l cs h, ← h1, ← h2]; rfl
section
variable {A : Nat → Prop} {w : World} {ρ : Rho}
mutual
theorem vrB_vr : ∀ (a : AV) (v : Value), vrB a v = true → VR A w ρ a v
  | .bool b, v, h => by
    cases v <;> simp only [vrB, Bool.false_eq_true] at h
    simp only [VR]; simpa using (eq_of_beq h).symm
  | .int k n, v, h => by
    cases v <;> simp only [vrB, Bool.false_eq_true, Bool.and_eq_true, decide_eq_true_eq] at h
    obtain ⟨rfl, rfl⟩ := h
    simp only [VR]
  | .ints n k l, v, h => by
    cases v <;> simp only [vrB, Bool.false_eq_true, Bool.and_eq_true] at h
    rename_i cs
    simp only [VR]
    exact ⟨nat_beq h.1, by rw [← intsB_eq l cs.toList h.2]⟩
  | .prs n k l, v, h => by
    cases v <;> simp only [vrB, Bool.false_eq_true, Bool.and_eq_true] at h
    rename_i cs
    simp only [VR]
    exact ⟨nat_beq h.1, by rw [← prsB_eq l cs.toList h.2]⟩
  | .st ps, v, h => by
    cases v <;> simp only [vrB, Bool.false_eq_true] at h
    rename_i cs
    simp only [VR]
    exact ⟨cs.toList, crsB_crs ps cs.toList h, rfl⟩
  | .nilp, v, h => by
    simp only [vrB] at h
    unfold nilpB at h
    split at h
    · simp only [VR]
    · cases h
  | .nils, v, h => by
    simp only [vrB] at h
    unfold nilsB at h
    split at h
    · simp only [Bool.and_eq_true] at h
      rw [nat_beq h.1, nat_beq h.2]
      simp only [VR]
    · cases h
  | .nili, v, h => by
    cases v <;> simp only [vrB, Bool.false_eq_true] at h
    simp only [VR]
  | .dead, v, h => by simp [vrB] at h
  | .tup _, v, h => by simp [vrB] at h
  | .ptr _ _ _ _, v, h => by simp [vrB] at h
  | .pt _ _ _ _, v, h => by simp [vrB] at h
  | .wsl _, v, h => by simp [vrB] at h
  | .sl _, v, h => by simp [vrB] at h
  | .osl _ _, v, h => by simp [vrB] at h
  | .func _, v, h => by simp [vrB] at h
  | .iface _ _, v, h => by simp [vrB] at h
  | .con _, v, h => by
    simp only [vrB] at h
    simp only [VR]
    exact conB_eq h
theorem crsB_crs : ∀ (ps : List AV) (cs : List Value), crsB ps cs = true → CRs A w ρ ps cs
  | [], cs, h => by
    simp only [crsB, List.isEmpty_iff] at h
    simp only [CRs, h]
  | p :: ps, cs, h => by
    simp only [crsB] at h
    simp only [CRs]
    cases hc : p.comp with
    | true =>
      rw [hc] at h
      simp only [cond_true, Bool.and_eq_true] at h
      exact ⟨_, _, vrB_vr p _ h.1.2, crsB_crs ps _ h.2, by simp [Value.cells]⟩
    | false =>
      rw [hc] at h
      simp only [cond_false] at h
      cases cs with
      | nil => simp at h
      | cons v r =>
        simp only [Bool.and_eq_true] at h
        refine ⟨v, r, vrB_vr p v h.1.2, crsB_crs ps r h.2, ?_⟩
        have := h.1.1
        cases v <;> first | (simp [oneV] at this; done) | simp [Value.cells]
end
end
def fieldsB : List Field → List (TypeId × Nat) → Bool
  | [], [] => true
  | f :: fs, g :: gs => Nat.beq f.type g.1 && Nat.beq f.offset g.2 && fieldsB fs gs
  | _, _ => false
theorem fieldsB_eq : ∀ (fs : List Field) (gs : List (TypeId × Nat)), fieldsB fs gs = true → fs.map (fun f => (f.type, f.offset)) = gs
  | [], [], _ => rfl
  | [], _ :: _, h => by simp [fieldsB] at h
  | _ :: _, [], h => by simp [fieldsB] at h
  | f :: fs, g :: gs, h => by
    simp only [fieldsB, Bool.and_eq_true] at h
    rw [List.map_cons, fieldsB_eq fs gs h.2, nat_beq h.1.1, nat_beq h.1.2]
def undB (P : Program) (t : TypeId) : TD → Bool
  | .int k => match P.underlying t with | some (.int k') => decide (k = k') | _ => false
  | .bool => match P.underlying t with | some .bool => true | _ => false
  | .slice e => match P.underlying t with | some (.slice e') => Nat.beq e e' | _ => false
  | .arr n e => match P.underlying t with | some (.array n' e') => Nat.beq n n' && Nat.beq e e' | _ => false
  | .struct fs => match P.underlying t with | some (.struct a) => fieldsB a.toList fs | _ => false
  | .iface => match P.underlying t with | some (.interface _) => true | _ => false
  | .str => match P.underlying t with | some .string => true | _ => false
  | .other => match P.underlying t with | some (.struct _) | some (.array _ _) | some (.interface _) | none => false | _ => true
theorem undB_ok {P : Program} {t : TypeId} : ∀ (d : TD), undB P t d = true → UndOk P t d := by
  intro d h
  cases d <;> simp only [undB] at h <;> simp only [UndOk]
  case int k => split at h <;> simp_all
  case bool => split at h <;> simp_all
  case slice e =>
    split at h
    · rename_i e' hu; rw [hu, nat_beq h]
    · cases h
  case arr n e =>
    split at h
    · rename_i n' e' hu
      simp only [Bool.and_eq_true] at h
      rw [hu, nat_beq h.1, nat_beq h.2]
    · cases h
  case struct fs =>
    split at h
    · rename_i a hu; exact ⟨a, hu, fieldsB_eq _ _ h⟩
    · cases h
  case iface =>
    split at h
    · rename_i ms hu; exact ⟨ms, hu⟩
    · cases h
  case str => split at h <;> simp_all
  case other =>
    split at h
    · cases h
    · cases h
    · cases h
    · cases h
    · rename_i o h1 h2 h3 h4
      cases hu : P.underlying t with
      | none => exact absurd hu h4
      | some d =>
        refine ⟨d, rfl, ?_⟩
        cases d
        case struct a => exact absurd hu (h1 a)
        case array a b => exact absurd hu (h2 a b)
        case interface a => exact absurd hu (h3 a)
        all_goals trivial
def layB (P : Program) : Nat → List (TypeId × Nat) → List AV → Bool
  | _, [], [] => true
  | off, f :: fs, z :: zs => Nat.beq f.2 off && (match P.info? f.1 with | some i => Nat.beq i.size z.sz | none => false) && layB P (off + z.sz) fs zs
  | _, _, _ => false
theorem layB_ok {P : Program} : ∀ (fs : List (TypeId × Nat)) (zs : List AV) (off : Nat), layB P off fs zs = true → Lay P off fs zs
  | [], [], _, _ => trivial
  | [], _ :: _, _, h => by simp [layB] at h
  | _ :: _, [], _, h => by simp [layB] at h
  | f :: fs, z :: zs, off, h => by
    simp only [layB, Bool.and_eq_true] at h
    refine ⟨nat_beq h.1.1, ?_, layB_ok fs zs _ h.2⟩
    have h1 := h.1.2
    split at h1
    · rename_i i hi; exact ⟨i, hi, nat_beq h1⟩
    · cases h1
def chkTE (P : Program) (t : TypeId) (te : TE) : Bool :=
  (match P.info? t with
  | some i => Nat.beq i.size te.size && Nat.beq i.bytes te.bytes && (match i.zero with | some z => vrB te.zero z | none => false)
  | none => false) && undB P t te.td && (isAgg te.td || Nat.beq te.size 1) && Nat.beq te.size te.zero.sz && (isAgg te.td == te.zero.comp) &&
  (match te.td, te.zero with | .struct fs, .st zs => layB P 0 fs zs | _, _ => true) &&
  (!te.cmp || (!P.eqGuardType P.depth t && !P.stoodInHeld t && (match P.underlying t with | some (.struct a) => a.toList.all fun f => !(f.name == "_") | _ => true)))
theorem chkTE_ok {P : Program} {t : TypeId} {te : TE} (h : chkTE P t te = true) : TEok P t te := by
  unfold chkTE at h
  simp only [Bool.and_eq_true] at h
  obtain ⟨⟨⟨⟨⟨⟨h1, h2⟩, h3⟩, h4⟩, h5⟩, h6⟩, h7⟩ := h
  refine ⟨?_, undB_ok _ h2, fun ha => ?_, nat_beq h4, eq_of_beq h5, fun fs zs ht hz => ?_, fun hc => ?_⟩
  · split at h1
    · rename_i i hi
      simp only [Bool.and_eq_true] at h1
      obtain ⟨⟨a1, a2⟩, a3⟩ := h1
      split at a3
      · rename_i z hz
        exact ⟨i, z, hi, nat_beq a1, nat_beq a2, hz, fun A w ρ => vrB_vr _ _ a3⟩
      · cases a3
    · cases h1
  · rw [ha] at h3
    exact nat_beq (by simpa using h3)
  · rw [ht, hz] at h6
    exact layB_ok _ _ _ h6
  · rw [hc] at h7
    simp only [Bool.not_true, Bool.false_or, Bool.and_eq_true, Bool.not_eq_true'] at h7
    obtain ⟨⟨a1, a2⟩, a3⟩ := h7
    refine ⟨a1, a2, fun a ha f hf => ?_⟩
    rw [ha] at a3
    simp only [List.all_eq_true] at a3
    have := a3 f hf
    simpa using this
theorem tab_ok {P : Program} : ∀ (tab : List (TypeId × TE)), (tab.all fun x => chkTE P x.1 x.2) = true → TabOk P tab := by
  intro tab h t te hk
  rw [List.all_eq_true] at h
  exact chkTE_ok (h (t, te) (lk_mem tab t te hk))
end Go.Proofs.YtbakldcbaikgpaaGreatDoor
