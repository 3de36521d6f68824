/- Regions in any order. Own work, program-independent. -/
import Derived.Test.YtdkebceiljdgjaaSound19
namespace Go.Proofs.Ytdkebceiljdgjaa
open Go.RowKit (Below)

section
variable {E : Env} {s s' : AS} {dst : Option Tmp} {f g : Eff}

theorem cond_or {α : Type} {b : Bool} {x y : Option α} {z : α} (h : (bif b then x else y) = some z) : x = some z ∨ y = some z := by
  cases b
  · exact .inr h
  · exact .inl h

theorem newE_nw {e : TypeId} {c : AV} {mk : Nat → AV} {rd : List Nat} (h : newE s dst e c mk rd = some f) : ∀ i ∈ f.nw, ∃ d j, dst = some d ∧ i = d + 1000 * j := by
  unfold newE at h
  cases dst with
  | none => cases h
  | some d =>
    cases h
    intro i hi
    simp only [List.mem_singleton] at hi
    exact ⟨d, 0, rfl, hi⟩

theorem resTup_nw' (s : AS) (d : Nat) : ∀ (ps : List AV) (j i : Nat), i ∈ (resTup s d j ps).2.2 → ∃ j', i = d + 1000 * j'
  | [], j, i, h => by simp [resTup] at h
  | p :: ps, j, i, h => by
    have ih := resTup_nw' s d ps (j + 1) i
    cases p
    case osl e c =>
      simp only [resTup, List.mem_cons] at h
      rcases h with rfl | h
      · exact ⟨j, rfl⟩
      · exact ih h
    all_goals (simp only [resTup] at h; exact ih h)

theorem resA_nw {rd : List Nat} {r : AV} (h : resA s dst rd r = some f) : ∀ i ∈ f.nw, ∃ d j, dst = some d ∧ i = d + 1000 * j := by
  unfold resA at h
  split at h
  · cases h
    intro i hi
    simp only [List.mem_singleton] at hi
    exact ⟨_, 0, rfl, hi⟩
  · cases h; simp
  · obtain ⟨_, h⟩ := cond_some h
    cases h
    intro i hi
    obtain ⟨j, hj⟩ := resTup_nw' _ _ _ _ _ hi
    exact ⟨_, j, rfl, hj⟩
  · cases h; simp
  · cases h; simp

theorem bltA_nw {b : Builtin} {ts : List TypeId} {xs : List Operand} (hf : bltA E s dst b ts xs some = some f) : ∀ i ∈ f.nw, ∃ d j, dst = some d ∧ i = d + 1000 * j := by
  unfold bltA at hf
  split at hf
  · obtain ⟨_, hf⟩ := cond_some hf
    (repeat' split at hf) <;> first | (cases hf; done) | (cases hf; simp [val])
  · split at hf
    · cases hf; simp [val]
    · cases hf
  · split at hf
    · cases hf; simp [val]
    · cases hf
  · obtain ⟨_, hf⟩ := cond_some hf
    split at hf
    case h_2 => cases hf
    split at hf
    case h_2 => cases hf
    split at hf
    case h_2 => cases hf
    obtain ⟨_, hf⟩ := cond_some hf
    split at hf
    · obtain ⟨_, hf⟩ := chk_some hf
      split at hf
      case h_2 => cases hf
      rename_i hne
      cases hf
      exact newE_nw hne
    · split at hf
      case h_2 => cases hf
      obtain ⟨_, hf⟩ := cond_some hf
      split at hf
      case h_2 => cases hf
      obtain ⟨_, hf⟩ := cond_some hf
      obtain ⟨_, hf⟩ := chk_some hf
      split at hf
      case h_2 => cases hf
      rename_i hne
      cases hf
      have := newE_nw hne
      exact this
    · cases hf
  · cases hf

theorem binA_val {op : BinOp} {t : TypeId} {x y : Operand} {u v : AV} (h : binA E.ty op t x y u v (fun v => some (val v)) = some f) : ∃ r, f = val r := by
  rw [binA_bind, Option.bind_eq_some_iff] at h
  obtain ⟨r, _, h⟩ := h
  exact ⟨r, (Option.some.inj h).symm⟩

theorem opA_nw (hO : OrcLaw E) {o : Op} (hf : opA E s dst o some = some f) : ∀ i ∈ f.nw, ∃ d j, dst = some d ∧ i = d + 1000 * j := by
  cases o
  case alloc t =>
    simp only [opA] at hf
    split at hf
    case h_2 => cases hf
    split at hf
    case h_2 => cases hf
    rename_i hne
    cases hf
    exact newE_nw hne
  case box t x =>
    simp only [opA] at hf
    obtain ⟨_, hf⟩ := cond_some hf
    split at hf
    case h_2 => cases hf
    rename_i hne
    cases hf
    exact newE_nw hne
  case buildSlice t n ps =>
    simp only [opA] at hf
    split at hf
    case h_2 => cases hf
    split at hf
    case h_3 => cases hf
    all_goals
      obtain ⟨_, hf⟩ := cond_some hf
      split at hf
      case h_2 => cases hf
      split at hf
      case h_2 => cases hf
      rename_i hne
      cases hf
      exact newE_nw hne
  case makeSlice t x y =>
    simp only [opA] at hf
    split at hf
    case h_2 => cases hf
    split at hf
    case h_3 => cases hf
    all_goals
      obtain ⟨_, hf⟩ := chk_some hf
      split at hf
      case h_2 => cases hf
      rename_i hne
      cases hf
      exact newE_nw hne
  case call c =>
    simp only [opA] at hf
    split at hf
    · exact bltA_nw hf
    · split at hf
      case h_2 => cases hf
      split at hf
      case h_2 => cases hf
      rename_i en as rd hen hargs
      obtain ⟨h1, hf⟩ := cond_none hf
      rw [hO _ _ hen, Option.bind_eq_some_iff] at hf
      obtain ⟨r, hr, hf⟩ := hf
      split at hf
      case h_2 => cases hf
      rename_i hres
      cases hf
      exact resA_nw hres
    · cases hf
  case binOp op t x y t' =>
    simp only [opA] at hf
    obtain ⟨r, rfl⟩ := binA_val hf
    simp [val]
  case slice t x lo hi mx =>
      simp only [opA] at hf
      split at hf
      case h_2 => cases hf
      split at hf
      case h_2 => cases hf
      obtain ⟨_, hf⟩ := chk_some hf
      split at hf
      case h_2 => cases hf
      cases hf
      simp [val]
  case indexAddr t x y =>
    simp only [opA] at hf
    split at hf
    · split at hf
      · obtain ⟨h1, hf⟩ := chk_some hf
        split at hf
        case h_2 => cases hf
        rcases cond_or hf with hf | hf <;> (cases hf; simp)
      · obtain ⟨h1, hf⟩ := chk_some hf
        rcases cond_or hf with hf | hf <;> (cases hf; simp [val])
      · cases hf
    · split at hf
      · split at hf
        case h_2 => cases hf
        obtain ⟨h1, hf⟩ := chk_some hf
        cases hf; simp
      · obtain ⟨h1, hf⟩ := chk_some hf
        cases hf; simp [val]
      · cases hf
    · cases hf
  case index t x y =>
    simp only [opA] at hf
    split at hf
    · split at hf
      case h_2 => cases hf
      obtain ⟨h1, hf⟩ := chk_some hf
      obtain ⟨h1, hf⟩ := cond_some hf
      cases hf; simp [val]
    · obtain ⟨h1, hf⟩ := chk_some hf
      cases hf; simp [val]
    · cases hf
  case store t x y =>
    simp only [opA] at hf
    split at hf
    case h_2 => cases hf
    split at hf
    case h_2 => cases hf
    split at hf
    case h_2 => cases hf
    obtain ⟨_, hf⟩ := cond_some hf
    split at hf
    case h_2 => cases hf
    obtain ⟨_, hf⟩ := cond_some hf
    cases hf; simp
  case makeInterface t x =>
    simp only [opA] at hf
    split at hf
    · cases hf
    · obtain ⟨_, hf⟩ := cond_some hf
      cases hf; simp [val]
    · cases hf
  case pick c x y =>
    simp only [opA] at hf
    split at hf
    · rcases cond_or hf with hf | hf <;> (cases hf; simp [val])
    · cases hf
  case fieldAddr t x n =>
    simp only [opA] at hf
    split at hf
    case h_2 => cases hf
    split at hf
    case h_2 => cases hf
    split at hf
    case h_2 => cases hf
    obtain ⟨_, hf⟩ := cond_none hf
    split at hf
    · cases hf; simp [val]
    · cases hf; simp [val]
    · cases hf
  case build t ps =>
    simp only [opA] at hf
    split at hf
    · split at hf
      · cases hf; simp [val]
      · cases hf
    · split at hf
      · obtain ⟨_, hf⟩ := cond_some hf
        cases hf; simp [val]
      · cases hf
    · cases hf
  case field t x n =>
    simp only [opA] at hf
    split at hf
    case h_2 => cases hf
    split at hf
    case h_2 => cases hf
    split at hf
    case h_2 => cases hf
    obtain ⟨_, hf⟩ := cond_some hf
    cases hf; simp [val]
  all_goals first
    | (simp only [opA] at hf; (repeat' split at hf) <;> first | (cases hf; done) | (cases hf; simp [val]))
    | (simp [opA] at hf)

/-! ### Two operations that have nothing to do with one another -/

theorem ups_notin (m : Nat → Option Blk) (i : Nat) : ∀ (l : List (Nat × Option Blk)), i ∉ l.map (·.1) → ups m l i = m i
  | [], _ => rfl
  | (d, b) :: r, h => by
    simp only [List.map_cons, List.mem_cons, not_or] at h
    simp only [ups]
    rw [upd_ne _ _ h.1, ups_notin m i r h.2]

theorem ups_in (m m' : Nat → Option Blk) (i : Nat) : ∀ (l : List (Nat × Option Blk)), i ∈ l.map (·.1) → ups m l i = ups m' l i
  | [], h => by simp at h
  | (d, b) :: r, h => by
    simp only [ups]
    by_cases hd : i = d
    · subst hd; rw [upd_self, upd_self]
    · rw [upd_ne _ _ hd, upd_ne _ _ hd]
      simp only [List.map_cons, List.mem_cons] at h
      exact ups_in m m' i r (h.resolve_left hd)

theorem ups_comm (m : Nat → Option Blk) (l l' : List (Nat × Option Blk)) (h : ∀ i ∈ l.map (·.1), i ∉ l'.map (·.1)) : ups (ups m l) l' = ups (ups m l') l := by
  funext i
  by_cases h1 : i ∈ l.map (·.1)
  · rw [ups_notin _ _ _ (h i h1)]
    exact ups_in _ _ _ _ h1
  · rw [ups_notin _ _ l h1]
    by_cases h2 : i ∈ l'.map (·.1)
    · exact ups_in _ _ _ _ h2
    · rw [ups_notin _ _ _ h2, ups_notin _ _ _ h2, ups_notin _ _ _ h1]

theorem bumps_count (c : Nat → Nat) (i : Nat) : ∀ (l : List Nat), bumps c l i = c i + l.count i
  | [] => by simp [bumps]
  | d :: r => by
    simp only [bumps]
    by_cases hd : i = d
    · subst hd; rw [upd_self, bumps_count c i r]; simp; omega
    · rw [upd_ne _ _ hd, bumps_count c i r, List.count_cons_of_ne (fun e => hd e.symm)]

theorem bumps_comm (c : Nat → Nat) (l l' : List Nat) : bumps (bumps c l) l' = bumps (bumps c l') l := by
  funext i
  simp only [bumps_count]
  omega

theorem putT_comm (t : Nat → AV) {x y : Option Tmp} (u v : AV) (h : ∀ d, x = some d → y ≠ some d) : putT (putT t x u) y v = putT (putT t y v) x u := by
  cases x with
  | none => rfl
  | some d =>
    cases y with
    | none => rfl
    | some e =>
      have hne : d ≠ e := fun he => h d rfl (he ▸ rfl)
      funext i
      simp only [putT]
      by_cases h1 : i = e
      · subst h1
        rw [upd_self, upd_ne _ _ (fun e => hne e.symm), upd_self]
      · rw [upd_ne _ _ h1]
        by_cases h2 : i = d
        · subst h2; rw [upd_self, upd_self]
        · rw [upd_ne _ _ h2, upd_ne _ _ h2, upd_ne _ _ h1]

theorem put_eq (s : AS) (dst : Option Tmp) (f : Eff) : s.put dst f = ⟨putT s.t dst f.v, ups s.m f.up, bumps s.c f.nw⟩ := rfl

abbrev FP := List Nat × List Nat
def fpOf (f : Eff) : FP := (f.rd, f.up.map (·.1))

theorem clash_false {x y : FP} (h : clash x y = false) : (∀ i ∈ x.2, i ∉ y.1 ∧ i ∉ y.2) ∧ (∀ i ∈ y.2, i ∉ x.1) := by
  unfold clash at h
  rw [Bool.or_eq_false_iff] at h
  obtain ⟨h1, h2⟩ := h
  rw [List.any_eq_false] at h1 h2
  refine ⟨fun i hi => ?_, fun i hi hx => ?_⟩
  · have := h1 i hi
    simp only [Bool.or_eq_true, not_or] at this
    exact ⟨fun h => this.1 (any_beq.2 h), fun h => this.2 (any_beq.2 h)⟩
  · exact h2 i hi (any_beq.2 hx)

variable {ops : Array Oper} {x y : Oper}

theorem ev_put {t : Nat → AV} {dst : Option Tmp} {v : AV} {o : Operand} (h : ∀ d, dst = some d → o ≠ .tmp d) : ev (putT t dst v) o = ev t o := by
  cases dst with
  | none => rfl
  | some d =>
    cases o with
    | tmp i =>
      have hne : i ≠ d := fun e => h d rfl (e ▸ rfl)
      simp only [ev, putT]
      rw [upd_ne _ _ hne]
    | _ => rfl

theorem mem_looks {o : Oper} {t : Tmp} (h : Operand.tmp t ∈ o.op.operands) : t ∈ o.looksAt ops :=
  List.mem_append_left _ (List.mem_filterMap.2 ⟨.tmp t, by simpa using h, rfl⟩)

theorem wantA_put {o : Oper} {dst : Option Tmp} {f : Eff} (h : ∀ d, dst = some d → d ∉ o.looksAt ops) : wantA ops (s.put dst f) o = wantA ops s o := by
  unfold wantA
  cases hg : o.guard with
  | none => rfl
  | some gw =>
    obtain ⟨g, want⟩ := gw
    simp only []
    cases hd : (ops[g]?).bind (·.dst) with
    | none => rfl
    | some t =>
      have : (s.put dst f).t t = s.t t := by
        cases dst with
        | none => rfl
        | some d =>
          have hne : t ≠ d := fun e => h d rfl (by subst e; simp [Oper.looksAt, hg, hd])
          exact upd_ne _ _ hne
      simp only [this]

theorem okDst_lt' {E : Env} {dst : Option Tmp} (h : okDst E dst = true) : ∀ d, dst = some d → d < E.nt := okDst_lt h

theorem stp_nw (hO : OrcLaw E) {o : Oper} (h : stp E ops s o = some f) : okDst E o.dst = true ∧ ∀ i ∈ f.nw, ∃ d j, o.dst = some d ∧ i = d + 1000 * j := by
  unfold stp at h
  obtain ⟨hd, h⟩ := cond_some h
  refine ⟨hd, ?_⟩
  split at h
  · exact opA_nw hO h
  · cases h; simp [val]
  · cases h

/-- An operation does the same behind another one that has nothing to do with it, as ahead of it. -/
theorem stp_over (hO : OrcLaw E) (hE : E.nt ≤ 1000) {f' : Eff} (hx : okDst E x.dst = true) (hnw : ∀ i ∈ f.nw, ∃ d j, x.dst = some d ∧ i = d + 1000 * j) (h1 : ∀ d, x.dst = some d → d ∉ y.looksAt ops) (h2 : ∀ d, x.dst = some d → y.dst ≠ some d)
    (h3 : ∀ i ∈ f.up.map (·.1), i ∉ f'.rd) :
    (stp E ops (s.put x.dst f) y = some f' → stp E ops s y = some f') ∧ (stp E ops s y = some f' → stp E ops (s.put x.dst f) y = some f') := by
  have hal : okDst E y.dst = true → (∀ z ∈ y.op.operands, ev (s.put x.dst f).t z = ev s.t z) ∧ (∀ id ∈ f'.rd, (s.put x.dst f).m id = s.m id) ∧ (∀ d j, y.dst = some d → (s.put x.dst f).c (d + 1000 * j) = s.c (d + 1000 * j)) := by
    intro hy
    refine ⟨fun z hz => ?_, fun id hid => ?_, fun d j hd => ?_⟩
    · rw [put_eq]
      exact ev_put (fun d hd e => h1 d hd (mem_looks (e ▸ hz)))
    · rw [put_eq]
      exact ups_notin _ _ _ (fun hm => h3 id hm hid)
    · rw [put_eq]
      simp only []
      refine bumps_notin _ _ _ (fun hm => ?_)
      obtain ⟨d', j', hd', he⟩ := hnw _ hm
      have l1 : (d : Nat) < 1000 := Nat.lt_of_lt_of_le (okDst_lt hy d hd) hE
      have l2 : (d' : Nat) < 1000 := Nat.lt_of_lt_of_le (okDst_lt hx d' hd') hE
      have : d = d' := by
        have e1 : (d + 1000 * j) % 1000 = d := by rw [Nat.add_mul_mod_self_left]; exact Nat.mod_eq_of_lt l1
        have e2 : (d' + 1000 * j') % 1000 = d' := by rw [Nat.add_mul_mod_self_left]; exact Nat.mod_eq_of_lt l2
        rw [← e1, ← e2, he]
      exact h2 d' hd' (this ▸ hd)
  unfold stp
  rw [wantA_put h1]
  constructor
  · intro h
    obtain ⟨hd, h⟩ := cond_some h
    obtain ⟨a1, a2, a3⟩ := hal hd
    rw [hd]
    simp only [cond_true]
    split at h
    · exact opA_local hO ⟨fun z hz => (a1 z hz).symm, fun i hi => (a2 i hi).symm, fun d j hd => (a3 d j hd).symm⟩ h
    · exact h
    · cases h
  · intro h
    obtain ⟨hd, h⟩ := cond_some h
    obtain ⟨a1, a2, a3⟩ := hal hd
    rw [hd]
    simp only [cond_true]
    split at h
    · exact opA_local hO ⟨a1, a2, a3⟩ h
    · exact h
    · cases h

theorem stp_swap (hO : OrcLaw E) (hE : E.nt ≤ 1000) (hap : x.apart ops y = true) (hcl : clash (fpOf f) (fpOf g) = false) (h1 : stp E ops s x = some f) (h2 : stp E ops (s.put x.dst f) y = some g) :
    stp E ops s y = some g ∧ stp E ops (s.put y.dst g) x = some f ∧ (s.put y.dst g).put x.dst f = (s.put x.dst f).put y.dst g := by
  obtain ⟨a1, a2, a3⟩ := Oper.apart_spec hap
  obtain ⟨c1, c2⟩ := clash_false hcl
  obtain ⟨d1, n1⟩ := stp_nw hO h1
  obtain ⟨d2, n2⟩ := stp_nw hO h2
  have k1 := (stp_over (s := s) hO hE d1 n1 a1 a2 (fun i hi => (c1 i hi).1)).1 h2
  have k2 := (stp_over (s := s) (x := y) (y := x) (f := g) (f' := f) hO hE d2 n2 a3 (fun d hd he => a2 d he hd) (fun i hi => c2 i hi)).2 h1
  refine ⟨k1, k2, ?_⟩
  simp only [put_eq]
  rw [putT_comm _ _ _ (fun d hd he => a2 d he hd), ups_comm _ _ _ (fun i hi hi' => (c1 i hi').2 hi), bumps_comm]

end
end Go.Proofs.Ytdkebceiljdgjaa
