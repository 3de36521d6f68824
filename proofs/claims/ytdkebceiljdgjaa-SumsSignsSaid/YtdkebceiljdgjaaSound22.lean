/- A loop's head: what is kept, and under which names. Own work, program-independent. -/
import Derived.Test.YtdkebceiljdgjaaSound21
import Derived.LoopN
namespace Go.Proofs.Ytdkebceiljdgjaa
open Go.RowKit (Below)

def rhoOf (ρ : Rho) : List Ref → Rho
  | [], _ => none
  | x :: r, i => bif Nat.beq x.1.2.1 i then (match x.2.1 with | some o => ρ o | none => some (none, (0, 0))) else rhoOf ρ r i

section
variable {R : Type} {P : Program} {E : Env} {W0 : World} {Wr : Nat → Prop} {nt : Nat} {A A' : Nat → Prop} {ρ ρ' : Rho} {s s' : AS} {a : Act} {w w' : World} {r : R}

theorem nodupB_iff : ∀ (l : List Nat), nodupB l = true → l.Nodup
  | [], _ => List.nodup_nil
  | x :: r, h => by
    simp only [nodupB, Bool.and_eq_true, Bool.not_eq_true'] at h
    refine List.nodup_cons.2 ⟨fun hx => ?_, nodupB_iff r h.2⟩
    rw [any_beq.2 hx] at h
    cases h.1

theorem rhoOf_mem (ρ : Rho) : ∀ (l : List Ref), (l.map (·.1.2.1)).Nodup → ∀ x ∈ l, rhoOf ρ l x.1.2.1 = (match x.2.1 with | some o => ρ o | none => some (none, (0, 0)))
  | [], _, x, hx => by cases hx
  | y :: r, hn, x, hx => by
    simp only [List.map_cons, List.nodup_cons] at hn
    simp only [rhoOf]
    rcases List.mem_cons.1 hx with rfl | hx
    · rw [Nat.beq_refl]; rfl
    · have hne : ¬ y.1.2.1 = x.1.2.1 := fun e => hn.1 (e ▸ List.mem_map.2 ⟨x, hx, rfl⟩)
      have : Nat.beq y.1.2.1 x.1.2.1 = false := by
        cases hb : Nat.beq y.1.2.1 x.1.2.1 with
        | false => rfl
        | true => exact absurd (nat_beq hb) hne
      rw [this]
      exact rhoOf_mem ρ r hn.2 x hx

theorem rhoOf_some (ρ : Rho) : ∀ (l : List Ref) (i : Nat) y, rhoOf ρ l i = some y → ∃ x ∈ l, x.1.2.1 = i
  | [], i, y, h => by cases h
  | z :: r, i, y, h => by
    simp only [rhoOf] at h
    cases hb : Nat.beq z.1.2.1 i with
    | true => exact ⟨z, by simp, nat_beq hb⟩
    | false =>
      rw [hb] at h
      obtain ⟨x, hx, he⟩ := rhoOf_some ρ r i y h
      exact ⟨x, by simp [hx], he⟩

theorem rnOf_mem : ∀ (l : List Ref) (id new : Nat), rnOf l id = some new → ∃ x ∈ l, x.2.1 = some id ∧ x.1.2.1 = new
  | [], id, new, h => by cases h
  | (r, old, c) :: l, id, new, h => by
    cases old with
    | none =>
      simp only [rnOf] at h
      obtain ⟨x, hx, he⟩ := rnOf_mem l id new h
      exact ⟨x, by simp [hx], he⟩
    | some o =>
      simp only [rnOf] at h
      cases hb : Nat.beq o id with
      | true =>
        rw [hb] at h
        simp only [cond_true, Option.some.injEq] at h
        exact ⟨(r, some o, c), by simp, by rw [nat_beq hb], h⟩
      | false =>
        rw [hb] at h
        obtain ⟨x, hx, he⟩ := rnOf_mem l id new h
        exact ⟨x, by simp [hx], he⟩

mutual
theorem renA_spec {rn : Nat → Option Nat} (hr : ∀ id new, rn id = some new → ρ' new = ρ id) : ∀ (v v' : AV) (x : Value), renA rn v = some v' → VR A w ρ v x → VR A w ρ' v' x ∧ v'.cnt = v.cnt ∧ v'.esz = v.esz
  | .wsl id, v', x, hf, h => by
    simp only [renA, Option.map_eq_some_iff] at hf
    obtain ⟨j, hj, rfl⟩ := hf
    simp only [VR] at h ⊢
    rw [hr _ _ hj]
    exact ⟨h, rfl, rfl⟩
  | .ptr id i e g, v', x, hf, h => by
    simp only [renA, Option.map_eq_some_iff] at hf
    obtain ⟨j, hj, rfl⟩ := hf
    simp only [VR] at h ⊢
    rw [hr _ _ hj]
    exact ⟨h, rfl, rfl⟩
  | .st ps, v', x, hf, h => by
    simp only [renA, Option.map_eq_some_iff] at hf
    obtain ⟨qs, hq, rfl⟩ := hf
    simp only [VR] at h ⊢
    obtain ⟨cs, h1, h2⟩ := h
    exact ⟨⟨cs, renAs_specC hr ps qs cs hq h1, h2⟩, rfl, rfl⟩
  | .tup ps, v', x, hf, h => by simp only [VR] at h
  | .iface t y, v', x, hf, h => by
    simp only [renA, Option.map_eq_some_iff] at hf
    obtain ⟨q, hq, rfl⟩ := hf
    simp only [VR] at h ⊢
    obtain ⟨z, h1, h2⟩ := h
    exact ⟨⟨z, (renA_spec hr y q z hq h1).1, h2⟩, rfl, rfl⟩
  | .pt c i e g, v', x, hf, h => by
    simp only [renA, Option.map_eq_some_iff] at hf
    obtain ⟨q, hq, rfl⟩ := hf
    simp only [VR] at h ⊢
    obtain ⟨u, b, off, h1, h2, h3, h4, h5⟩ := h
    obtain ⟨k1, k2, k3⟩ := renA_spec hr c q u hq h1
    exact ⟨⟨u, b, off, k1, h2, h3, h4, by rw [k2]; exact h5⟩, rfl, rfl⟩
  | .sl c, v', x, hf, h => by
    simp only [renA, Option.map_eq_some_iff] at hf
    obtain ⟨q, hq, rfl⟩ := hf
    simp only [VR] at h ⊢
    obtain ⟨u, h1, h2⟩ := h
    obtain ⟨k1, k2, k3⟩ := renA_spec hr c q u hq h1
    refine ⟨⟨u, k1, ?_⟩, rfl, rfl⟩
    rw [k2]; exact h2
  | .dead, v', x, hf, h => by simp only [VR] at h
  | .osl _ _, v', x, hf, h => by simp only [VR] at h
  | .bool b, v', x, hf, h => by simp only [renA, Option.some.injEq] at hf; subst hf; exact ⟨by simpa only [VR] using h, rfl, rfl⟩
  | .int _ _, v', x, hf, h => by simp only [renA, Option.some.injEq] at hf; subst hf; exact ⟨by simpa only [VR] using h, rfl, rfl⟩
  | .ints _ _ _, v', x, hf, h => by simp only [renA, Option.some.injEq] at hf; subst hf; exact ⟨by simpa only [VR] using h, rfl, rfl⟩
  | .prs _ _ _, v', x, hf, h => by simp only [renA, Option.some.injEq] at hf; subst hf; exact ⟨by simpa only [VR] using h, rfl, rfl⟩
  | .nilp, v', x, hf, h => by simp only [renA, Option.some.injEq] at hf; subst hf; exact ⟨by simpa only [VR] using h, rfl, rfl⟩
  | .nils, v', x, hf, h => by simp only [renA, Option.some.injEq] at hf; subst hf; exact ⟨by simpa only [VR] using h, rfl, rfl⟩
  | .func _, v', x, hf, h => by simp only [renA, Option.some.injEq] at hf; subst hf; exact ⟨by simpa only [VR] using h, rfl, rfl⟩
  | .nili, v', x, hf, h => by simp only [renA, Option.some.injEq] at hf; subst hf; exact ⟨by simpa only [VR] using h, rfl, rfl⟩
  | .con _, v', x, hf, h => by simp only [renA, Option.some.injEq] at hf; subst hf; exact ⟨by simpa only [VR] using h, rfl, rfl⟩
theorem renAs_specC {rn : Nat → Option Nat} (hr : ∀ id new, rn id = some new → ρ' new = ρ id) : ∀ (ps ps' : List AV) (cs : List Value), renAs rn ps = some ps' → CRs A w ρ ps cs → CRs A w ρ' ps' cs
  | [], ps', cs, hf, h => by
    simp only [renAs, Option.some.injEq] at hf
    subst hf
    simpa only [CRs] using h
  | p :: ps, ps', cs, hf, h => by
    simp only [renAs] at hf
    split at hf
    case h_2 => cases hf
    rename_i q hq
    split at hf
    case h_2 => cases hf
    rename_i qs hqs
    simp only [Option.some.injEq] at hf
    subst hf
    simp only [CRs] at h ⊢
    obtain ⟨v, cs', h1, h2, h3⟩ := h
    exact ⟨v, cs', (renA_spec hr p q v hq h1).1, renAs_specC hr ps qs cs' hqs h2, h3⟩
end

theorem renAs_spec {rn : Nat → Option Nat} (hr : ∀ id new, rn id = some new → ρ' new = ρ id) : ∀ (ps ps' : List AV) (vs : List Value), renAs rn ps = some ps' → VRs A w ρ ps vs → VRs A w ρ' ps' vs
  | [], ps', cs, hf, h => by
    simp only [renAs, Option.some.injEq] at hf
    subst hf
    simpa only [VRs] using h
  | p :: ps, ps', cs, hf, h => by
    simp only [renAs] at hf
    split at hf
    case h_2 => cases hf
    rename_i q hq
    split at hf
    case h_2 => cases hf
    rename_i qs hqs
    simp only [Option.some.injEq] at hf
    subst hf
    simp only [VRs] at h ⊢
    obtain ⟨v, cs', h1, h2, h3⟩ := h
    exact ⟨v, cs', (renA_spec hr p q v hq h1).1, renAs_spec hr ps qs cs' hqs h2, h3⟩

/-- What an entry of refsA says. -/
def RefOk (s : AS) (x : Ref) : Prop :=
  (∃ id, x.2.1 = some id ∧ blkA s x.1.2.2.1 id = some x.2.2 ∧ ((s.t x.1.1 = .ptr id 0 0 0 ∧ refV x.1 = .ptr x.1.2.1 0 0 0) ∨ (s.t x.1.1 = .wsl id ∧ refV x.1 = .wsl x.1.2.1))) ∨
  (s.t x.1.1 = .nils ∧ x.2.1 = none ∧ refV x.1 = .wsl x.1.2.1 ∧ emptyA x.2.2 = true)

theorem refA_ok {r : Nat × Nat × TypeId × AV} {y : Option Nat × AV} (h : refA s r = some y) : RefOk s (r, y) := by
  obtain ⟨j, new, e, c⟩ := r
  unfold refA at h
  by_cases hc : c = .dead
  · subst hc
    simp only [] at h
    split at h
    · rename_i id ht
      split at h
      · rename_i c hb
        simp only [Option.some.injEq] at h
        subst h
        exact .inl ⟨id, rfl, hb, .inl ⟨ht, rfl⟩⟩
      · cases h
    · cases h
  · have hV : refV (j, new, e, c) = .wsl new := by
      unfold refV
      cases c <;> first | (exact absurd rfl hc) | rfl
    have h' : (match s.t j with
      | .wsl id => match blkA s e id with
        | some c => some (some id, c)
        | none => none
      | .nils => bif emptyA c then some (none, c) else none
      | _ => none) = some y := by
      cases c <;> first | (exact absurd rfl hc) | exact h
    split at h'
    · rename_i id ht
      split at h'
      · rename_i c' hb
        simp only [Option.some.injEq] at h'
        subst h'
        exact .inl ⟨id, rfl, hb, .inr ⟨ht, hV⟩⟩
      · cases h'
    · rename_i ht
      obtain ⟨h1, h2⟩ := cond_some h'
      simp only [Option.some.injEq] at h2
      subst h2
      exact .inr ⟨ht, rfl, hV, h1⟩
    · cases h'

theorem refsA_ok : ∀ (rs : List (Nat × Nat × TypeId × AV)) (l : List Ref), refsA s rs = some l → l.map (·.1) = rs ∧ ∀ x ∈ l, RefOk s x
  | [], l, hl => by
    simp only [refsA, Option.some.injEq] at hl
    subst hl
    exact ⟨rfl, by simp⟩
  | r :: rs, l, hl => by
    simp only [refsA] at hl
    split at hl
    case h_1 => cases hl
    rename_i y hy
    split at hl
    case h_1 => cases hl
    rename_i l' hl'
    simp only [Option.some.injEq] at hl
    subst hl
    obtain ⟨h1, h2⟩ := refsA_ok rs l' hl'
    refine ⟨by simp [h1], fun x hx => ?_⟩
    rcases List.mem_cons.1 hx with rfl | hx
    · exact refA_ok hy
    · exact h2 x hx

theorem renC_get {rn : Nat → Option Nat} : ∀ (l : List Ref) (cs : List AV), renC rn l = some cs → cs.length = l.length ∧ ∀ (i : Nat) x, l[i]? = some x → ∃ c, cs[i]? = some c ∧ renA rn x.2.2 = some c
  | [], cs, h => by
    simp only [renC, Option.some.injEq] at h
    subst h
    exact ⟨rfl, fun i x hx => by simp at hx⟩
  | y :: l, cs, h => by
    simp only [renC] at h
    split at h
    case h_1 => cases h
    rename_i c hc
    split at h
    case h_1 => cases h
    rename_i cs' hcs
    simp only [Option.some.injEq] at h
    subst h
    obtain ⟨h1, h2⟩ := renC_get l cs' hcs
    refine ⟨by simp [h1], fun i x hx => ?_⟩
    cases i with
    | zero =>
      simp only [List.getElem?_cons_zero, Option.some.injEq] at hx
      subst hx
      exact ⟨c, rfl, hc⟩
    | succ i =>
      simp only [List.getElem?_cons_succ] at hx
      simpa using h2 i x hx

theorem zipR_mem : ∀ (rs : List (Nat × Nat × TypeId × AV)) (vs : List AV) y, y ∈ zipR rs vs → ∃ (i : Nat) (r : Nat × Nat × TypeId × AV) (v : AV), rs[i]? = some r ∧ vs[i]? = some v ∧ y = (r.2.1, some ⟨r.2.2.1, true, v⟩)
  | [], _, y, h => by simp [zipR] at h
  | _ :: _, [], y, h => by simp [zipR] at h
  | r :: rs, v :: vs, y, h => by
    simp only [zipR, List.mem_cons] at h
    rcases h with rfl | h
    · exact ⟨0, r, v, rfl, rfl, rfl⟩
    · obtain ⟨i, r', v', h1, h2, h3⟩ := zipR_mem rs vs y h
      exact ⟨i + 1, r', v', by simpa using h1, by simpa using h2, h3⟩

theorem zipK_map (g : Nat → AV) : ∀ (js : List Nat), zipK js (js.map g) = js.map (fun j => (j, g j))
  | [] => rfl
  | j :: js => by simp only [List.map_cons, zipK, zipK_map g js]

theorem filterMap_inj : ∀ (l : List Ref), (l.filterMap (·.2.1)).Nodup → ∀ x y, x ∈ l → y ∈ l → x ≠ y → ∀ o, x.2.1 = some o → y.2.1 = some o → False
  | [], _, x, y, hx, _, _, _, _, _ => by cases hx
  | z :: r, hn, x, y, hx, hy, hne, o, hxo, hyo => by
    cases hz : z.2.1 with
    | none =>
      rw [List.filterMap_cons_none (f := fun x : Ref => x.2.1) hz] at hn
      rcases List.mem_cons.1 hx with rfl | hx
      · rw [hz] at hxo; cases hxo
      · rcases List.mem_cons.1 hy with rfl | hy
        · rw [hz] at hyo; cases hyo
        · exact filterMap_inj r hn x y hx hy hne o hxo hyo
    | some o' =>
      rw [List.filterMap_cons_some (f := fun x : Ref => x.2.1) hz, List.nodup_cons] at hn
      rcases List.mem_cons.1 hx with rfl | hx2
      · rcases List.mem_cons.1 hy with rfl | hy2
        · exact hne rfl
        · rw [hz] at hxo
          cases hxo
          exact hn.1 (List.mem_filterMap.2 ⟨y, hy2, hyo⟩)
      · rcases List.mem_cons.1 hy with rfl | hy2
        · rw [hz] at hyo
          cases hyo
          exact hn.1 (List.mem_filterMap.2 ⟨x, hx2, hxo⟩)
        · exact filterMap_inj r hn.2 x y hx2 hy2 hne o hxo hyo

theorem lk_mem {α : Type} : ∀ (l : List (Nat × α)) (i : Nat) (x : α), lk l i = some x → (i, x) ∈ l
  | [], i, x, h => by cases h
  | (j, y) :: r, i, x, h => by
    simp only [lk] at h
    cases hb : Nat.beq j i with
    | true =>
      rw [hb] at h
      simp only [cond_true, Option.some.injEq] at h
      subst h
      rw [nat_beq hb]
      simp
    | false =>
      rw [hb] at h
      exact List.mem_cons_of_mem _ (lk_mem r i x h)

theorem vals_sound {h : Hint} {vs : List AV} (hw : valsA h s = some vs) (hs : SimR W0 Wr nt A ρ s a w) : ∃ ρ', SimR W0 Wr nt A ρ' (stateOf h vs) a w := by
  unfold valsA at hw
  split at hw
  case h_1 => cases hw
  rename_i l hl
  obtain ⟨hc, hw⟩ := cond_some hw
  split at hw
  case h_1 => cases hw
  rename_i cs hcs
  simp only [Option.some.injEq] at hw
  simp only [Bool.and_eq_true, List.all_eq_true] at hc
  obtain ⟨⟨hold, hnew⟩, hlt⟩ := hc
  have hold := nodupB_iff _ hold
  have hnew := nodupB_iff _ hnew
  obtain ⟨hmap, hok⟩ := refsA_ok _ _ hl
  have hnew' : (l.map (·.1.2.1)).Nodup := by
    have : l.map (·.1.2.1) = h.refs.map (·.2.1) := by rw [← hmap, List.map_map]; rfl
    rw [this]; exact hnew
  obtain ⟨hlen, hget⟩ := renC_get _ _ hcs
  have hrl : h.refs.length = l.length := by rw [← hmap, List.length_map]
  have hrho : ∀ x ∈ l, rhoOf ρ l x.1.2.1 = (match x.2.1 with | some o => ρ o | none => some (none, (0, 0))) := rhoOf_mem ρ l hnew'
  have hren : ∀ id new, rnOf l id = some new → rhoOf ρ l new = ρ id := by
    intro id new he
    obtain ⟨x, hx, h1, h2⟩ := rnOf_mem l id new he
    have := hrho x hx
    rw [h1, h2] at this
    exact this
  have hbA : ∀ e id c, blkA s e id = some c → s.m id = some ⟨e, true, c⟩ := by
    intro e id c hb
    unfold blkA at hb
    split at hb
    · rename_i b hm
      obtain ⟨h1, h2⟩ := cond_some hb
      simp only [Bool.and_eq_true, Option.some.injEq] at h1 h2
      rw [hm]
      obtain ⟨be, bo, bc⟩ := b
      simp only at h1 h2
      rw [nat_beq h1.2, h1.1, h2]
    · cases hb
  refine ⟨rhoOf ρ l, ?_⟩
  have hblk : ∀ id blk, mkM (zipR h.refs vs) id = some blk → ∃ x ∈ l, x.1.2.1 = id ∧ ∃ c, renA (rnOf l) x.2.2 = some c ∧ blk = ⟨x.1.2.2.1, true, c⟩ := by
    intro id blk hb
    unfold mkM at hb
    cases hk : lk (zipR h.refs vs) id with
    | none => rw [hk] at hb; cases hb
    | some ob =>
      rw [hk] at hb
      simp only [Option.getD_some] at hb
      subst hb
      obtain ⟨i, r, v, h1, h2, h3⟩ := zipR_mem _ _ _ (lk_mem _ _ _ hk)
      simp only [Prod.mk.injEq, Option.some.injEq] at h3
      obtain ⟨rfl, rfl⟩ := h3
      rw [← hmap, List.getElem?_map, Option.map_eq_some_iff] at h1
      obtain ⟨x, hx, rfl⟩ := h1
      obtain ⟨c, hc1, hc2⟩ := hget i x hx
      have hil : i < cs.length := (List.getElem?_eq_some_iff.1 hc1).1
      rw [← hw, List.getElem?_append_left hil, hc1] at h2
      simp only [Option.some.injEq] at h2
      subst h2
      exact ⟨x, List.mem_of_getElem? hx, rfl, c, hc2, rfl⟩
  have hback : ∀ id blk b n, mkM (zipR h.refs vs) id = some blk → rhoOf ρ l id = some (some b, n) →
      ∃ x ∈ l, x.1.2.1 = id ∧ ∃ o, x.2.1 = some o ∧ s.m o = some ⟨x.1.2.2.1, true, x.2.2⟩ ∧ ρ o = some (some b, n) := by
    intro id blk b n hb hr
    obtain ⟨x, hx, he, c, _, hbe⟩ := hblk id blk hb
    have hv := hrho x hx
    rw [he, hr] at hv
    refine ⟨x, hx, he, ?_⟩
    rcases hok x hx with ⟨o, h2, h4, _⟩ | ⟨_, h2, _⟩
    · rw [h2] at hv
      exact ⟨o, h2, hbA _ _ _ h4, hv.symm⟩
    · rw [h2] at hv
      simp at hv
  refine ⟨hs.dfr, hs.tsz, fun j => ?_, fun id blk hb => ?_, fun id id' blk blk' b n n' h1 h2 hne ho hr hr' => ?_, fun id blk b n h1 ho hr => ?_, hs.alive, fun d v hd hv => ?_, hs.fr⟩
  · have hdrop : vs.drop h.refs.length = h.keep.map (fun j => (renA (rnOf l) (s.t j)).getD .dead) := by
      rw [← hw, hrl, ← hlen, List.drop_left]
    simp only [stateOf, mkT, hdrop, zipK_map]
    cases hk : lk (h.refs.map (fun r => (r.1, refV r)) ++ h.keep.map (fun j => (j, (renA (rnOf l) (s.t j)).getD .dead))) j with
    | none => trivial
    | some v =>
      simp only [Option.getD_some]
      have hsl := hs.slot j
      rcases List.mem_append.1 (lk_mem _ _ _ hk) with hm | hm
      · obtain ⟨r, hr, he⟩ := List.mem_map.1 hm
        simp only [Prod.mk.injEq] at he
        obtain ⟨he1, he2⟩ := he
        subst he1 he2
        rw [← hmap] at hr
        obtain ⟨x, hx, rfl⟩ := List.mem_map.1 hr
        have hv := hrho x hx
        rcases hok x hx with ⟨o, h2, _, ⟨h1, h3⟩ | ⟨h1, h3⟩⟩ | ⟨h1, h2, h3, _⟩
        · rw [h1] at hsl
          rw [h2] at hv
          rw [h3]
          simp only [SR, VR] at hsl ⊢
          rw [hv]
          exact hsl
        · rw [h1] at hsl
          rw [h2] at hv
          rw [h3]
          simp only [SR, VR] at hsl ⊢
          rw [hv]
          exact hsl
        · rw [h1] at hsl
          rw [h2] at hv
          rw [h3]
          simp only [SR, VR] at hsl ⊢
          rw [hv]
          exact ⟨none, (0, 0), rfl, .inl ⟨rfl, hsl⟩⟩
      · obtain ⟨j', _, he⟩ := List.mem_map.1 hm
        simp only [Prod.mk.injEq] at he
        obtain ⟨rfl, rfl⟩ := he
        cases hrn : renA (rnOf l) (s.t j') with
        | none => trivial
        | some v' =>
          simp only [Option.getD_some]
          cases ht : s.t j'
          case dead => rw [ht] at hrn; simp only [renA, Option.some.injEq] at hrn; subst hrn; trivial
          case tup ps =>
            rw [ht] at hrn hsl
            simp only [renA, Option.map_eq_some_iff] at hrn
            obtain ⟨qs, hq, rfl⟩ := hrn
            obtain ⟨vs, h1, h2⟩ := hsl
            exact ⟨vs, renAs_spec hren ps qs vs hq h1, h2⟩
          all_goals (rw [ht] at hrn hsl; exact VR.sr (renA_spec hren _ _ _ hrn hsl).1)
  · obtain ⟨x, hx, he, c, hcc, rfl⟩ := hblk id blk hb
    have hv := hrho x hx
    rw [he] at hv
    rcases hok x hx with ⟨o, h2, h4, _⟩ | ⟨_, h2, _, hE⟩
    · rw [h2] at hv
      obtain ⟨ob, u, m, g1, g2, g3⟩ := hs.mem o _ (hbA _ _ _ h4)
      obtain ⟨k1, k2, k3⟩ := renA_spec hren _ _ _ hcc g2
      refine ⟨ob, u, m, by rw [hv]; simp only []; rw [g1, k2], k1, ?_⟩
      cases ob with
      | none => exact g3
      | some b => rw [k3]; exact g3
    · rw [h2] at hv
      unfold emptyA at hE
      split at hE
      · rename_i k hc0
        rw [hc0] at hcc
        simp only [renA, Option.some.injEq] at hcc
        subst hcc
        exact ⟨none, .agg #[], 0, hv, by simp only [VR]; exact ⟨rfl, rfl⟩, rfl⟩
      · rename_i k hc0
        rw [hc0] at hcc
        simp only [renA, Option.some.injEq] at hcc
        subst hcc
        exact ⟨none, .agg #[], 0, hv, by simp only [VR]; exact ⟨rfl, rfl⟩, rfl⟩
      · cases hE
  · obtain ⟨x, hx, hxe, o, hxo, hm, hro⟩ := hback id blk b n h1 hr
    obtain ⟨y, hy, hye, o', hyo, hm', hro'⟩ := hback id' blk' b n' h2 hr'
    refine hs.inj o o' _ _ b n n' hm hm' (fun e => ?_) rfl hro hro'
    have hxy : x ≠ y := fun e => hne (by rw [← hxe, ← hye, e])
    exact filterMap_inj l hold x y hx hy hxy o hxo (e ▸ hyo)
  · obtain ⟨x, hx, hxe, o, hxo, hm, hro⟩ := hback id blk b n h1 hr
    exact hs.own o _ b n hm rfl hro
  · cases hr : rhoOf ρ l (mkId d v) with
    | none => rfl
    | some y =>
      exfalso
      obtain ⟨x, hx, he⟩ := rhoOf_some ρ l _ y hr
      have hxr : x.1 ∈ h.refs := by rw [← hmap]; exact List.mem_map.2 ⟨x, hx, rfl⟩
      have hlt' := hlt x.1 hxr
      rw [Nat.blt_eq] at hlt'
      rw [he] at hlt'
      unfold mkId at hlt' he
      have hv0 : v = 0 := by omega
      subst hv0
      have hin : d ∈ h.refs.map (·.2.1) := List.mem_map.2 ⟨x.1, hxr, by simpa using he⟩
      simp only [stateOf, mkC, any_beq.2 hin, cond_true] at hv
      omega

theorem weakA_sound {h : Hint} {kk : AS → Option R} (hw : weakA h s kk = some r) (hs : SimR W0 Wr nt A ρ s a w) : ∃ s' ρ', kk s' = some r ∧ SimR W0 Wr nt A ρ' s' a w := by
  unfold weakA at hw
  split at hw
  · rename_i vs hv
    obtain ⟨ρ', h'⟩ := vals_sound hv hs
    exact ⟨_, ρ', hw, h'⟩
  · cases hw
end
end Go.Proofs.Ytdkebceiljdgjaa
