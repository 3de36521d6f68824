/- What an operation looks at. Own work, program-independent. -/
import Derived.Test.YtdkebceiljdgjaaSound18
namespace Go.Proofs.Ytdkebceiljdgjaa
open Go.RowKit (Below)

/-- Two states that an operation cannot tell apart. -/
structure Alike (o : Op) (dst : Option Tmp) (ids : List Nat) (s s' : AS) : Prop where
  t : ∀ x ∈ o.operands, ev s'.t x = ev s.t x
  m : ∀ id ∈ ids, s'.m id = s.m id
  c : ∀ d j, dst = some d → s'.c (d + 1000 * j) = s.c (d + 1000 * j)

section
variable {E : Env} {s s' : AS} {dst : Option Tmp} {f : Eff}

mutual
theorem deepA_local {m m' : Nat → Option Blk} : ∀ (v v' : AV) (ids : List Nat), deepA m v = some (v', ids) → (∀ i ∈ ids, m' i = m i) → deepA m' v = some (v', ids)
  | .wsl id, v', ids, hd, hm => by
    simp only [deepA] at hd ⊢
    split at hd
    case h_2 => cases hd
    rename_i blk hb
    obtain ⟨hp, hd⟩ := cond_some hd
    simp only [Option.some.injEq, Prod.mk.injEq] at hd
    obtain ⟨rfl, rfl⟩ := hd
    rw [hm id (by simp), hb]
    simp only [hp, cond_true]
  | .sl c, v', ids, hd, hm => hd
  | .st ps, v', ids, hd, hm => by
    simp only [deepA, Option.map_eq_some_iff] at hd ⊢
    obtain ⟨⟨qs, js⟩, hq, hd⟩ := hd
    simp only [Prod.mk.injEq] at hd
    obtain ⟨rfl, rfl⟩ := hd
    exact ⟨(qs, js), deepAs_local ps qs js hq hm, rfl⟩
  | .iface t y, v', ids, hd, hm => by
    simp only [deepA, Option.map_eq_some_iff] at hd ⊢
    obtain ⟨⟨q, js⟩, hq, hd⟩ := hd
    simp only [Prod.mk.injEq] at hd
    obtain ⟨rfl, rfl⟩ := hd
    exact ⟨(q, js), deepA_local y q js hq hm, rfl⟩
  | .dead, _, _, hd, _ => by simp [deepA] at hd
  | .tup _, _, _, hd, _ => by simp [deepA] at hd
  | .ptr _ _ _ _, _, _, hd, _ => by simp [deepA] at hd
  | .pt _ _ _ _, _, _, hd, _ => by simp [deepA] at hd
  | .osl _ _, _, _, hd, _ => by simp [deepA] at hd
  | .bool b, v', ids, hd, _ => by simpa only [deepA] using hd
  | .int _ _, v', ids, hd, _ => by simpa only [deepA] using hd
  | .ints _ _ _, v', ids, hd, _ => by simpa only [deepA] using hd
  | .prs _ _ _, v', ids, hd, _ => by simpa only [deepA] using hd
  | .nilp, v', ids, hd, _ => by simpa only [deepA] using hd
  | .nils, v', ids, hd, _ => by simpa only [deepA] using hd
  | .func _, v', ids, hd, _ => by simpa only [deepA] using hd
  | .nili, v', ids, hd, _ => by simpa only [deepA] using hd
  | .con _, v', ids, hd, _ => by simpa only [deepA] using hd
theorem deepAs_local {m m' : Nat → Option Blk} : ∀ (ps ps' : List AV) (ids : List Nat), deepAs m ps = some (ps', ids) → (∀ i ∈ ids, m' i = m i) → deepAs m' ps = some (ps', ids)
  | [], ps', ids, hd, _ => hd
  | p :: ps, ps', ids, hd, hm => by
    simp only [deepAs] at hd ⊢
    split at hd
    case h_2 => cases hd
    rename_i x hx
    split at hd
    case h_2 => cases hd
    rename_i y hy
    simp only [Option.some.injEq, Prod.mk.injEq] at hd
    obtain ⟨rfl, rfl⟩ := hd
    rw [deepA_local p x.1 x.2 hx (fun i hi => hm i (by simp [hi])), deepAs_local ps y.1 y.2 hy (fun i hi => hm i (by simp [hi]))]
end

theorem newE_local {e : TypeId} {c : AV} {mk : Nat → AV} {rd : List Nat} (hc : ∀ d j, dst = some d → s'.c (d + 1000 * j) = s.c (d + 1000 * j)) : newE s' dst e c mk rd = newE s dst e c mk rd := by
  unfold newE
  cases dst with
  | none => rfl
  | some d =>
    have := hc d 0 rfl
    simp only [Nat.mul_zero, Nat.add_zero] at this
    simp only [this]

theorem resTup_local (d : Nat) (hc : ∀ j, s'.c (d + 1000 * j) = s.c (d + 1000 * j)) : ∀ (ps : List AV) (j : Nat), resTup s' d j ps = resTup s d j ps
  | [], j => rfl
  | p :: ps, j => by
    have ih := resTup_local d hc ps (j + 1)
    cases p <;> simp only [resTup, ih, hc]

theorem resA_local {rd : List Nat} {r : AV} (hc : ∀ d j, dst = some d → s'.c (d + 1000 * j) = s.c (d + 1000 * j)) : resA s' dst rd r = resA s dst rd r := by
  unfold resA
  split
  · rename_i e c d
    have := hc d 0 rfl
    simp only [Nat.mul_zero, Nat.add_zero] at this
    simp only [this]
  · rfl
  · rename_i ps d
    simp only [resTup_local d (fun j => hc d j rfl)]
  · rfl
  · rfl

theorem buildSt_local {t t' : Nat → AV} : ∀ (ps : List (Nat × Operand)) (zs : List AV), (∀ p ∈ ps, ev t' p.2 = ev t p.2) → buildSt t' zs ps = buildSt t zs ps
  | [], _, _ => rfl
  | (i, x) :: r, zs, h => by
    have hx := h (i, x) (by simp)
    simp only [] at hx
    simp only [buildSt, hx]
    split
    · rw [buildSt_local r _ (fun p hp => h p (by simp [hp]))]
    · rfl

theorem buildInts_local {t t' : Nat → AV} {k : IntKind} : ∀ (ps : List (Nat × Operand)) (zs : List Int), (∀ p ∈ ps, ev t' p.2 = ev t p.2) → buildInts t' k zs ps = buildInts t k zs ps
  | [], _, _ => rfl
  | (i, x) :: r, zs, h => by
    have hx := h (i, x) (by simp)
    simp only [] at hx
    simp only [buildInts, hx]
    split
    · rw [buildInts_local r _ (fun p hp => h p (by simp [hp]))]
    · rfl

theorem buildPrs_local {t t' : Nat → AV} {k : IntKind} : ∀ (ps : List (Nat × Operand)) (zs : List (Int × Int)), (∀ p ∈ ps, ev t' p.2 = ev t p.2) → buildPrs t' k zs ps = buildPrs t k zs ps
  | [], _, _ => rfl
  | (i, x) :: r, zs, h => by
    have hx := h (i, x) (by simp)
    simp only [] at hx
    simp only [buildPrs, hx]
    split
    · rw [buildPrs_local r _ (fun p hp => h p (by simp [hp]))]
    · rfl

theorem map_ev_local {t t' : Nat → AV} {xs : List Operand} (h : ∀ x ∈ xs, ev t' x = ev t x) : xs.map (ev t') = xs.map (ev t) := List.map_congr_left h

theorem newE_rd {e : TypeId} {c : AV} {mk : Nat → AV} {rd : List Nat} (h : newE s dst e c mk rd = some f) : f.rd = rd := by
  unfold newE at h
  cases dst with
  | none => cases h
  | some d => cases h; rfl

theorem resA_rd {rd : List Nat} {r : AV} (h : resA s dst rd r = some f) : f.rd = rd := by
  unfold resA at h
  split at h
  · cases h; rfl
  · cases h; rfl
  · obtain ⟨_, h⟩ := cond_some h; cases h; rfl
  · cases h; rfl
  · cases h; rfl

theorem listOf_local {v cy : AV} {ry : List Nat} (h : listOf s v = some (cy, ry)) (hm : ∀ id ∈ ry, s'.m id = s.m id) : listOf s' v = some (cy, ry) := by
  cases v <;> simp only [listOf] at h ⊢
  case wsl id =>
    cases hb : s.m id with
    | none => rw [hb] at h; cases h
    | some blk =>
      rw [hb] at h
      simp only [Option.some.injEq, Prod.mk.injEq] at h
      obtain ⟨rfl, rfl⟩ := h
      rw [hm id (by simp), hb]
  case sl c => exact h
  all_goals cases h

theorem bltA_local {b : Builtin} {ts : List TypeId} {xs : List Operand} (ht : ∀ x ∈ xs, ev s'.t x = ev s.t x) (hm : ∀ id ∈ f.rd, s'.m id = s.m id) (hc : ∀ d j, dst = some d → s'.c (d + 1000 * j) = s.c (d + 1000 * j))
    (hf : bltA E s dst b ts xs some = some f) : bltA E s' dst b ts xs some = some f := by
  unfold bltA at hf ⊢
  split at hf
  · rename_i x
    rw [ht x (by simp)]
    obtain ⟨h1, hf⟩ := cond_some hf
    simp only [h1, cond_true]
    split at hf
    · rename_i id hx
      (try simp only [hx])
      split at hf
      · rename_i blk hb
        simp only [Option.some.injEq] at hf
        subst hf
        rw [hm id (by simp), hb]
      · cases hf
    · rename_i c hx
      (try simp only [hx])
      exact hf
    · rename_i hx
      (try simp only [hx])
      exact hf
    · cases hf
  · simp only [map_ev_local ht]
    exact hf
  · simp only [map_ev_local ht]
    exact hf
  · rename_i x y
    obtain ⟨h1, hf⟩ := cond_some hf
    simp only [h1, cond_true]
    cases ts with
    | nil => cases hf
    | cons t ts' =>
    simp only [] at hf ⊢
    split at hf
    case h_2 => cases hf
    rename_i e _ _ _ _ hte
    split at hf
    case h_2 => cases hf
    rename_i te cy ry htee hly
    obtain ⟨h2, hf⟩ := cond_some hf
    have hx := ht x (by simp)
    have hy := ht y (by simp)
    have main : ∀ (hry : ∀ id ∈ ry, s'.m id = s.m id), listOf s' (ev s.t y) = some (cy, ry) := by
      exact listOf_local hly
    rw [hx, hy]
    split at hf
    · rename_i hxv
      obtain ⟨h3, hf⟩ := chk_some hf
      split at hf
      case h_2 => cases hf
      rename_i f' hne
      simp only [Option.some.injEq] at hf
      subst hf
      have hrd := newE_rd hne
      rw [main (fun id hi => hm id (by rw [hrd]; exact hi))]
      simp only [htee, h2, cond_true, hxv, h3, chk, newE_local hc, hne]
    · rename_i id hxv
      split at hf
      case h_2 => cases hf
      rename_i blk hb
      obtain ⟨h3, hf⟩ := cond_some hf
      split at hf
      case h_2 => cases hf
      rename_i c hcat
      obtain ⟨h4, hf⟩ := cond_some hf
      obtain ⟨h5, hf⟩ := chk_some hf
      split at hf
      case h_2 => cases hf
      rename_i f' hne
      simp only [Option.some.injEq] at hf
      subst hf
      have hrd := newE_rd hne
      simp only [hrd] at hm
      rw [main (fun id hi => hm id (by simp [hi]))]
      simp only [htee, h2, cond_true, hxv, hm id (by simp), hb, h3, hcat, h4, h5, chk, newE_local hc, hne]
    · cases hf
  · cases hf

theorem opA_local (hO : OrcLaw E) {o : Op} (hl : Alike o dst f.rd s s') (hf : opA E s dst o some = some f) : opA E s' dst o some = some f := by
  obtain ⟨ht, hm, hc⟩ := hl
  cases o
  case move x => have := ht x (by simp [Op.operands]); simp only [opA, this] at hf ⊢; exact hf
  case assign x => have := ht x (by simp [Op.operands]); simp only [opA, this] at hf ⊢; exact hf
  case pick c x y =>
    have h1 := ht c (by simp [Op.operands])
    have h2 := ht x (by simp [Op.operands])
    have h3 := ht y (by simp [Op.operands])
    simp only [opA, h1, h2, h3] at hf ⊢; exact hf
  case alloc t => simp only [opA, newE_local hc] at hf ⊢; exact hf
  case box t x => have := ht x (by simp [Op.operands]); simp only [opA, this, newE_local hc] at hf ⊢; exact hf
  case build t ps =>
    have h1 : ∀ p ∈ ps.toList, ev s'.t p.2 = ev s.t p.2 := fun p hp => ht p.2 (by simp only [Op.operands, List.mem_toArray, List.mem_map]; exact ⟨p, hp, rfl⟩)
    simp only [opA, buildSt_local _ _ h1, buildInts_local _ _ h1] at hf ⊢; exact hf
  case buildSlice t n ps =>
    have h1 : ∀ p ∈ ps.toList, ev s'.t p.2 = ev s.t p.2 := fun p hp => ht p.2 (by simp only [Op.operands, List.mem_toArray, List.mem_map]; exact ⟨p, hp, rfl⟩)
    simp only [opA, buildInts_local _ _ h1, buildPrs_local _ _ h1, newE_local hc] at hf ⊢; exact hf
  case load t x =>
    have hx := ht x (by simp [Op.operands])
    simp only [opA, hx] at hf ⊢
    split at hf
    case h_2 => cases hf
    rename_i te hte
    (try simp only [])
    split at hf
    · rename_i id i e g hv
      (try simp only [])
      split at hf
      case h_2 => cases hf
      rename_i blk hb
      split at hf
      case h_2 => cases hf
      rename_i v hg
      simp only [Option.some.injEq] at hf
      subst hf
      simp only [hm id (by simp), hb, hg]
    · rename_i hv
      (try simp only [])
      exact hf
    · cases hf
  case store t x y =>
    have hx := ht x (by simp [Op.operands])
    have hy := ht y (by simp [Op.operands])
    simp only [opA, hx, hy] at hf ⊢
    split at hf
    case h_2 => cases hf
    rename_i te hte
    (try simp only [])
    split at hf
    · rename_i id i e g hv
      (try simp only [])
      split at hf
      case h_2 => cases hf
      rename_i blk hb
      obtain ⟨h1, hf⟩ := cond_some hf
      split at hf
      case h_2 => cases hf
      rename_i c hg
      obtain ⟨h2, hf⟩ := cond_some hf
      simp only [Option.some.injEq] at hf
      subst hf
      simp only [hm id (by simp), hb, h1, hg, h2, cond_true]
    · cases hf
  case nilCheck x => have := ht x (by simp [Op.operands]); simp only [opA, this] at hf ⊢; exact hf
  case binOp op t x y t' =>
    have h1 := ht x (by simp [Op.operands])
    have h2 := ht y (by simp [Op.operands])
    simp only [opA, h1, h2] at hf ⊢; exact hf
  case unOp op t x => have := ht x (by simp [Op.operands]); simp only [opA, this] at hf ⊢; exact hf
  case convert t t' x => have := ht x (by simp [Op.operands]); simp only [opA, this] at hf ⊢; exact hf
  case makeInterface t x => have := ht x (by simp [Op.operands]); simp only [opA, this] at hf ⊢; exact hf
  case makeSlice t x y =>
    have h1 := ht x (by simp [Op.operands])
    have h2 := ht y (by simp [Op.operands])
    simp only [opA, h1, h2, newE_local hc] at hf ⊢; exact hf
  case slice t x lo hi mx =>
      have h1 := ht x (by simp [Op.operands])
      have h2 : ∀ d, boundA s'.t d lo = boundA s.t d lo := by
        intro d
        cases lo with
        | none => rfl
        | some y => simp only [boundA, ht y (by simp [Op.operands])]
      have h3 : ∀ d, boundA s'.t d hi = boundA s.t d hi := by
        intro d
        cases hi with
        | none => rfl
        | some y => simp only [boundA, ht y (by simp [Op.operands])]
      have h4 : ∀ d c, mxA s'.t d c hi mx = mxA s.t d c hi mx := by
        intro d c
        cases mx with
        | none => rfl
        | some y => simp only [mxA, ht y (by simp [Op.operands])]
      simp only [opA, h1, h2, h3, h4] at hf ⊢; exact hf
  case fieldAddr t x n => have := ht x (by simp [Op.operands]); simp only [opA, this] at hf ⊢; exact hf
  case field t x n => have := ht x (by simp [Op.operands]); simp only [opA, this] at hf ⊢; exact hf
  case indexAddr t x y =>
    have hx := ht x (by simp [Op.operands])
    have hy := ht y (by simp [Op.operands])
    simp only [opA, hx, hy] at hf ⊢
    split at hf
    · rename_i n e _ _ _ _ _ j hte hj
      (try simp only [])
      split at hf
      · rename_i te id _ g htee hv
        (try simp only [])
        obtain ⟨h1, hf⟩ := chk_some hf
        split at hf
        case h_2 => cases hf
        rename_i blk hb
        cases hcc : (Nat.beq blk.c.cnt n && Nat.beq g 0 && !Nat.beq te.size 0) with
        | true =>
          rw [hcc] at hf
          simp only [cond_true, Option.some.injEq] at hf
          subst hf
          simp only [chk, h1, cond_true, hm id (by simp), hb, hcc]
        | false =>
          rw [hcc] at hf
          simp only [cond_false, Option.some.injEq] at hf
          subst hf
          simp only [chk, h1, cond_true, hm id (by simp), hb, hcc, cond_false]
      · exact hf
      · cases hf
    · rename_i e _ _ _ _ _ j hte hj
      (try simp only [])
      split at hf
      · rename_i te id htee hv
        (try simp only [])
        split at hf
        case h_2 => cases hf
        rename_i blk hb
        have hf0 := hf
        obtain ⟨h1, hf⟩ := chk_some hf
        simp only [Option.some.injEq] at hf
        subst hf
        simp only [hm id (by simp), hb]
        exact hf0
      · exact hf
      · cases hf
    · cases hf
  case index t x y =>
    have h1 := ht x (by simp [Op.operands])
    have h2 := ht y (by simp [Op.operands])
    simp only [opA, h1, h2] at hf ⊢; exact hf
  case extract x n => have := ht x (by simp [Op.operands]); simp only [opA, this] at hf ⊢; exact hf
  case call c =>
    simp only [opA] at hf ⊢
    split at hf
    · rename_i b hcb
      refine bltA_local (fun x hx => ht x ?_) hm hc hf
      simp only [Op.operands, Call.operands]
      simp [hcb] at hx ⊢
      exact hx
    · rename_i g hcg
      have hg := ht g (by simp [Op.operands, Call.operands, hcg])
      have hxs : ∀ x ∈ c.args.toList, ev s'.t x = ev s.t x := fun x hx => ht x (by
        simp only [Op.operands, Call.operands]
        simp [hcg] at hx ⊢
        exact .inr hx)
      rw [hg]
      split at hf
      case h_2 => cases hf
      rename_i fid hfid
      (try simp only [])
      split at hf
      case h_2 => cases hf
      rename_i en as rd hen hargs
      obtain ⟨h1, hf⟩ := cond_none hf
      rw [hO _ _ hen, Option.bind_eq_some_iff] at hf
      obtain ⟨r, hr, hf⟩ := hf
      split at hf
      case h_2 => cases hf
      rename_i f' hres
      simp only [Option.some.injEq] at hf
      subst hf
      have hrd := resA_rd hres
      have hargs' : argsA s' c.args.toList = some (as, rd) := by
        unfold argsA at hargs ⊢
        rw [map_ev_local hxs]
        exact deepAs_local _ _ _ hargs (fun i hi => hm i (by rw [hrd]; exact hi))
      simp only [hen, hargs', h1, cond_false]
      rw [hO _ _ hen, hr]
      simp only [Option.bind_some, resA_local hc, hres]
    · cases hf
  all_goals (simp [opA] at hf)
end
end Go.Proofs.Ytdkebceiljdgjaa
