/- What a call hands back; contracts. Own work, program-independent. -/
import Derived.Test.YtdkebceiljdgjaaSound23
namespace Go.Proofs.Ytdkebceiljdgjaa
open Go.RowKit (Below)

mutual
/-- Does a value refer to no memory? -/
def flatA : AV → Bool
  | .bool _ | .int _ _ | .ints _ _ _ | .prs _ _ _ | .nilp | .nils | .func _ | .nili | .con _ => true
  | .st ps => flatAs ps
  | .tup ps => flatAs ps
  | .iface _ v => flatA v
  | .osl _ c => c.plain
  | _ => false
def flatAs : List AV → Bool
  | [] => true
  | p :: ps => flatA p && flatAs ps
end

section
variable {R : Type} {P : Program} {E : Env} {W0 : World} {Wr : Nat → Prop} {A A' : Nat → Prop} {ρ ρ' : Rho} {s s' : AS} {a : Act} {w w' : World} {r : R}

mutual
theorem flatA_vr : ∀ (v : AV) (x : Value), flatA v = true → VR A w ρ v x → VR A' w ρ' v x
  | .bool _, _, _, h => by simpa only [VR] using h
  | .int _ _, _, _, h => by simpa only [VR] using h
  | .ints _ _ _, _, _, h => by simpa only [VR] using h
  | .prs _ _ _, _, _, h => by simpa only [VR] using h
  | .nilp, _, _, h => by simpa only [VR] using h
  | .nils, _, _, h => by simpa only [VR] using h
  | .func _, _, _, h => by simpa only [VR] using h
  | .nili, _, _, h => by simpa only [VR] using h
  | .con _, _, _, h => by simpa only [VR] using h
  | .st ps, x, hf, h => by
    simp only [flatA] at hf
    simp only [VR] at h ⊢
    obtain ⟨cs, h1, h2⟩ := h
    exact ⟨cs, flatAs_crs ps cs hf h1, h2⟩
  | .iface t v, x, hf, h => by
    simp only [flatA] at hf
    simp only [VR] at h ⊢
    obtain ⟨y, h1, h2⟩ := h
    exact ⟨y, flatA_vr v y hf h1, h2⟩
  | .tup _, _, _, h => by simp only [VR] at h
  | .osl _ _, _, _, h => by simp only [VR] at h
  | .dead, _, _, h => by simp only [VR] at h
  | .ptr _ _ _ _, _, hf, _ => by simp [flatA] at hf
  | .pt _ _ _ _, _, hf, _ => by simp [flatA] at hf
  | .wsl _, _, hf, _ => by simp [flatA] at hf
  | .sl _, _, hf, _ => by simp [flatA] at hf
theorem flatAs_crs : ∀ (ps : List AV) (cs : List Value), flatAs ps = true → CRs A w ρ ps cs → CRs A' w ρ' ps cs
  | [], cs, _, h => by simpa only [CRs] using h
  | p :: ps, cs, hf, h => by
    simp only [flatAs, Bool.and_eq_true] at hf
    simp only [CRs] at h ⊢
    obtain ⟨v, cs', h1, h2, h3⟩ := h
    exact ⟨v, cs', flatA_vr p v hf.1 h1, flatAs_crs ps cs' hf.2 h2, h3⟩
end

theorem flatA_r1 {p : AV} {v : Value} {bs : List Nat} (hf : flatA p = true) (h : R1 A w p v bs) : R1 A' w p v bs := by
  cases p
  case osl e c =>
    simp only [flatA] at hf
    simp only [R1] at h ⊢
    obtain ⟨u, h1, h2⟩ := h
    exact ⟨u, h1.plain hf, h2⟩
  all_goals exact ⟨flatA_vr _ _ hf h.1, h.2⟩

theorem flatA_rs : ∀ (ps : List AV) (vs : List Value) (bs : List Nat), flatAs ps = true → Rs A w ps vs bs → Rs A' w ps vs bs
  | [], _, _, _, h => h
  | p :: ps, vs, bs, hf, h => by
    simp only [flatAs, Bool.and_eq_true] at hf
    simp only [Rs] at h ⊢
    obtain ⟨v, vs', b1, b2, r1, r2, h3, h4⟩ := h
    exact ⟨v, vs', b1, b2, flatA_r1 hf.1 r1, flatA_rs ps vs' b2 hf.2 r2, h3, h4⟩

theorem flatA_rr {p : AV} {v : Value} {bs : List Nat} (hf : flatA p = true) (h : RR A w p v bs) : RR A' w p v bs := by
  cases p
  case tup ps =>
    simp only [flatA] at hf
    simp only [RR] at h ⊢
    obtain ⟨vs, h1, h2⟩ := h
    exact ⟨vs, flatA_rs ps vs bs hf h1, h2⟩
  all_goals (simp only [RR] at h ⊢; exact flatA_r1 hf h)

/-- One result. -/
def oneRes (tmps : Array Value) : ResultVar → Sem Value
  | .tmp t => pure (tmps.getD t undef)
  | .cell a t => do loadVar t (← asAddr (tmps.getD a undef))

theorem resultA_sound (hT : TabOk P E.ty) (h : SimR W0 Wr E.nt A ρ s a w) {rv : ResultVar} {v : AV} {ids : List Nat} (hr : resultA E s rv = some (v, ids)) :
    ∃ x, (oneRes a.tmps rv).run P w = .ok x w ∧
      ((∃ id blk bs, ids = [id] ∧ s.m id = some blk ∧ blk.own = true ∧ (∀ B, R1 B w v x bs) ∧ (bs = [] ∨ ∃ b n, bs = [b] ∧ ρ id = some (some b, n))) ∨ R1 (Lent A s.m ρ ids) w v x []) := by
  have low : ∀ {u v' : AV} {js : List Nat} {x : Value}, deepA s.m u = some (v', js) → VR A w ρ u x → R1 (Lent A s.m ρ js) w v' x [] := by
    intro u v' js x hd hv
    have h1 := deepA_spec h.mem u v' js js x hd (fun _ h => h) hv
    cases v'
    case osl => simp only [VR] at h1
    all_goals exact ⟨h1, rfl⟩
  cases rv with
  | tmp d =>
    simp only [resultA] at hr
    refine ⟨_, rfl, ?_⟩
    have hs := h.slot d
    split at hr
    · rename_i id hd
      split at hr
      case h_2 => cases hr
      rename_i blk hb
      obtain ⟨hc, hr⟩ := cond_some hr
      simp only [Bool.and_eq_true, Option.some.injEq, Prod.mk.injEq] at hc hr
      obtain ⟨rfl, rfl⟩ := hr
      rw [hd] at hs
      simp only [SR, VR] at hs
      obtain ⟨ob, n, h1, h2⟩ := hs
      obtain ⟨ob', u, m, g1, g2, g3⟩ := h.mem id blk hb
      rw [h1] at g1
      simp only [Option.some.injEq, Prod.mk.injEq] at g1
      obtain ⟨rfl, rfl⟩ := g1
      left
      rcases h2 with ⟨h2, h3⟩ | ⟨b, cap, rfl, h3, h4, h5⟩
      · refine ⟨id, blk, [], rfl, hb, hc.1, fun B => ?_, .inl rfl⟩
        simp only [R1]
        refine ⟨u, g2.plain hc.2, .inl ⟨h2, ?_, h3, trivial⟩⟩
        have := cells_size_plain hc.2 g2
        rw [this, show blk.c.cnt = 0 from h2, Nat.zero_mul]
      · obtain ⟨cs, fr, k1, k2, k3, k4⟩ := g3
        refine ⟨id, blk, [b], rfl, hb, hc.1, fun B => ?_, .inr ⟨b, _, rfl, h1⟩⟩
        simp only [R1]
        have hfr := k3 hc.1
        subst hfr
        exact ⟨u, g2.plain hc.2, .inr ⟨b, cap, cs, rfl, h3, h4, k1, k2, Nat.le_trans (Nat.mul_le_mul_right _ h5) k4⟩⟩
    · rename_i u hnw
      split at hr
      case h_2 => cases hr
      rename_i x hx
      simp only [Option.some.injEq, Prod.mk.injEq] at hr
      obtain ⟨rfl, rfl⟩ := hr
      exact .inr (low hx (hs.vr (deepA_live hx)))
  | cell d t =>
    simp only [resultA] at hr
    split at hr
    case h_2 => cases hr
    rename_i te id i e g hte hd
    split at hr
    case h_2 => cases hr
    rename_i blk hb
    split at hr
    case h_2 => cases hr
    rename_i v0 hg
    split at hr
    case h_2 => cases hr
    rename_i x hx
    simp only [Option.some.injEq, Prod.mk.injEq] at hr
    obtain ⟨rfl, rfl⟩ := hr
    have hs := h.slot d
    rw [hd] at hs
    obtain ⟨b, u, cs, fr, m, h1, h2, h3, h4, h5, h6, h7, h8⟩ := h.ptr hs hb
    obtain ⟨y, hy, hvy⟩ := read_part (w := w) (hT _ _ hte) hg h4 h3 (b := b) (off := 0) (fun j x hj => by
      rw [Nat.zero_add]
      simp [World.cell?, h5, h6 j x hj])
    rw [Nat.zero_add] at hy
    refine ⟨y, ?_, .inr (low hx hvy)⟩
    simp only [oneRes, h2, asAddr, Sem.run_bind, Sem.run_pure, Result.andThen_ok, hy]

theorem Lent.mono {m : Nat → Option Blk} {l l' : List Nat} (h : ∀ i ∈ l, i ∈ l') : ∀ b, Lent A m ρ l b → Lent A m ρ l' b := by
  rintro b (hb | ⟨id, hi, hb⟩)
  · exact .inl hb
  · exact .inr ⟨id, h id hi, hb⟩

theorem resultsA_sound (hT : TabOk P E.ty) (h : SimR W0 Wr E.nt A ρ s a w) : ∀ (rs : List ResultVar) (vs : List AV) (ids : List Nat), resultsA E s rs = some (vs, ids) → ids.Nodup →
    ∃ (xs : List Value) (owned lent bs : List Nat), (rs.mapM (oneRes a.tmps)).run P w = .ok xs w ∧ (∀ i ∈ owned, i ∈ ids) ∧ (∀ i ∈ lent, i ∈ ids) ∧ (∀ i ∈ owned, i ∉ lent) ∧ (∀ i ∈ owned, ∃ blk, s.m i = some blk ∧ blk.own = true) ∧
      (∀ b ∈ bs, ∃ i ∈ owned, ∃ n, ρ i = some (some b, n)) ∧ bs.Nodup ∧ Rs (Lent A s.m ρ lent) w vs xs bs
  | [], vs, ids, hr, hn => by
    simp only [resultsA, Option.some.injEq, Prod.mk.injEq] at hr
    obtain ⟨rfl, rfl⟩ := hr
    exact ⟨[], [], [], [], rfl, by simp, by simp, by simp, by simp, by simp, List.nodup_nil, rfl, rfl⟩
  | rv :: rs, vs, ids, hr, hn => by
    simp only [resultsA] at hr
    split at hr
    case h_2 => cases hr
    rename_i v hv
    split at hr
    case h_2 => cases hr
    rename_i vs' hvs
    simp only [Option.some.injEq, Prod.mk.injEq] at hr
    obtain ⟨rfl, rfl⟩ := hr
    rw [List.nodup_append] at hn
    obtain ⟨n1, n2, n3⟩ := hn
    obtain ⟨xs, owned, lent, bs, g1, g2, g3, g4, g5, g6, g7, g8⟩ := resultsA_sound hT h rs vs'.1 vs'.2 hvs n2
    obtain ⟨x, hx, hcase⟩ := resultA_sound hT h hv
    have hrun : ((rv :: rs).mapM (oneRes a.tmps)).run P w = .ok (x :: xs) w := by
      rw [List.mapM_cons]
      simp only [Sem.run_bind, hx, Result.andThen_ok, g1, Sem.run_pure]
    rcases hcase with ⟨id, blk, b1, hid, hb, hown, hR, hbs⟩ | hR
    · rw [hid] at n3 ⊢
      refine ⟨x :: xs, id :: owned, lent, b1 ++ bs, hrun, ?_, fun i hi => by simp [g3 i hi], ?_, ?_, ?_, ?_, ?_⟩
      · intro i hi
        rcases List.mem_cons.1 hi with rfl | hi
        · simp
        · simp [g2 i hi]
      · intro i hi hl
        rcases List.mem_cons.1 hi with rfl | hi
        · exact n3 i (by simp) i (g3 i hl) rfl
        · exact g4 i hi hl
      · intro i hi
        rcases List.mem_cons.1 hi with rfl | hi
        · exact ⟨blk, hb, hown⟩
        · exact g5 i hi
      · intro b hb'
        rcases List.mem_append.1 hb' with hb' | hb'
        · rcases hbs with rfl | ⟨b0, n, rfl, hρ⟩
          · cases hb'
          · simp only [List.mem_singleton] at hb'
            subst hb'
            exact ⟨id, by simp, n, hρ⟩
        · obtain ⟨i, hi, hn⟩ := g6 b hb'
          exact ⟨i, by simp [hi], hn⟩
      · rcases hbs with rfl | ⟨b0, n, rfl, hρ⟩
        · exact g7
        · refine List.nodup_cons.2 ⟨fun hm => ?_, g7⟩
          obtain ⟨i, hi, n', hρ'⟩ := g6 b0 hm
          obtain ⟨blk', hb', _⟩ := g5 i hi
          exact h.inj id i blk blk' b0 n n' hb hb' (fun e => n3 id (by simp) i (g2 i hi) e) hown hρ hρ'
      · simp only [Rs]
        exact ⟨x, xs, b1, bs, hR _, g8, rfl, rfl⟩
    · refine ⟨x :: xs, owned, v.2 ++ lent, bs, hrun, fun i hi => by simp [g2 i hi], ?_, ?_, g5, g6, g7, ?_⟩
      · intro i hi
        rcases List.mem_append.1 hi with hi | hi
        · simp [hi]
        · simp [g3 i hi]
      · intro i hi hl
        rcases List.mem_append.1 hl with hl | hl
        · exact n3 i hl i (g2 i hi) rfl
        · exact g4 i hi hl
      · simp only [Rs]
        exact ⟨x, xs, [], bs, hR.mono (Lent.mono (fun i hi => by simp [hi])), Rs.mono (Lent.mono (fun i hi => by simp [hi])) _ _ _ g8, rfl, rfl⟩

def resV : List Value → Value
  | [x] => x
  | xs => .tuple xs.toArray

theorem run_results (fn : Func) (tmps : Array Value) {xs : List Value} (h : (fn.results.toList.mapM (oneRes tmps)).run P w = .ok xs w) : (results fn tmps).run P w = .ok (resV xs) w := by
  have e : results fn tmps = (do
      let vs ← fn.results.mapM (oneRes tmps)
      pure (if h : vs.size = 1 then vs[0] else .tuple vs)) := by
    unfold results
    congr 2
  rw [e, Array.mapM_eq_mapM_toList]
  simp only [Sem.run_bind, map_eq_pure_bind, bind_assoc, h, Result.andThen_ok, Sem.run_pure]
  match xs with
  | [] => rfl
  | [x] => rfl
  | _ :: _ :: _ => rfl
end
end Go.Proofs.Ytdkebceiljdgjaa
