/- Any operation; freezing; regions in the order of the text. Own work, program-independent. -/
import Derived.Test.YtdkebceiljdgjaaSound16
namespace Go.Proofs.Ytdkebceiljdgjaa
open Go.RowKit (Below)

section
variable {P : Program} {E : Env} {W0 : World} {Wr : Nat → Prop} {nt : Nat} {A A' : Nat → Prop} {ρ ρ' : Rho} {s : AS} {a : Act} {w w' : World} {o : Oper} {f : Eff}

theorem sound_op (hT : TabOk P E.ty) (hO : OrcOk P E) (hE : E.nt ≤ 1000) (h : SimR W0 Wr E.nt A ρ s a w) (hd : okDst E o.dst = true) (hf : opA E s o.dst o.op some = some f) :
    Gives P o a w (After W0 Wr E.nt s a o.dst f) := by
  cases ho : o.op
  case move x => exact sound_move ho h hd hf
  case assign x => exact sound_assign ho h hd hf
  case pick c x y => exact sound_pick ho h hd hf
  case alloc t => exact sound_alloc hT hE ho h hd hf
  case box t x => exact sound_box hE ho h hd hf
  case build t ps => exact sound_build hT ho h hd hf
  case buildSlice t len ps => exact sound_buildSlice hT hE ho h hd hf
  case load t x => exact sound_load hT ho h hd hf
  case store t x y => exact sound_store hT ho h hd hf
  case nilCheck x => exact sound_nilCheck ho h hd hf
  case binOp op t x y t' => exact sound_binOp hT ho h hd hf
  case unOp op t x => exact sound_unOp ho h hd hf
  case convert t t' x => exact sound_convert hT ho h hd hf
  case makeInterface t x => exact sound_makeInterface hT ho h hd hf
  case makeSlice t x y => exact sound_makeSlice hT hE ho h hd hf
  case slice t x lo hi mx => exact sound_slice hT ho h hd hf
  case fieldAddr t x n => exact sound_fieldAddr hT ho h hd hf
  case field t x n => exact sound_field hT ho h hd hf
  case indexAddr t x y => exact sound_indexAddr hT ho h hd hf
  case index t x y => exact sound_index hT ho h hd hf
  case extract x n => exact sound_extract ho h hd hf
  case call c =>
    cases hc : c.callee
    case value g => exact sound_callee hO hE ho hc h hd hf
    case invoke r n => rw [ho] at hf; simp [opA, hc] at hf
    case builtin b =>
      rw [ho] at hf
      simp only [opA, hc] at hf
      by_cases hlen : ∃ x, b = .len ∧ c.args.toList = [x]
      · obtain ⟨x, rfl, hx⟩ := hlen
        rw [hx] at hf
        exact sound_len hT ho hc hx h hd hf
      by_cases happ : ∃ x y, b = .append ∧ c.args.toList = [x, y]
      · obtain ⟨x, y, rfl, hx⟩ := happ
        rw [hx] at hf
        exact sound_append hT hE ho hc hx h hd hf
      cases b
      case max => exact sound_max ho hc h hd hf
      case min => exact sound_min ho hc h hd hf
      all_goals (exfalso; revert hf; unfold bltA; split <;> first | (intro hf; cases hf; done) | skip)
      all_goals simp_all
  all_goals (rw [ho] at hf; simp [opA] at hf)

/-! ### Freezing -/

theorem any_beq {ids : List Nat} {i : Nat} : ids.any (Nat.beq i) = true ↔ i ∈ ids := by
  rw [List.any_eq_true]
  constructor
  · rintro ⟨x, hx, hb⟩
    rw [nat_beq hb]; exact hx
  · intro h
    exact ⟨i, h, Nat.beq_refl i⟩

mutual
theorem frzV_spec {m : Nat → Option Blk} (hm : ∀ id blk, m id = some blk → BR A w ρ id blk) (ids : List Nat) : ∀ (v v' : AV) (x : Value), frzV m ids v = some v' → VR A w ρ v x → VR (Lent A m ρ ids) w ρ v' x
  | .wsl id, v', x, hf, h => by
    simp only [frzV] at hf
    cases hb : ids.any (Nat.beq id) with
    | false =>
      rw [hb] at hf
      simp only [cond_false, Option.some.injEq] at hf
      subst hf
      exact VR.mono (fun _ h => .inl h) (fun _ _ => rfl) (fun _ _ h => h) _ _ h
    | true =>
      rw [hb] at hf
      simp only [cond_true] at hf
      split at hf
      case h_2 => cases hf
      rename_i blk hblk
      have hf2 := cond_some hf
      obtain ⟨hown, hf⟩ := hf2
      simp only [Option.some.injEq] at hf
      subst hf
      obtain ⟨ob, u, k, h1, h2, h3⟩ := hm id blk hblk
      simp only [VR] at h ⊢
      obtain ⟨ob', n, g1, g2⟩ := h
      rw [h1] at g1
      simp only [Option.some.injEq, Prod.mk.injEq] at g1
      obtain ⟨rfl, rfl⟩ := g1
      refine ⟨u, VR.mono (fun _ h => .inl h) (fun _ _ => rfl) (fun _ _ h => h) _ _ h2, ?_⟩
      rcases g2 with ⟨g2, rfl⟩ | ⟨b, cap, rfl, rfl, g3, g4⟩
      · exact .inl ⟨g2, none, 0, rfl⟩
      · obtain ⟨cs, fr, h4, h5, h6⟩ := h3
        refine .inr ⟨b, 0, cap, .inr ⟨id, any_beq.1 hb, blk, _, hblk, hown, h1⟩, rfl, g3, fun j q hj => ?_⟩
        rw [Nat.zero_add]
        simp [World.cell?, h4, h5 j q hj]
  | .ptr id i e g, v', x, hf, h => by
    simp only [frzV] at hf
    obtain ⟨_, hf⟩ := cond_none hf
    simp only [Option.some.injEq] at hf
    subst hf
    exact VR.mono (fun _ h => .inl h) (fun _ _ => rfl) (fun _ _ h => h) _ _ h
  | .st ps, v', x, hf, h => by
    simp only [frzV, Option.map_eq_some_iff] at hf
    obtain ⟨qs, hq, rfl⟩ := hf
    simp only [VR] at h ⊢
    obtain ⟨cs, h1, h2⟩ := h
    exact ⟨cs, frzVs_specC hm ids ps qs cs hq h1, h2⟩
  | .tup ps, v', x, hf, h => by simp only [VR] at h
  | .iface t y, v', x, hf, h => by
    simp only [frzV, Option.map_eq_some_iff] at hf
    obtain ⟨q, hq, rfl⟩ := hf
    simp only [VR] at h ⊢
    obtain ⟨z, h1, h2⟩ := h
    exact ⟨z, frzV_spec hm ids y q z hq h1, h2⟩
  | .pt c i e g, v', x, hf, h => by
    simp only [frzV] at hf
    obtain ⟨_, hf⟩ := cond_some hf
    simp only [Option.some.injEq] at hf
    subst hf
    exact VR.mono (fun _ h => .inl h) (fun _ _ => rfl) (fun _ _ h => h) _ _ h
  | .sl c, v', x, hf, h => by
    simp only [frzV] at hf
    obtain ⟨_, hf⟩ := cond_some hf
    simp only [Option.some.injEq] at hf
    subst hf
    exact VR.mono (fun _ h => .inl h) (fun _ _ => rfl) (fun _ _ h => h) _ _ h
  | .dead, v', x, hf, h => by simp only [VR] at h
  | .osl _ _, v', x, hf, h => by simp only [VR] at h
  | .bool b, v', x, hf, h => by simp only [frzV, Option.some.injEq] at hf; subst hf; simpa only [VR] using h
  | .int _ _, v', x, hf, h => by simp only [frzV, Option.some.injEq] at hf; subst hf; simpa only [VR] using h
  | .ints _ _ _, v', x, hf, h => by simp only [frzV, Option.some.injEq] at hf; subst hf; simpa only [VR] using h
  | .prs _ _ _, v', x, hf, h => by simp only [frzV, Option.some.injEq] at hf; subst hf; simpa only [VR] using h
  | .nilp, v', x, hf, h => by simp only [frzV, Option.some.injEq] at hf; subst hf; simpa only [VR] using h
  | .nils, v', x, hf, h => by simp only [frzV, Option.some.injEq] at hf; subst hf; simpa only [VR] using h
  | .func _, v', x, hf, h => by simp only [frzV, Option.some.injEq] at hf; subst hf; simpa only [VR] using h
  | .nili, v', x, hf, h => by simp only [frzV, Option.some.injEq] at hf; subst hf; simpa only [VR] using h
  | .con _, v', x, hf, h => by simp only [frzV, Option.some.injEq] at hf; subst hf; simpa only [VR] using h
theorem frzVs_specC {m : Nat → Option Blk} (hm : ∀ id blk, m id = some blk → BR A w ρ id blk) (ids : List Nat) : ∀ (ps ps' : List AV) (cs : List Value), frzVs m ids ps = some ps' → CRs A w ρ ps cs → CRs (Lent A m ρ ids) w ρ ps' cs
  | [], ps', cs, hf, h => by
    simp only [frzVs, Option.some.injEq] at hf
    subst hf
    simpa only [CRs] using h
  | p :: ps, ps', cs, hf, h => by
    simp only [frzVs] at hf
    split at hf
    case h_2 => cases hf
    rename_i q hq
    split at hf
    case h_2 => cases hf
    rename_i qs hqs
    simp only [Option.some.injEq] at hf
    subst hf
    simp only [CRs] at h ⊢
    obtain ⟨v, cs', h1, h2, h3⟩ := h
    exact ⟨v, cs', frzV_spec hm ids p q v hq h1, frzVs_specC hm ids ps qs cs' hqs h2, h3⟩
end

theorem frzVs_spec {m : Nat → Option Blk} (hm : ∀ id blk, m id = some blk → BR A w ρ id blk) (ids : List Nat) : ∀ (ps ps' : List AV) (vs : List Value), frzVs m ids ps = some ps' → VRs A w ρ ps vs → VRs (Lent A m ρ ids) w ρ ps' vs
  | [], ps', cs, hf, h => by
    simp only [frzVs, Option.some.injEq] at hf
    subst hf
    simpa only [VRs] using h
  | p :: ps, ps', cs, hf, h => by
    simp only [frzVs] at hf
    split at hf
    case h_2 => cases hf
    rename_i q hq
    split at hf
    case h_2 => cases hf
    rename_i qs hqs
    simp only [Option.some.injEq] at hf
    subst hf
    simp only [VRs] at h ⊢
    obtain ⟨v, cs', h1, h2, h3⟩ := h
    exact ⟨v, cs', frzV_spec hm ids p q v hq h1, frzVs_spec hm ids ps qs cs' hqs h2, h3⟩

theorem frzV_cnt {m : Nat → Option Blk} {ids : List Nat} {v v' : AV} {A : Nat → Prop} {w : World} {x : Value} (h : frzV m ids v = some v') (hv : VR A w ρ v x) : v'.cnt = v.cnt ∧ v'.esz = v.esz := by
  cases v <;> simp only [frzV] at h
  case dead => simp only [VR] at hv
  case osl => simp only [VR] at hv
  case tup => simp only [VR] at hv
  case wsl id =>
    cases hb : ids.any (Nat.beq id) with
    | false => rw [hb] at h; cases h; exact ⟨rfl, rfl⟩
    | true =>
      rw [hb] at h
      simp only [cond_true] at h
      split at h
      · obtain ⟨_, h⟩ := cond_some h; cases h; exact ⟨rfl, rfl⟩
      · cases h
  case st => obtain ⟨q, _, rfl⟩ := Option.map_eq_some_iff.1 h; exact ⟨rfl, rfl⟩
  case iface => obtain ⟨q, _, rfl⟩ := Option.map_eq_some_iff.1 h; exact ⟨rfl, rfl⟩
  case ptr => obtain ⟨_, h⟩ := cond_none h; cases h; exact ⟨rfl, rfl⟩
  case pt => obtain ⟨_, h⟩ := cond_some h; cases h; exact ⟨rfl, rfl⟩
  case sl => obtain ⟨_, h⟩ := cond_some h; cases h; exact ⟨rfl, rfl⟩
  all_goals (cases h; exact ⟨rfl, rfl⟩)

theorem SimR.frz (h : SimR W0 Wr nt A ρ s a w) (ids : List Nat) : SimR W0 Wr nt (Lent A s.m ρ ids) ρ (frzS s ids) a w := by
  have sub : ∀ id blk, (frzS s ids).m id = some blk → id ∉ ids ∧ ∃ c0, s.m id = some { blk with c := c0 } ∧ frzV s.m ids c0 = some blk.c := by
    intro id blk hb
    simp only [frzS] at hb
    obtain ⟨hn, hb⟩ := cond_none hb
    split at hb
    case h_2 => cases hb
    rename_i b hbm
    split at hb
    case h_2 => cases hb
    rename_i c hc
    simp only [Option.some.injEq] at hb
    subst hb
    refine ⟨fun hi => ?_, b.c, hbm, hc⟩
    rw [any_beq.2 hi] at hn
    cases hn
  have hmono : ∀ b, A b → Lent A s.m ρ ids b := fun _ h => .inl h
  refine ⟨h.dfr, h.tsz, fun j => ?_, fun id blk hb => ?_, fun id id' blk blk' b n n' h1 h2 hne ho hr hr' => ?_, fun id blk b n h1 ho hr => ?_, fun b hb => ?_, h.fresh, ⟨h.fr.os, h.fr.tape, h.fr.output, h.fr.size, h.fr.block, fun b hb => ?_⟩⟩
  · simp only [frzS]
    cases hv : frzV s.m ids (s.t j) with
    | none => trivial
    | some v =>
      have hs := h.slot j
      simp only [Option.getD_some]
      cases ht : s.t j
      case dead => rw [ht] at hv; simp only [frzV, Option.some.injEq] at hv; subst hv; trivial
      case tup ps =>
        rw [ht] at hv hs
        simp only [frzV, Option.map_eq_some_iff] at hv
        obtain ⟨qs, hq, rfl⟩ := hv
        obtain ⟨vs, h1, h2⟩ := hs
        exact ⟨vs, frzVs_spec h.mem ids ps qs vs hq h1, h2⟩
      all_goals (rw [ht] at hv hs; exact VR.sr (frzV_spec h.mem ids _ _ _ hv hs))
  · obtain ⟨hn, c0, hm, hc⟩ := sub id blk hb
    obtain ⟨ob, u, m, h1, h2, h3⟩ := h.mem _ _ hm
    obtain ⟨e1, e2⟩ := frzV_cnt hc h2
    refine ⟨ob, u, m, by rw [h1, e1], frzV_spec h.mem ids _ _ _ hc h2, ?_⟩
    cases ob with
    | none => exact h3
    | some b => rw [e2]; exact h3
  · obtain ⟨_, c0, hm, _⟩ := sub id blk h1
    obtain ⟨_, c1, hm', _⟩ := sub id' blk' h2
    exact h.inj id id' _ _ b n n' hm hm' hne ho hr hr'
  · obtain ⟨hn, c0, hm, _⟩ := sub id blk h1
    refine ⟨(h.own id _ b n hm ho hr).1, ?_⟩
    rintro (hA | ⟨id', hi, blk', n', hm', ho', hr'⟩)
    · exact (h.own id _ b n hm ho hr).2 hA
    · exact h.inj id id' _ _ b n n' hm hm' (fun e => hn (e ▸ hi)) ho hr hr'
  · rcases hb with hb | ⟨id, _, blk, n, hm, _, hr⟩
    · exact h.alive b hb
    · exact (h.mem id blk hm).lt hr
  · rcases hb with hb | ⟨id, _, blk, n, hm, ho, hr⟩
    · exact h.fr.tr b hb
    · exact .inl (h.own id blk b n hm ho hr).1
end
end Go.Proofs.Ytdkebceiljdgjaa
