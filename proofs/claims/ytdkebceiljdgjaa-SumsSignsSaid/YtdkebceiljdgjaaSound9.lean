/- Each operation of the evaluator is one of the machine (fourth part): places, parts, lengths. Own work, program-independent. -/
import Derived.Test.YtdkebceiljdgjaaSound8
namespace Go.Proofs.Ytdkebceiljdgjaa
open Go.RowKit (Below)

section
variable {P : Program} {E : Env} {W0 : World} {Wr : Nat → Prop} {A A' : Nat → Prop} {ρ ρ' : Rho} {s : AS} {a : Act} {w w' : World} {o : Oper} {f : Eff}

theorem sound_binOp (hT : TabOk P E.ty) {op : BinOp} {t t' : TypeId} {x y : Operand} (ho : o.op = .binOp op t x y t') (h : SimR W0 Wr E.nt A ρ s a w) (hd : okDst E o.dst = true) (hf : opA E s o.dst o.op some = some f) :
    Gives P o a w (After W0 Wr E.nt s a o.dst f) := by
  rw [ho] at hf
  simp only [opA] at hf
  rw [binA_bind, Option.bind_eq_some_iff] at hf
  obtain ⟨v, hv, hf⟩ := hf
  simp only [Option.some.injEq] at hf
  subst hf
  obtain ⟨h1, r, h2, h3⟩ := binA_run hT hv (h.ev x) (h.ev y)
  refine Gives.val (x := r) ?_ (After.val h (okDst_lt hd) h3.sr rfl rfl rfl)
  unfold execOp
  rw [ho]
  simp only [Sem.run_bind, h1, h2, Result.andThen_ok, Sem.run_pure]

theorem sound_unOp {op : UnOp} {t : TypeId} {x : Operand} (ho : o.op = .unOp op t x) (h : SimR W0 Wr E.nt A ρ s a w) (hd : okDst E o.dst = true) (hf : opA E s o.dst o.op some = some f) :
    Gives P o a w (After W0 Wr E.nt s a o.dst f) := by
  rw [ho] at hf
  simp only [opA] at hf
  have hx := h.ev x
  split at hf
  · rename_i b hv
    rw [hv] at hx
    simp only [Option.some.injEq] at hf
    subst hf
    exact Gives.val (x := .bool (!b)) (by unfold execOp; rw [ho]; simp [hx.bool, Op.unary]) (After.val h (okDst_lt hd) (VR_bool (A := A) (w := w) (ρ := ρ)).sr rfl rfl rfl)
  · rename_i k n hv
    rw [hv] at hx
    simp only [Option.some.injEq] at hf
    subst hf
    exact Gives.val (x := .int k (k.wrap (0 - n))) (by unfold execOp; rw [ho]; simp [hx.int, Op.unary, Op.intArith]) (After.val h (okDst_lt hd) (VR_int (A := A) (w := w) (ρ := ρ)).sr rfl rfl rfl)
  · rename_i k n hv
    rw [hv] at hx
    split at hf
    · rename_i z hz
      simp only [Option.some.injEq] at hf
      subst hf
      refine Gives.val (x := .int k z) ?_ (After.val h (okDst_lt hd) (VR_int (A := A) (w := w) (ρ := ρ)).sr rfl rfl rfl)
      unfold execOp
      rw [ho]
      have hb : (Op.intBits .xor k (if k.signed then -1 else k.max) n).run P w = .ok (.int k z) w := bitsA_run (by rw [← hz]; congr 1; cases k.signed <;> rfl)
      simp only [Sem.run_bind, hx.int, Op.unary, hb, Result.andThen_ok, Sem.run_pure]
    · cases hf
  · cases hf

theorem sound_convert (hT : TabOk P E.ty) {t t' : TypeId} {x : Operand} (ho : o.op = .convert t t' x) (h : SimR W0 Wr E.nt A ρ s a w) (hd : okDst E o.dst = true) (hf : opA E s o.dst o.op some = some f) :
    Gives P o a w (After W0 Wr E.nt s a o.dst f) := by
  rw [ho] at hf
  simp only [opA] at hf
  have hx := h.ev x
  split at hf
  case h_2 => cases hf
  rename_i k0 _ _ _ _ k _ _ _ _ k1 n ht1 ht2 hv
  rw [hv] at hx
  simp only [Option.some.injEq] at hf
  subst hf
  have u1 := (hT _ _ ht1).und
  have u2 := (hT _ _ ht2).und
  simp only [UndOk] at u1 u2
  refine Gives.val (x := .int k (k.wrap n)) ?_ (After.val h (okDst_lt hd) (VR_int (A := A) (w := w) (ρ := ρ)).sr rfl rfl rfl)
  unfold execOp
  rw [ho]
  simp [hx.int, convert, run_underlying u1, run_underlying u2, Conv.intToInt]

theorem sound_makeInterface (hT : TabOk P E.ty) {t : TypeId} {x : Operand} (ho : o.op = .makeInterface t x) (h : SimR W0 Wr E.nt A ρ s a w) (hd : okDst E o.dst = true) (hf : opA E s o.dst o.op some = some f) :
    Gives P o a w (After W0 Wr E.nt s a o.dst f) := by
  rw [ho] at hf
  simp only [opA] at hf
  split at hf
  · cases hf
  · rename_i te hno hte
    obtain ⟨hl, hf⟩ := cond_some hf
    simp only [Option.some.injEq] at hf
    subst hf
    have hx := (h.ev x).vr hl
    have hu := (hT _ _ hte).und
    have hd' : ∃ d, P.underlying t = some d ∧ ∀ ms, d ≠ .interface ms := by
      obtain ⟨td, size, by', z, cm⟩ := te
      cases td <;> simp only [UndOk] at hu
      case iface => exact absurd rfl (hno _ _ _ _ · |>.elim)
      case struct fs => obtain ⟨fa, hu, _⟩ := hu; exact ⟨_, hu, fun ms e => by cases e⟩
      case other => obtain ⟨d, hu, hd⟩ := hu; exact ⟨_, hu, fun ms e => by subst e; exact hd⟩
      all_goals exact ⟨_, hu, fun ms e => by cases e⟩
    obtain ⟨d, hu, hnd⟩ := hd'
    refine Gives.val (x := .iface t (a.eval x)) ?_ (After.val h (okDst_lt hd) (v := .iface t (ev s.t x)) (by simp only [SR, VR]; exact ⟨_, hx, rfl⟩) rfl rfl rfl)
    unfold execOp
    rw [ho]
    have hrun : (Instr.makeInterface t (a.eval x)).run P w = .ok (.iface t (a.eval x)) w := by
      unfold Instr.makeInterface
      simp only [Sem.run_bind, run_underlying hu, Result.andThen_ok]
      cases d <;> first | rfl | exact absurd rfl (hnd _)
    simp only [Sem.run_bind, hrun, Result.andThen_ok, Sem.run_pure]
  · cases hf

theorem sound_nilCheck {x : Operand} (ho : o.op = .nilCheck x) (h : SimR W0 Wr E.nt A ρ s a w) (hd : okDst E o.dst = true) (hf : opA E s o.dst o.op some = some f) :
    Gives P o a w (After W0 Wr E.nt s a o.dst f) := by
  rw [ho] at hf
  simp only [opA] at hf
  have hx := h.ev x
  split at hf
  · rename_i id i e g hv
    rw [hv] at hx
    simp only [Option.some.injEq] at hf
    subst hf
    have hx0 := hx
    simp only [SR, VR] at hx0
    obtain ⟨b, n, _, hx0, _⟩ := hx0
    exact Gives.val (x := a.eval x) (by unfold execOp; rw [ho]; dsimp only; rw [hx0]; rfl) (After.val h (okDst_lt hd) hx rfl rfl rfl)
  · rename_i c i e g hv
    rw [hv] at hx
    simp only [Option.some.injEq] at hf
    subst hf
    have hx0 := hx
    simp only [SR, VR] at hx0
    obtain ⟨u, b, off, _, _, hx0, _⟩ := hx0
    exact Gives.val (x := a.eval x) (by unfold execOp; rw [ho]; dsimp only; rw [hx0]; rfl) (After.val h (okDst_lt hd) hx rfl rfl rfl)
  · rename_i fid hv
    rw [hv] at hx
    simp only [Option.some.injEq] at hf
    subst hf
    have hx0 := hx
    simp only [SR, VR] at hx0
    exact Gives.val (x := a.eval x) (by unfold execOp; rw [ho]; dsimp only; rw [hx0]; rfl) (After.val h (okDst_lt hd) hx rfl rfl rfl)
  · cases hf

theorem run_fieldPlace {ft : TypeId} {fe : TE} (hft : TEok P ft fe) (hs : fe.size ≠ 0) (b n : Nat) (fd : Field) (hfd : fd.type = ft) : (fieldPlace ⟨b, n, none⟩ fd).run P w = .ok ⟨b, n + fd.offset, none⟩ w := by
  unfold fieldPlace
  rw [hfd]
  simp [hft.rSize, hs, addr_add]

theorem sound_fieldAddr (hT : TabOk P E.ty) {t : TypeId} {x : Operand} {n : Nat} (ho : o.op = .fieldAddr t x n) (h : SimR W0 Wr E.nt A ρ s a w) (hd : okDst E o.dst = true) (hf : opA E s o.dst o.op some = some f) :
    Gives P o a w (After W0 Wr E.nt s a o.dst f) := by
  rw [ho] at hf
  simp only [opA] at hf
  have hx := h.ev x
  split at hf
  case h_2 => cases hf
  rename_i fs _ _ _ _ hte
  split at hf
  case h_2 => cases hf
  rename_i ft off hfs
  split at hf
  case h_2 => cases hf
  rename_i fe hfe
  obtain ⟨hsz, hf⟩ := cond_none hf
  have hs : fe.size ≠ 0 := by
    intro e
    rw [e] at hsz
    cases hsz
  have hu := (hT _ _ hte).und
  simp only [UndOk] at hu
  obtain ⟨fa, hu, hmap⟩ := hu
  obtain ⟨fd, hfd, hty, hoff⟩ : ∃ fd, fa[n]? = some fd ∧ fd.type = ft ∧ fd.offset = off := by
    rw [← hmap, List.getElem?_map] at hfs
    simp only [Option.map_eq_some_iff, Prod.mk.injEq] at hfs
    obtain ⟨fd, h1, h2, h3⟩ := hfs
    exact ⟨fd, by simpa using h1, h2, h3⟩
  have run : ∀ b m, a.eval x = .pointer (some ⟨b, m, none⟩) → (execOp a.eval o).run P w = .ok (.value (.pointer (some ⟨b, m + off, none⟩))) w := by
    intro b m hp
    unfold execOp
    rw [ho]
    simp [hp, Instr.fieldAt, run_underlying hu, hfd, Instr.sureAddr, run_fieldPlace (hT _ _ hfe) hs b m fd hty, hoff]
  split at hf
  · rename_i id i e g hv
    rw [hv] at hx
    simp only [Option.some.injEq] at hf
    subst hf
    simp only [SR, VR] at hx
    obtain ⟨b, m, h1, h2, h3⟩ := hx
    refine Gives.val (run _ _ h2) (After.val h (okDst_lt hd) (v := .ptr id i e (g + off)) ?_ rfl rfl rfl)
    simp only [SR, VR]
    exact ⟨b, m, h1, by rw [Nat.add_assoc], h3⟩
  · rename_i c i e g hv
    rw [hv] at hx
    simp only [Option.some.injEq] at hf
    subst hf
    simp only [SR, VR] at hx
    obtain ⟨u, b, m, h1, h2, h3, h4⟩ := hx
    refine Gives.val (run _ _ h3) (After.val h (okDst_lt hd) (v := .pt c i e (g + off)) ?_ rfl rfl rfl)
    simp only [SR, VR]
    exact ⟨u, b, m, h1, h2, by rw [show m + (i * e + g) + off = m + (i * e + (g + off)) by omega], h4⟩
  · cases hf

theorem CRs.split : ∀ (ps : List AV) (n : Nat) (p : AV) (cs : List Value), CRs A w ρ ps cs → ps[n]? = some p → ∃ v pre post, VR A w ρ p v ∧ cs = pre ++ v.cells.toList ++ post ∧ pre.length = AV.szs (ps.take n)
  | [], n, p, cs, _, hp => by simp at hp
  | q :: ps, 0, p, cs, h, hp => by
    simp only [List.getElem?_cons_zero, Option.some.injEq] at hp
    subst hp
    simp only [CRs] at h
    obtain ⟨v, cs', h1, h2, rfl⟩ := h
    exact ⟨v, [], cs', h1, by simp, rfl⟩
  | q :: ps, n + 1, p, cs, h, hp => by
    simp only [CRs] at h
    obtain ⟨v, cs', h1, h2, rfl⟩ := h
    obtain ⟨x, pre, post, g1, g2, g3⟩ := CRs.split ps n p cs' h2 (by simpa using hp)
    refine ⟨x, v.cells.toList ++ pre, post, g1, by rw [g2]; simp, ?_⟩
    simp only [List.length_append, Array.length_toList, VR.size _ _ h1, g3, List.take_succ_cons, AV.szs]

theorem sound_field (hT : TabOk P E.ty) {t : TypeId} {x : Operand} {n : Nat} (ho : o.op = .field t x n) (h : SimR W0 Wr E.nt A ρ s a w) (hd : okDst E o.dst = true) (hf : opA E s o.dst o.op some = some f) :
    Gives P o a w (After W0 Wr E.nt s a o.dst f) := by
  rw [ho] at hf
  simp only [opA] at hf
  have hx := h.ev x
  split at hf
  case h_2 => cases hf
  rename_i fs _ _ _ _ hte
  split at hf
  case h_2 => cases hf
  rename_i ft off ps hfs hv
  split at hf
  case h_2 => cases hf
  rename_i fe p hfe hp
  obtain ⟨hc, hf⟩ := cond_some hf
  simp only [Bool.and_eq_true, beq_iff_eq] at hc
  obtain ⟨⟨h1, h2⟩, h3⟩ := hc
  have h1 := nat_beq h1
  have h2 := nat_beq h2
  simp only [Option.some.injEq] at hf
  subst hf
  rw [hv] at hx
  simp only [SR, VR] at hx
  obtain ⟨cs, hcs, hxe⟩ := hx
  have hu := (hT _ _ hte).und
  simp only [UndOk] at hu
  obtain ⟨fa, hu, hmap⟩ := hu
  obtain ⟨fd, hfd, hty, hoff⟩ : ∃ fd, fa[n]? = some fd ∧ fd.type = ft ∧ fd.offset = off := by
    rw [← hmap, List.getElem?_map] at hfs
    simp only [Option.map_eq_some_iff, Prod.mk.injEq] at hfs
    obtain ⟨fd, h1, h2, h3⟩ := hfs
    exact ⟨fd, by simpa using h1, h2, h3⟩
  obtain ⟨v, pre, post, g1, g2, g3⟩ := CRs.split ps n p cs hcs hp
  have hs := (VR.size _ _ g1).trans h2
  have hpart : (part ft cs.toArray off).run P w = .ok v w := by
    refine run_part_single (hT _ _ hfe) (fun j hj => ?_) hs ?_
    · rw [List.getElem?_toArray, g2, List.append_assoc, List.getElem?_append_right (by omega), List.getElem?_append_left (by simp; omega)]
      rw [← Array.getElem?_toList]
      congr 1
      omega
    · cases hpp : p.comp with
      | true => exact .inl ⟨VR.comp g1 hpp, by rw [← h3, hpp]⟩
      | false => exact .inr ⟨VR.single g1 hpp, by rw [← h3, hpp]⟩
  refine Gives.val (x := v) ?_ (After.val h (okDst_lt hd) g1.sr rfl rfl rfl)
  unfold execOp
  rw [ho]
  have hrun : (Instr.field t (a.eval x) n).run P w = .ok v w := by
    unfold Instr.field
    simp only [Sem.run_bind, run_underlying hu, Result.andThen_ok, hfd, hxe, asAgg, Sem.run_pure, hty, hoff, hpart]
  simp only [Sem.run_bind, hrun, Result.andThen_ok, Sem.run_pure]

theorem sound_extract {x : Operand} {n : Nat} (ho : o.op = .extract x n) (h : SimR W0 Wr E.nt A ρ s a w) (hd : okDst E o.dst = true) (hf : opA E s o.dst o.op some = some f) :
    Gives P o a w (After W0 Wr E.nt s a o.dst f) := by
  rw [ho] at hf
  simp only [opA] at hf
  have hx := h.ev x
  split at hf
  case h_2 => cases hf
  rename_i ps hv
  split at hf
  case h_2 => cases hf
  rename_i p hp
  simp only [Option.some.injEq] at hf
  subst hf
  rw [hv] at hx
  obtain ⟨vs, h1, h2⟩ := hx
  obtain ⟨v, h3, h4⟩ := VRs.get ps vs n p h1 hp
  refine Gives.val (x := v) ?_ (After.val h (okDst_lt hd) h4.sr rfl rfl rfl)
  unfold execOp
  rw [ho]
  simp [h2, Instr.extract, h3]

theorem run_index_arr {t e : TypeId} {n : Nat} {te : TE} {k : IntKind} {j : Int} {b m : Nat} (hu : P.underlying t = some (.array n e)) (he : TEok P e te) (h0 : 0 ≤ j) (h1 : j < n) :
    (Instr.indexAt t (.pointer (some ⟨b, m, none⟩)) (.int k j)).run P w = .ok (.pointer (some ⟨b, m + j.toNat * te.size, none⟩)) w := by
  unfold Instr.indexAt
  simp [asIntOf, run_underlying hu, Instr.sureAddr, h0, h1, he.rSize, addr_add]

theorem run_index_sl {t e : TypeId} {te : TE} {k : IntKind} {j : Int} {b m n cap : Nat} (hu : P.underlying t = some (.slice e)) (he : TEok P e te) (h0 : 0 ≤ j) (h1 : j < n) :
    (Instr.indexAt t (.slice (some ⟨b, m, none⟩) n cap) (.int k j)).run P w = .ok (.pointer (some ⟨b, m + j.toNat * te.size, none⟩)) w := by
  unfold Instr.indexAt
  simp [asIntOf, run_underlying hu, h0, h1, he.rSize, addr_add]

theorem sound_indexAddr (hT : TabOk P E.ty) {t : TypeId} {x y : Operand} (ho : o.op = .indexAddr t x y) (h : SimR W0 Wr E.nt A ρ s a w) (hd : okDst E o.dst = true) (hf : opA E s o.dst o.op some = some f) :
    Gives P o a w (After W0 Wr E.nt s a o.dst f) := by
  rw [ho] at hf
  simp only [opA] at hf
  have hx := h.ev x
  have hy := h.ev y
  have fin : ∀ {v : Value} {q : AV} {rd : List Nat}, (Instr.indexAt t (a.eval x) (a.eval y)).run P w = .ok v w → SR A w ρ q v → Gives P o a w (After W0 Wr E.nt s a o.dst ⟨q, [], [], rd⟩) := by
    intro v q rd h1 h2
    refine Gives.val (x := v) ?_ (After.val h (okDst_lt hd) h2 rfl rfl rfl)
    unfold execOp
    rw [ho]
    simp only [Sem.run_bind, h1, Result.andThen_ok, Sem.run_pure]
  split at hf
  · rename_i n e _ _ _ _ k j hte hvy
    have hu := (hT _ _ hte).und
    simp only [UndOk] at hu
    rw [hvy] at hy
    have hy := hy.int
    split at hf
    · rename_i te id i0 g hte2 hvx
      obtain ⟨hc, hf⟩ := chk_some hf
      simp only [Bool.and_eq_true, decide_eq_true_eq] at hc
      split at hf
      case h_2 => cases hf
      rename_i blk hm
      rw [hvx] at hx
      simp only [SR, VR] at hx
      obtain ⟨b, m, h1, h2, h3⟩ := hx
      obtain ⟨ob, u, mm, g1, _⟩ := h.mem _ _ hm
      have hrun := run_index_arr (w := w) (k := k) (b := b) (m := i0 * 0 + g) hu (hT _ _ hte2) hc.1 hc.2
      rw [← h2, ← hy] at hrun
      cases hb : (Nat.beq blk.c.cnt n && Nat.beq g 0 && !Nat.beq te.size 0) with
      | true =>
        rw [hb] at hf
        simp only [cond_true, Option.some.injEq] at hf
        subst hf
        simp only [Bool.and_eq_true] at hb
        have e1 := nat_beq hb.1.1
        have e2 := nat_beq hb.1.2
        refine fin hrun ?_
        simp only [SR, VR]
        refine ⟨b, m, h1, by simp [e2], .inr ?_⟩
        rw [h1] at g1
        simp only [Option.some.injEq, Prod.mk.injEq] at g1
        rw [g1.2]
        simp only
        omega
      | false =>
        rw [hb] at hf
        simp only [cond_false, Option.some.injEq] at hf
        subst hf
        refine fin hrun ?_
        simp only [SR, VR]
        exact ⟨b, m, h1, by simp, .inl trivial⟩
    · rename_i te c i0 g hte2 hvx
      obtain ⟨hc, hf⟩ := chk_some hf
      simp only [Bool.and_eq_true, decide_eq_true_eq] at hc
      rw [hvx] at hx
      simp only [SR, VR] at hx
      obtain ⟨u, b, m, h1, h2, h3, h4, h5⟩ := hx
      have hrun := run_index_arr (w := w) (k := k) (b := b) (m := m + (i0 * 0 + g)) hu (hT _ _ hte2) hc.1 hc.2
      rw [← h3, ← hy] at hrun
      cases hb : (Nat.beq c.cnt n && Nat.beq g 0 && !Nat.beq te.size 0) with
      | true =>
        rw [hb] at hf
        simp only [cond_true, Option.some.injEq] at hf
        subst hf
        simp only [Bool.and_eq_true] at hb
        have e1 := nat_beq hb.1.1
        have e2 := nat_beq hb.1.2
        refine fin hrun ?_
        simp only [SR, VR]
        exact ⟨u, b, m, h1, h2, by simp [e2], h4, .inr (by omega)⟩
      | false =>
        rw [hb] at hf
        simp only [cond_false, Option.some.injEq] at hf
        subst hf
        refine fin hrun ?_
        simp only [SR, VR]
        exact ⟨u, b, m, h1, h2, by simp [Nat.add_assoc], h4, .inl trivial⟩
    · cases hf
  · rename_i e _ _ _ _ k j hte hvy
    have hu := (hT _ _ hte).und
    simp only [UndOk] at hu
    rw [hvy] at hy
    have hy := hy.int
    split at hf
    · rename_i te id hte2 hvx
      split at hf
      case h_2 => cases hf
      rename_i blk hm
      obtain ⟨hc, hf⟩ := chk_some hf
      simp only [Bool.and_eq_true, decide_eq_true_eq] at hc
      simp only [Option.some.injEq] at hf
      subst hf
      rw [hvx] at hx
      simp only [SR, VR] at hx
      obtain ⟨ob, n, h1, h2⟩ := hx
      obtain ⟨ob', u, mm, g1, _⟩ := h.mem _ _ hm
      rw [h1] at g1
      simp only [Option.some.injEq, Prod.mk.injEq] at g1
      have g2 : n.1 = blk.c.cnt := by rw [g1.2]
      rcases h2 with ⟨h2, _⟩ | ⟨b, cap, rfl, h2, _⟩
      · exfalso; omega
      · have hrun := run_index_sl (w := w) (k := k) (b := b) (m := 0) (n := n.1) (cap := cap) hu (hT _ _ hte2) hc.1.1 (by omega)
        rw [← h2, ← hy] at hrun
        refine fin hrun ?_
        simp only [SR, VR]
        exact ⟨b, n, h1, by simp, .inr (by omega)⟩
    · rename_i te c hte2 hvx
      obtain ⟨hc, hf⟩ := chk_some hf
      simp only [Bool.and_eq_true, decide_eq_true_eq] at hc
      simp only [Option.some.injEq] at hf
      subst hf
      rw [hvx] at hx
      simp only [SR, VR] at hx
      obtain ⟨u, h1, h2⟩ := hx
      rcases h2 with ⟨h2, _⟩ | ⟨b, off, cap, h3, h4, h5, h6⟩
      · exfalso; omega
      · have hrun := run_index_sl (w := w) (k := k) (b := b) (m := off) (n := c.cnt) (cap := cap) hu (hT _ _ hte2) hc.1.1 (by omega)
        rw [← h4, ← hy] at hrun
        refine fin hrun ?_
        simp only [SR, VR]
        exact ⟨u, b, off, h1, h3, by simp, h6, .inr (by omega)⟩
    · cases hf
  · cases hf

theorem sound_index (hT : TabOk P E.ty) {t : TypeId} {x y : Operand} (ho : o.op = .index t x y) (h : SimR W0 Wr E.nt A ρ s a w) (hd : okDst E o.dst = true) (hf : opA E s o.dst o.op some = some f) :
    Gives P o a w (After W0 Wr E.nt s a o.dst f) := by
  rw [ho] at hf
  simp only [opA] at hf
  have hx := h.ev x
  have hy := h.ev y
  split at hf
  case h_3 => cases hf
  case h_2 =>
    rename_i b _ j hte hvx hvy
    have hu := (hT _ _ hte).und
    simp only [UndOk] at hu
    rw [hvy] at hy
    have hy := hy.int
    rw [hvx] at hx
    simp only [SR, VR] at hx
    obtain ⟨hx, _⟩ := hx
    obtain ⟨hc, hf⟩ := chk_some hf
    simp only [Bool.and_eq_true, decide_eq_true_eq] at hc
    simp only [Option.some.injEq] at hf
    subst hf
    refine Gives.val (x := .int .u8 (strAt b j.toNat)) ?_ (After.val h (okDst_lt hd) (VR_int (A := A) (w := w) (ρ := ρ)).sr rfl rfl rfl)
    unfold execOp
    rw [ho]
    have hlt : j.toNat < b.size := by omega
    have hrun : (Instr.index t (a.eval x) (a.eval y)).run P w = .ok (.int .u8 (strAt b j.toNat)) w := by
      unfold Instr.index strAt
      rw [hx, hy]
      simp only [asIntOf, Sem.run_bind, Sem.run_pure, Result.andThen_ok, run_underlying hu, hc.1, if_true]
      rw [getElem?_pos b j.toNat hlt]
      simp
    simp only [Sem.run_bind, hrun, Result.andThen_ok, Sem.run_pure]
  rename_i n e _ _ _ _ n' k l k' j hte hvx hvy
  have hu := (hT _ _ hte).und
  simp only [UndOk] at hu
  rw [hvy] at hy
  have hy := hy.int
  rw [hvx] at hx
  simp only [SR, VR] at hx
  obtain ⟨hl, hx⟩ := hx
  split at hf
  case h_2 => cases hf
  rename_i te hte2
  obtain ⟨hc, hf⟩ := chk_some hf
  simp only [Bool.and_eq_true, decide_eq_true_eq] at hc
  obtain ⟨hb, hf⟩ := cond_some hf
  simp only [Bool.and_eq_true, Bool.not_eq_true'] at hb
  obtain ⟨⟨h1, h2⟩, h3⟩ := hb
  have h1 := nat_beq h1
  have h2 := nat_beq h2
  simp only [Option.some.injEq] at hf
  subst hf
  have he := hT _ _ hte2
  have hpart : (part e (l.map (Value.int k)).toArray (j.toNat * te.size)).run P w = .ok (.int k (l.getD j.toNat 0)) w := by
    refine run_part_single he (fun i hi => ?_) (by rw [h2]; rfl) (.inr ⟨rfl, h3⟩)
    simp only [Value.cells, List.size_toArray, List.length_cons, List.length_nil] at hi
    obtain rfl : i = 0 := by omega
    rw [h2, Nat.mul_one, Nat.add_zero, List.getElem?_toArray]
    exact getD_map_int l _ (by omega)
  refine Gives.val (x := .int k (l.getD j.toNat 0)) ?_ (After.val h (okDst_lt hd) (VR_int (A := A) (w := w) (ρ := ρ)).sr rfl rfl rfl)
  unfold execOp
  rw [ho]
  have hrun : (Instr.index t (a.eval x) (a.eval y)).run P w = .ok (.int k (l.getD j.toNat 0)) w := by
    unfold Instr.index
    rw [hx, hy]
    simp only [asIntOf, Sem.run_bind, Sem.run_pure, Result.andThen_ok, run_underlying hu, hc.1, hc.2, and_self, if_true, he.rSize, hpart]
  simp only [Sem.run_bind, hrun, Result.andThen_ok, Sem.run_pure]
end
end Go.Proofs.Ytdkebceiljdgjaa
