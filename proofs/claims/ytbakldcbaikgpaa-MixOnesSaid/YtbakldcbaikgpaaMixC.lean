/- The texts Mix9, Mix10, Mix11, Mix12, joined. Own work. -/
import Derived.Test.YtbakldcbaikgpaaMixB

/- mix: Parts, its rounds. Own work. -/
namespace Go.Proofs.Ytbakldcbaikgpaa
set_option maxRecDepth 100000
noncomputable section

/-! ### Numbers laid in their order -/
def iS (I : List Int) (X : List PZ) : Nat → Nat → List PZ → List PZ
  | 0, _, O => O
  | q + 1, i, O => iS I X q (i + 1) (O.set (I.getD i 0).toNat (gp X i))
def iSk (I : List Int) (X : List PZ) (n : Nat) (O : List PZ) : List PZ := stk (iS I X n 0 O)
def fitI1 (n p nx : Nat) (I : List Int) (L : Int) : Bool := stk (decide (I.length = p ∧ L = p ∧ n = p ∧ nx = p ∧ p ≤ 67108864 ∧ ∀ x ∈ I, 0 ≤ x ∧ x < (p : Int)))
def stepI1 (R : Type) (vs : List AV) (k1 : List AV → Option R) (k2 : Nat → List AV → Option R) : Option R :=
  match vs with
  | [.prs n .u64 O, .ints p .i64 I, .sl (.ints nr .i64 Rx), .sl (.prs nx .u64 X), .bool bk, .int .i64 N, .int .i64 L, .int .i64 i] =>
    bif decide (i < L) then
      chk (inX i p) (chk (inX i nx) (chk (inX (I.getD i.toNat 0) n)
        (k1 [.prs n .u64 (O.set (I.getD i.toNat 0).toNat ((gp X i.toNat).1, (gp X i.toNat).2)), .ints p .i64 I, .sl (.ints nr .i64 Rx), .sl (.prs nx .u64 X), .bool bk, .int .i64 N, .int .i64 L, .int .i64 (w64 (i + 1))])))
    else k2 0 [.prs n .u64 O, .sl (.ints nr .i64 Rx), .bool bk, .int .i64 N]
  | _ => none
def leI1 : LEnt :=
  { inn := { fuel := none, keep := [0, 1, 2, 9, 39, 40], refs := [(11, 11, 25, .prs 0 .u64 []), (38, 38, 3, .ints 0 .i64 [])] }
    out := { fuel := none, keep := [0, 2, 9], refs := [(11, 11, 25, .prs 0 .u64 [])] }
    ret := { fuel := none, keep := [], refs := [] }
    go := fun _ _ vs kk => match vs with
      | [.prs n .u64 O, .ints p .i64 I, .sl (.ints nr .i64 Rx), .sl (.prs nx .u64 X), .bool bk, .int .i64 N, .int .i64 L, .int .i64 0] =>
        chk (fitI1 n p nx I L) (kk 0 [.prs n .u64 (iSk I X n O), .sl (.ints nr .i64 Rx), .bool bk, .int .i64 N])
      | _ => none }
def orcPa : List (FuncId × Ent) := [(23, entB false sp_prod), (24, entS false sp_order), (25, entS false sp_newR), (26, entM true sp_blk)]
theorem step_I1 (R : Type) (n p nr nx : Nat) (O X : List PZ) (I Rx : List Int) (bk : Bool) (N L i : Int) (k1 : List AV → Option R) (k2 : Nat → List AV → Option R) :
    runA (env Try.f14.ntmps orcPa []) (loopOf 1 (bodyC Try.f14)) 1 (stateOf leI1.inn [.prs n .u64 O, .ints p .i64 I, .sl (.ints nr .i64 Rx), .sl (.prs nx .u64 X), .bool bk, .int .i64 N, .int .i64 L, .int .i64 i]) (bodyK leI1 1 k1 k2) =
    stepI1 R [.prs n .u64 O, .ints p .i64 I, .sl (.ints nr .i64 Rx), .sl (.prs nx .u64 X), .bool bk, .int .i64 N, .int .i64 L, .int .i64 i] k1 k2 := by kernel_rfl
def vsI1 (n p nr nx : Nat) (X : List PZ) (I Rx : List Int) (bk : Bool) (N L i : Int) (O : List PZ) : List AV :=
  [.prs n .u64 O, .ints p .i64 I, .sl (.ints nr .i64 Rx), .sl (.prs nx .u64 X), .bool bk, .int .i64 N, .int .i64 L, .int .i64 i]
theorem I1_loop (R : Type) (n nr : Nat) (X : List PZ) (I Rx : List Int) (bk : Bool) (N : Int) (kk : Nat → List AV → Option R) (hl : I.length = n) (hn : n ≤ 67108864) (hI : ∀ x ∈ I, 0 ≤ x ∧ x < (n : Int)) : ∀ (q i : Nat) (O : List PZ), i + q = n →
    loopN (stepI1 R) (q + 1) (vsI1 n n nr n X I Rx bk N n i O) kk = kk 0 [.prs n .u64 (iS I X q i O), .sl (.ints nr .i64 Rx), .bool bk, .int .i64 N]
  | 0, i, O, hi => by
    rw [loopN]
    unfold vsI1 stepI1
    simp only [show ¬ ((i : Int) < (n : Int)) by omega, decide_false, cond_false]
    rfl
  | q + 1, i, O, hi => by
    have e1 : w64 ((i : Int) + 1) = ((i + 1 : Nat) : Int) := by rw [w64_mid (by omega) (by omega)]; omega
    have c1 : inX (i : Int) n = true := inX_at (by omega)
    have hx : I.getD i 0 ∈ I := by
      rw [List.getD_eq_getElem?_getD, List.getElem?_eq_getElem (show i < I.length by omega)]
      exact List.getElem_mem _
    obtain ⟨a1, a2⟩ := hI _ hx
    have c2 : inX (I.getD i 0) n = true := by
      have := inX_at (show (I.getD i 0).toNat < n by omega)
      rwa [Int.toNat_of_nonneg a1] at this
    have hs : ∀ k1 k2, stepI1 R (vsI1 n n nr n X I Rx bk N n i O) k1 k2 = k1 (vsI1 n n nr n X I Rx bk N n ((i + 1 : Nat) : Int) (O.set (I.getD i 0).toNat (gp X i))) := by
      intro k1 k2
      unfold vsI1 stepI1
      simp only [decide_eq_true (show (i : Int) < (n : Int) by omega), cond_true, e1, Int.toNat_natCast, c1, c2, chk, pzE]
    rw [loopN, hs]
    exact I1_loop R n nr X I Rx bk N kk hl hn hI q (i + 1) _ (by omega)
theorem fitI1_parts {n p nx : Nat} {I : List Int} {L : Int} (h : fitI1 n p nx I L = true) : I.length = p ∧ L = p ∧ n = p ∧ nx = p ∧ p ≤ 67108864 ∧ ∀ x ∈ I, 0 ≤ x ∧ x < (p : Int) := by
  unfold fitI1 at h
  rwa [stk_eq, decide_eq_true_eq] at h
theorem go_I1 (R : Type) (n : Nat) (vs : List AV) (kk : Nat → List AV → Option R) (x : R) (h : leI1.go R n vs kk = some x) : ∃ m, loopN (stepI1 R) m vs kk = some x := by
  simp only [leI1] at h
  split at h
  · rename_i n O p I nr Rx nx X bk N L
    obtain ⟨hg, hk⟩ := chk_some h
    clear h
    obtain ⟨g1, rfl, rfl, rfl, g5, g6⟩ := fitI1_parts hg
    refine ⟨nx + 1, (I1_loop R nx nr X I Rx bk N kk g1 g5 g6 nx 0 O (by omega)).trans ?_⟩
    unfold iSk at hk
    rw [stk_eq] at hk
    exact hk
  · cases h

/-! ### A step of all blocks -/
abbrev CS := Int × List PZ
def fS (bk : Bool) (size r : Nat) : Nat → Nat → CS → CS
  | 0, _, s => s
  | q + 1, fr, s => fS bk size r q (fr + size) (blkR s.1 s.2 fr size r bk)
def fSk (bk : Bool) (size r : Int) (n : Nat) (s : CS) : CS := stk (fS bk size.toNat r.toNat (n / size.toNat) 0 s)
def fitF (n nr : Nat) (Rx : List Int) (C : List PZ) (N size i : Int) : Bool :=
  stk (decide (C.length = n ∧ N = n ∧ n ≤ 67108864 ∧ 1 ≤ size ∧ n % size.toNat = 0 ∧ size.toNat % (Rx.getD i.toNat 0).toNat = 0 ∧ 0 ≤ i ∧ i < nr)) && okL C && canK (Rx.getD i.toNat 0)
def sl5 (fr s2 : Int) (n : Nat) : Bool := (decide (s2 ≤ s2) && decide (s2 ≤ n)) && (true && true && decide (0 ≤ fr) && decide (fr ≤ s2) && decide (s2 ≤ n))
def stepF (R : Type) (vs : List AV) (k1 : List AV → Option R) (k2 : Nat → List AV → Option R) : Option R :=
  match vs with
  | [.prs n .u64 C, .st [.rts, .bool bk, .int .u8 f], .sl (.ints nr .i64 Rx), .int .i64 N, .int .i64 size, .int .i64 i, .int .i64 fr] =>
    bif decide (fr < N) then
      let s2 := w64 (fr + size)
      let lo := fr.toNat
      let M := s2.toNat - fr.toNat
      chk (sl5 fr s2 n) (chk (inX i nr) (chk ((Nat.blt 0 M && Nat.ble (lo + M) n) && true) (chk (fitBl n lo M C (Rx.getD i.toNat 0))
        (k1 [.prs n .u64 (blkK f C lo M (Rx.getD i.toNat 0) bk).2, .st [.rts, .bool bk, .int .u8 (blkK f C lo M (Rx.getD i.toNat 0) bk).1], .sl (.ints nr .i64 Rx), .int .i64 N, .int .i64 size, .int .i64 i, .int .i64 (w64 (fr + size))]))))
    else k2 0 [.prs n .u64 C, .st [.rts, .bool bk, .int .u8 f], .sl (.ints nr .i64 Rx), .int .i64 N, .int .i64 size, .int .i64 i]
  | _ => none
def refsP : List (Nat × Nat × TypeId × AV) := [(11, 11, 25, .prs 0 .u64 []), (14, 14, 61, .dead)]
def leF : LEnt :=
  { inn := { fuel := none, keep := [0, 9, 15, 16, 17], refs := refsP }
    out := { fuel := none, keep := [0, 9, 15, 16], refs := refsP }
    ret := { fuel := none, keep := [], refs := [] }
    go := fun _ _ vs kk => match vs with
      | [.prs n .u64 C, .st [.rts, .bool bk, .int .u8 f], .sl (.ints nr .i64 Rx), .int .i64 N, .int .i64 size, .int .i64 i, .int .i64 0] =>
        chk (fitF n nr Rx C N size i) (kk 0 [.prs n .u64 (fSk bk size (Rx.getD i.toNat 0) n (f, C)).2, .st [.rts, .bool bk, .int .u8 (fSk bk size (Rx.getD i.toNat 0) n (f, C)).1], .sl (.ints nr .i64 Rx), .int .i64 N, .int .i64 size, .int .i64 i])
      | _ => none }
theorem step_F (R : Type) (n nr : Nat) (C : List PZ) (Rx : List Int) (bk : Bool) (f N size i fr : Int) (k1 : List AV → Option R) (k2 : Nat → List AV → Option R) :
    runA (env Try.f14.ntmps orcPa []) (loopOf 5 (bodyC Try.f14)) 5 (stateOf leF.inn [.prs n .u64 C, .st [.rts, .bool bk, .int .u8 f], .sl (.ints nr .i64 Rx), .int .i64 N, .int .i64 size, .int .i64 i, .int .i64 fr]) (bodyK leF 5 k1 k2) =
    stepF R [.prs n .u64 C, .st [.rts, .bool bk, .int .u8 f], .sl (.ints nr .i64 Rx), .int .i64 N, .int .i64 size, .int .i64 i, .int .i64 fr] k1 k2 := by kernel_rfl
end
end Go.Proofs.Ytbakldcbaikgpaa

/- mix: Parts' contract. Own work. -/
namespace Go.Proofs.Ytbakldcbaikgpaa
set_option maxRecDepth 100000
noncomputable section

theorem blkR_ok {f : Int} {C : List PZ} {nc : Nat} (lo N r : Nat) (bk : Bool) (hC : okL C = true) (hl : C.length = nc) : okL (blkR f C lo N r bk).2 = true ∧ (blkR f C lo N r bk).2.length = nc := by
  obtain ⟨h1, h2, -⟩ := kS_ok (nt := r) lo (N / r) N bk (N / r) 0 (f, C, List.replicate r (0, 0)) ⟨hC, hl, okL_rep r, List.length_replicate⟩
  exact ⟨h1, h2⟩
theorem fS_ok {nc : Nat} (bk : Bool) (size r : Nat) : ∀ (q fr : Nat) (s : CS), okL s.2 = true → s.2.length = nc → okL (fS bk size r q fr s).2 = true ∧ (fS bk size r q fr s).2.length = nc
  | 0, _, _, h1, h2 => ⟨h1, h2⟩
  | q + 1, fr, s, h1, h2 => by
    obtain ⟨a1, a2⟩ := blkR_ok (f := s.1) fr size r bk h1 h2
    exact fS_ok bk size r q (fr + size) _ a1 a2
theorem blkK_R (f : Int) (C : List PZ) (lo N r : Nat) (bk : Bool) : blkK f C lo N r bk = blkR f C lo N r bk := by
  unfold blkK
  rw [stk_eq, Int.toNat_natCast]
def vsF (bk : Bool) (n nr : Nat) (Rx : List Int) (N size i fr : Int) (s : CS) : List AV :=
  [.prs n .u64 s.2, .st [.rts, .bool bk, .int .u8 s.1], .sl (.ints nr .i64 Rx), .int .i64 N, .int .i64 size, .int .i64 i, .int .i64 fr]
def vsFo (bk : Bool) (n nr : Nat) (Rx : List Int) (N size i : Int) (s : CS) : List AV :=
  [.prs n .u64 s.2, .st [.rts, .bool bk, .int .u8 s.1], .sl (.ints nr .i64 Rx), .int .i64 N, .int .i64 size, .int .i64 i]
theorem sl5_at {fr s2 n : Nat} (h1 : fr ≤ s2) (h2 : s2 ≤ n) : sl5 (fr : Int) (s2 : Int) n = true := by
  unfold sl5
  rw [decide_eq_true (show (s2 : Int) ≤ s2 by omega), decide_eq_true (show (s2 : Int) ≤ n by omega), decide_eq_true (show (0 : Int) ≤ fr by omega), decide_eq_true (show (fr : Int) ≤ s2 by omega)]
  rfl
theorem fitBl_at {nc lo N r : Nat} {C : List PZ} (h1 : C.length = nc) (h2 : N % r = 0) (h3 : 0 < N) (h4 : lo + N ≤ nc) (h5 : nc ≤ 67108864) (hC : okL C = true) (hc : canK r = true) : fitBl nc lo N C r = true := by
  unfold fitBl
  rw [stk_eq, decide_eq_true ⟨h1, by rw [Int.toNat_natCast]; exact h2, h3, h4, h5⟩, hC, hc]; rfl
theorem F_loop (R : Type) (bk : Bool) (n nr : Nat) (Rx : List Int) (size r i : Nat) (kk : Nat → List AV → Option R) (hr : Rx.getD i 0 = r) (hc : canK r = true) (hi : i < nr) (h1 : 1 ≤ size) (hd : size % r = 0) (hn : n ≤ 67108864) : ∀ (q fr : Nat) (s : CS), fr + q * size = n → okL s.2 = true → s.2.length = n →
    loopN (stepF R) (q + 1) (vsF bk n nr Rx n size i fr s) kk = kk 0 (vsFo bk n nr Rx n size i (fS bk size r q fr s))
  | 0, fr, s, hf, _, _ => by
    rw [loopN]
    unfold vsF stepF
    simp only [show ¬ ((fr : Int) < (n : Int)) by omega, decide_false, cond_false]
    rfl
  | q + 1, fr, s, hf, hC, hl => by
    rw [Nat.add_mul, Nat.one_mul] at hf
    have hq : 0 ≤ q * size := Nat.zero_le _
    have e1 : w64 ((fr : Int) + size) = ((fr + size : Nat) : Int) := by rw [w64_mid (by omega) (by omega)]; omega
    have c1 : inX (i : Int) nr = true := inX_at hi
    have c2 : sl5 (fr : Int) ((fr + size : Nat) : Int) n = true := sl5_at (by omega) (by omega)
    have c3 : Nat.blt 0 size = true := by rw [Nat.blt_eq]; omega
    have c4 : Nat.ble (fr + size) n = true := Nat.ble_eq_true_of_le (by omega)
    have c5 : fitBl n fr size s.2 r = true := fitBl_at hl hd (by omega) (by omega) hn hC hc
    have hs : ∀ k1 k2, stepF R (vsF bk n nr Rx n size i fr s) k1 k2 = k1 (vsF bk n nr Rx n size i ((fr + size : Nat) : Int) (blkR s.1 s.2 fr size r bk)) := by
      intro k1 k2
      unfold vsF stepF
      simp only [decide_eq_true (show (fr : Int) < (n : Int) by omega), cond_true, e1, Int.toNat_natCast, Nat.add_sub_cancel_left, hr, c1, c2, c3, c4, c5, Bool.and_self, chk, blkK_R]
    rw [loopN, hs]
    obtain ⟨a1, a2⟩ := blkR_ok (f := s.1) fr size r bk hC hl
    exact F_loop R bk n nr Rx size r i kk hr hc hi h1 hd hn q (fr + size) _ (by omega) a1 a2
theorem fitF_parts {n nr : Nat} {Rx : List Int} {C : List PZ} {N size i : Int} (h : fitF n nr Rx C N size i = true) : (C.length = n ∧ N = n ∧ n ≤ 67108864 ∧ 1 ≤ size ∧ n % size.toNat = 0 ∧ size.toNat % (Rx.getD i.toNat 0).toNat = 0 ∧ 0 ≤ i ∧ i < nr) ∧ okL C = true ∧ canK (Rx.getD i.toNat 0) = true := by
  unfold fitF at h
  simp only [stk_eq, Bool.and_eq_true, decide_eq_true_eq] at h
  exact ⟨h.1.1, h.1.2, h.2⟩
theorem go_F (R : Type) (n : Nat) (vs : List AV) (kk : Nat → List AV → Option R) (x : R) (h : leF.go R n vs kk = some x) : ∃ m, loopN (stepF R) m vs kk = some x := by
  simp only [leF] at h
  split at h
  · rename_i n C bk f nr Rx N size i
    obtain ⟨hg, hk⟩ := chk_some h
    clear h
    obtain ⟨⟨g1, rfl, g3, g4, g5, g6, g7, g8⟩, hC, hc⟩ := fitF_parts hg
    obtain ⟨size, rfl⟩ : ∃ q : Nat, size = q := ⟨size.toNat, (Int.toNat_of_nonneg (by omega)).symm⟩
    obtain ⟨i, rfl⟩ : ∃ q : Nat, i = q := ⟨i.toNat, (Int.toNat_of_nonneg (by omega)).symm⟩
    rw [Int.toNat_natCast] at g5 g6 hc hk
    obtain ⟨r, hr⟩ : ∃ r : Nat, Rx.getD i 0 = r := ⟨(Rx.getD i 0).toNat, (Int.toNat_of_nonneg (by have := (can_le (by rw [← canK_eq]; exact hc)).1; omega)).symm⟩
    rw [Int.toNat_natCast, hr, Int.toNat_natCast] at g6
    rw [hr] at hk hc
    refine ⟨n / size + 1, (F_loop R bk n nr Rx size r i kk hr hc (by omega) (by omega) g6 g3 (n / size) 0 (f, C) (by rw [Nat.zero_add]; exact Nat.div_mul_cancel (Nat.dvd_of_mod_eq_zero g5)) hC g1).trans ?_⟩
    unfold fSk at hk
    rw [stk_eq, Int.toNat_natCast, Int.toNat_natCast] at hk
    exact hk
  · cases h

/-! ### All steps -/
def rS (R : List Int) (bk : Bool) (n : Nat) : Nat → Nat → CS → CS
  | 0, _, s => s
  | c + 1, size, s => rS R bk n c (size * (R.getD c 0).toNat) (fS bk (size * (R.getD c 0).toNat) (R.getD c 0).toNat (n / (size * (R.getD c 0).toNat)) 0 s)
def rSk (R : List Int) (bk : Bool) (n c : Nat) (s : CS) : CS := stk (rS R bk n c 1 s)
def prN : List Int → Nat
  | [] => 1
  | r :: R => r.toNat * prN R
def fitG3 (n nr : Nat) (R : List Int) (C : List PZ) (N i : Int) : Bool := stk (decide (C.length = n ∧ N = n ∧ n ≤ 67108864 ∧ R.length = nr ∧ nr < 9223372036854775808 ∧ i + 1 = nr ∧ prN R = n ∧ ∀ r ∈ R, canN r = true)) && okL C
def stepG (R0 : Type) (vs : List AV) (k1 : List AV → Option R0) (k2 : Nat → List AV → Option R0) : Option R0 :=
  match vs with
  | [.prs n .u64 C, .st [.rts, .bool bk, .int .u8 f], .sl (.ints nr .i64 Rx), .int .i64 N, .int .i64 size, .int .i64 i] =>
    bif decide (i ≥ 0) then
      let s2 := w64 (size * Rx.getD i.toNat 0)
      chk (inX i nr) (chk (fitF n nr Rx C N s2 i)
        (k1 [.prs n .u64 (fSk bk s2 (Rx.getD i.toNat 0) n (f, C)).2, .st [.rts, .bool bk, .int .u8 (fSk bk s2 (Rx.getD i.toNat 0) n (f, C)).1], .sl (.ints nr .i64 Rx), .int .i64 N, .int .i64 s2, .int .i64 (w64 (i - 1))]))
    else k2 0 [.prs n .u64 C, .st [.rts, .bool bk, .int .u8 f]]
  | _ => none
def leG : LEnt :=
  { inn := { fuel := none, keep := [0, 9, 15, 16], refs := refsP }
    out := { fuel := none, keep := [], refs := refsP }
    ret := { fuel := none, keep := [], refs := [] }
    go := fun _ _ vs kk => match vs with
      | [.prs n .u64 C, .st [.rts, .bool bk, .int .u8 f], .sl (.ints nr .i64 Rx), .int .i64 N, .int .i64 1, .int .i64 i] =>
        chk (fitG3 n nr Rx C N i) (kk 0 [.prs n .u64 (rSk Rx bk n nr (f, C)).2, .st [.rts, .bool bk, .int .u8 (rSk Rx bk n nr (f, C)).1]])
      | _ => none }
theorem step_G (R : Type) (n nr : Nat) (C : List PZ) (Rx : List Int) (bk : Bool) (f N size i : Int) (k1 : List AV → Option R) (k2 : Nat → List AV → Option R) :
    runA (env Try.f14.ntmps orcPa [(5, leF)]) (loopOf 3 (bodyC Try.f14)) 3 (stateOf leG.inn [.prs n .u64 C, .st [.rts, .bool bk, .int .u8 f], .sl (.ints nr .i64 Rx), .int .i64 N, .int .i64 size, .int .i64 i]) (bodyK leG 3 k1 k2) =
    stepG R [.prs n .u64 C, .st [.rts, .bool bk, .int .u8 f], .sl (.ints nr .i64 Rx), .int .i64 N, .int .i64 size, .int .i64 i] k1 k2 := by kernel_rfl
theorem prN_append : ∀ (a b : List Int), prN (a ++ b) = prN a * prN b
  | [], b => by show prN b = 1 * prN b; rw [Nat.one_mul]
  | r :: a, b => by
    show r.toNat * prN (a ++ b) = r.toNat * prN a * prN b
    rw [prN_append a b, Nat.mul_assoc]
theorem prN_pos : ∀ (R : List Int), (∀ r ∈ R, canN r = true) → 1 ≤ prN R
  | [], _ => Nat.le_refl 1
  | r :: R, h => by
    have h1 := prN_pos R fun x hx => h x (by simp [hx])
    have h2 := (can_le (h r (by simp))).1
    exact Nat.mul_le_mul (show 1 ≤ r.toNat by omega) h1
theorem take_snoc {R : List Int} {c : Nat} (h : c < R.length) : R.take (c + 1) = R.take c ++ [R.getD c 0] := by
  rw [List.take_add_one, List.getD_eq_getElem?_getD, List.getElem?_eq_getElem h]
  rfl
theorem G_loop (R0 : Type) (bk : Bool) (n nr : Nat) (Rx : List Int) (kk : Nat → List AV → Option R0) (hR : Rx.length = nr) (hnr : nr < 9223372036854775808) (hn : n ≤ 67108864) (hc : ∀ r ∈ Rx, canN r = true) : ∀ (c size : Nat) (s : CS), c ≤ nr → 1 ≤ size → prN (Rx.take c) * size = n → okL s.2 = true → s.2.length = n →
    loopN (stepG R0) (c + 1) [.prs n .u64 s.2, .st [.rts, .bool bk, .int .u8 s.1], .sl (.ints nr .i64 Rx), .int .i64 n, .int .i64 size, .int .i64 ((c : Int) - 1)] kk = kk 0 [.prs n .u64 (rS Rx bk n c size s).2, .st [.rts, .bool bk, .int .u8 (rS Rx bk n c size s).1]]
  | 0, size, s, _, _, _, _, _ => by
    rw [loopN]
    unfold stepG
    simp only [show ¬ (((0 : Nat) : Int) - 1 ≥ 0) by omega, decide_false, cond_false]
    rfl
  | c + 1, size, s, hc1, h1, hp, hC, hl => by
    have hlt : c < Rx.length := by omega
    rw [take_snoc hlt, prN_append] at hp
    have hmem : Rx.getD c 0 ∈ Rx := by
      rw [List.getD_eq_getElem?_getD, List.getElem?_eq_getElem hlt]
      exact List.getElem_mem _
    have hcan := hc _ hmem
    have hr2 := can_le hcan
    obtain ⟨r, hr⟩ : ∃ r : Nat, Rx.getD c 0 = r := ⟨(Rx.getD c 0).toNat, (Int.toNat_of_nonneg (by omega)).symm⟩
    rw [hr] at hp hcan hr2
    have hp2 : prN (Rx.take c) * (size * r) = n := by
      rw [← hp]
      show _ = prN (Rx.take c) * (r * 1) * size
      rw [Nat.mul_one, Nat.mul_assoc, Nat.mul_comm size r]
    have hpos := prN_pos (Rx.take c) fun x hx => hc x (List.mem_of_mem_take hx)
    have hs1 : 1 ≤ size * r := Nat.mul_le_mul h1 (show 1 ≤ r by omega)
    have hsn : size * r ≤ n := by rw [← hp2]; exact Nat.le_mul_of_pos_left _ hpos
    have e1 : ((c + 1 : Nat) : Int) - 1 = (c : Int) := by omega
    have e2 : w64 ((size : Int) * r) = ((size * r : Nat) : Int) := by rw [← Int.natCast_mul, w64_mid (by omega) (by omega)]
    have e3 : w64 ((c : Int) - 1) = (c : Int) - 1 := by unfold w64; rw [IntKind.wrap_i64]; omega
    have c1 : inX (c : Int) nr = true := inX_at (by omega)
    have c2 : fitF n nr Rx s.2 (n : Int) ((size * r : Nat) : Int) (c : Int) = true := by
      unfold fitF
      rw [stk_eq, Int.toNat_natCast, Int.toNat_natCast, hr, Int.toNat_natCast, decide_eq_true ⟨hl, rfl, hn, by omega, Nat.mod_eq_zero_of_dvd ⟨prN (Rx.take c), by rw [← hp2, Nat.mul_comm]⟩, Nat.mul_mod_left size r, by omega, by omega⟩, hC, canK_eq, hcan]
      rfl
    have hf : fSk bk ((size * r : Nat) : Int) (r : Int) n (s.1, s.2) = fS bk (size * r) r (n / (size * r)) 0 s := by unfold fSk; rw [stk_eq, Int.toNat_natCast, Int.toNat_natCast]
    have hs : ∀ k1 k2, stepG R0 [.prs n .u64 s.2, .st [.rts, .bool bk, .int .u8 s.1], .sl (.ints nr .i64 Rx), .int .i64 n, .int .i64 size, .int .i64 (((c + 1 : Nat) : Int) - 1)] k1 k2 =
        k1 [.prs n .u64 (fS bk (size * r) r (n / (size * r)) 0 s).2, .st [.rts, .bool bk, .int .u8 (fS bk (size * r) r (n / (size * r)) 0 s).1], .sl (.ints nr .i64 Rx), .int .i64 n, .int .i64 ((size * r : Nat) : Int), .int .i64 ((c : Int) - 1)] := by
      intro k1 k2
      rw [e1]
      unfold stepG
      simp only [decide_eq_true (show (c : Int) ≥ 0 by omega), cond_true, Int.toNat_natCast, hr, e2, e3, c1, c2, chk, hf]
    rw [loopN, hs]
    obtain ⟨a1, a2⟩ := fS_ok bk (size * r) r (n / (size * r)) 0 s hC hl
    have := G_loop R0 bk n nr Rx kk hR hnr hn hc c (size * r) (fS bk (size * r) r (n / (size * r)) 0 s) (by omega) hs1 hp2 a1 a2
    rw [this]
    show _ = kk 0 [.prs n .u64 (rS Rx bk n c (size * (Rx.getD c 0).toNat) (fS bk (size * (Rx.getD c 0).toNat) (Rx.getD c 0).toNat (n / (size * (Rx.getD c 0).toNat)) 0 s)).2, .st [.rts, .bool bk, .int .u8 (rS Rx bk n c (size * (Rx.getD c 0).toNat) (fS bk (size * (Rx.getD c 0).toNat) (Rx.getD c 0).toNat (n / (size * (Rx.getD c 0).toNat)) 0 s)).1]]
    rw [hr, Int.toNat_natCast]
theorem fitG3_parts {n nr : Nat} {R : List Int} {C : List PZ} {N i : Int} (h : fitG3 n nr R C N i = true) : (C.length = n ∧ N = n ∧ n ≤ 67108864 ∧ R.length = nr ∧ nr < 9223372036854775808 ∧ i + 1 = nr ∧ prN R = n ∧ ∀ r ∈ R, canN r = true) ∧ okL C = true := by
  unfold fitG3 at h
  rw [stk_eq, Bool.and_eq_true, decide_eq_true_eq] at h
  exact h
theorem go_G (R0 : Type) (n : Nat) (vs : List AV) (kk : Nat → List AV → Option R0) (x : R0) (h : leG.go R0 n vs kk = some x) : ∃ m, loopN (stepG R0) m vs kk = some x := by
  simp only [leG] at h
  split at h
  · rename_i n C bk f nr Rx N i
    obtain ⟨hg, hk⟩ := chk_some h
    clear h
    obtain ⟨⟨g1, rfl, g3, g4, g5, g6, g7, g8⟩, hC⟩ := fitG3_parts hg
    obtain rfl : i = (nr : Int) - 1 := by omega
    have := G_loop R0 bk n nr Rx kk g4 g5 g3 g8 nr 1 (f, C) (Nat.le_refl _) (Nat.le_refl _) (by rw [← g4, List.take_length, Nat.mul_one]; exact g7) hC g1
    refine ⟨nr + 1, this.trans ?_⟩
    unfold rSk at hk
    rw [stk_eq] at hk
    exact hk
  · cases h
end
end Go.Proofs.Ytbakldcbaikgpaa

/- mix: Parts' contract, second part. Own work. -/
namespace Go.Proofs.Ytbakldcbaikgpaa
set_option maxRecDepth 100000
noncomputable section

/-! ### Radices and their product -/
theorem prodL_pr : ∀ (R : List Int) (n p : Int), prodL R n = some p → 0 ≤ n → p = n * (prN R : Nat) ∧ ∀ r ∈ R, canN r = true
  | [], n, p, h, _ => by
    simp only [prodL, Option.some.injEq] at h
    subst h
    exact ⟨by show n = n * 1; omega, by simp⟩
  | r :: R, n, p, h, h0 => by
    unfold prodL at h
    split at h
    · rename_i hc
      have hr := can_le hc.1
      obtain ⟨h1, h2⟩ := prodL_pr R (n * r) p h (Int.mul_nonneg h0 (by omega))
      refine ⟨?_, fun x hx => ?_⟩
      · rw [h1]
        show _ = n * ((r.toNat * prN R : Nat) : Int)
        rw [Int.natCast_mul, Int.toNat_of_nonneg (by omega), Int.mul_assoc]
      · rcases List.mem_cons.1 hx with rfl | hx
        · exact hc.1
        · exact h2 x hx
    · cases h
theorem prodL_le : ∀ (R : List Int) (n p : Int), prodL R n = some p → 1 ≤ n → n ≤ 67108864 → 1 ≤ p ∧ p ≤ 67108864
  | [], n, p, h, h1, h2 => by
    simp only [prodL, Option.some.injEq] at h
    omega
  | r :: R, n, p, h, h1, h2 => by
    unfold prodL at h
    split at h
    · rename_i hc
      have hr := can_le hc.1
      have q2 : (67108864 : Int) / r * r ≤ 67108864 := Int.ediv_mul_le _ (by omega)
      have q3 : n * r ≤ (67108864 : Int) / r * r := Int.mul_le_mul_of_nonneg_right hc.2 (by omega)
      have q4 : 1 * 1 ≤ n * r := Int.mul_le_mul h1 (by omega) (by omega) (by omega)
      exact prodL_le R (n * r) p h (by omega) (by omega)
    · cases h
theorem fits_pr : ∀ (R : List Int), (∀ r ∈ R, canN r = true) → fits R (prN R : Nat)
  | [], _ => rfl
  | r :: R, h => by
    have hr := can_le (h r (by simp))
    have ih := fits_pr R fun x hx => h x (by simp [hx])
    have e : ((prN (r :: R) : Nat) : Int) = r * (prN R : Nat) := by
      show ((r.toNat * prN R : Nat) : Int) = _
      rw [Int.natCast_mul, Int.toNat_of_nonneg (by omega)]
    refine ⟨hr.1, hr.2, ?_, ?_⟩
    · rw [e]; exact Int.mul_emod_right _ _
    · rw [e, Int.mul_ediv_cancel_left _ (by omega)]; exact ih
theorem ordS_range : ∀ (R : List Int) (rest room a B : Int), fits R room → 0 ≤ rest → rest < room → 0 ≤ a → a + room ≤ B → 0 ≤ ordS R rest room a ∧ ordS R rest room a < B
  | [], rest, room, a, B, hf, h0, h1, ha, hB => by
    have : room = 1 := hf
    show 0 ≤ a ∧ a < B
    omega
  | r :: R, rest, room, a, B, hf, h0, h1, ha, hB => by
    obtain ⟨f1, f2, f3, f4⟩ := hf
    obtain ⟨q0, q1, q2, q3, q4, q5⟩ := ord_next f1 f3 h0 h1 ha hB
    exact ordS_range R (rest / r) (room / r) _ B f4 q0 q1 q3 q4
theorem ordO_len (R : List Int) (n : Int) : ∀ (q i : Nat) (O : List Int), (ordO R n q i O).length = O.length
  | 0, _, _ => rfl
  | q + 1, i, O => by
    show (ordO R n q (i + 1) (O.set i _)).length = _
    rw [ordO_len R n q, List.length_set]
theorem ordO_get (R : List Int) (n : Int) : ∀ (q i : Nat) (O : List Int), i + q ≤ O.length → ∀ j, (ordO R n q i O).getD j 0 = if i ≤ j ∧ j < i + q then ordS R (j : Nat) n 0 else O.getD j 0
  | 0, i, O, _, j => by rw [if_neg (by omega)]; rfl
  | q + 1, i, O, hl, j => by
    show (ordO R n q (i + 1) (O.set i _)).getD j 0 = _
    rw [ordO_get R n q (i + 1) _ (by rw [List.length_set]; omega) j]
    by_cases hj : i = j
    · subst hj
      rw [if_neg (by omega), if_pos (by omega), List.getD_eq_getElem?_getD, List.getElem?_set_self (by omega)]
      rfl
    · by_cases hc : i + 1 ≤ j ∧ j < i + 1 + q
      · rw [if_pos hc, if_pos (by omega)]
      · rw [if_neg hc, if_neg (by omega), List.getD_eq_getElem?_getD, List.getElem?_set_ne hj, List.getD_eq_getElem?_getD]
/-- The list of where numbers go. -/
def ordP (R : List Int) (n : Nat) : List Int := ordO R n n 0 (List.replicate n 0)
theorem ordP_len (R : List Int) (n : Nat) : (ordP R n).length = n := by unfold ordP; rw [ordO_len, List.length_replicate]
theorem ordP_get (R : List Int) (n j : Nat) (h : j < n) : (ordP R n).getD j 0 = ordS R (j : Nat) n 0 := by
  unfold ordP
  rw [ordO_get R n n 0 _ (by rw [List.length_replicate]; omega) j, if_pos (by omega)]
theorem ordP_mem {R : List Int} {n : Nat} (hf : fits R (n : Nat)) : ∀ x ∈ ordP R n, 0 ≤ x ∧ x < (n : Int) := by
  intro x hx
  obtain ⟨j, hj, rfl⟩ := List.mem_iff_getElem.1 hx
  rw [ordP_len] at hj
  have h := ordP_get R n j hj
  rw [List.getD_eq_getElem?_getD, List.getElem?_eq_getElem (by rw [ordP_len]; exact hj)] at h
  have h2 : (ordP R n)[j] = ordS R (j : Nat) n 0 := h
  rw [h2]
  exact ordS_range R j n 0 n hf (by omega) (by omega) (by omega) (by omega)

/-! ### The contract -/
theorem iS_len (I : List Int) (X : List PZ) : ∀ (q i : Nat) (O : List PZ), (iS I X q i O).length = O.length
  | 0, _, _ => rfl
  | q + 1, i, O => by
    show (iS I X q (i + 1) (O.set _ _)).length = _
    rw [iS_len I X q, List.length_set]
theorem iS_ok {I : List Int} {X : List PZ} (hX : okL X = true) : ∀ (q i : Nat) (O : List PZ), okL O = true → okL (iS I X q i O) = true
  | 0, _, _, h => h
  | q + 1, i, _, h => iS_ok hX q (i + 1) _ (okL_set h _ (gp_ok hX i))
/-- All of it: flags, and the answers. -/
def parR (R : List Int) (X : List PZ) (bk : Bool) (n : Nat) : CS := rS R bk n R.length 1 (0, iS (ordP R n) X n 0 (List.replicate n (0, 0)))
def parK (R : List Int) (X : List PZ) (bk : Bool) (n : Nat) : CS := stk (parR R X bk n)
def sp_parts : List AV → Option Br
  | [.sl (.ints nr .i64 R), .sl (.prs nx .u64 X), .bool bk] => some (.chk (fitR nr R && fitX nx X) (.br (prB R) (.br (prV R != (nx : Int)) (.leaf (.tup [.nils, .int .u8 0, .iface 49 (.int .i64 11)])) (.leaf (.tup [.osl 25 (.prs nx .u64 (parK R X bk nx).2), .int .u8 (parK R X bk nx).1, .nili])))
      (.leaf (.tup [.nils, .int .u8 0, .iface 49 (.int .i64 10)]))))
  | _ => none
def paE (n : Nat) (s : CS) : Option AV := some (.tup [.osl 25 (.prs n .u64 s.2), .int .u8 s.1, .nili])
def paD (n nr : Nat) (R : List Int) (C : List PZ) (bk : Bool) (N : Int) : Option AV := chk (fitG3 n nr R C N (w64 ((nr : Int) - 1))) (paE n (rSk R bk n nr (0, C)))
def paC (n nr nx : Nat) (R : List Int) (X O : List PZ) (I : List Int) (bk : Bool) (N : Int) : Option AV := chk (fitI1 n n nx I (n : Int)) (paD n nr R (iSk I X n O) bk N)
def paB (N : Int) (nr nx : Nat) (R : List Int) (X : List PZ) (bk : Bool) : Option AV :=
  chk (mkOk N) (chk (fitS nr R N nr) (paC N.toNat nr nx R X (List.replicate N.toNat (0, 0)) (ordOk R N N.toNat (List.replicate N.toNat 0)) bk N))
theorem run_parts (nr nx : Nat) (R : List Int) (X : List PZ) (bk : Bool) : callA (env Try.f14.ntmps orcPa [(1, leI1), (3, leG)]) (bodyC Try.f14) Try.f14.results.toList (slots 0 [.sl (.ints nr .i64 R), .sl (.prs nx .u64 X), .bool bk]) some =
    chk (fitR nr R) (bif prB R then (bif prV R != (nx : Int) then some (.tup [.nils, .int .u8 0, .iface 49 (.int .i64 11)]) else paB (prV R) nr nx R X bk) else some (.tup [.nils, .int .u8 0, .iface 49 (.int .i64 10)])) := by kernel_rfl
end
end Go.Proofs.Ytbakldcbaikgpaa

/- mix: Parts keeps its contract. Own work. -/
namespace Go.Proofs.Ytbakldcbaikgpaa
set_option maxRecDepth 100000
noncomputable section

theorem prB_some {R : List Int} (h : prB R = true) : ∃ p, prodL R 1 = some p ∧ prV R = p := by
  unfold prB at h
  rw [stk_eq] at h
  obtain ⟨p, hp⟩ := Option.isSome_iff_exists.1 h
  exact ⟨p, hp, by unfold prV; rw [stk_eq, hp]; rfl⟩
/-- What radices' product is, where it is one. -/
theorem prB_pr {R : List Int} (h : prB R = true) : prV R = (prN R : Nat) ∧ 1 ≤ prN R ∧ prN R ≤ 67108864 ∧ ∀ r ∈ R, canN r = true := by
  obtain ⟨p, hp, h1⟩ := prB_some h
  obtain ⟨h2, h3⟩ := prodL_pr R 1 p hp (by omega)
  obtain ⟨h4, h5⟩ := prodL_le R 1 p hp (by omega) (by omega)
  rw [Int.one_mul] at h2
  rw [h1, h2]
  rw [h2] at h4 h5
  exact ⟨rfl, by omega, by omega, h3⟩
theorem mkOk_mid {n : Nat} (h : n ≤ 67108864) : mkOk (n : Int) = true := by
  unfold mkOk
  rw [beq_self_eq_true, decide_eq_true (show (0 : Int) ≤ n by omega), decide_eq_true (show (16 : Int) * n ≤ 140737488355328 by omega), decide_eq_true (show (n : Int) < 9223372036854775808 by omega)]
  rfl
theorem paB_at {nr n : Nat} {R : List Int} {X : List PZ} (bk : Bool) (hl : R.length = nr) (hnr : nr < 9223372036854775808) (hp : prN R = n) (h1 : 1 ≤ n) (hn : n ≤ 67108864) (hc : ∀ r ∈ R, canN r = true) (hX : okL X = true) :
    paB (n : Int) nr n R X bk = paE n (parR R X bk n) := by
  have hf : fits R (n : Nat) := by rw [← hp]; exact fits_pr R hc
  have e1 : fitS nr R (n : Int) nr = true := by
    unfold fitS
    rw [stk_eq, decide_eq_true ⟨hl, rfl, hnr, hf, by omega, by omega⟩]
  have e2 : ordOk R (n : Int) n (List.replicate n 0) = ordP R n := by unfold ordOk; rw [stk_eq]; rfl
  have e3 : fitI1 n n n (ordP R n) (n : Int) = true := by
    unfold fitI1
    rw [stk_eq, decide_eq_true ⟨ordP_len R n, rfl, rfl, rfl, hn, ordP_mem hf⟩]
  have e4 : iSk (ordP R n) X n (List.replicate n (0, 0)) = iS (ordP R n) X n 0 (List.replicate n (0, 0)) := by unfold iSk; rw [stk_eq]
  have o1 := iS_ok (I := ordP R n) hX n 0 _ (okL_rep n)
  have o2 : (iS (ordP R n) X n 0 (List.replicate n (0, 0))).length = n := (iS_len _ _ _ _ _).trans List.length_replicate
  have e5 : w64 ((nr : Int) - 1) = (nr : Int) - 1 := by unfold w64; rw [IntKind.wrap_i64]; omega
  have e6 : fitG3 n nr R (iS (ordP R n) X n 0 (List.replicate n (0, 0))) (n : Int) ((nr : Int) - 1) = true := by
    unfold fitG3
    rw [stk_eq, decide_eq_true ⟨o2, rfl, hn, hl, hnr, by omega, hp, hc⟩, o1]; rfl
  unfold paB paC paD
  rw [mkOk_mid hn, e1, Int.toNat_natCast, e2, e3, e4, e5, e6]
  unfold rSk parR
  rw [stk_eq, hl]
  rfl
theorem ok_parts : EntOk Try.prog 14 (entB false sp_parts) := by
  refine contractB (orc := orcPa) (lo := [(1, leI1), (3, leG)]) Try.func14 (orc_cons ok_prod (orc_cons ok_order (orc_cons ok_newR (orc_cons ok_blk orc_nil)))) (by kernel_rfl) (by kernel_rfl) (by kernel_rfl)
    (loops_two (id := 1) (id' := 3) (y := .loop (loopOf 1 (bodyC Try.f14))) (y' := .loop (loopOf 3 (bodyC Try.f14))) (by kernel_rfl)
      (loopS (le := leI1) (orc := orcPa) (lo' := []) (orc_cons ok_prod (orc_cons ok_order (orc_cons ok_newR (orc_cons ok_blk orc_nil)))) (by kernel_rfl) rfl (loops_none (by kernel_rfl)) stepI1 (fun R vs k1 k2 r h => ?_) go_I1)
      (loopS (le := leG) (orc := orcPa) (lo' := [(5, leF)]) (orc_cons ok_prod (orc_cons ok_order (orc_cons ok_newR (orc_cons ok_blk orc_nil)))) (by kernel_rfl) rfl
        (loops_one (id := 5) (y := .loop (loopOf 5 (bodyC Try.f14))) (by kernel_rfl)
          (loopS (le := leF) (orc := orcPa) (lo' := []) (orc_cons ok_prod (orc_cons ok_order (orc_cons ok_newR (orc_cons ok_blk orc_nil)))) (by kernel_rfl) rfl (loops_none (by kernel_rfl)) stepF (fun R vs k1 k2 r h => ?_) go_F))
        stepG (fun R vs k1 k2 r h => ?_) go_G)) fun args t h => ?_
  · have h0 := h
    unfold stepI1 at h
    split at h
    · exact (step_I1 R _ _ _ _ _ _ _ _ _ _ _ _ k1 k2).trans h0
    · cases h
  · have h0 := h
    unfold stepF at h
    split at h
    · exact (step_F R _ _ _ _ _ _ _ _ _ _ k1 k2).trans h0
    · cases h
  · have h0 := h
    unfold stepG at h
    split at h
    · exact (step_G R _ _ _ _ _ _ _ _ _ k1 k2).trans h0
    · cases h
  · unfold sp_parts at h
    split at h
    · rename_i nr R nx X bk
      simp only [Option.some.injEq] at h
      subst h
      refine ⟨by kernel_rfl, .inr rfl, fun z hz => (run_parts nr nx R X bk).trans ?_⟩
      simp only [Br.run] at hz
      obtain ⟨hg, hz⟩ := chk_some hz
      rw [Bool.and_eq_true] at hg
      obtain ⟨hR, hX⟩ := hg
      rw [hR]
      unfold fitR at hR
      unfold fitX at hX
      simp only [stk_eq, Bool.and_eq_true, decide_eq_true_eq] at hR hX
      rw [← hz]
      cases hb : prB R with
      | false => rfl
      | true =>
        obtain ⟨h1, h2, h3, h4⟩ := prB_pr hb
        by_cases hn : prN R = nx
        · rw [h1, show (((prN R : Nat) : Int) != (nx : Int)) = false by rw [hn]; simp, hn]
          unfold parK
          rw [stk_eq]
          simp only [chk, cond_true, cond_false]
          exact paB_at bk hR.1 hR.2 hn (by omega) (by omega) h4 hX.2
        · rw [h1, show (((prN R : Nat) : Int) != (nx : Int)) = true by rw [bne_iff_ne]; omega]
          rfl
    · cases h
end
end Go.Proofs.Ytbakldcbaikgpaa
