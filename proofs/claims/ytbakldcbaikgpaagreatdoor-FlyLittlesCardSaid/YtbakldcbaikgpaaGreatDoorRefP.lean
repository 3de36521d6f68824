/- The texts Ref13, Ref14, joined. Own work. -/
import Derived.Test.YtbakldcbaikgpaaGreatDoorRef12
/- tillerref16: Point. Own work. -/
namespace Go.Proofs.YtbakldcbaikgpaaGreatDoor
set_option maxRecDepth 100000
noncomputable section
def stR (m : Bool) (S : AV) : AV := .st [.bool m, .int .i64 (-320), S]
def nmR (m : Bool) (e : Int) (S : AV) : AV := .st [.bool m, .int .i64 e, S]
def orcPo : List (FuncId × Ent) := [(95, entS true sp_pi), (96, entS true sp_dOf), (94, entS true sp_dMul), (93, entS true sp_parts2), (97, entS true sp_sin), (98, entS true sp_cos), (99, entS true sp_shl), (100, entS true sp_shr), (101, entS true sp_dSub)]
theorem orcPo_ok {nt : Nat} {lo : List (Nat × LEnt)} : OrcOk Tryz.prog (env nt orcPo lo) := orc_cons ok_pi (orc_cons ok_dOf (orc_cons ok_dMul (orc_cons ok_parts2 (orc_cons ok_sin (orc_cons ok_cos (orc_cons ok_shl (orc_cons ok_shr (orc_cons ok_dSub orc_nil))))))))
def refsP : List (Nat × Nat × TypeId × AV) := [(4, 4, 107, .dead), (5, 5, 107, .dead), (18, 18, 107, .dead), (19, 19, 107, .dead)]
def vsQ (m : Bool) (e : Int) (S : AV) (m' : Bool) (e' : Int) (S' : AV) : List AV := [nmR false 0 .nils, nmR false 0 .nils, nmR m e S, nmR m' e' S']
def stepQq (R : Type) (vs : List AV) (k1 : List AV → Option R) (k2 : Nat → List AV → Option R) : Option R :=
  match vs with
  | [.st [.bool false, .int .i64 0, .nils], .st [.bool false, .int .i64 0, .nils], .st [.bool m, .int .i64 e, .sl (.ints n .u32 S)], .st [.bool m', .int .i64 e', .sl (.ints n' .u32 S')], .int .i64 q] =>
    bif decide (q > 0) then k1 (vsQ (!m') e' (.sl (.ints n' .u32 S')) m e (.sl (.ints n .u32 S)) ++ [.int .i64 (w64 (q - 1))]) else k2 0 (vsQ m e (.sl (.ints n .u32 S)) m' e' (.sl (.ints n' .u32 S')))
  | [.st [.bool false, .int .i64 0, .nils], .st [.bool false, .int .i64 0, .nils], .st [.bool m, .int .i64 e, .nils], .st [.bool m', .int .i64 e', .sl (.ints n' .u32 S')], .int .i64 q] =>
    bif decide (q > 0) then k1 (vsQ (!m') e' (.sl (.ints n' .u32 S')) m e .nils ++ [.int .i64 (w64 (q - 1))]) else k2 0 (vsQ m e .nils m' e' (.sl (.ints n' .u32 S')))
  | [.st [.bool false, .int .i64 0, .nils], .st [.bool false, .int .i64 0, .nils], .st [.bool m, .int .i64 e, .sl (.ints n .u32 S)], .st [.bool m', .int .i64 e', .nils], .int .i64 q] =>
    bif decide (q > 0) then k1 (vsQ (!m') e' .nils m e (.sl (.ints n .u32 S)) ++ [.int .i64 (w64 (q - 1))]) else k2 0 (vsQ m e (.sl (.ints n .u32 S)) m' e' .nils)
  | _ => none
def fitQ (q : Int) : Bool := stk (decide (0 ≤ q ∧ q ≤ 3))
def turnQ {R : Type} (q : Int) (m : Bool) (e : Int) (S : AV) (m' : Bool) (e' : Int) (S' : AV) (k : List AV → Option R) : Option R :=
  chk (fitQ q) (bif q == 0 then k (vsQ m e S m' e' S') else bif q == 1 then k (vsQ (!m') e' S' m e S) else bif q == 2 then k (vsQ (!m) e S (!m') e' S') else k (vsQ (!!m') e' S' (!m) e S))
def leQq : LEnt :=
  { inn := { fuel := none, keep := [6], refs := refsP }
    out := { fuel := none, keep := [], refs := refsP }
    ret := { fuel := none, keep := [], refs := [] }
    go := fun _ _ vs kk => match vs with
      | [.st [.bool false, .int .i64 0, .nils], .st [.bool false, .int .i64 0, .nils], .st [.bool m, .int .i64 e, .sl (.ints n .u32 S)], .st [.bool m', .int .i64 e', .sl (.ints n' .u32 S')], .int .i64 q] => turnQ q m e (.sl (.ints n .u32 S)) m' e' (.sl (.ints n' .u32 S')) (kk 0)
      | [.st [.bool false, .int .i64 0, .nils], .st [.bool false, .int .i64 0, .nils], .st [.bool m, .int .i64 e, .sl (.ints n .u32 S)], .st [.bool m', .int .i64 e', .nils], .int .i64 q] => turnQ q m e (.sl (.ints n .u32 S)) m' e' .nils (kk 0)
      | _ => none }
theorem step_q1 (R : Type) (m : Bool) (e : Int) (n : Nat) (S : List Int) (m' : Bool) (e' : Int) (n' : Nat) (S' : List Int) (q : Int) (k1 : List AV → Option R) (k2 : Nat → List AV → Option R) :
    runA (env Tryz.f63.ntmps orcPo []) (loopOf 0 (bodyC Tryz.f63)) 0 (stateOf leQq.inn (vsQ m e (.sl (.ints n .u32 S)) m' e' (.sl (.ints n' .u32 S')) ++ [.int .i64 q])) (bodyK leQq 0 k1 k2) =
    stepQq R (vsQ m e (.sl (.ints n .u32 S)) m' e' (.sl (.ints n' .u32 S')) ++ [.int .i64 q]) k1 k2 := by kernel_rfl
theorem step_q2 (R : Type) (m : Bool) (e : Int) (m' : Bool) (e' : Int) (n' : Nat) (S' : List Int) (q : Int) (k1 : List AV → Option R) (k2 : Nat → List AV → Option R) :
    runA (env Tryz.f63.ntmps orcPo []) (loopOf 0 (bodyC Tryz.f63)) 0 (stateOf leQq.inn (vsQ m e .nils m' e' (.sl (.ints n' .u32 S')) ++ [.int .i64 q])) (bodyK leQq 0 k1 k2) =
    stepQq R (vsQ m e .nils m' e' (.sl (.ints n' .u32 S')) ++ [.int .i64 q]) k1 k2 := by kernel_rfl
theorem step_q3 (R : Type) (m : Bool) (e : Int) (n : Nat) (S : List Int) (m' : Bool) (e' : Int) (q : Int) (k1 : List AV → Option R) (k2 : Nat → List AV → Option R) :
    runA (env Tryz.f63.ntmps orcPo []) (loopOf 0 (bodyC Tryz.f63)) 0 (stateOf leQq.inn (vsQ m e (.sl (.ints n .u32 S)) m' e' .nils ++ [.int .i64 q])) (bodyK leQq 0 k1 k2) =
    stepQq R (vsQ m e (.sl (.ints n .u32 S)) m' e' .nils ++ [.int .i64 q]) k1 k2 := by kernel_rfl
/-- What a step does, whatever the parts are. -/
def genQ (R : Type) (m : Bool) (e : Int) (S : AV) (m' : Bool) (e' : Int) (S' : AV) (q : Int) (k1 : List AV → Option R) (k2 : Nat → List AV → Option R) : Option R :=
  bif decide (q > 0) then k1 (vsQ (!m') e' S' m e S ++ [.int .i64 (w64 (q - 1))]) else k2 0 (vsQ m e S m' e' S')
theorem turn_loop (R : Type) (step : List AV → (List AV → Option R) → (Nat → List AV → Option R) → Option R) (ok : AV → AV → Prop) (hsym : ∀ a b, ok a b → ok b a)
    (hs : ∀ m e S m' e' S' q k1 k2, ok S S' → step (vsQ m e S m' e' S' ++ [.int .i64 q]) k1 k2 = genQ R m e S m' e' S' q k1 k2) (m : Bool) (e : Int) (S : AV) (m' : Bool) (e' : Int) (S' : AV) (hok : ok S S') (q : Int) (kk : Nat → List AV → Option R) (r : R) (h : turnQ q m e S m' e' S' (kk 0) = some r) :
    ∃ f, loopN step f (vsQ m e S m' e' S' ++ [.int .i64 q]) kk = some r := by
  have hok2 := hsym _ _ hok
  unfold turnQ at h
  obtain ⟨hq, h⟩ := chk_some h
  unfold fitQ at hq
  rw [stk_eq, decide_eq_true_eq] at hq
  have hq4 : q = 0 ∨ q = 1 ∨ q = 2 ∨ q = 3 := by omega
  have w1 : w64 (1 - 1) = 0 := by decide
  have w2 : w64 (2 - 1) = 1 := by decide
  have w3 : w64 (3 - 1) = 2 := by decide
  refine ⟨5, ?_⟩
  rcases hq4 with rfl | rfl | rfl | rfl
  · rw [loopN, hs _ _ _ _ _ _ _ _ _ hok]; exact h
  · rw [loopN, hs _ _ _ _ _ _ _ _ _ hok]
    show loopN step 4 _ kk = some r
    rw [w1, loopN, hs _ _ _ _ _ _ _ _ _ hok2]; exact h
  · rw [loopN, hs _ _ _ _ _ _ _ _ _ hok]
    show loopN step 4 _ kk = some r
    rw [w2, loopN, hs _ _ _ _ _ _ _ _ _ hok2]
    show loopN step 3 _ kk = some r
    rw [w1, loopN, hs _ _ _ _ _ _ _ _ _ hok]; exact h
  · rw [loopN, hs _ _ _ _ _ _ _ _ _ hok]
    show loopN step 4 _ kk = some r
    rw [w3, loopN, hs _ _ _ _ _ _ _ _ _ hok2]
    show loopN step 3 _ kk = some r
    rw [w2, loopN, hs _ _ _ _ _ _ _ _ _ hok]
    show loopN step 2 _ kk = some r
    rw [w1, loopN, hs _ _ _ _ _ _ _ _ _ hok2]; exact h
def okQ (a b : AV) : Prop := (∃ n S n' S', a = .sl (.ints n .u32 S) ∧ b = .sl (.ints n' .u32 S')) ∨ (a = .nils ∧ ∃ n S, b = .sl (.ints n .u32 S)) ∨ (b = .nils ∧ ∃ n S, a = .sl (.ints n .u32 S))
theorem okQ_symm (a b : AV) (h : okQ a b) : okQ b a := by
  rcases h with ⟨n, S, n', S', h1, h2⟩ | h | h
  · exact .inl ⟨n', S', n, S, h2, h1⟩
  · exact .inr (.inr h)
  · exact .inr (.inl h)
theorem stepQ_gen (R : Type) (m : Bool) (e : Int) (S : AV) (m' : Bool) (e' : Int) (S' : AV) (q : Int) (k1 : List AV → Option R) (k2 : Nat → List AV → Option R) (h : okQ S S') : stepQq R (vsQ m e S m' e' S' ++ [.int .i64 q]) k1 k2 = genQ R m e S m' e' S' q k1 k2 := by
  rcases h with ⟨n, S, n', S', rfl, rfl⟩ | ⟨rfl, n, S, rfl⟩ | ⟨rfl, n, S, rfl⟩ <;> rfl
theorem go_q (R : Type) (n : Nat) (vs : List AV) (kk : Nat → List AV → Option R) (r : R) (h : leQq.go R n vs kk = some r) : ∃ m, loopN (stepQq R) m vs kk = some r := by
  simp only [leQq] at h
  split at h
  · exact turn_loop R (stepQq R) okQ okQ_symm (fun m e S m' e' S' q k1 k2 ho => stepQ_gen R m e S m' e' S' q k1 k2 ho) _ _ _ _ _ _ (.inl ⟨_, _, _, _, rfl, rfl⟩) _ kk r h
  · exact turn_loop R (stepQq R) okQ okQ_symm (fun m e S m' e' S' q k1 k2 ho => stepQ_gen R m e S m' e' S' q k1 k2 ho) _ _ _ _ _ _ (.inr (.inr ⟨rfl, _, _, rfl⟩)) _ kk r h
  · cases h
/-! ### Point -/
def ptT (l : List AV) : Option AV := match l with
  | [_, _, a, b] => some (.tup [a, b])
  | _ => none
def ptN (q : Int) (SN CS : AV) : Option AV := turnQ q false (-320) CS false (-320) SN ptT
def ptM (n q r : Int) (SN CS : AV) : Option AV := bif w64 (3 * r) == w64 (2 * n) then chk (inU 1) (chk (mayS (dgl (1 : Int).toNat) (dg (1 : Int).toNat) 319) (ptN q SN (avD (valD (dg (1 : Int).toNat) * 2 ^ (319 : Int).toNat)))) else ptN q SN CS
def ptL (n q r : Int) (SN CS : AV) : Option AV := bif w64 (3 * r) == n then chk (inU 1) (chk (mayS (dgl (1 : Int).toNat) (dg (1 : Int).toNat) 319) (ptM n q r (avD (valD (dg (1 : Int).toNat) * 2 ^ (319 : Int).toNat)) CS)) else ptM n q r SN CS
def ptK (n q r : Int) (o sn cs : Nat) : Option AV := bif r == 0 then ptL n q r .nils (avD o) else ptL n q r (avD sn) (avD cs)
def ptJ (n q r : Int) (o sn sq : Nat) : Option AV := chk (maySub (dgl o) (dg o) (dgl sq) (dg sq)) (ptK n q r o sn (valD (dg o) - valD (dg sq)))
def ptI2 (n q r : Int) (o sn Q : Nat) : Option AV := chk (mayR (dgl Q) (dg Q) 320) (ptJ n q r o sn (valD (dg Q) / 2 ^ (320 : Int).toNat))
def ptI1 (n q r : Int) (o sn P : Nat) : Option AV := chk (mayS (dgl P) (dg P) 1) (ptI2 n q r o sn (valD (dg P) * 2 ^ (1 : Int).toNat))
def ptI (n q r : Int) (s o sn : Nat) : Option AV := chk (mayMul (dgl s) (dg s) (dgl s) (dg s)) (ptI1 n q r o sn (valD (dg s) * valD (dg s)))
def ptH2 (n q r : Int) (s o Q : Nat) : Option AV := chk (mayR (dgl Q) (dg Q) 320) (ptI n q r s o (valD (dg Q) / 2 ^ (320 : Int).toNat))
def ptH1 (n q r : Int) (s o P : Nat) : Option AV := chk (mayS (dgl P) (dg P) 1) (ptH2 n q r s o (valD (dg P) * 2 ^ (1 : Int).toNat))
def ptG (n q r : Int) (s c o : Nat) : Option AV := chk (mayMul (dgl s) (dg s) (dgl c) (dg c)) (ptH1 n q r s o (valD (dg s) * valD (dg c)))
def ptF (n q r : Int) (s c : Nat) : Option AV := chk (inU 1) (chk (mayS (dgl (1 : Int).toNat) (dg (1 : Int).toNat) 320) (ptG n q r s c (valD (dg (1 : Int).toNat) * 2 ^ (320 : Int).toNat)))
def ptE' (n q r : Int) (U : Nat) : Option AV := chk (maySin (dgl U) (dg U)) (chk (mayCos (dgl U) (dg U)) (ptF n q r ((sinS (valD (dg U))).1 - (sinS (valD (dg U))).2) ((cosS (valD (dg U))).1 - (cosS (valD (dg U))).2)))
def ptD (n q r : Int) (X D : Nat) : Option AV := chk (mayPa (dgl X) (dg X) (dgl D) (dg D)) (ptE' n q r (valD (dg X) / valD (dg D)))
def ptC (n q r : Int) (R : Nat) : Option AV := chk (mayMul (dgl (frV piW)) (dg (frV piW)) (dgl R) (dg R)) (chk (inU (u64 (w64 (4 * n)))) (ptD n q r (valD (dg (frV piW)) * valD (dg R)) (u64 (w64 (4 * n))).toNat))
def ptB (n q r : Int) : Option AV := chk (inU (u64 r)) (ptC n q r (u64 r).toNat)
theorem run_point (k n : Int) : callA (env Tryz.f63.ntmps orcPo [(0, leQq)]) (bodyC Tryz.f63) Tryz.f63.results.toList (slots 0 [.int .i64 k, .int .i64 n]) some =
    chk (!(n == 0)) (chk (!(n == 0)) (ptB n (w64 ((w64 (4 * k)).tdiv n)) ((w64 (4 * k)).tmod n))) := by kernel_rfl
/-! ### Plain -/
def H319 : Nat := 2 ^ (319 : Int).toNat
def poR (k n : Nat) : Nat := 4 * k % n
def poU (k n : Nat) : Nat := frV piW * poR k n / (4 * n)
def poS (U : Nat) : Nat := (sinS U).1 - (sinS U).2
def poC (U : Nat) : Nat := (cosS U).1 - (cosS U).2
def poSn (U : Nat) : Nat := poS U * poC U * 2 ^ (1 : Int).toNat / W320
def poSq (U : Nat) : Nat := poS U * poS U * 2 ^ (1 : Int).toNat / W320
def poSN (k n : Nat) : Nat := if 3 * poR k n = n then H319 else if poR k n = 0 then 0 else poSn (poU k n)
def poCS (k n : Nat) : Nat := if 3 * poR k n = 2 * n then H319 else if poR k n = 0 then W320 else W320 - poSq (poU k n)
def poSNa (k n : Nat) : AV := if 3 * poR k n = n then avD H319 else if poR k n = 0 then .nils else avD (poSn (poU k n))
def okPU (U : Nat) : Bool := decide (U ≤ W320) && decide ((sinS U).2 ≤ (sinS U).1) && decide ((cosS U).2 ≤ (cosS U).1) && decide (poSq U ≤ W320)
def okPo (k n : Nat) : Bool := decide (k < n) && decide (n ≤ 10000) && okPU (poU k n)
def okPt (k n : Int) : Bool := stk (decide (0 ≤ k ∧ 0 ≤ n) && okPo k.toNat n.toNat)
def poA (k n : Nat) : AV :=
  if 4 * k / n = 0 then .tup [stR false (avD (poCS k n)), stR false (poSNa k n)] else if 4 * k / n = 1 then .tup [stR true (poSNa k n), stR false (avD (poCS k n))]
  else if 4 * k / n = 2 then .tup [stR true (avD (poCS k n)), stR true (poSNa k n)] else .tup [stR false (poSNa k n), stR true (avD (poCS k n))]
def sp_po0 : List AV → Option (Bool × AV)
  | [.int .i64 k, .int .i64 n] => some (okPt k n, poA k.toNat n.toNat)
  | _ => none
theorem len_piW : lenN (frV piW) ≤ 402 := by
  have h : frV piW ≤ 4 * W320 := by decide +kernel
  have hk : ∀ k, 322 < k → 4 * W320 < 2 ^ k := fun k hk => by
    unfold W320
    rw [show (4 : Nat) = 2 ^ 2 from rfl, ← Nat.pow_add]
    exact Nat.pow_lt_pow_right (by decide) (show 2 + (320 : Int).toNat < k from hk)
  exact lenN_mo h (lenN_le.2 (hk 402 (by decide)))
theorem dg_one {d : Nat} (h0 : 0 < d) (h : d < 65536) : dg d = [(d : Int)] ∧ dgl d = 1 := by
  unfold dgl dg
  rw [stk_eq, stk_eq, digN_pos (by omega), Nat.div_eq_of_lt h, Nat.mod_eq_of_lt h, digN_zero]
  exact ⟨rfl, rfl⟩
theorem lenN_mu {a b k l : Nat} (ha : lenN a ≤ k) (hb : lenN b ≤ l) : lenN (a * b) ≤ k + l := by
  rw [lenN_le, Nat.pow_add]
  exact Nat.mul_lt_mul'' (lenN_le.1 ha) (lenN_le.1 hb)
theorem sinS_len {U : Nat} (h : U ≤ W320) : lenN (poS U) ≤ 500 ∧ lenN (poC U) ≤ 500 := by
  obtain ⟨a, _⟩ := seN_len (S := U * U / W320) (sq_le h) 100 0 U 2 0 0 (len_W h) (by decide) (by decide)
  obtain ⟨b, _⟩ := seN_len (S := U * U / W320) (sq_le h) 100 0 W320 1 0 0 (len_W (Nat.le_refl _)) (by decide) (by decide)
  exact ⟨lenN_mo (Nat.sub_le _ _) a, lenN_mo (Nat.sub_le _ _) b⟩
theorem ptN_run {q : Nat} {SN CS : AV} (hq : q < 4) : ptN (q : Int) SN CS = some (if q = 0 then .tup [stR false CS, stR false SN] else if q = 1 then .tup [stR true SN, stR false CS] else if q = 2 then .tup [stR true CS, stR true SN] else .tup [stR false SN, stR true CS]) := by
  have hf : fitQ (q : Int) = true := by unfold fitQ; rw [stk_eq, decide_eq_true (by omega)]
  unfold ptN turnQ
  rw [hf]
  have : q = 0 ∨ q = 1 ∨ q = 2 ∨ q = 3 := by omega
  rcases this with rfl | rfl | rfl | rfl <;> rfl
theorem ptL_run {n q r : Nat} {SN CS : AV} (hn : n ≤ 10000) (hr : r < n) : ptL (n : Int) (q : Int) (r : Int) SN CS = ptN (q : Int) (if 3 * r = n then avD H319 else SN) (if 3 * r = 2 * n then avD H319 else CS) := by
  have e0 : w64 (3 * (r : Int)) = ((3 * r : Nat) : Int) := by rw [w64_mid (by omega) (by omega)]; omega
  have e1 : w64 (2 * (n : Int)) = ((2 * n : Nat) : Int) := by rw [w64_mid (by omega) (by omega)]; omega
  have e2 : inU 1 = true := inU_nat (n := 1) (by decide)
  have e3 : mayS (dgl (1 : Int).toNat) (dg (1 : Int).toNat) 319 = true := mayS_dg (by decide) (by decide) (by decide)
  have e4 : valD (dg (1 : Int).toNat) * 2 ^ (319 : Int).toNat = H319 := by unfold H319; rw [val_dg, show (1 : Int).toNat = 1 from rfl, Nat.one_mul]
  have b1 : (((3 * r : Nat) : Int) == (n : Int)) = decide (3 * r = n) := by
    by_cases h : 3 * r = n
    · rw [decide_eq_true h, beq_iff_eq.2 (by omega)]
    · rw [decide_eq_false h, beq_eq_false_iff_ne.2 (by omega)]
  have b2 : (((3 * r : Nat) : Int) == ((2 * n : Nat) : Int)) = decide (3 * r = 2 * n) := by
    by_cases h : 3 * r = 2 * n
    · rw [decide_eq_true h, beq_iff_eq.2 (by omega)]
    · rw [decide_eq_false h, beq_eq_false_iff_ne.2 (by omega)]
  have hM : ∀ SN, ptM (n : Int) (q : Int) (r : Int) SN CS = ptN (q : Int) SN (if 3 * r = 2 * n then avD H319 else CS) := by
    intro SN
    unfold ptM
    rw [e0, e1, b2, e2, e3, e4]
    by_cases h : 3 * r = 2 * n
    · rw [decide_eq_true h, if_pos h]; rfl
    · rw [decide_eq_false h, if_neg h]; rfl
  unfold ptL
  rw [e0, b1, e2, e3, e4, hM, hM]
  by_cases h : 3 * r = n
  · rw [decide_eq_true h, if_pos h]; rfl
  · rw [decide_eq_false h, if_neg h]; rfl
theorem ok_po0 : EntOk Tryz.prog 63 (entS true sp_po0) := by
  refine contractS (orc := orcPo) (lo := [(0, leQq)]) Tryz.func63 orcPo_ok (by kernel_rfl) (by kernel_rfl) (by kernel_rfl)
    (loops_one (id := 0) (y := .loop (loopOf 0 (bodyC Tryz.f63))) (by kernel_rfl)
      (loopS (le := leQq) (orc := orcPo) (lo' := []) orcPo_ok (by kernel_rfl) rfl (loops_none (by kernel_rfl)) stepQq (fun R vs k1 k2 r h => ?_) go_q)) fun args r h => ?_
  · have h0 := h
    unfold stepQq at h
    split at h
    · exact (step_q1 R _ _ _ _ _ _ _ _ _ k1 k2).trans h0
    · exact (step_q2 R _ _ _ _ _ _ _ k1 k2).trans h0
    · exact (step_q3 R _ _ _ _ _ _ _ k1 k2).trans h0
    · cases h
  · unfold sp_po0 at h
    split at h
    · rename_i k n
      simp only [Option.some.injEq, Prod.mk.injEq] at h
      obtain ⟨hg, rfl⟩ := h
      unfold okPt at hg
      rw [stk_eq, Bool.and_eq_true, decide_eq_true_eq] at hg
      obtain ⟨⟨k0, n0⟩, hg⟩ := hg
      obtain ⟨k, rfl⟩ : ∃ m : Nat, k = m := ⟨k.toNat, (Int.toNat_of_nonneg k0).symm⟩
      obtain ⟨n, rfl⟩ : ∃ m : Nat, n = m := ⟨n.toNat, (Int.toNat_of_nonneg n0).symm⟩
      rw [Int.toNat_natCast, Int.toNat_natCast] at hg ⊢
      unfold okPo okPU at hg
      simp only [Bool.and_eq_true, decide_eq_true_eq] at hg
      obtain ⟨⟨g1, g2⟩, ⟨⟨u1, u2⟩, u3⟩, u4⟩ := hg
      refine ⟨by kernel_rfl, .inl rfl, (run_point k n).trans ?_⟩
      have hq : 4 * k / n < 4 := by rw [Nat.div_lt_iff_lt_mul (by omega)]; omega
      have hr : 4 * k % n < n := Nat.mod_lt _ (by omega)
      have e0 : (!((n : Int) == 0)) = true := by rw [beq_eq_false_iff_ne.2 (by omega)]; rfl
      have e1 : w64 (4 * (k : Int)) = ((4 * k : Nat) : Int) := by rw [w64_mid (by omega) (by omega)]; omega
      have e2 : w64 (((4 * k : Nat) : Int).tdiv (n : Int)) = ((4 * k / n : Nat) : Int) := by rw [tdivN]; generalize 4 * k / n = t at *; exact w64_mid (by omega) (by omega)
      have e3 : ((4 * k : Nat) : Int).tmod (n : Int) = ((4 * k % n : Nat) : Int) := tmodN _ _
      have e4 : u64 ((4 * k % n : Nat) : Int) = ((4 * k % n : Nat) : Int) := u64_nat (by omega)
      have e5 : inU ((4 * k % n : Nat) : Int) = true := inU_nat (by omega)
      rw [e0, e1, e2, e3]
      simp only [chk, cond_true]
      have hP := len_piW
      have hRl : lenN (4 * k % n) ≤ 16 := lenN_le.2 (by omega)
      have e6 : w64 (4 * (n : Int)) = ((4 * n : Nat) : Int) := by rw [w64_mid (by omega) (by omega)]; omega
      have e7 : u64 ((4 * n : Nat) : Int) = ((4 * n : Nat) : Int) := u64_nat (by omega)
      have e8 : inU ((4 * n : Nat) : Int) = true := inU_nat (by omega)
      unfold ptB
      rw [e4, e5, Int.toNat_natCast]
      simp only [chk, cond_true]
      unfold ptC
      rw [mayMul_dg (by omega) (by omega), e6, e7, e8, Int.toNat_natCast, val_dg, val_dg]
      simp only [chk, cond_true]
      obtain ⟨d1, d2⟩ := dg_one (d := 4 * n) (by omega) (by omega)
      have hXl : lenN (frV piW * (4 * k % n)) ≤ 418 := lenN_mu hP hRl
      have e9 : mayPa (dgl (frV piW * (4 * k % n))) (dg (frV piW * (4 * k % n))) (dgl (4 * n)) (dg (4 * n)) = true := by
        have := dg_le (v := frV piW * (4 * k % n)) (k := 1000) (by omega)
        unfold mayPa
        rw [stk_eq, dg_ok, dg_ok, val_dg, decide_eq_true ⟨dg_len _, d2, by rw [d1]; rfl, by omega, by omega⟩]; rfl
      unfold ptD
      rw [e9, val_dg, val_dg]
      have eU : frV piW * (4 * k % n) / (4 * n) = poU k n := rfl
      rw [eU]
      have hUl := len_W u1
      obtain ⟨s1, s2⟩ := sinS_len u1
      have e10 : maySin (dgl (poU k n)) (dg (poU k n)) = true := by
        unfold maySin
        rw [stk_eq, val_dg, decide_eq_true ⟨u1, u2⟩, mayD_dg (by omega)]; rfl
      have e11 : mayCos (dgl (poU k n)) (dg (poU k n)) = true := by
        unfold mayCos
        rw [stk_eq, val_dg, decide_eq_true ⟨u1, u3⟩, mayD_dg (by omega)]; rfl
      simp only [chk, cond_true]
      unfold ptE'
      rw [e10, e11, val_dg]
      show ptF (n : Int) ((4 * k / n : Nat) : Int) ((4 * k % n : Nat) : Int) (poS (poU k n)) (poC (poU k n)) = _
      have e12 : inU 1 = true := inU_nat (n := 1) (by decide)
      have e13 : mayS (dgl (1 : Int).toNat) (dg (1 : Int).toNat) 320 = true := mayS_dg (by decide) (by decide) (by decide)
      have e14 : valD (dg (1 : Int).toNat) * 2 ^ (320 : Int).toNat = W320 := by unfold W320; rw [val_dg, show (1 : Int).toNat = 1 from rfl, Nat.one_mul]
      unfold ptF
      rw [e12, e13, e14]
      show ptG (n : Int) ((4 * k / n : Nat) : Int) ((4 * k % n : Nat) : Int) (poS (poU k n)) (poC (poU k n)) W320 = _
      have l2 : lenN (2 ^ (1 : Int).toNat) ≤ 2 := by decide
      unfold ptG
      rw [mayMul_dg (by omega) (by omega), val_dg, val_dg]
      show ptH1 (n : Int) ((4 * k / n : Nat) : Int) ((4 * k % n : Nat) : Int) (poS (poU k n)) W320 (poS (poU k n) * poC (poU k n)) = _
      have m1 := lenN_mu s1 s2
      have m2 := lenN_mu s1 s1
      unfold ptH1
      rw [mayS_dg (by omega) (by decide) (by decide), val_dg]
      show ptH2 (n : Int) ((4 * k / n : Nat) : Int) ((4 * k % n : Nat) : Int) (poS (poU k n)) W320 (poS (poU k n) * poC (poU k n) * 2 ^ (1 : Int).toNat) = _
      have m3 := lenN_mu m1 l2
      have m4 := lenN_mu m2 l2
      unfold ptH2
      rw [mayR_dg (by omega) (by decide) (by decide), val_dg]
      show ptI (n : Int) ((4 * k / n : Nat) : Int) ((4 * k % n : Nat) : Int) (poS (poU k n)) W320 (poSn (poU k n)) = _
      unfold ptI
      rw [mayMul_dg (by omega) (by omega), val_dg]
      show ptI1 (n : Int) ((4 * k / n : Nat) : Int) ((4 * k % n : Nat) : Int) W320 (poSn (poU k n)) (poS (poU k n) * poS (poU k n)) = _
      unfold ptI1
      rw [mayS_dg (by omega) (by decide) (by decide), val_dg]
      show ptI2 (n : Int) ((4 * k / n : Nat) : Int) ((4 * k % n : Nat) : Int) W320 (poSn (poU k n)) (poS (poU k n) * poS (poU k n) * 2 ^ (1 : Int).toNat) = _
      unfold ptI2
      rw [mayR_dg (by omega) (by decide) (by decide), val_dg]
      show ptJ (n : Int) ((4 * k / n : Nat) : Int) ((4 * k % n : Nat) : Int) W320 (poSn (poU k n)) (poSq (poU k n)) = _
      have lW := len_W (Nat.le_refl W320)
      unfold ptJ
      rw [maySub_dg (by omega) u4, val_dg, val_dg]
      show ptK (n : Int) ((4 * k / n : Nat) : Int) ((4 * k % n : Nat) : Int) W320 (poSn (poU k n)) (W320 - poSq (poU k n)) = _
      unfold ptK poA poSNa poCS poR
      by_cases h0 : 4 * k % n = 0
      · rw [h0, if_pos rfl, if_pos rfl]
        show ptL (n : Int) ((4 * k / n : Nat) : Int) ((0 : Nat) : Int) .nils (avD W320) = _
        rw [ptL_run g2 (by omega), ptN_run hq]
        congr 1
        rw [apply_ite avD]
      · have hb : (((4 * k % n : Nat) : Int) == 0) = false := beq_eq_false_iff_ne.2 (by omega)
        rw [hb, if_neg h0, if_neg h0]
        show ptL (n : Int) ((4 * k / n : Nat) : Int) ((4 * k % n : Nat) : Int) (avD (poSn (poU k n))) (avD (W320 - poSq (poU k n))) = _
        rw [ptL_run g2 hr, ptN_run hq]
        congr 1
        rw [apply_ite avD]
    · cases h
end
end Go.Proofs.YtbakldcbaikgpaaGreatDoor
/- tillerref16: round, Root; tillerref18: Points. Own work. -/
namespace Go.Proofs.YtbakldcbaikgpaaGreatDoor
set_option maxRecDepth 100000
noncomputable section
/-! ### Two structs as an answer: nil as no digits -/
def wkP (r r' : AV) : Prop := ∃ ps ps' qs qs', wkL ps ps' ∧ wkL qs qs' ∧ r = .tup [.st ps, .st qs] ∧ r' = .tup [.st ps', .st qs']
theorem rr_wkP {A : Nat → Prop} {w : World} {r r' : AV} {v : Value} {bs : List Nat} (h : wkP r r') (hv : RR A w r v bs) : RR A w r' v bs := by
  obtain ⟨ps, ps', qs, qs', hp, hq, rfl, rfl⟩ := h
  simp only [RR, Rs, R1, VR] at hv ⊢
  obtain ⟨vs, ⟨v1, vs1, b1, b2, ⟨⟨c1, k1, k2⟩, k3⟩, ⟨v2, vs2, b3, b4, ⟨⟨c2, m1, m2⟩, m3⟩, m4⟩, h3⟩, h5⟩ := hv
  exact ⟨vs, ⟨v1, vs1, b1, b2, ⟨⟨c1, crs_wk _ _ _ hp k1, k2⟩, k3⟩, ⟨v2, vs2, b3, b4, ⟨⟨c2, crs_wk _ _ _ hq m1, m2⟩, m3⟩, m4⟩, h3⟩, h5⟩
theorem ent_wkP {P : Program} {f : FuncId} {en en' : Ent} (h : EntOk P f en) (hl : EntLaw en') (hf : en'.frz = en.frz) (hg : ∀ n args r', en'.go AV n args some = some r' → ∃ r, en.go AV n args some = some r ∧ wkP r r') (hw : en.wr = false := by rfl) (hw' : en'.wr = false := by rfl) : EntOk P f en' := by
  refine ⟨hl, fun _ n args r' hr A w vs hA hv hG => ?_, fun hc => by rw [hw'] at hc; cases hc⟩
  obtain ⟨r, h1, h2⟩ := hg n args r' hr
  have hi := h.ok hw n args r h1 A w vs hA hv hG
  unfold Inv at hi ⊢
  rw [hf]
  split at hi
  · obtain ⟨q1, Ar, bs, q2, q3, q4, q5⟩ := hi
    exact ⟨q1, Ar, bs, q2, q3, q4, rr_wkP h2 q5⟩
  · refine hi.mono ?_
    rintro e w' ⟨x, rfl, q1, Ar, bs, q2, q3, q4, q5⟩
    exact ⟨x, rfl, q1, Ar, bs, q2, q3, q4, rr_wkP h2 q5⟩
  · exact hi
def pm1 (k n : Nat) : Bool := stk (decide (4 * k / n = 1 ∨ 4 * k / n = 2))
def pm2 (k n : Nat) : Bool := stk (decide (¬ 4 * k / n = 0 ∧ ¬ 4 * k / n = 1))
def px1 (k n : Nat) : Nat := stk (if 4 * k / n = 0 ∨ 4 * k / n = 2 then poCS k n else poSN k n)
def px2 (k n : Nat) : Nat := stk (if 4 * k / n = 0 ∨ 4 * k / n = 2 then poSN k n else poCS k n)
def sp_po : List AV → Option (Bool × AV)
  | [.int .i64 k, .int .i64 n] => some (okPt k n, .tup [.st [.bool (pm1 k.toNat n.toNat), .int .i64 (-320), avD (px1 k.toNat n.toNat)], .st [.bool (pm2 k.toNat n.toNat), .int .i64 (-320), avD (px2 k.toNat n.toNat)]])
  | _ => none
theorem wk_SN (k n : Nat) : wkV (poSNa k n) (avD (poSN k n)) := by
  unfold poSNa poSN
  by_cases h : 3 * poR k n = n
  · rw [if_pos h, if_pos h]; exact .inl rfl
  · rw [if_neg h, if_neg h]
    by_cases h0 : poR k n = 0
    · rw [if_pos h0, if_pos h0]
      refine .inr ⟨rfl, .u32, ?_⟩
      unfold avD
      rw [dg_nil.1, dg_nil.2]
    · rw [if_neg h0, if_neg h0]; exact .inl rfl
theorem wkL_R {m : Bool} {S S' : AV} (h : wkV S S') : wkL [.bool m, .int .i64 (-320), S] [.bool m, .int .i64 (-320), S'] := And.intro (.inl rfl) (And.intro (.inl rfl) (And.intro h trivial))
theorem ok_po : EntOk Tryz.prog 63 (entS true sp_po) := by
  refine ent_wkP ok_po0 (entS_law _ _) rfl fun _ args r' h9 => ?_
  have h := entS_some h9
  clear h9
  unfold sp_po at h
  split at h
  · rename_i k n
    simp only [Option.some.injEq, Prod.mk.injEq] at h
    obtain ⟨hg, rfl⟩ := h
    refine ⟨poA k.toNat n.toNat, ?_, ?_⟩
    · simp only [entS, sp_po0, hg]
      rfl
    · have hS := wk_SN k.toNat n.toNat
      have hC : wkV (avD (poCS k.toNat n.toNat)) (avD (poCS k.toNat n.toNat)) := .inl rfl
      unfold poA pm1 pm2 px1 px2
      rw [stk_eq, stk_eq, stk_eq, stk_eq]
      generalize 4 * k.toNat / n.toNat = q at *
      unfold stR
      by_cases h0 : q = 0
      · rw [if_pos h0, if_pos (.inl h0), if_pos (.inl h0), decide_eq_false (by omega), decide_eq_false (by omega)]
        exact ⟨_, _, _, _, wkL_R hC, wkL_R hS, rfl, rfl⟩
      · rw [if_neg h0]
        by_cases h1 : q = 1
        · rw [if_pos h1, if_neg (by omega), if_neg (by omega), decide_eq_true (by omega), decide_eq_false (by omega)]
          exact ⟨_, _, _, _, wkL_R hS, wkL_R hC, rfl, rfl⟩
        · rw [if_neg h1]
          by_cases h2 : q = 2
          · rw [if_pos h2, if_pos (.inr h2), if_pos (.inr h2), decide_eq_true (by omega), decide_eq_true (by omega)]
            exact ⟨_, _, _, _, wkL_R hC, wkL_R hS, rfl, rfl⟩
          · rw [if_neg h2, if_neg (by omega), if_neg (by omega), decide_eq_false (by omega), decide_eq_true (by omega)]
            exact ⟨_, _, _, _, wkL_R hS, wkL_R hC, rfl, rfl⟩
  · cases h
/-! ### round -/
def rn16 (m : Bool) (V : Nat) : Int := ((if V = 0 then 0 else rndP m V (-320) 0 : Nat) : Int)
def rn16k (m : Bool) (V : Nat) : Int := stk (rn16 m V)
def mayN (n : Nat) (l : List Int) : Bool := stk (decide (lenN (valD l) ≤ 9000)) && mayD n l
def sp_rn : List AV → Option (Bool × AV)
  | [.st [.bool m, .int .i64 (-320), .sl (.ints n .u32 l)]] => some (mayN n l, .int .u64 (rn16k m (valD l)))
  | _ => none
theorem run_rn (m : Bool) (n : Nat) (l : List Int) : callA (env Tryz.f64.ntmps [(83, entS true sp_round4)] []) (bodyC Tryz.f64) Tryz.f64.results.toList (slots 0 [.st [.bool m, .int .i64 (-320), .sl (.ints n .u32 l)]]) some =
    bif (n : Int) == 0 then some (.int .u64 0) else chk (mayZ (-320) n l) (some (.int .u64 ((zP m (-320) l 0 : Nat) : Int))) := by kernel_rfl
theorem ok_rn : EntOk Tryz.prog 64 (entS true sp_rn) := by
  refine contractS (orc := [(83, entS true sp_round4)]) (lo := []) Tryz.func64 (orc_cons ok_round4 orc_nil) (by kernel_rfl) (by kernel_rfl) (by kernel_rfl) (loops_none (by kernel_rfl)) fun args r h => ?_
  unfold sp_rn at h
  split at h
  · rename_i m n l
    simp only [Option.some.injEq, Prod.mk.injEq] at h
    obtain ⟨hg, rfl⟩ := h
    unfold mayN at hg
    rw [Bool.and_eq_true, stk_eq, decide_eq_true_eq] at hg
    obtain ⟨h1, h2⟩ := hg
    obtain ⟨d1, d2⟩ := mayD_split h2
    refine ⟨by kernel_rfl, .inl rfl, (run_rn m n l).trans ?_⟩
    have hz : ((n : Int) == 0) = decide (valD l = 0) := by
      have := @dgl_pos (valD l)
      rw [← d1] at this
      by_cases h0 : valD l = 0
      · rw [decide_eq_true h0] at this ⊢
        have h3 := of_decide_eq_false this
        exact beq_iff_eq.2 (by omega)
      · rw [decide_eq_false h0] at this ⊢
        have h3 := of_decide_eq_true this
        exact beq_eq_false_iff_ne.2 (by omega)
    rw [hz, mayZ_iff.2 ⟨h2, h1, by decide, by decide⟩]
    unfold rn16k rn16 zP
    rw [stk_eq, stk_eq]
    by_cases h0 : valD l = 0
    · rw [decide_eq_true h0, if_pos h0]; rfl
    · rw [decide_eq_false h0, if_neg h0]; rfl
  · cases h
/-! ### Root -/
def r16A (k n : Nat) : Int := rn16 (pm1 k n) (px1 k n)
def r16B (k n : Nat) : Int := rn16 (pm2 k n) (px2 k n)
def okRt (k n : Int) : Bool := okPt k n && stk (decide (0 < n ∧ k < n))
def sp_rt : List AV → Option (Bool × AV)
  | [.int .i64 k, .int .i64 n] => some (okRt k n, .tup [.int .u64 (stk (r16A k.toNat n.toNat)), .int .u64 (stk (r16B k.toNat n.toNat)), .int .i64 0])
  | _ => none
def orcRt : List (FuncId × Ent) := [(63, entS true sp_po), (64, entS true sp_rn)]
def rtZ (k n : Int) : Option AV := chk (okPt k n) (chk (mayN (dgl (px1 k.toNat n.toNat)) (dg (px1 k.toNat n.toNat))) (chk (mayN (dgl (px2 k.toNat n.toNat)) (dg (px2 k.toNat n.toNat)))
  (some (.tup [.int .u64 (rn16k (pm1 k.toNat n.toNat) (valD (dg (px1 k.toNat n.toNat)))), .int .u64 (rn16k (pm2 k.toNat n.toNat) (valD (dg (px2 k.toNat n.toNat)))), .int .i64 0]))))
def rtY (k n : Int) : Option AV := bif decide (k < 0) then rtZ (w64 (k + n)) n else rtZ k n
theorem run_rt (k n : Int) : callA (env Tryz.f41.ntmps orcRt []) (bodyC Tryz.f41) Tryz.f41.results.toList (slots 0 [.int .i64 k, .int .i64 n]) some =
    bif decide (n < 1) then some (.tup [.int .u64 0, .int .u64 0, .int .i64 1]) else bif decide (n > 67108864) then some (.tup [.int .u64 0, .int .u64 0, .int .i64 1]) else chk (!(n == 0)) (rtY (k.tmod n) n) := by kernel_rfl
theorem px_len {k n : Nat} (h : poU k n ≤ W320) : lenN (px1 k n) ≤ 9000 ∧ lenN (px2 k n) ≤ 9000 := by
  obtain ⟨s1, s2⟩ := sinS_len h
  have lW := len_W (Nat.le_refl W320)
  have l2 : lenN (2 ^ (1 : Int).toNat) ≤ 2 := by decide
  have lH : lenN H319 ≤ 402 := by
    have hk : ∀ k, 319 < k → H319 < 2 ^ k := fun k hk => Nat.pow_lt_pow_right (by decide) (show (319 : Int).toNat < k from hk)
    exact lenN_le.2 (hk 402 (by decide))
  have lS : lenN (poSN k n) ≤ 9000 := by
    unfold poSN
    split
    · omega
    · split
      · decide
      · unfold poSn
        exact lenN_mo (Nat.div_le_self _ _) (by have := lenN_mu (lenN_mu s1 s2) l2; omega)
  have lC : lenN (poCS k n) ≤ 9000 := by
    unfold poCS
    split
    · omega
    · split
      · omega
      · exact lenN_mo (Nat.sub_le _ _) (by omega)
  unfold px1 px2
  rw [stk_eq, stk_eq]
  constructor <;> split <;> assumption
theorem ok_rt : EntOk Tryz.prog 41 (entS true sp_rt) := by
  refine contractS (orc := orcRt) (lo := []) Tryz.func41 (orc_cons ok_po (orc_cons ok_rn orc_nil)) (by kernel_rfl) (by kernel_rfl) (by kernel_rfl) (loops_none (by kernel_rfl)) fun args r h => ?_
  unfold sp_rt at h
  split at h
  · rename_i k n
    simp only [Option.some.injEq, Prod.mk.injEq] at h
    obtain ⟨hg, rfl⟩ := h
    unfold okRt at hg
    rw [Bool.and_eq_true, stk_eq, decide_eq_true_eq] at hg
    obtain ⟨hP, hn, hk⟩ := hg
    have hP' := hP
    unfold okPt at hP'
    rw [stk_eq, Bool.and_eq_true, decide_eq_true_eq] at hP'
    obtain ⟨⟨k0, n0⟩, hP'⟩ := hP'
    unfold okPo okPU at hP'
    simp only [Bool.and_eq_true, decide_eq_true_eq] at hP'
    obtain ⟨⟨g1, g2⟩, ⟨⟨u1, u2⟩, u3⟩, u4⟩ := hP'
    obtain ⟨l1, l2⟩ := px_len u1
    refine ⟨by kernel_rfl, .inl rfl, (run_rt k n).trans ?_⟩
    have e0 : (!(n == 0)) = true := by rw [beq_eq_false_iff_ne.2 (by omega)]; rfl
    have e1 : k.tmod n = k := Int.tmod_eq_of_lt k0 hk
    have mN : ∀ v, lenN v ≤ 9000 → mayN (dgl v) (dg v) = true := fun v hv => by
      unfold mayN
      rw [stk_eq, val_dg, decide_eq_true hv, mayD_dg (by omega)]; rfl
    rw [decide_eq_false (by omega), decide_eq_false (by omega), e0, e1]
    simp only [chk, cond_true, cond_false]
    unfold rtY
    rw [decide_eq_false (by omega)]
    show rtZ k n = _
    unfold rtZ
    rw [hP, mN _ l1, mN _ l2, val_dg, val_dg]
    unfold rn16k
    rw [stk_eq, stk_eq, stk_eq, stk_eq]
    rfl
  · cases h
/-! ### Points -/
def pzR (k n : Nat) : PZ := (r16A k n, r16B k n)
def okRs (n : Nat) : Bool := (List.range n).all fun k => okPo k n
def ptsF (n : Nat) : Nat → List PZ
  | 0 => []
  | q + 1 => ptsF n q ++ [pzR q n]
def ptsK (n : Int) : List PZ := stk (ptsF n.toNat n.toNat)
def stepPs (R : Type) (vs : List AV) (k1 : List AV → Option R) (k2 : Nat → List AV → Option R) : Option R :=
  match vs with
  | [.prs p .u64 L, .int .i64 n, .int .i64 i] =>
    bif decide (i < n) then chk (okRt i n) (chk (Nat.ble ((p + 1) * 16) 140737488355328) (k1 [.prs (p + 1) .u64 (L ++ [(stk (r16A i.toNat n.toNat), stk (r16B i.toNat n.toNat))]), .int .i64 n, .int .i64 (w64 (i + 1))]))
    else k2 0 [.prs p .u64 L]
  | _ => none
def fitPs (n : Int) : Bool := stk (decide (0 < n ∧ n ≤ 10000) && okRs n.toNat)
def lePs : LEnt :=
  { inn := { fuel := none, keep := [0, 4], refs := [(3, 3, 55, .prs 0 .u64 [])] }
    out := { fuel := none, keep := [], refs := [(3, 3, 55, .prs 0 .u64 [])] }
    ret := { fuel := none, keep := [], refs := [] }
    go := fun _ _ vs kk => match vs with
      | [.prs 0 .u64 [], .int .i64 n, .int .i64 0] => chk (fitPs n) (kk 0 [.prs n.toNat .u64 (ptsK n)])
      | _ => none }
theorem step_ps (R : Type) (p : Nat) (L : List PZ) (n i : Int) (k1 : List AV → Option R) (k2 : Nat → List AV → Option R) :
    runA (env Tryz.f20.ntmps [(41, entS true sp_rt)] []) (loopOf 0 (bodyC Tryz.f20)) 0 (stateOf lePs.inn [.prs p .u64 L, .int .i64 n, .int .i64 i]) (bodyK lePs 0 k1 k2) =
    stepPs R [.prs p .u64 L, .int .i64 n, .int .i64 i] k1 k2 := by kernel_rfl
theorem ps_loop (R : Type) {n : Nat} (hn : n ≤ 10000) (hr : okRs n = true) (kk : Nat → List AV → Option R) : ∀ (q i : Nat), i + q = n →
    loopN (stepPs R) (q + 1) [.prs i .u64 (ptsF n i), .int .i64 (n : Int), .int .i64 (i : Int)] kk = kk 0 [.prs n .u64 (ptsF n n)]
  | 0, i, hi => by
    have hi : i = n := by omega
    subst hi
    rw [loopN]
    simp only [stepPs]
    rw [decide_eq_false (show ¬ (i : Int) < (i : Int) by omega)]
    rfl
  | q + 1, i, hi => by
    have ho : okRt (i : Int) (n : Int) = true := by
      have h1 := List.all_eq_true.1 hr i (List.mem_range.2 (by omega))
      unfold okRt okPt
      rw [stk_eq, stk_eq, Int.toNat_natCast, Int.toNat_natCast, h1, decide_eq_true (show (0 : Int) ≤ i ∧ (0 : Int) ≤ n by omega), decide_eq_true (show (0 : Int) < n ∧ (i : Int) < n by omega)]; rfl
    have e1 : w64 ((i : Int) + 1) = ((i + 1 : Nat) : Int) := by rw [w64_mid (by omega) (by omega)]; omega
    rw [loopN]
    simp only [stepPs]
    rw [decide_eq_true (show (i : Int) < (n : Int) by omega), ho, Nat.ble_eq_true_of_le (show (i + 1) * 16 ≤ 140737488355328 by omega), e1, stk_eq, stk_eq, Int.toNat_natCast, Int.toNat_natCast]
    exact ps_loop R hn hr kk q (i + 1) (by omega)
theorem go_ps (R : Type) (n : Nat) (vs : List AV) (kk : Nat → List AV → Option R) (r : R) (h : lePs.go R n vs kk = some r) : ∃ m, loopN (stepPs R) m vs kk = some r := by
  simp only [lePs] at h
  split at h
  · rename_i n
    obtain ⟨hg, hk⟩ := chk_some h
    unfold fitPs at hg
    rw [stk_eq, Bool.and_eq_true, decide_eq_true_eq] at hg
    obtain ⟨⟨h1, h2⟩, h3⟩ := hg
    obtain ⟨n, rfl⟩ : ∃ m : Nat, n = m := ⟨n.toNat, (Int.toNat_of_nonneg (by omega)).symm⟩
    unfold ptsK at hk
    rw [stk_eq, Int.toNat_natCast] at hk
    rw [Int.toNat_natCast] at h3
    exact ⟨n + 1, (ps_loop R (by omega) h3 kk n 0 (by omega)).trans hk⟩
  · cases h
def sp_ps : List AV → Option (Bool × AV)
  | [.int .i64 n] => some (fitPs n, .osl 55 (.prs n.toNat .u64 (ptsK n)))
  | _ => none
theorem run_ps (n : Int) : callA (env Tryz.f20.ntmps [(41, entS true sp_rt)] [(0, lePs)]) (bodyC Tryz.f20) Tryz.f20.results.toList (slots 0 [.int .i64 n]) some =
    chk (fitPs n) (some (.osl 55 (.prs n.toNat .u64 (ptsK n)))) := by kernel_rfl
theorem ok_ps : EntOk Tryz.prog 20 (entS true sp_ps) := by
  refine contractS (orc := [(41, entS true sp_rt)]) (lo := [(0, lePs)]) Tryz.func20 (orc_cons ok_rt orc_nil) (by kernel_rfl) (by kernel_rfl) (by kernel_rfl)
    (loops_one (id := 0) (y := .loop (loopOf 0 (bodyC Tryz.f20))) (by kernel_rfl)
      (loopS (le := lePs) (orc := [(41, entS true sp_rt)]) (lo' := []) (orc_cons ok_rt orc_nil) (by kernel_rfl) rfl (loops_none (by kernel_rfl)) stepPs (fun R vs k1 k2 r h => ?_) go_ps)) fun args r h => ?_
  · have h0 := h
    unfold stepPs at h
    split at h
    · exact (step_ps R _ _ _ _ k1 k2).trans h0
    · cases h
  · unfold sp_ps at h
    split at h
    · rename_i n
      simp only [Option.some.injEq, Prod.mk.injEq] at h
      obtain ⟨hg, rfl⟩ := h
      refine ⟨by kernel_rfl, .inl rfl, (run_ps n).trans ?_⟩
      rw [hg]
      rfl
    · cases h
end
end Go.Proofs.YtbakldcbaikgpaaGreatDoor
