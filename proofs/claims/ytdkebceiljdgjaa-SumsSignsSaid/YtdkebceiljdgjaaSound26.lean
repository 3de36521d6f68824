/- The table of types, checked by reckoning. Own work, program-independent. -/
import Derived.Test.YtdkebceiljdgjaaSound25
namespace Go.Proofs.Ytdkebceiljdgjaa
open Go.RowKit (Below)

def intsB (k : IntKind) : List Int → List Value → Bool
  | [], [] => true
  | n :: l, .int k' m :: cs => decide (k = k') && decide (n = m) && intsB k l cs
  | _, _ => false

def prsB (k : IntKind) : List (Int × Int) → List Value → Bool
  | [], [] => true
  | n :: l, .int k' m :: .int k'' m' :: cs => decide (k = k') && decide (n.1 = m) && decide (k = k'') && decide (n.2 = m') && prsB k l cs
  | _, _ => false

def nilpB : Value → Bool
  | .pointer none => true
  | _ => false

def nilsB : Value → Bool
  | .slice none l c => Nat.beq l 0 && Nat.beq c 0
  | _ => false

def conB : Value → Value → Bool
  | .string a, .string b => decide (a.data = b.data)
  | _, _ => false

theorem conB_eq {u v : Value} (h : conB u v = true) : v = u ∧ conV u = true := by
  cases u <;> cases v <;> simp only [conB, Bool.false_eq_true, decide_eq_true_eq] at h
  rename_i a b
  cases a
  cases b
  simp only at h
  subst h
  exact ⟨rfl, rfl⟩

mutual
def vrB : AV → Value → Bool
  | .bool b, .bool c => b == c
  | .int k n, .int k' m => decide (k = k') && decide (n = m)
  | .ints n k l, .agg cs => Nat.beq l.length n && intsB k l cs.toList
  | .prs n k l, .agg cs => Nat.beq l.length n && prsB k l cs.toList
  | .st ps, .agg cs => crsB ps cs.toList
  | .nilp, v => nilpB v
  | .nils, v => nilsB v
  | .nili, .nilIface => true
  | .con u, v => conB u v
  | _, _ => false
def crsB : List AV → List Value → Bool
  | [], cs => cs.isEmpty
  | p :: ps, cs => bif p.comp then Nat.ble p.sz cs.length && vrB p (.agg (cs.take p.sz).toArray) && crsB ps (cs.drop p.sz)
    else match cs with
      | v :: r => oneV v && vrB p v && crsB ps r
      | [] => false
end

theorem intsB_eq {k : IntKind} : ∀ (l : List Int) (cs : List Value), intsB k l cs = true → cs = l.map (Value.int k)
  | [], [], _ => rfl
  | [], _ :: _, h => by simp [intsB] at h
  | n :: l, [], h => by simp [intsB] at h
  | n :: l, c :: cs, h => by
    cases c <;> simp only [intsB, Bool.and_eq_true, decide_eq_true_eq, Bool.false_eq_true] at h
    obtain ⟨⟨rfl, rfl⟩, h⟩ := h
    rw [intsB_eq l cs h]; rfl

theorem prsB_eq {k : IntKind} : ∀ (l : List (Int × Int)) (cs : List Value), prsB k l cs = true → cs = l.flatMap fun p => [Value.int k p.1, Value.int k p.2]
  | [], [], _ => rfl
  | [], _ :: _, h => by simp [prsB] at h
  | n :: l, [], h => by simp [prsB] at h
  | n :: l, [c], h => by cases c <;> simp [prsB] at h
  | n :: l, c :: d :: cs, h => by
    cases c <;> cases d <;> simp only [prsB, Bool.and_eq_true, decide_eq_true_eq, Bool.false_eq_true] at h
    obtain ⟨⟨⟨⟨rfl, h1⟩, rfl⟩, h2⟩, h⟩ := h
    rw [prsB_eq l cs h, ← h1, ← h2]; rfl

section
variable {A : Nat → Prop} {w : World} {ρ : Rho}
mutual
theorem vrB_vr : ∀ (a : AV) (v : Value), vrB a v = true → VR A w ρ a v
  | .bool b, v, h => by
    cases v <;> simp only [vrB, Bool.false_eq_true] at h
    simp only [VR]; simpa using (eq_of_beq h).symm
  | .int k n, v, h => by
    cases v <;> simp only [vrB, Bool.false_eq_true, Bool.and_eq_true, decide_eq_true_eq] at h
    obtain ⟨rfl, rfl⟩ := h
    simp only [VR]
  | .ints n k l, v, h => by
    cases v <;> simp only [vrB, Bool.false_eq_true, Bool.and_eq_true] at h
    rename_i cs
    simp only [VR]
    exact ⟨nat_beq h.1, by rw [← intsB_eq l cs.toList h.2]⟩
  | .prs n k l, v, h => by
    cases v <;> simp only [vrB, Bool.false_eq_true, Bool.and_eq_true] at h
    rename_i cs
    simp only [VR]
    exact ⟨nat_beq h.1, by rw [← prsB_eq l cs.toList h.2]⟩
  | .st ps, v, h => by
    cases v <;> simp only [vrB, Bool.false_eq_true] at h
    rename_i cs
    simp only [VR]
    exact ⟨cs.toList, crsB_crs ps cs.toList h, rfl⟩
  | .nilp, v, h => by
    simp only [vrB] at h
    unfold nilpB at h
    split at h
    · simp only [VR]
    · cases h
  | .nils, v, h => by
    simp only [vrB] at h
    unfold nilsB at h
    split at h
    · simp only [Bool.and_eq_true] at h
      rw [nat_beq h.1, nat_beq h.2]
      simp only [VR]
    · cases h
  | .nili, v, h => by
    cases v <;> simp only [vrB, Bool.false_eq_true] at h
    simp only [VR]
  | .dead, v, h => by simp [vrB] at h
  | .tup _, v, h => by simp [vrB] at h
  | .ptr _ _ _ _, v, h => by simp [vrB] at h
  | .pt _ _ _ _, v, h => by simp [vrB] at h
  | .wsl _, v, h => by simp [vrB] at h
  | .sl _, v, h => by simp [vrB] at h
  | .osl _ _, v, h => by simp [vrB] at h
  | .func _, v, h => by simp [vrB] at h
  | .iface _ _, v, h => by simp [vrB] at h
  | .con _, v, h => by
    simp only [vrB] at h
    simp only [VR]
    exact conB_eq h
theorem crsB_crs : ∀ (ps : List AV) (cs : List Value), crsB ps cs = true → CRs A w ρ ps cs
  | [], cs, h => by
    simp only [crsB, List.isEmpty_iff] at h
    simp only [CRs, h]
  | p :: ps, cs, h => by
    simp only [crsB] at h
    simp only [CRs]
    cases hc : p.comp with
    | true =>
      rw [hc] at h
      simp only [cond_true, Bool.and_eq_true] at h
      exact ⟨_, _, vrB_vr p _ h.1.2, crsB_crs ps _ h.2, by simp [Value.cells]⟩
    | false =>
      rw [hc] at h
      simp only [cond_false] at h
      cases cs with
      | nil => simp at h
      | cons v r =>
        simp only [Bool.and_eq_true] at h
        refine ⟨v, r, vrB_vr p v h.1.2, crsB_crs ps r h.2, ?_⟩
        have := h.1.1
        cases v <;> first | (simp [oneV] at this; done) | simp [Value.cells]
end
end

def fieldsB : List Field → List (TypeId × Nat) → Bool
  | [], [] => true
  | f :: fs, g :: gs => Nat.beq f.type g.1 && Nat.beq f.offset g.2 && fieldsB fs gs
  | _, _ => false

theorem fieldsB_eq : ∀ (fs : List Field) (gs : List (TypeId × Nat)), fieldsB fs gs = true → fs.map (fun f => (f.type, f.offset)) = gs
  | [], [], _ => rfl
  | [], _ :: _, h => by simp [fieldsB] at h
  | _ :: _, [], h => by simp [fieldsB] at h
  | f :: fs, g :: gs, h => by
    simp only [fieldsB, Bool.and_eq_true] at h
    rw [List.map_cons, fieldsB_eq fs gs h.2, nat_beq h.1.1, nat_beq h.1.2]

def undB (P : Program) (t : TypeId) : TD → Bool
  | .int k => match P.underlying t with | some (.int k') => decide (k = k') | _ => false
  | .bool => match P.underlying t with | some .bool => true | _ => false
  | .slice e => match P.underlying t with | some (.slice e') => Nat.beq e e' | _ => false
  | .arr n e => match P.underlying t with | some (.array n' e') => Nat.beq n n' && Nat.beq e e' | _ => false
  | .struct fs => match P.underlying t with | some (.struct a) => fieldsB a.toList fs | _ => false
  | .iface => match P.underlying t with | some (.interface _) => true | _ => false
  | .str => match P.underlying t with | some .string => true | _ => false
  | .other => match P.underlying t with | some (.struct _) | some (.array _ _) | some (.interface _) | none => false | _ => true

theorem undB_ok {P : Program} {t : TypeId} : ∀ (d : TD), undB P t d = true → UndOk P t d := by
  intro d h
  cases d <;> simp only [undB] at h <;> simp only [UndOk]
  case int k => split at h <;> simp_all
  case bool => split at h <;> simp_all
  case slice e =>
    split at h
    · rename_i e' hu; rw [hu, nat_beq h]
    · cases h
  case arr n e =>
    split at h
    · rename_i n' e' hu
      simp only [Bool.and_eq_true] at h
      rw [hu, nat_beq h.1, nat_beq h.2]
    · cases h
  case struct fs =>
    split at h
    · rename_i a hu; exact ⟨a, hu, fieldsB_eq _ _ h⟩
    · cases h
  case iface =>
    split at h
    · rename_i ms hu; exact ⟨ms, hu⟩
    · cases h
  case str => split at h <;> simp_all
  case other =>
    split at h
    · cases h
    · cases h
    · cases h
    · cases h
    · rename_i o h1 h2 h3 h4
      cases hu : P.underlying t with
      | none => exact absurd hu h4
      | some d =>
        refine ⟨d, rfl, ?_⟩
        cases d
        case struct a => exact absurd hu (h1 a)
        case array a b => exact absurd hu (h2 a b)
        case interface a => exact absurd hu (h3 a)
        all_goals trivial

def layB (P : Program) : Nat → List (TypeId × Nat) → List AV → Bool
  | _, [], [] => true
  | off, f :: fs, z :: zs => Nat.beq f.2 off && (match P.info? f.1 with | some i => Nat.beq i.size z.sz | none => false) && layB P (off + z.sz) fs zs
  | _, _, _ => false

theorem layB_ok {P : Program} : ∀ (fs : List (TypeId × Nat)) (zs : List AV) (off : Nat), layB P off fs zs = true → Lay P off fs zs
  | [], [], _, _ => trivial
  | [], _ :: _, _, h => by simp [layB] at h
  | _ :: _, [], _, h => by simp [layB] at h
  | f :: fs, z :: zs, off, h => by
    simp only [layB, Bool.and_eq_true] at h
    refine ⟨nat_beq h.1.1, ?_, layB_ok fs zs _ h.2⟩
    have h1 := h.1.2
    split at h1
    · rename_i i hi; exact ⟨i, hi, nat_beq h1⟩
    · cases h1

def chkTE (P : Program) (t : TypeId) (te : TE) : Bool :=
  (match P.info? t with
  | some i => Nat.beq i.size te.size && Nat.beq i.bytes te.bytes && (match i.zero with | some z => vrB te.zero z | none => false)
  | none => false) && undB P t te.td && (isAgg te.td || Nat.beq te.size 1) && Nat.beq te.size te.zero.sz && (isAgg te.td == te.zero.comp) &&
  (match te.td, te.zero with | .struct fs, .st zs => layB P 0 fs zs | _, _ => true) &&
  (!te.cmp || (!P.eqGuardType P.depth t && !P.stoodInHeld t && (match P.underlying t with | some (.struct a) => a.toList.all fun f => !(f.name == "_") | _ => true)))

theorem chkTE_ok {P : Program} {t : TypeId} {te : TE} (h : chkTE P t te = true) : TEok P t te := by
  unfold chkTE at h
  simp only [Bool.and_eq_true] at h
  obtain ⟨⟨⟨⟨⟨⟨h1, h2⟩, h3⟩, h4⟩, h5⟩, h6⟩, h7⟩ := h
  refine ⟨?_, undB_ok _ h2, fun ha => ?_, nat_beq h4, eq_of_beq h5, fun fs zs ht hz => ?_, fun hc => ?_⟩
  · split at h1
    · rename_i i hi
      simp only [Bool.and_eq_true] at h1
      obtain ⟨⟨a1, a2⟩, a3⟩ := h1
      split at a3
      · rename_i z hz
        exact ⟨i, z, hi, nat_beq a1, nat_beq a2, hz, fun A w ρ => vrB_vr _ _ a3⟩
      · cases a3
    · cases h1
  · rw [ha] at h3
    exact nat_beq (by simpa using h3)
  · rw [ht, hz] at h6
    exact layB_ok _ _ _ h6
  · rw [hc] at h7
    simp only [Bool.not_true, Bool.false_or, Bool.and_eq_true, Bool.not_eq_true'] at h7
    obtain ⟨⟨a1, a2⟩, a3⟩ := h7
    refine ⟨a1, a2, fun a ha f hf => ?_⟩
    rw [ha] at a3
    simp only [List.all_eq_true] at a3
    have := a3 f hf
    simpa using this

theorem tab_ok {P : Program} : ∀ (tab : List (TypeId × TE)), (tab.all fun x => chkTE P x.1 x.2) = true → TabOk P tab := by
  intro tab h t te hk
  rw [List.all_eq_true] at h
  exact chkTE_ok (h (t, te) (lk_mem tab t te hk))
end Go.Proofs.Ytdkebceiljdgjaa
