/- tillerref02: Mul. Own work. -/
import Derived.Test.YtbakldcbaikgpaaGreatDoorDig4
namespace Go.Proofs.YtbakldcbaikgpaaGreatDoor
set_option maxRecDepth 100000
noncomputable section
/-! ### Digits laid anew -/
theorem okD_get {l : List Int} (h : okD l = true) (i : Nat) : 0 ≤ l.getD i 0 ∧ l.getD i 0 < 65536 := by
  rw [List.getD_eq_getElem?_getD]
  cases hi : l[i]? with
  | none => exact ⟨by decide, by decide⟩
  | some x =>
    have hx := List.all_eq_true.1 h x (List.mem_of_getElem? hi)
    rw [Bool.and_eq_true, decide_eq_true_eq, decide_eq_true_eq] at hx
    exact hx
theorem okD_set {l : List Int} (h : okD l = true) (i : Nat) {x : Int} (h0 : 0 ≤ x) (h1 : x < 65536) : okD (l.set i x) = true := by
  refine List.all_eq_true.2 fun y hy => ?_
  rw [Bool.and_eq_true, decide_eq_true_eq, decide_eq_true_eq]
  rcases List.mem_or_eq_of_mem_set hy with h2 | h2
  · have hx := List.all_eq_true.1 h y h2
    rw [Bool.and_eq_true, decide_eq_true_eq, decide_eq_true_eq] at hx
    exact hx
  · subst h2; exact ⟨h0, h1⟩
theorem valD_set : ∀ (l : List Int) (i : Nat) (x : Int), i < l.length → valD (l.set i x) + (l.getD i 0).toNat * 65536 ^ i = valD l + x.toNat * 65536 ^ i
  | [], i, x, h => absurd h (by simp)
  | d :: l, 0, x, _ => by
    show x.toNat + 65536 * valD l + d.toNat * 1 = d.toNat + 65536 * valD l + x.toNat * 1
    omega
  | d :: l, i + 1, x, h => by
    have ih := valD_set l i x (by simpa using h)
    show d.toNat + 65536 * valD (l.set i x) + (l.getD i 0).toNat * 65536 ^ (i + 1) = d.toNat + 65536 * valD l + x.toNat * 65536 ^ (i + 1)
    rw [Nat.pow_succ, ← Nat.mul_assoc, ← Nat.mul_assoc]
    omega
theorem valD_cut (l : List Int) : ∀ (k : Nat), k < l.length → valD (l.take (k + 1)) = valD (l.take k) + (l.getD k 0).toNat * 65536 ^ k := by
  induction l with
  | nil => intro k h; simp at h
  | cons d l ih =>
    intro k h
    cases k with
    | zero =>
      show d.toNat + 65536 * valD (l.take 0) = 0 + d.toNat * 1
      rw [List.take_zero]
      show d.toNat + 65536 * 0 = _
      omega
    | succ k =>
      have := ih k (by simpa using h)
      show d.toNat + 65536 * valD (l.take (k + 1)) = d.toNat + 65536 * valD (l.take k) + (l.getD k 0).toNat * 65536 ^ (k + 1)
      rw [this, Nat.pow_succ, ← Nat.mul_assoc, Nat.mul_add, Nat.mul_comm 65536 ((l.getD k 0).toNat * 65536 ^ k)]
      omega
/-! ### One digit times a list -/
abbrev MS := Nat × List Int
def mX (O b : List Int) (x i k c : Nat) : Nat := c + (O.getD (i + k) 0).toNat + x * (b.getD k 0).toNat
def mS (b : List Int) (x i : Nat) : Nat → Nat → MS → MS
  | 0, _, s => s
  | q + 1, k, s => mS b x i q (k + 1) (mX s.2 b x i k s.1 / 65536, s.2.set (i + k) ((mX s.2 b x i k s.1 % 65536 : Nat) : Int))
/-- What a round keeps: digits, how many there are, which are noughts. -/
def mOk (p : Nat) (s : MS) : Prop := okD s.2 = true ∧ s.2.length = p ∧ s.1 < 65536
theorem mX_lt {O b : List Int} (hO : okD O = true) (hb : okD b = true) {x i k c : Nat} (hx : x < 65536) (hc : c < 65536) : mX O b x i k c < 4294967296 ∧ mX O b x i k c / 65536 < 65536 := by
  have h1 := okD_get hO (i + k)
  have h2 := okD_get hb k
  have h3 : x * (b.getD k 0).toNat ≤ 65535 * 65535 := Nat.mul_le_mul (by omega) (by omega)
  unfold mX
  omega
theorem mS_ok {b : List Int} (hb : okD b = true) {p x i : Nat} (hx : x < 65536) : ∀ (q k : Nat) (s : MS), mOk p s → mOk p (mS b x i q k s) ∧ ∀ j, i + k + q ≤ j → (mS b x i q k s).2.getD j 0 = s.2.getD j 0
  | 0, _, _, h => ⟨h, fun _ _ => rfl⟩
  | q + 1, k, s, h => by
    obtain ⟨h1, h2, h3⟩ := h
    obtain ⟨a1, a2⟩ := mX_lt (i := i) (k := k) h1 hb hx h3
    obtain ⟨b1, b2⟩ := mS_ok hb (p := p) (i := i) hx q (k + 1) (mX s.2 b x i k s.1 / 65536, s.2.set (i + k) ((mX s.2 b x i k s.1 % 65536 : Nat) : Int)) ⟨okD_set h1 _ (by omega) (by omega), by rw [List.length_set]; exact h2, a2⟩
    refine ⟨b1, fun j hj => (b2 j (by omega)).trans ?_⟩
    rw [List.getD_eq_getElem?_getD, List.getElem?_set_ne (by omega), List.getD_eq_getElem?_getD]
theorem mS_val {b : List Int} (hb : okD b = true) {p x i : Nat} (hx : x < 65536) (hp : i + b.length ≤ p) : ∀ (q k : Nat) (s : MS), mOk p s → k + q = b.length →
    valD (mS b x i q k s).2 + (mS b x i q k s).1 * 65536 ^ (i + b.length) + x * valD (b.take k) * 65536 ^ i = valD s.2 + s.1 * 65536 ^ (i + k) + x * valD b * 65536 ^ i
  | 0, k, s, _, hk => by
    rw [show k = b.length by omega, List.take_length]
    rfl
  | q + 1, k, s, h, hk => by
    obtain ⟨h1, h2, h3⟩ := h
    obtain ⟨a1, a2⟩ := mX_lt (i := i) (k := k) h1 hb hx h3
    have ih := mS_val hb (p := p) (i := i) hx hp q (k + 1) (mX s.2 b x i k s.1 / 65536, s.2.set (i + k) ((mX s.2 b x i k s.1 % 65536 : Nat) : Int)) ⟨okD_set h1 _ (by omega) (by omega), by rw [List.length_set]; exact h2, a2⟩ (by omega)
    have hset := valD_set s.2 (i + k) ((mX s.2 b x i k s.1 % 65536 : Nat) : Int) (by omega)
    rw [Int.toNat_natCast] at hset
    have hcut := valD_cut b k (by omega)
    show valD (mS b x i q (k + 1) (mX s.2 b x i k s.1 / 65536, s.2.set (i + k) ((mX s.2 b x i k s.1 % 65536 : Nat) : Int))).2 + (mS b x i q (k + 1) (mX s.2 b x i k s.1 / 65536, s.2.set (i + k) ((mX s.2 b x i k s.1 % 65536 : Nat) : Int))).1 * 65536 ^ (i + b.length) + _ = _
    generalize mS b x i q (k + 1) (mX s.2 b x i k s.1 / 65536, s.2.set (i + k) ((mX s.2 b x i k s.1 % 65536 : Nat) : Int)) = r at ih ⊢
    have hdef : mX s.2 b x i k s.1 = s.1 + (s.2.getD (i + k) 0).toNat + x * (b.getD k 0).toNat := rfl
    simp only at ih
    generalize s.2.set (i + k) ((mX s.2 b x i k s.1 % 65536 : Nat) : Int) = O' at hset ih
    generalize hm : mX s.2 b x i k s.1 = X at *
    have hX : X % 65536 + 65536 * (X / 65536) = X := by omega
    rw [hcut, Nat.mul_add, Nat.add_mul, show i + (k + 1) = (i + k) + 1 by omega, Nat.pow_succ] at ih
    have e1 : x * ((b.getD k 0).toNat * 65536 ^ k) * 65536 ^ i = x * (b.getD k 0).toNat * 65536 ^ (i + k) := by
      rw [Nat.pow_add, Nat.mul_comm (65536 ^ i), Nat.mul_assoc, Nat.mul_assoc, Nat.mul_assoc]
    have e2 : X / 65536 * (65536 ^ (i + k) * 65536) + X % 65536 * 65536 ^ (i + k) = X * 65536 ^ (i + k) := by
      rw [Nat.mul_comm (65536 ^ (i + k)) 65536, ← Nat.mul_assoc, ← Nat.add_mul, show X / 65536 * 65536 + X % 65536 = X by omega]
    have e3 : X * 65536 ^ (i + k) = s.1 * 65536 ^ (i + k) + (s.2.getD (i + k) 0).toNat * 65536 ^ (i + k) + x * (b.getD k 0).toNat * 65536 ^ (i + k) := by
      rw [hdef, Nat.add_mul, Nat.add_mul]
    rw [e1] at ih
    omega
/-! ### All digits -/
def mT1 (a b : List Int) (i : Nat) (O : List Int) : List Int :=
  (mS b (a.getD i 0).toNat i b.length 0 (0, O)).2.set (i + b.length) (((mS b (a.getD i 0).toNat i b.length 0 (0, O)).1 : Nat) : Int)
def mT (a b : List Int) : Nat → Nat → List Int → List Int
  | 0, _, O => O
  | q + 1, i, O => mT a b q (i + 1) (mT1 a b i O)
def mulD (a b : List Int) : List Int := mT a b a.length 0 (List.replicate (a.length + b.length) 0)
theorem mT1_ok {a b : List Int} (ha : okD a = true) (hb : okD b = true) {p i : Nat} {O : List Int} (hO : okD O = true) (hl : O.length = p) (hp : i + b.length < p) (hz : ∀ j, i + b.length ≤ j → O.getD j 0 = 0) :
    okD (mT1 a b i O) = true ∧ (mT1 a b i O).length = p ∧ (∀ j, i + 1 + b.length ≤ j → (mT1 a b i O).getD j 0 = 0) ∧ valD (mT1 a b i O) = valD O + (a.getD i 0).toNat * valD b * 65536 ^ i := by
  have hx := okD_get ha i
  have hx2 : (a.getD i 0).toNat < 65536 := by omega
  obtain ⟨⟨h1, h2, h3⟩, h4⟩ := mS_ok hb (p := p) (i := i) hx2 b.length 0 (0, O) ⟨hO, hl, (by decide : 0 < 65536)⟩
  have hv := mS_val hb (p := p) (i := i) hx2 (by omega) b.length 0 (0, O) ⟨hO, hl, (by decide : 0 < 65536)⟩ (by omega)
  have hset := valD_set (mS b (a.getD i 0).toNat i b.length 0 (0, O)).2 (i + b.length) (((mS b (a.getD i 0).toNat i b.length 0 (0, O)).1 : Nat) : Int) (by omega)
  have h0 := h4 (i + b.length) (by omega)
  rw [hz _ (Nat.le_refl _)] at h0
  rw [h0, Int.toNat_natCast] at hset
  refine ⟨okD_set h1 _ (by omega) (by omega), (List.length_set ..).trans h2, fun j hj => ?_, ?_⟩
  · unfold mT1
    rw [List.getD_eq_getElem?_getD, List.getElem?_set_ne (by omega), ← List.getD_eq_getElem?_getD, h4 j (by omega)]
    exact hz j (by omega)
  · rw [List.take_zero] at hv
    have e0 : valD [] = 0 := rfl
    have e1 : (0 : Int).toNat = 0 := rfl
    rw [e0, Nat.mul_zero, Nat.zero_mul, Nat.zero_mul] at hv
    rw [e1, Nat.zero_mul] at hset
    unfold mT1
    simp only at hv
    omega
theorem mT_ok {a b : List Int} (ha : okD a = true) (hb : okD b = true) {p : Nat} (hp : p = a.length + b.length) : ∀ (q i : Nat) (O : List Int), i + q = a.length → okD O = true → O.length = p → (∀ j, i + b.length ≤ j → O.getD j 0 = 0) →
    okD (mT a b q i O) = true ∧ (mT a b q i O).length = p ∧ valD (mT a b q i O) + valD (a.take i) * valD b = valD O + valD a * valD b
  | 0, i, O, hi, h1, h2, _ => by
    refine ⟨h1, h2, ?_⟩
    rw [show i = a.length by omega, List.take_length]
    rfl
  | q + 1, i, O, hi, h1, h2, hz => by
    obtain ⟨a1, a2, a3, a4⟩ := mT1_ok ha hb (p := p) (i := i) h1 h2 (by omega) hz
    obtain ⟨b1, b2, b3⟩ := mT_ok ha hb hp q (i + 1) (mT1 a b i O) (by omega) a1 a2 a3
    refine ⟨b1, b2, ?_⟩
    have hcut := valD_cut a i (by omega)
    show valD (mT a b q (i + 1) (mT1 a b i O)) + _ = _
    rw [hcut, Nat.add_mul, a4] at b3
    have e : (a.getD i 0).toNat * 65536 ^ i * valD b = (a.getD i 0).toNat * valD b * 65536 ^ i := by
      rw [Nat.mul_assoc, Nat.mul_assoc, Nat.mul_comm (65536 ^ i)]
    omega
theorem okD_rep (n : Nat) : okD (List.replicate n 0) = true := List.all_eq_true.2 fun x hx => by rw [(List.mem_replicate.1 hx).2]; decide
theorem valD_rep : ∀ (n : Nat), valD (List.replicate n 0) = 0
  | 0 => rfl
  | n + 1 => by
    show (0 : Int).toNat + 65536 * valD (List.replicate n 0) = 0
    rw [valD_rep n]; rfl
theorem mulD_ok {a b : List Int} (ha : okD a = true) (hb : okD b = true) : okD (mulD a b) = true ∧ (mulD a b).length = a.length + b.length ∧ valD (mulD a b) = valD a * valD b := by
  obtain ⟨h1, h2, h3⟩ := mT_ok ha hb (p := a.length + b.length) rfl a.length 0 (List.replicate (a.length + b.length) 0) (by omega) (okD_rep _) List.length_replicate (fun j _ => by
    rw [List.getD_eq_getElem?_getD, List.getElem?_replicate]
    split <;> rfl)
  refine ⟨h1, h2, ?_⟩
  rw [valD_rep, List.take_zero] at h3
  have e0 : valD [] = 0 := rfl
  rw [e0, Nat.zero_mul] at h3
  unfold mulD
  omega
end
end Go.Proofs.YtbakldcbaikgpaaGreatDoor
