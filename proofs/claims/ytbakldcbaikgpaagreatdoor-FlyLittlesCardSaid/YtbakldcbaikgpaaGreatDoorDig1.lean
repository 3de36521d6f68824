/- Digits of 16 bits: lists and what they are worth. Plain Lean. Own work. -/
import Derived.Test.YtbakldcbaikgpaaGreatDoorPatB
namespace Go.Proofs.YtbakldcbaikgpaaGreatDoor
set_option maxRecDepth 100000
noncomputable section
def okD (l : List Int) : Bool := l.all fun d => decide (0 ≤ d) && decide (d < 65536)
def valD : List Int → Nat
  | [] => 0
  | d :: l => d.toNat + 65536 * valD l
def digF : Nat → Nat → List Int
  | 0, _ => []
  | n + 1, v => if v = 0 then [] else ((v % 65536 : Nat) : Int) :: digF n (v / 65536)
def digN (v : Nat) : List Int := digF v v
/-- So many digits, the lowest ones. -/
def digP : Nat → Nat → List Int
  | 0, _ => []
  | n + 1, v => ((v % 65536 : Nat) : Int) :: digP n (v / 65536)
/-- How many digits there are up to the last that is not 0. -/
def tlen : List Int → Nat
  | [] => 0
  | d :: l => if tlen l = 0 ∧ d = 0 then 0 else tlen l + 1
theorem okD_cons {d : Int} {l : List Int} : okD (d :: l) = true ↔ (0 ≤ d ∧ d < 65536) ∧ okD l = true := by
  simp [okD]
theorem digF_same : ∀ (n m v : Nat), v ≤ n → v ≤ m → digF n v = digF m v
  | 0, m, v, h, _ => by
    have : v = 0 := by omega
    subst this
    cases m <;> rfl
  | n + 1, 0, v, _, h => by
    have : v = 0 := by omega
    subst this
    rfl
  | n + 1, m + 1, v, h, h' => by
    unfold digF
    by_cases h0 : v = 0
    · rw [if_pos h0, if_pos h0]
    · rw [if_neg h0, if_neg h0, digF_same n m (v / 65536) (by omega) (by omega)]
theorem digN_zero : digN 0 = [] := rfl
theorem digN_pos {v : Nat} (h : v ≠ 0) : digN v = ((v % 65536 : Nat) : Int) :: digN (v / 65536) := by
  unfold digN
  obtain ⟨w, rfl⟩ : ∃ w, v = w + 1 := ⟨v - 1, by omega⟩
  rw [show digF (w + 1) (w + 1) = if w + 1 = 0 then [] else (((w + 1) % 65536 : Nat) : Int) :: digF w ((w + 1) / 65536) from rfl, if_neg h]
  congr 1
  exact digF_same _ _ _ (by omega) (by omega)
theorem val_dig (v : Nat) : valD (digN v) = v := by
  induction v using Nat.strongRecOn with
  | _ v ih =>
    by_cases h : v = 0
    · subst h; rfl
    · rw [digN_pos h, valD, ih (v / 65536) (by omega)]
      omega
theorem ok_dig (v : Nat) : okD (digN v) = true := by
  induction v using Nat.strongRecOn with
  | _ v ih =>
    by_cases h : v = 0
    · subst h; rfl
    · rw [digN_pos h, okD_cons]
      exact ⟨by omega, ih (v / 65536) (by omega)⟩
theorem tlen_le : ∀ (l : List Int), tlen l ≤ l.length
  | [] => Nat.le_refl _
  | d :: l => by
    have := tlen_le l
    unfold tlen
    split
    · exact Nat.zero_le _
    · simp only [List.length_cons]; omega
theorem take_tlen : ∀ (l : List Int), okD l = true → l.take (tlen l) = digN (valD l) ∧ tlen l = (digN (valD l)).length
  | [], _ => ⟨rfl, rfl⟩
  | d :: l, h => by
    obtain ⟨hd, hl⟩ := okD_cons.1 h
    obtain ⟨ih1, ih2⟩ := take_tlen l hl
    have hz : tlen l = 0 ↔ valD l = 0 := by
      rw [ih2]
      by_cases h0 : valD l = 0
      · rw [h0]; simp [digN_zero]
      · rw [digN_pos h0]; simp [h0]
    unfold tlen valD
    by_cases hc : tlen l = 0 ∧ d = 0
    · have e : d.toNat + 65536 * valD l = 0 := by rw [hz.1 hc.1, hc.2]; rfl
      rw [if_pos hc, e]
      exact ⟨rfl, rfl⟩
    · have e : d.toNat + 65536 * valD l ≠ 0 := by
        intro e
        exact hc ⟨hz.2 (by omega), by omega⟩
      rw [if_neg hc, digN_pos e, show (d.toNat + 65536 * valD l) % 65536 = d.toNat by omega, show (d.toNat + 65536 * valD l) / 65536 = valD l by omega, Int.toNat_of_nonneg hd.1]
      rw [List.take_succ_cons, List.length_cons, ih1, ← ih2]
      exact ⟨rfl, rfl⟩
theorem tlen_snoc0 : ∀ (l : List Int), tlen (l ++ [0]) = tlen l
  | [] => rfl
  | d :: l => by
    rw [List.cons_append]
    unfold tlen
    rw [tlen_snoc0 l]
theorem tlen_snoc {d : Int} (hd : d ≠ 0) : ∀ (l : List Int), tlen (l ++ [d]) = l.length + 1
  | [] => by
    show (if tlen [] = 0 ∧ d = 0 then 0 else tlen [] + 1) = 1
    rw [if_neg (fun h => hd h.2)]
    rfl
  | c :: l => by
    rw [List.cons_append]
    unfold tlen
    rw [tlen_snoc hd l, if_neg (by omega)]
    rfl
theorem len_dig : ∀ (k v : Nat), (digN v).length ≤ k ↔ v < 65536 ^ k
  | 0, v => by
    by_cases h : v = 0
    · subst h; simp [digN_zero]
    · rw [digN_pos h]; simp [h]
  | k + 1, v => by
    by_cases h : v = 0
    · subst h
      rw [digN_zero]
      simp [Nat.pow_pos]
    · rw [digN_pos h, List.length_cons, Nat.pow_succ, ← Nat.div_lt_iff_lt_mul (by decide), ← len_dig k (v / 65536)]
      omega
theorem val_digP : ∀ (n v : Nat), valD (digP n v) = v % 65536 ^ n
  | 0, v => by rw [Nat.pow_zero, Nat.mod_one]; rfl
  | n + 1, v => by
    rw [digP, valD, val_digP n, Int.toNat_natCast, Nat.pow_succ, Nat.mul_comm (65536 ^ n), Nat.mod_mul]
theorem ok_digP : ∀ (n v : Nat), okD (digP n v) = true
  | 0, _ => rfl
  | n + 1, v => by
    rw [digP, okD_cons]
    exact ⟨by omega, ok_digP n _⟩
theorem len_digP : ∀ (n v : Nat), (digP n v).length = n
  | 0, _ => rfl
  | n + 1, v => by rw [digP, List.length_cons, len_digP n]
theorem digP_snoc : ∀ (n v : Nat), digP (n + 1) v = digP n v ++ [((v / 65536 ^ n % 65536 : Nat) : Int)]
  | 0, v => by rw [Nat.pow_zero, Nat.div_one]; rfl
  | n + 1, v => by
    rw [digP, digP_snoc n (v / 65536)]
    rw [show digP (n + 1) v = ((v % 65536 : Nat) : Int) :: digP n (v / 65536) from rfl, List.cons_append, Nat.div_div_eq_div_mul, Nat.pow_succ, Nat.mul_comm 65536]
/-- A digit of a list. -/
theorem get_val : ∀ (l : List Int) (i : Nat), okD l = true → l.getD i 0 = ((valD l / 65536 ^ i % 65536 : Nat) : Int)
  | [], i, _ => by rw [valD, Nat.zero_div]; simp
  | d :: l, 0, h => by
    obtain ⟨hd, _⟩ := okD_cons.1 h
    rw [valD, Nat.pow_zero, Nat.div_one]
    simp only [List.getD_cons_zero]
    omega
  | d :: l, i + 1, h => by
    obtain ⟨hd, hl⟩ := okD_cons.1 h
    rw [List.getD_cons_succ, get_val l i hl, valD, Nat.pow_succ, Nat.mul_comm (65536 ^ i), ← Nat.div_div_eq_div_mul, show (d.toNat + 65536 * valD l) / 65536 = valD l by omega]
theorem val_lt : ∀ (l : List Int), okD l = true → valD l < 65536 ^ l.length
  | [], _ => by decide
  | d :: l, h => by
    obtain ⟨hd, hl⟩ := okD_cons.1 h
    have := val_lt l hl
    rw [valD, List.length_cons, Nat.pow_succ]
    omega
theorem val_append : ∀ (l m : List Int), valD (l ++ m) = valD l + 65536 ^ l.length * valD m
  | [], m => by simp [valD]
  | d :: l, m => by
    rw [List.cons_append, valD, valD, val_append l m, List.length_cons, Nat.pow_succ, Nat.mul_comm (65536 ^ l.length) 65536, Nat.mul_assoc]
    omega
/-- What the kernel leaves as it is. -/
def dg (v : Nat) : List Int := stk (digN v)
def dgl (v : Nat) : Nat := stk (digN v).length
def mayD (n : Nat) (l : List Int) : Bool := stk (decide (n = l.length) && decide (l = digN (valD l)) && decide (n ≤ 100000))
theorem mayD_iff {n : Nat} {l : List Int} : mayD n l = true ↔ (n = l.length ∧ l = digN (valD l)) ∧ n ≤ 100000 := by
  unfold mayD
  rw [stk_eq, Bool.and_eq_true, Bool.and_eq_true, decide_eq_true_iff, decide_eq_true_iff, decide_eq_true_iff]
theorem len_dig_le (v : Nat) : (digN v).length ≤ lenN v / 16 + 1 := by
  generalize hk : lenN v / 16 + 1 = k
  rw [len_dig, show (65536 : Nat) = 2 ^ 16 from rfl, ← Nat.pow_mul, ← lenN_le]
  omega
theorem mayD_dg {v : Nat} (h : lenN v ≤ 1000000) : mayD (dgl v) (dg v) = true := by
  have := len_dig_le v
  unfold dgl dg
  rw [stk_eq, stk_eq, mayD_iff, val_dig]
  exact ⟨⟨rfl, rfl⟩, by omega⟩
theorem val_dg (v : Nat) : valD (dg v) = v := by unfold dg; rw [stk_eq, val_dig]
end
end Go.Proofs.YtbakldcbaikgpaaGreatDoor
