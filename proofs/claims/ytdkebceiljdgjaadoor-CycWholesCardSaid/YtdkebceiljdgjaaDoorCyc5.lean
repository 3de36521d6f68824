/- Cyclic products as sums; CycOnes in plain Lean. Own work. -/
import Derived.Test.YtdkebceiljdgjaaDoorCyc4
namespace Go.Proofs.YtdkebceiljdgjaaDoor
set_option maxRecDepth 100000

/-! ### Sums -/

def sumF : Nat → (Nat → Int) → Int
  | 0, _ => 0
  | n + 1, f => sumF n f + f n

theorem sumF_congr {f g : Nat → Int} : ∀ (n : Nat), (∀ i, i < n → f i = g i) → sumF n f = sumF n g
  | 0, _ => rfl
  | n + 1, h => by
    simp only [sumF]
    rw [sumF_congr n (fun i hi => h i (by omega)), h n (by omega)]

theorem sumF_zero {f : Nat → Int} : ∀ (n : Nat), (∀ i, i < n → f i = 0) → sumF n f = 0
  | 0, _ => rfl
  | n + 1, h => by
    simp only [sumF]
    rw [sumF_zero n (fun i hi => h i (by omega)), h n (by omega)]; rfl

theorem sumF_one {f : Nat → Int} (s : Nat) : ∀ (n : Nat), s < n → (∀ i, i < n → i ≠ s → f i = 0) → sumF n f = f s
  | 0, h, _ => by omega
  | n + 1, h, h0 => by
    simp only [sumF]
    by_cases hs : s = n
    · subst hs
      rw [sumF_zero s (fun i hi => h0 i (by omega) (by omega))]; omega
    · rw [sumF_one s n (by omega) (fun i hi hne => h0 i (by omega) hne), h0 n (by omega) (fun e => hs e.symm)]; omega

theorem sumF_add (f g : Nat → Int) : ∀ (n : Nat), sumF n (fun i => f i + g i) = sumF n f + sumF n g
  | 0 => rfl
  | n + 1 => by
    simp only [sumF]
    rw [sumF_add f g n]; omega

theorem sumF_swap (f : Nat → Nat → Int) : ∀ (n m : Nat), sumF n (fun i => sumF m (fun j => f i j)) = sumF m (fun j => sumF n (fun i => f i j))
  | 0, m => by
    simp only [sumF]
    exact (sumF_zero m (fun _ _ => rfl)).symm
  | n + 1, m => by
    simp only [sumF]
    rw [sumF_swap f n m, sumF_add]

/-- The sum from the front. -/
theorem sumF_front (f : Nat → Int) : ∀ (n : Nat), sumF (n + 1) f = f 0 + sumF n (fun i => f (i + 1))
  | 0 => by simp [sumF]
  | n + 1 => by
    have := sumF_front f n
    simp only [sumF] at this ⊢
    omega

/-! ### Products by wrapped numbers are wrapped sums -/

theorem w64_mod (x : Int) : ∃ k : Int, w64 x = x + 18446744073709551616 * k := by
  unfold w64
  rw [IntKind.wrap_i64]
  exact ⟨-((x + 9223372036854775808) / 18446744073709551616), by omega⟩

theorem w64_congr {x y : Int} (h : ∃ k : Int, x = y + 18446744073709551616 * k) : w64 x = w64 y := by
  obtain ⟨k, rfl⟩ := h
  unfold w64
  rw [IntKind.wrap_i64, IntKind.wrap_i64]
  omega

theorem w64_w64 (x : Int) : w64 (w64 x) = w64 x := by
  obtain ⟨k, hk⟩ := w64_mod x
  exact w64_congr ⟨k, hk⟩

theorem w64_add (x y : Int) : w64 (w64 x + w64 y) = w64 (x + y) := by
  obtain ⟨k, hk⟩ := w64_mod x
  obtain ⟨l, hl⟩ := w64_mod y
  exact w64_congr ⟨k + l, by rw [hk, hl]; omega⟩

theorem w64_id {x : Int} (h0 : -9223372036854775808 ≤ x) (h1 : x < 9223372036854775808) : w64 x = x := by
  unfold w64
  rw [IntKind.wrap_i64]
  omega

theorem getD_set (l : List Int) (p q : Nat) (v : Int) (hq : q < l.length) : (l.set q v).getD p 0 = if p = q then v else l.getD p 0 := by
  by_cases h : p = q
  · subst h
    rw [if_pos rfl]
    simp [List.getD, List.getElem?_set_self hq]
  · rw [if_neg h]
    simp [List.getD, List.getElem?_set_ne (fun e => h e.symm)]

theorem row_spec (n : Nat) (i : Nat) (ai : Int) (hn : 0 < n) : ∀ (l : List Int) (j : Nat) (out : List Int), out.length = n → (∀ q, w64 (out.getD q 0) = out.getD q 0) →
    (row n i ai l j out).length = n ∧ (∀ q, w64 ((row n i ai l j out).getD q 0) = (row n i ai l j out).getD q 0) ∧
      ∀ p, p < n → (row n i ai l j out).getD p 0 = w64 (out.getD p 0 + sumF l.length (fun t => if (i + (j + t)) % n = p then ai * l.getD t 0 else 0))
  | [], j, out, hl, hr => ⟨hl, hr, fun p hp => by simp only [row, List.length_nil, sumF, Int.add_zero]; exact (hr p).symm⟩
  | b :: l, j, out, hl, hr => by
    have hidx : ((((i : Int) + (j : Int)).tmod n).toNat) = (i + j) % n := by
      rw [Int.tmod_eq_emod_of_nonneg (by omega), ← Int.natCast_add, ← Int.natCast_emod, Int.toNat_natCast]
    have hlt : (i + j) % n < n := Nat.mod_lt _ hn
    simp only [row, hidx]
    have hr' : ∀ q, w64 ((out.set ((i + j) % n) (w64 (out.getD ((i + j) % n) 0 + w64 (ai * b)))).getD q 0) = (out.set ((i + j) % n) (w64 (out.getD ((i + j) % n) 0 + w64 (ai * b)))).getD q 0 := by
      intro q
      rw [getD_set _ _ _ _ (by omega)]
      split
      · exact w64_w64 _
      · exact hr q
    have hcast : ((j : Int) + 1) = ((j + 1 : Nat) : Int) := by omega
    rw [hcast]
    obtain ⟨g1, g2, g3⟩ := row_spec n i ai hn l (j + 1) (out.set ((i + j) % n) (w64 (out.getD ((i + j) % n) 0 + w64 (ai * b)))) (by simpa using hl) hr'
    refine ⟨g1, g2, fun p hp => ?_⟩
    rw [g3 p hp, getD_set _ _ _ _ (by omega), List.length_cons, sumF_front]
    have hs : sumF l.length (fun t => if (i + (j + 1 + t)) % n = p then ai * l.getD t 0 else 0) = sumF l.length (fun t => if (i + (j + (t + 1))) % n = p then ai * (b :: l).getD (t + 1) 0 else 0) := by
      refine sumF_congr _ (fun t _ => ?_)
      rw [show j + 1 + t = j + (t + 1) by omega]
      simp
    rw [hs]
    generalize sumF l.length (fun t => if (i + (j + (t + 1))) % n = p then ai * (b :: l).getD (t + 1) 0 else 0) = S
    simp only [Nat.add_zero, List.getD_cons_zero]
    by_cases h : p = (i + j) % n
    · rw [if_pos h, if_pos h.symm, ← h]
      obtain ⟨k1, e1⟩ := w64_mod (ai * b)
      obtain ⟨k2, e2⟩ := w64_mod (out.getD p 0 + w64 (ai * b))
      refine w64_congr ⟨k1 + k2, ?_⟩
      rw [e2, e1]
      omega
    · rw [if_neg h, if_neg (fun e => h e.symm)]
      congr 1
      omega

theorem rows_spec (n : Nat) (b : List Int) (hn : 0 < n) : ∀ (l : List Int) (i : Nat) (out : List Int), out.length = n → (∀ q, w64 (out.getD q 0) = out.getD q 0) →
    (rows n b l i out).length = n ∧ (∀ q, w64 ((rows n b l i out).getD q 0) = (rows n b l i out).getD q 0) ∧
      ∀ p, p < n → (rows n b l i out).getD p 0 = w64 (out.getD p 0 + sumF l.length (fun s => sumF b.length (fun t => if (i + s + t) % n = p then l.getD s 0 * b.getD t 0 else 0)))
  | [], i, out, hl, hr => ⟨hl, hr, fun p hp => by simp only [rows, List.length_nil, sumF, Int.add_zero]; exact (hr p).symm⟩
  | ai :: l, i, out, hl, hr => by
    obtain ⟨f1, f2, f3⟩ := row_spec n i ai hn b 0 out hl hr
    have hcast : ((i : Int) + 1) = ((i + 1 : Nat) : Int) := by omega
    simp only [rows, hcast]
    have f1' : (row n (i : Int) ai b 0 out).length = n := f1
    obtain ⟨g1, g2, g3⟩ := rows_spec n b hn l (i + 1) (row n i ai b 0 out) f1' f2
    refine ⟨g1, g2, fun p hp => ?_⟩
    rw [g3 p hp, List.length_cons, sumF_front]
    have e0 : (row n (i : Int) ai b 0 out).getD p 0 = w64 (out.getD p 0 + sumF b.length (fun t => if (i + (0 + t)) % n = p then ai * b.getD t 0 else 0)) := f3 p hp
    rw [e0]
    have hs : sumF l.length (fun s => sumF b.length (fun t => if (i + 1 + s + t) % n = p then l.getD s 0 * b.getD t 0 else 0)) = sumF l.length (fun s => sumF b.length (fun t => if (i + (s + 1) + t) % n = p then (ai :: l).getD (s + 1) 0 * b.getD t 0 else 0)) := by
      refine sumF_congr _ (fun s _ => sumF_congr _ (fun t _ => ?_))
      rw [show i + 1 + s + t = i + (s + 1) + t by omega]
      simp
    rw [hs]
    have h0 : sumF b.length (fun t => if (i + (0 + t)) % n = p then ai * b.getD t 0 else 0) = sumF b.length (fun t => if (i + 0 + t) % n = p then (ai :: l).getD 0 0 * b.getD t 0 else 0) := by
      refine sumF_congr _ (fun t _ => ?_)
      rw [show i + (0 + t) = i + 0 + t by omega]
      simp
    rw [h0]
    generalize sumF l.length _ = S
    generalize sumF b.length _ = T
    obtain ⟨k, e⟩ := w64_mod (out.getD p 0 + T)
    refine w64_congr ⟨k, ?_⟩
    rw [e]
    omega

/-- One number of a product. -/
def convS (a b : List Int) (p : Nat) : Int := sumF a.length (fun s => sumF b.length (fun t => if (s + t) % a.length = p then a.getD s 0 * b.getD t 0 else 0))

theorem whole_spec (a b : List Int) (hn : 0 < a.length) : (wholeW a b).length = a.length ∧ ∀ p, p < a.length → (wholeW a b).getD p 0 = w64 (convS a b p) := by
  have hz : ∀ q, (List.replicate a.length (0 : Int)).getD q 0 = 0 := by
    intro q
    simp only [List.getD, List.getElem?_replicate]
    split <;> rfl
  obtain ⟨g1, g2, g3⟩ := rows_spec a.length b hn a 0 (List.replicate a.length 0) (by simp) (fun q => by rw [hz]; rfl)
  refine ⟨g1, fun p hp => ?_⟩
  have := g3 p hp
  unfold wholeW
  refine this.trans ?_
  rw [hz, Int.zero_add]
  simp only [Nat.zero_add]
  rfl

theorem convS_comm (a b : List Int) (h : a.length = b.length) (p : Nat) : convS a b p = convS b a p := by
  unfold convS
  rw [h, sumF_swap]
  refine sumF_congr _ (fun j _ => sumF_congr _ (fun i _ => ?_))
  rw [Nat.add_comm i j, Int.mul_comm]
end Go.Proofs.YtdkebceiljdgjaaDoor
