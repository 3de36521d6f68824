/- CycOnes holds. Own work. -/
import Derived.Test.YtdkebceiljdgjaaDoorCyc5
namespace Go.Proofs.YtdkebceiljdgjaaDoor
set_option maxRecDepth 100000

theorem getD_lt (l : List Int) (i : Nat) (h : i < l.length) : l.getD i 0 = l[i] := by simp [List.getD, h]

theorem firstBig_none : ∀ (l : List Int) (i : Nat), (∀ x ∈ l, big x = false) → firstBig l i = none
  | [], _, _ => rfl
  | x :: l, i, h => by
    simp only [firstBig]
    rw [h x (by simp)]
    exact firstBig_none l (i + 1) (fun y hy => h y (by simp [hy]))

theorem firstBig_mem : ∀ (l : List Int) (i : Nat), firstBig l i = none → ∀ x ∈ l, big x = false
  | [], _, _, x, hx => by cases hx
  | y :: l, i, h, x, hx => by
    simp only [firstBig] at h
    cases hb : big y with
    | true => rw [hb] at h; cases h
    | false =>
      rw [hb] at h
      rcases List.mem_cons.1 hx with rfl | hx
      · exact hb
      · exact firstBig_mem l (i + 1) h x hx

theorem place_lt (k : Int) (n : Nat) (h0 : 0 < n) (h1 : n ≤ 4096) : 0 ≤ place k n ∧ place k n < n := by
  have hu : u64 (n : Int) = n := by unfold u64; rw [IntKind.wrap_u64]; omega
  have hk : 0 ≤ u64 k := by unfold u64; rw [IntKind.wrap_u64]; omega
  unfold place
  rw [hu]
  obtain ⟨a, b⟩ := tmod_nn hk h0
  rw [w64_id (by omega) (by omega)]
  exact ⟨a, b⟩

theorem ones_length (k : Int) (n : Nat) : (ones k n).length = n := by simp [ones]

theorem ones_getD (k : Int) (n p : Nat) (h0 : 0 < n) (h1 : n ≤ 4096) : (ones k n).getD p 0 = if p = (place k n).toNat then 1 else 0 := by
  obtain ⟨a, b⟩ := place_lt k n h0 h1
  unfold ones
  rw [getD_set _ _ _ _ (by simp; omega)]
  split
  · rfl
  · simp only [List.getD, List.getElem?_replicate]
    split <;> rfl

theorem ones_small (k : Int) (n : Nat) (h0 : 0 < n) (h1 : n ≤ 4096) : anyBig (ones k n) = false := by
  rw [anyBig_first, firstBig_none]
  · rfl
  · intro x hx
    obtain ⟨i, hi, rfl⟩ := List.getElem_of_mem hx
    have := ones_getD k n i h0 h1
    rw [getD_lt _ _ hi] at this
    rw [this]
    split <;> decide

theorem getD_small {x : List Int} (h : anyBig x = false) (i : Nat) : -1048576 ≤ x.getD i 0 ∧ x.getD i 0 ≤ 1048576 := by
  rcases Nat.lt_or_ge i x.length with hi | hi
  · rw [getD_lt _ _ hi]
    rw [anyBig_first] at h
    have hb := firstBig_mem x 0 (by simpa using h) x[i] (List.getElem_mem hi)
    unfold big at hb
    simp only [Bool.or_eq_false_iff, decide_eq_false_iff_not] at hb
    omega
  · simp [List.getD, List.getElem?_eq_none hi]

theorem mod_inj {n i j s : Nat} (hi : i < n) (hj : j < n) (h : (i + s) % n = (j + s) % n) : i = j := by
  have key : ∀ a b : Nat, a < n → a ≤ b → b < n → (a + s) % n = (b + s) % n → a = b := by
    intro a b _ hab hb he
    have h1 : (b + s) = (a + s) + (b - a) := by omega
    have h2 : ((a + s) + (b - a)) % n = (a + s) % n := by rw [← h1, he]
    have h3 := Nat.sub_mod_eq_zero_of_mod_eq h2
    rw [Nat.add_sub_cancel_left, Nat.mod_eq_of_lt (by omega)] at h3
    omega
  rcases Nat.le_total i j with hl | hl
  · exact key i j hi hl hj h
  · exact (key j i hj hl hi h.symm).symm

theorem conv_ones (x : List Int) (k : Int) (i : Nat) (h0 : 0 < x.length) (h1 : x.length ≤ 4096) (hi : i < x.length) : convS x (ones k x.length) ((i + (place k x.length).toNat) % x.length) = x.getD i 0 := by
  obtain ⟨p0, p1⟩ := place_lt k x.length h0 h1
  unfold convS
  rw [ones_length, sumF_one i x.length hi, sumF_one (place k x.length).toNat x.length (by omega)]
  · rw [if_pos rfl, ones_getD k x.length _ h0 h1, if_pos rfl]; omega
  · intro t _ hne
    rw [ones_getD k x.length _ h0 h1, if_neg hne]
    split <;> simp
  · intro s hs hne
    refine sumF_zero _ (fun t ht => ?_)
    rw [ones_getD k x.length _ h0 h1]
    by_cases ht' : t = (place k x.length).toNat
    · subst ht'
      rw [if_neg (fun e => hne (mod_inj hs hi e))]
    · rw [if_neg ht']
      split <;> simp

theorem sameFrom_true (a b : List Int) : ∀ (q i : Nat), (∀ j, j < i + q → a.getD j 0 = b.getD j 0) → sameFrom a b q i = true
  | 0, _, _ => rfl
  | q + 1, i, h => by
    simp only [sameFrom]
    have := h i (by omega)
    have e : (a.getD i 0 != b.getD i 0) = false := by rw [this]; exact bne_self_eq_false _
    rw [e]
    exact sameFrom_true a b q (i + 1) (fun j hj => h j (by omega))

theorem movedFrom_true (n s : Nat) (out x : List Int) (hn : 0 < n) : ∀ (q i : Nat), (∀ j, j < i + q → out.getD ((j + s) % n) 0 = x.getD j 0) → movedFrom n s out x q i = true
  | 0, _, _ => rfl
  | q + 1, i, h => by
    simp only [movedFrom]
    have := h i (by omega)
    have hidx : (((i : Int) + (s : Int)).tmod n).toNat = (i + s) % n := by
      rw [Int.tmod_eq_emod_of_nonneg (by omega), ← Int.natCast_add, ← Int.natCast_emod, Int.toNat_natCast]
    have e : (out.getD (((i : Int) + (s : Int)).tmod n).toNat 0 != x.getD i 0) = false := by rw [hidx, this]; exact bne_self_eq_false _
    rw [e]
    exact movedFrom_true n s out x hn q (i + 1) (fun j hj => h j (by omega))

def sp_ones : List AV → Option (Bool × AV)
  | [.sl (.ints n .i64 x), .int .i64 _] => some (Nat.beq n x.length, .bool true)
  | _ => none

end Go.Proofs.YtdkebceiljdgjaaDoor
