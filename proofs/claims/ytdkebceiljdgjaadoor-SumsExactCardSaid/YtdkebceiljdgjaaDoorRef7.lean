/- tillerref05: Add, Sub; SumsAdds, SumsSubs. Own work. -/
import Derived.Test.YtdkebceiljdgjaaDoorRef6
namespace Go.Proofs.YtdkebceiljdgjaaDoor
set_option maxRecDepth 100000
noncomputable section

/-! ### A sum, whatever the powers are -/
theorem sumM_mul (a b : Bool) (A B n : Nat) (k : Int) : sumM a b (A * 2 ^ n) (B * 2 ^ n) k = sumM a b A B k := by
  have hp := Nat.two_pow_pos n
  have e1 : (A * 2 ^ n = B * 2 ^ n) ↔ A = B := Nat.mul_right_cancel_iff hp
  have e2 : (B * 2 ^ n < A * 2 ^ n) ↔ B < A := Nat.mul_lt_mul_right hp
  unfold sumM
  simp only [e1, e2]
theorem sumS_mul (a b : Bool) (A B n : Nat) : sumS a b (A * 2 ^ n) (B * 2 ^ n) = sumS a b A B * 2 ^ n := by
  have hp := Nat.two_pow_pos n
  have e2 : (B * 2 ^ n ≤ A * 2 ^ n) ↔ B ≤ A := Nat.mul_le_mul_right_iff hp
  unfold sumS
  by_cases h : a = b
  · rw [if_pos h, if_pos h, Nat.add_mul]
  · rw [if_neg h, if_neg h]
    by_cases h2 : B ≤ A
    · rw [if_pos h2, if_pos (e2.2 h2), Nat.sub_mul]
    · rw [if_neg h2, if_neg (fun h3 => h2 (e2.1 h3)), Nat.sub_mul]

/-- The least power that counts is at least the least one. -/
theorem suLow_ge (e : Int) (V : Nat) (e2 : Int) (W : Nat) : min e e2 ≤ suLow e V e2 W ∧ (V ≠ 0 → suLow e V e2 W ≤ e) ∧ (W ≠ 0 → suLow e V e2 W ≤ e2) ∧ suLow e V e2 W ≤ max e e2 := by
  unfold suLow
  by_cases h1 : W = 0
  · rw [if_pos h1]; omega
  · rw [if_neg h1]
    by_cases h2 : V = 0
    · rw [if_pos h2]; omega
    · rw [if_neg h2]; omega
theorem suA_mul {V : Nat} {e e2 low : Int} (h1 : min e e2 ≤ low) (h2 : V ≠ 0 → low ≤ e) : suA V e low * 2 ^ (low - min e e2).toNat = exA V e e2 := by
  unfold suA exA
  by_cases h0 : V = 0
  · subst h0; rw [Nat.zero_mul, Nat.zero_mul, Nat.zero_mul]
  · have := h2 h0
    rw [Nat.mul_assoc, ← Nat.pow_add, show (e - low).toNat + (low - min e e2).toNat = (e - min e e2).toNat by omega]

theorem sum_any (a b : Bool) (e : Int) (V : Nat) (e2 : Int) (W : Nat) (k : Int) :
    alike (sumM a b (suA V e (suLow e V e2 W)) (suA W e2 (suLow e V e2 W)) k) (sumS a b (suA V e (suLow e V e2 W)) (suA W e2 (suLow e V e2 W))) (suLow e V e2 W)
      (sumM a b (exA V e e2) (exA W e2 e) k) (sumS a b (exA V e e2) (exA W e2 e)) (min e e2) := by
  obtain ⟨h1, h2, h3, -⟩ := suLow_ge e V e2 W
  generalize suLow e V e2 W = low at *
  have e1 := suA_mul (V := V) h1 h2
  have e3 := suA_mul (V := W) (e := e2) (e2 := e) (low := low) (by omega) h3
  have hc : min e2 e = min e e2 := by omega
  rw [hc] at e3
  rw [← e1, ← e3, sumM_mul, sumS_mul]
  have := alike_shift (sumM a b (suA V e low) (suA W e2 low) k) (sumS a b (suA V e low) (suA W e2 low)) (low - min e e2).toNat low
  rw [show low - ((low - min e e2).toNat : Nat) = min e e2 by omega] at this
  exact this

/-! ### Add -/
def raN (p q : Int) : Option AV := chk (inU p && inU q) (some (.tup [.int .u64 9221120237041090560, .int .i64 ((noG p.toNat q.toNat : Nat) : Int)]))
def raI (p q : Int) : Option AV := chk (inU p) (bif ((absN p.toNat : Nat) : Int) == 9218868437227405312 then some (.tup [.int .u64 p, .int .i64 0]) else some (.tup [.int .u64 q, .int .i64 0]))
def raE (p q : Int) : Option AV := chk (inU p) (chk (inU q) (bif ((absN p.toNat : Nat) : Int) == ((absN q.toNat : Nat) : Int) then bif p != q then some (.tup [.int .u64 9221120237041090560, .int .i64 1]) else raI p q else raI p q))
def raZ (M : Bool) (L : Int) (S : Nat) (k : Int) : Option AV := chk (mayZ L (dgl S) (dg S)) (some (.tup [.int .u64 ((zP M L (dg S) k : Nat) : Int), .int .i64 ((zF M L (dg S) k : Nat) : Int)]))
def raS (a : Bool) (x : Int) (V : Nat) (b : Bool) (y : Int) (W : Nat) (k : Int) : Option AV :=
  chk (mayS5 x (dgl V) (dg V) y (dgl W) (dg W)) (raZ (s5M a x (dg V) b y (dg W) k) (s5L x (dg V) y (dg W)) (s5S a x (dg V) b y (dg W)) k)
theorem lenN_sum (a b : Bool) {A B n : Nat} (hA : lenN A ≤ n) (hB : lenN B ≤ n) : lenN (sumS a b A B) ≤ n + 1 := by
  have h1 := lenN_le.1 hA
  have h2 := lenN_le.1 hB
  have h0 : sumS a b A B ≤ A + B := by
    unfold sumS
    split
    · exact Nat.le_refl _
    · split <;> omega
  refine lenN_le.2 ?_
  rw [Nat.pow_succ]
  omega
theorem raS_at (a : Bool) {x : Int} {V : Nat} (b : Bool) {y : Int} {W : Nat} (k : Int) (hV : lenN V ≤ 100) (hW : lenN W ≤ 100) (hx : -1100 ≤ x ∧ x ≤ 1000) (hy : -1100 ≤ y ∧ y ≤ 1000) :
    raS a x V b y W k = some (.tup [.int .u64 ((rndP (sumM a b (exA V x y) (exA W y x) k) (sumS a b (exA V x y) (exA W y x)) (min x y) k : Nat) : Int), .int .i64 ((rndF (sumM a b (exA V x y) (exA W y x) k) (sumS a b (exA V x y) (exA W y x)) (min x y) k : Nat) : Int)]) := by
  obtain ⟨hm, hk⟩ := sum_any a b x V y W k
  obtain ⟨h1, h2⟩ := hk k
  obtain ⟨l1, l2, l3, l4⟩ := suLow_ge x V y W
  unfold raS raZ s5M s5S s5A s5B s5L zP zF
  rw [stk_eq, stk_eq, stk_eq, stk_eq, stk_eq, val_dg, val_dg, val_dg]
  have g1 : mayS5 x (dgl V) (dg V) y (dgl W) (dg W) = true := mayS5_iff.2 ⟨⟨mayD_dg (by omega), mayD_dg (by omega)⟩, by rw [val_dg]; omega, by rw [val_dg]; omega, by omega, by omega, by omega, by omega, by omega, by omega⟩
  generalize suLow x V y W = low at *
  have len : ∀ {V : Nat} {x : Int}, lenN V ≤ 100 → x - low ≤ 2500 → lenN (suA V x low) ≤ 2700 := by
    intro V x h3 h4
    unfold suA
    by_cases h0 : V = 0
    · subst h0; rw [Nat.zero_mul]; omega
    · rw [lenN_shl (show 0 < V by omega)]; omega
  have hA := len hV (x := x) (by omega)
  have hB := len hW (x := y) (by omega)
  have hS : lenN (sumS a b (suA V x low) (suA W y low)) ≤ 3000 := by
    have := lenN_sum a b hA hB
    omega
  have g2 : mayZ low (dgl (sumS a b (suA V x low) (suA W y low))) (dg (sumS a b (suA V x low) (suA W y low))) = true := mayZ_iff.2 ⟨mayD_dg (by omega), by rw [val_dg]; omega, by omega⟩
  rw [g1, g2]
  unfold rndP
  rw [h1, h2, hm]
  rfl

def sp_rAdd : List AV → Option (Bool × AV)
  | [.int .u64 p, .int .u64 q, .int .i64 k] => some (inU p && inU q, .tup [.int .u64 ((adP p.toNat q.toNat k : Nat) : Int), .int .i64 ((adF p.toNat q.toNat k : Nat) : Int)])
  | _ => none
/-! ### Sub -/
def sp_rSub : List AV → Option (Bool × AV)
  | [.int .u64 p, .int .u64 q, .int .i64 k] => some (inU p && inU q, .tup [.int .u64 ((adP p.toNat (stk (sbQ q.toNat)) k : Nat) : Int), .int .i64 ((adF p.toNat (stk (sbQ q.toNat)) k : Nat) : Int)])
  | _ => none
def rsAA (p q k : Int) : Option AV := chk (inU p && inU q) (some (.tup [.int .u64 ((adP p.toNat q.toNat k : Nat) : Int), .int .i64 ((adF p.toNat q.toNat k : Nat) : Int)]))
/-! ### SumsAdds, SumsSubs -/
theorem adF_small (p q : Nat) (k : Int) : w64 ((adF p q k : Nat) : Int) = (adF p q k : Nat) := by
  unfold adF
  rw [stk_eq]
  unfold adFN noGN
  split
  · split <;> exact w64_mid (by omega) (by omega)
  · split
    · exact w64_mid (by omega) (by omega)
    · split
      · exact w64_mid (by omega) (by omega)
      · split
        · exact w64_mid (by omega) (by omega)
        · exact F_small _ _ _ _
def sp_lawUUI : List AV → Option (Bool × AV)
  | [.int .u64 p, .int .u64 q, .int .i64 _] => some (inU p && inU q, .bool true)
  | _ => none
end
end Go.Proofs.YtdkebceiljdgjaaDoor
