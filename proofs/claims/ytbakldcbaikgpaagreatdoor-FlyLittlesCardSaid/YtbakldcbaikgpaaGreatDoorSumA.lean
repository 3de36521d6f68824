/- The texts Sums1, Sums2, Sums3, Exact, joined. Own work. -/
import Derived.Test.YtbakldcbaikgpaaGreatDoorPatB
/- Sums, on numbers: the exact one, and what is rounded as it is. Plain Lean. Own work. -/
namespace Go.Proofs.YtbakldcbaikgpaaGreatDoor
set_option maxRecDepth 100000
noncomputable section
/-- Two numbers that are rounded alike. -/
def alike (m : Bool) (S : Nat) (x : Int) (m' : Bool) (S' : Nat) (x' : Int) : Prop := m = m' ∧ ∀ k, sizeP m S x k = sizeP m' S' x' k ∧ rndF m S x k = rndF m' S' x' k
theorem alike.symm {m m' : Bool} {S S' : Nat} {x x' : Int} (h : alike m S x m' S' x') : alike m' S' x' m S x := ⟨h.1.symm, fun k => ⟨(h.2 k).1.symm, (h.2 k).2.symm⟩⟩
theorem alike.trans {m m' m'' : Bool} {S S' S'' : Nat} {x x' x'' : Int} (h : alike m S x m' S' x') (h' : alike m' S' x' m'' S'' x'') : alike m S x m'' S'' x'' :=
  ⟨h.1.trans h'.1, fun k => ⟨(h.2 k).1.trans (h'.2 k).1, (h.2 k).2.trans (h'.2 k).2⟩⟩
theorem alike_same (m : Bool) {S T : Nat} {x y : Int} (low : Int) (hx : low ≤ x) (hy : low ≤ y) (h : S * 2 ^ (x - low).toNat = T * 2 ^ (y - low).toNat) : alike m S x m T y :=
  ⟨rfl, fun k => rnd_same low hx hy h k m⟩
theorem alike_shift (m : Bool) (S a : Nat) (x : Int) : alike m S x m (S * 2 ^ a) (x - a) :=
  ⟨rfl, fun k => ⟨(size_scale S a x k m).symm, (F_scale S a x k m).symm⟩⟩
theorem alike_zero (m : Bool) (x y : Int) : alike m 0 x m 0 y := by
  refine ⟨rfl, fun k => ?_⟩
  unfold sizeP rndF
  rw [if_pos rfl, if_pos rfl, if_pos rfl, if_pos rfl]
  exact ⟨rfl, rfl⟩
/-! ### What is under a number's bits -/
theorem stick_q {N f sh : Nat} (hf : 0 < f) (hf2 : f < 2 ^ sh) {d : Int} (hd : (sh : Int) < d) :
    qN (N * 2 ^ sh + f) d = qN (2 * N + 1) (d - sh + 1) ∧ halfN (N * 2 ^ sh + f) d = halfN (2 * N + 1) (d - sh + 1) ∧ restN (N * 2 ^ sh + f) d = restN (2 * N + 1) (d - sh + 1) := by
  have hdiv : (N * 2 ^ sh + f) / 2 ^ sh = N := by
    rw [Nat.add_comm, Nat.add_mul_div_right _ _ (Nat.two_pow_pos sh), Nat.div_eq_of_lt hf2, Nat.zero_add]
  have hmod : (N * 2 ^ sh + f) % 2 ^ sh = f := by
    rw [Nat.add_comm, Nat.add_mul_mod_self_right, Nat.mod_eq_of_lt hf2]
  have cut : ∀ j : Nat, sh ≤ j → (N * 2 ^ sh + f) / 2 ^ j = N / 2 ^ (j - sh) := by
    intro j hj
    rw [pow_split hj, Nat.mul_comm (2 ^ (j - sh)), ← Nat.div_div_eq_div_mul, hdiv]
  refine ⟨?_, ?_, ?_⟩
  · rw [more_q N (d := d - sh) (by omega), qN_pos (by omega), cut _ (by omega)]
    congr 2
    omega
  · rw [more_half N (d := d - sh) (by omega), decide_eq_false (show ¬ d - (sh : Int) = 0 by omega), Bool.false_or]
    unfold halfN
    rw [decide_eq_true (show 0 < d by omega), Bool.true_and, cut _ (by omega), show d.toNat - 1 - sh = (d - (sh : Int)).toNat - 1 by omega]
  · rw [more_rest N (d := d - sh) (by omega), decide_eq_true (show 0 < d - (sh : Int) by omega)]
    unfold restN
    rw [decide_eq_true (show 0 < d by omega), Bool.true_and]
    refine decide_eq_true ?_
    intro h0
    have h1 : (N * 2 ^ sh + f) % 2 ^ (d.toNat - 1) % 2 ^ sh = (N * 2 ^ sh + f) % 2 ^ sh := Nat.mod_mod_of_dvd _ (Nat.pow_dvd_pow 2 (by omega))
    rw [h0, hmod, Nat.zero_mod] at h1
    omega
theorem lenN_stick {N f sh : Nat} (hN : 0 < N) (hf2 : f < 2 ^ sh) : lenN (N * 2 ^ sh + f) = lenN N + sh := by
  have h1 := lenN_add (m := N * 2 ^ sh + f) (k := sh) (by
    have := Nat.le_mul_of_pos_left (2 ^ sh) hN
    omega)
  rw [Nat.add_comm (N * 2 ^ sh), Nat.add_mul_div_right _ _ (Nat.two_pow_pos sh), Nat.div_eq_of_lt hf2, Nat.zero_add] at h1
  rw [Nat.add_comm (N * 2 ^ sh)]
  omega
theorem lenN_more {N : Nat} (hN : 0 < N) : lenN (2 * N + 1) = lenN N + 1 := by
  have := lenN_stick (N := N) (f := 1) (sh := 1) hN (by decide)
  rw [Nat.mul_comm 2]
  exact this
/-- A number of many bits with something under them is rounded as with a half more. -/
theorem alike_stick (m : Bool) {N f sh : Nat} (hN : 60 ≤ lenN N) (hf : 0 < f) (hf2 : f < 2 ^ sh) (x : Int) : alike m (N * 2 ^ sh + f) x m (2 * N + 1) (x + sh - 1) := by
  have hp : 0 < N := by
    rcases Nat.eq_zero_or_pos N with h | h
    · subst h; exact absurd hN (by decide)
    · exact h
  have l1 := lenN_stick hp hf2
  have l2 := lenN_more hp
  have ht : topN (N * 2 ^ sh + f) x = topN (2 * N + 1) (x + sh - 1) := by unfold topN; rw [l1, l2]; omega
  have htt : topN (N * 2 ^ sh + f) x = x + lenN N + sh := by unfold topN; rw [l1]; omega
  have hl : lowN (N * 2 ^ sh + f) x = lowN (2 * N + 1) (x + sh - 1) := by unfold lowN; rw [ht]
  have key : ∀ n : Int, topN (N * 2 ^ sh + f) x - 53 ≤ n → qN (N * 2 ^ sh + f) (n - x) = qN (2 * N + 1) (n - (x + sh - 1)) ∧ halfN (N * 2 ^ sh + f) (n - x) = halfN (2 * N + 1) (n - (x + sh - 1)) ∧ restN (N * 2 ^ sh + f) (n - x) = restN (2 * N + 1) (n - (x + sh - 1)) := by
    intro n hn
    have := stick_q (N := N) hf hf2 (d := n - x) (by omega)
    rw [show n - x - (sh : Int) + 1 = n - (x + sh - 1) by omega] at this
    exact this
  obtain ⟨k1, k2, k3⟩ := key (lowN (N * 2 ^ sh + f) x) (Int.le_max_left _ _)
  obtain ⟨t1, t2, t3⟩ := key (topN (N * 2 ^ sh + f) x - 53) (Int.le_refl _)
  have hne : N * 2 ^ sh + f ≠ 0 := by omega
  have hne2 : 2 * N + 1 ≠ 0 := by omega
  refine ⟨rfl, fun k => ?_⟩
  have hu : upD (N * 2 ^ sh + f) (lowN (N * 2 ^ sh + f) x - x) k m = upD (2 * N + 1) (lowN (2 * N + 1) (x + sh - 1) - (x + sh - 1)) k m := by unfold upD; rw [k1, k2, k3, hl]
  have hr : rawN m (N * 2 ^ sh + f) x k = rawN m (2 * N + 1) (x + sh - 1) k := by unfold rawN baseN; rw [hu, k1, hl]
  have hi : inexN (N * 2 ^ sh + f) (lowN (N * 2 ^ sh + f) x - x) = inexN (2 * N + 1) (lowN (2 * N + 1) (x + sh - 1) - (x + sh - 1)) := by unfold inexN; rw [k2, k3, hl]
  have hti : tinyN (N * 2 ^ sh + f) x k m = tinyN (2 * N + 1) (x + sh - 1) k m := by
    unfold tinyN toN upD
    rw [t1, t2, t3, ht]
  unfold sizeP rndF
  rw [hr, hi, hti, if_neg hne, if_neg hne, if_neg hne2, if_neg hne2]
  exact ⟨rfl, rfl⟩
/-! ### The exact sum -/
def sumS (a b : Bool) (A B : Nat) : Nat := if a = b then A + B else if B ≤ A then A - B else B - A
def sumM (a b : Bool) (A B : Nat) (k : Int) : Bool := if a = b then a else if A = B then decide (k = 4) else if B < A then a else b
def exA (S : Nat) (x y : Int) : Nat := S * 2 ^ (x - min x y).toNat
theorem sumS_comm (a b : Bool) (A B : Nat) : sumS a b A B = sumS b a B A := by
  unfold sumS
  by_cases h : a = b
  · subst h
    rw [if_pos rfl, if_pos rfl, Nat.add_comm]
  · have h' : ¬ b = a := fun e => h e.symm
    rw [if_neg h, if_neg h']
    by_cases h1 : B ≤ A
    · rw [if_pos h1]
      by_cases h2 : A ≤ B
      · rw [if_pos h2]; omega
      · rw [if_neg h2]
    · rw [if_neg h1, if_pos (show A ≤ B by omega)]
theorem sumM_comm (a b : Bool) (A B : Nat) (k : Int) : sumM a b A B k = sumM b a B A k := by
  unfold sumM
  by_cases h : a = b
  · subst h
    rw [if_pos rfl, if_pos rfl]
  · have h' : ¬ b = a := fun e => h e.symm
    rw [if_neg h, if_neg h']
    by_cases h1 : A = B
    · rw [if_pos h1, if_pos h1.symm]
    · rw [if_neg h1, if_neg (show ¬ B = A from fun e => h1 e.symm)]
      by_cases h2 : B < A
      · rw [if_pos h2, if_neg (show ¬ A < B by omega)]
      · rw [if_neg h2, if_pos (show A < B by omega)]
/-- How numbers are added: more, where something is under the bits. -/
structure Nm where
  m : Bool
  x : Int
  s : Nat
  r : Bool
def noM (a b : Bool) (k : Int) : Bool := if a = b then a else decide (k = 4)
def alJ (a : Bool) (x : Int) (S : Nat) (b : Bool) (y : Int) (T : Nat) (k : Int) : Nm :=
  ⟨sumM a b (S * 2 ^ (x - y).toNat) T k, if a ≠ b ∧ S * 2 ^ (x - y).toNat = T then 0 else y, sumS a b (S * 2 ^ (x - y).toNat) T, false⟩
def bsLost (S : Nat) (x : Int) (T : Nat) (y : Int) : Bool := decide (T % 2 ^ (x - (250 - lenN S) - y).toNat ≠ 0)
def bsS (a b : Bool) (S : Nat) (x : Int) (T : Nat) (y : Int) : Nat :=
  if a = b then S * 2 ^ (250 - lenN S) + T / 2 ^ (x - (250 - lenN S) - y).toNat else S * 2 ^ (250 - lenN S) - T / 2 ^ (x - (250 - lenN S) - y).toNat - (bsLost S x T y).toNat
def bsJ (a : Bool) (x : Int) (S : Nat) (b : Bool) (y : Int) (T : Nat) : Nm := ⟨a, x - (250 - lenN S), bsS a b S x T y, bsLost S x T y⟩
def jn2 (a : Bool) (x : Int) (S : Nat) (b : Bool) (y : Int) (T : Nat) (k : Int) : Nm := if (lenN S : Int) + x - y < 250 then alJ a x S b y T k else bsJ a x S b y T
def jn (a : Bool) (x : Int) (S : Nat) (b : Bool) (y : Int) (T : Nat) (k : Int) : Nm :=
  if S = 0 then (if T = 0 then ⟨noM a b k, 0, 0, false⟩ else ⟨b, y, T, false⟩) else if T = 0 then ⟨a, x, S, false⟩ else if x < y then jn2 b y T a x S k else jn2 a x S b y T k
theorem al_law (a : Bool) {x : Int} (S : Nat) (b : Bool) {y : Int} (T : Nat) (k : Int) : alike (alJ a x S b y T k).m (nS (alJ a x S b y T k).s (alJ a x S b y T k).r) (nE (alJ a x S b y T k).x (alJ a x S b y T k).r) (sumM a b (S * 2 ^ (x - y).toNat) T k) (sumS a b (S * 2 ^ (x - y).toNat) T) y := by
  show alike (sumM a b (S * 2 ^ (x - y).toNat) T k) (sumS a b (S * 2 ^ (x - y).toNat) T) (if a ≠ b ∧ S * 2 ^ (x - y).toNat = T then 0 else y) _ _ _
  by_cases h : a ≠ b ∧ S * 2 ^ (x - y).toNat = T
  · rw [if_pos h]
    have : sumS a b (S * 2 ^ (x - y).toNat) T = 0 := by
      unfold sumS
      rw [if_neg h.1, h.2, if_pos (Nat.le_refl _), Nat.sub_self]
    rw [this]
    exact alike_zero _ _ _
  · rw [if_neg h]
    exact ⟨rfl, fun k => ⟨rfl, rfl⟩⟩
theorem bs_law {S T : Nat} (hS : 0 < S) (hT : 0 < T) (hl : lenN S ≤ 128) (ht : lenN T ≤ 128) (a b : Bool) {x y : Int} (h : 250 ≤ (lenN S : Int) + x - y) (k : Int) :
    alike (bsJ a x S b y T).m (nS (bsJ a x S b y T).s (bsJ a x S b y T).r) (nE (bsJ a x S b y T).x (bsJ a x S b y T).r) (sumM a b (S * 2 ^ (x - y).toNat) T k) (sumS a b (S * 2 ^ (x - y).toNat) T) y := by
  obtain ⟨u, hu⟩ : ∃ u : Nat, u = 250 - lenN S := ⟨_, rfl⟩
  obtain ⟨sh, hsh⟩ : ∃ sh : Nat, (sh : Int) = x - u - y := ⟨(x - u - y).toNat, by omega⟩
  have e0 : (x - (250 - lenN S : Int) - y).toNat = sh := by omega
  have e1 : (250 - (lenN S : Int)) = (u : Int) := by omega
  have hA : S * 2 ^ (x - y).toNat = S * 2 ^ u * 2 ^ sh := by
    rw [Nat.mul_assoc, ← Nat.pow_add]
    congr 2
    omega
  have hlen : lenN (S * 2 ^ u) = 250 := by rw [lenN_shl hS]; omega
  have hP : 2 ^ 249 ≤ S * 2 ^ u := by
    have := le_lenN (v := S * 2 ^ u) (Nat.mul_pos hS (Nat.two_pow_pos u))
    rw [hlen] at this
    exact this
  have hTl : T < 2 ^ 128 := Nat.lt_of_lt_of_le (lt_lenN T) (Nat.pow_le_pow_right (by decide) ht)
  have hsm : T / 2 ^ sh ≤ T := Nat.div_le_self _ _
  have hT2 := Nat.mod_add_div T (2 ^ sh)
  have hfl : T % 2 ^ sh < 2 ^ sh := Nat.mod_lt _ (Nat.two_pow_pos sh)
  have hbs : bsJ a x S b y T = ⟨a, x - u, if a = b then S * 2 ^ u + T / 2 ^ sh else S * 2 ^ u - T / 2 ^ sh - (decide (T % 2 ^ sh ≠ 0)).toNat, decide (T % 2 ^ sh ≠ 0)⟩ := by
    unfold bsJ bsS bsLost
    rw [e0, e1, ← hu]
  have hbig : T < S * 2 ^ u * 2 ^ sh := by
    have h1 : S * 2 ^ u ≤ S * 2 ^ u * 2 ^ sh := Nat.le_mul_of_pos_right _ (Nat.two_pow_pos sh)
    have h2 : (2 : Nat) ^ 64 < 2 ^ 249 := by decide
    omega
  have hM : sumM a b (S * 2 ^ (x - y).toNat) T k = a := by
    unfold sumM
    rw [hA]
    by_cases hab : a = b
    · rw [if_pos hab]
    · rw [if_neg hab, if_neg (show ¬ S * 2 ^ u * 2 ^ sh = T by omega), if_pos hbig]
  rw [hM, hbs]
  unfold sumS
  rw [hA]
  have h249 : (2 : Nat) ^ 64 + 2 < 2 ^ 249 := by decide
  have h248 : (2 : Nat) ^ 248 + 2 ^ 128 + 2 < 2 ^ 249 := by decide
  by_cases hlost : T % 2 ^ sh = 0
  · rw [hlost, Nat.zero_add, Nat.mul_comm] at hT2
    rw [decide_eq_false (show ¬ T % 2 ^ sh ≠ 0 by simp [hlost])]
    show alike a (if a = b then S * 2 ^ u + T / 2 ^ sh else S * 2 ^ u - T / 2 ^ sh - 0) (x - u) a _ y
    refine alike_same a y (by omega) (by omega) ?_
    rw [Int.sub_self, show (0 : Int).toNat = 0 from rfl, Nat.pow_zero, Nat.mul_one, show (x - (u : Int) - y).toNat = sh by omega]
    split
    · rw [Nat.add_mul, hT2]
    · rw [if_pos (Nat.le_of_lt hbig), Nat.sub_zero, Nat.sub_mul, hT2]
  · rw [decide_eq_true (show T % 2 ^ sh ≠ 0 from hlost)]
    show alike a (2 * (if a = b then S * 2 ^ u + T / 2 ^ sh else S * 2 ^ u - T / 2 ^ sh - 1) + 1) (x - u - 1) a _ y
    have hx : x - (u : Int) - 1 = y + sh - 1 := by omega
    rw [hx]
    rw [Nat.mul_comm] at hT2
    by_cases hab : a = b
    · rw [if_pos hab, if_pos hab]
      have hlN : 60 ≤ lenN (S * 2 ^ u + T / 2 ^ sh) := by
        have := lenN_mono (show S * 2 ^ u ≤ S * 2 ^ u + T / 2 ^ sh from Nat.le_add_right _ _)
        omega
      have := alike_stick a hlN (f := T % 2 ^ sh) (sh := sh) (by omega) hfl y
      rw [show (S * 2 ^ u + T / 2 ^ sh) * 2 ^ sh + T % 2 ^ sh = S * 2 ^ u * 2 ^ sh + T by rw [Nat.add_mul]; omega] at this
      exact this.symm
    · rw [if_neg hab, if_neg hab, if_pos (Nat.le_of_lt hbig)]
      generalize hN : S * 2 ^ u - T / 2 ^ sh - 1 = N
      have hN2 : N + 1 + T / 2 ^ sh = S * 2 ^ u := by omega
      have hlN : 60 ≤ lenN N := by
        have h1 : 2 ^ 248 ≤ N := by omega
        have h2 := lenN_mono h1
        have h3 : lenN (2 ^ 248) = 249 := by decide +kernel
        omega
      have hmul : S * 2 ^ u * 2 ^ sh = N * 2 ^ sh + 2 ^ sh + T / 2 ^ sh * 2 ^ sh := by rw [← hN2, Nat.add_mul, Nat.add_mul, Nat.one_mul]
      have hf1 : 0 < 2 ^ sh - T % 2 ^ sh := by omega
      have hf2 : 2 ^ sh - T % 2 ^ sh < 2 ^ sh := by omega
      have he : N * 2 ^ sh + (2 ^ sh - T % 2 ^ sh) = S * 2 ^ u * 2 ^ sh - T := by omega
      have := alike_stick a hlN hf1 hf2 y
      rw [he] at this
      exact this.symm
/-- A sum is rounded as the exact one. -/
theorem jn_law {S T : Nat} (hl : lenN S ≤ 128) (ht : lenN T ≤ 128) (a b : Bool) (x y : Int) (k : Int) :
    alike (jn a x S b y T k).m (nS (jn a x S b y T k).s (jn a x S b y T k).r) (nE (jn a x S b y T k).x (jn a x S b y T k).r) (sumM a b (exA S x y) (exA T y x) k) (sumS a b (exA S x y) (exA T y x)) (min x y) := by
  have hsh : ∀ (m : Bool) (S : Nat) (x y : Int), alike m S x m (exA S x y) (min x y) := by
    intro m S x y
    have := alike_shift m S (x - min x y).toNat x
    rw [show x - ((x - min x y).toNat : Int) = min x y by omega] at this
    exact this
  unfold jn
  by_cases hS : S = 0
  · rw [if_pos hS]
    have e1 : exA S x y = 0 := by unfold exA; rw [hS, Nat.zero_mul]
    rw [e1]
    by_cases hT : T = 0
    · rw [if_pos hT]
      have e2 : exA T y x = 0 := by unfold exA; rw [hT, Nat.zero_mul]
      rw [e2]
      have e3 : sumM a b 0 0 k = noM a b k := by unfold sumM noM; split <;> rfl
      have e4 : sumS a b 0 0 = 0 := by unfold sumS; split <;> rfl
      rw [e3, e4]
      exact alike_zero _ _ _
    · rw [if_neg hT]
      have hB : 0 < exA T y x := Nat.mul_pos (by omega) (Nat.two_pow_pos _)
      have e3 : sumM a b 0 (exA T y x) k = b := by
        unfold sumM
        by_cases hab : a = b
        · rw [if_pos hab]; exact hab
        · rw [if_neg hab, if_neg (show ¬ 0 = exA T y x by omega), if_neg (show ¬ exA T y x < 0 by omega)]
      have e4 : sumS a b 0 (exA T y x) = exA T y x := by
        unfold sumS
        by_cases hab : a = b
        · rw [if_pos hab]; omega
        · rw [if_neg hab, if_neg (show ¬ exA T y x ≤ 0 by omega)]; omega
      rw [e3, e4]
      have := hsh b T y x
      rw [Int.min_comm] at this
      exact this
  · rw [if_neg hS]
    by_cases hT : T = 0
    · rw [if_pos hT]
      have e2 : exA T y x = 0 := by unfold exA; rw [hT, Nat.zero_mul]
      have hA : 0 < exA S x y := Nat.mul_pos (by omega) (Nat.two_pow_pos _)
      rw [e2]
      have e3 : sumM a b (exA S x y) 0 k = a := by
        unfold sumM
        by_cases hab : a = b
        · rw [if_pos hab]
        · rw [if_neg hab, if_neg (show ¬ exA S x y = 0 by omega), if_pos hA]
      have e4 : sumS a b (exA S x y) 0 = exA S x y := by
        unfold sumS
        by_cases hab : a = b
        · rw [if_pos hab]; omega
        · rw [if_neg hab, if_pos (show 0 ≤ exA S x y by omega)]; omega
      rw [e3, e4]
      exact hsh a S x y
    · rw [if_neg hT]
      by_cases hxy : x < y
      · rw [if_pos hxy, sumM_comm, sumS_comm]
        have e1 : exA S x y = S := by unfold exA; rw [show (x - min x y).toNat = 0 by omega, Nat.pow_zero, Nat.mul_one]
        have e2 : exA T y x = T * 2 ^ (y - x).toNat := by unfold exA; rw [show y - min y x = y - x by omega]
        have e3 : min x y = x := by omega
        rw [e1, e2, e3]
        unfold jn2
        by_cases h : (lenN T : Int) + y - x < 250
        · rw [if_pos h]; exact al_law b T a S k
        · rw [if_neg h]; exact bs_law (by omega) (by omega) ht hl b a (by omega) k
      · rw [if_neg hxy]
        have e1 : exA S x y = S * 2 ^ (x - y).toNat := by unfold exA; rw [show x - min x y = x - y by omega]
        have e2 : exA T y x = T := by unfold exA; rw [show (y - min y x).toNat = 0 by omega, Nat.pow_zero, Nat.mul_one]
        have e3 : min x y = y := by omega
        rw [e1, e2, e3]
        unfold jn2
        by_cases h : (lenN S : Int) + x - y < 250
        · rw [if_pos h]; exact al_law a S b T k
        · rw [if_neg h]; exact bs_law (by omega) (by omega) hl ht a b (by omega) k
end
end Go.Proofs.YtbakldcbaikgpaaGreatDoor
/- sums: nought, aligned, beside, join. Own work. -/
namespace Go.Proofs.YtbakldcbaikgpaaGreatDoor
set_option maxRecDepth 100000
noncomputable section
def sp_nought : List AV → Option (Bool × AV)
  | [.bool a, .bool b, .int .i64 k] => some (true, .st [.bool (stk (noM a b k)), .int .i64 0, .ints 4 .u64 [0, 0, 0, 0], .bool false])
  | _ => none
theorem run_nought (a b : Bool) (k : Int) : callA (env Tryz.f116.ntmps [] []) (bodyC Tryz.f116) Tryz.f116.results.toList (slots 0 [.bool a, .bool b, .int .i64 k]) some =
    bif a == b then some (.st [.bool a, .int .i64 0, .ints 4 .u64 [0, 0, 0, 0], .bool false]) else some (.st [.bool (k == 4), .int .i64 0, .ints 4 .u64 [0, 0, 0, 0], .bool false]) := by kernel_rfl
theorem ok_nought : EntOk Tryz.prog 116 (entS false sp_nought) := by
  refine contractS (orc := []) (lo := []) Tryz.func116 orc_nil (by kernel_rfl) (by kernel_rfl) (by kernel_rfl) (loops_none (by kernel_rfl)) fun args r h => ?_
  unfold sp_nought at h
  split at h
  · rename_i a b k
    simp only [Option.some.injEq, Prod.mk.injEq] at h
    obtain ⟨-, rfl⟩ := h
    refine ⟨by kernel_rfl, .inr rfl, (run_nought a b k).trans ?_⟩
    rw [stk_eq]
    have e : (k == 4) = decide (k = 4) := by
      by_cases h : k = 4
      · rw [decide_eq_true h]; exact beq_iff_eq.2 h
      · rw [decide_eq_false h]; exact beq_eq_false_iff_ne.2 h
    rw [e]
    unfold noM
    cases a <;> cases b <;> rfl
  · cases h
def rng (s : List Int) (x : Int) (t : List Int) (y : Int) : Prop := (lenN (valW s) ≤ 128 ∧ lenN (valW t) ≤ 128) ∧ (-200000 ≤ x ∧ x ≤ 200000) ∧ (-200000 ≤ y ∧ y ≤ 200000)
instance (s : List Int) (x : Int) (t : List Int) (y : Int) : Decidable (rng s x t y) := by unfold rng; infer_instance
def mayJ (s : List Int) (x : Int) (t : List Int) (y : Int) : Bool := okW s && okW t && stk (decide (rng s x t y))
def mayA (s : List Int) (x : Int) (t : List Int) (y : Int) : Bool := okW s && okW t && stk (decide (rng s x t y ∧ y ≤ x ∧ (lenN (valW s) : Int) + x - y < 250))
def mayB (s : List Int) (x : Int) (t : List Int) (y : Int) : Bool := okW s && okW t && stk (decide (rng s x t y ∧ valW s ≠ 0 ∧ 250 ≤ (lenN (valW s) : Int) + x - y))
def aJ (a : Bool) (x : Int) (s : List Int) (b : Bool) (y : Int) (t : List Int) (k : Int) : Nm := stk (alJ a x (valW s) b y (valW t) k)
def bJ (a : Bool) (x : Int) (s : List Int) (b : Bool) (y : Int) (t : List Int) : Nm := stk (bsJ a x (valW s) b y (valW t))
def jJ (a : Bool) (x : Int) (s : List Int) (b : Bool) (y : Int) (t : List Int) (k : Int) : Nm := stk (jn a x (valW s) b y (valW t) k)
theorem mayA_iff {s : List Int} {x : Int} {t : List Int} {y : Int} : mayA s x t y = true ↔ (okW s = true ∧ okW t = true) ∧ (rng s x t y ∧ y ≤ x ∧ (lenN (valW s) : Int) + x - y < 250) := by
  unfold mayA; rw [stk_eq, Bool.and_eq_true, Bool.and_eq_true, decide_eq_true_iff]
theorem mayB_iff {s : List Int} {x : Int} {t : List Int} {y : Int} : mayB s x t y = true ↔ (okW s = true ∧ okW t = true) ∧ (rng s x t y ∧ valW s ≠ 0 ∧ 250 ≤ (lenN (valW s) : Int) + x - y) := by
  unfold mayB; rw [stk_eq, Bool.and_eq_true, Bool.and_eq_true, decide_eq_true_iff]
theorem mayJ_iff {s : List Int} {x : Int} {t : List Int} {y : Int} : mayJ s x t y = true ↔ (okW s = true ∧ okW t = true) ∧ rng s x t y := by
  unfold mayJ; rw [stk_eq, Bool.and_eq_true, Bool.and_eq_true, decide_eq_true_iff]
/-! ### aligned -/
def sp_aligned : List AV → Option (Bool × AV)
  | [.st [.bool a, .int .i64 x, .ints 4 .u64 s, .bool false], .st [.bool b, .int .i64 y, .ints 4 .u64 t, .bool false], .int .i64 k] =>
    some (mayA s x t y, .st [.bool (aJ a x s b y t k).m, .int .i64 (aJ a x s b y t k).x, .ints 4 .u64 (toW (aJ a x s b y t k).s), .bool false])
  | _ => none
def orcAl : List (FuncId × Ent) := [(139, entS false sp_wShl), (138, entS false sp_wAdd), (145, entS false sp_wCmp), (116, entS false sp_nought), (146, entS false sp_wSub)]
def alT (a b : Bool) (y : Int) (v t : List Int) (k : Int) : Option AV :=
  bif a == b then chk (okW v && okW t) (some (.st [.bool b, .int .i64 y, .ints 4 .u64 (toW (valW v + valW t)), .bool false])) else chk (okW v && okW t) (bif (cmpN (valW v) (valW t)) == 0 then some (.st [.bool (stk (noM false true k)), .int .i64 0, .ints 4 .u64 [0, 0, 0, 0], .bool false]) else
    bif (cmpN (valW v) (valW t)) == 1 then chk (okW v && okW t) (some (.st [.bool a, .int .i64 y, .ints 4 .u64 (toW (valW v + big256 - valW t)), .bool false])) else chk (okW t && okW v) (some (.st [.bool b, .int .i64 y, .ints 4 .u64 (toW (valW t + big256 - valW v)), .bool false])))
theorem run_aligned (a : Bool) (x : Int) (s : List Int) (b : Bool) (y : Int) (t : List Int) (k : Int) : callA (env Tryz.f117.ntmps orcAl []) (bodyC Tryz.f117) Tryz.f117.results.toList (slots 0 [.st [.bool a, .int .i64 x, .ints 4 .u64 s, .bool false], .st [.bool b, .int .i64 y, .ints 4 .u64 t, .bool false], .int .i64 k]) some =
    chk (okW s) (alT a b y (toW (valW s * 2 ^ (w64 (x - y)).toNat)) t k) := by kernel_rfl
theorem zeroW : toW 0 = [0, 0, 0, 0] := toW_of 0 0 0 0 0 0 (by decide) (by decide) (by decide) (by decide) rfl
theorem shl_lt {S n : Nat} (h : lenN S + n ≤ 255) : S * 2 ^ n < 115792089237316195423570985008687907853269984665640564039457584007913129639936 := by
  have h1 : lenN (S * 2 ^ n) ≤ 256 := by
    rcases Nat.eq_zero_or_pos S with h0 | h0
    · subst h0; rw [Nat.zero_mul]; exact Nat.zero_le _
    · rw [lenN_shl h0]; omega
  exact lenN_le.1 h1
theorem alT_at (a b : Bool) (y : Int) {A : Nat} (hA : A < 115792089237316195423570985008687907853269984665640564039457584007913129639936) {t : List Int} (ht : okW t = true) (k : Int) :
    alT a b y (toW A) t k = some (.st [.bool (sumM a b A (valW t) k), .int .i64 (if a ≠ b ∧ A = valW t then 0 else y), .ints 4 .u64 (toW (sumS a b A (valW t))), .bool false]) := by
  have hv : valW (toW A) = A := by rw [valW_toW]; exact Nat.mod_eq_of_lt hA
  have hl := valW_lt ht
  unfold alT
  rw [hv, okW_toW, ht, stk_eq]
  have c0 : A = valW t → cmpN A (valW t) = 0 := fun h => by unfold cmpN; rw [if_neg (show ¬ A < valW t by omega), if_neg (show ¬ A > valW t by omega)]
  have c1 : valW t < A → cmpN A (valW t) = 1 := fun h => by unfold cmpN; rw [if_neg (show ¬ A < valW t by omega), if_pos h]
  have c2 : A < valW t → cmpN A (valW t) = -1 := fun h => by unfold cmpN; rw [if_pos h]
  unfold sumM sumS
  generalize valW t = T at *
  by_cases hab : a = b
  · subst hab
    simp only [beq_self_eq_true, cond_true, if_true, chk, Bool.and_self, ne_eq, not_true_eq_false, false_and, if_false]
  · rw [beq_eq_false_iff_ne.2 hab, if_neg hab, if_neg hab]
    by_cases h1 : A = T
    · rw [c0 h1, if_pos h1, if_pos (show a ≠ b ∧ A = T from ⟨hab, h1⟩), if_pos (show T ≤ A by omega), h1, Nat.sub_self, zeroW]
      unfold noM
      rfl
    · rw [if_neg h1, if_neg (show ¬ (a ≠ b ∧ A = T) from fun h => h1 h.2)]
      by_cases h2 : T < A
      · rw [c1 h2, if_pos h2, if_pos (show T ≤ A by omega), show A + big256 - T = A - T + big256 by omega, toW_big]
        rfl
      · rw [c2 (by omega), if_neg h2, if_neg (show ¬ T ≤ A by omega), show T + big256 - A = T - A + big256 by omega, toW_big]
        rfl
theorem ok_aligned : EntOk Tryz.prog 117 (entS false sp_aligned) := by
  refine contractS (orc := orcAl) (lo := []) Tryz.func117 (orc_cons ok_wShl (orc_cons ok_wAdd (orc_cons ok_wCmp (orc_cons ok_nought (orc_cons ok_wSub orc_nil))))) (by kernel_rfl) (by kernel_rfl) (by kernel_rfl) (loops_none (by kernel_rfl)) fun args r h => ?_
  unfold sp_aligned at h
  split at h
  · rename_i a x s b y t k
    simp only [Option.some.injEq, Prod.mk.injEq, mayA_iff, rng] at h
    obtain ⟨⟨⟨hs, ht⟩, ⟨⟨h1, h2⟩, ⟨h3, h4⟩, h5, h6⟩, h7, h8⟩, rfl⟩ := h
    refine ⟨by kernel_rfl, .inr rfl, (run_aligned a x s b y t k).trans ?_⟩
    rw [hs, w64_mid (by omega) (by omega), alT_at a b y (shl_lt (by omega)) ht k]
    unfold aJ
    rw [stk_eq]
    rfl
  · cases h
/-! ### beside -/
def sp_beside : List AV → Option (Bool × AV)
  | [.st [.bool a, .int .i64 x, .ints 4 .u64 s, .bool false], .st [.bool b, .int .i64 y, .ints 4 .u64 t, .bool false]] =>
    some (mayB s x t y, .st [.bool (bJ a x s b y t).m, .int .i64 (bJ a x s b y t).x, .ints 4 .u64 (toW (bJ a x s b y t).s), .bool (bJ a x s b y t).r])
  | _ => none
def orcBs : List (FuncId × Ent) := [(107, entS false sp_wLen), (110, entS false sp_wShr), (139, entS false sp_wShl), (138, entS false sp_wAdd), (146, entS false sp_wSub), (114, entS false sp_wOf)]
def bsT (a b : Bool) (x : Int) (v q : List Int) (l : Bool) : Option AV :=
  bif a == b then chk (okW v && okW q) (some (.st [.bool a, .int .i64 x, .ints 4 .u64 (toW (valW v + valW q)), .bool l])) else chk (okW v && okW q) (bif l then chk (inU 1) (chk (okW (toW (valW v + big256 - valW q)) && okW (toW (1 : Int).toNat))
    (some (.st [.bool a, .int .i64 x, .ints 4 .u64 (toW (valW (toW (valW v + big256 - valW q)) + big256 - valW (toW (1 : Int).toNat))), .bool l]))) else some (.st [.bool a, .int .i64 x, .ints 4 .u64 (toW (valW v + big256 - valW q)), .bool l]))
def bsU (a b : Bool) (s t : List Int) (x y u : Int) : Option AV :=
  chk (okW t) (chk (okW s) (bsT a b (w64 (x - u)) (toW (valW s * 2 ^ u.toNat)) (toW (valW t / 2 ^ (w64 ((w64 (x - u)) - y)).toNat)) (decide (valW t % 2 ^ (w64 ((w64 (x - u)) - y)).toNat ≠ 0))))
theorem run_beside (a : Bool) (x : Int) (s : List Int) (b : Bool) (y : Int) (t : List Int) : callA (env Tryz.f118.ntmps orcBs []) (bodyC Tryz.f118) Tryz.f118.results.toList (slots 0 [.st [.bool a, .int .i64 x, .ints 4 .u64 s, .bool false], .st [.bool b, .int .i64 y, .ints 4 .u64 t, .bool false]]) some =
    chk (okW s) (bsU a b s t x y (w64 (250 - ((lenN (valW s) : Nat) : Int)))) := by kernel_rfl
theorem bsT_at (a b : Bool) (x : Int) {P Q : Nat} (hP : P < 115792089237316195423570985008687907853269984665640564039457584007913129639936) (hQ : Q < P) (l : Bool) :
    bsT a b x (toW P) (toW Q) l = some (.st [.bool a, .int .i64 x, .ints 4 .u64 (toW (if a = b then P + Q else P - Q - l.toNat)), .bool l]) := by
  have hp : valW (toW P) = P := by rw [valW_toW]; exact Nat.mod_eq_of_lt hP
  have hq : valW (toW Q) = Q := by rw [valW_toW]; exact Nat.mod_eq_of_lt (by omega)
  have h1 : valW (toW (1 : Int).toNat) = 1 := by rw [valW_toW]; rfl
  unfold bsT
  rw [hp, hq, h1, okW_toW, okW_toW, okW_toW, okW_toW, inU_one, show P + big256 - Q = P - Q + big256 by omega, toW_big]
  have hd : valW (toW (P - Q)) = P - Q := by rw [valW_toW]; exact Nat.mod_eq_of_lt (by omega)
  rw [hd, show P - Q + big256 - 1 = P - Q - 1 + big256 by omega, toW_big]
  by_cases hab : a = b
  · subst hab
    simp only [beq_self_eq_true, cond_true, if_true, chk, Bool.and_self]
  · rw [beq_eq_false_iff_ne.2 hab, if_neg hab]
    cases l
    · rfl
    · rfl
theorem ok_beside : EntOk Tryz.prog 118 (entS false sp_beside) := by
  refine contractS (orc := orcBs) (lo := []) Tryz.func118 (orc_cons ok_wLen (orc_cons ok_wShr (orc_cons ok_wShl (orc_cons ok_wAdd (orc_cons ok_wSub (orc_cons ok_wOf orc_nil)))))) (by kernel_rfl) (by kernel_rfl) (by kernel_rfl) (loops_none (by kernel_rfl)) fun args r h => ?_
  unfold sp_beside at h
  split at h
  · rename_i a x s b y t
    simp only [Option.some.injEq, Prod.mk.injEq, mayB_iff, rng] at h
    obtain ⟨⟨⟨hs, ht⟩, ⟨⟨h1, h2⟩, ⟨h3, h4⟩, h5, h6⟩, h7, h8⟩, rfl⟩ := h
    refine ⟨by kernel_rfl, .inr rfl, (run_beside a x s b y t).trans ?_⟩
    have hP : valW s * 2 ^ (250 - lenN (valW s)) < 115792089237316195423570985008687907853269984665640564039457584007913129639936 := shl_lt (by omega)
    have hQ : valW t / 2 ^ (x - (250 - (lenN (valW s) : Int)) - y).toNat < valW s * 2 ^ (250 - lenN (valW s)) := by
      have q1 : valW t < 2 ^ 128 := Nat.lt_of_lt_of_le (lt_lenN _) (Nat.pow_le_pow_right (by decide) h2)
      have q2 : valW t / 2 ^ (x - (250 - (lenN (valW s) : Int)) - y).toNat ≤ valW t := Nat.div_le_self _ _
      have q3 : (2 : Nat) ^ 128 < 2 ^ 249 := by decide
      have q5 := lenN_pos (v := valW s) (by omega)
      have q4 : 2 ^ 249 ≤ valW s * 2 ^ (250 - lenN (valW s)) := by
        have := Nat.mul_le_mul_right (2 ^ (250 - lenN (valW s))) (le_lenN (show 0 < valW s by omega))
        rw [← Nat.pow_add, show lenN (valW s) - 1 + (250 - lenN (valW s)) = 249 by omega] at this
        exact this
      omega
    have e1 : w64 (250 - ((lenN (valW s) : Nat) : Int)) = 250 - ((lenN (valW s) : Nat) : Int) := w64_mid (by omega) (by omega)
    have e2 : (250 - ((lenN (valW s) : Nat) : Int)).toNat = 250 - lenN (valW s) := by omega
    have e3 : w64 (x - (250 - ((lenN (valW s) : Nat) : Int))) = x - (250 - ((lenN (valW s) : Nat) : Int)) := w64_mid (by omega) (by omega)
    have e4 : w64 (x - (250 - ((lenN (valW s) : Nat) : Int)) - y) = x - (250 - ((lenN (valW s) : Nat) : Int)) - y := w64_mid (by omega) (by omega)
    rw [hs, e1]
    unfold bsU
    rw [e2, e3, e4, hs, ht, bsT_at a b _ hP hQ]
    unfold bJ
    rw [stk_eq]
    rfl
  · cases h
/-! ### join -/
def sp_join : List AV → Option (Bool × AV)
  | [.st [.bool a, .int .i64 x, .ints 4 .u64 s, .bool false], .st [.bool b, .int .i64 y, .ints 4 .u64 t, .bool false], .int .i64 k] =>
    some (mayJ s x t y, .st [.bool (jJ a x s b y t k).m, .int .i64 (jJ a x s b y t k).x, .ints 4 .u64 (toW (jJ a x s b y t k).s), .bool (jJ a x s b y t k).r])
  | _ => none
def orcJoin : List (FuncId × Ent) := [(116, entS false sp_nought), (107, entS false sp_wLen), (117, entS false sp_aligned), (118, entS false sp_beside)]
def jnU (a : Bool) (x : Int) (s : List Int) (b : Bool) (y : Int) (t : List Int) (k : Int) : Option AV :=
  chk (okW s) (bif decide ((w64 ((w64 (((lenN (valW s) : Nat) : Int) + x)) - y)) < 250) then chk (mayA s x t y) (some (.st [.bool (aJ a x s b y t k).m, .int .i64 (aJ a x s b y t k).x, .ints 4 .u64 (toW (aJ a x s b y t k).s), .bool false])) else
    chk (mayB s x t y) (some (.st [.bool (bJ a x s b y t).m, .int .i64 (bJ a x s b y t).x, .ints 4 .u64 (toW (bJ a x s b y t).s), .bool (bJ a x s b y t).r])))
def jnV (a : Bool) (x : Int) (s : List Int) (b : Bool) (y : Int) (t : List Int) (k : Int) : Option AV :=
  bif decide (s = [0, 0, 0, 0]) then some (.st [.bool b, .int .i64 y, .ints 4 .u64 t, .bool false]) else bif decide (t = [0, 0, 0, 0]) then some (.st [.bool a, .int .i64 x, .ints 4 .u64 s, .bool false]) else
    bif decide (x < y) then jnU b y t a x s k else jnU a x s b y t k
theorem run_join (a : Bool) (x : Int) (s : List Int) (b : Bool) (y : Int) (t : List Int) (k : Int) : callA (env Tryz.f77.ntmps orcJoin []) (bodyC Tryz.f77) Tryz.f77.results.toList (slots 0 [.st [.bool a, .int .i64 x, .ints 4 .u64 s, .bool false], .st [.bool b, .int .i64 y, .ints 4 .u64 t, .bool false], .int .i64 k]) some =
    bif decide (s = [0, 0, 0, 0]) then (bif decide (t = [0, 0, 0, 0]) then some (.st [.bool (stk (noM a b k)), .int .i64 0, .ints 4 .u64 [0, 0, 0, 0], .bool false]) else jnV a x s b y t k) else jnV a x s b y t k := by kernel_rfl
theorem isZeroW {s : List Int} (hs : okW s = true) : s = [0, 0, 0, 0] ↔ valW s = 0 := by
  have h0 := toW_inj hs 0 (by decide)
  rw [zeroW] at h0
  rw [eq_comm, h0, eq_comm]
theorem jnU_at (a : Bool) {x : Int} {s : List Int} (b : Bool) {y : Int} {t : List Int} (k : Int) (hs : okW s = true) (ht : okW t = true) (hr : rng s x t y) (hxy : y ≤ x) (h0 : valW s ≠ 0) :
    jnU a x s b y t k = some (.st [.bool (jn2 a x (valW s) b y (valW t) k).m, .int .i64 (jn2 a x (valW s) b y (valW t) k).x, .ints 4 .u64 (toW (jn2 a x (valW s) b y (valW t) k).s), .bool (jn2 a x (valW s) b y (valW t) k).r]) := by
  have hr' := hr
  unfold rng at hr'
  obtain ⟨⟨h1, h2⟩, ⟨h3, h4⟩, h5, h6⟩ := hr'
  have e1 : w64 (((lenN (valW s) : Nat) : Int) + x) = ((lenN (valW s) : Nat) : Int) + x := w64_mid (by omega) (by omega)
  have e2 : w64 (((lenN (valW s) : Nat) : Int) + x - y) = ((lenN (valW s) : Nat) : Int) + x - y := w64_mid (by omega) (by omega)
  unfold jnU jn2
  rw [hs, e1, e2]
  by_cases h : ((lenN (valW s) : Nat) : Int) + x - y < 250
  · have hm : mayA s x t y = true := by unfold mayA; rw [hs, ht, stk_eq, decide_eq_true ⟨hr, hxy, h⟩]; rfl
    rw [decide_eq_true h, hm, if_pos h]
    unfold aJ
    rw [stk_eq]
    rfl
  · have hm : mayB s x t y = true := by unfold mayB; rw [hs, ht, stk_eq, decide_eq_true ⟨hr, h0, by omega⟩]; rfl
    rw [decide_eq_false h, hm, if_neg h]
    unfold bJ
    rw [stk_eq]
    rfl
theorem rng_swap {s : List Int} {x : Int} {t : List Int} {y : Int} (h : rng s x t y) : rng t y s x := by
  unfold rng at *
  exact ⟨⟨h.1.2, h.1.1⟩, h.2.2, h.2.1⟩
theorem ok_join : EntOk Tryz.prog 77 (entS false sp_join) := by
  refine contractS (orc := orcJoin) (lo := []) Tryz.func77 (orc_cons ok_nought (orc_cons ok_wLen (orc_cons ok_aligned (orc_cons ok_beside orc_nil)))) (by kernel_rfl) (by kernel_rfl) (by kernel_rfl) (loops_none (by kernel_rfl)) fun args r h => ?_
  unfold sp_join at h
  split at h
  · rename_i a x s b y t k
    simp only [Option.some.injEq, Prod.mk.injEq, mayJ_iff] at h
    obtain ⟨⟨⟨hs, ht⟩, hr⟩, rfl⟩ := h
    refine ⟨by kernel_rfl, .inr rfl, (run_join a x s b y t k).trans ?_⟩
    unfold jnV jJ
    rw [stk_eq, stk_eq]
    unfold jn
    by_cases h0 : valW s = 0
    · rw [decide_eq_true ((isZeroW hs).2 h0), if_pos h0]
      by_cases h1 : valW t = 0
      · rw [decide_eq_true ((isZeroW ht).2 h1), if_pos h1, zeroW]; rfl
      · rw [decide_eq_false (fun h => h1 ((isZeroW ht).1 h)), if_neg h1, toW_valW ht]; rfl
    · rw [decide_eq_false (fun h => h0 ((isZeroW hs).1 h)), if_neg h0]
      by_cases h1 : valW t = 0
      · rw [decide_eq_true ((isZeroW ht).2 h1), if_pos h1, toW_valW hs]; rfl
      · rw [decide_eq_false (fun h => h1 ((isZeroW ht).1 h)), if_neg h1]
        by_cases h2 : x < y
        · rw [decide_eq_true h2, if_pos h2, ← jnU_at b a k ht hs (rng_swap hr) (by omega) h1]; rfl
        · rw [decide_eq_false h2, if_neg h2, ← jnU_at a b k hs ht hr (by omega) h0]; rfl
  · cases h
end
end Go.Proofs.YtbakldcbaikgpaaGreatDoor
/- sums: none, Add, Sub; tillerlaw05: sure, sides, turned. Own work. -/
namespace Go.Proofs.YtbakldcbaikgpaaGreatDoor
set_option maxRecDepth 100000
noncomputable section
/-! ### none -/
def sp_none2 : List AV → Option (Bool × AV)
  | [.sl (.ints 2 .u64 [p, q])] => some (inU p && inU q, .tup [.int .u64 9221120237041090560, .int .u8 ((noG p.toNat q.toNat : Nat) : Int)])
  | _ => none
def nnT (f : Int) : Option AV := some (.tup [.int .u64 9221120237041090560, .int .u8 f])
theorem run_none2 (p q : Int) : callA (env Tryz.f75.ntmps [(76, entS false sp_class)] []) (bodyC Tryz.f75) Tryz.f75.results.toList (slots 0 [.sl (.ints 2 .u64 [p, q])]) some =
    chk (inU p) (bif tC p.toNat == 5 then nnT 1 else chk (inU q) (bif tC q.toNat == 5 then nnT 1 else nnT 0)) := by kernel_rfl
theorem ok_none2 : EntOk Tryz.prog 75 (entS false sp_none2) := by
  refine contractS (orc := [(76, entS false sp_class)]) (lo := []) Tryz.func75 (orc_cons ok_class orc_nil) (by kernel_rfl) (by kernel_rfl) (by kernel_rfl) (loops_none (by kernel_rfl)) fun args r h => ?_
  unfold sp_none2 at h
  split at h
  · rename_i p q
    simp only [Option.some.injEq, Prod.mk.injEq, Bool.and_eq_true] at h
    obtain ⟨⟨hp, hq⟩, rfl⟩ := h
    refine ⟨by kernel_rfl, .inr rfl, (run_none2 p q).trans ?_⟩
    unfold noG noGN tC
    rw [stk_eq, stk_eq, stk_eq, hp, hq]
    by_cases h5 : clN p.toNat = 5
    · rw [h5, if_pos (.inl rfl)]; rfl
    · rw [beq_eq_false_iff_ne.2 h5]
      by_cases h6 : clN q.toNat = 5
      · rw [h6, if_pos (.inr rfl)]; rfl
      · rw [beq_eq_false_iff_ne.2 h6, if_neg (show ¬ (clN p.toNat = 5 ∨ clN q.toNat = 5) by simp [h5, h6])]; rfl
  · cases h
/-! ### Add -/
def sgB (p : Nat) : Bool := decide (9223372036854775808 ≤ p)
/-- The exact sum of two patterns' numbers. -/
def smS (p q : Nat) : Nat := sumS (sgB p) (sgB q) (exA (sigN p) (exN p) (exN q)) (exA (sigN q) (exN q) (exN p))
def smM (p q : Nat) (k : Int) : Bool := sumM (sgB p) (sgB q) (exA (sigN p) (exN p) (exN q)) (exA (sigN q) (exN q) (exN p)) k
def adPN (p q : Nat) (k : Int) : Nat := if infN < absN p ∨ infN < absN q then nanC else if absN p = infN ∧ absN q = infN ∧ p ≠ q then nanC else if absN p = infN then p else if absN q = infN then q else rndP (smM p q k) (smS p q) (min (exN p) (exN q)) k
def adFN (p q : Nat) (k : Int) : Nat := if infN < absN p ∨ infN < absN q then noGN p q else if absN p = infN ∧ absN q = infN ∧ p ≠ q then 1 else if absN p = infN then 0 else if absN q = infN then 0 else rndF (smM p q k) (smS p q) (min (exN p) (exN q)) k
def adP (p q : Nat) (k : Int) : Nat := stk (adPN p q k)
def adF (p q : Nat) (k : Int) : Nat := stk (adFN p q k)
def sp_add : List AV → Option (Bool × AV)
  | [.int .u64 p, .int .u64 q, .int .i64 k] => some (inU p && inU q, .tup [.int .u64 ((adP p.toNat q.toNat k : Nat) : Int), .int .u8 ((adF p.toNat q.toNat k : Nat) : Int)])
  | _ => none
def orcAdd5 : List (FuncId × Ent) := [(66, entS false sp_isNaN), (75, entS false sp_none2), (76, entS false sp_class), (73, entB false sp_rOf), (77, entS false sp_join), (71, entS false sp_round)]
def ad0 (p q : Int) : Option AV := chk (inU p && inU q) (nnT ((noG p.toNat q.toNat : Nat) : Int))
def adJ (p q k : Int) : Nm := jJ (tM p.toNat) (tX p.toNat) (toW (tS p.toNat)) (tM q.toNat) (tX q.toNat) (toW (tS q.toNat)) k
def adR (J : Nm) (k : Int) : Option AV := chk (okW (toW J.s)) (some (.tup [.int .u64 ((pR J.m (toW J.s) J.x J.r k : Nat) : Int), .int .u8 ((fR J.m (toW J.s) J.x J.r k : Nat) : Int)]))
def ad1 (p q k : Int) : Option AV :=
  chk (inU p) (bif finB p.toNat then chk (inU q) (bif finB q.toNat then chk (mayJ (toW (tS p.toNat)) (tX p.toNat) (toW (tS q.toNat)) (tX q.toNat)) (adR (adJ p q k) k) else ad0 p q) else chk (inU q) (bif finB q.toNat then ad0 p q else ad0 p q))
def ad2 (p q k : Int) : Option AV :=
  chk (inU p) (bif (tC p.toNat) == 3 then some (.tup [.int .u64 p, .int .u8 0]) else chk (inU q) (bif (tC q.toNat) == 3 then some (.tup [.int .u64 q, .int .u8 0]) else ad1 p q k))
def ad3 (p q k : Int) : Option AV :=
  chk (inU p) (bif (tC p.toNat) == 3 then chk (inU q) (bif (tC q.toNat) == 3 then (bif p != q then some (.tup [.int .u64 9221120237041090560, .int .u8 1]) else ad2 p q k) else ad2 p q k) else ad2 p q k)
theorem run_add5 (p q k : Int) : callA (env Tryz.f48.ntmps orcAdd5 []) (bodyC Tryz.f48) Tryz.f48.results.toList (slots 0 [.int .u64 p, .int .u64 q, .int .i64 k]) some =
    chk (inU p) (bif nanB p.toNat then ad0 p q else chk (inU q) (bif nanB q.toNat then ad0 p q else ad3 p q k)) := by kernel_rfl
theorem class_inf (p : Nat) : (clN p == 3) = decide (absN p = infN) := by
  have h1 := abs_parts p
  have h2 := pE_lt p
  have h3 := pF_lt p
  have : clN p = 3 ↔ absN p = infN := by
    unfold clN infN
    rw [h1]
    generalize pE p = E at *
    generalize pF p = F at *
    by_cases e1 : E = 2047
    · rw [if_pos e1]
      by_cases e2 : F = 0
      · rw [if_pos e2]; omega
      · rw [if_neg e2]
        by_cases e3 : F / 2251799813685248 % 2 = 1
        · rw [if_pos e3]; omega
        · rw [if_neg e3]; omega
    · rw [if_neg e1]
      by_cases e2 : 0 < E
      · rw [if_pos e2]; omega
      · rw [if_neg e2]
        by_cases e3 : 0 < F
        · rw [if_pos e3]; omega
        · rw [if_neg e3]; omega
  by_cases h : clN p = 3
  · rw [decide_eq_true (this.1 h), h]; rfl
  · rw [decide_eq_false (fun e => h (this.2 e))]; exact beq_eq_false_iff_ne.2 h
theorem join_pat (p q : Nat) (k : Int) : mayJ (toW (sigN p)) (exN p) (toW (sigN q)) (exN q) = true ∧ alike (jn (sgB p) (exN p) (sigN p) (sgB q) (exN q) (sigN q) k).m (nS (jn (sgB p) (exN p) (sigN p) (sgB q) (exN q) (sigN q) k).s (jn (sgB p) (exN p) (sigN p) (sgB q) (exN q) (sigN q) k).r) (nE (jn (sgB p) (exN p) (sigN p) (sgB q) (exN q) (sigN q) k).x (jn (sgB p) (exN p) (sigN p) (sgB q) (exN q) (sigN q) k).r)
    (smM p q k) (smS p q) (min (exN p) (exN q)) := by
  have h1 := len_sig p
  have h2 := len_sig q
  have h3 := ex_range p
  have h4 := ex_range q
  refine ⟨mayJ_iff.2 ⟨⟨okW_toW _, okW_toW _⟩, ?_⟩, jn_law (by omega) (by omega) _ _ _ _ k⟩
  unfold rng
  rw [valW_sig, valW_sig]
  omega
/-- What is joined fits. -/
theorem jn_small {S T : Nat} (hS : lenN S ≤ 128) (hT : lenN T ≤ 128) (a b : Bool) (x y k : Int) : (jn a x S b y T k).s < 115792089237316195423570985008687907853269984665640564039457584007913129639936 := by
  have sm : ∀ (S T : Nat) (a b : Bool) (x y : Int), lenN S ≤ 128 → lenN T ≤ 128 → y ≤ x → (jn2 a x S b y T k).s < 115792089237316195423570985008687907853269984665640564039457584007913129639936 := by
    intro S T a b x y h1 h2 hxy
    have hT : T < 2 ^ 128 := Nat.lt_of_lt_of_le (lt_lenN T) (Nat.pow_le_pow_right (by decide) h2)
    have h64 : (2 : Nat) ^ 64 < 2 ^ 255 := by decide
    have h256 : (2 : Nat) ^ 255 + 2 ^ 255 = 115792089237316195423570985008687907853269984665640564039457584007913129639936 := by decide
    have shl255 : ∀ n, lenN S + n ≤ 255 → S * 2 ^ n < 2 ^ 255 := by
      intro n hn
      refine lenN_le.1 ?_
      rcases Nat.eq_zero_or_pos S with h0 | h0
      · subst h0; rw [Nat.zero_mul]; exact Nat.zero_le _
      · rw [lenN_shl h0]; omega
    unfold jn2
    by_cases h : (lenN S : Int) + x - y < 250
    · rw [if_pos h]
      show sumS a b (S * 2 ^ (x - y).toNat) T < _
      have := shl255 (x - y).toNat (by omega)
      unfold sumS
      split
      · omega
      · split <;> omega
    · rw [if_neg h]
      show bsS a b S x T y < _
      have e : (250 - (lenN S : Int)) = ((250 - lenN S : Nat) : Int) := by omega
      have := shl255 (250 - lenN S) (by omega)
      have hq : T / 2 ^ (x - (250 - (lenN S : Int)) - y).toNat ≤ T := Nat.div_le_self _ _
      unfold bsS
      split
      · omega
      · exact Nat.lt_of_le_of_lt (Nat.le_trans (Nat.sub_le _ _) (Nat.sub_le _ _)) (by omega)
  unfold jn
  split
  · split
    · exact Nat.two_pow_pos 256
    · exact Nat.lt_of_lt_of_le (lt_lenN T) (Nat.pow_le_pow_right (n := 2) (by decide) (show lenN T ≤ 256 by omega))
  · split
    · exact Nat.lt_of_lt_of_le (lt_lenN S) (Nat.pow_le_pow_right (n := 2) (by decide) (show lenN S ≤ 256 by omega))
    · split
      · exact sm T S b a y x hT hS (by omega)
      · exact sm S T a b x y hS hT (by omega)
theorem adR_at (p q : Nat) (k : Int) : adR (adJ p q k) k = some (.tup [.int .u64 ((rndP (smM p q k) (smS p q) (min (exN p) (exN q)) k : Nat) : Int), .int .u8 ((rndF (smM p q k) (smS p q) (min (exN p) (exN q)) k : Nat) : Int)]) := by
  have hs := jn_small (S := sigN p) (T := sigN q) (by have := len_sig p; omega) (by have := len_sig q; omega) (sgB p) (sgB q) (exN p) (exN q) k
  obtain ⟨_, hm, ha⟩ := join_pat p q k
  obtain ⟨h1, h2⟩ := ha k
  have e : adJ p q k = jn (sgB p) (exN p) (sigN p) (sgB q) (exN q) (sigN q) k := by
    unfold adJ jJ tM tX tS
    rw [Int.toNat_natCast, Int.toNat_natCast, stk_eq, stk_eq, stk_eq, stk_eq, stk_eq, stk_eq, stk_eq, valW_sig, valW_sig]
    rfl
  rw [e]
  unfold adR pR fR
  rw [okW_toW, stk_eq, stk_eq, valW_toW, Nat.mod_eq_of_lt hs]
  unfold rndP
  rw [h1, h2, hm]
  rfl
theorem ok_add5 : EntOk Tryz.prog 48 (entS false sp_add) := by
  refine contractS (orc := orcAdd5) (lo := []) Tryz.func48 (orc_cons ok_isNaN (orc_cons ok_none2 (orc_cons ok_class (orc_cons ok_rOf (orc_cons ok_join (orc_cons ok_round orc_nil)))))) (by kernel_rfl) (by kernel_rfl) (by kernel_rfl) (loops_none (by kernel_rfl)) fun args r h => ?_
  unfold sp_add at h
  split at h
  · rename_i p q k
    simp only [Option.some.injEq, Prod.mk.injEq, Bool.and_eq_true] at h
    obtain ⟨⟨hp, hq⟩, rfl⟩ := h
    obtain ⟨m, rfl, hm⟩ := nat_of hp
    obtain ⟨n, rfl, hn⟩ := nat_of hq
    refine ⟨by kernel_rfl, .inr rfl, (run_add5 m n k).trans ?_⟩
    have hR := adR_at m n k
    have hJ : mayJ (toW (tS m)) (tX m) (toW (tS n)) (tX n) = true := by unfold tS tX; rw [stk_eq, stk_eq, stk_eq, stk_eq]; exact (join_pat m n k).1
    have c1 : (tC m == 3) = decide (absN m = infN) := by unfold tC; rw [stk_eq]; exact class_inf m
    have c2 : (tC n == 3) = decide (absN n = infN) := by unfold tC; rw [stk_eq]; exact class_inf n
    have c3 : ((m : Int) != (n : Int)) = decide (m ≠ n) := by
      rw [bne, eqN, ← decide_not]
    unfold ad3 ad2 ad1 ad0
    rw [Int.toNat_natCast, Int.toNat_natCast, hp, hq, c1, c2, c3, hJ, hR]
    unfold nanB finB noG adP adF
    rw [stk_eq, stk_eq, stk_eq, stk_eq, stk_eq, stk_eq, stk_eq]
    unfold adPN adFN nnT
    clear hR hJ c1 c2 c3
    by_cases n1 : infN < absN m
    · rw [decide_eq_true n1, if_pos (show infN < absN m ∨ infN < absN n from .inl n1), if_pos (show infN < absN m ∨ infN < absN n from .inl n1)]; rfl
    by_cases n2 : infN < absN n
    · rw [decide_eq_false n1, decide_eq_true n2, if_pos (show infN < absN m ∨ infN < absN n from .inr n2), if_pos (show infN < absN m ∨ infN < absN n from .inr n2)]; rfl
    have n3 : ¬ (infN < absN m ∨ infN < absN n) := by simp [n1, n2]
    rw [decide_eq_false n1, decide_eq_false n2, if_neg n3, if_neg n3]
    by_cases i1 : absN m = infN
    · rw [decide_eq_true i1, if_pos i1, if_pos i1]
      by_cases i2 : absN n = infN
      · rw [decide_eq_true i2]
        by_cases i3 : m ≠ n
        · rw [decide_eq_true i3, if_pos (show absN m = infN ∧ absN n = infN ∧ m ≠ n from ⟨i1, i2, i3⟩), if_pos (show absN m = infN ∧ absN n = infN ∧ m ≠ n from ⟨i1, i2, i3⟩)]; rfl
        · have i4 : ¬ (absN m = infN ∧ absN n = infN ∧ m ≠ n) := fun h => i3 h.2.2
          rw [decide_eq_false i3, if_neg i4, if_neg i4]; rfl
      · have i4 : ¬ (absN m = infN ∧ absN n = infN ∧ m ≠ n) := fun h => i2 h.2.1
        rw [decide_eq_false i2, if_neg i4, if_neg i4]; rfl
    · have i4 : ¬ (absN m = infN ∧ absN n = infN ∧ m ≠ n) := fun h => i1 h.1
      have f1 : absN m < infN := by omega
      rw [decide_eq_false i1, if_neg i1, if_neg i1, if_neg i4, if_neg i4, decide_eq_true f1]
      by_cases i2 : absN n = infN
      · rw [decide_eq_true i2, if_pos i2, if_pos i2]; rfl
      · have f2 : absN n < infN := by omega
        rw [decide_eq_false i2, if_neg i2, if_neg i2, decide_eq_true f2]; rfl
  · cases h
/-! ### Sub -/
def sbQ (q : Nat) : Nat := if infN < absN q then q else negN q
def sp_sub : List AV → Option (Bool × AV)
  | [.int .u64 p, .int .u64 q, .int .i64 k] => some (inU p && inU q, .tup [.int .u64 ((adP p.toNat (stk (sbQ q.toNat)) k : Nat) : Int), .int .u8 ((adF p.toNat (stk (sbQ q.toNat)) k : Nat) : Int)])
  | _ => none
def orcSub5 : List (FuncId × Ent) := [(66, entS false sp_isNaN), (46, entS false sp_pNeg), (48, entS false sp_add)]
def sbT (p q k : Int) : Option AV := chk (inU p && inU q) (some (.tup [.int .u64 ((adP p.toNat q.toNat k : Nat) : Int), .int .u8 ((adF p.toNat q.toNat k : Nat) : Int)]))
theorem run_sub5 (p q k : Int) : callA (env Tryz.f90.ntmps orcSub5 []) (bodyC Tryz.f90) Tryz.f90.results.toList (slots 0 [.int .u64 p, .int .u64 q, .int .i64 k]) some =
    chk (inU q) (bif !(nanB q.toNat) then chk (inU q) (sbT p ((negN q.toNat : Nat) : Int) k) else sbT p q k) := by kernel_rfl
theorem ok_sub5 : EntOk Tryz.prog 90 (entS false sp_sub) := by
  refine contractS (orc := orcSub5) (lo := []) Tryz.func90 (orc_cons ok_isNaN (orc_cons ok_pNeg (orc_cons ok_add5 orc_nil))) (by kernel_rfl) (by kernel_rfl) (by kernel_rfl) (loops_none (by kernel_rfl)) fun args r h => ?_
  unfold sp_sub at h
  split at h
  · rename_i p q k
    simp only [Option.some.injEq, Prod.mk.injEq, Bool.and_eq_true] at h
    obtain ⟨⟨hp, hq⟩, rfl⟩ := h
    refine ⟨by kernel_rfl, .inr rfl, (run_sub5 p q k).trans ?_⟩
    have hn := neg_lt q.toNat
    have hi : inU ((negN q.toNat : Nat) : Int) = true := inU_iff.2 (by omega)
    unfold sbT nanB
    rw [hp, hq, hi, stk_eq, stk_eq, Int.toNat_natCast]
    unfold sbQ
    by_cases h : infN < absN q.toNat
    · rw [decide_eq_true h, if_pos h]; rfl
    · rw [decide_eq_false h, if_neg h]; rfl
  · cases h
/-! ### sure, sides, turned -/
end
end Go.Proofs.YtbakldcbaikgpaaGreatDoor
/- sums: right, Exact. Own work. -/
namespace Go.Proofs.YtbakldcbaikgpaaGreatDoor
set_option maxRecDepth 100000
noncomputable section
/-! ### right -/
def rtN (V : Nat) (x : Int) (r : Bool) : Bool := decide (lenN V ≤ 128) && !r && decide (-100000 ≤ x) && decide (x ≤ 100000)
def rtB (s : List Int) (x : Int) (r : Bool) : Bool := stk (rtN (valW s) x r)
def sp_right : List AV → Option (Bool × AV)
  | [.st [.bool _, .int .i64 x, .ints 4 .u64 s, .bool r]] => some (okW s, .bool (rtB s x r))
  | _ => none
def rtT (e : Int) (r : Bool) : Option AV := bif !r then bif decide (e ≥ (-100000)) then some (.bool (decide (e ≤ 100000))) else some (.bool false) else some (.bool false)
theorem run_right (m : Bool) (e : Int) (s : List Int) (r : Bool) : callA (env Tryz.f115.ntmps [(107, entS false sp_wLen)] []) (bodyC Tryz.f115) Tryz.f115.results.toList (slots 0 [.st [.bool m, .int .i64 e, .ints 4 .u64 s, .bool r]]) some =
    chk (okW s) (bif decide (((lenN (valW s) : Nat) : Int) ≤ 128) then rtT e r else some (.bool false)) := by kernel_rfl
theorem rtT_at (e : Int) (r : Bool) : rtT e r = some (.bool (!r && decide (-100000 ≤ e) && decide (e ≤ 100000))) := by
  unfold rtT
  have e1 : decide (e ≥ (-100000)) = decide (-100000 ≤ e) := rfl
  rw [e1]
  cases r
  · cases decide (-100000 ≤ e) <;> rfl
  · rfl
theorem ok_right : EntOk Tryz.prog 115 (entS false sp_right) := by
  refine contractS (orc := [(107, entS false sp_wLen)]) (lo := []) Tryz.func115 (orc_cons ok_wLen orc_nil) (by kernel_rfl) (by kernel_rfl) (by kernel_rfl) (loops_none (by kernel_rfl)) fun args r h => ?_
  unfold sp_right at h
  split at h
  · rename_i m x s r
    simp only [Option.some.injEq, Prod.mk.injEq] at h
    obtain ⟨hs, rfl⟩ := h
    refine ⟨by kernel_rfl, .inr rfl, (run_right m x s r).trans ?_⟩
    have e1 : decide (((lenN (valW s) : Nat) : Int) ≤ 128) = decide (lenN (valW s) ≤ 128) := decide_eq_decide.2 (by omega)
    unfold rtB rtN
    rw [hs, stk_eq, e1, rtT_at]
    cases decide (lenN (valW s) ≤ 128) <;> rfl
  · cases h
/-! ### Exact -/
def orcSuEx : List (FuncId × Ent) := [(115, entS false sp_right), (77, entS false sp_join)]
def exE : Option AV := some (.tup [.st [.bool false, .int .i64 0, .ints 4 .u64 [0, 0, 0, 0], .bool false], .iface 59 (.int .i64 1)])
theorem run_exact0 (a : Bool) (x : Int) (s : List Int) (b : Bool) (y : Int) (t : List Int) (k : Int) : callA (env Tryz.f74.ntmps orcSuEx []) (bodyC Tryz.f74) Tryz.f74.results.toList (slots 0 [.st [.bool a, .int .i64 x, .ints 4 .u64 s, .bool false], .st [.bool b, .int .i64 y, .ints 4 .u64 t, .bool false], .int .i64 k]) some =
    chk (okW s) (bif !(rtB s x false) then exE else chk (okW t) (bif !(rtB t y false) then exE else chk (mayJ s x t y) (some (.tup [.st [.bool (jJ a x s b y t k).m, .int .i64 (jJ a x s b y t k).x, .ints 4 .u64 (toW (jJ a x s b y t k).s), .bool (jJ a x s b y t k).r], .nili])))) := by kernel_rfl
theorem run_exact1 (a : Bool) (x : Int) (s : List Int) (b : Bool) (y : Int) (t : List Int) (q : Bool) (k : Int) : callA (env Tryz.f74.ntmps orcSuEx []) (bodyC Tryz.f74) Tryz.f74.results.toList (slots 0 [.st [.bool a, .int .i64 x, .ints 4 .u64 s, .bool true], .st [.bool b, .int .i64 y, .ints 4 .u64 t, .bool q], .int .i64 k]) some =
    chk (okW s) (bif !(rtB s x true) then exE else chk (okW t) (bif !(rtB t y q) then exE else none)) := by kernel_rfl
theorem run_exact2 (a : Bool) (x : Int) (s : List Int) (b : Bool) (y : Int) (t : List Int) (k : Int) : callA (env Tryz.f74.ntmps orcSuEx []) (bodyC Tryz.f74) Tryz.f74.results.toList (slots 0 [.st [.bool a, .int .i64 x, .ints 4 .u64 s, .bool false], .st [.bool b, .int .i64 y, .ints 4 .u64 t, .bool true], .int .i64 k]) some =
    chk (okW s) (bif !(rtB s x false) then exE else chk (okW t) (bif !(rtB t y true) then exE else none)) := by kernel_rfl
def sp_exact5 : List AV → Option Br
  | [.st [.bool a, .int .i64 x, .ints 4 .u64 s, .bool r], .st [.bool b, .int .i64 y, .ints 4 .u64 t, .bool q], .int .i64 k] => some (.chk (okW s && okW t) (.br (!(rtB s x r)) (.leaf (.tup [.st [.bool false, .int .i64 0, .ints 4 .u64 [0, 0, 0, 0], .bool false], .iface 59 (.int .i64 1)]))
      (.br (!(rtB t y q)) (.leaf (.tup [.st [.bool false, .int .i64 0, .ints 4 .u64 [0, 0, 0, 0], .bool false], .iface 59 (.int .i64 1)]))
        (.leaf (.tup [.st [.bool (jJ a x s b y t k).m, .int .i64 (jJ a x s b y t k).x, .ints 4 .u64 (toW (jJ a x s b y t k).s), .bool (jJ a x s b y t k).r], .nili])))))
  | _ => none
theorem rtB_iff {s : List Int} {x : Int} {r : Bool} : rtB s x r = true ↔ lenN (valW s) ≤ 128 ∧ r = false ∧ -100000 ≤ x ∧ x ≤ 100000 := by
  unfold rtB rtN
  rw [stk_eq]
  simp only [Bool.and_eq_true, decide_eq_true_eq, Bool.not_eq_true', and_assoc]
theorem ok_exact5 : EntOk Tryz.prog 74 (entB false sp_exact5) := by
  refine contractB (orc := orcSuEx) (lo := []) Tryz.func74 (orc_cons ok_right (orc_cons ok_join orc_nil)) (by kernel_rfl) (by kernel_rfl) (by kernel_rfl) (loops_none (by kernel_rfl)) fun args t h => ?_
  unfold sp_exact5 at h
  split at h
  · rename_i a x s r b y t q k
    simp only [Option.some.injEq] at h
    subst h
    refine ⟨by kernel_rfl, .inr rfl, fun z hz => ?_⟩
    simp only [Br.run] at hz
    obtain ⟨hg, hz⟩ := chk_some hz
    simp only [Bool.and_eq_true] at hg
    obtain ⟨hs, ht⟩ := hg
    have no : ∀ {s : List Int} {x : Int}, rtB s x true = false := by
      intro s x
      cases h : rtB s x true with
      | false => rfl
      | true => exact absurd (rtB_iff.1 h).2.1 (by simp)
    rw [← hz]
    cases r with
    | true =>
      refine (run_exact1 a x s b y t q k).trans ?_
      rw [hs, no]
      rfl
    | false =>
      cases q with
      | true =>
        refine (run_exact2 a x s b y t k).trans ?_
        rw [hs, ht, no]
        cases rtB s x false <;> rfl
      | false =>
        refine (run_exact0 a x s b y t k).trans ?_
        rw [hs, ht]
        cases h1 : rtB s x false with
        | false => rfl
        | true =>
          cases h2 : rtB t y false with
          | false => rfl
          | true =>
            have g1 := rtB_iff.1 h1
            have g2 := rtB_iff.1 h2
            have hJ : mayJ s x t y = true := mayJ_iff.2 ⟨⟨hs, ht⟩, ⟨g1.1, g2.1⟩, by omega, by omega⟩
            rw [hJ]
            rfl
  · cases h
end
end Go.Proofs.YtbakldcbaikgpaaGreatDoor
