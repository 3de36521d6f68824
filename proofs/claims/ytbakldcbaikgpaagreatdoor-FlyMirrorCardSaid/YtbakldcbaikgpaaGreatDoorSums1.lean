/- Sums, on numbers: the exact one, and what is rounded as it is. Plain Lean. Own work. -/
import Derived.Test.YtbakldcbaikgpaaGreatDoorRn4
namespace Go.Proofs.YtbakldcbaikgpaaGreatDoor
set_option maxRecDepth 100000
noncomputable section

/-- Two numbers that are rounded alike. -/
def alike (m : Bool) (S : Nat) (x : Int) (m' : Bool) (S' : Nat) (x' : Int) : Prop := m = m' ∧ ∀ k, sizeP m S x k = sizeP m' S' x' k ∧ rndF m S x k = rndF m' S' x' k

theorem alike.symm {m m' : Bool} {S S' : Nat} {x x' : Int} (h : alike m S x m' S' x') : alike m' S' x' m S x := ⟨h.1.symm, fun k => ⟨(h.2 k).1.symm, (h.2 k).2.symm⟩⟩
theorem alike.trans {m m' m'' : Bool} {S S' S'' : Nat} {x x' x'' : Int} (h : alike m S x m' S' x') (h' : alike m' S' x' m'' S'' x'') : alike m S x m'' S'' x'' :=
  ⟨h.1.trans h'.1, fun k => ⟨(h.2 k).1.trans (h'.2 k).1, (h.2 k).2.trans (h'.2 k).2⟩⟩

theorem alike_same (m : Bool) {S T : Nat} {x y : Int} (low : Int) (hx : low ≤ x) (hy : low ≤ y) (h : S * 2 ^ (x - low).toNat = T * 2 ^ (y - low).toNat) : alike m S x m T y :=
  ⟨rfl, fun k => rnd_same low hx hy h k m⟩

theorem alike_shift (m : Bool) (S a : Nat) (x : Int) : alike m S x m (S * 2 ^ a) (x - a) :=
  ⟨rfl, fun k => ⟨(size_scale S a x k m).symm, (F_scale S a x k m).symm⟩⟩

theorem alike_zero (m : Bool) (x y : Int) : alike m 0 x m 0 y := by
  refine ⟨rfl, fun k => ?_⟩
  unfold sizeP rndF
  rw [if_pos rfl, if_pos rfl, if_pos rfl, if_pos rfl]
  exact ⟨rfl, rfl⟩

/-! ### What is under a number's bits -/

theorem stick_q {N f sh : Nat} (hf : 0 < f) (hf2 : f < 2 ^ sh) {d : Int} (hd : (sh : Int) < d) :
    qN (N * 2 ^ sh + f) d = qN (2 * N + 1) (d - sh + 1) ∧ halfN (N * 2 ^ sh + f) d = halfN (2 * N + 1) (d - sh + 1) ∧ restN (N * 2 ^ sh + f) d = restN (2 * N + 1) (d - sh + 1) := by
  have hdiv : (N * 2 ^ sh + f) / 2 ^ sh = N := by
    rw [Nat.add_comm, Nat.add_mul_div_right _ _ (Nat.two_pow_pos sh), Nat.div_eq_of_lt hf2, Nat.zero_add]
  have hmod : (N * 2 ^ sh + f) % 2 ^ sh = f := by
    rw [Nat.add_comm, Nat.add_mul_mod_self_right, Nat.mod_eq_of_lt hf2]
  have cut : ∀ j : Nat, sh ≤ j → (N * 2 ^ sh + f) / 2 ^ j = N / 2 ^ (j - sh) := by
    intro j hj
    rw [pow_split hj, Nat.mul_comm (2 ^ (j - sh)), ← Nat.div_div_eq_div_mul, hdiv]
  refine ⟨?_, ?_, ?_⟩
  · rw [more_q N (d := d - sh) (by omega), qN_pos (by omega), cut _ (by omega)]
    congr 2
    omega
  · rw [more_half N (d := d - sh) (by omega), decide_eq_false (show ¬ d - (sh : Int) = 0 by omega), Bool.false_or]
    unfold halfN
    rw [decide_eq_true (show 0 < d by omega), Bool.true_and, cut _ (by omega), show d.toNat - 1 - sh = (d - (sh : Int)).toNat - 1 by omega]
  · rw [more_rest N (d := d - sh) (by omega), decide_eq_true (show 0 < d - (sh : Int) by omega)]
    unfold restN
    rw [decide_eq_true (show 0 < d by omega), Bool.true_and]
    refine decide_eq_true ?_
    intro h0
    have h1 : (N * 2 ^ sh + f) % 2 ^ (d.toNat - 1) % 2 ^ sh = (N * 2 ^ sh + f) % 2 ^ sh := Nat.mod_mod_of_dvd _ (Nat.pow_dvd_pow 2 (by omega))
    rw [h0, hmod, Nat.zero_mod] at h1
    omega

theorem lenN_stick {N f sh : Nat} (hN : 0 < N) (hf2 : f < 2 ^ sh) : lenN (N * 2 ^ sh + f) = lenN N + sh := by
  have h1 := lenN_add (m := N * 2 ^ sh + f) (k := sh) (by
    have := Nat.le_mul_of_pos_left (2 ^ sh) hN
    omega)
  rw [Nat.add_comm (N * 2 ^ sh), Nat.add_mul_div_right _ _ (Nat.two_pow_pos sh), Nat.div_eq_of_lt hf2, Nat.zero_add] at h1
  rw [Nat.add_comm (N * 2 ^ sh)]
  omega

theorem lenN_more {N : Nat} (hN : 0 < N) : lenN (2 * N + 1) = lenN N + 1 := by
  have := lenN_stick (N := N) (f := 1) (sh := 1) hN (by decide)
  rw [Nat.mul_comm 2]
  exact this

/-- A number of many bits with something under them is rounded as with a half more. -/
theorem alike_stick (m : Bool) {N f sh : Nat} (hN : 60 ≤ lenN N) (hf : 0 < f) (hf2 : f < 2 ^ sh) (x : Int) : alike m (N * 2 ^ sh + f) x m (2 * N + 1) (x + sh - 1) := by
  have hp : 0 < N := by
    rcases Nat.eq_zero_or_pos N with h | h
    · subst h; exact absurd hN (by decide)
    · exact h
  have l1 := lenN_stick hp hf2
  have l2 := lenN_more hp
  have ht : topN (N * 2 ^ sh + f) x = topN (2 * N + 1) (x + sh - 1) := by unfold topN; rw [l1, l2]; omega
  have htt : topN (N * 2 ^ sh + f) x = x + lenN N + sh := by unfold topN; rw [l1]; omega
  have hl : lowN (N * 2 ^ sh + f) x = lowN (2 * N + 1) (x + sh - 1) := by unfold lowN; rw [ht]
  have key : ∀ n : Int, topN (N * 2 ^ sh + f) x - 53 ≤ n → qN (N * 2 ^ sh + f) (n - x) = qN (2 * N + 1) (n - (x + sh - 1)) ∧ halfN (N * 2 ^ sh + f) (n - x) = halfN (2 * N + 1) (n - (x + sh - 1)) ∧ restN (N * 2 ^ sh + f) (n - x) = restN (2 * N + 1) (n - (x + sh - 1)) := by
    intro n hn
    have := stick_q (N := N) hf hf2 (d := n - x) (by omega)
    rw [show n - x - (sh : Int) + 1 = n - (x + sh - 1) by omega] at this
    exact this
  obtain ⟨k1, k2, k3⟩ := key (lowN (N * 2 ^ sh + f) x) (Int.le_max_left _ _)
  obtain ⟨t1, t2, t3⟩ := key (topN (N * 2 ^ sh + f) x - 53) (Int.le_refl _)
  have hne : N * 2 ^ sh + f ≠ 0 := by omega
  have hne2 : 2 * N + 1 ≠ 0 := by omega
  refine ⟨rfl, fun k => ?_⟩
  have hu : upD (N * 2 ^ sh + f) (lowN (N * 2 ^ sh + f) x - x) k m = upD (2 * N + 1) (lowN (2 * N + 1) (x + sh - 1) - (x + sh - 1)) k m := by unfold upD; rw [k1, k2, k3, hl]
  have hr : rawN m (N * 2 ^ sh + f) x k = rawN m (2 * N + 1) (x + sh - 1) k := by unfold rawN baseN; rw [hu, k1, hl]
  have hi : inexN (N * 2 ^ sh + f) (lowN (N * 2 ^ sh + f) x - x) = inexN (2 * N + 1) (lowN (2 * N + 1) (x + sh - 1) - (x + sh - 1)) := by unfold inexN; rw [k2, k3, hl]
  have hti : tinyN (N * 2 ^ sh + f) x k m = tinyN (2 * N + 1) (x + sh - 1) k m := by
    unfold tinyN toN upD
    rw [t1, t2, t3, ht]
  unfold sizeP rndF
  rw [hr, hi, hti, if_neg hne, if_neg hne, if_neg hne2, if_neg hne2]
  exact ⟨rfl, rfl⟩

/-! ### The exact sum -/

def sumS (a b : Bool) (A B : Nat) : Nat := if a = b then A + B else if B ≤ A then A - B else B - A
def sumM (a b : Bool) (A B : Nat) (k : Int) : Bool := if a = b then a else if A = B then decide (k = 4) else if B < A then a else b
def exA (S : Nat) (x y : Int) : Nat := S * 2 ^ (x - min x y).toNat

theorem sumS_comm (a b : Bool) (A B : Nat) : sumS a b A B = sumS b a B A := by
  unfold sumS
  by_cases h : a = b
  · subst h
    rw [if_pos rfl, if_pos rfl, Nat.add_comm]
  · have h' : ¬ b = a := fun e => h e.symm
    rw [if_neg h, if_neg h']
    by_cases h1 : B ≤ A
    · rw [if_pos h1]
      by_cases h2 : A ≤ B
      · rw [if_pos h2]; omega
      · rw [if_neg h2]
    · rw [if_neg h1, if_pos (show A ≤ B by omega)]
theorem sumM_comm (a b : Bool) (A B : Nat) (k : Int) : sumM a b A B k = sumM b a B A k := by
  unfold sumM
  by_cases h : a = b
  · subst h
    rw [if_pos rfl, if_pos rfl]
  · have h' : ¬ b = a := fun e => h e.symm
    rw [if_neg h, if_neg h']
    by_cases h1 : A = B
    · rw [if_pos h1, if_pos h1.symm]
    · rw [if_neg h1, if_neg (show ¬ B = A from fun e => h1 e.symm)]
      by_cases h2 : B < A
      · rw [if_pos h2, if_neg (show ¬ A < B by omega)]
      · rw [if_neg h2, if_pos (show A < B by omega)]

/-- How numbers are added: more, where something is under the bits. -/
structure Nm where
  m : Bool
  x : Int
  s : Nat
  r : Bool

def noM (a b : Bool) (k : Int) : Bool := if a = b then a else decide (k = 4)
def alJ (a : Bool) (x : Int) (S : Nat) (b : Bool) (y : Int) (T : Nat) (k : Int) : Nm :=
  ⟨sumM a b (S * 2 ^ (x - y).toNat) T k, if a ≠ b ∧ S * 2 ^ (x - y).toNat = T then 0 else y, sumS a b (S * 2 ^ (x - y).toNat) T, false⟩
def bsLost (S : Nat) (x : Int) (T : Nat) (y : Int) : Bool := decide (T % 2 ^ (x - (250 - lenN S) - y).toNat ≠ 0)
def bsS (a b : Bool) (S : Nat) (x : Int) (T : Nat) (y : Int) : Nat :=
  if a = b then S * 2 ^ (250 - lenN S) + T / 2 ^ (x - (250 - lenN S) - y).toNat else S * 2 ^ (250 - lenN S) - T / 2 ^ (x - (250 - lenN S) - y).toNat - (bsLost S x T y).toNat
def bsJ (a : Bool) (x : Int) (S : Nat) (b : Bool) (y : Int) (T : Nat) : Nm := ⟨a, x - (250 - lenN S), bsS a b S x T y, bsLost S x T y⟩
def jn2 (a : Bool) (x : Int) (S : Nat) (b : Bool) (y : Int) (T : Nat) (k : Int) : Nm := if (lenN S : Int) + x - y < 250 then alJ a x S b y T k else bsJ a x S b y T
def jn (a : Bool) (x : Int) (S : Nat) (b : Bool) (y : Int) (T : Nat) (k : Int) : Nm :=
  if S = 0 then (if T = 0 then ⟨noM a b k, 0, 0, false⟩ else ⟨b, y, T, false⟩) else if T = 0 then ⟨a, x, S, false⟩ else if x < y then jn2 b y T a x S k else jn2 a x S b y T k

theorem al_law (a : Bool) {x : Int} (S : Nat) (b : Bool) {y : Int} (T : Nat) (k : Int) : alike (alJ a x S b y T k).m (nS (alJ a x S b y T k).s (alJ a x S b y T k).r) (nE (alJ a x S b y T k).x (alJ a x S b y T k).r) (sumM a b (S * 2 ^ (x - y).toNat) T k) (sumS a b (S * 2 ^ (x - y).toNat) T) y := by
  show alike (sumM a b (S * 2 ^ (x - y).toNat) T k) (sumS a b (S * 2 ^ (x - y).toNat) T) (if a ≠ b ∧ S * 2 ^ (x - y).toNat = T then 0 else y) _ _ _
  by_cases h : a ≠ b ∧ S * 2 ^ (x - y).toNat = T
  · rw [if_pos h]
    have : sumS a b (S * 2 ^ (x - y).toNat) T = 0 := by
      unfold sumS
      rw [if_neg h.1, h.2, if_pos (Nat.le_refl _), Nat.sub_self]
    rw [this]
    exact alike_zero _ _ _
  · rw [if_neg h]
    exact ⟨rfl, fun k => ⟨rfl, rfl⟩⟩

theorem bs_law {S T : Nat} (hS : 0 < S) (hT : 0 < T) (hl : lenN S ≤ 128) (ht : lenN T ≤ 128) (a b : Bool) {x y : Int} (h : 250 ≤ (lenN S : Int) + x - y) (k : Int) :
    alike (bsJ a x S b y T).m (nS (bsJ a x S b y T).s (bsJ a x S b y T).r) (nE (bsJ a x S b y T).x (bsJ a x S b y T).r) (sumM a b (S * 2 ^ (x - y).toNat) T k) (sumS a b (S * 2 ^ (x - y).toNat) T) y := by
  obtain ⟨u, hu⟩ : ∃ u : Nat, u = 250 - lenN S := ⟨_, rfl⟩
  obtain ⟨sh, hsh⟩ : ∃ sh : Nat, (sh : Int) = x - u - y := ⟨(x - u - y).toNat, by omega⟩
  have e0 : (x - (250 - lenN S : Int) - y).toNat = sh := by omega
  have e1 : (250 - (lenN S : Int)) = (u : Int) := by omega
  have hA : S * 2 ^ (x - y).toNat = S * 2 ^ u * 2 ^ sh := by
    rw [Nat.mul_assoc, ← Nat.pow_add]
    congr 2
    omega
  have hlen : lenN (S * 2 ^ u) = 250 := by rw [lenN_shl hS]; omega
  have hP : 2 ^ 249 ≤ S * 2 ^ u := by
    have := le_lenN (v := S * 2 ^ u) (Nat.mul_pos hS (Nat.two_pow_pos u))
    rw [hlen] at this
    exact this
  have hTl : T < 2 ^ 128 := Nat.lt_of_lt_of_le (lt_lenN T) (Nat.pow_le_pow_right (by decide) ht)
  have hsm : T / 2 ^ sh ≤ T := Nat.div_le_self _ _
  have hT2 := Nat.mod_add_div T (2 ^ sh)
  have hfl : T % 2 ^ sh < 2 ^ sh := Nat.mod_lt _ (Nat.two_pow_pos sh)
  have hbs : bsJ a x S b y T = ⟨a, x - u, if a = b then S * 2 ^ u + T / 2 ^ sh else S * 2 ^ u - T / 2 ^ sh - (decide (T % 2 ^ sh ≠ 0)).toNat, decide (T % 2 ^ sh ≠ 0)⟩ := by
    unfold bsJ bsS bsLost
    rw [e0, e1, ← hu]
  have hbig : T < S * 2 ^ u * 2 ^ sh := by
    have h1 : S * 2 ^ u ≤ S * 2 ^ u * 2 ^ sh := Nat.le_mul_of_pos_right _ (Nat.two_pow_pos sh)
    have h2 : (2 : Nat) ^ 64 < 2 ^ 249 := by decide
    omega
  have hM : sumM a b (S * 2 ^ (x - y).toNat) T k = a := by
    unfold sumM
    rw [hA]
    by_cases hab : a = b
    · rw [if_pos hab]
    · rw [if_neg hab, if_neg (show ¬ S * 2 ^ u * 2 ^ sh = T by omega), if_pos hbig]
  rw [hM, hbs]
  unfold sumS
  rw [hA]
  have h249 : (2 : Nat) ^ 64 + 2 < 2 ^ 249 := by decide
  have h248 : (2 : Nat) ^ 248 + 2 ^ 128 + 2 < 2 ^ 249 := by decide
  by_cases hlost : T % 2 ^ sh = 0
  · rw [hlost, Nat.zero_add, Nat.mul_comm] at hT2
    rw [decide_eq_false (show ¬ T % 2 ^ sh ≠ 0 by simp [hlost])]
    show alike a (if a = b then S * 2 ^ u + T / 2 ^ sh else S * 2 ^ u - T / 2 ^ sh - 0) (x - u) a _ y
    refine alike_same a y (by omega) (by omega) ?_
    rw [Int.sub_self, show (0 : Int).toNat = 0 from rfl, Nat.pow_zero, Nat.mul_one, show (x - (u : Int) - y).toNat = sh by omega]
    split
    · rw [Nat.add_mul, hT2]
    · rw [if_pos (Nat.le_of_lt hbig), Nat.sub_zero, Nat.sub_mul, hT2]
  · rw [decide_eq_true (show T % 2 ^ sh ≠ 0 from hlost)]
    show alike a (2 * (if a = b then S * 2 ^ u + T / 2 ^ sh else S * 2 ^ u - T / 2 ^ sh - 1) + 1) (x - u - 1) a _ y
    have hx : x - (u : Int) - 1 = y + sh - 1 := by omega
    rw [hx]
    rw [Nat.mul_comm] at hT2
    by_cases hab : a = b
    · rw [if_pos hab, if_pos hab]
      have hlN : 60 ≤ lenN (S * 2 ^ u + T / 2 ^ sh) := by
        have := lenN_mono (show S * 2 ^ u ≤ S * 2 ^ u + T / 2 ^ sh from Nat.le_add_right _ _)
        omega
      have := alike_stick a hlN (f := T % 2 ^ sh) (sh := sh) (by omega) hfl y
      rw [show (S * 2 ^ u + T / 2 ^ sh) * 2 ^ sh + T % 2 ^ sh = S * 2 ^ u * 2 ^ sh + T by rw [Nat.add_mul]; omega] at this
      exact this.symm
    · rw [if_neg hab, if_neg hab, if_pos (Nat.le_of_lt hbig)]
      generalize hN : S * 2 ^ u - T / 2 ^ sh - 1 = N
      have hN2 : N + 1 + T / 2 ^ sh = S * 2 ^ u := by omega
      have hlN : 60 ≤ lenN N := by
        have h1 : 2 ^ 248 ≤ N := by omega
        have h2 := lenN_mono h1
        have h3 : lenN (2 ^ 248) = 249 := by decide +kernel
        omega
      have hmul : S * 2 ^ u * 2 ^ sh = N * 2 ^ sh + 2 ^ sh + T / 2 ^ sh * 2 ^ sh := by rw [← hN2, Nat.add_mul, Nat.add_mul, Nat.one_mul]
      have hf1 : 0 < 2 ^ sh - T % 2 ^ sh := by omega
      have hf2 : 2 ^ sh - T % 2 ^ sh < 2 ^ sh := by omega
      have he : N * 2 ^ sh + (2 ^ sh - T % 2 ^ sh) = S * 2 ^ u * 2 ^ sh - T := by omega
      have := alike_stick a hlN hf1 hf2 y
      rw [he] at this
      exact this.symm

/-- A sum is rounded as the exact one. -/
theorem jn_law {S T : Nat} (hl : lenN S ≤ 128) (ht : lenN T ≤ 128) (a b : Bool) (x y : Int) (k : Int) :
    alike (jn a x S b y T k).m (nS (jn a x S b y T k).s (jn a x S b y T k).r) (nE (jn a x S b y T k).x (jn a x S b y T k).r) (sumM a b (exA S x y) (exA T y x) k) (sumS a b (exA S x y) (exA T y x)) (min x y) := by
  have hsh : ∀ (m : Bool) (S : Nat) (x y : Int), alike m S x m (exA S x y) (min x y) := by
    intro m S x y
    have := alike_shift m S (x - min x y).toNat x
    rw [show x - ((x - min x y).toNat : Int) = min x y by omega] at this
    exact this
  unfold jn
  by_cases hS : S = 0
  · rw [if_pos hS]
    have e1 : exA S x y = 0 := by unfold exA; rw [hS, Nat.zero_mul]
    rw [e1]
    by_cases hT : T = 0
    · rw [if_pos hT]
      have e2 : exA T y x = 0 := by unfold exA; rw [hT, Nat.zero_mul]
      rw [e2]
      have e3 : sumM a b 0 0 k = noM a b k := by unfold sumM noM; split <;> rfl
      have e4 : sumS a b 0 0 = 0 := by unfold sumS; split <;> rfl
      rw [e3, e4]
      exact alike_zero _ _ _
    · rw [if_neg hT]
      have hB : 0 < exA T y x := Nat.mul_pos (by omega) (Nat.two_pow_pos _)
      have e3 : sumM a b 0 (exA T y x) k = b := by
        unfold sumM
        by_cases hab : a = b
        · rw [if_pos hab]; exact hab
        · rw [if_neg hab, if_neg (show ¬ 0 = exA T y x by omega), if_neg (show ¬ exA T y x < 0 by omega)]
      have e4 : sumS a b 0 (exA T y x) = exA T y x := by
        unfold sumS
        by_cases hab : a = b
        · rw [if_pos hab]; omega
        · rw [if_neg hab, if_neg (show ¬ exA T y x ≤ 0 by omega)]; omega
      rw [e3, e4]
      have := hsh b T y x
      rw [Int.min_comm] at this
      exact this
  · rw [if_neg hS]
    by_cases hT : T = 0
    · rw [if_pos hT]
      have e2 : exA T y x = 0 := by unfold exA; rw [hT, Nat.zero_mul]
      have hA : 0 < exA S x y := Nat.mul_pos (by omega) (Nat.two_pow_pos _)
      rw [e2]
      have e3 : sumM a b (exA S x y) 0 k = a := by
        unfold sumM
        by_cases hab : a = b
        · rw [if_pos hab]
        · rw [if_neg hab, if_neg (show ¬ exA S x y = 0 by omega), if_pos hA]
      have e4 : sumS a b (exA S x y) 0 = exA S x y := by
        unfold sumS
        by_cases hab : a = b
        · rw [if_pos hab]; omega
        · rw [if_neg hab, if_pos (show 0 ≤ exA S x y by omega)]; omega
      rw [e3, e4]
      exact hsh a S x y
    · rw [if_neg hT]
      by_cases hxy : x < y
      · rw [if_pos hxy, sumM_comm, sumS_comm]
        have e1 : exA S x y = S := by unfold exA; rw [show (x - min x y).toNat = 0 by omega, Nat.pow_zero, Nat.mul_one]
        have e2 : exA T y x = T * 2 ^ (y - x).toNat := by unfold exA; rw [show y - min y x = y - x by omega]
        have e3 : min x y = x := by omega
        rw [e1, e2, e3]
        unfold jn2
        by_cases h : (lenN T : Int) + y - x < 250
        · rw [if_pos h]; exact al_law b T a S k
        · rw [if_neg h]; exact bs_law (by omega) (by omega) ht hl b a (by omega) k
      · rw [if_neg hxy]
        have e1 : exA S x y = S * 2 ^ (x - y).toNat := by unfold exA; rw [show x - min x y = x - y by omega]
        have e2 : exA T y x = T := by unfold exA; rw [show (y - min y x).toNat = 0 by omega, Nat.pow_zero, Nat.mul_one]
        have e3 : min x y = y := by omega
        rw [e1, e2, e3]
        unfold jn2
        by_cases h : (lenN S : Int) + x - y < 250
        · rw [if_pos h]; exact al_law a S b T k
        · rw [if_neg h]; exact bs_law (by omega) (by omega) hl ht a b (by omega) k
end
end Go.Proofs.YtbakldcbaikgpaaGreatDoor
