/- tillerlaw04: sure; signs, between. Own work. -/
import Derived.Test.YtbakldcbaikgpaaGreatDoorRnd3
namespace Go.Proofs.YtbakldcbaikgpaaGreatDoor
set_option maxRecDepth 100000
noncomputable section

def sp_give : List AV → Option (Bool × AV)
  | [.bool m, .int .i64 e, .ints 4 .u64 s, .bool r] => some (true, .st [.bool m, .int .i64 e, .ints 4 .u64 s, .bool r])
  | _ => none

def sp_true : List AV → Option (Bool × AV)
  | [] => some (true, .bool true)
  | _ => none

def orcSure4 : List (FuncId × Ent) := [(114, entS false sp_wOf), (71, entS false sp_round)]

def sureT (p f q g : Nat) : Option AV := bif (p : Int) == 0 then bif (f : Int) == 24 then bif (q : Int) == 1 then some (.bool ((g : Int) == (f : Int))) else some (.bool false) else some (.bool false) else some (.bool false)

theorem sure_vals : rndP false 1 (-1075) 0 = 0 ∧ rndF false 1 (-1075) 0 = 24 ∧ rndP false 1 (-1075) 3 = 1 ∧ rndF false 1 (-1075) 3 = 24 := by decide +kernel

/-! ### RndSigns -/

def sgT (p f q g : Nat) : Option AV := bif (p : Int) == (xorI .u64 (q : Int) 9223372036854775808) then bif (f : Int) == (g : Int) then some (.bool true) else some (.bool false) else some (.bool false)
def sgK (m : Bool) (e : Int) (s : List Int) (r : Bool) (k k' : Int) : Option AV := chk (okW s) (chk (okW s) (sgT (pR m s e r k) (fR m s e r k) (pR (!m) s e r k') (fR (!m) s e r k')))

theorem rndP_lt (m : Bool) (S : Nat) (x k : Int) : sizeP m S x k < 9223372036854775808 := by
  have := size_le m S x k
  unfold infN at this
  omega

theorem sgn_flipN (m : Bool) (q : Nat) (h : q < 9223372036854775808) : (q + sgnOf (!m) + 9223372036854775808) % 18446744073709551616 = q + sgnOf m := by
  have e1 : sgnOf true = 9223372036854775808 := rfl
  have e2 : sgnOf false = 0 := rfl
  cases m
  · rw [Bool.not_false, e1, e2]; omega
  · rw [Bool.not_true, e1, e2]; omega

theorem sgn_flip (m : Bool) (q : Nat) (h : q < 9223372036854775808) : xorI .u64 ((q + sgnOf (!m) : Nat) : Int) 9223372036854775808 = ((q + sgnOf m : Nat) : Int) := by
  have hs : sgnOf (!m) ≤ 9223372036854775808 := by unfold sgnOf; split <;> omega
  rw [xor63 _ (by omega), sgn_flipN m q h]

theorem sgK_at (m : Bool) (e : Int) {s : List Int} (hs : okW s = true) (r : Bool) (k k' : Int) (h : k' = if k = 3 then 4 else if k = 4 then 3 else k) : sgK m e s r k k' = some (.bool true) := by
  unfold sgK sgT pR fR
  simp only [stk_eq]
  rw [hs]
  unfold rndP
  rw [turn_size m _ _ k k' h, turn_F m _ _ k k' h, sgn_flip m _ (rndP_lt m _ _ k)]
  simp [chk]

def sp_law : List AV → Option (Bool × AV)
  | [.st [.bool _, .int .i64 _, .ints 4 .u64 s, .bool _], .int .i64 _] => some (okW s, .bool true)
  | _ => none

/-! ### RndBetween -/

def btB (b : Bool) (t : Option AV) : Option AV := bif b then some (.bool false) else t
def btI (f : Nat) (b : Bool) : Bool := !((andI .u8 (f : Int) 16 == 0) == b)
def btE (m : Bool) (lo hi q : Nat) : Option AV :=
  bif (lo : Int) == (hi : Int) then some (.bool true) else bif m then bif (andNotI .u64 (lo : Int) 9223372036854775808) == (u64 ((andNotI .u64 (hi : Int) 9223372036854775808) + 1)) then bif (q : Int) == (hi : Int) then some (.bool true) else some (.bool false) else some (.bool false)
  else bif (hi : Int) == (u64 ((lo : Int) + 1)) then bif (q : Int) == (lo : Int) then some (.bool true) else some (.bool false) else some (.bool false)
def btC (m : Bool) (lo f hi g h q i : Nat) : Option AV :=
  btB (btI f ((lo : Int) == (hi : Int))) (btB (btI g ((lo : Int) == (hi : Int))) (btB (btI h ((lo : Int) == (hi : Int))) (btB (btI i ((lo : Int) == (hi : Int))) (btE m lo hi q))))
def btT (m : Bool) (lo f hi g p h q i : Nat) : Option AV :=
  bif (p : Int) != (lo : Int) then bif (p : Int) != (hi : Int) then some (.bool false) else btC m lo f hi g h q i else btC m lo f hi g h q i

theorem F_vals (m : Bool) (S : Nat) (x k : Int) : rndF m S x k = 0 ∨ rndF m S x k = 16 ∨ rndF m S x k = 20 ∨ rndF m S x k = 24 := by
  unfold rndF
  split
  · exact .inl rfl
  · split
    · exact .inr (.inr (.inl rfl))
    · split
      · split
        · exact .inr (.inr (.inr rfl))
        · exact .inr (.inl rfl)
      · exact .inl rfl

theorem btI_zero (b : Bool) (h : b = true) : btI 0 b = false := by subst h; decide
theorem btI_odd (f : Nat) (h : f = 16 ∨ f = 20 ∨ f = 24) (b : Bool) (hb : b = false) : btI f b = false := by
  subst hb
  rcases h with rfl | rfl | rfl <;> decide

theorem bt_same (m : Bool) (P : Nat) : btT m P 0 P 0 P 0 P 0 = some (.bool true) := by
  unfold btT btC btE
  rw [beq_self_eq_true, btI_zero true rfl]
  simp [btB]

theorem bt_apart {m : Bool} {lo f hi g p h q i : Nat} (hf : f = 16 ∨ f = 20 ∨ f = 24) (hg : g = 16 ∨ g = 20 ∨ g = 24) (hh : h = 16 ∨ h = 20 ∨ h = 24) (hi' : i = 16 ∨ i = 20 ∨ i = 24) (hne : lo ≠ hi) (hp : p = lo ∨ p = hi)
    (hE : btE m lo hi q = some (.bool true)) : btT m lo f hi g p h q i = some (.bool true) := by
  have e : ((lo : Int) == (hi : Int)) = false := beq_eq_false_iff_ne.2 (by omega)
  have hC : btC m lo f hi g h q i = some (.bool true) := by
    unfold btC
    rw [btI_odd f hf _ e, btI_odd g hg _ e, btI_odd h hh _ e, btI_odd i hi' _ e]
    exact hE
  unfold btT
  rw [hC]
  rcases hp with rfl | rfl
  · simp
  · cases ((p : Int) != (lo : Int)) <;> simp

theorem bt_pos {d : Nat} (h : d < 9223372036854775807) : btE false d (d + 1) d = some (.bool true) := by
  unfold btE
  have e : ((d : Int) == ((d + 1 : Nat) : Int)) = false := beq_eq_false_iff_ne.2 (by omega)
  have e2 : u64 ((d : Int) + 1) = ((d + 1 : Nat) : Int) := u64_nat (n := d + 1) (by omega)
  rw [e, e2]
  simp

theorem bt_neg {d : Nat} (h : d < 9223372036854775807) : btE true (d + 1 + 9223372036854775808) (d + 9223372036854775808) (d + 9223372036854775808) = some (.bool true) := by
  unfold btE
  have e : (((d + 1 + 9223372036854775808 : Nat) : Int) == ((d + 9223372036854775808 : Nat) : Int)) = false := beq_eq_false_iff_ne.2 (by omega)
  have a1 := andNot63 (d + 1 + 9223372036854775808) (by omega)
  have a2 := andNot63 (d + 9223372036854775808) (by omega)
  have n1 : absN (d + 1 + 9223372036854775808) = d + 1 := by unfold absN; omega
  have n2 : absN (d + 9223372036854775808) = d := by unfold absN; omega
  have e2 : u64 ((d : Int) + 1) = ((d + 1 : Nat) : Int) := u64_nat (n := d + 1) (by omega)
  rw [e, a1, a2, n1, n2, e2]
  simp

theorem F_odd {m : Bool} {S : Nat} {x k : Int} (h : rndF m S x k / 16 % 2 = 1) : rndF m S x k = 16 ∨ rndF m S x k = 20 ∨ rndF m S x k = 24 := by
  rcases F_vals m S x k with h1 | h1
  · rw [h1] at h; cases h
  · exact h1

theorem bt_side (m : Bool) {d c p2 p3 p4 pk f4 f3 fk f2 : Nat} (hd : d < 9223372036854775807) (hc : c ≤ 1) (h4 : f4 = 16 ∨ f4 = 20 ∨ f4 = 24) (h3 : f3 = 16 ∨ f3 = 20 ∨ f3 = 24) (hk : fk = 16 ∨ fk = 20 ∨ fk = 24) (h2 : f2 = 16 ∨ f2 = 20 ∨ f2 = 24)
    (e4 : p4 = d + (bif m then 1 else 0) + sgnOf m) (e3 : p3 = d + (bif m then 0 else 1) + sgnOf m) (ek : pk = d + c + sgnOf m) (e2 : p2 = d + 0 + sgnOf m) : btT m p4 f4 p3 f3 pk fk p2 f2 = some (.bool true) := by
  have s1 : sgnOf true = 9223372036854775808 := rfl
  have s2 : sgnOf false = 0 := rfl
  cases m with
  | false =>
    rw [s2] at e4 e3 ek e2
    simp only [cond_false, Nat.add_zero] at e4 e3 ek e2
    refine bt_apart h4 h3 hk h2 (by omega) (by omega) ?_
    rw [e4, e3, e2]
    exact bt_pos hd
  | true =>
    rw [s1] at e4 e3 ek e2
    simp only [cond_true, Nat.add_zero] at e4 e3 ek e2
    refine bt_apart h4 h3 hk h2 (by omega) (by omega) ?_
    rw [e4, e3, e2]
    exact bt_neg hd

theorem between_apart {m : Bool} {S : Nat} {x : Int} (k : Int) (h0 : S ≠ 0) (hx : inexN S (lowN S x - x) = true ∨ baseN S x ≥ infN) : btT m (rndP m S x 4) (rndF m S x 4) (rndP m S x 3) (rndF m S x 3) (rndP m S x k) (rndF m S x k) (rndP m S x 2) (rndF m S x 2) = some (.bool true) := by
  have hs : ∀ k, rndP m S x k = dnN S x + (sideN S x k m).toNat + sgnOf m ∧ rndF m S x k / 16 % 2 = 1 := fun k => by
    obtain ⟨h1, h2⟩ := size_side (m := m) (k := k) h0 hx
    unfold rndP
    exact ⟨by rw [h1], h2⟩
  have hd : dnN S x < 9223372036854775807 := by
    have h1 := (size_side (m := m) (k := 2) h0 hx).1
    have h2 := size_le m S x 2
    unfold infN at h2
    omega
  have z4 : (sideN S x 4 m).toNat = bif m then 1 else 0 := by
    cases m
    · rw [show sideN S x 4 false = false from side_in S x rfl]; rfl
    · rw [show sideN S x 4 true = true from side_out hx rfl]; rfl
  have z3 : (sideN S x 3 m).toNat = bif m then 0 else 1 := by
    cases m
    · rw [show sideN S x 3 false = true from side_out hx rfl]; rfl
    · rw [show sideN S x 3 true = false from side_in S x rfl]; rfl
  have z2 : (sideN S x 2 m).toNat = 0 := by rw [side_zero]; rfl
  have p4 := (hs 4).1
  have p3 := (hs 3).1
  have p2 := (hs 2).1
  rw [z4] at p4
  rw [z3] at p3
  rw [z2] at p2
  exact bt_side m hd (Bool.toNat_le (sideN S x k m)) (F_odd (hs 4).2) (F_odd (hs 3).2) (F_odd (hs k).2) (F_odd (hs 2).2) p4 p3 (hs k).1 p2

theorem between_same {m : Bool} {P p4 f4 p3 f3 pk fk p2 f2 : Nat} (e4 : p4 = P) (g4 : f4 = 0) (e3 : p3 = P) (g3 : f3 = 0) (ek : pk = P) (gk : fk = 0) (e2 : p2 = P) (g2 : f2 = 0) : btT m p4 f4 p3 f3 pk fk p2 f2 = some (.bool true) := by
  subst e4 g4 e3 g3 ek gk e2 g2
  exact bt_same m _

theorem between_law (m : Bool) (S : Nat) (x k : Int) : btT m (rndP m S x 4) (rndF m S x 4) (rndP m S x 3) (rndF m S x 3) (rndP m S x k) (rndF m S x k) (rndP m S x 2) (rndF m S x 2) = some (.bool true) := by
  by_cases h0 : S = 0
  · have hp : ∀ k, rndP m S x k = 0 + sgnOf m := fun k => by unfold rndP sizeP; rw [if_pos h0]
    have hf : ∀ k, rndF m S x k = 0 := fun k => by unfold rndF; rw [if_pos h0]
    exact between_same (hp 4) (hf 4) (hp 3) (hf 3) (hp k) (hf k) (hp 2) (hf 2)
  · by_cases hx : inexN S (lowN S x - x) = true ∨ baseN S x ≥ infN
    · exact between_apart k h0 hx
    · have hk : inexN S (lowN S x - x) = false := by
        cases h : inexN S (lowN S x - x)
        · rfl
        · exact absurd (.inl h) hx
      have hb : baseN S x < infN := by
        rcases Nat.lt_or_ge (baseN S x) infN with h | h
        · exact h
        · exact absurd (.inr h) hx
      have hp : ∀ k, rndP m S x k = baseN S x + sgnOf m := fun k => by unfold rndP; rw [(size_cases h0 hk hb).1]
      have hf : ∀ k, rndF m S x k = 0 := fun k => (size_cases h0 hk hb).2
      exact between_same (hp 4) (hf 4) (hp 3) (hf 3) (hp k) (hf k) (hp 2) (hf 2)

end
end Go.Proofs.YtbakldcbaikgpaaGreatDoor
