/- sums: right, Exact. Own work. -/
import Derived.Test.YtbakldcbaikgpaaGreatDoorSums3
namespace Go.Proofs.YtbakldcbaikgpaaGreatDoor
set_option maxRecDepth 100000
noncomputable section

/-! ### right -/
def rtN (V : Nat) (x : Int) (r : Bool) : Bool := decide (lenN V ≤ 128) && !r && decide (-100000 ≤ x) && decide (x ≤ 100000)
def rtB (s : List Int) (x : Int) (r : Bool) : Bool := stk (rtN (valW s) x r)
def sp_right : List AV → Option (Bool × AV)
  | [.st [.bool _, .int .i64 x, .ints 4 .u64 s, .bool r]] => some (okW s, .bool (rtB s x r))
  | _ => none
def rtT (e : Int) (r : Bool) : Option AV := bif !r then bif decide (e ≥ (-100000)) then some (.bool (decide (e ≤ 100000))) else some (.bool false) else some (.bool false)
theorem run_right (m : Bool) (e : Int) (s : List Int) (r : Bool) : callA (env Tryz.f115.ntmps [(107, entS false sp_wLen)] []) (bodyC Tryz.f115) Tryz.f115.results.toList (slots 0 [.st [.bool m, .int .i64 e, .ints 4 .u64 s, .bool r]]) some =
    chk (okW s) (bif decide (((lenN (valW s) : Nat) : Int) ≤ 128) then rtT e r else some (.bool false)) := by kernel_rfl
theorem rtT_at (e : Int) (r : Bool) : rtT e r = some (.bool (!r && decide (-100000 ≤ e) && decide (e ≤ 100000))) := by
  unfold rtT
  have e1 : decide (e ≥ (-100000)) = decide (-100000 ≤ e) := rfl
  rw [e1]
  cases r
  · cases decide (-100000 ≤ e) <;> rfl
  · rfl
theorem ok_right : EntOk Tryz.prog 115 (entS false sp_right) := by
  refine contractS (orc := [(107, entS false sp_wLen)]) (lo := []) Tryz.func115 (orc_cons ok_wLen orc_nil) (by kernel_rfl) (by kernel_rfl) (by kernel_rfl) (loops_none (by kernel_rfl)) fun args r h => ?_
  unfold sp_right at h
  split at h
  · rename_i m x s r
    simp only [Option.some.injEq, Prod.mk.injEq] at h
    obtain ⟨hs, rfl⟩ := h
    refine ⟨by kernel_rfl, .inr rfl, (run_right m x s r).trans ?_⟩
    have e1 : decide (((lenN (valW s) : Nat) : Int) ≤ 128) = decide (lenN (valW s) ≤ 128) := decide_eq_decide.2 (by omega)
    unfold rtB rtN
    rw [hs, stk_eq, e1, rtT_at]
    cases decide (lenN (valW s) ≤ 128) <;> rfl
  · cases h
/-! ### Exact -/
def orcSuEx : List (FuncId × Ent) := [(115, entS false sp_right), (77, entS false sp_join)]
def exE : Option AV := some (.tup [.st [.bool false, .int .i64 0, .ints 4 .u64 [0, 0, 0, 0], .bool false], .iface 59 (.int .i64 1)])
theorem run_exact0 (a : Bool) (x : Int) (s : List Int) (b : Bool) (y : Int) (t : List Int) (k : Int) : callA (env Tryz.f74.ntmps orcSuEx []) (bodyC Tryz.f74) Tryz.f74.results.toList (slots 0 [.st [.bool a, .int .i64 x, .ints 4 .u64 s, .bool false], .st [.bool b, .int .i64 y, .ints 4 .u64 t, .bool false], .int .i64 k]) some =
    chk (okW s) (bif !(rtB s x false) then exE else chk (okW t) (bif !(rtB t y false) then exE else chk (mayJ s x t y) (some (.tup [.st [.bool (jJ a x s b y t k).m, .int .i64 (jJ a x s b y t k).x, .ints 4 .u64 (toW (jJ a x s b y t k).s), .bool (jJ a x s b y t k).r], .nili])))) := by kernel_rfl
theorem run_exact1 (a : Bool) (x : Int) (s : List Int) (b : Bool) (y : Int) (t : List Int) (q : Bool) (k : Int) : callA (env Tryz.f74.ntmps orcSuEx []) (bodyC Tryz.f74) Tryz.f74.results.toList (slots 0 [.st [.bool a, .int .i64 x, .ints 4 .u64 s, .bool true], .st [.bool b, .int .i64 y, .ints 4 .u64 t, .bool q], .int .i64 k]) some =
    chk (okW s) (bif !(rtB s x true) then exE else chk (okW t) (bif !(rtB t y q) then exE else none)) := by kernel_rfl
theorem run_exact2 (a : Bool) (x : Int) (s : List Int) (b : Bool) (y : Int) (t : List Int) (k : Int) : callA (env Tryz.f74.ntmps orcSuEx []) (bodyC Tryz.f74) Tryz.f74.results.toList (slots 0 [.st [.bool a, .int .i64 x, .ints 4 .u64 s, .bool false], .st [.bool b, .int .i64 y, .ints 4 .u64 t, .bool true], .int .i64 k]) some =
    chk (okW s) (bif !(rtB s x false) then exE else chk (okW t) (bif !(rtB t y true) then exE else none)) := by kernel_rfl
def sp_exact5 : List AV → Option Br
  | [.st [.bool a, .int .i64 x, .ints 4 .u64 s, .bool r], .st [.bool b, .int .i64 y, .ints 4 .u64 t, .bool q], .int .i64 k] => some (.chk (okW s && okW t) (.br (!(rtB s x r)) (.leaf (.tup [.st [.bool false, .int .i64 0, .ints 4 .u64 [0, 0, 0, 0], .bool false], .iface 59 (.int .i64 1)]))
      (.br (!(rtB t y q)) (.leaf (.tup [.st [.bool false, .int .i64 0, .ints 4 .u64 [0, 0, 0, 0], .bool false], .iface 59 (.int .i64 1)]))
        (.leaf (.tup [.st [.bool (jJ a x s b y t k).m, .int .i64 (jJ a x s b y t k).x, .ints 4 .u64 (toW (jJ a x s b y t k).s), .bool (jJ a x s b y t k).r], .nili])))))
  | _ => none
theorem rtB_iff {s : List Int} {x : Int} {r : Bool} : rtB s x r = true ↔ lenN (valW s) ≤ 128 ∧ r = false ∧ -100000 ≤ x ∧ x ≤ 100000 := by
  unfold rtB rtN
  rw [stk_eq]
  simp only [Bool.and_eq_true, decide_eq_true_eq, Bool.not_eq_true', and_assoc]
theorem ok_exact5 : EntOk Tryz.prog 74 (entB false sp_exact5) := by
  refine contractB (orc := orcSuEx) (lo := []) Tryz.func74 (orc_cons ok_right (orc_cons ok_join orc_nil)) (by kernel_rfl) (by kernel_rfl) (by kernel_rfl) (loops_none (by kernel_rfl)) fun args t h => ?_
  unfold sp_exact5 at h
  split at h
  · rename_i a x s r b y t q k
    simp only [Option.some.injEq] at h
    subst h
    refine ⟨by kernel_rfl, .inr rfl, fun z hz => ?_⟩
    simp only [Br.run] at hz
    obtain ⟨hg, hz⟩ := chk_some hz
    simp only [Bool.and_eq_true] at hg
    obtain ⟨hs, ht⟩ := hg
    have no : ∀ {s : List Int} {x : Int}, rtB s x true = false := by
      intro s x
      cases h : rtB s x true with
      | false => rfl
      | true => exact absurd (rtB_iff.1 h).2.1 (by simp)
    rw [← hz]
    cases r with
    | true =>
      refine (run_exact1 a x s b y t q k).trans ?_
      rw [hs, no]
      rfl
    | false =>
      cases q with
      | true =>
        refine (run_exact2 a x s b y t k).trans ?_
        rw [hs, ht, no]
        cases rtB s x false <;> rfl
      | false =>
        refine (run_exact0 a x s b y t k).trans ?_
        rw [hs, ht]
        cases h1 : rtB s x false with
        | false => rfl
        | true =>
          cases h2 : rtB t y false with
          | false => rfl
          | true =>
            have g1 := rtB_iff.1 h1
            have g2 := rtB_iff.1 h2
            have hJ : mayJ s x t y = true := mayJ_iff.2 ⟨⟨hs, ht⟩, ⟨g1.1, g2.1⟩, by omega, by omega⟩
            rw [hJ]
            rfl
  · cases h

end
end Go.Proofs.YtbakldcbaikgpaaGreatDoor
