/- CycPlains. Own work. -/
import Derived.Test.YtbakldcbaikgpaaGreatDoorPlain2
import Derived.Test.YtbakldcbaikgpaaGreatDoorSure25
import Derived.Test.YtbakldcbaikgpaaGreatDoorGive25
import Derived.Test.YtbakldcbaikgpaaGreatDoorErr2
namespace Go.Proofs.YtbakldcbaikgpaaGreatDoor
set_option maxRecDepth 100000
noncomputable section

def orcCP : List (FuncId × Ent) := [(7, entS false sp_su25), (8, entB false sp_cPlain), (9, entS false sp_gv), (10, entB false sp_rPlain), (11, entS false sp_sm), (12, entS false sp_num)]
def tT : Option AV := some (.bool true)
def tF : Option AV := some (.bool false)
def cpR (n m : Nat) (X Y : List PZ) (a b : Option AV) : Option AV :=
  chk (fitX n X && fitX m Y) (bif (n : Int) == 0 then a else bif decide ((n : Int) > 4096) then a else bif (n : Int) != m then b else none)
def cpS (n m : Nat) (X Y : List PZ) (r : PS) : Option AV :=
  chk (fitX n X && fitX m Y) (bif (n : Int) == 0 then none else bif decide ((n : Int) > 4096) then none else bif (n : Int) != m then none else chk (fitSm n n r.2 r.2) (bif w64 r.1 == r.1 then tT else tF))
def cpM (n m : Nat) (X Y : List PZ) : Option AV :=
  chk (fitG n X) (chk (fitG m Y) (chk (fitX n X && fitX m Y) (bif decide ((n : Int) < 1) then cpR n m X Y tT tF else bif decide ((n : Int) > 4096) then cpR n m X Y tT tF else bif (m : Int) != n then cpR n m X Y tF tT else cpS n m X Y (plK X Y n))))
theorem run_cp (n m : Nat) (X Y : List PZ) : callA (env Tryz.f3.ntmps orcCP []) (bodyC Tryz.f3) Tryz.f3.results.toList (slots 0 [.sl (.prs n .u64 X), .sl (.prs m .u64 Y)]) some =
    (bif decide ((n : Int) > 20) then (bif decide ((n : Int) ≤ 4096) then tT else (bif decide ((m : Int) > 5000) then tT else cpM n m X Y)) else (bif decide ((m : Int) > 5000) then tT else cpM n m X Y)) := by kernel_rfl
theorem cpM_at {n m : Nat} {X Y : List PZ} (g1 : fitG n X = true) (g2 : fitG m Y = true) (h1 : fitX n X = true) (h2 : fitX m Y = true) : cpM n m X Y = some (.bool true) := by
  unfold cpM cpR cpS
  rw [g1, g2, h1, h2]
  simp only [Bool.and_self, chk, cond_true]
  by_cases a1 : n = 0
  · subst a1; rfl
  have b1 : ((n : Int) == 0) = false := beq_eq_false_iff_ne.2 (by omega)
  rw [decide_eq_false (show ¬ (n : Int) < 1 by omega), b1]
  by_cases a2 : (n : Int) > 4096
  · rw [decide_eq_true a2]; rfl
  rw [decide_eq_false a2]
  by_cases a3 : n = m
  · subst a3
    have hf := (rp_pl X Y n).2
    have e : plK X Y n = plR X Y n := by unfold plK; rw [stk_eq]
    have c1 : fitSm n n (plR X Y n).2 (plR X Y n).2 = true := by
      unfold fitSm
      rw [stk_eq, decide_eq_true ⟨rfl, rfl, by omega⟩]
    have c2 : w64 (plR X Y n).1 = (plR X Y n).1 := w64_mid (by have := hf.1; omega) (by have := hf.2; omega)
    rw [e, c1, c2, bne_self_eq_false, beq_self_eq_true]
    rfl
  · rw [bne_iff_ne.2 (show (m : Int) ≠ n by omega), bne_iff_ne.2 (show (n : Int) ≠ m by omega)]; rfl
def sp_cp : List AV → Option (Bool × AV)
  | [.sl (.prs n .u64 X), .sl (.prs m .u64 Y)] => some ((fitG n X && fitX n X) && (fitG m Y && fitX m Y), .bool true)
  | _ => none
theorem ok_cp : EntOk Tryz.prog 3 (entS false sp_cp) := by
  refine contractS (orc := orcCP) (lo := []) Tryz.func3 (orc_cons ok_su25 (orc_cons ok_cPlain (orc_cons ok_gv (orc_cons ok_rPlain (orc_cons ok_sm (orc_cons ok_num25 orc_nil)))))) (by kernel_rfl) (by kernel_rfl) (by kernel_rfl) (loops_none (by kernel_rfl)) fun args r h => ?_
  unfold sp_cp at h
  split at h
  · rename_i n X m Y
    simp only [Option.some.injEq, Prod.mk.injEq, Bool.and_eq_true] at h
    obtain ⟨⟨⟨g1, h1⟩, g2, h2⟩, rfl⟩ := h
    refine ⟨by kernel_rfl, .inr rfl, (run_cp n m X Y).trans ?_⟩
    rw [cpM_at g1 g2 h1 h2]
    cases decide ((n : Int) > 20) <;> cases decide ((n : Int) ≤ 4096) <;> cases decide ((m : Int) > 5000) <;> rfl
  · cases h
end
end Go.Proofs.YtbakldcbaikgpaaGreatDoor
