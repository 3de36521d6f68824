/- An error's number: the laws' num. Own work. -/
import Derived.Test.YtbakldcbaikgpaaGreatDoorErr1
import Derived.Below
namespace Go.Proofs.YtbakldcbaikgpaaGreatDoor
open Go.RowKit Go.Extern.Stop Go.Stop Go.Extern
set_option maxRecDepth 100000
theorem errCell_eq : errCell Tryz.prog = .iface 136 (.agg #[.pointer (some ⟨1, 27, none⟩)]) := by kernel_rfl
theorem errVar : Tryz.prog.globalNamed "errors.errorType" = some 0 := by kernel_rfl
theorem glob_cell {A : Nat → Prop} {w : World} (h : Glob Tryz.prog A w) : w.cell? ⟨0, 0, none⟩ = some (.iface 136 (.agg #[.pointer (some ⟨1, 27, none⟩)])) := by
  rw [← errCell_eq]
  exact (h.cells 0 _ (by unfold globP; rw [if_pos errVar])).2
def sp_num : List AV → Option (Bool × AV)
  | [.nili] => some (true, .int .i64 0)
  | [.iface 59 (.int .i64 n)] => some (true, .int .i64 n)
  | _ => none
set_option maxHeartbeats 4000000 in
theorem num18_nil (w : World) : Calls Tryz.prog 17 #[.nilIface] w fun e w' => e = .returned (.int .i64 0) ∧ Below w.heap.size w w' := by
  go_enter Tryz.func17, Tryz.ntmps17
  go_wp2
  go_ret
  exact ⟨rfl, (Below.refl _ _).alloc (Nat.le_refl _) _⟩
set_option maxHeartbeats 4000000 in
theorem num18_hit (n : Int) (w : World) (hg : w.cell? ⟨0, 0, none⟩ = some (.iface 136 (.agg #[.pointer (some ⟨1, 27, none⟩)]))) : Calls Tryz.prog 17 #[.iface 59 (.int .i64 n)] w fun e w' => e = .returned (.int .i64 n) ∧ Below w.heap.size w w' := by
  have hlt : 0 < w.heap.size := by
    rcases Nat.eq_zero_or_pos w.heap.size with h0 | h
    · simp [World.cell?, h0] at hg
    · exact h
  have hgA : (w.alloc (.cells #[.int .i64 0] 59)).cell? ⟨0, 0, none⟩ = some (.iface 136 (.agg #[.pointer (some ⟨1, 27, none⟩)])) := by
    rw [World.cell?_alloc_lt _ _ ⟨0, 0, none⟩ hlt]; exact hg
  have htA : (w.alloc (.cells #[.int .i64 0] 59)).cell? ⟨w.heap.size, 0, none⟩ = some (.int .i64 0) := by simp
  have hfA : (w.alloc (.cells #[.int .i64 0] 59)).frozen? ⟨w.heap.size, 0, none⟩ = false := by simp
  go_enter Tryz.func17, Tryz.ntmps17
  go_wp2_with (go_at_call 33; refine (as_hit n _ (.int .i64 0) _ hgA htA hfA).mono ?_; rintro e w' ⟨rfl, rfl⟩)
  go_ret
  refine ⟨rfl, ?_⟩
  refine Below.alloc (Below.alloc (Below.alloc (Below.alloc (Below.alloc (Below.refl _ _) ?_ _) ?_ _) ?_ _) ?_ _) ?_ _ <;> simp <;> omega
theorem ok_num18 : EntOk Tryz.prog 17 (entS false sp_num) := by
  refine ⟨entS_law _ _, fun _ n args r hr A w vs _ hv hG => ?_, fun h => by cases h⟩
  have h := entS_some hr
  clear hr
  unfold sp_num at h
  have fin : ∀ {k : Int} {x : Value} {w' : World}, x = .int .i64 k → Below w.heap.size w w' → MoreX (fun _ => False) A w w' ∧ ∃ (Ar : Nat → Prop) (bs : List Nat), (∀ b, Ar b → b < w'.heap.size ∧ (((entS false sp_num).frz = true ∧ A b) ∨ w.heap.size ≤ b)) ∧ (∀ b ∈ bs, w.heap.size ≤ b ∧ ¬ Ar b) ∧ bs.Nodup ∧ RR Ar w' (.int .i64 k) x bs := by
    intro k x w' hx hb
    refine ⟨(More.of_below hb).x _ _, fun _ => False, [], fun _ h => h.elim, by simp, by simp, ?_⟩
    simp only [RR, R1, VR]
    exact ⟨hx, trivial⟩
  split at h
  · simp only [Option.some.injEq, Prod.mk.injEq] at h
    obtain ⟨-, rfl⟩ := h
    obtain ⟨v, vs', h1, h2, rfl⟩ := hv
    simp only [VR] at h1
    simp only [VRs] at h2
    subst h1 h2
    unfold Inv
    rw [run_callFunc_body Tryz.func17 (by kernel_rfl) rfl]
    simp only []
    refine (num18_nil w).mono ?_
    rintro e w' ⟨rfl, hb⟩
    exact ⟨_, rfl, fin rfl hb⟩
  · rename_i k
    simp only [Option.some.injEq, Prod.mk.injEq] at h
    obtain ⟨-, rfl⟩ := h
    obtain ⟨v, vs', h1, h2, rfl⟩ := hv
    simp only [VR] at h1
    simp only [VRs] at h2
    obtain ⟨y, rfl, rfl⟩ := h1
    subst h2
    unfold Inv
    rw [run_callFunc_body Tryz.func17 (by kernel_rfl) rfl]
    simp only []
    refine (num18_hit k w (glob_cell hG)).mono ?_
    rintro e w' ⟨rfl, hb⟩
    exact ⟨_, rfl, fin rfl hb⟩
  · cases h
end Go.Proofs.YtbakldcbaikgpaaGreatDoor
