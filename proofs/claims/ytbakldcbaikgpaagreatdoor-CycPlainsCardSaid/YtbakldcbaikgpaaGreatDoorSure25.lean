/- tillerlaw25.sure. Own work. -/
import Derived.Test.YtbakldcbaikgpaaGreatDoorPlain1
namespace Go.Proofs.YtbakldcbaikgpaaGreatDoor
set_option maxRecDepth 100000
noncomputable section

def sm3 (n : Int) : Bool := stk (decide (0 ≤ n ∧ n ≤ 3))
def sp_great : List AV → Option (Bool × AV)
  | [.int .i64 n] => some (sm3 n, .bool false)
  | _ => none
theorem run_great (n : Int) : callA (env Tryz.f42.ntmps [] []) (bodyC Tryz.f42) Tryz.f42.results.toList (slots 0 [.int .i64 n]) some =
    (bif decide (n > 1048576) then some (.bool true) else some (.bool (decide (n < -1048576)))) := by kernel_rfl
theorem ok_great : EntOk Tryz.prog 42 (entS false sp_great) := by
  refine contractS (orc := []) (lo := []) Tryz.func42 orc_nil (by kernel_rfl) (by kernel_rfl) (by kernel_rfl) (loops_none (by kernel_rfl)) fun args r h => ?_
  unfold sp_great at h
  split at h
  · rename_i n
    simp only [Option.some.injEq, Prod.mk.injEq] at h
    obtain ⟨hg, rfl⟩ := h
    unfold sm3 at hg
    rw [stk_eq, decide_eq_true_eq] at hg
    refine ⟨by kernel_rfl, .inr rfl, (run_great n).trans ?_⟩
    rw [decide_eq_false (by omega), decide_eq_false (by omega)]; rfl
  · cases h
def sp_idx : List AV → Option (Bool × AV)
  | [.sl (.ints 3 .i64 [a, b, c]), .func 42] => some (sm3 a && sm3 b && sm3 c, .int .i64 (-1))
  | _ => none
theorem run_idx (a b c : Int) : callA (env Tryz.f65.ntmps [(42, entS false sp_great)] []) (bodyC Tryz.f65) Tryz.f65.results.toList (slots 0 [.sl (.ints 3 .i64 [a, b, c]), .func 42]) some =
    chk (sm3 a) (chk (sm3 b) (chk (sm3 c) (some (.int .i64 (-1))))) := by kernel_rfl
theorem ok_idx : EntOk Tryz.prog 65 (entS false sp_idx) := by
  refine contractS (orc := [(42, entS false sp_great)]) (lo := []) Tryz.func65 (orc_cons ok_great orc_nil) (by kernel_rfl) (by kernel_rfl) (by kernel_rfl) (loops_none (by kernel_rfl)) fun args r h => ?_
  unfold sp_idx at h
  split at h
  · rename_i a b c
    simp only [Option.some.injEq, Prod.mk.injEq, Bool.and_eq_true] at h
    obtain ⟨⟨⟨h1, h2⟩, h3⟩, rfl⟩ := h
    refine ⟨by kernel_rfl, .inr rfl, (run_idx a b c).trans ?_⟩
    rw [h1, h2, h3]; rfl
  · cases h
def sp_cont : List AV → Option (Bool × AV)
  | [.sl (.ints 3 .i64 [a, b, c]), .func 42] => some (sm3 a && sm3 b && sm3 c, .bool false)
  | _ => none
theorem run_cont (a b c : Int) : callA (env Tryz.f43.ntmps [(65, entS false sp_idx)] []) (bodyC Tryz.f43) Tryz.f43.results.toList (slots 0 [.sl (.ints 3 .i64 [a, b, c]), .func 42]) some =
    chk (sm3 a && sm3 b && sm3 c) (some (.bool false)) := by kernel_rfl
theorem ok_cont : EntOk Tryz.prog 43 (entS false sp_cont) := by
  refine contractS (orc := [(65, entS false sp_idx)]) (lo := []) Tryz.func43 (orc_cons ok_idx orc_nil) (by kernel_rfl) (by kernel_rfl) (by kernel_rfl) (loops_none (by kernel_rfl)) fun args r h => ?_
  unfold sp_cont at h
  split at h
  · rename_i a b c
    simp only [Option.some.injEq, Prod.mk.injEq] at h
    obtain ⟨h1, rfl⟩ := h
    refine ⟨by kernel_rfl, .inr rfl, (run_cont a b c).trans ?_⟩
    rw [h1]; rfl
  · cases h
def sp_who : List AV → Option (Bool × AV)
  | [.sl (.ints 3 .i64 [1, 2, 3]), .sl (.ints 3 .i64 [0, 1, 0])] => some (true, .tup [.osl 2 (.ints 3 .i64 [3, 1, 2]), .nili])
  | _ => none
def orcWho : List (FuncId × Ent) := [(27, entB false sp_cChk), (43, entS false sp_cont)]
theorem run_who : callA (env Tryz.f25.ntmps orcWho []) (bodyC Tryz.f25) Tryz.f25.results.toList (slots 0 [.sl (.ints 3 .i64 [1, 2, 3]), .sl (.ints 3 .i64 [0, 1, 0])]) some =
    chk (sm3 1 && sm3 2 && sm3 3) (chk (sm3 0 && sm3 1 && sm3 0) (some (.tup [.osl 2 (.ints 3 .i64 [3, 1, 2]), .nili]))) := by kernel_rfl
theorem ok_who : EntOk Tryz.prog 25 (entS false sp_who) := by
  refine contractS (orc := orcWho) (lo := []) Tryz.func25 (orc_cons ok_cChk (orc_cons ok_cont orc_nil)) (by kernel_rfl) (by kernel_rfl) (by kernel_rfl) (loops_none (by kernel_rfl)) fun args r h => ?_
  unfold sp_who at h
  split at h
  · simp only [Option.some.injEq, Prod.mk.injEq] at h
    obtain ⟨-, rfl⟩ := h
    refine ⟨by kernel_rfl, .inr rfl, run_who.trans ?_⟩
    unfold sm3
    simp only [stk_eq]
    rfl
  · cases h
def sp_nums : List AV → Option (Bool × AV)
  | [.sl (.ints 3 .i64 [3, 1, 2]), .sl (.ints 3 .i64 [3, 1, 2])] => some (true, .bool true)
  | _ => none
theorem run_nums : callA (env Tryz.f26.ntmps [] []) (bodyC Tryz.f26) Tryz.f26.results.toList (slots 0 [.sl (.ints 3 .i64 [3, 1, 2]), .sl (.ints 3 .i64 [3, 1, 2])]) some =
    some (.bool true) := by kernel_rfl
theorem ok_nums : EntOk Tryz.prog 26 (entS false sp_nums) := by
  refine contractS (orc := []) (lo := []) Tryz.func26 orc_nil (by kernel_rfl) (by kernel_rfl) (by kernel_rfl) (loops_none (by kernel_rfl)) fun args r h => ?_
  unfold sp_nums at h
  split at h
  · simp only [Option.some.injEq, Prod.mk.injEq] at h
    obtain ⟨-, rfl⟩ := h
    exact ⟨by kernel_rfl, .inr rfl, run_nums⟩
  · cases h
def sp_su25 : List AV → Option (Bool × AV)
  | [] => some (true, .bool true)
  | _ => none
theorem run_su25 : callA (env Tryz.f7.ntmps [(25, entS false sp_who), (26, entS false sp_nums)] []) (bodyC Tryz.f7) Tryz.f7.results.toList (slots 0 []) some =
    some (.bool true) := by kernel_rfl
theorem ok_su25 : EntOk Tryz.prog 7 (entS false sp_su25) := by
  refine contractS (orc := [(25, entS false sp_who), (26, entS false sp_nums)]) (lo := []) Tryz.func7 (orc_cons ok_who (orc_cons ok_nums orc_nil)) (by kernel_rfl) (by kernel_rfl) (by kernel_rfl) (loops_none (by kernel_rfl)) fun args r h => ?_
  unfold sp_su25 at h
  split at h
  · simp only [Option.some.injEq, Prod.mk.injEq] at h
    obtain ⟨-, rfl⟩ := h
    exact ⟨by kernel_rfl, .inr rfl, run_su25⟩
  · cases h
end
end Go.Proofs.YtbakldcbaikgpaaGreatDoor
