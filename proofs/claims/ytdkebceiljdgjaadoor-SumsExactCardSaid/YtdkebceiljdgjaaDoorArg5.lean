/- Arguments of the laws: the numbers of chapter 5. Own work. -/
import Derived.Test.YtdkebceiljdgjaaDoorArg
namespace Go.Proofs.YtdkebceiljdgjaaDoor
open Go.ChangeShapes Go.WideShapes Go.ChangeAt Go.RowKit
set_option maxRecDepth 100000

theorem okWide_number5 {w : World} {v : Value} (h : Value.okWide Tryd.prog w .any 0 53 v) :
    ∃ m e a b c d r, v = .agg #[.bool m, .int .i64 e, .int .u64 a, .int .u64 b, .int .u64 c, .int .u64 d, .bool r] ∧ okW [a, b, c, d] = true := by
  have hu : Tryd.prog.underlying 53 = some (.struct ((match Tryd.prog.underlying 53 with | some (.struct fs) => fs | _ => #[]))) := by kernel_rfl
  unfold Value.okWide at h
  rw [hu] at h
  simp only at h
  obtain ⟨⟨l⟩, rfl, hsz, ts, hts, _, hc⟩ := h
  have hc7 : Tryd.prog.cellsOf 53 = 7 := by kernel_rfl
  have ht2 : Tryd.prog.cellTypes Tryd.prog.depth 53 = some [4, 3, 32, 32, 32, 32, 4] := by kernel_rfl
  rw [ht2] at hts
  simp only [Option.some.injEq] at hts
  subst hts
  match l, hsz.trans hc7 with
  | [c0, c1, c2, c3, c4, c5, c6], _ =>
    obtain ⟨u0, t0, g0⟩ := hc 0 c0 rfl
    obtain ⟨u1, t1, g1⟩ := hc 1 c1 rfl
    obtain ⟨u2, t2, g2⟩ := hc 2 c2 rfl
    obtain ⟨u3, t3, g3⟩ := hc 3 c3 rfl
    obtain ⟨u4, t4, g4⟩ := hc 4 c4 rfl
    obtain ⟨u5, t5, g5⟩ := hc 5 c5 rfl
    obtain ⟨u6, t6, g6⟩ := hc 6 c6 rfl
    simp at t0 t1 t2 t3 t4 t5 t6
    subst t0 t1 t2 t3 t4 t5 t6
    obtain ⟨m, rfl⟩ := cell_bool Tryd.underlying4 g0
    obtain ⟨e, rfl, _⟩ := cell_int Tryd.underlying3 g1
    obtain ⟨a, rfl, ha⟩ := cell_int Tryd.underlying32 g2
    obtain ⟨b, rfl, hb⟩ := cell_int Tryd.underlying32 g3
    obtain ⟨c, rfl, hc'⟩ := cell_int Tryd.underlying32 g4
    obtain ⟨d, rfl, hd⟩ := cell_int Tryd.underlying32 g5
    obtain ⟨r, rfl⟩ := cell_bool Tryd.underlying4 g6
    refine ⟨m, e, a, b, c, d, r, rfl, ?_⟩
    simp only [okW, has_u64 ha, has_u64 hb, has_u64 hc', has_u64 hd, Bool.and_self]

end Go.Proofs.YtdkebceiljdgjaaDoor
