/- Arguments of the laws: numbers and structs that came in. Own work. -/
import Derived.Test.YtdkebceiljdgjaaDoorRow
import Derived.Test.YtdkebceiljdgjaaDoorWideA
namespace Go.Proofs.YtdkebceiljdgjaaDoor
open Go.ChangeShapes Go.WideShapes Go.ChangeAt Go.RowKit
set_option maxRecDepth 100000

theorem cell_bool {P : Program} {w : World} {r : Reach} {b : Nat} {t : TypeId} {v : Value} (ht : P.underlying t = some .bool) (h : Cell.okWide P w r b t v) : ∃ x, v = .bool x := by
  cases v <;> simp [Cell.okWide, Cell.ok, ht] at h ⊢
theorem cell_int {P : Program} {w : World} {r : Reach} {b : Nat} {t : TypeId} {k : IntKind} {v : Value} (ht : P.underlying t = some (.int k)) (h : Cell.okWide P w r b t v) : ∃ n, v = .int k n ∧ k.has n := by
  cases v <;> simp [Cell.okWide, Cell.ok, ht] at h ⊢
  obtain ⟨rfl, h⟩ := h
  exact ⟨_, ⟨rfl, rfl⟩, h⟩

theorem has_u64 {n : Int} (h : IntKind.u64.has n) : inU n = true := by
  rw [inU_iff]
  simp [IntKind.has, IntKind.min, IntKind.max, IntKind.bits, IntKind.signed] at h
  omega

theorem wf_u {n : Int} (h : (Lit.int .u64 n).wf = true) : inU n = true := by
  rw [inU_iff]
  simp [Lit.wf, IntKind.min, IntKind.max, IntKind.bits, IntKind.signed] at h
  omega

theorem okWide_number {w : World} {v : Value} (h : Value.okWide Tryd.prog w .any 0 50 v) :
    ∃ m e a b c d r, v = .agg #[.bool m, .int .i64 e, .int .u64 a, .int .u64 b, .int .u64 c, .int .u64 d, .bool r] ∧ okW [a, b, c, d] = true := by
  have hu : Tryd.prog.underlying 50 = some (.struct ((match Tryd.prog.underlying 50 with | some (.struct fs) => fs | _ => #[]))) := by kernel_rfl
  unfold Value.okWide at h
  rw [hu] at h
  simp only at h
  obtain ⟨⟨l⟩, rfl, hsz, ts, hts, _, hc⟩ := h
  have hc7 : Tryd.prog.cellsOf 50 = 7 := by kernel_rfl
  have ht2 : Tryd.prog.cellTypes Tryd.prog.depth 50 = some [4, 3, 32, 32, 32, 32, 4] := by kernel_rfl
  rw [ht2] at hts
  simp only [Option.some.injEq] at hts
  subst hts
  match l, hsz.trans hc7 with
  | [c0, c1, c2, c3, c4, c5, c6], _ =>
    obtain ⟨u0, t0, g0⟩ := hc 0 c0 rfl
    obtain ⟨u1, t1, g1⟩ := hc 1 c1 rfl
    obtain ⟨u2, t2, g2⟩ := hc 2 c2 rfl
    obtain ⟨u3, t3, g3⟩ := hc 3 c3 rfl
    obtain ⟨u4, t4, g4⟩ := hc 4 c4 rfl
    obtain ⟨u5, t5, g5⟩ := hc 5 c5 rfl
    obtain ⟨u6, t6, g6⟩ := hc 6 c6 rfl
    simp at t0 t1 t2 t3 t4 t5 t6
    subst t0 t1 t2 t3 t4 t5 t6
    obtain ⟨m, rfl⟩ := cell_bool Tryd.underlying4 g0
    obtain ⟨e, rfl, _⟩ := cell_int Tryd.underlying3 g1
    obtain ⟨a, rfl, ha⟩ := cell_int Tryd.underlying32 g2
    obtain ⟨b, rfl, hb⟩ := cell_int Tryd.underlying32 g3
    obtain ⟨c, rfl, hc'⟩ := cell_int Tryd.underlying32 g4
    obtain ⟨d, rfl, hd⟩ := cell_int Tryd.underlying32 g5
    obtain ⟨r, rfl⟩ := cell_bool Tryd.underlying4 g6
    refine ⟨m, e, a, b, c, d, r, rfl, ?_⟩
    simp only [okW, has_u64 ha, has_u64 hb, has_u64 hc', has_u64 hd, Bool.and_self]

theorem vr_number {A : Nat → Prop} {w : World} (m : Bool) (e a b c d : Int) (r : Bool) : VR A w ρ0 (.st [.bool m, .int .i64 e, .ints 4 .u64 [a, b, c, d], .bool r]) (.agg #[.bool m, .int .i64 e, .int .u64 a, .int .u64 b, .int .u64 c, .int .u64 d, .bool r]) := by
  simp only [VR]
  refine ⟨[.bool m, .int .i64 e, .int .u64 a, .int .u64 b, .int .u64 c, .int .u64 d, .bool r], ?_, rfl⟩
  simp only [CRs]
  refine ⟨_, _, rfl, ⟨_, _, rfl, ⟨_, _, ⟨rfl, rfl⟩, ⟨_, _, rfl, rfl, rfl⟩, rfl⟩, rfl⟩, rfl⟩
end Go.Proofs.YtdkebceiljdgjaaDoor
