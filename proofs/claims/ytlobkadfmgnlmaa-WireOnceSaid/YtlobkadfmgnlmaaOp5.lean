/- Opening a struct of four cells that is handed by value. No program here. -/
import Derived.Test.YtlobkadfmgnlmaaOp4
import Derived.Lib.SmallJoins
namespace Go.VC
open Go Go.ChangeShapes Go.WideShapes Go.Joins Go.Deep
/-- A part by value. -/
def IsP4 (z : P4) : Prop := (Lit.int .i64 z.kind).wf = true ∧ (Lit.int .u64 z.v).wf = true ∧ (Lit.int .i64 z.n).wf = true ∧ z.s.length ≤ maxLen
theorem open_p4 {H : Type} {enc : TypeId × Value → H} {P : Program} {w : World} {r : Reach} {b0 : Nat} {t : TypeId} {f0 f1 f2 f3 : Field} {v : Value} {d : DataW H} {p : List MemPlace}
    (hs : P.underlying t = some (.struct #[f0, f1, f2, f3])) (hone : oneCellFields P #[f0, f1, f2, f3] = true) (hC : P.cellsOf t = 4)
    (i0 : P.underlying f0.type = some (.int .i64)) (i1 : P.underlying f1.type = some (.int .u64)) (i2 : P.underlying f2.type = some (.int .i64)) (i3 : P.underlying f3.type = some .string)
    (hv : Value.okWide P w r b0 t v) (h : DataW.Trod enc P w 0 (fun _ => true) true t v d p) :
    ∃ z : P4, v = .agg #[.int .i64 z.kind, .int .u64 z.v, .int .i64 z.n, .string (bs8 z.s)] ∧ IsP4 z := by
  obtain ⟨v0, v1, v2, v3, y0, y1, y2, y3, n, rfl, _, _, g0, g1, g2, g3⟩ := open_agg4 hs hone hC hv h
  obtain ⟨n0, e0, _, wf0⟩ := DataW.trod_int i0 g0
  obtain ⟨n1, e1, _, wf1⟩ := DataW.trod_int i1 g1
  obtain ⟨n2, e2, _, wf2⟩ := DataW.trod_int i2 g2
  obtain ⟨s3, e3, _, wf3⟩ := DataW.trod_string i3 g3
  simp only [List.cons.injEq, and_true] at e0 e1 e2 e3
  subst e0 e1 e2 e3
  exact ⟨⟨n0, n1, n2, s3.data.toList⟩, by rw [bs8_toList], wf0, wf1, wf2, by simp only [Array.length_toList]; exact wf3⟩
end Go.VC
