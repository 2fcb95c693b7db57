/- Opening a case of the chapters on directories. -/
import Derived.Test.YtilccklocaeebaaDq
import Derived.Test.YtilccklocaeebaaOw
namespace Go.VC
open Go Go.ChangeShapes Go.WideShapes Go.Joins Go.Deep
theorem open_caseP {H : Type} {enc : TypeId × Value → H} {P : Program} {w : World} {r : Reach} {b0 : Nat} {t e : TypeId} {f0 f1 f2 f3 : Field} {v : Value} {d : DataW H} {p : List MemPlace}
    (hs : P.underlying t = some (.struct #[f0, f1, f2, f3])) (hone : oneCellFields P #[f0, f1, f2, f3] = true) (hC : P.cellsOf t = 4)
    (i0 : P.underlying f0.type = some (.slice e)) (ie : P.underlying e = some (.int .u64)) (ce : P.cellsOf e = 1) (i1 : P.underlying f1.type = some (.int .u8)) (i2 : P.underlying f2.type = some (.int .u64)) (i3 : P.underlying f3.type = some (.int .u8))
    (hv : Value.okWide P w r b0 t v) (h : DataW.Trod enc P w 0 (fun _ => true) true t v d p) :
    ∃ (l : Slc) (ws : List Nat) (t m n : Nat), v = .agg #[.slice l.a l.len l.cap, .int .u8 (t : Int), .int .u64 (m : Int), .int .u8 (n : Int)] ∧ RdW w l ws ∧ t ≤ 255 ∧ m < 18446744073709551616 ∧ n ≤ 255 := by
  obtain ⟨v0, v1, v2, v3, y0, y1, y2, y3, n, rfl, _, _, g0, g1, g2, g3⟩ := open_agg4 hs hone hC hv h
  obtain ⟨n1, e1, _, wf1⟩ := DataW.trod_int i1 g1
  obtain ⟨n2, e2, _, wf2⟩ := DataW.trod_int i2 g2
  obtain ⟨n3, e3, _, wf3⟩ := DataW.trod_int i3 g3
  simp only [List.cons.injEq, and_true] at e1 e2 e3
  subst e1 e2 e3
  have hsl : ∃ a len cap, v0 = .slice a len cap := by
    rcases DataW.trod_slice i0 g0 with ⟨h0, _⟩ | ⟨a, len, cap, elems, rest, n, _, h0, _⟩
    · simp at h0; exact ⟨_, _, _, h0⟩
    · simp at h0; exact ⟨_, _, _, h0⟩
  obtain ⟨a, len, cap, rfl⟩ := hsl
  obtain ⟨zs, hl, hr, hw, hm⟩ := open_zs i0 ie ce g0
  have b1 := Go.bounds_u8 wf1
  have b2 := Go.bounds_u64 wf2
  have b3 := Go.bounds_u8 wf3
  refine ⟨⟨a, len, cap⟩, zs.map Int.toNat, n1.toNat, n2.toNat, n3.toNat, ?_, ws_of hl hr hw, by omega, by omega, by omega⟩
  rw [show ((n1.toNat : Nat) : Int) = n1 by omega, show ((n2.toNat : Nat) : Int) = n2 by omega, show ((n3.toNat : Nat) : Int) = n3 by omega]
end Go.VC
namespace Go.Proofs.Ytilccklocaeebaa.V
open Go Go.VC
set_option maxRecDepth 100000 in
theorem open_case {H : Type} {enc : TypeId × Value → H} {w : World} {r : Reach} {b0 : Nat} {v : Value} {d : DataW H} {p : List MemPlace}
    (hv : Value.okWide Try.prog w r b0 25 v) (h : DataW.Trod enc Try.prog w 0 (fun _ => true) true 25 v d p) :
    ∃ (l : Slc) (ws : List Nat) (t m n : Nat), v = caseV l t m n ∧ CaseR w l ws t m n := by
  obtain ⟨l, ws, t, m, n, hvv, h1, h2, h3, h4⟩ := open_caseP Try.underlying25 (by kernel_rfl) (by kernel_rfl) Try.underlying22 Try.underlying23 (by kernel_rfl) Try.underlying5 Try.underlying23 Try.underlying5 hv h
  exact ⟨l, ws, t, m, n, hvv, ⟨h1, h2, h3, h4⟩⟩
end Go.Proofs.Ytilccklocaeebaa.V
