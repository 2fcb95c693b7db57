/- Opening a slice of structs of four cells: an int, a word, an int, a string. No program here. -/
import Derived.Test.YtlobkadfmgnlmaaOp
import Derived.Test.YtlobkadfmgnlmaaMs
namespace Go.VC
open Go Go.ChangeShapes Go.WideShapes
/-- A part as it came in. -/
structure P4 where
  kind : Int
  v : Int
  n : Int
  s : List UInt8

/-- A slice of such parts that came in. -/
def IsP4s (w : World) (a : Option Addr) (len : Nat) (zs : List P4) : Prop :=
  zs.length = len ∧ len ≤ maxLen ∧ ∀ i (hi : i < zs.length), (∃ b, a = some b ∧ w.cell? (Addr.add (Addr.add b (i * 4)) 0) = some (.int .i64 zs[i].kind) ∧ w.cell? (Addr.add (Addr.add b (i * 4)) 1) = some (.int .u64 zs[i].v) ∧
      w.cell? (Addr.add (Addr.add b (i * 4)) 2) = some (.int .i64 zs[i].n) ∧ w.cell? (Addr.add (Addr.add b (i * 4)) 3) = some (.string (bs8 zs[i].s))) ∧
    (Lit.int .i64 zs[i].kind).wf = true ∧ (Lit.int .u64 zs[i].v).wf = true ∧ (Lit.int .i64 zs[i].n).wf = true ∧ zs[i].s.length ≤ maxLen

theorem open_p4s {H : Type} {enc : TypeId × Value → H} {P : Program} {w : World} {t e : TypeId} {f0 f1 f2 f3 : Field} {fuel : Nat} {a : Option Addr} {len cap : Nat} {x : DataW H × List MemPlace}
    (ht : P.underlying t = some (.slice e)) (he : P.underlying e = some (.struct #[f0, f1, f2, f3])) (ce : P.cellsOf e = 4) (o0 : f0.offset = 0) (o1 : f1.offset = 1) (o2 : f2.offset = 2) (o3 : f3.offset = 3)
    (c0 : P.cellsOf f0.type = 1) (c1 : P.cellsOf f1.type = 1) (c2 : P.cellsOf f2.type = 1) (c3 : P.cellsOf f3.type = 1)
    (i0 : P.underlying f0.type = some (.int .i64)) (i1 : P.underlying f1.type = some (.int .u64)) (i2 : P.underlying f2.type = some (.int .i64)) (i3 : P.underlying f3.type = some .string)
    (h : DataW.trod enc P w 0 (fun _ => true) true fuel t (Value.slice a len cap).cells.toList = some x) : ∃ zs, IsP4s w a len zs := by
  rcases Deep.open_slice ht h with ⟨hcs, _⟩ | ⟨b, l, c, m, n, D, Pl, hcs, _, hl, hm, hmm, _, hx⟩
  · simp [Value.cells] at hcs
    obtain ⟨rfl, rfl, rfl⟩ := hcs
    exact ⟨[], rfl, Nat.zero_le _, fun i hi => absurd hi (by simp)⟩
  · simp [Value.cells] at hcs
    obtain ⟨rfl, rfl, rfl⟩ := hcs
    simp only [if_true] at hmm
    subst hmm
    have each : ∀ i, i < len → ∃ z : P4, (w.cell? (Addr.add (Addr.add b (i * 4)) 0) = some (.int .i64 z.kind) ∧ w.cell? (Addr.add (Addr.add b (i * 4)) 1) = some (.int .u64 z.v) ∧
      w.cell? (Addr.add (Addr.add b (i * 4)) 2) = some (.int .i64 z.n) ∧ w.cell? (Addr.add (Addr.add b (i * 4)) 3) = some (.string (bs8 z.s))) ∧
      (Lit.int .i64 z.kind).wf = true ∧ (Lit.int .u64 z.v).wf = true ∧ (Lit.int .i64 z.n).wf = true ∧ z.s.length ≤ maxLen := by
      intro i hi
      obtain ⟨cs', h1, h2⟩ := hx i (by omega)
      rw [ce] at h1
      obtain ⟨_, hlen, hcell⟩ := World.cells?_some h1
      obtain ⟨xs, k, hk, hxy, _, hxl, hf⟩ := DataW.trod_struct he h2
      match xs, hxl, cs', hlen with
      | [y0, y1, y2, y3], _, [v0, v1, v2, v3], _ =>
        have g0 := hf 0 f0 rfl
        have g1 := hf 1 f1 rfl
        have g2 := hf 2 f2 rfl
        have g3 := hf 3 f3 rfl
        simp [o0, o1, o2, o3, c0, c1, c2, c3] at g0 g1 g2 g3
        obtain ⟨n0, e0, _, wf0⟩ := DataW.trod_int i0 g0
        obtain ⟨n1, e1, _, wf1⟩ := DataW.trod_int i1 g1
        obtain ⟨n2, e2, _, wf2⟩ := DataW.trod_int i2 g2
        obtain ⟨s3, e3, _, wf3⟩ := DataW.trod_string i3 g3
        have q0 := hcell 0 (by omega)
        have q1 := hcell 1 (by omega)
        have q2 := hcell 2 (by omega)
        have q3 := hcell 3 (by omega)
        simp only [List.cons.injEq, and_true] at e0 e1 e2 e3
        subst e0 e1 e2 e3
        exact ⟨⟨n0, n1, n2, s3.data.toList⟩, ⟨by simpa using q0, by simpa using q1, by simpa using q2, by rw [bs8_toList]; simpa using q3⟩, wf0, wf1, wf2, by simp only [Array.length_toList]; exact wf3⟩
    obtain ⟨zs, hl2, hz⟩ := list_of len each
    exact ⟨zs, hl2, by omega, fun i hi => ⟨⟨b, rfl, (hz i hi).1⟩, (hz i hi).2⟩⟩
end Go.VC
