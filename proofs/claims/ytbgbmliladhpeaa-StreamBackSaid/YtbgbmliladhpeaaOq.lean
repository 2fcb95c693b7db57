/- Opening what a law is handed: codes. -/
import Derived.Test.YtbgbmliladhpeaaRa
import Derived.Test.YtbgbmliladhpeaaTl
namespace Go.VC
open Go Go.ChangeShapes Go.WideShapes Go.Joins Go.Deep
theorem open_cds {H : Type} {enc : TypeId × Value → H} {P : Program} {w : World} {t e : TypeId} {f0 f1 f2 : Field} {fuel : Nat} {a : Option Addr} {len cap : Nat} {x : DataW H × List MemPlace}
    (ht : P.underlying t = some (.slice e)) (he : P.underlying e = some (.struct #[f0, f1, f2])) (ce : P.cellsOf e = 3) (o0 : f0.offset = 0) (o1 : f1.offset = 1) (o2 : f2.offset = 2)
    (c0 : P.cellsOf f0.type = 1) (c1 : P.cellsOf f1.type = 1) (c2 : P.cellsOf f2.type = 1)
    (i0 : P.underlying f0.type = some (.int .i64)) (i1 : P.underlying f1.type = some (.int .u64)) (i2 : P.underlying f2.type = some (.int .i64))
    (h : DataW.trod enc P w 0 (fun _ => true) true fuel t (Value.slice a len cap).cells.toList = some x) : ∃ cs, RdC w ⟨a, len, cap⟩ cs := by
  rcases Deep.open_slice ht h with ⟨hcs, _⟩ | ⟨b, l, c, m, n, D, Pl, hcs, _, hl, hm, hmm, _, hx⟩
  · simp [Value.cells] at hcs
    obtain ⟨rfl, rfl, rfl⟩ := hcs
    exact ⟨[], rfl, fun i hi => absurd hi (by simp), by simp⟩
  · simp [Value.cells] at hcs
    obtain ⟨rfl, rfl, rfl⟩ := hcs
    simp only [if_true] at hmm
    subst hmm
    have each : ∀ i, i < len → ∃ z : Cd, (w.cell? (Addr.add (Addr.add b (i * 3)) 0) = some (.int .i64 z.kind) ∧ w.cell? (Addr.add (Addr.add b (i * 3)) 1) = some (U z.v) ∧
      w.cell? (Addr.add (Addr.add b (i * 3)) 2) = some (.int .i64 z.n)) ∧ z.v < 18446744073709551616 := by
      intro i hi
      obtain ⟨cs', h1, h2⟩ := hx i (by omega)
      rw [ce] at h1
      obtain ⟨_, hlen, hcell⟩ := World.cells?_some h1
      obtain ⟨xs, k, hk, hxy, _, hxl, hf⟩ := DataW.trod_struct he h2
      match xs, hxl, cs', hlen with
      | [y0, y1, y2], _, [v0, v1, v2], _ =>
        have g0 := hf 0 f0 rfl
        have g1 := hf 1 f1 rfl
        have g2 := hf 2 f2 rfl
        simp [o0, o1, o2, c0, c1, c2] at g0 g1 g2
        obtain ⟨n0, e0, _, wf0⟩ := DataW.trod_int i0 g0
        obtain ⟨n1, e1, _, wf1⟩ := DataW.trod_int i1 g1
        obtain ⟨n2, e2, _, wf2⟩ := DataW.trod_int i2 g2
        have q0 := hcell 0 (by omega)
        have q1 := hcell 1 (by omega)
        have q2 := hcell 2 (by omega)
        simp only [List.cons.injEq, and_true] at e0 e1 e2
        subst e0 e1 e2
        have b1 := Go.bounds_u64 wf1
        refine ⟨⟨n0, n1.toNat, n2⟩, ⟨by simpa using q0, ?_, by simpa using q2⟩, by simp only; omega⟩
        show _ = some (Value.int .u64 ((n1.toNat : Nat) : Int))
        rw [show ((n1.toNat : Nat) : Int) = n1 by omega]
        simpa using q1
    obtain ⟨zs, hl2, hz⟩ := list_of len each
    refine ⟨zs, hl2, fun i hi => ⟨b, rfl, (hz i hi).1⟩, fun c hc => ?_⟩
    obtain ⟨i, hi, rfl⟩ := List.getElem_of_mem hc
    exact (hz i hi).2
theorem open_cd {H : Type} {enc : TypeId × Value → H} {P : Program} {w : World} {r : Reach} {b0 : Nat} {t : TypeId} {f0 f1 f2 : Field} {v : Value} {d : DataW H} {p : List MemPlace}
    (hs : P.underlying t = some (.struct #[f0, f1, f2])) (hone : oneCellFields P #[f0, f1, f2] = true) (hC : P.cellsOf t = 3)
    (i0 : P.underlying f0.type = some (.int .i64)) (i1 : P.underlying f1.type = some (.int .u64)) (i2 : P.underlying f2.type = some (.int .i64))
    (hv : Value.okWide P w r b0 t v) (h : DataW.Trod enc P w 0 (fun _ => true) true t v d p) :
    ∃ c : Cd, v = .agg #[.int .i64 c.kind, .int .u64 (c.v : Int), .int .i64 c.n] ∧ c.v < 18446744073709551616 := by
  obtain ⟨v0, v1, v2, y0, y1, y2, n, rfl, _, _, g0, g1, g2⟩ := open_agg3 hs hone hC hv h
  obtain ⟨n0, e0, _, wf0⟩ := DataW.trod_int i0 g0
  obtain ⟨n1, e1, _, wf1⟩ := DataW.trod_int i1 g1
  obtain ⟨n2, e2, _, wf2⟩ := DataW.trod_int i2 g2
  simp only [List.cons.injEq, and_true] at e0 e1 e2
  subst e0 e1 e2
  have b1 := Go.bounds_u64 wf1
  exact ⟨⟨n0, n1.toNat, n2⟩, by simp only; rw [show ((n1.toNat : Nat) : Int) = n1 by omega], by simp only; omega⟩
end Go.VC
namespace Go.Proofs.Ytbgbmliladhpeaa.V
open Go Go.VC
variable {H : Type} {enc : TypeId × Value → H} {w : World} {r : Reach} {b0 : Nat} {t : TypeId} {v : Value} {d : DataW H} {p : List MemPlace}
set_option maxRecDepth 100000 in
theorem open_codes (ht : Try.prog.underlying t = some (.slice 34)) (hv : Value.okWide Try.prog w r b0 t v) (h : DataW.Trod enc Try.prog w 0 (fun _ => true) true t v d p) :
    ∃ (l : Slc) (cs : List Cd), v = .slice l.a l.len l.cap ∧ RdC w l cs := by
  obtain ⟨a, len, cap, rfl⟩ := Go.WideShapes.okWide_slice ht hv
  obtain ⟨fuel, hf⟩ := h
  obtain ⟨cs, hr⟩ := open_cds ht (Try.underlying34) (by kernel_rfl) rfl rfl rfl (by kernel_rfl) (by kernel_rfl) (by kernel_rfl) (by kernel_rfl) (by kernel_rfl) (by kernel_rfl) hf
  exact ⟨⟨a, len, cap⟩, cs, rfl, hr⟩
set_option maxRecDepth 100000 in
theorem open_code (hv : Value.okWide Try.prog w r b0 34 v) (h : DataW.Trod enc Try.prog w 0 (fun _ => true) true 34 v d p) :
    ∃ c : Cd, v = cdV c ∧ c.v < 18446744073709551616 :=
  open_cd (Try.underlying34) (by kernel_rfl) (by kernel_rfl) (by kernel_rfl) (by kernel_rfl) (by kernel_rfl) hv h
set_option maxRecDepth 100000 in
theorem open_parts (ht : Try.prog.underlying t = some (.slice 95)) (hv : Value.okWide Try.prog w r b0 t v) (h : DataW.Trod enc Try.prog w 0 (fun _ => true) true t v d p) :
    ∃ (l : Slc) (ps : List (Nat × Int)), v = .slice l.a l.len l.cap ∧ RdP w l ps := by
  obtain ⟨a, len, cap, rfl⟩ := Go.WideShapes.okWide_slice ht hv
  obtain ⟨fuel, hf⟩ := h
  obtain ⟨zs, hr⟩ := open_pairs ht (Try.underlying95) (by kernel_rfl) rfl rfl (by kernel_rfl) (by kernel_rfl) (by kernel_rfl) (by kernel_rfl) hf
  exact ⟨⟨a, len, cap⟩, _, rfl, rdP_of hr⟩
end Go.Proofs.Ytbgbmliladhpeaa.V
