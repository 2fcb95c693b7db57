/- Opening what a law is handed: slices of structs of two integers, slices of integers. No program here. -/
import Derived.Test.YtilccklocaeebaaMm
import Derived.Deep.SlicePairs
import Derived.OpenShut
namespace Go.VC
open Go Go.ChangeShapes Go.WideShapes

/-- A slice of pairs of integers that came in. -/
def IsPairs (k0 k1 : IntKind) (w : World) (a : Option Addr) (len : Nat) (zs : List (Int × Int)) : Prop :=
  zs.length = len ∧ len ≤ maxLen ∧ ∀ i (hi : i < zs.length), (∃ b, a = some b ∧ w.cell? (Addr.add (Addr.add b (i * 2)) 0) = some (.int k0 zs[i].1) ∧ w.cell? (Addr.add (Addr.add b (i * 2)) 1) = some (.int k1 zs[i].2)) ∧
    (Lit.int k0 zs[i].1).wf = true ∧ (Lit.int k1 zs[i].2).wf = true

theorem list_of {α : Type} {p : Nat → α → Prop} : ∀ (n : Nat), (∀ i, i < n → ∃ x, p i x) → ∃ xs : List α, xs.length = n ∧ ∀ i (hi : i < xs.length), p i xs[i]
  | 0, _ => ⟨[], rfl, fun i hi => absurd hi (by simp)⟩
  | n + 1, h => by
    obtain ⟨xs, hl, hx⟩ := list_of n (fun i hi => h i (by omega))
    obtain ⟨x, hp⟩ := h n (by omega)
    refine ⟨xs ++ [x], by simp [hl], fun i hi => ?_⟩
    by_cases g : i < xs.length
    · rw [List.getElem_append_left g]; exact hx i g
    · rw [List.getElem_append_right (by omega)]
      simp only [List.length_append, List.length_singleton] at hi
      have : i = n := by omega
      subst this
      simpa using hp

theorem open_pairs {H : Type} {enc : TypeId × Value → H} {P : Program} {w : World} {t e : TypeId} {f0 f1 : Field} {k0 k1 : IntKind} {fuel : Nat} {a : Option Addr} {len cap : Nat} {x : DataW H × List MemPlace}
    (ht : P.underlying t = some (.slice e)) (he : P.underlying e = some (.struct #[f0, f1])) (ce : P.cellsOf e = 2) (o0 : f0.offset = 0) (o1 : f1.offset = 1) (c0 : P.cellsOf f0.type = 1) (c1 : P.cellsOf f1.type = 1)
    (i0 : P.underlying f0.type = some (.int k0)) (i1 : P.underlying f1.type = some (.int k1))
    (h : DataW.trod enc P w 0 (fun _ => true) true fuel t (Value.slice a len cap).cells.toList = some x) : ∃ zs, IsPairs k0 k1 w a len zs := by
  rcases Deep.open_slice_pairs ht he ce o0 o1 c0 c1 h with ⟨hcs, _⟩ | ⟨b, l, c, m, n, V0, V1, D0, D1, P0, P1, hcs, _, hlc, hcm, hm, _, hcell⟩
  · simp [Value.cells] at hcs
    obtain ⟨rfl, rfl, rfl⟩ := hcs
    exact ⟨[], rfl, Nat.zero_le _, fun i hi => absurd hi (by simp)⟩
  · simp [Value.cells] at hcs
    obtain ⟨rfl, rfl, rfl⟩ := hcs
    simp only [if_true] at hm
    subst hm
    obtain ⟨zs, hl, hz⟩ := list_of (p := fun i (z : Int × Int) => (w.cell? (Addr.add (Addr.add b (i * 2)) 0) = some (.int k0 z.1) ∧ w.cell? (Addr.add (Addr.add b (i * 2)) 1) = some (.int k1 z.2)) ∧
      (Lit.int k0 z.1).wf = true ∧ (Lit.int k1 z.2).wf = true) len (fun i hi => by
        obtain ⟨h0, h1, g0, g1⟩ := hcell i (by omega)
        obtain ⟨n0, e0, _, wf0⟩ := DataW.trod_int i0 g0
        obtain ⟨n1, e1, _, wf1⟩ := DataW.trod_int i1 g1
        refine ⟨(n0, n1), ⟨?_, ?_⟩, wf0, wf1⟩
        · rw [Addr.add]; simp only [if_true]; rw [h0]; simpa using e0
        · rw [Deep.add_add, h1]; simpa using e1)
    exact ⟨zs, hl, by omega, fun i hi => ⟨⟨b, rfl, (hz i hi).1⟩, (hz i hi).2⟩⟩
end Go.VC
