/- Opening what a law is handed: ints, with room for as many. No program here. -/
import Derived.Test.YtmpgklgjmkcpdaaRa
namespace Go.VC
open Go Go.ChangeShapes Go.WideShapes Go.Joins Go.Deep
variable {H : Type} {enc : TypeId × Value → H} {P : Program} {w : World} {r : Reach} {b0 : Nat} {t e : TypeId} {v : Value} {d : DataW H} {p : List MemPlace}
theorem open_zc {k : IntKind} {fuel : Nat} {a : Option Addr} {len cap : Nat} {x : DataW H × List MemPlace} (ht : P.underlying t = some (.slice e)) (he : P.underlying e = some (.int k)) (hc : P.cellsOf e = 1)
    (h : DataW.trod enc P w 0 (fun _ => true) true fuel t [.slice a len cap] = some x) : len ≤ cap := by
  rcases open_ints ht he hc h with ⟨hcs, _⟩ | ⟨x, l, c, zs, hcs, _, hl, hm, hz, _, hcell, hwz⟩
  · simp at hcs
    obtain ⟨rfl, rfl, rfl⟩ := hcs
    exact Nat.le_refl _
  · simp at hcs
    obtain ⟨rfl, rfl, rfl⟩ := hcs
    exact hl
/-- Ints, with room for as many. -/
structure RdZc (w : World) (l : Slc) (zs : List Int) : Prop where
  z : RdZ w l zs
  cap : l.len ≤ l.cap
theorem open_zslc (ht : P.underlying t = some (.slice e)) (he : P.underlying e = some (.int .i64)) (hc : P.cellsOf e = 1) (hv : Value.okWide P w r b0 t v) (h : DataW.Trod enc P w 0 (fun _ => true) true t v d p) :
    ∃ (l : Slc) (zs : List Int), v = .slice l.a l.len l.cap ∧ RdZc w l zs ∧ l.len ≤ maxLen := by
  obtain ⟨a, len, cap, rfl⟩ := okWide_slice ht hv
  obtain ⟨fuel, hf⟩ := h
  obtain ⟨zs, hl, hr, hw, hm⟩ := open_zs ht he hc hf
  exact ⟨⟨a, len, cap⟩, zs, rfl, ⟨⟨hl, hr, fun z hz => Go.bounds_i64 (hw z hz)⟩, open_zc ht he hc hf⟩, hm⟩
end Go.VC
