/- Opening what a law is handed: parts of a row. -/
import Derived.Test.YtomajpihimlcjaaDoorRa
namespace Go.Proofs.YtomajpihimlcjaaDoor.V
open Go Go.VC Go.ChangeShapes Go.WideShapes Go.Joins Go.Deep
variable {H : Type} {enc : TypeId × Value → H} {w : World} {r : Reach} {b0 : Nat} {t : TypeId} {v : Value} {d : DataW H} {p : List MemPlace}
set_option maxRecDepth 100000 in
theorem open_parts (ht : Tryd.prog.underlying t = some (.slice 137)) (hv : Value.okWide Tryd.prog w r b0 t v) (h : DataW.Trod enc Tryd.prog w 0 (fun _ => true) true t v d p) :
    ∃ (l : Slc) (ps : List (Nat × Int)), v = .slice l.a l.len l.cap ∧ RdP w l ps := by
  obtain ⟨a, len, cap, rfl⟩ := Go.WideShapes.okWide_slice ht hv
  obtain ⟨fuel, hf⟩ := h
  obtain ⟨zs, hr⟩ := open_pairs ht (Tryd.underlying137) (by kernel_rfl) rfl rfl (by kernel_rfl) (by kernel_rfl) (by kernel_rfl) (by kernel_rfl) hf
  exact ⟨⟨a, len, cap⟩, _, rfl, rdP_of hr⟩
end Go.Proofs.YtomajpihimlcjaaDoor.V
