/- Doors: what a row's condition on the listed table gives the walks. The numbers 152 and 5 are the types '[64]uint8' and 'uint8' of the doors' seat. -/
import Derived.Test.YtomajpihimlcjaaDoorRows
import Derived.Test.YtomajpihimlcjaaDoorLt
import Derived.ProofKit
import Derived.LaidMore
import Derived.OpenShut
import Derived.Stop.Joined
namespace Go.Proofs.YtomajpihimlcjaaDoor.V
open Go Go.VC
open Go.ChangeShapes Go.WideShapes Go.ChangeAt Go.WideMaps Go.WideElems Go.RowKit
abbrev laidTab : List (String × DataW Unit) := [("math/bits.deBruijn64tab", Rows.laid_math_bits_deBruijn64tab)]
theorem gTab : Tryd.prog.globalNamed "math/bits.deBruijn64tab" = some 0 := by kernel_rfl
theorem tTab : (Tryd.prog.globals[0]?).map (·.type) = some 152 := by kernel_rfl
/-- The door's own heap meets the condition. -/
theorem door_met (os : Os) (args : Array Value) : laidMetH Tryd.prog laidTab ((World.doorLaid Tryd.prog 400 os).forCall (fun _ _ => 0) ⟨#[], args, []⟩).memory :=
  laidMetH_of_parts3 (fuel := 8) (laidMet_of_run' 8 (by kernel_rfl) (by kernel_rfl)) (by kernel_rfl) (by kernel_rfl)
theorem tab_of {W : World} (h : laidMetH Tryd.prog laidTab W) : Tab W := by
  rw [MakeChecks.laidMetH_plain _ _ _ (by kernel_rfl)] at h
  obtain ⟨ps, ⟨g0, t0, cs0, f0, p0, q0, hg0, ht0, hv0, hd0, _, _⟩, _, _⟩ := h
  obtain rfl := Option.some.inj (gTab.symm.trans hg0)
  obtain rfl := Option.some.inj (tTab.symm.trans ht0)
  obtain ⟨xs, m1, e0, hx1, hlen, hn3, hel⟩ := DataW.trod_array Tryd.underlying152 hd0
  simp only [Prod.mk.injEq, Rows.laid_math_bits_deBruijn64tab, DataW.agg.injEq] at hx1
  obtain ⟨hx1, _⟩ := hx1
  have c5 : Tryd.prog.cellsOf 5 = 1 := by kernel_rfl
  have dlen : dbTab.length = 64 := by decide
  intro i hi
  have hl : xs.length = 64 := hn3
  have h0 := hel i (by omega)
  rw [List.getElem?_eq_getElem (by omega)] at h0
  obtain ⟨k, e1, e2, _⟩ := DataW.trod_int Tryd.underlying5 h0
  have hk : (xs.map (·.1))[i]? = some (DataW.lit (Lit.int .u8 ((dbTab[i]?).getD 0 : Nat))) := by
    rw [← hx1]
    exact (show (dbTab.map fun n => (DataW.lit (Lit.int .u8 (n : Nat)) : DataW Unit))[i]? = some (DataW.lit (Lit.int .u8 ((dbTab[i]?).getD 0 : Nat))) by
      rw [List.getElem?_map, List.getElem?_eq_getElem (by omega)]; rfl)
  rw [List.getElem?_map, List.getElem?_eq_getElem (by omega), e2] at hk
  simp only [Option.map_some, Option.some.injEq, DataW.lit.injEq, Lit.int.injEq, true_and] at hk
  rw [c5, Nat.mul_one] at e1
  have hc := World.var?_cell hg0 hv0 i
  have hci : cs0.toList[i]? = some (Value.int .u8 k) := by
    have := congrArg (fun l => l[0]?) e1
    simpa [List.getElem?_take, List.getElem?_drop] using this
  rw [show Addr.add ⟨0, 0, none⟩ i = ⟨0, i, none⟩ by simp [Addr.add]; exact fun h => h.symm, hc, ← Array.getElem?_toList, hci, hk]
end Go.Proofs.YtomajpihimlcjaaDoor.V
