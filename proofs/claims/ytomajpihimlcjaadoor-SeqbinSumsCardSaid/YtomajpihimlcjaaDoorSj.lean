/- The law on the ones of a row, iterated over from any one on. -/
import Derived.Test.YtomajpihimlcjaaDoorSi
namespace Go.Proofs.YtomajpihimlcjaaDoor.V
open Go Go.VC
variable {w w' w0 : World} {l : Slc} {bits : List Bool} {ws : List Nat} {s r B t m n : Nat}

theorem sOneN (w : World) : IsK 25 #[.pointer none, .int .i64 0] w (.int .i64 (-1)) := by
  refine c25n _ _ _ ?_
  unfold B25n
  have hb := Blk.new w [.pointer none] 35
  have kA : Kp no w (w.alloc (.cells #[.pointer none] 35)) := (Kp.refl _ _).alloc _ _
  refine br_dec (fun _ => ⟨rfl, kA⟩) (fun _ => ⟨_, hb.cell0 0, ?_⟩)
  refine c24n _ _ ?_
  unfold B24n
  exact ⟨_, rfl, br_dec (fun _ => ⟨rfl, kA⟩) (fun h => absurd (Int.le_refl 0) h)⟩
theorem sOnesN (w : World) : Is 24 #[.pointer none] w (.int .i64 0) := by
  refine c24n _ _ ?_
  unfold B24n
  exact ⟨rfl, rfl⟩
theorem sZeroN (w : World) : IsK 26 #[.pointer none, .int .i64 0] w (.int .i64 (-1)) := by
  refine c26n _ _ _ ?_
  unfold B26n
  have hb := (Blk.new w [.pointer none] 35).drew
  have kA : Kp no w (World.drew (w.alloc (.cells #[.pointer none] 35))) := ((Kp.refl _ _).alloc _ _).drew
  exact ⟨_, hb.cell0 0, rfl, kA⟩

end Go.Proofs.YtomajpihimlcjaaDoor.V
