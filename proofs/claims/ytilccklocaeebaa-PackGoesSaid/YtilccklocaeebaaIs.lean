/- Calls that answer and leave all that was as it was; the blocks of an object with one slice. -/
import Derived.Test.YtilccklocaeebaaLn
import Derived.Test.YtilccklocaeebaaMm
namespace Go.VC
open Go
/-- No block. -/
abbrev no : Nat → Prop := fun _ => False
end Go.VC
namespace Go.Proofs.Ytilccklocaeebaa.V
open Go Go.VC
/-- The call answers this and leaves all that was as it was. -/
abbrev IsK (f : Nat) (args : Array Value) (w : World) (v : Value) : Prop := Calls Try.prog f args w (Rv fun u w' => u = v ∧ Kp no w w')
theorem usek {f : Nat} {args : Array Value} {w : World} {v : Value} {R : Value → World → Prop} (h : IsK f args w v) (k : ∀ w', Kp no w w' → R v w') : Calls Try.prog f args w (Rv R) :=
  use h (by rintro _ w' ⟨rfl, g⟩; exact k w' g)
/-- The blocks of an object with one slice. -/
def RF (r : Nat) (l : Slc) (k : Nat) : Prop := k = r ∨ On l k
end Go.Proofs.Ytilccklocaeebaa.V
