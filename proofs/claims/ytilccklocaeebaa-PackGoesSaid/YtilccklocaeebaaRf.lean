/- Ranges over functions: lemmas for those who use the conditions. No program here. -/
import Derived.Test.YtilccklocaeebaaVc9
import Derived.Test.YtilccklocaeebaaIs
namespace Go.VC
open Go Go.RowKit
variable {S T : Nat → Prop} {w w' w1 : World}

theorem Gr.of_no (T : Nat → Prop) (k : Kp no w w') : Gr T T w w' := ⟨k.mono (fun _ _ f => f.elim), fun _ h => h, fun _ h => .inl h⟩
theorem Stab.no {J : (Nat → Prop) → World → Prop} (h : Stab J) (hj : J T w) (k : Kp no w w') : J T w' := h _ _ _ _ hj (Gr.of_no T k)

theorem yuse {P : Program} {l : Nat} {args : Array Value} {R R' : Value → World → Prop} (h : YieldC P l args w R) (k : ∀ v w', R v w' → R' v w') : YieldC P l args w R' := by
  obtain ⟨fn, tmps, a, b, h1, h2⟩ := h
  exact ⟨fn, tmps, a, b, h1, h2.mono fun e w' ⟨v, he, hr⟩ => ⟨v, he, k v w' hr⟩⟩

/-- An iterator may be ranged over later. -/
theorem Iter.later {P : Program} {g : Nat} {first cap : List Value} {n : Nat} {xs : Nat → List Value} {Dt : Nat → Prop} (h : Iter P g first cap w n xs Dt) (k : Kp no w w') : Iter P g first cap w' n xs Dt :=
  fun l J X w1 k1 hJ hX hr h0 => h l J X w1 (k.trans k1 (fun _ _ f => f)) hJ hX hr h0

/-- What is said of blocks below a bound abides. -/
theorem stab_const (p : Prop) : Stab (fun _ _ => p) := fun _ _ _ _ h _ => h
theorem stab_and {J J' : (Nat → Prop) → World → Prop} (h : Stab J) (h' : Stab J') : Stab (fun T w => J T w ∧ J' T w) := fun T T' w w' hj hg => ⟨h _ _ _ _ hj.1 hg, h' _ _ _ _ hj.2 hg⟩
theorem stab_blk {b : Nat} {cs : List Value} {U : TypeId} : Stab (fun T w => ¬ T b ∧ Blk w b cs U) := fun T T' w w' hj hg => ⟨fun h => by
  rcases hg.fr b h with g | g
  · exact hj.1 g
  · have := hj.2.lt; omega, hj.2.kp hg.kp hj.1⟩
/-- All that lay in a world lies as it lay, but some blocks. -/
theorem stab_kp {S : Nat → Prop} {w0 : World} : Stab (fun T w => (∀ k, T k → w0.heap.size ≤ k) ∧ Kp S w0 w) := fun T T' w w' hj hg => ⟨fun k hk => by
  rcases hg.fr k hk with g | g
  · exact hj.1 k g
  · have := hj.2.size; omega, hj.2.trans hg.kp (fun k h1 h2 => by have := hj.1 k h2; omega)⟩

/-- A result in a cell is set and handed back. -/
theorem retc {rb : Nat} {x : Value} {b : Bool} {U : TypeId} {DS : List Nat} {R : Value → World → Prop} (hb : Blk w rb [x] U) (hn : DS.Nodup) (hd : ∀ D, D ∈ DS → w.heap[D]? = some (.deferred (some [])))
    (k : ∀ w', Kp (fun k => k = rb ∨ k ∈ DS) w w' → R (.bool b) w') :
    (∃ u, w.cell? ⟨rb, 0, none⟩ = some u) ∧ w.frozen? ⟨rb, 0, none⟩ = false ∧ DS.Nodup ∧ (∀ D, D ∈ DS → (w.setCell ⟨rb, 0, none⟩ (.bool b)).heap[D]? = some (.deferred (some []))) ∧
      ∀ w5, Kp (fun k => k ∈ DS) (w.setCell ⟨rb, 0, none⟩ (.bool b)) w5 → ∃ b6 : Bool, w5.cell? ⟨rb, 0, none⟩ = some (.bool b6) ∧ R (.bool b6) w5 := by
  have hrd : rb ∉ DS := fun h => by have := hd rb h; rw [show w.heap[rb]? = _ from hb] at this; cases this
  have h1 : Kp (fun k => k = rb ∨ k ∈ DS) w (w.setCell ⟨rb, 0, none⟩ (.bool b)) := (Kp.refl _ _).set _ _ (fun _ => .inl rfl)
  have hz := hb.set 0 (.bool b)
  rw [add0] at hz
  refine ⟨⟨_, hb.cell0 0⟩, ?_, hn, fun D hD => ?_, fun w5 k5 => ⟨b, ?_, k w5 (h1.trans k5 (fun _ _ h => .inr h))⟩⟩
  · have := hb.frozen 0; rwa [add0] at this
  · rw [heap_setCell_other w ⟨rb, 0, none⟩ D _ (fun e => hrd (by simp only at e; subst e; exact hD))]; exact hd D hD
  · exact (hz.kp k5 hrd).cell0 0

/-- A cell of one's own is set. -/
theorem setc {b : Nat} {x v : Value} {U : TypeId} (hb : Blk w b [x] U) : (∃ u, w.cell? ⟨b, 0, none⟩ = some u) ∧ w.frozen? ⟨b, 0, none⟩ = false ∧ Blk (w.setCell ⟨b, 0, none⟩ v) b [v] U ∧ ∀ S : Nat → Prop, S b → Kp S w (w.setCell ⟨b, 0, none⟩ v) := by
  have hz := hb.set 0 v
  rw [add0] at hz
  refine ⟨⟨_, hb.cell0 0⟩, ?_, hz, fun S hS => (Kp.refl _ _).set _ _ (fun _ => hS)⟩
  have := hb.frozen 0; rwa [add0] at this
end Go.VC
