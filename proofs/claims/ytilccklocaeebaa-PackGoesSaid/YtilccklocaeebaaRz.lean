/- The laws of the row chapter. -/
import Derived.Test.YtilccklocaeebaaRy
import Derived.Test.YtilccklocaeebaaOp
namespace Go.Proofs.Ytilccklocaeebaa.V
open Go Go.VC
variable {w w' w0 : World} {l o : Slc} {bits : List Bool} {ws : List Nat} {r : Nat}

/-- Parts that can be read. -/
structure RdP (w : World) (l : Slc) (ps : List (Nat × Int)) : Prop where
  len : ps.length = l.len
  cel : ∀ i (hi : i < ps.length), ∃ b, l.a = some b ∧ w.cell? (Addr.add (Addr.add b (i * 2)) 0) = some (U ps[i].1) ∧ w.cell? (Addr.add (Addr.add b (i * 2)) 1) = some (.int .i64 ps[i].2)
  lt : ∀ p ∈ ps, p.1 < 18446744073709551616
theorem RdP.kp {ps : List (Nat × Int)} (h : RdP w l ps) (g : Kp no w w') : RdP w' l ps := ⟨h.len, fun i hi => by
  obtain ⟨b, hb, h0, h1⟩ := h.cel i hi
  have e : w'.heap[b.block]? = w.heap[b.block]? := g.keep _ (by have := cell_lt h0; simpa [add_block] using this) id
  exact ⟨b, hb, by rw [World.cell?_of_block (w := w) (by simpa [add_block] using e), h0], by rw [World.cell?_of_block (w := w) (by simpa [add_block] using e), h1]⟩, h.lt⟩

theorem rdP_of {a : Option Addr} {len cap : Nat} {zs : List (Int × Int)} (h : IsPairs .u64 .i64 w a len zs) : RdP w ⟨a, len, cap⟩ (zs.map fun z => (z.1.toNat, z.2)) := by
  have b : ∀ i (hi : i < zs.length), 0 ≤ zs[i].1 ∧ zs[i].1 ≤ 18446744073709551615 := fun i hi => Go.bounds_u64 (h.2.2 i hi).2.1
  refine ⟨by simpa using h.1, fun i hi => ?_, fun p hp => ?_⟩
  · rw [List.length_map] at hi
    obtain ⟨⟨c, hc, h0, h1⟩, _⟩ := h.2.2 i hi
    have := b i hi
    refine ⟨c, hc, ?_, by simpa using h1⟩
    rw [h0, List.getElem_map]
    congr 2
    simp only; omega
  · obtain ⟨z, hz, rfl⟩ := List.mem_map.1 hp
    obtain ⟨i, hi, rfl⟩ := List.getElem_of_mem hz
    have := b i hi
    simp only; omega

/-- The bits of a list of parts. -/
def bitsOf : List (Nat × Int) → List Bool → List Bool
  | [], b => b
  | p :: ps, b => bitsOf ps (addS b p.1 p.2).2
theorem bitsOf_snoc (ps : List (Nat × Int)) (p : Nat × Int) : ∀ b, bitsOf (ps ++ [p]) b = (addS (bitsOf ps b) p.1 p.2).2 := by
  induction ps with
  | nil => intro b; rfl
  | cons q ps ih => intro b; exact ih _
theorem addS_len (b : List Bool) (x : Nat) (n : Int) : (addS b x n).2.length ≤ b.length + 64 := by
  unfold addS
  split
  · simp
  · split
    · simp
    · simp [lowb]; omega
theorem bitsOf_len (ps : List (Nat × Int)) : ∀ b, (bitsOf ps b).length ≤ b.length + 64 * ps.length := by
  induction ps with
  | nil => intro b; simp [bitsOf]
  | cons q ps ih => intro b; have := ih (addS b q.1 q.2).2; have := addS_len b q.1 q.2; simp only [bitsOf, List.length_cons]; omega

end Go.Proofs.Ytilccklocaeebaa.V
