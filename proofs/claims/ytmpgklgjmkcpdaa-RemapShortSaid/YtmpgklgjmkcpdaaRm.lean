/- Words behind words. No program here. -/
import Derived.Test.YtmpgklgjmkcpdaaRu
namespace Go.VC
open Go
/-- The words behind a word. -/
def behind (ps : List (Nat × Nat)) (a : Nat) : List Nat := (ps.filter (fun p => decide (p.1 = a))).map (·.2)
theorem behind_snoc (ps : List (Nat × Nat)) (p : Nat × Nat) (a : Nat) : behind (ps ++ [p]) a = behind ps a ++ (if p.1 = a then [p.2] else []) := by
  unfold behind
  rw [List.filter_append, List.map_append]
  by_cases e : p.1 = a
  · rw [if_pos e]; simp [e]
  · rw [if_neg e]; simp [e]
theorem behind_nil (a : Nat) : behind [] a = [] := rfl
abbrev lexP (p q : Nat × Nat) : Prop := p.1 < q.1 ∨ (p.1 = q.1 ∧ p.2 < q.2)
theorem lexP.trans {p q r : Nat × Nat} (h : lexP p q) (g : lexP q r) : lexP p r := by unfold lexP at *; omega
/-- Pairs that may be. -/
def PairsOk (n : Nat) (ps : List (Nat × Nat)) : Prop := (∀ p ∈ ps, p.1 < n ∧ p.2 < n) ∧ ps.Pairwise lexP
theorem pairwise_of {ps : List (Nat × Nat)} (h : ∀ i (hi : i + 1 < ps.length), lexP ps[i] ps[i + 1]) : ps.Pairwise lexP := by
  rw [List.pairwise_iff_getElem]
  intro i j hi hj hij
  have key : ∀ d, (hd : i + d + 1 < ps.length) → lexP ps[i] ps[i + d + 1] := by
    intro d
    induction d with
    | zero => intro hd; exact h i hd
    | succ d ih => intro hd; exact (ih (by omega)).trans (h (i + d + 1) hd)
  have := key (j - i - 1) (by omega)
  have e : i + (j - i - 1) + 1 = j := by omega
  simp only [e] at this
  exact this
theorem behind_inc {n : Nat} {ps : List (Nat × Nat)} (h : PairsOk n ps) (a : Nat) : (∀ v ∈ behind ps a, v < n) ∧ (behind ps a).Pairwise (· < ·) := by
  refine ⟨fun v hv => ?_, ?_⟩
  · obtain ⟨p, hp, rfl⟩ := List.mem_map.1 hv
    exact (h.1 p (List.mem_filter.1 hp).1).2
  · unfold behind
    rw [List.pairwise_map]
    have h1 : (ps.filter (fun p => decide (p.1 = a))).Pairwise lexP := h.2.filter _
    refine List.Pairwise.imp_of_mem (fun {p q} hp hq hl => ?_) h1
    have e1 := (List.mem_filter.1 hp).2
    have e2 := (List.mem_filter.1 hq).2
    simp only [decide_eq_true_eq] at e1 e2
    unfold lexP at hl
    omega
/-- The groups of pairs. -/
def grpsOf (n : Nat) (ps : List (Nat × Nat)) : List (List Nat) := (List.range n).map (behind ps)
theorem grpsOf_len (n : Nat) (ps : List (Nat × Nat)) : (grpsOf n ps).length = n := by simp [grpsOf]
theorem grpsOf_at {n : Nat} {ps : List (Nat × Nat)} {a : Nat} (h : a < (grpsOf n ps).length) : (grpsOf n ps)[a] = behind ps a := by
  have e : (grpsOf n ps)[a]? = some (behind ps a) := by
    unfold grpsOf
    rw [List.getElem?_map, List.getElem?_range (by rw [grpsOf_len] at h; exact h)]; rfl
  rw [List.getElem?_eq_getElem h] at e
  exact Option.some.inj e
theorem grps_good {n : Nat} {ps : List (Nat × Nat)} (h : PairsOk n ps) (hn : n ≤ 65536) : GoodG (grpsOf n ps) := by
  intro g hg
  obtain ⟨a, _, rfl⟩ := List.mem_map.1 hg
  obtain ⟨h1, h2⟩ := behind_inc h a
  refine ⟨fun v hv => by have := h1 v hv; omega, fun i j hij hj => ?_⟩
  have := (List.pairwise_iff_getElem.1 h2) i j (by omega) hj hij
  unfold wg
  rw [List.getElem?_eq_getElem (by omega), List.getElem?_eq_getElem hj]
  exact this
theorem grps_step {n : Nat} {ps : List (Nat × Nat)} {p : Nat × Nat} (hp : p.1 < n) : grpsOf n (ps ++ [p]) = (grpsOf n ps).set p.1 (behind ps p.1 ++ [p.2]) := by
  apply List.ext_getElem
  · simp [grpsOf]
  · intro i h1 h2
    rw [grpsOf_at, behind_snoc, List.getElem_set]
    by_cases e : p.1 = i
    · rw [if_pos e, if_pos e, e]
    · rw [if_neg e, if_neg e, grpsOf_at, List.append_nil]
end Go.VC
