/- Groups out of what is kept of them. No program here. -/
import Derived.Test.YtmpgklgjmkcpdaaRq
namespace Go.VC
open Go
def baseL (ls : List Nat) (a : Nat) : Nat := if a = 0 then 0 else wg ls (a - 1) + 1
/-- The groups of which these are kept. -/
def gsOf (cs ls : List Nat) : List (List Nat) := (List.range cs.length).map fun m => (List.range (wg cs m)).map fun j => wg ls (S0 cs m + j) - baseL ls (S0 cs m)
def OkOf (cs ls : List Nat) : Prop := cs.sum = ls.length ∧ ∀ m, m < cs.length → ∀ j, j < wg cs m → baseL ls (S0 cs m) ≤ wg ls (S0 cs m + j) ∧ wg ls (S0 cs m + j) < baseL ls (S0 cs m) + 65536 ∧ (0 < j → wg ls (S0 cs m + (j - 1)) < wg ls (S0 cs m + j))
theorem gsOf_len (cs ls : List Nat) : (gsOf cs ls).length = cs.length := by simp [gsOf]
theorem gsOf_at {cs ls : List Nat} {m : Nat} (h : m < (gsOf cs ls).length) : (gsOf cs ls)[m] = (List.range (wg cs m)).map fun j => wg ls (S0 cs m + j) - baseL ls (S0 cs m) := by
  have e : (gsOf cs ls)[m]? = some ((List.range (wg cs m)).map fun j => wg ls (S0 cs m + j) - baseL ls (S0 cs m)) := by
    unfold gsOf
    rw [List.getElem?_map, List.getElem?_range (by rw [gsOf_len] at h; exact h)]; rfl
  rw [List.getElem?_eq_getElem h] at e
  exact Option.some.inj e
theorem of_cnts (cs ls : List Nat) : cnts (gsOf cs ls) = cs := by
  apply List.ext_getElem?
  intro i
  unfold cnts gsOf
  rw [List.map_map, List.getElem?_map]
  by_cases h : i < cs.length
  · rw [List.getElem?_range h, List.getElem?_eq_getElem h]
    simp only [Option.map_some, Function.comp, List.length_map, List.length_range]
    unfold wg; rw [List.getElem?_eq_getElem h]; rfl
  · rw [List.getElem?_eq_none (by rw [List.length_range]; omega), List.getElem?_eq_none (by omega)]; rfl
theorem nextB_take {ls : List Nat} {a : Nat} (h : a ≤ ls.length) : nextB (ls.take a) = baseL ls a := by
  unfold nextB baseL
  rw [List.length_take, Nat.min_eq_left h]
  by_cases e : a = 0
  · rw [if_pos e, if_pos e]
  · rw [if_neg e, if_neg e]
    unfold wg
    rw [List.getElem?_take, if_pos (by omega)]
theorem of_chT {cs ls : List Nat} (h : OkOf cs ls) : ∀ m, m ≤ cs.length → chT (gsOf cs ls) m = ls.take (S0 cs m)
  | 0, _ => rfl
  | m + 1, hm => by
    have hS := S0_succ (l := cs) (m := m) (by omega)
    have hle : S0 cs (m + 1) ≤ ls.length := by
      have := S0_mono (l := cs) (show m + 1 ≤ cs.length by omega)
      rw [S0_all, h.1] at this; exact this
    rw [chT_succ (by rw [gsOf_len]; omega), of_chT h m (by omega), nextB_take (by omega), gsOf_at, List.map_map]
    apply List.ext_getElem
    · rw [List.length_append, List.length_take, List.length_map, List.length_range, List.length_take]; omega
    · intro i h1 h2
      rw [List.length_take] at h2
      by_cases g : i < S0 cs m
      · rw [List.getElem_append_left (by rw [List.length_take]; omega), List.getElem_take, List.getElem_take]
      · rw [List.getElem_append_right (by rw [List.length_take]; omega)]
        simp only [List.getElem_map, List.getElem_range, List.length_take, Function.comp, List.getElem_take]
        obtain ⟨b1, _, _⟩ := h.2 m (by omega) (i - min (S0 cs m) ls.length) (by omega)
        have e : S0 cs m + (i - min (S0 cs m) ls.length) = i := by omega
        rw [e] at b1 ⊢
        have : wg ls i = ls[i] := by unfold wg; rw [List.getElem?_eq_getElem (by omega)]; rfl
        omega
theorem of_chain {cs ls : List Nat} (h : OkOf cs ls) : chainOf (gsOf cs ls) = ls := by
  rw [← chT_all, gsOf_len, of_chT h _ (Nat.le_refl _), S0_all, h.1, List.take_length]
theorem of_good {cs ls : List Nat} (h : OkOf cs ls) : GoodG (gsOf cs ls) := by
  intro g hg
  obtain ⟨m, hm, rfl⟩ := List.mem_map.1 hg
  have hm := List.mem_range.1 hm
  have at_ : ∀ j, j < wg cs m → wg ((List.range (wg cs m)).map fun j => wg ls (S0 cs m + j) - baseL ls (S0 cs m)) j = wg ls (S0 cs m + j) - baseL ls (S0 cs m) := fun j hj => by
    show (((List.range (wg cs m)).map fun j => wg ls (S0 cs m + j) - baseL ls (S0 cs m))[j]?).getD 0 = _
    simp [hj]
  refine ⟨fun v hv => ?_, fun i j hij hj => ?_⟩
  · obtain ⟨j, hj, rfl⟩ := List.mem_map.1 hv
    have := h.2 m hm j (List.mem_range.1 hj)
    omega
  · rw [List.length_map, List.length_range] at hj
    rw [at_ i (by omega), at_ j hj]
    have inc : ∀ d, i + d < wg cs m → 0 < d → wg ls (S0 cs m + i) < wg ls (S0 cs m + (i + d)) := by
      intro d
      induction d with
      | zero => intro _ h0; omega
      | succ d ih =>
        intro hd _
        have h1 := (h.2 m hm (i + (d + 1)) hd).2.2 (by omega)
        rw [show i + (d + 1) - 1 = i + d by omega] at h1
        by_cases e : d = 0
        · subst e; exact h1
        · have := ih (by omega) (by omega); omega
    have h1 := inc (j - i) (by omega) (by omega)
    rw [show i + (j - i) = j by omega] at h1
    have h2 := (h.2 m hm i (by omega)).1
    omega
end Go.VC
