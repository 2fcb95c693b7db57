/- Groups of numbers that rise, as a chain. No program here. -/
import Derived.Test.YtmpgklgjmkcpdaaPx
namespace Go.VC
open Go
/-- The base of what comes next. -/
def nextB (out : List Nat) : Nat := if out.length = 0 then 0 else wg out (out.length - 1) + 1
def chStep (out g : List Nat) : List Nat := out ++ g.map (nextB out + ·)
/-- The chain of some groups. -/
def chainOf (gs : List (List Nat)) : List Nat := gs.foldl chStep []
def cnts (gs : List (List Nat)) : List Nat := gs.map List.length
/-- The chain of the first groups. -/
def chT (gs : List (List Nat)) (m : Nat) : List Nat := chainOf (gs.take m)
theorem chT_zero (gs : List (List Nat)) : chT gs 0 = [] := rfl
theorem chT_all (gs : List (List Nat)) : chT gs gs.length = chainOf gs := by unfold chT; rw [List.take_length]
theorem chT_succ {gs : List (List Nat)} {m : Nat} (hm : m < gs.length) : chT gs (m + 1) = chT gs m ++ gs[m].map (nextB (chT gs m) + ·) := by
  unfold chT chainOf
  rw [List.take_add_one, List.getElem?_eq_getElem hm, List.foldl_append]
  rfl
theorem cnts_len (gs : List (List Nat)) : (cnts gs).length = gs.length := List.length_map ..
theorem cnts_at {gs : List (List Nat)} {m : Nat} (hm : m < gs.length) : wg (cnts gs) m = gs[m].length := by
  show ((cnts gs)[m]?).getD 0 = _; unfold cnts; simp [hm]
theorem wg_app (a b : List Nat) (i : Nat) : wg (a ++ b) i = if i < a.length then wg a i else wg b (i - a.length) := by
  unfold wg
  rw [List.getElem?_append]
  split <;> rfl
theorem chT_len (gs : List (List Nat)) : ∀ m, m ≤ gs.length → (chT gs m).length = S0 (cnts gs) m
  | 0, _ => rfl
  | m + 1, h => by
    rw [chT_succ (by omega), List.length_append, List.length_map, chT_len gs m (by omega), S0_succ (by rw [cnts_len]; omega), cnts_at (by omega)]
theorem wg_mapN {g : List Nat} {f : Nat → Nat} {i : Nat} (hi : i < g.length) : wg (g.map f) i = f (wg g i) := by
  unfold wg; rw [List.getElem?_map, List.getElem?_eq_getElem hi]; rfl
/-- Groups that may be. -/
def GoodG (gs : List (List Nat)) : Prop := ∀ g ∈ gs, (∀ v ∈ g, v < 65536) ∧ ∀ i j, i < j → j < g.length → wg g i < wg g j
theorem wg_memN {g : List Nat} {i : Nat} (hi : i < g.length) : wg g i ∈ g := by unfold wg; rw [List.getElem?_eq_getElem hi]; exact List.getElem_mem hi
theorem chT_inc {gs : List (List Nat)} (h : GoodG gs) : ∀ m, m ≤ gs.length → (∀ i j, i < j → j < (chT gs m).length → wg (chT gs m) i < wg (chT gs m) j) ∧ nextB (chT gs m) ≤ 65536 * m
  | 0, _ => ⟨fun i j _ hj => by rw [chT_zero] at hj; simp at hj, by rw [chT_zero]; simp [nextB]⟩
  | m + 1, hm => by
    obtain ⟨i1, i2⟩ := chT_inc h m (by omega)
    obtain ⟨g1, g2⟩ := h gs[m] (List.getElem_mem (by omega))
    have hb : ∀ i, i < (chT gs m).length → wg (chT gs m) i < nextB (chT gs m) := fun i hi => by
      unfold nextB
      rw [if_neg (by omega)]
      by_cases e : i = (chT gs m).length - 1
      · rw [e]; omega
      · have := i1 i ((chT gs m).length - 1) (by omega) (by omega); omega
    rw [chT_succ (show m < gs.length by omega)]
    generalize hc : chT gs m = c at *
    generalize gs[m] = g at *
    generalize hB : nextB c = B at *
    refine ⟨fun i j hij hj => ?_, ?_⟩
    · rw [List.length_append, List.length_map] at hj
      rw [wg_app, wg_app]
      by_cases a1 : j < c.length
      · rw [if_pos (by omega), if_pos a1]; exact i1 i j hij a1
      · rw [if_neg a1, wg_mapN (g := g) (i := j - c.length) (by omega)]
        by_cases a2 : i < c.length
        · rw [if_pos a2]; have := hb i a2; omega
        · rw [if_neg a2, wg_mapN (g := g) (i := i - c.length) (by omega)]
          have := g2 (i - c.length) (j - c.length) (by omega) (by omega)
          omega
    · unfold nextB
      by_cases e : (c ++ g.map (B + ·)).length = 0
      · rw [if_pos e]; omega
      · rw [if_neg e, wg_app]
        rw [List.length_append, List.length_map] at e ⊢
        by_cases a1 : c.length + g.length - 1 < c.length
        · rw [if_pos a1]
          have := hb _ a1; omega
        · rw [if_neg a1, wg_mapN (by omega)]
          have := g1 _ (wg_memN (g := g) (i := c.length + g.length - 1 - c.length) (by omega))
          omega
theorem chain_good {gs : List (List Nat)} (h : GoodG gs) (hl : gs.length ≤ 16777216) : GoodL (chainOf gs) := by
  obtain ⟨h1, h2⟩ := chT_inc h gs.length (Nat.le_refl _)
  rw [chT_all] at h1 h2
  have mono : ∀ i j, i ≤ j → j < (chainOf gs).length → wg (chainOf gs) i ≤ wg (chainOf gs) j := fun i j hij hj => by
    by_cases e : i = j
    · rw [e]; exact Nat.le_refl _
    · exact Nat.le_of_lt (h1 i j (by omega) hj)
  refine ⟨mono, fun x hx => ?_⟩
  obtain ⟨i, hi, rfl⟩ := List.getElem_of_mem hx
  have := mono i ((chainOf gs).length - 1) (by omega) (by omega)
  have e : wg (chainOf gs) i = (chainOf gs)[i] := by unfold wg; rw [List.getElem?_eq_getElem hi]; rfl
  unfold nextB at h2
  rw [if_neg (by omega)] at h2
  rw [← e]; omega
theorem chT_pre {gs : List (List Nat)} {k : Nat} : ∀ {m : Nat}, k ≤ m → m ≤ gs.length → ∀ i, i < (chT gs k).length → wg (chT gs m) i = wg (chT gs k) i
  | 0, hk, _, i, hi => by have : k = 0 := by omega
                          subst this; rfl
  | m + 1, hk, hm, i, hi => by
    by_cases e : k = m + 1
    · subst e; rfl
    · have ih := chT_pre (m := m) (by omega) (by omega) i hi
      have hlen : (chT gs k).length ≤ (chT gs m).length := by
        rw [chT_len gs k (by omega), chT_len gs m (by omega)]; exact S0_mono (by omega)
      rw [chT_succ (by omega), wg_app, if_pos (by omega)]; exact ih
/-- A number of the chain by its group and its place there. -/
theorem chain_at {gs : List (List Nat)} {m j : Nat} (hm : m < gs.length) (hj : j < gs[m].length) : wg (chainOf gs) (S0 (cnts gs) m + j) = nextB (chT gs m) + wg gs[m] j := by
  have hl := chT_len gs m (by omega)
  rw [← chT_all, chT_pre (k := m + 1) (by omega) (Nat.le_refl _) _ (by rw [chT_len gs (m + 1) (by omega), S0_succ (by rw [cnts_len]; omega), cnts_at hm]; omega), chT_succ hm, wg_app, if_neg (by omega), wg_mapN (by omega), hl, Nat.add_sub_cancel_left]
theorem chain_len (gs : List (List Nat)) : (chainOf gs).length = (cnts gs).sum := by
  have := chT_len gs gs.length (Nat.le_refl _)
  rw [chT_all] at this
  rw [this, ← cnts_len, S0_all]
/-- The base of a group, as the program asks for it. -/
theorem base_at {gs : List (List Nat)} {m : Nat} (hm : m ≤ gs.length) : atZ (zl (chainOf gs)) ((S0 (cnts gs) m : Int) - 1) + 1 = (nextB (chT gs m) : Int) := by
  have hl := chT_len gs m hm
  have hle : S0 (cnts gs) m ≤ (chainOf gs).length := by
    rw [← chT_all, chT_len gs _ (Nat.le_refl _)]; exact S0_mono hm
  unfold nextB
  by_cases e : S0 (cnts gs) m = 0
  · rw [if_pos (by omega), atZ_out (by omega)]; rfl
  · rw [if_neg (by omega), show (S0 (cnts gs) m : Int) - 1 = ((S0 (cnts gs) m - 1 : Nat) : Int) by omega, atZ_in (by omega), ← chT_all, chT_pre hm (Nat.le_refl _) _ (by omega), hl]
    omega
/-- Where a number is in a group. -/
def InP (gs : List (List Nat)) (m : Nat) (v r : Int) : Prop := ∃ h : m < gs.length, (r = -1 ∧ ∀ i, i < gs[m].length → (wg gs[m] i : Int) ≠ v) ∨ ∃ i, i < gs[m].length ∧ (wg gs[m] i : Int) = v ∧ r = S0 (cnts gs) m + i
theorem InP.one {gs : List (List Nat)} (hg : GoodG gs) {m : Nat} {v r s : Int} (h : InP gs m v r) (g : InP gs m v s) : r = s := by
  obtain ⟨hm, h⟩ := h
  obtain ⟨_, g⟩ := g
  rcases h with ⟨rfl, h⟩ | ⟨i, h1, h2, rfl⟩ <;> rcases g with ⟨rfl, g⟩ | ⟨j, g1, g2, rfl⟩
  · rfl
  · exact absurd g2 (h j g1)
  · exact absurd h2 (g i h1)
  · have inc := (hg gs[m] (List.getElem_mem hm)).2
    rcases Nat.lt_trichotomy i j with e | e | e
    · have := inc i j e g1; omega
    · rw [e]
    · have := inc j i e h1; omega
theorem in_find {gs : List (List Nat)} {m : Nat} (hm : m < gs.length) {v r : Int} (h : FindIP (zl (chainOf gs)) (S0 (cnts gs) m : Nat) (S0 (cnts gs) (m + 1) : Nat) ((nextB (chT gs m) : Int) + v) r) : InP gs m v r := by
  have hs : S0 (cnts gs) (m + 1) = S0 (cnts gs) m + gs[m].length := by rw [S0_succ (by rw [cnts_len]; omega), cnts_at hm]
  have hle : S0 (cnts gs) (m + 1) ≤ (chainOf gs).length := by
    rw [← chT_all, chT_len gs _ (Nat.le_refl _)]; exact S0_mono (by omega)
  refine ⟨hm, ?_⟩
  rcases h with ⟨rfl, h⟩ | ⟨a, rfl, h1, h2, h3, h4, _⟩
  · refine .inl ⟨rfl, fun i hi e => ?_⟩
    refine h (S0 (cnts gs) m + i) (by rw [zl_len]; omega) (by omega) (by omega) ?_
    rw [wz_zl, chain_at hm hi]; omega
  · obtain ⟨i, rfl⟩ : ∃ i, a = S0 (cnts gs) m + i := ⟨a - S0 (cnts gs) m, by omega⟩
    have hi : i < gs[m].length := by omega
    rw [wz_zl, chain_at hm hi] at h4
    exact .inr ⟨i, hi, by omega, by omega⟩
end Go.VC
