/- Groups of numbers: what is wrong with them. No program here. -/
import Derived.Test.YtmpgklgjmkcpdaaRp
namespace Go.VC
open Go
theorem chain_place {gs : List (List Nat)} {m i : Nat} (hm : m < gs.length) (h1 : S0 (cnts gs) m ≤ i) (h2 : i < S0 (cnts gs) (m + 1)) : i - S0 (cnts gs) m < gs[m].length ∧ wg (chainOf gs) i = nextB (chT gs m) + wg gs[m] (i - S0 (cnts gs) m) := by
  have hs : S0 (cnts gs) (m + 1) = S0 (cnts gs) m + gs[m].length := by rw [S0_succ (by rw [cnts_len]; omega), cnts_at hm]
  have := chain_at hm (j := i - S0 (cnts gs) m) (by omega)
  rw [show S0 (cnts gs) m + (i - S0 (cnts gs) m) = i by omega] at this
  exact ⟨by omega, this⟩
/-- What is wrong with a group, behind a number. -/
def wrIn (p : Int) (b : Bool) : List Int → Int
  | [] => 0
  | v :: l => if v < 0 ∨ 65535 < v then 8 else if b = true ∧ v ≤ p then 9 else wrIn v true l
/-- What is wrong with groups. -/
def wrG : List (List Int) → Int
  | [] => 0
  | g :: gs => if wrIn 0 false g ≠ 0 then wrIn 0 false g else wrG gs
/-- What is wrong with a group from a place on. -/
def wrAt (g : List Int) (i : Nat) : Int := wrIn (wz g (i - 1)) (decide (0 < i)) (g.drop i)
theorem wrAt_zero (g : List Int) : wrAt g 0 = wrIn 0 false g := by
  unfold wrAt
  rw [List.drop_zero]
  cases g with
  | nil => rfl
  | cons v l => simp [wrIn]
theorem wrAt_end {g : List Int} {i : Nat} (h : g.length ≤ i) : wrAt g i = 0 := by unfold wrAt; rw [List.drop_eq_nil_of_le h]; rfl
theorem wrAt_step {g : List Int} {i : Nat} (h : i < g.length) : wrAt g i = if wz g i < 0 ∨ 65535 < wz g i then 8 else if 0 < i ∧ wz g i ≤ wz g (i - 1) then 9 else wrAt g (i + 1) := by
  have e : g[i] = wz g i := by unfold wz; rw [List.getElem?_eq_getElem h]; rfl
  unfold wrAt
  rw [List.drop_eq_getElem_cons h, e]
  simp only [wrIn, decide_eq_true_eq, Nat.add_sub_cancel, Nat.zero_lt_succ, decide_true]
theorem wrG_drop {gs : List (List Int)} {m : Nat} (h : m < gs.length) : wrG (gs.drop m) = if wrAt gs[m] 0 ≠ 0 then wrAt gs[m] 0 else wrG (gs.drop (m + 1)) := by
  rw [List.drop_eq_getElem_cons h, wrAt_zero]; rfl
theorem wrIn_good {l : List Int} : ∀ {p : Int} {b : Bool}, wrIn p b l = 0 → ∃ ns : List Nat, l = zl ns ∧ (∀ v ∈ ns, v < 65536) ∧ (∀ i j, i < j → j < ns.length → wg ns i < wg ns j) ∧ (b = true → 0 < ns.length → p < (wg ns 0 : Int)) := by
  induction l with
  | nil => exact fun _ => ⟨[], rfl, by simp, fun i j _ hj => by simp at hj, fun _ hj => by simp at hj⟩
  | cons v l ih =>
    intro p b h
    simp only [wrIn] at h
    split at h
    · cases h
    · rename_i h1
      split at h
      · cases h
      · rename_i h2
        obtain ⟨ns, rfl, g1, g2, g3⟩ := ih h
        obtain ⟨n, rfl⟩ : ∃ n : Nat, v = n := ⟨v.toNat, by omega⟩
        have w0 : ∀ i, wg (n :: ns) (i + 1) = wg ns i := fun i => rfl
        have w00 : wg (n :: ns) 0 = n := rfl
        refine ⟨n :: ns, rfl, fun x hx => ?_, fun i j hij hj => ?_, fun hb _ => ?_⟩
        · rcases List.mem_cons.1 hx with rfl | hx
          · omega
          · exact g1 x hx
        · rw [List.length_cons] at hj
          obtain ⟨j, rfl⟩ : ∃ k, j = k + 1 := ⟨j - 1, by omega⟩
          rw [w0]
          have h0 := g3 rfl (by omega)
          cases i with
          | zero =>
            rw [w00]
            by_cases e : j = 0
            · subst e; omega
            · have := g2 0 j (by omega) (by omega); omega
          | succ i => rw [w0]; exact g2 i j (by omega) (by omega)
        · rw [w00]
          have : ¬ ((n : Int) ≤ p) := fun hh => h2 ⟨hb, hh⟩
          omega
theorem wrG_good {gs : List (List Int)} (h : wrG gs = 0) : ∃ ns : List (List Nat), gs = ns.map zl ∧ GoodG ns := by
  induction gs with
  | nil => exact ⟨[], rfl, by intro g hg; simp at hg⟩
  | cons g gs ih =>
    simp only [wrG] at h
    split at h
    · rename_i h1; exact absurd h h1
    · rename_i h1
      obtain ⟨n, rfl, g1, g2, _⟩ := wrIn_good (l := g) (p := 0) (b := false) (by omega)
      obtain ⟨ns, rfl, hn⟩ := ih h
      refine ⟨n :: ns, rfl, fun x hx => ?_⟩
      rcases List.mem_cons.1 hx with rfl | hx
      · exact ⟨g1, g2⟩
      · exact hn x hx
end Go.VC
