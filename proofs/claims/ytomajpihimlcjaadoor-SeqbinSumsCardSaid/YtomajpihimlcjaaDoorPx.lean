/- Numbers by their sums. No program here. -/
import Derived.Test.YtomajpihimlcjaaDoorLa
namespace Go.VC
open Go
theorem take_wg {xs : List Nat} {m : Nat} (hm : m < xs.length) : xs.take (m + 1) = xs.take m ++ [wg xs m] := by
  rw [List.take_add_one, List.getElem?_eq_getElem hm]; unfold wg; rw [List.getElem?_eq_getElem hm]; rfl
/-- Some numbers together. -/
def S0 (l : List Nat) (m : Nat) : Nat := (l.take m).sum
theorem S0_zero (l : List Nat) : S0 l 0 = 0 := rfl
theorem S0_succ {l : List Nat} {m : Nat} (hm : m < l.length) : S0 l (m + 1) = S0 l m + wg l m := by
  unfold S0; rw [take_wg hm, List.sum_append]; simp
theorem S0_all (l : List Nat) : S0 l l.length = l.sum := by unfold S0; rw [List.take_length]
theorem S0_out {l : List Nat} {m : Nat} (hm : l.length ≤ m) : S0 l m = l.sum := by unfold S0; rw [List.take_of_length_le hm]
theorem S0_mono {l : List Nat} {a b : Nat} (h : a ≤ b) : S0 l a ≤ S0 l b := by
  obtain ⟨j, rfl⟩ : ∃ j, b = a + j := ⟨b - a, by omega⟩
  clear h
  induction j with
  | zero => exact Nat.le_refl _
  | succ j ih =>
    by_cases g : a + j < l.length
    · rw [← Nat.add_assoc, S0_succ g]; omega
    · rw [S0_out (show l.length ≤ a + (j + 1) by omega)]
      rw [S0_out (show l.length ≤ a + j by omega)] at ih
      exact ih
/-- The sums ahead of each number, and of the end. -/
def sumsOf (l : List Nat) : List Nat := (List.range (l.length + 1)).map (S0 l)
theorem sumsOf_len (l : List Nat) : (sumsOf l).length = l.length + 1 := by simp [sumsOf]
theorem sumsOf_at {l : List Nat} {i : Nat} (hi : i ≤ l.length) : wg (sumsOf l) i = S0 l i := by unfold wg sumsOf; simp [show i < l.length + 1 by omega]
theorem sumsOf_good {l : List Nat} (h : l.sum ≤ 1099511627776) : GoodL (sumsOf l) := by
  refine ⟨fun i j hij hj => ?_, fun x hx => ?_⟩
  · rw [sumsOf_len] at hj
    rw [sumsOf_at (by omega), sumsOf_at (by omega)]
    exact S0_mono hij
  · obtain ⟨i, hi, rfl⟩ := List.mem_map.1 hx
    have := S0_mono (l := l) (show i ≤ l.length by have := List.mem_range.1 hi; omega)
    rw [S0_all] at this; omega
/-- Numbers that may be a sequence's by their sums. -/
def GoodS (zs : List Int) : Prop := (∀ z ∈ zs, 0 ≤ z) ∧ zs.sum ≤ 1099511627776
theorem goodS_of {zs : List Int} (h : GoodS zs) : ∃ l : List Nat, zs = zl l ∧ l.sum ≤ 1099511627776 := by
  refine ⟨zs.map Int.toNat, ?_, ?_⟩
  · unfold zl
    rw [List.map_map]
    symm
    rw [List.map_congr_left (g := id) (fun z hz => by have := h.1 z hz; simp only [Function.comp, id]; omega), List.map_id]
  · have : ∀ zs : List Int, (∀ z ∈ zs, 0 ≤ z) → (((zs.map Int.toNat).sum : Nat) : Int) = zs.sum := by
      intro zs
      induction zs with
      | nil => intro _; rfl
      | cons z zs ih =>
        intro hz
        have h1 := ih (fun y hy => hz y (List.mem_cons_of_mem _ hy))
        have h2 := hz z (by simp)
        simp only [List.map_cons, List.sum_cons]
        omega
    have := this zs h.1
    have := h.2
    omega
theorem goodS_zl {l : List Nat} (h : l.sum ≤ 1099511627776) : GoodS (zl l) := by
  refine ⟨fun z hz => ?_, ?_⟩
  · obtain ⟨x, _, rfl⟩ := List.mem_map.1 hz; omega
  · have : ∀ l : List Nat, (zl l).sum = ((l.sum : Nat) : Int) := by
      intro l
      induction l with
      | nil => rfl
      | cons x l ih => unfold zl at *; simp only [List.map_cons, List.sum_cons]; omega
    rw [this]; omega
theorem takeZ_succ {zs : List Int} {m : Nat} (hm : m < zs.length) : zs.take (m + 1) = zs.take m ++ [wz zs m] := by
  rw [List.take_add_one, List.getElem?_eq_getElem hm]; unfold wz; rw [List.getElem?_eq_getElem hm]; rfl
theorem wz_mem {zs : List Int} {m : Nat} (hm : m < zs.length) : wz zs m ∈ zs := by unfold wz; rw [List.getElem?_eq_getElem hm]; exact List.getElem_mem hm
/-- A bad number, or a sum that is too great, shows that they may not be. -/
theorem not_goodS {zs : List Int} {m : Nat} (hm : m < zs.length) (hp : ∀ i, i < m → 0 ≤ wz zs i) (h : wz zs m < 0 ∨ 1099511627776 < (zs.take m).sum + wz zs m) : ¬ GoodS zs := by
  rintro ⟨g1, g2⟩
  rcases h with h | h
  · have := g1 _ (wz_mem hm); omega
  · have e : zs = zs.take (m + 1) ++ zs.drop (m + 1) := (List.take_append_drop _ _).symm
    rw [e, List.sum_append, takeZ_succ hm, List.sum_append] at g2
    have : ∀ ys : List Int, (∀ z ∈ ys, 0 ≤ z) → 0 ≤ ys.sum := by
      intro ys
      induction ys with
      | nil => intro _; simp
      | cons y ys ih => intro hy; have h1 := ih (fun z hz => hy z (List.mem_cons_of_mem _ hz)); have h2 := hy y (by simp); rw [List.sum_cons]; omega
    have := this (zs.drop (m + 1)) (fun z hz => g1 z (List.mem_of_mem_drop hz))
    simp only [List.sum_cons, List.sum_nil] at g2
    omega
/-- Whose a unit is. -/
def WhereP (l : List Nat) (t r : Int) : Prop := (r = -1 ∧ (t < 0 ∨ (l.sum : Int) ≤ t)) ∨ ∃ a : Nat, r = a ∧ a < l.length ∧ (S0 l a : Int) ≤ t ∧ t < (S0 l (a + 1) : Int)
theorem WhereP.one {l : List Nat} {t r s : Int} (h : WhereP l t r) (g : WhereP l t s) : r = s := by
  have up : ∀ a, a < l.length → t < (S0 l (a + 1) : Int) → t < (l.sum : Int) := fun a ha ht => by
    have := S0_mono (l := l) (show a + 1 ≤ l.length by omega)
    rw [S0_all] at this; omega
  rcases h with ⟨rfl, h⟩ | ⟨a, rfl, h1, h2, h3⟩ <;> rcases g with ⟨rfl, g⟩ | ⟨b, rfl, g1, g2, g3⟩
  · rfl
  · have := up b g1 g3; omega
  · have := up a h1 h3; omega
  · rcases Nat.lt_trichotomy a b with e | e | e
    · have := S0_mono (l := l) (show a + 1 ≤ b by omega); omega
    · rw [e]
    · have := S0_mono (l := l) (show b + 1 ≤ a by omega); omega
theorem where_of {l : List Nat} {t r : Int} (h0 : 0 ≤ t) (h1 : t < (l.sum : Int)) (h : AheadIP (zl (sumsOf l)) t r) : WhereP l t r := by
  rcases h with ⟨rfl, h⟩ | ⟨a, rfl, h2, h3, h4⟩
  · have := h 0 (by rw [zl_len, sumsOf_len]; omega)
    rw [wz_zl, sumsOf_at (by omega), S0_zero] at this; omega
  · rw [zl_len, sumsOf_len] at h2
    rw [wz_zl, sumsOf_at (by omega)] at h3
    have ha : a < l.length := by
      by_cases g : a < l.length
      · exact g
      · rw [show a = l.length by omega, S0_all] at h3; omega
    have := h4 (a + 1) (by omega) (by rw [zl_len, sumsOf_len]; omega)
    rw [wz_zl, sumsOf_at (by omega)] at this
    exact .inr ⟨a, rfl, ha, h3, this⟩
/-- A part together. -/
def sumR (l : List Nat) (lo hi : Int) : Nat := S0 l (min hi l.length).toNat - S0 l (min (max lo 0) (min hi l.length)).toNat
end Go.VC
