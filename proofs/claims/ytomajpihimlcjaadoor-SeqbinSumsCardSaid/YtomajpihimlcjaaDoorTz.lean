/- The lowest one of a word. No program here. -/
import Derived.Test.YtomajpihimlcjaaDoorLa
namespace Go.VC
open Go
/-- The lowest one stands there. -/
def LowAt (x i : Nat) : Prop := x.testBit i = true ∧ ∀ j, j < i → x.testBit j = false
theorem lowAt_ex {x : Nat} (h : x ≠ 0) : ∃ i, LowAt x i := by
  by_cases g : ∃ i, x.testBit i = true
  · obtain ⟨i, hi⟩ := g
    induction i using Nat.strongRecOn with
    | _ i ih =>
      by_cases e : ∃ j, j < i ∧ x.testBit j = true
      · obtain ⟨j, h1, h2⟩ := e; exact ih j h1 h2
      · exact ⟨i, hi, fun j hj => by
          cases hb : x.testBit j
          · rfl
          · exact absurd ⟨j, hj, hb⟩ e⟩
  · exfalso; apply h
    apply Nat.eq_of_testBit_eq
    intro i
    rw [Nat.zero_testBit]
    cases hb : x.testBit i
    · rfl
    · exact absurd ⟨i, hb⟩ g
theorem low_form {x i : Nat} (h : LowAt x i) : ∃ m, x = 2 ^ i * (2 * m + 1) := by
  have h1 : x % 2 ^ i = 0 := by
    apply Nat.eq_of_testBit_eq
    intro j
    rw [Nat.testBit_mod_two_pow, Nat.zero_testBit]
    by_cases g : j < i
    · simp [h.2 j g]
    · simp [g]
  have h2 : (x / 2 ^ i) % 2 = 1 := by
    have := h.1
    rw [Nat.testBit_eq_decide_div_mod_eq] at this
    simpa using this
  refine ⟨x / 2 ^ i / 2, ?_⟩
  have h3 := Nat.div_add_mod x (2 ^ i)
  rw [h1] at h3
  rw [show 2 * (x / 2 ^ i / 2) + 1 = x / 2 ^ i by omega]
  omega
theorem low_pred {x i : Nat} (h : LowAt x i) (j : Nat) : (x - 1).testBit j = if j < i then true else if j = i then false else x.testBit j := by
  obtain ⟨m, hm⟩ := low_form h
  have hp := Nat.two_pow_pos i
  have e1 : x - 1 = 2 ^ i * (2 * m) + (2 ^ i - 1) := by rw [hm, Nat.mul_add, Nat.mul_one]; omega
  have e2 : x = 2 ^ i * (2 * m + 1) + 0 := by rw [hm]; rfl
  rw [e1, Nat.testBit_two_pow_mul_add _ (by omega)]
  by_cases g : j < i
  · rw [if_pos g, if_pos g, Nat.testBit_two_pow_sub_one]; simp [g]
  · rw [if_neg g, if_neg g]
    by_cases g2 : j = i
    · subst g2; rw [if_pos rfl, Nat.sub_self]; simp
    · rw [if_neg g2]
      conv => rhs; rw [e2]
      rw [Nat.testBit_two_pow_mul_add _ hp, if_neg g]
      obtain ⟨k, hk⟩ : ∃ k, j - i = k + 1 := ⟨j - i - 1, by omega⟩
      rw [hk, Nat.testBit_succ, Nat.testBit_succ, show 2 * m / 2 = m by omega, show (2 * m + 1) / 2 = m by omega]
/-- The lowest one alone. -/
theorem low_and {x i : Nat} (h : LowAt x i) (hx : x < 18446744073709551616) (hi : i < 64) : x &&& (18446744073709551616 - x) = 2 ^ i := by
  have h0 : x ≠ 0 := fun e => by have := h.1; rw [e, Nat.zero_testBit] at this; cases this
  have e : 18446744073709551616 - x = 2 ^ 64 - ((x - 1) + 1) := by rw [show x - 1 + 1 = x by omega]
  apply Nat.eq_of_testBit_eq
  intro j
  rw [Nat.testBit_and, e, Nat.testBit_two_pow_sub_succ (by omega), low_pred h, Nat.testBit_two_pow]
  by_cases g : j < i
  · rw [h.2 j g]; simp; omega
  · by_cases g2 : j = i
    · subst g2; rw [h.1]; simp [hi]
    · rw [if_neg g, if_neg g2]
      have : decide (i = j) = false := by simp; omega
      rw [this]
      cases x.testBit j <;> simp
/-- The lowest one cleared. -/
theorem low_clear {x i : Nat} (h : LowAt x i) (j : Nat) : (x &&& (x - 1)).testBit j = (decide (j ≠ i) && x.testBit j) := by
  rw [Nat.testBit_and, low_pred h]
  by_cases g : j < i
  · rw [if_pos g, h.2 j g]; simp
  · by_cases g2 : j = i
    · subst g2; simp
    · rw [if_neg g, if_neg g2]
      cases x.testBit j <;> simp [g2]
/-- The ones from the k-th on. -/
def onesFrom (x k : Nat) (j : Nat) : Bool := x.testBit j && decide (k ≤ cnt x.testBit j)
theorem onesFrom_low {x k left : Nat} (hl : ∀ j, left.testBit j = onesFrom x k j) {i : Nat} (h : LowAt left i) : x.testBit i = true ∧ cnt x.testBit i = k := by
  have h1 := h.1
  rw [hl] at h1
  unfold onesFrom at h1
  simp only [Bool.and_eq_true, decide_eq_true_eq] at h1
  refine ⟨h1.1, ?_⟩
  by_cases e : cnt x.testBit i = k
  · exact e
  · exfalso
    obtain ⟨a, ha, hp, hc⟩ := cnt_ex (p := x.testBit) (n := i) (k := k) (by omega)
    have := h.2 a ha
    rw [hl] at this
    unfold onesFrom at this
    rw [hp, decide_eq_true (by omega : k ≤ cnt x.testBit a)] at this
    cases this
theorem onesFrom_next {x k left : Nat} (hl : ∀ j, left.testBit j = onesFrom x k j) {i : Nat} (h : LowAt left i) : ∀ j, (left &&& (left - 1)).testBit j = onesFrom x (k + 1) j := by
  obtain ⟨h1, h2⟩ := onesFrom_low hl h
  intro j
  rw [low_clear h, hl]
  unfold onesFrom
  cases hb : x.testBit j
  · simp
  · simp only [Bool.true_and]
    by_cases g : j = i
    · subst g; rw [h2]; simp
    · rw [decide_eq_true (show j ≠ i from g), Bool.true_and, decide_eq_decide]
      rcases Nat.lt_or_gt_of_ne g with g | g
      · have := cnt_lt' hb g; omega
      · have := cnt_lt' h1 g; omega
theorem onesFrom_done {x k : Nat} (hx : x < 18446744073709551616) (hl : ∀ j, (0 : Nat).testBit j = onesFrom x k j) : pc x ≤ k := by
  by_cases g : pc x ≤ k
  · exact g
  · exfalso
    obtain ⟨a, ha, hp, hc⟩ := cnt_ex (p := x.testBit) (n := 64) (k := k) (by unfold pc at g; omega)
    have := hl a
    unfold onesFrom at this
    rw [Nat.zero_testBit, hp, decide_eq_true (by omega : k ≤ cnt x.testBit a)] at this
    cases this
/-- The table by which the place of a lone one is told. -/
def dbTab : List Nat := [0, 1, 56, 2, 57, 49, 28, 3, 61, 58, 42, 50, 38, 29, 17, 4, 62, 47, 59, 36, 45, 43, 51, 22, 53, 39, 33, 30, 24, 18, 12, 5, 63, 55, 48, 27, 60, 41, 37, 16, 46, 35, 44, 21, 52, 32, 23, 11, 54, 26, 40, 15, 34, 20, 31, 10, 25, 14, 19, 9, 13, 8, 7, 6]
theorem db_at : ∀ i, i < 64 → dbTab[(2 ^ i * 285870213051353865) % 18446744073709551616 / 288230376151711744]? = some i := by decide +kernel
end Go.VC
