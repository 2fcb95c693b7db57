/- The places at which bits are as told. No program here. -/
import Derived.Test.YtilccklocaeebaaBw
namespace Go.VC
open Go
/-- The places below n at which p holds. -/
def plc (p : Nat → Bool) (n : Nat) : List Nat := (List.range n).filter p
theorem plc_succ (p : Nat → Bool) (n : Nat) : plc p (n + 1) = plc p n ++ (if p n then [n] else []) := by
  unfold plc
  rw [List.range_succ, List.filter_append]
  by_cases h : p n = true
  · simp [h]
  · simp [h]
theorem plc_len (p : Nat → Bool) (n : Nat) : (plc p n).length = cnt p n := by
  induction n with
  | zero => rfl
  | succ n ih =>
    rw [plc_succ, List.length_append, ih]
    simp only [cnt]
    split <;> rfl
theorem cnt_lt' {p : Nat → Bool} {a b : Nat} (ha : p a = true) (h : a < b) : cnt p a < cnt p b := by
  have h1 : cnt p (a + 1) = cnt p a + 1 := by simp [cnt, ha]
  have := cnt_mono p (m := a + 1) (n := b) (by omega)
  omega
theorem plc_at {p : Nat → Bool} {n i : Nat} (hi : i < n) (hp : p i = true) : (plc p n)[cnt p i]? = some i := by
  induction n with
  | zero => omega
  | succ n ih =>
    rw [plc_succ]
    by_cases e : i = n
    · subst e
      rw [List.getElem?_append_right (by rw [plc_len]; omega), plc_len, Nat.sub_self, if_pos hp]
      rfl
    · have h1 := cnt_lt' hp (show i < n by omega)
      rw [List.getElem?_append_left (by rw [plc_len]; exact h1)]
      exact ih (by omega)
theorem cnt_ex {p : Nat → Bool} : ∀ {n k : Nat}, k < cnt p n → ∃ a, a < n ∧ p a = true ∧ cnt p a = k
  | 0, k, h => by simp [cnt] at h
  | n + 1, k, h => by
    by_cases g : k < cnt p n
    · obtain ⟨a, h1, h2, h3⟩ := cnt_ex g; exact ⟨a, by omega, h2, h3⟩
    · simp only [cnt] at h
      by_cases hp : p n = true
      · rw [if_pos hp] at h; exact ⟨n, by omega, hp, by omega⟩
      · rw [if_neg hp] at h; omega
/-- A list at a place, or -1. -/
def atL (l : List Nat) (k : Int) : Int := if 0 ≤ k ∧ k < l.length then (wg l k.toNat : Int) else -1
/-- Where the k-th place is at which p holds, or -1. -/
def PlaceP (p : Nat → Bool) (n : Nat) (k r : Int) : Prop :=
  (r = -1 ∧ (k < 0 ∨ (cnt p n : Int) ≤ k)) ∨ ∃ a : Nat, r = a ∧ a < n ∧ p a = true ∧ (cnt p a : Int) = k
theorem PlaceP.eq {p : Nat → Bool} {n : Nat} {k r : Int} (h : PlaceP p n k r) : r = atL (plc p n) k := by
  rcases h with ⟨rfl, h⟩ | ⟨a, rfl, ha, hp, hc⟩
  · unfold atL; rw [if_neg (by rw [plc_len]; omega)]
  · have h1 := cnt_lt' hp ha
    unfold atL
    rw [if_pos (by rw [plc_len]; omega)]
    have : k.toNat = cnt p a := by omega
    rw [this]; unfold wg
    rw [plc_at ha hp]; rfl
theorem atL_place (p : Nat → Bool) (n : Nat) (k : Int) : PlaceP p n k (atL (plc p n) k) := by
  by_cases h : 0 ≤ k ∧ k < (cnt p n : Int)
  · obtain ⟨a, ha, hp, hc⟩ := cnt_ex (p := p) (n := n) (k := k.toNat) (by omega)
    have : PlaceP p n k (a : Int) := .inr ⟨a, rfl, ha, hp, by omega⟩
    rw [← this.eq]; exact this
  · refine .inl ⟨?_, by omega⟩
    unfold atL; rw [if_neg (by rw [plc_len]; exact h)]
theorem cnt_not (p : Nat → Bool) (n : Nat) : cnt (fun i => !p i) n + cnt p n = n := by
  induction n with
  | zero => rfl
  | succ n ih =>
    simp only [cnt]
    by_cases h : p n = true
    · simp [h]; omega
    · have h2 : p n = false := by simpa using h
      simp [h2]; omega
/-- The noughts of a row. -/
def nz (bits : List Bool) (i : Nat) : Bool := decide (i < bits.length) && !bg bits i
theorem nz_out {bits : List Bool} {i : Nat} (h : bits.length ≤ i) : nz bits i = false := by unfold nz; simp; omega
theorem cnt_nz {bits : List Bool} {n : Nat} (h : n ≤ bits.length) : cnt (nz bits) n + cnt (bg bits) n = n := by
  have e : cnt (nz bits) n = cnt (fun i => !bg bits i) n := cnt_congr (fun i hi => by unfold nz; rw [decide_eq_true (show i < bits.length by omega), Bool.true_and])
  rw [e, cnt_not]
theorem cnt_stop {p : Nat → Bool} {m : Nat} (h : ∀ i, m ≤ i → p i = false) {n : Nat} (hn : m ≤ n) : cnt p n = cnt p m := by
  obtain ⟨j, rfl⟩ : ∃ j, n = m + j := ⟨n - m, by omega⟩
  have : cnt (fun i => p (m + i)) j = 0 := by rw [cnt_congr (q := fun _ => false) (fun i _ => h _ (by omega)), cnt_false]
  rw [cnt_add, this]; rfl
/-- Samples: the words in which the ones 0, 64, 128, .. stand. -/
def SampOk (p : Nat → Bool) (ss : List Nat) : Prop := ∀ j, j < ss.length → cnt p (64 * wg ss j) ≤ 64 * j ∧ 64 * j < cnt p (64 * (wg ss j + 1))
theorem SampOk.nil (p : Nat → Bool) : SampOk p [] := fun j hj => absurd hj (by simp)
theorem SampOk.snoc {p : Nat → Bool} {ss : List Nat} (h : SampOk p ss) {k : Nat} (h1 : cnt p (64 * k) ≤ 64 * ss.length) (h2 : 64 * ss.length < cnt p (64 * (k + 1))) : SampOk p (ss ++ [k]) := by
  intro j hj
  rw [List.length_append, List.length_singleton] at hj
  by_cases e : j = ss.length
  · subst e
    have : wg (ss ++ [k]) ss.length = k := by unfold wg; simp
    rw [this]; exact ⟨h1, h2⟩
  · have : wg (ss ++ [k]) j = wg ss j := by unfold wg; rw [List.getElem?_append_left (by omega)]
    rw [this]; exact h j (by omega)
end Go.VC
