/- Numbers that do not fall, cut into parts of 32. No program here. -/
import Derived.Test.YtmpgklgjmkcpdaaLa
namespace Go.VC
open Go
/-- How many parts. -/
def shK (ls : List Nat) : Nat := (ls.length + 31) / 32
/-- How many numbers a part has. -/
def shC (ls : List Nat) (k : Nat) : Nat := min 32 (ls.length - 32 * k)
/-- The first number of each part. -/
def shF (ls : List Nat) : List Nat := (List.range (shK ls)).map fun k => wg ls (32 * k)
theorem shF_len (ls : List Nat) : (shF ls).length = shK ls := by simp [shF]
theorem shF_at {ls : List Nat} {k : Nat} (h : k < shK ls) : wg (shF ls) k = wg ls (32 * k) := by show ((shF ls)[k]?).getD 0 = _; unfold shF; simp [h]
theorem shF_good {ls : List Nat} (h : GoodL ls) : GoodL (shF ls) := by
  refine ⟨fun i j hij hj => ?_, fun x hx => ?_⟩
  · rw [shF_len] at hj
    rw [shF_at (by omega), shF_at hj]
    exact h.1 _ _ (by omega) (by unfold shK at hj; omega)
  · obtain ⟨k, hk, rfl⟩ := List.mem_map.1 hx
    have hk := List.mem_range.1 hk
    unfold shK at hk
    have : 32 * k < ls.length := by omega
    exact h.2 _ (by unfold wg; rw [List.getElem?_eq_getElem this]; exact List.getElem_mem this)
/-- The first place of a part at which a number is some more than the part's first one. -/
def PieceP (ls : List Nat) (k : Nat) (more : Int) (j : Nat) : Prop := j ≤ shC ls k ∧ (∀ i, i < j → (wg ls (32 * k + i) : Int) - wg ls (32 * k) < more) ∧ (j < shC ls k → more ≤ (wg ls (32 * k + j) : Int) - wg ls (32 * k))
theorem PieceP.one {ls : List Nat} {k : Nat} {more : Int} {a b : Nat} (h : PieceP ls k more a) (g : PieceP ls k more b) : a = b := by
  obtain ⟨h1, h2, h3⟩ := h
  obtain ⟨g1, g2, g3⟩ := g
  rcases Nat.lt_trichotomy a b with e | e | e
  · have := g2 a e; have := h3 (by omega); omega
  · exact e
  · have := h2 b e; have := g3 (by omega); omega
theorem sh_zero {ls : List Nat} {v : Int} (h : NextIP (zl (shF ls)) v 0) : NextIP (zl ls) v 0 := by
  rcases h with ⟨h, _⟩ | ⟨a, ha, h1, h2, _⟩
  · omega
  · have : a = 0 := by omega
    subst this
    rw [zl_len, shF_len] at h1
    rw [wz_zl, shF_at h1, Nat.mul_zero] at h2
    unfold shK at h1
    exact .inr ⟨0, rfl, by rw [zl_len]; omega, by rw [wz_zl]; exact h2, fun i hi => by omega⟩
/-- A number is found by the parts' first ones and within one part: k - 1 is that part, i0 is where the next one begins, or the end. -/
theorem sh_next {ls : List Nat} (hg : GoodL ls) {v r : Int} (hn : 0 < ls.length) (hv : v ≤ wg ls (ls.length - 1)) (hr : NextIP (zl (shF ls)) v r) {k i0 : Nat}
    (hk : (r < 0 ∧ k = shK ls ∧ i0 = ls.length) ∨ (r = k ∧ i0 = 32 * k)) (h0 : 0 < k) {j : Nat} (hj : PieceP ls (k - 1) (v - wg ls (32 * (k - 1))) j) :
    0 < v - wg ls (32 * (k - 1)) ∧ 32 * (k - 1) < ls.length ∧ (32 * (k - 1) + j < i0 → j < shC ls (k - 1) ∧ NextIP (zl ls) v ((32 * (k - 1) + j : Nat) : Int)) ∧ (i0 ≤ 32 * (k - 1) + j → r = k ∧ NextIP (zl ls) v (i0 : Int)) := by
  obtain ⟨j1, j2, j3⟩ := hj
  have key : (k ≤ shK ls) ∧ (wg ls (32 * (k - 1)) : Int) < v ∧ ((r < 0 ∧ k = shK ls ∧ i0 = ls.length) ∨ (r = k ∧ i0 = 32 * k ∧ 32 * k < ls.length ∧ v ≤ wg ls (32 * k))) := by
    rcases hr with ⟨rfl, hr⟩ | ⟨a, rfl, h1, h2, h3⟩
    · rcases hk with ⟨_, rfl, rfl⟩ | ⟨e, _⟩
      · refine ⟨Nat.le_refl _, ?_, .inl ⟨by omega, rfl, rfl⟩⟩
        have := hr (shK ls - 1) (by rw [zl_len, shF_len]; omega)
        rwa [wz_zl, shF_at (by omega)] at this
      · omega
    · rcases hk with ⟨e, _⟩ | ⟨e, rfl⟩
      · omega
      · have : a = k := by omega
        subst this
        rw [zl_len, shF_len] at h1
        rw [wz_zl, shF_at h1] at h2
        have h4 := h3 (a - 1) (by omega)
        rw [wz_zl, shF_at (by omega)] at h4
        exact ⟨by omega, h4, .inr ⟨rfl, rfl, by unfold shK at h1; omega, h2⟩⟩
  obtain ⟨k1, k2, k3⟩ := key
  have hlt : 32 * (k - 1) < ls.length := by unfold shK at k1; omega
  have below : ∀ i, i < 32 * (k - 1) + j → (wg ls i : Int) < v := fun i hi => by
    by_cases g : i < 32 * (k - 1)
    · have := hg.1 i (32 * (k - 1)) (by omega) hlt
      omega
    · have := j2 (i - 32 * (k - 1)) (by omega)
      rw [show 32 * (k - 1) + (i - 32 * (k - 1)) = i by omega] at this
      omega
  refine ⟨by omega, hlt, fun hi => ?_, fun hi => ?_⟩
  · have hjc : j < shC ls (k - 1) := by
      unfold shC at j1 ⊢
      rcases k3 with ⟨_, rfl, rfl⟩ | ⟨_, rfl, q, _⟩
      · unfold shK at hi k1 ⊢ j1; omega
      · omega
    have h3 := j3 hjc
    refine ⟨hjc, .inr ⟨32 * (k - 1) + j, rfl, ?_, ?_, fun i hi => ?_⟩⟩
    · rw [zl_len]; unfold shC at hjc; omega
    · rw [wz_zl]; omega
    · rw [wz_zl]; exact below i hi
  · rcases k3 with ⟨_, rfl, rfl⟩ | ⟨e, rfl, q, q2⟩
    · have := below (ls.length - 1) (by omega)
      omega
    · refine ⟨e, .inr ⟨32 * k, rfl, by rw [zl_len]; exact q, by rw [wz_zl]; exact q2, fun i hi2 => ?_⟩⟩
      rw [wz_zl]
      refine below i ?_
      unfold shC at j1
      omega
/-- A part's numbers, less its first one. -/
def shP (ls : List Nat) (k : Nat) : List Nat := (List.range (shC ls k)).map fun i => wg ls (32 * k + i) - wg ls (32 * k)
theorem shP_len (ls : List Nat) (k : Nat) : (shP ls k).length = shC ls k := by simp [shP]
theorem shP_at {ls : List Nat} {k i : Nat} (h : i < shC ls k) : wg (shP ls k) i = wg ls (32 * k + i) - wg ls (32 * k) := by show ((shP ls k)[i]?).getD 0 = _; unfold shP; simp [h]
theorem shP_ge {ls : List Nat} (h : GoodL ls) {k i : Nat} (hi : i < shC ls k) : wg ls (32 * k) ≤ wg ls (32 * k + i) := h.1 _ _ (by omega) (by unfold shC at hi; omega)
theorem shP_good {ls : List Nat} (h : GoodL ls) (k : Nat) : GoodL (shP ls k) := by
  refine ⟨fun i j hij hj => ?_, fun x hx => ?_⟩
  · rw [shP_len] at hj
    rw [shP_at (by omega), shP_at hj]
    have := h.1 (32 * k + i) (32 * k + j) (by omega) (by unfold shC at hj; omega)
    omega
  · obtain ⟨i, hi, rfl⟩ := List.mem_map.1 hx
    have hi := List.mem_range.1 hi
    have hlt : 32 * k + i < ls.length := by unfold shC at hi; omega
    have : wg ls (32 * k + i) ≤ 1099511627776 := h.2 _ (by unfold wg; rw [List.getElem?_eq_getElem hlt]; exact List.getElem_mem hlt)
    omega
/-- Kinds: a part that rises by one; a part that is alike; any other. -/
def shRun (ls : List Nat) (k : Nat) : Prop := ∀ i, i < shC ls k → wg (shP ls k) i = i
def shAlike (ls : List Nat) (k : Nat) : Prop := ∀ i, i < shC ls k → wg (shP ls k) i = 0
theorem piece_run {ls : List Nat} (h : GoodL ls) {k : Nat} (hr : shRun ls k) {more : Int} (hm : 0 < more) : PieceP ls k more (min more (shC ls k)).toNat := by
  have e : ∀ i, i < shC ls k → (wg ls (32 * k + i) : Int) - wg ls (32 * k) = i := fun i hi => by
    have h1 := hr i hi
    rw [shP_at hi] at h1
    have := shP_ge h hi; omega
  exact ⟨by omega, fun i hi => by rw [e i (by omega)]; omega, fun hj => by rw [e _ hj]; omega⟩
theorem piece_alike {ls : List Nat} (h : GoodL ls) {k : Nat} (hr : shAlike ls k) {more : Int} (hm : 0 < more) : PieceP ls k more (shC ls k) := by
  refine ⟨Nat.le_refl _, fun i hi => ?_, fun hj => by omega⟩
  have h1 := hr i hi
  rw [shP_at hi] at h1
  have := shP_ge h hi; omega
theorem piece_other {ls : List Nat} (h : GoodL ls) {k : Nat} {more r : Int} (hr : NextIP (zl (shP ls k)) more r) : PieceP ls k more (if r < 0 then (shC ls k : Int) else r).toNat := by
  have e : ∀ i, i < shC ls k → wz (zl (shP ls k)) i = (wg ls (32 * k + i) : Int) - wg ls (32 * k) := fun i hi => by
    rw [wz_zl, shP_at hi]
    have := shP_ge h hi; omega
  rcases hr with ⟨rfl, hr⟩ | ⟨a, rfl, h1, h2, h3⟩
  · rw [if_pos (by omega)]
    refine ⟨by omega, fun i hi => ?_, fun hj => by omega⟩
    have := hr i (by rw [zl_len, shP_len]; omega)
    rwa [e i (by omega)] at this
  · rw [zl_len, shP_len] at h1
    rw [if_neg (by omega), Int.toNat_natCast]
    refine ⟨by omega, fun i hi => ?_, fun hj => ?_⟩
    · have := h3 i hi
      rwa [e i (by omega)] at this
    · rwa [e a h1] at h2
instance (ls : List Nat) (k : Nat) : Decidable (shRun ls k) := by unfold shRun; infer_instance
instance (ls : List Nat) (k : Nat) : Decidable (shAlike ls k) := by unfold shAlike; infer_instance
/-- The kind of a part: 0 rises by one, 1 alike, 2 any other. -/
def shKind (ls : List Nat) (k : Nat) : Nat := if shRun ls k then 0 else if shAlike ls k then 1 else 2
theorem shKind_le (ls : List Nat) (k : Nat) : shKind ls k ≤ 2 := by unfold shKind; split <;> (try split) <;> omega
/-- How many of the first parts have a kind. -/
def shCnt (ls : List Nat) (c m : Nat) : Nat := cnt (fun k => decide (shKind ls k = c)) m
theorem shCnt_succ (ls : List Nat) (c m : Nat) : shCnt ls c (m + 1) = shCnt ls c m + if shKind ls m = c then 1 else 0 := by
  unfold shCnt
  simp only [cnt]
  by_cases e : shKind ls m = c <;> simp [e]
theorem shCnt_le (ls : List Nat) (c m : Nat) : shCnt ls c m ≤ m := cnt_le _ _
/-- A number by its part and its place there. -/
theorem sh_at {ls : List Nat} (h : GoodL ls) {i : Nat} (hi : i < ls.length) : i / 32 < shK ls ∧ i % 32 < shC ls (i / 32) ∧ wg ls i = wg (shF ls) (i / 32) + wg (shP ls (i / 32)) (i % 32) := by
  have h1 : i / 32 < shK ls := by unfold shK; omega
  have h2 : i % 32 < shC ls (i / 32) := by unfold shC; omega
  refine ⟨h1, h2, ?_⟩
  have h3 := shP_ge h h2
  rw [shF_at h1, shP_at h2, show 32 * (i / 32) + i % 32 = i by omega] at *
  omega
end Go.VC
