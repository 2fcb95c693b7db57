/- Decoding of numbers by bytes of seven bits. No program here. -/
import Derived.Test.YtlobkadfmgnlmaaBy
namespace Go.VC
open Go

/-- The byte at a place; past the end zero. -/
def bt (s : List UInt8) (i : Nat) : Nat := ((s[i]?).getD 0).toNat
theorem bt_lt (s : List UInt8) (i : Nat) : bt s i < 256 := UInt8.toNat_lt _
theorem bt_cons (c : UInt8) (s : List UInt8) (i : Nat) : bt (c :: s) (i + 1) = bt s i := by simp [bt]
theorem bt_zero (c : UInt8) (s : List UInt8) : bt (c :: s) 0 = c.toNat := by simp [bt]
theorem bt_append (s t : List UInt8) (i : Nat) (h : i < s.length) : bt (s ++ t) i = bt s i := by unfold bt; rw [List.getElem?_append_left h]
theorem bt_get {s : List UInt8} {i : Nat} {c : UInt8} (h : s[i]? = some c) : c.toNat = bt s i := by unfold bt; rw [h]; rfl
/-- The value of so many bytes from a place on. -/
def hi (s : List UInt8) : Nat → Nat → Nat
  | _, 0 => 0
  | i, n + 1 => bt s i % 128 + 128 * hi s (i + 1) n
theorem hi_cons (c : UInt8) (s : List UInt8) : ∀ (n i : Nat), hi (c :: s) (i + 1) n = hi s i n
  | 0, _ => rfl
  | n + 1, i => by simp only [hi, bt_cons, hi_cons c s n (i + 1)]
theorem hi_snoc (s : List UInt8) : ∀ (n i : Nat), hi s i (n + 1) = hi s i n + bt s (i + n) % 128 * 128 ^ n
  | 0, i => by simp [hi]
  | n + 1, i => by
    have h := hi_snoc s n (i + 1)
    rw [hi, h]
    simp only [hi]
    rw [show i + 1 + n = i + (n + 1) by omega, Nat.pow_succ, Nat.mul_add, Nat.mul_comm 128 (_ * _), Nat.mul_assoc]
    omega
theorem hi_lt (s : List UInt8) : ∀ (n i : Nat), hi s i n < 128 ^ n
  | 0, _ => by simp [hi]
  | n + 1, i => by
    have := hi_lt s n (i + 1)
    simp only [hi, Nat.pow_succ]; omega
theorem hi_append (s t : List UInt8) : ∀ (n i : Nat), i + n ≤ s.length → hi (s ++ t) i n = hi s i n
  | 0, _, _ => rfl
  | n + 1, i, h => by simp only [hi]; rw [bt_append _ _ _ (by omega), hi_append s t n (i + 1) (by omega)]

/-- The bytes ahead of this place are 128 or more. -/
def Cont (s : List UInt8) (m : Nat) : Prop := ∀ j, j < m → j < s.length ∧ 128 ≤ bt s j
theorem Cont.succ {s : List UInt8} {m : Nat} (h : Cont s m) (h1 : m < s.length) (h2 : 128 ≤ bt s m) : Cont s (m + 1) := fun j hj => by
  by_cases e : j = m
  · subst e; exact ⟨h1, h2⟩
  · exact h j (by omega)
def kF (s : List UInt8) : Nat → Nat → Nat
  | 0, i => i
  | f + 1, i => if i < s.length ∧ 128 ≤ bt s i then kF s f (i + 1) else i
theorem kF_eq (s : List UInt8) : ∀ (f i k : Nat), i ≤ k → k ≤ i + f → Cont s k → (k < i + f → ¬ (k < s.length ∧ 128 ≤ bt s k)) → kF s f i = k
  | 0, i, k, h1, h2, _, _ => by simp only [kF]; omega
  | f + 1, i, k, h1, h2, h3, h4 => by
    simp only [kF]
    by_cases e : i = k
    · subst e; rw [if_neg (h4 (by omega))]
    · rw [if_pos (h3 i (by omega))]
      exact kF_eq s f (i + 1) k (by omega) (by omega) h3 (fun h => h4 (by omega))
/-- How many bytes ahead of the last one, ten at most. -/
def kOf (s : List UInt8) : Nat := kF s 10 0
/-- The number that some bytes begin with, how many bytes it takes, and the error. -/
def dec (s : List UInt8) : Nat × Nat × Nat :=
  if kOf s = 10 then (0, 0, 3) else if kOf s = s.length then (0, 0, 2)
  else if (kOf s = 9 ∧ 1 < bt s 9) ∨ (0 < kOf s ∧ bt s (kOf s) = 0) then (0, 0, 3) else (hi s 0 (kOf s + 1), kOf s + 1, 0)
theorem dec_of {s : List UInt8} {k : Nat} (h : kOf s = k) : dec s = if k = 10 then (0, 0, 3) else if k = s.length then (0, 0, 2)
  else if (k = 9 ∧ 1 < bt s 9) ∨ (0 < k ∧ bt s k = 0) then (0, 0, 3) else (hi s 0 (k + 1), k + 1, 0) := by subst h; rfl
theorem kOf_eq {s : List UInt8} {k : Nat} (h2 : k ≤ 10) (h3 : Cont s k) (h4 : k < 10 → ¬ (k < s.length ∧ 128 ≤ bt s k)) : kOf s = k := kF_eq s 10 0 k (by omega) (by omega) h3 (fun h => h4 (by omega))
theorem kF_spec (s : List UInt8) : ∀ (f i : Nat), Cont s i → i ≤ kF s f i ∧ kF s f i ≤ i + f ∧ Cont s (kF s f i) ∧ (kF s f i < i + f → ¬ (kF s f i < s.length ∧ 128 ≤ bt s (kF s f i)))
  | 0, i, h => by simp [kF, h]
  | f + 1, i, h => by
    simp only [kF]
    split
    · rename_i g
      have := kF_spec s f (i + 1) (h.succ g.1 g.2)
      refine ⟨by omega, by omega, this.2.2.1, fun q => this.2.2.2 (by omega)⟩
    · rename_i g
      exact ⟨Nat.le_refl _, by omega, h, fun _ => g⟩
theorem kOf_spec (s : List UInt8) : kOf s ≤ 10 ∧ Cont s (kOf s) ∧ (kOf s < 10 → ¬ (kOf s < s.length ∧ 128 ≤ bt s (kOf s))) := by
  have := kF_spec s 10 0 (fun j hj => by omega)
  exact ⟨by unfold kOf; omega, this.2.2.1, fun h => this.2.2.2 (by unfold kOf at h; omega)⟩
theorem kOf_le (s : List UInt8) : kOf s ≤ s.length := by
  have h := (kOf_spec s).2.1
  rcases Nat.eq_zero_or_pos (kOf s) with e | e
  · omega
  · have := (h (kOf s - 1) (by omega)).1; omega

theorem dec_fit (s : List UInt8) : (dec s).1 < 18446744073709551616 ∧ (dec s).2.1 ≤ s.length ∧ (dec s).2.2 ≤ 3 ∧ ((dec s).2.2 = 0 → 1 ≤ (dec s).2.1 ∧ (dec s).2.1 ≤ 10) ∧ ((dec s).2.2 ≠ 0 → (dec s).1 = 0 ∧ (dec s).2.1 = 0) := by
  have hk := kOf_le s
  have hs := kOf_spec s
  unfold dec
  split
  · simp
  · split
    · simp
    · split
      · simp
      · rename_i h1 h2 h3
        refine ⟨?_, by simp only; omega, by simp, fun _ => ⟨by simp, by simp only; omega⟩, fun h => absurd rfl h⟩
        have := hi_lt s (kOf s) 0
        simp only
        rw [hi_snoc, Nat.zero_add]
        by_cases e : kOf s = 9
        · rw [e] at this ⊢
          have hb : bt s 9 ≤ 1 := by omega
          have : bt s 9 % 128 ≤ 1 := by omega
          have := Nat.mul_le_mul_right (128 ^ 9) this
          simp only [Nat.reducePow] at *
          omega
        · have h8 : kOf s ≤ 8 := by omega
          have hb : bt s (kOf s) % 128 ≤ 127 := by omega
          have h9 := Nat.mul_le_mul_right (128 ^ kOf s) hb
          have h10 : 128 ^ kOf s ≤ 128 ^ 8 := Nat.pow_le_pow_right (by omega) h8
          simp only [Nat.reducePow] at *
          omega

/-- A number's bytes, whole: all but the last 128 or more, the last less, and not zero behind others. -/
structure Whole (s : List UInt8) (m v : Nat) : Prop where
  pos : 1 ≤ m
  cont : Cont s (m - 1)
  last : m - 1 < s.length ∧ bt s (m - 1) < 128
  nz : 1 < m → bt s (m - 1) ≠ 0
  val : hi s 0 m = v

theorem toNat_of {n : Nat} (h : n < 256) : (UInt8.ofNat n).toNat = n := UInt8.toNat_ofNat_of_lt' (by simpa [UInt8.size] using h)
theorem whole_enc : ∀ (f v : Nat) (t : List UInt8), v < 128 ^ f → 0 < f → Whole (encF f v ++ t) (encF f v).length v ∧ (0 < v → 0 < hi (encF f v ++ t) 0 (encF f v).length)
  | 0, _, _, _, h => by omega
  | f + 1, v, t, hv, _ => by
    simp only [encF]
    by_cases h : v < 128
    · rw [if_pos h]
      have e0 : bt (UInt8.ofNat v :: t) 0 = v := by rw [bt_zero, toNat_of (by omega)]
      have e1 : hi (UInt8.ofNat v :: t) 0 1 = v := by simp only [hi, e0]; omega
      refine ⟨⟨Nat.le_refl _, fun j hj => by simp at hj, ⟨by simp, ?_⟩, fun h => by simp at h, e1⟩, fun h0 => ?_⟩
      · show bt (UInt8.ofNat v :: t) 0 < 128
        omega
      · show 0 < hi (UInt8.ofNat v :: t) 0 1
        omega
    · rw [if_neg h]
      rw [Nat.pow_succ] at hv
      have hf : 0 < f := by
        rcases Nat.eq_zero_or_pos f with rfl | h0
        · simp at hv; omega
        · exact h0
      obtain ⟨ih, ih2⟩ := whole_enc f (v / 128) t (by omega) hf
      have hp := ih.pos
      have e0 : bt (UInt8.ofNat (v % 128 + 128) :: (encF f (v / 128) ++ t)) 0 = v % 128 + 128 := by rw [bt_zero, toNat_of (by omega)]
      have e1 : hi (UInt8.ofNat (v % 128 + 128) :: (encF f (v / 128) ++ t)) 0 ((encF f (v / 128)).length + 1) = v := by
        simp only [hi, e0, hi_cons]
        rw [ih.val]; omega
      rw [List.length_cons, List.cons_append]
      refine ⟨⟨by omega, fun j hj => ?_, ⟨by have := ih.last.1; simp at this ⊢; omega, ?_⟩, fun _ => ?_, e1⟩, fun _ => by rw [e1]; omega⟩
      · cases j with
        | zero => exact ⟨by simp, by rw [e0]; omega⟩
        | succ j =>
          have := ih.cont j (by omega)
          rw [bt_cons]
          exact ⟨by simp only [List.length_cons]; omega, this.2⟩
      · obtain ⟨k, hk⟩ : ∃ k, (encF f (v / 128)).length = k + 1 := ⟨(encF f (v / 128)).length - 1, by omega⟩
        have := ih.last.2
        rw [hk] at this ⊢
        rw [Nat.add_sub_cancel, bt_cons]
        exact this
      · obtain ⟨k, hk⟩ : ∃ k, (encF f (v / 128)).length = k + 1 := ⟨(encF f (v / 128)).length - 1, by omega⟩
        rw [hk, Nat.add_sub_cancel, bt_cons]
        by_cases h1 : 1 < (encF f (v / 128)).length
        · have := ih.nz h1
          rw [hk] at this
          exact this
        · have hk0 : k = 0 := by omega
          have h2 := ih.val
          rw [hk, hk0] at h2
          simp only [hi] at h2
          subst hk0
          omega

theorem dec_whole {s : List UInt8} {m v : Nat} (h : Whole s m v) (hm : m ≤ 10) (hv : v < 18446744073709551616) : dec s = (v, m, 0) := by
  have hp := h.pos
  have hl := h.last
  have hk : kOf s = m - 1 := kOf_eq (by omega) h.cont (fun _ => by omega)
  rw [dec_of hk, if_neg (by omega), if_neg (by omega), if_neg, show m - 1 + 1 = m by omega, h.val]
  rintro (⟨h9, h1⟩ | ⟨h0, h1⟩)
  · have := hi_snoc s 9 0
    have h2 := h.val
    rw [show m = 9 + 1 by omega, this, Nat.zero_add] at h2
    have hb : bt s 9 < 128 := by rw [← h9]; exact hl.2
    have : 2 * 128 ^ 9 ≤ bt s 9 % 128 * 128 ^ 9 := Nat.mul_le_mul_right _ (by omega)
    simp only [Nat.reducePow] at *
    omega
  · exact h.nz (by omega) h1

/-- What is written is read. -/
theorem dec_enc (v : Nat) (hv : v < 18446744073709551616) (t : List UInt8) : dec (enc v ++ t) = (v, (enc v).length, 0) :=
  dec_whole (whole_enc 10 v t (by simp only [Nat.reducePow]; omega) (by omega)).1 (enc_len v) hv

theorem encF_whole : ∀ (t : List UInt8) (f : Nat), t.length ≤ f → Whole t t.length (hi t 0 t.length) → encF f (hi t 0 t.length) = t ∧ 0 < f
  | [], _, _, h => by have := h.pos; simp at this
  | [c], f, hf, h => by
    obtain ⟨g, rfl⟩ : ∃ g, f = g + 1 := ⟨f - 1, by simp at hf; omega⟩
    have hl := h.last.2
    simp only [List.length_singleton, Nat.sub_self, bt_zero] at hl
    have e : hi [c] 0 [c].length = c.toNat := by simp only [List.length_singleton, hi, bt_zero]; omega
    rw [e]
    refine ⟨?_, by omega⟩
    simp only [encF]
    rw [if_pos hl]
    simp
  | c :: d :: t, f, hf, h => by
    obtain ⟨g, rfl⟩ : ∃ g, f = g + 1 := ⟨f - 1, by simp at hf; omega⟩
    have hW : Whole (d :: t) (d :: t).length (hi (d :: t) 0 (d :: t).length) := by
      have hl := h.last
      have hz := h.nz (by simp)
      have hc := h.cont
      simp only [List.length_cons, Nat.add_sub_cancel, bt_cons] at hl hz hc
      refine ⟨by simp, fun j hj => ?_, ⟨by simp, by simpa using hl.2⟩, fun _ => by simpa using hz, rfl⟩
      have := hc (j + 1) (by simp only [List.length_cons, Nat.add_sub_cancel] at hj; omega)
      rw [bt_cons] at this
      exact ⟨by simp only [List.length_cons] at this ⊢; omega, this.2⟩
    have hz := h.nz (by simp)
    obtain ⟨ih, hg⟩ := encF_whole (d :: t) g (by simpa using hf) hW
    have hc0 := (h.cont 0 (by simp)).2
    rw [bt_zero] at hc0
    have ev : hi (c :: d :: t) 0 (c :: d :: t).length = c.toNat % 128 + 128 * hi (d :: t) 0 (d :: t).length := by
      rw [List.length_cons, hi, bt_zero, hi_cons]
    have hclt := UInt8.toNat_lt c
    have hpos : 0 < hi (d :: t) 0 (d :: t).length := by
      rcases Nat.eq_zero_or_pos (hi (d :: t) 0 (d :: t).length) with e | e
      · exfalso
        have h2 := hi_snoc (d :: t) t.length 0
        rw [List.length_cons] at e
        rw [e, Nat.zero_add] at h2
        simp only [List.length_cons, Nat.add_sub_cancel, bt_cons] at hz
        have h3 := h.last.2
        simp only [List.length_cons, Nat.add_sub_cancel, bt_cons] at h3
        have : 0 < bt (d :: t) t.length % 128 * 128 ^ t.length := Nat.mul_pos (by omega) (Nat.pow_pos (by omega))
        omega
      · exact e
    refine ⟨?_, by omega⟩
    rw [ev]
    simp only [encF]
    rw [if_neg (by omega), show (c.toNat % 128 + 128 * hi (d :: t) 0 (d :: t).length) / 128 = hi (d :: t) 0 (d :: t).length by omega, ih,
      show (c.toNat % 128 + 128 * hi (d :: t) 0 (d :: t).length) % 128 + 128 = c.toNat by omega]
    simp

/-- A number has one encoding. -/
theorem enc_dec {s : List UInt8} {v n : Nat} (h : dec s = (v, n, 0)) : enc v = s.take n ∧ n ≤ s.length := by
  have hk := kOf_le s
  have hs := kOf_spec s
  have hd := dec_of (s := s) rfl
  rw [h] at hd
  split at hd
  · cases hd
  · split at hd
    · cases hd
    · split at hd
      · cases hd
      · rename_i h1 h2 h3
        simp only [Prod.mk.injEq, and_true] at hd
        obtain ⟨rfl, rfl⟩ := hd
        have hl : (s.take (kOf s + 1)).length = kOf s + 1 := by simp; omega
        have hbt : ∀ j, j < kOf s + 1 → bt (s.take (kOf s + 1)) j = bt s j := fun j hj => by
          unfold bt; rw [List.getElem?_take, if_pos hj]
        have hhi : hi (s.take (kOf s + 1)) 0 (kOf s + 1) = hi s 0 (kOf s + 1) := by
          have := hi_append (s.take (kOf s + 1)) (s.drop (kOf s + 1)) (kOf s + 1) 0 (by omega)
          rw [List.take_append_drop] at this
          exact this.symm
        have hlt : kOf s < 10 := by omega
        have hW : Whole (s.take (kOf s + 1)) (s.take (kOf s + 1)).length (hi (s.take (kOf s + 1)) 0 (s.take (kOf s + 1)).length) := by
          rw [hl]
          refine ⟨by omega, fun j hj => ?_, ⟨by omega, ?_⟩, fun h => ?_, rfl⟩
          · rw [hbt j (by omega)]; exact ⟨by omega, (hs.2.1 j (by omega)).2⟩
          · rw [Nat.add_sub_cancel, hbt _ (by omega)]; have := hs.2.2 hlt; omega
          · rw [Nat.add_sub_cancel, hbt _ (by omega)]; omega
        have := (encF_whole _ 10 (by omega) hW).1
        rw [hl, hhi] at this
        exact ⟨this, by omega⟩
end Go.VC
