/- Rows of bits as bytes: written, read. No program here. -/
import Derived.Test.YtomajpihimlcjaaDoorPa
import Derived.Test.YtomajpihimlcjaaDoorWx
namespace Go.VC
open Go
/-- The i-th byte of a row. -/
def rowByte (bits : List Bool) (i : Nat) : UInt8 := UInt8.ofNat (cutN bits (8 * i) 8)
def rowPre (bits : List Bool) (m : Nat) : List UInt8 := (List.range m).map (rowByte bits)
/-- The bytes of a row. -/
def rowBytes (bits : List Bool) : List UInt8 := rowPre bits ((bits.length + 7) / 8)
theorem rowPre_len (bits : List Bool) (m : Nat) : (rowPre bits m).length = m := by simp [rowPre]
theorem rowPre_succ (bits : List Bool) (m : Nat) : rowPre bits (m + 1) = rowPre bits m ++ [rowByte bits m] := by simp [rowPre, List.range_succ]
theorem rowBytes_len (bits : List Bool) : (rowBytes bits).length = (bits.length + 7) / 8 := rowPre_len _ _
theorem cut8_lt (bits : List Bool) (a : Nat) : cutN bits a 8 < 256 := cutN_lt bits a 8
theorem bt_rowPre (bits : List Bool) {m i : Nat} (h : i < m) : bt (rowPre bits m) i = cutN bits (8 * i) 8 := by
  unfold bt rowPre
  rw [List.getElem?_map, List.getElem?_range h]
  exact toNat_of (cut8_lt _ _)
/-- The first n bits of bytes. -/
def bitsS (s : List UInt8) (n : Nat) : List Bool := (List.range n).map fun i => (bt s (i / 8)).testBit (i % 8)
theorem bitsS_len (s : List UInt8) (n : Nat) : (bitsS s n).length = n := by simp [bitsS]
theorem bg_bitsS (s : List UInt8) (n i : Nat) : bg (bitsS s n) i = (decide (i < n) && (bt s (i / 8)).testBit (i % 8)) := by
  unfold bg bitsS
  by_cases h : i < n
  · rw [List.getElem?_map, List.getElem?_range h]; simp [h]
  · rw [List.getElem?_eq_none (by simp; omega)]; simp [h]
theorem testBit_cutN (L : List Bool) (a n i : Nat) : (cutN L a n).testBit i = (decide (i < n) && bg L (a + i)) := testBit_ofB _ _ _
/-- There is nothing behind the bits. -/
def padOk (s : List UInt8) (n : Nat) : Prop := ∀ i, n ≤ i → i < 8 * s.length → (bt s (i / 8)).testBit (i % 8) = false
instance (s : List UInt8) (n : Nat) : Decidable (padOk s n) :=
  if h : ∀ j : Fin (8 * s.length), n ≤ j.val → (bt s (j.val / 8)).testBit (j.val % 8) = false then isTrue fun i h1 h2 => h ⟨i, h2⟩ h1
  else isFalse fun g => h fun j h1 => g j.val h1 j.isLt
theorem bg_ext8 {a b : List Bool} (hl : a.length = b.length) (h : ∀ i, i < a.length → bg a i = bg b i) : a = b := by
  apply List.ext_getElem hl
  intro i h1 h2
  have := h i h1
  unfold bg at this
  rw [List.getElem?_eq_getElem h1, List.getElem?_eq_getElem h2] at this
  exact this
theorem bitsS_rowBytes (bits : List Bool) (t : List UInt8) : bitsS (rowBytes bits ++ t) bits.length = bits := by
  apply bg_ext8 (bitsS_len _ _)
  intro i hi
  rw [bitsS_len] at hi
  rw [bg_bitsS, bt_append _ _ _ (by rw [rowBytes_len]; omega)]
  unfold rowBytes
  rw [bt_rowPre _ (by omega), testBit_cutN]
  simp only [hi, decide_true, Bool.true_and]
  rw [decide_eq_true (by omega : i % 8 < 8), Bool.true_and]
  congr 1; omega
theorem padOk_rowBytes (bits : List Bool) : padOk (rowBytes bits) bits.length := fun i h1 h2 => by
  rw [rowBytes_len] at h2
  unfold rowBytes
  rw [bt_rowPre _ (by omega), testBit_cutN, bg_out (by omega), Bool.and_false]
theorem bt_ext {a b : List UInt8} (hl : a.length = b.length) (h : ∀ i, i < a.length → bt a i = bt b i) : a = b := by
  apply List.ext_getElem hl
  intro i h1 h2
  have := h i h1
  unfold bt at this
  rw [List.getElem?_eq_getElem h1, List.getElem?_eq_getElem h2] at this
  exact UInt8.toNat_inj.1 this
theorem rowBytes_bitsS {s : List UInt8} {n : Nat} (hl : s.length = (n + 7) / 8) (h : padOk s n) : rowBytes (bitsS s n) = s := by
  have e : (rowBytes (bitsS s n)).length = s.length := by rw [rowBytes_len, bitsS_len, hl]
  apply bt_ext e
  intro i hi
  rw [rowBytes_len, bitsS_len] at hi
  unfold rowBytes
  rw [bitsS_len, bt_rowPre _ hi]
  apply Nat.eq_of_testBit_eq
  intro j
  rw [testBit_cutN, bg_bitsS]
  by_cases hj : j < 8
  · rw [decide_eq_true hj, Bool.true_and, show (8 * i + j) / 8 = i by omega, show (8 * i + j) % 8 = j by omega]
    by_cases g : 8 * i + j < n
    · simp [g]
    · have := h (8 * i + j) (by omega) (by omega)
      rw [show (8 * i + j) / 8 = i by omega, show (8 * i + j) % 8 = j by omega] at this
      rw [this]; simp
  · rw [decide_eq_false hj, Bool.false_and]
    exact (Nat.testBit_lt_two_pow (Nat.lt_of_lt_of_le (bt_lt s i) (by have : 2 ^ 8 ≤ 2 ^ j := Nat.pow_le_pow_right (by omega) (by omega); simpa using this))).symm
/-- More bits of one byte. -/
theorem bitsS_add (s : List UInt8) (i k : Nat) (hk : k ≤ 8) : bitsS s (8 * i) ++ lowb (bt s i) k = bitsS s (8 * i + k) := by
  unfold bitsS lowb
  rw [List.range_add, List.map_append, List.map_map]
  congr 1
  apply List.map_congr_left
  intro j hj
  have := List.mem_range.1 hj
  show (bt s i).testBit j = (bt s ((8 * i + j) / 8)).testBit ((8 * i + j) % 8)
  rw [show (8 * i + j) / 8 = i by omega, show (8 * i + j) % 8 = j by omega]
theorem bitsS_snoc (s : List UInt8) (i : Nat) : bitsS s (i + 1) = bitsS s i ++ [(bt s (i / 8)).testBit (i % 8)] := by simp [bitsS, List.range_succ]
def rowFin (s rest : List UInt8) (m : Nat) : List UInt8 × Nat × List Bool := if padOk s m then (rest, 0, bitsS s m) else (rest, 3, [])
theorem rowFin_y {s rest : List UInt8} {m : Nat} (h : padOk s m) : rowFin s rest m = (rest, 0, bitsS s m) := if_pos h
theorem rowFin_n {s rest : List UInt8} {m : Nat} (h : ¬ padOk s m) : rowFin s rest m = (rest, 3, []) := if_neg h
/-- What a row that is read is: what is left, the error, the bits. -/
def rowGet (rest : List UInt8) (bad m : Nat) : List UInt8 × Nat × List Bool :=
  if bad ≠ 0 then (rest, bad, []) else if rest.length < (m + 7) / 8 then (rest, 2, [])
  else rowFin (rest.take ((m + 7) / 8)) (rest.drop ((m + 7) / 8)) m
theorem rowGet_bytes (bits : List Bool) (t : List UInt8) : rowGet (rowBytes bits ++ t) 0 bits.length = (t, 0, bits) := by
  unfold rowGet
  have hl := rowBytes_len bits
  have h1 : (rowBytes bits ++ t).take ((bits.length + 7) / 8) = rowBytes bits := by rw [← hl, List.take_left']; rfl
  have h2 : (rowBytes bits ++ t).drop ((bits.length + 7) / 8) = t := by rw [← hl, List.drop_left']; rfl
  rw [if_neg (by simp), if_neg (by rw [List.length_append]; omega), h1, h2, rowFin_y (padOk_rowBytes bits)]
  have := bitsS_rowBytes bits []
  rw [List.append_nil] at this
  rw [this]
theorem need_eq (x : Int) : (Int.tdiv (max x 0) 8) + min (Int.tmod (max x 0) 8) 1 = ((((max x 0).toNat + 7) / 8 : Nat) : Int) := by
  obtain ⟨m, hm⟩ : ∃ m : Nat, max x 0 = m := ⟨(max x 0).toNat, by omega⟩
  rw [hm, Int.tdiv_eq_ediv_of_nonneg (by omega), Int.tmod_eq_emod_of_nonneg (by omega), Int.toNat_natCast]
  omega
end Go.VC
