/- Rows of bits: a list of bits and the words that hold it. No program here. -/
import Derived.Test.YtilccklocaeebaaWd
namespace Go.VC
open Go

/-- The bit at a place of a list; past its end there is none. -/
def bg (l : List Bool) (i : Nat) : Bool := (l[i]?).getD false
def bz (l : List Bool) (i : Int) : Bool := decide (0 ≤ i) && bg l i.toNat
/-- The word at a place of a list; past its end it is zero. -/
def wg (ws : List Nat) (k : Nat) : Nat := (ws[k]?).getD 0
def wbit (ws : List Nat) (i : Nat) : Bool := (wg ws (i / 64)).testBit (i % 64)
def wordOf (l : List Bool) (k : Nat) : Nat := ofB (fun i => bg l (64 * k + i)) 64
/-- The words that hold a list of bits. -/
def wordsOf (l : List Bool) : List Nat := (List.range ((l.length + 63) / 64)).map (wordOf l)
def lowb (x n : Nat) : List Bool := (List.range n).map x.testBit

theorem bg_out {l : List Bool} {i : Nat} (h : l.length ≤ i) : bg l i = false := by unfold bg; rw [List.getElem?_eq_none h]; rfl
theorem length_wordsOf (l : List Bool) : (wordsOf l).length = (l.length + 63) / 64 := by simp [wordsOf]
theorem wordOf_lt (l : List Bool) (k : Nat) : wordOf l k < 18446744073709551616 := ofB_lt _ 64
theorem wordsOf_at {l : List Bool} {k : Nat} (h : k < (l.length + 63) / 64) : (wordsOf l)[k]? = some (wordOf l k) := by
  simp [wordsOf, h]
theorem wordsOf_lt {l : List Bool} {x : Nat} (h : x ∈ wordsOf l) : x < 18446744073709551616 := by
  unfold wordsOf at h
  obtain ⟨k, _, rfl⟩ := List.mem_map.1 h
  exact wordOf_lt l k
theorem wordOf_out {l : List Bool} {k : Nat} (h : (l.length + 63) / 64 ≤ k) : wordOf l k = 0 := by
  unfold wordOf
  have : ∀ n, ofB (fun _ => false) n = 0 := fun n => by induction n with
    | zero => rfl
    | succ n ih => simp [ofB, ih]
  rw [ofB_congr (q := fun _ => false) (fun i _ => bg_out (by omega)), this]
theorem wg_wordsOf (l : List Bool) (k : Nat) : wg (wordsOf l) k = wordOf l k := by
  unfold wg
  by_cases h : k < (l.length + 63) / 64
  · rw [wordsOf_at h]; rfl
  · rw [List.getElem?_eq_none (by rw [length_wordsOf]; omega), wordOf_out (by omega)]; rfl
theorem testBit_wordOf (l : List Bool) (k i : Nat) (hi : i < 64) : (wordOf l k).testBit i = bg l (64 * k + i) := by
  unfold wordOf; rw [testBit_ofB]; simp [hi]
theorem wbit_wordsOf (l : List Bool) (i : Nat) : wbit (wordsOf l) i = bg l i := by
  unfold wbit
  rw [wg_wordsOf, testBit_wordOf _ _ _ (by omega)]
  congr 1; omega
/-- Words of the right number whose bits are the list's are the list's words. -/
theorem eq_wordsOf {ws : List Nat} {l : List Bool} (hl : ws.length = (l.length + 63) / 64) (hlt : ∀ k, wg ws k < 18446744073709551616) (hb : ∀ i, i < 64 * ws.length → wbit ws i = bg l i) : ws = wordsOf l := by
  apply List.ext_getElem?
  intro k
  by_cases h : k < ws.length
  · rw [wordsOf_at (by omega), List.getElem?_eq_getElem h]
    congr 1
    have e : ws[k] = wg ws k := by unfold wg; simp [h]
    rw [e]
    apply Nat.eq_of_testBit_eq
    intro i
    by_cases hi : i < 64
    · rw [testBit_wordOf _ _ _ hi, ← hb _ (by omega)]
      unfold wbit
      rw [show (64 * k + i) / 64 = k by omega, show (64 * k + i) % 64 = i by omega]
    · rw [tb_lt (hlt k) (by omega), tb_lt (wordOf_lt l k) (by omega)]
  · rw [List.getElem?_eq_none (by omega), List.getElem?_eq_none (by rw [length_wordsOf]; omega)]

theorem bg_append_low (l : List Bool) (x n i : Nat) (hx : x < 2 ^ n) : bg (l ++ lowb x n) i = if i < l.length then bg l i else x.testBit (i - l.length) := by
  unfold bg lowb
  by_cases h : i < l.length
  · rw [if_pos h, List.getElem?_append_left h]
  · rw [if_neg h, List.getElem?_append_right (by omega)]
    by_cases g : i - l.length < n
    · simp [g]
    · rw [List.getElem?_eq_none (by simp; omega)]
      have : x.testBit (i - l.length) = false := Nat.testBit_lt_two_pow (Nat.lt_of_lt_of_le hx (Nat.pow_le_pow_right (by omega) (by omega)))
      simp [this]
theorem wg_set (ws : List Nat) (j k x : Nat) (hj : j < ws.length) : wg (ws.set j x) k = if k = j then x else wg ws k := by
  unfold wg
  rw [List.getElem?_set]
  by_cases h : j = k
  · subst h; simp [hj]
  · rw [if_neg h, if_neg (fun e => h e.symm)]
theorem wg_snoc (ws : List Nat) (x k : Nat) : wg (ws ++ [x]) k = if k = ws.length then x else wg ws k := by
  unfold wg
  by_cases h : k < ws.length
  · rw [List.getElem?_append_left h, if_neg (by omega)]
  · rw [List.getElem?_append_right (by omega)]
    by_cases e : k = ws.length
    · subst e; simp
    · rw [if_neg e, List.getElem?_eq_none (by simp; omega), List.getElem?_eq_none (by omega)]

/-- The word of a row that is begun takes the new bits that it has room for. -/
def orLast (l : List Bool) (x : Nat) : List Nat := (wordsOf l).set ((wordsOf l).length - 1) (wordOf l ((wordsOf l).length - 1) ||| ((x <<< (l.length % 64)) % 18446744073709551616))

theorem add_in {l : List Bool} {x n : Nat} (hx : x < 2 ^ n) (hat : 0 < l.length % 64) (hn : l.length % 64 + n ≤ 64) : orLast l x = wordsOf (l ++ lowb x n) := by
  have hlen : (orLast l x).length = (l.length + 63) / 64 := by simp [orLast, length_wordsOf]
  have hwl := length_wordsOf l
  have hl : (l ++ lowb x n).length = l.length + n := by simp [lowb]
  refine eq_wordsOf (by omega) (fun k => ?_) (fun i hi => ?_)
  · unfold orLast
    rw [wg_set _ _ _ _ (by omega), wg_wordsOf]
    split
    · exact Nat.or_lt_two_pow (n := 64) (wordOf_lt l _) (Nat.mod_lt _ (by omega))
    · exact wordOf_lt l k
  · rw [bg_append_low _ _ _ _ hx]
    unfold wbit orLast
    rw [wg_set _ _ _ _ (by omega), wg_wordsOf]
    split
    · rename_i h
      rw [Nat.testBit_or, show (18446744073709551616 : Nat) = 2 ^ 64 from rfl, Nat.testBit_mod_two_pow, Nat.testBit_shiftLeft, testBit_wordOf _ _ _ (by omega), show 64 * ((wordsOf l).length - 1) + i % 64 = i by omega]
      by_cases g : i < l.length
      · rw [if_pos g]
        have : ¬ i % 64 ≥ l.length % 64 := by omega
        simp [this]
      · rw [if_neg g, bg_out (by omega)]
        have : i % 64 ≥ l.length % 64 := by omega
        simp [this, show i % 64 < 64 by omega, show i % 64 - l.length % 64 = i - l.length by omega]
    · rename_i h
      rw [if_pos (by omega), testBit_wordOf _ _ _ (by omega)]
      congr 1; omega

theorem add_over {l : List Bool} {x n : Nat} (hx : x < 2 ^ n) (hx64 : x < 18446744073709551616) (hat : 0 < l.length % 64) (hn : 64 < l.length % 64 + n) (hn64 : n ≤ 64) : orLast l x ++ [x >>> (64 - l.length % 64)] = wordsOf (l ++ lowb x n) := by
  have hlen : (orLast l x).length = (l.length + 63) / 64 := by simp [orLast, length_wordsOf]
  have hwl := length_wordsOf l
  have hl : (l ++ lowb x n).length = l.length + n := by simp [lowb]
  refine eq_wordsOf (by rw [List.length_append, List.length_singleton]; omega) (fun k => ?_) (fun i hi => ?_)
  · rw [wg_snoc]
    split
    · rw [Nat.shiftRight_eq_div_pow]; exact Nat.lt_of_le_of_lt (Nat.div_le_self _ _) hx64
    · unfold orLast
      rw [wg_set _ _ _ _ (by omega), wg_wordsOf]
      split
      · exact Nat.or_lt_two_pow (n := 64) (wordOf_lt l _) (Nat.mod_lt _ (by omega))
      · exact wordOf_lt l k
  · rw [List.length_append, List.length_singleton] at hi
    rw [bg_append_low _ _ _ _ hx]
    unfold wbit
    rw [wg_snoc]
    split
    · rename_i h
      rw [if_neg (by omega), Nat.testBit_shiftRight]
      congr 1; omega
    · unfold orLast
      rw [wg_set _ _ _ _ (by omega), wg_wordsOf]
      split
      · rename_i h
        rw [Nat.testBit_or, show (18446744073709551616 : Nat) = 2 ^ 64 from rfl, Nat.testBit_mod_two_pow, Nat.testBit_shiftLeft, testBit_wordOf _ _ _ (by omega), show 64 * ((wordsOf l).length - 1) + i % 64 = i by omega]
        by_cases g : i < l.length
        · rw [if_pos g]
          have : ¬ i % 64 ≥ l.length % 64 := by omega
          simp [this]
        · rw [if_neg g, bg_out (by omega)]
          have : i % 64 ≥ l.length % 64 := by omega
          simp [this, show i % 64 < 64 by omega, show i % 64 - l.length % 64 = i - l.length by omega]
      · rename_i h
        rw [if_pos (by omega), testBit_wordOf _ _ _ (by omega)]
        congr 1; omega

theorem add_new {l : List Bool} {x n : Nat} (hx : x < 2 ^ n) (hx64 : x < 18446744073709551616) (hat : l.length % 64 = 0) (hn : 0 < n) (hn64 : n ≤ 64) : wordsOf l ++ [x] = wordsOf (l ++ lowb x n) := by
  have hwl := length_wordsOf l
  have hl : (l ++ lowb x n).length = l.length + n := by simp [lowb]
  refine eq_wordsOf (by rw [List.length_append, List.length_singleton]; omega) (fun k => ?_) (fun i hi => ?_)
  · rw [wg_snoc]
    split
    · exact hx64
    · rw [wg_wordsOf]; exact wordOf_lt l k
  · rw [List.length_append, List.length_singleton] at hi
    rw [bg_append_low _ _ _ _ hx]
    unfold wbit
    rw [wg_snoc]
    split
    · rename_i h
      rw [if_neg (by omega)]
      congr 1; omega
    · rw [if_pos (by omega), wg_wordsOf, testBit_wordOf _ _ _ (by omega)]
      congr 1; omega

/-- So many bits of a list from a place on. -/
def cutL (l : List Bool) (a : Int) (n : Nat) : Nat := ofB (fun i => bz l (a + i)) n
/-- The first place at or after this one where a bit is. -/
def NextP (l : List Bool) (i r : Int) : Prop :=
  (r = -1 ∧ ∀ j : Nat, i ≤ j → bg l j = false) ∨ ∃ a : Nat, r = a ∧ i ≤ a ∧ bg l a = true ∧ ∀ j : Nat, i ≤ j → j < a → bg l j = false
theorem NextP.one {l : List Bool} {i r s : Int} (h : NextP l i r) (g : NextP l i s) : r = s := by
  rcases h with ⟨rfl, h⟩ | ⟨a, rfl, ha, hb, hc⟩ <;> rcases g with ⟨rfl, g⟩ | ⟨b, rfl, ga, gb, gc⟩
  · rfl
  · rw [h b ga] at gb; cases gb
  · rw [g a ha] at hb; cases hb
  · rcases Nat.lt_trichotomy a b with h | h | h
    · rw [gc a ha h] at hb; cases hb
    · rw [h]
    · rw [hc b ga h] at gb; cases gb

theorem cnt_words (l : List Bool) : ∀ m, cnt (bg l) (64 * m) = ((List.range m).map fun k => pc (wordOf l k)).sum
  | 0 => rfl
  | m + 1 => by
    rw [show 64 * (m + 1) = 64 * m + 64 by omega, cnt_add, cnt_words l m, List.range_succ, List.map_append, List.sum_append]
    congr 1
    simp only [List.map_cons, List.map_nil, List.sum_cons, List.sum_nil, Nat.add_zero]
    exact cnt_congr fun i hi => (testBit_wordOf l m i hi).symm
end Go.VC
