/- Plain arithmetic of words of 64 bits; the model's operations on them. No program here. -/
import Derived.Test.YtilccklocaeebaaVc7
namespace Go.VC
open Go

/-! ### wraps -/
theorem w64 {x : Int} (h : -9223372036854775808 ≤ x ∧ x ≤ 9223372036854775807) : IntKind.i64.wrap x = x := by
  simp only [IntKind.wrap, IntKind.bits, IntKind.signed]; simp; omega
theorem wu64 {x : Int} (h : 0 ≤ x ∧ x ≤ 18446744073709551615) : IntKind.u64.wrap x = x := by
  simp only [IntKind.wrap, IntKind.bits, IntKind.signed]; simp; omega
theorem wu64' (x : Int) : IntKind.u64.wrap x = x % 18446744073709551616 := by
  simp only [IntKind.wrap, IntKind.bits, IntKind.signed]; simp
theorem wu8' (x : Int) : IntKind.u8.wrap x = x % 256 := by
  simp only [IntKind.wrap, IntKind.bits, IntKind.signed]; simp
theorem wu8 {x : Int} (h : 0 ≤ x ∧ x ≤ 255) : IntKind.u8.wrap x = x := by rw [wu8']; omega
theorem w64' (x : Int) : IntKind.i64.wrap x = (x + 9223372036854775808) % 18446744073709551616 - 9223372036854775808 := by
  simp only [IntKind.wrap, IntKind.bits, IntKind.signed]; simp; omega

theorem bits_of (k : IntKind) (m : Nat) : (BitVec.ofInt k.bits (m : Int)).toNat = m % 2 ^ k.bits := by
  rw [BitVec.ofInt_natCast, BitVec.toNat_ofNat]

theorem and_u64 {m n : Nat} (hm : m < 18446744073709551616) (hn : n < 18446744073709551616) : bAnd .u64 (m : Int) (n : Int) = ((m &&& n : Nat) : Int) := by
  unfold bAnd
  rw [BitVec.toNat_and, bits_of, bits_of, wu64']
  simp only [IntKind.bits, Nat.reducePow, Nat.mod_eq_of_lt hm, Nat.mod_eq_of_lt hn]
  have : m &&& n ≤ m := Nat.and_le_left
  omega
theorem or_u64 {m n : Nat} (hm : m < 18446744073709551616) (hn : n < 18446744073709551616) : bOr .u64 (m : Int) (n : Int) = ((m ||| n : Nat) : Int) := by
  unfold bOr
  rw [BitVec.toNat_or, bits_of, bits_of, wu64']
  simp only [IntKind.bits, Nat.reducePow, Nat.mod_eq_of_lt hm, Nat.mod_eq_of_lt hn]
  have : m ||| n < 2 ^ 64 := Nat.or_lt_two_pow (by omega) (by omega)
  omega
theorem xor_u64 {m n : Nat} (hm : m < 18446744073709551616) (hn : n < 18446744073709551616) : bXor .u64 (m : Int) (n : Int) = ((m ^^^ n : Nat) : Int) := by
  unfold bXor
  rw [BitVec.toNat_xor, bits_of, bits_of, wu64']
  simp only [IntKind.bits, Nat.reducePow, Nat.mod_eq_of_lt hm, Nat.mod_eq_of_lt hn]
  have : m ^^^ n < 2 ^ 64 := Nat.xor_lt_two_pow (by omega) (by omega)
  omega
theorem and_i64 {m n : Nat} (hm : m < 9223372036854775808) (hn : n < 9223372036854775808) : bAnd .i64 (m : Int) (n : Int) = ((m &&& n : Nat) : Int) := by
  unfold bAnd
  rw [BitVec.toNat_and, bits_of, bits_of]
  simp only [IntKind.bits, Nat.reducePow, Nat.mod_eq_of_lt (show m < 18446744073709551616 by omega), Nat.mod_eq_of_lt (show n < 18446744073709551616 by omega)]
  have : m &&& n ≤ m := Nat.and_le_left
  exact w64 ⟨by omega, by omega⟩
theorem and_u8 {m n : Nat} (hm : m < 256) (hn : n < 256) : bAnd .u8 (m : Int) (n : Int) = ((m &&& n : Nat) : Int) := by
  unfold bAnd
  rw [BitVec.toNat_and, bits_of, bits_of, wu8']
  simp only [IntKind.bits, Nat.reducePow, Nat.mod_eq_of_lt hm, Nat.mod_eq_of_lt hn]
  have : m &&& n ≤ m := Nat.and_le_left
  omega
theorem or_u8 {m n : Nat} (hm : m < 256) (hn : n < 256) : bOr .u8 (m : Int) (n : Int) = ((m ||| n : Nat) : Int) := by
  unfold bOr
  rw [BitVec.toNat_or, bits_of, bits_of, wu8']
  simp only [IntKind.bits, Nat.reducePow, Nat.mod_eq_of_lt hm, Nat.mod_eq_of_lt hn]
  have : m ||| n < 2 ^ 8 := Nat.or_lt_two_pow (by omega) (by omega)
  omega

theorem shr_u64 {m : Nat} (hm : m < 18446744073709551616) (k : Nat) : shR .u64 (m : Int) (k : Int) = ((m >>> k : Nat) : Int) := by
  unfold shR
  simp only [Int.toNat_natCast, IntKind.bits]
  rw [Nat.shiftRight_eq_div_pow]
  by_cases hk : k ≤ 64
  · rw [Nat.min_eq_left hk, Int.fdiv_eq_ediv_of_nonneg _ (by exact Int.pow_nonneg (by omega))]
    push_cast; rfl
  · rw [Nat.min_eq_right (by omega), Int.fdiv_eq_ediv_of_nonneg _ (by exact Int.pow_nonneg (by omega)), show (2 : Int) ^ 64 = 18446744073709551616 from rfl]
    have h1 : m / 2 ^ k = 0 := Nat.div_eq_of_lt (Nat.lt_of_lt_of_le hm (by
      have : (2 : Nat) ^ 64 ≤ 2 ^ k := Nat.pow_le_pow_right (by omega) (by omega)
      omega))
    rw [h1]
    omega
theorem shl_u64 (m k : Nat) : shL .u64 (m : Int) (k : Int) = (((m <<< k) % 18446744073709551616 : Nat) : Int) := by
  unfold shL
  simp only [Int.toNat_natCast, IntKind.bits]
  rw [wu64', Nat.shiftLeft_eq]
  by_cases hk : k ≤ 64
  · rw [Nat.min_eq_left hk]
    rw [Int.natCast_emod, Int.natCast_mul, Int.natCast_pow]
    rfl
  · rw [Nat.min_eq_right (by omega)]
    have h2 : m * 2 ^ k % 18446744073709551616 = 0 := by
      obtain ⟨j, rfl⟩ : ∃ j, k = 64 + j := ⟨k - 64, by omega⟩
      rw [Nat.pow_add, show (2 : Nat) ^ 64 = 18446744073709551616 from rfl, ← Nat.mul_assoc, Nat.mul_comm m, Nat.mul_assoc]
      exact Nat.mul_mod_right _ _
    rw [h2]
    have h3 : (2 : Int) ^ 64 = 18446744073709551616 := rfl
    rw [h3]
    omega

/-! ### bits -/
/-- How many of the first numbers are as told. -/
def cnt (p : Nat → Bool) : Nat → Nat
  | 0 => 0
  | n + 1 => cnt p n + (if p n then 1 else 0)
/-- The number of these bits. -/
def ofB (p : Nat → Bool) : Nat → Nat
  | 0 => 0
  | n + 1 => ofB p n + (if p n then 2 ^ n else 0)

theorem cnt_le (p : Nat → Bool) (n : Nat) : cnt p n ≤ n := by
  induction n with
  | zero => simp [cnt]
  | succ n ih => simp only [cnt]; split <;> omega
theorem cnt_congr {p q : Nat → Bool} {n : Nat} (h : ∀ i, i < n → p i = q i) : cnt p n = cnt q n := by
  induction n with
  | zero => rfl
  | succ n ih => simp only [cnt, ih (fun i hi => h i (by omega)), h n (by omega)]
theorem cnt_add (p : Nat → Bool) (m n : Nat) : cnt p (m + n) = cnt p m + cnt (fun i => p (m + i)) n := by
  induction n with
  | zero => simp [cnt]
  | succ n ih => rw [← Nat.add_assoc]; simp only [cnt, ih]; omega
theorem cnt_mono (p : Nat → Bool) {m n : Nat} (h : m ≤ n) : cnt p m ≤ cnt p n := by
  obtain ⟨k, rfl⟩ : ∃ k, n = m + k := ⟨n - m, by omega⟩
  rw [cnt_add]; omega
theorem cnt_false (n : Nat) : cnt (fun _ => false) n = 0 := by
  induction n with
  | zero => rfl
  | succ n ih => simp [cnt, ih]

theorem ofB_lt (p : Nat → Bool) (n : Nat) : ofB p n < 2 ^ n := by
  induction n with
  | zero => simp [ofB]
  | succ n ih => simp only [ofB, Nat.pow_succ]; split <;> omega
theorem testBit_ofB (p : Nat → Bool) (n i : Nat) : (ofB p n).testBit i = (decide (i < n) && p i) := by
  induction n with
  | zero => simp [ofB]
  | succ n ih =>
    simp only [ofB]
    by_cases hp : p n = true
    · rw [if_pos hp, Nat.add_comm]
      have h1 := Nat.testBit_two_pow_mul_add 1 (ofB_lt p n) i
      rw [Nat.mul_one] at h1
      rw [h1]
      by_cases hi : i < n
      · rw [if_pos hi, ih]; simp [hi, show i < n + 1 by omega]
      · rw [if_neg hi]
        by_cases e : i = n
        · subst e; simp [hp]
        · have : ¬ i < n + 1 := by omega
          obtain ⟨j, hj⟩ : ∃ j, i - n = j + 1 := ⟨i - n - 1, by omega⟩
          simp [this, hj, Nat.testBit_succ]
    · rw [if_neg hp, Nat.add_zero, ih]
      by_cases e : i = n
      · subst e; simp [Bool.not_eq_true _ ▸ hp]
      · have : (decide (i < n + 1)) = decide (i < n) := by simp; omega
        rw [this]
theorem ofB_testBit (x n : Nat) : ofB x.testBit n = x % 2 ^ n := by
  apply Nat.eq_of_testBit_eq
  intro i
  rw [testBit_ofB, Nat.testBit_mod_two_pow]
theorem ofB_congr {p q : Nat → Bool} {n : Nat} (h : ∀ i, i < n → p i = q i) : ofB p n = ofB q n := by
  induction n with
  | zero => rfl
  | succ n ih => simp only [ofB, ih (fun i hi => h i (by omega)), h n (by omega)]

theorem tb_lt {x : Nat} (hx : x < 18446744073709551616) {i : Nat} (hi : 64 ≤ i) : x.testBit i = false :=
  Nat.testBit_lt_two_pow (Nat.lt_of_lt_of_le hx (by have : (2:Nat)^64 ≤ 2^i := Nat.pow_le_pow_right (by omega) hi; omega))

/-! ### the ones of a word -/
theorem bw {h m c M q : Nat} (hc : c < 2 ^ 8) (hm : m < 2 ^ (8 - h)) (hh : h ≤ 8) : ((2 ^ 8 * q + c) >>> h) &&& (2 ^ 8 * M + m) = 2 ^ 8 * ((q >>> h) &&& M) + ((c >>> h) &&& m) := by
  have hm8 : m < 2 ^ 8 := Nat.lt_of_lt_of_le hm (Nat.pow_le_pow_right (by omega) (by omega))
  have hlt : (c >>> h) &&& m < 2 ^ 8 := Nat.lt_of_le_of_lt Nat.and_le_right hm8
  apply Nat.eq_of_testBit_eq
  intro i
  rw [Nat.testBit_and, Nat.testBit_shiftRight, Nat.testBit_two_pow_mul_add _ hc, Nat.testBit_two_pow_mul_add _ hm8, Nat.testBit_two_pow_mul_add _ hlt]
  by_cases hi : i < 8
  · simp only [hi, if_true, Nat.testBit_and, Nat.testBit_shiftRight]
    by_cases h2 : h + i < 8
    · simp [h2]
    · have : m.testBit i = false := Nat.testBit_lt_two_pow (Nat.lt_of_lt_of_le hm (Nat.pow_le_pow_right (by omega) (by omega)))
      simp [this]
  · simp only [hi, if_false, Nat.testBit_and, Nat.testBit_shiftRight, show ¬ h + i < 8 by omega]
    rw [show h + i - 8 = h + (i - 8) by omega]

/-- A number by its bytes, the lowest first. -/
def val : List Nat → Nat
  | [] => 0
  | c :: cs => 2 ^ 8 * val cs + c

theorem val_and {h m : Nat} (hh : h ≤ 8) (hm : m < 2 ^ (8 - h)) : ∀ {cs : List Nat}, (∀ c ∈ cs, c < 2 ^ 8) → (val cs >>> h) &&& val (cs.map fun _ => m) = val (cs.map fun c => (c >>> h) &&& m)
  | [], _ => by simp [val]
  | c :: cs, hc => by
    simp only [List.map_cons, val]
    rw [bw (hc c List.mem_cons_self) hm hh, val_and hh hm (fun x hx => hc x (List.mem_cons_of_mem _ hx))]
theorem val_add (f g : Nat → Nat) : ∀ (cs : List Nat), val (cs.map f) + val (cs.map g) = val (cs.map fun c => f c + g c)
  | [] => rfl
  | c :: cs => by
    have := val_add f g cs
    simp only [List.map_cons, val, Nat.reducePow] at this ⊢
    omega

def s1 (c : Nat) : Nat := ((c >>> 1) &&& 85) + ((c >>> 0) &&& 85)
def s2 (c : Nat) : Nat := ((c >>> 2) &&& 51) + ((c >>> 0) &&& 51)
def s3 (d : Nat) : Nat := d / 16 + d % 16

theorem s12 : ∀ c : Fin 256, s1 c.val < 256 ∧ s2 (s1 c.val) / 16 ≤ 4 ∧ s2 (s1 c.val) % 16 ≤ 4 ∧ s2 (s1 c.val) < 256 ∧ s3 (s2 (s1 c.val)) = cnt c.val.testBit 8 := by decide +kernel

theorem val_s3 : ∀ {ds : List Nat}, (∀ d ∈ ds, d / 16 ≤ 4 ∧ d % 16 ≤ 4) → ((val ds / 16 + val ds) &&& val (ds.map fun _ => 15) = val (ds.map s3)) ∧ val ds % 16 ≤ 4
  | [], _ => by simp [val]
  | d :: ds, hd => by
    obtain ⟨ih, ih2⟩ := val_s3 (ds := ds) (fun x hx => hd x (List.mem_cons_of_mem _ hx))
    obtain ⟨h1, h2⟩ := hd d List.mem_cons_self
    simp only [List.map_cons, val, Nat.reducePow]
    refine ⟨?_, by omega⟩
    have e : (256 * val ds + d) / 16 + (256 * val ds + d) = 2 ^ 8 * (val ds / 16 + val ds) + (16 * (val ds % 16) + d + d / 16) := by simp only [Nat.reducePow]; omega
    rw [e]
    have hb := bw (h := 0) (m := 15) (c := 16 * (val ds % 16) + d + d / 16) (M := val (ds.map fun _ => 15)) (q := val ds / 16 + val ds) (by simp only [Nat.reducePow]; omega) (by decide) (by omega)
    simp only [Nat.shiftRight_zero, Nat.reducePow] at hb ⊢
    rw [hb, ih]
    have : (16 * (val ds % 16) + d + d / 16) &&& 15 = s3 d := by
      rw [show (15 : Nat) = 2 ^ 4 - 1 from rfl, Nat.and_two_pow_sub_one_eq_mod]
      unfold s3
      simp only [Nat.reducePow]
      omega
    rw [this]

theorem cnt_val : ∀ {cs : List Nat}, (∀ c ∈ cs, c < 2 ^ 8) → cnt (val cs).testBit (8 * cs.length) = (cs.map fun c => cnt c.testBit 8).sum
  | [], _ => rfl
  | c :: cs, hc => by
    have h0 := hc c List.mem_cons_self
    rw [List.length_cons, show 8 * (cs.length + 1) = 8 + 8 * cs.length by omega, cnt_add, List.map_cons, List.sum_cons, ← cnt_val (fun x hx => hc x (List.mem_cons_of_mem _ hx))]
    congr 1
    · exact cnt_congr fun i hi => by simp only [val]; rw [Nat.testBit_two_pow_mul_add _ h0, if_pos hi]
    · exact cnt_congr fun i _ => by simp only [val]; rw [Nat.testBit_two_pow_mul_add _ h0, if_neg (by omega)]; congr 1; omega

/-- The ones of a word. -/
def pc (x : Nat) : Nat := cnt x.testBit 64

def swar1 (x : Nat) : Nat := ((x >>> 1) &&& 6148914691236517205) + ((x >>> 0) &&& 6148914691236517205)
def swar2 (x : Nat) : Nat := ((x >>> 2) &&& 3689348814741910323) + ((x >>> 0) &&& 3689348814741910323)
def swar3 (x : Nat) : Nat := (x / 16 + x) &&& 1085102592571150095

theorem bytes8 (x : Nat) (hx : x < 18446744073709551616) : ∃ c0 c1 c2 c3 c4 c5 c6 c7, x = val [c0, c1, c2, c3, c4, c5, c6, c7] ∧ ∀ c ∈ [c0, c1, c2, c3, c4, c5, c6, c7], c < 2 ^ 8 := by
  refine ⟨x % 256, x / 256 % 256, x / 65536 % 256, x / 16777216 % 256, x / 4294967296 % 256, x / 1099511627776 % 256, x / 281474976710656 % 256, x / 72057594037927936 % 256, ?_, ?_⟩
  · simp only [val, Nat.reducePow]; omega
  · intro c hc
    simp only [List.mem_cons, List.not_mem_nil, or_false] at hc
    rcases hc with rfl | rfl | rfl | rfl | rfl | rfl | rfl | rfl <;> exact Nat.mod_lt _ (by omega)

theorem swar (x : Nat) (hx : x < 18446744073709551616) : ∃ c0 c1 c2 c3 c4 c5 c6 c7, swar3 (swar2 (swar1 x)) = val [c0, c1, c2, c3, c4, c5, c6, c7] ∧ (∀ c ∈ [c0, c1, c2, c3, c4, c5, c6, c7], c ≤ 8) ∧ pc x = c0 + c1 + c2 + c3 + c4 + c5 + c6 + c7 ∧
    swar1 x < 18446744073709551616 ∧ swar2 (swar1 x) < 4919131752989213765 := by
  obtain ⟨c0, c1, c2, c3, c4, c5, c6, c7, rfl, hc⟩ := bytes8 x hx
  have e1 : swar1 (val [c0, c1, c2, c3, c4, c5, c6, c7]) = val ([c0, c1, c2, c3, c4, c5, c6, c7].map s1) := by
    unfold swar1
    have a := val_and (h := 1) (m := 85) (by omega) (by decide) hc
    have b := val_and (h := 0) (m := 85) (by omega) (by decide) hc
    have m : val ([c0, c1, c2, c3, c4, c5, c6, c7].map fun _ => 85) = 6148914691236517205 := by simp [val]
    rw [m] at a b
    rw [a, b, val_add]
    rfl
  have h1 : ∀ c ∈ [c0, c1, c2, c3, c4, c5, c6, c7].map s1, c < 2 ^ 8 := by
    intro c hm
    obtain ⟨d, hd, rfl⟩ := List.mem_map.1 hm
    exact (s12 ⟨d, hc d hd⟩).1
  have e2 : swar2 (val ([c0, c1, c2, c3, c4, c5, c6, c7].map s1)) = val (([c0, c1, c2, c3, c4, c5, c6, c7].map s1).map s2) := by
    unfold swar2
    have a := val_and (h := 2) (m := 51) (by omega) (by decide) h1
    have b := val_and (h := 0) (m := 51) (by omega) (by decide) h1
    have m : val (([c0, c1, c2, c3, c4, c5, c6, c7].map s1).map fun _ => 51) = 3689348814741910323 := by simp [val]
    rw [m] at a b
    rw [a, b, val_add]
    rfl
  have h2 : ∀ c ∈ ([c0, c1, c2, c3, c4, c5, c6, c7].map s1).map s2, c / 16 ≤ 4 ∧ c % 16 ≤ 4 := by
    intro c hm
    obtain ⟨d, hd, rfl⟩ := List.mem_map.1 hm
    obtain ⟨f, hf, rfl⟩ := List.mem_map.1 hd
    have := s12 ⟨f, hc f hf⟩
    exact ⟨this.2.1, this.2.2.1⟩
  have e3 : swar3 (val (([c0, c1, c2, c3, c4, c5, c6, c7].map s1).map s2)) = val ((([c0, c1, c2, c3, c4, c5, c6, c7].map s1).map s2).map s3) := by
    unfold swar3
    have a := (val_s3 h2).1
    have m : val ((([c0, c1, c2, c3, c4, c5, c6, c7].map s1).map s2).map fun _ => 15) = 1085102592571150095 := by simp [val]
    rw [m] at a
    exact a
  have hb : ∀ c ∈ [c0, c1, c2, c3, c4, c5, c6, c7], s3 (s2 (s1 c)) = cnt c.testBit 8 ∧ s3 (s2 (s1 c)) ≤ 8 ∧ s1 c ≤ 255 ∧ s2 (s1 c) ≤ 68 := by
    intro c hm
    have := s12 ⟨c, hc c hm⟩
    refine ⟨this.2.2.2.2, by rw [this.2.2.2.2]; exact cnt_le _ _, by have := this.1; simp only at this; omega, by have h := this.2; simp only at h; omega⟩
  refine ⟨s3 (s2 (s1 c0)), s3 (s2 (s1 c1)), s3 (s2 (s1 c2)), s3 (s2 (s1 c3)), s3 (s2 (s1 c4)), s3 (s2 (s1 c5)), s3 (s2 (s1 c6)), s3 (s2 (s1 c7)), ?_, ?_, ?_, ?_, ?_⟩
  · rw [e1, e2, e3]; rfl
  · intro c hm
    simp only [List.mem_cons, List.not_mem_nil, or_false] at hm hb
    rcases hm with rfl | rfl | rfl | rfl | rfl | rfl | rfl | rfl <;> exact (hb _ (by simp)).2.1
  · have := cnt_val hc
    simp only [List.length_cons, List.length_nil, List.map_cons, List.map_nil, List.sum_cons, List.sum_nil] at this
    unfold pc
    rw [show (64 : Nat) = 8 * (0 + 1 + 1 + 1 + 1 + 1 + 1 + 1 + 1) from rfl, this]
    simp only [List.mem_cons, List.not_mem_nil, or_false, forall_eq_or_imp, forall_eq] at hb
    omega
  · rw [e1]
    simp only [List.mem_cons, List.not_mem_nil, or_false, forall_eq_or_imp, forall_eq] at hb
    simp only [List.map_cons, List.map_nil, val, Nat.reducePow]
    omega
  · rw [e1, e2]
    simp only [List.mem_cons, List.not_mem_nil, or_false, forall_eq_or_imp, forall_eq] at hb
    simp only [List.map_cons, List.map_nil, val, Nat.reducePow]
    omega


theorem swarA {c0 c1 c2 c3 c4 c5 c6 c7 a : Nat} (h0 : c0 ≤ 8)
    (ha : a = c0 + 256 * (c1 + 256 * (c2 + 256 * (c3 + 256 * (c4 + 256 * (c5 + 256 * (c6 + 256 * c7))))))) :
    a + a / 256 = (c0 + c1) + 256 * ((c1 + c2) + 256 * ((c2 + c3) + 256 * ((c3 + c4) + 256 * ((c4 + c5) + 256 * ((c5 + c6) + 256 * ((c6 + c7) + 256 * c7)))))) := by
  have : a / 256 = c1 + 256 * (c2 + 256 * (c3 + 256 * (c4 + 256 * (c5 + 256 * (c6 + 256 * c7))))) := by
    rw [ha]; clear ha
    generalize c1 + 256 * (c2 + 256 * (c3 + 256 * (c4 + 256 * (c5 + 256 * (c6 + 256 * c7))))) = r
    omega
  rw [this, ha]; clear this ha h0
  omega
theorem swarB {d0 d1 d2 d3 d4 d5 d6 d7 a : Nat} (h0 : d0 ≤ 16) (h1 : d1 ≤ 16)
    (ha : a = d0 + 256 * (d1 + 256 * (d2 + 256 * (d3 + 256 * (d4 + 256 * (d5 + 256 * (d6 + 256 * d7))))))) :
    a + a / 65536 = (d0 + d2) + 256 * ((d1 + d3) + 256 * ((d2 + d4) + 256 * ((d3 + d5) + 256 * ((d4 + d6) + 256 * ((d5 + d7) + 256 * (d6 + 256 * d7)))))) := by
  have : a / 65536 = d2 + 256 * (d3 + 256 * (d4 + 256 * (d5 + 256 * (d6 + 256 * d7)))) := by
    rw [ha]; clear ha
    generalize d2 + 256 * (d3 + 256 * (d4 + 256 * (d5 + 256 * (d6 + 256 * d7)))) = r
    omega
  rw [this, ha]; clear this ha h0 h1
  omega
theorem swarC {e0 e1 e2 e3 r a : Nat} (h0 : e0 ≤ 32) (h1 : e1 ≤ 32) (h2 : e2 ≤ 32) (h3 : e3 ≤ 32)
    (ha : a = e0 + 256 * (e1 + 256 * (e2 + 256 * (e3 + 256 * r)))) :
    a + a / 4294967296 = (e0 + r) + 256 * (e1 + 256 * (e2 + 256 * (e3 + 256 * r))) := by
  have : a / 4294967296 = r := by
    rw [ha]; clear ha
    omega
  rw [this, ha]; clear this ha h0 h1 h2 h3
  omega
theorem swarE {c0 c1 c2 c3 c4 c5 c6 c7 a : Nat} (h0 : c0 ≤ 8) (h1 : c1 ≤ 8) (h2 : c2 ≤ 8) (h3 : c3 ≤ 8) (h4 : c4 ≤ 8) (h5 : c5 ≤ 8) (h6 : c6 ≤ 8) (h7 : c7 ≤ 8)
    (ha : a = val [c0, c1, c2, c3, c4, c5, c6, c7]) :
    a < 1000000000000000000 ∧ a + a / 256 < 2000000000000000000 ∧ (a + a / 256) + (a + a / 256) / 65536 < 3000000000000000000 ∧
    ((a + a / 256) + (a + a / 256) / 65536) + ((a + a / 256) + (a + a / 256) / 65536) / 4294967296 < 4000000000000000000 ∧
    (((a + a / 256) + (a + a / 256) / 65536) + ((a + a / 256) + (a + a / 256) / 65536) / 4294967296) % 128 = c0 + c1 + c2 + c3 + c4 + c5 + c6 + c7 := by
  have ha' : a = c0 + 256 * (c1 + 256 * (c2 + 256 * (c3 + 256 * (c4 + 256 * (c5 + 256 * (c6 + 256 * c7)))))) := by
    rw [ha]; simp only [val, Nat.reducePow]; omega
  clear ha
  have hlt : a < 1000000000000000000 := by omega
  have eA := swarA h0 ha'
  generalize hb : a + a / 256 = b at *
  have hb' : b < 2000000000000000000 := by omega
  clear ha' hb
  have eB := swarB (d0 := c0 + c1) (d1 := c1 + c2) (by omega) (by omega) eA
  generalize hd : b + b / 65536 = d at *
  have hd' : d < 3000000000000000000 := by omega
  clear eA hd
  have eC := swarC (e0 := c0 + c1 + (c2 + c3)) (e1 := c1 + c2 + (c3 + c4)) (e2 := c2 + c3 + (c4 + c5)) (e3 := c3 + c4 + (c5 + c6)) (by omega) (by omega) (by omega) (by omega) eB
  generalize he : d + d / 4294967296 = f at *
  refine ⟨hlt, hb', hd', by omega, ?_⟩
  clear hd' eB he hlt hb'
  rw [eC]
  generalize c1 + c2 + (c3 + c4) + 256 * (c2 + c3 + (c4 + c5) + 256 * (c3 + c4 + (c5 + c6) + 256 * (c4 + c5 + (c6 + c7) + 256 * (c5 + c6 + c7 + 256 * (c6 + c7 + 256 * c7))))) = r
  omega

theorem addU {m n : Nat} (h : m + n < 18446744073709551616) : IntKind.u64.wrap ((m : Int) + (n : Int)) = ((m + n : Nat) : Int) := by
  rw [wu64 ⟨by omega, by omega⟩, Int.natCast_add]
theorem shrC {m k : Nat} (hm : m < 18446744073709551616) : shR .u64 (m : Int) (k : Int) = ((m / 2 ^ k : Nat) : Int) := by
  rw [shr_u64 hm, Nat.shiftRight_eq_div_pow]
/-- The ones of a word, as the machine's library counts them. -/
theorem swarI (x : Nat) (hx : x < 18446744073709551616) : ∃ a b d e : Nat,
    IntKind.u64.wrap (bAnd .u64 (shR .u64 (x : Int) 1) 6148914691236517205 + bAnd .u64 (x : Int) 6148914691236517205) = (swar1 x : Int) ∧
    IntKind.u64.wrap (bAnd .u64 (shR .u64 (swar1 x : Int) 2) 3689348814741910323 + bAnd .u64 (swar1 x : Int) 3689348814741910323) = (swar2 (swar1 x) : Int) ∧
    bAnd .u64 (IntKind.u64.wrap (shR .u64 (swar2 (swar1 x) : Int) 4 + (swar2 (swar1 x) : Int))) 1085102592571150095 = (a : Int) ∧
    IntKind.u64.wrap ((a : Int) + shR .u64 (a : Int) 8) = (b : Int) ∧
    IntKind.u64.wrap ((b : Int) + shR .u64 (b : Int) 16) = (d : Int) ∧
    IntKind.u64.wrap ((d : Int) + shR .u64 (d : Int) 32) = (e : Int) ∧
    bAnd .i64 (IntKind.i64.wrap (e : Int)) 127 = (pc x : Int) := by
  obtain ⟨c0, c1, c2, c3, c4, c5, c6, c7, hv, hc, hp, hb1, hb2⟩ := swar x hx
  have an : ∀ (m n : Nat), m < 18446744073709551616 → n < 18446744073709551616 → bAnd .u64 (m : Int) (n : Int) = ((m &&& n : Nat) : Int) := fun m n hm hn => and_u64 hm hn
  have lt : ∀ (m k : Nat), m < 18446744073709551616 → m >>> k < 18446744073709551616 := fun m k hm => Nat.lt_of_le_of_lt (by rw [Nat.shiftRight_eq_div_pow]; exact Nat.div_le_self _ _) hm
  obtain ⟨e1, e2, e3, e4, e5⟩ := swarE (hc c0 (by simp)) (hc c1 (by simp)) (hc c2 (by simp)) (hc c3 (by simp)) (hc c4 (by simp)) (hc c5 (by simp)) (hc c6 (by simp)) (hc c7 (by simp)) hv
  have A1 : IntKind.u64.wrap ((swar3 (swar2 (swar1 x)) : Int) + shR .u64 (swar3 (swar2 (swar1 x)) : Int) 8) = ((swar3 (swar2 (swar1 x)) + swar3 (swar2 (swar1 x)) / 256 : Nat) : Int) := by
    rw [show (8 : Int) = ((8 : Nat) : Int) from rfl, shrC (by omega)]
    exact addU (by simp only [Nat.reducePow]; omega)
  generalize hA : swar3 (swar2 (swar1 x)) = a at *
  have A2 : IntKind.u64.wrap (((a + a / 256 : Nat) : Int) + shR .u64 ((a + a / 256 : Nat) : Int) 16) = (((a + a / 256) + (a + a / 256) / 65536 : Nat) : Int) := by
    rw [show (16 : Int) = ((16 : Nat) : Int) from rfl, shrC (by omega)]
    exact addU (by simp only [Nat.reducePow]; omega)
  have A3 : IntKind.u64.wrap (((a + a / 256) + (a + a / 256) / 65536 : Nat) + shR .u64 ((a + a / 256) + (a + a / 256) / 65536 : Nat) 32) = ((((a + a / 256) + (a + a / 256) / 65536) + ((a + a / 256) + (a + a / 256) / 65536) / 4294967296 : Nat) : Int) := by
    rw [show (32 : Int) = ((32 : Nat) : Int) from rfl, shrC (by omega)]
    exact addU (by simp only [Nat.reducePow]; omega)
  refine ⟨a, _, _, _, ?_, ?_, ?_, A1, A2, A3, ?_⟩
  · rw [show (1 : Int) = ((1 : Nat) : Int) from rfl, shr_u64 hx, show (6148914691236517205 : Int) = ((6148914691236517205 : Nat) : Int) from rfl,
      an _ _ (lt x 1 hx) (by omega), an _ _ hx (by omega)]
    exact addU hb1
  · rw [show (2 : Int) = ((2 : Nat) : Int) from rfl, shr_u64 hb1, show (3689348814741910323 : Int) = ((3689348814741910323 : Nat) : Int) from rfl,
      an _ _ (lt _ 2 hb1) (by omega), an _ _ hb1 (by omega)]
    exact addU (show swar2 (swar1 x) < _ by omega)
  · rw [show (4 : Int) = ((4 : Nat) : Int) from rfl, shrC (by omega), addU (by simp only [Nat.reducePow]; omega), show (1085102592571150095 : Int) = ((1085102592571150095 : Nat) : Int) from rfl,
      an _ _ (by simp only [Nat.reducePow]; omega) (by omega), ← hA]
    rfl
  · rw [w64 ⟨by omega, by omega⟩, show (127 : Int) = ((127 : Nat) : Int) from rfl, and_i64 (by omega) (by omega), show (127 : Nat) = 2 ^ 7 - 1 from rfl, Nat.and_two_pow_sub_one_eq_mod]
    rw [show (2 : Nat) ^ 7 = 128 from rfl, e5, hp]

end Go.VC
