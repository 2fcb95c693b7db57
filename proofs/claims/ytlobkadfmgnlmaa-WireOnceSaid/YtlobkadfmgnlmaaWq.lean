/- What the readers compute: the reader of the program and the plain one, over the bytes that are left and the error. -/
import Derived.Test.YtlobkadfmgnlmaaWi
import Derived.Test.YtlobkadfmgnlmaaDc
namespace Go.VC
open Go
theorem bs8_at {s : List UInt8} {i : Nat} (h : i < s.length) : ∃ c : UInt8, (bs8 s)[((i : Nat) : Int).toNat]? = some c ∧ c.toNat = bt s i := by
  refine ⟨s[i], ?_, ?_⟩
  · rw [Int.toNat_natCast, bs8_get, List.getElem?_eq_getElem h]
  · exact bt_get (List.getElem?_eq_getElem h)
theorem and127 {c : Nat} (h : c < 256) : bAnd .u8 (c : Int) 127 = ((c % 128 : Nat) : Int) := by
  rw [show (127 : Int) = ((127 : Nat) : Int) from rfl, and_u8 h (by omega), show (127 : Nat) = 2 ^ 7 - 1 from rfl, Nat.and_two_pow_sub_one_eq_mod]
theorem pow7 (m : Nat) : 2 ^ (7 * m) = 128 ^ m := by rw [Nat.pow_mul]
theorem orstep {v d m : Nat} (hv : v < 128 ^ m) (hd : d * 128 ^ m < 18446744073709551616) (hv2 : v < 18446744073709551616) : bOr .u64 (v : Int) (shL .u64 (d : Int) ((7 * m : Nat) : Int)) = ((v + d * 128 ^ m : Nat) : Int) := by
  rw [shl_u64, or_u64 hv2 (Nat.mod_lt _ (by omega)), Nat.shiftLeft_eq, pow7, Nat.mod_eq_of_lt hd]
  congr 1
  rw [← pow7] at hv ⊢
  rw [Nat.or_comm, Nat.mul_comm d, ← Nat.two_pow_add_eq_or_of_lt hv]
  omega
theorem str_beq (a b : List UInt8) : ((bs8 a).toList == (bs8 b).toList) = decide (a = b) := by
  unfold bs8
  rw [ByteArray.toList_mk, ByteArray.toList_mk]
  by_cases h : a = b
  · subst h; simp
  · simp [h]
theorem drop_extract (s : List UInt8) (n : Nat) : (bs8 s).extract n (bs8 s).size = bs8 (s.drop n) := by
  rw [bs8_extract, bs8_size, List.take_of_length_le (by simp)]
theorem take_extract (s : List UInt8) (n : Nat) : (bs8 s).extract 0 n = bs8 (s.take n) := by
  rw [bs8_extract]; simp
end Go.VC

namespace Go.Proofs.Ytlobkadfmgnlmaa.V
open Go Go.VC
variable {w w' w0 : World} {r x : Nat} {rest : List UInt8} {bad : Nat}

/-! ### the number at the start of some bytes -/
theorem number (w : World) (s : List UInt8) (hs : s.length ≤ 1099511627776) : Is 71 #[.string (bs8 s)] w (.tuple #[.int .u64 ((dec s).1 : Nat), .int .i64 ((dec s).2.1 : Nat), .int .i64 ((dec s).2.2 : Nat)]) := by
  refine c71 _ _ _ ?_
  unfold B71
  rw [bs8_size]
  refine ⟨fun v i w' => w' = w ∧ ∃ m : Nat, i = m ∧ m ≤ 10 ∧ Cont s m ∧ (m ≤ 9 → v = (hi s 0 m : Int)), fun _ i _ => (10 - i).toNat, ⟨rfl, 0, rfl, by omega, fun j hj => by omega, fun _ => rfl⟩, ?_⟩
  rintro v i w1 ⟨rfl, m, rfl, hm, hc, hv⟩
  refine br_dec (fun h1 => br_dec (fun h2 => ?_) (fun h2 => ?_)) (fun h1 => ?_)
  · have hk : kOf s = m := kOf_eq hm hc (fun _ => by omega)
    rw [dec_of hk, if_neg (by omega), if_pos (by omega)]
    exact ⟨rfl, rfl⟩
  · have hml : m < s.length := by
      rcases Nat.eq_zero_or_pos m with e | e
      · omega
      · have := (hc (m - 1) (by omega)).1; omega
    obtain ⟨c, hget, hcb⟩ := bs8_at hml
    have hb := bt_lt s m
    have hlt := hi_lt s m 0
    have hp9 : 128 ^ m ≤ 128 ^ 9 := Nat.pow_le_pow_right (by omega) (by omega)
    have e1 : IntKind.u64.wrap (bAnd .u8 (c.toNat : Int) 127) = ((bt s m % 128 : Nat) : Int) := by
      rw [hcb, and127 hb, wu64 ⟨by omega, by omega⟩]
    have e2 : IntKind.u64.wrap (IntKind.i64.wrap (7 * (m : Int))) = ((7 * m : Nat) : Int) := by
      rw [w64 ⟨by omega, by omega⟩, wu64 ⟨by omega, by omega⟩]; omega
    have e3 : IntKind.i64.wrap ((m : Int) + 1) = ((m + 1 : Nat) : Int) := by rw [w64 ⟨by omega, by omega⟩]; omega
    refine ⟨c, by omega, hget, by rw [e2]; omega, c, by omega, hget, ?_⟩
    rw [e1, e2, e3, hv (by omega)]
    simp only [Nat.reducePow] at hp9
    have stp : (m ≤ 8 ∨ bt s m ≤ 1) → bOr .u64 ((hi s 0 m : Nat) : Int) (shL .u64 ((bt s m % 128 : Nat) : Int) ((7 * m : Nat) : Int)) = ((hi s 0 (m + 1) : Nat) : Int) := by
      intro hh
      rw [hi_snoc, Nat.zero_add]
      refine orstep hlt ?_ (by omega)
      rcases hh with hh | hh
      · have h8 : 128 ^ m ≤ 128 ^ 8 := Nat.pow_le_pow_right (by omega) hh
        have := Nat.mul_le_mul (show bt s m % 128 ≤ 127 by omega) h8
        simp only [Nat.reducePow] at this; omega
      · have := Nat.mul_le_mul (show bt s m % 128 ≤ 1 by omega) (show 128 ^ m ≤ 9223372036854775808 by omega)
        omega
    refine br_dec (fun h3 => ⟨⟨rfl, m + 1, rfl, by omega, hc.succ hml (by omega), fun h9 => stp (.inl (by omega))⟩, by dsimp only; omega⟩) (fun h3 => ?_)
    have hk : kOf s = m := kOf_eq hm hc (fun _ => by omega)
    have hd := dec_of hk
    rw [if_neg (by omega), if_neg (by omega)] at hd
    have bad : ((m = 9 ∧ 1 < bt s 9) ∨ (0 < m ∧ bt s m = 0)) → (Value.tuple #[.int .u64 0, .int .i64 0, .int .i64 3]) = .tuple #[.int .u64 ((dec s).1 : Nat), .int .i64 ((dec s).2.1 : Nat), .int .i64 ((dec s).2.2 : Nat)] ∧ w1 = w1 := fun h => by
      rw [hd, if_pos h]; exact ⟨rfl, rfl⟩
    have good : ¬ ((m = 9 ∧ 1 < bt s 9) ∨ (0 < m ∧ bt s m = 0)) → (Value.tuple #[.int .u64 (bOr .u64 ((hi s 0 m : Nat) : Int) (shL .u64 ((bt s m % 128 : Nat) : Int) ((7 * m : Nat) : Int))), .int .i64 ((m + 1 : Nat) : Int), .int .i64 0]) = .tuple #[.int .u64 ((dec s).1 : Nat), .int .i64 ((dec s).2.1 : Nat), .int .i64 ((dec s).2.2 : Nat)] ∧ w1 = w1 := fun h => by
      rw [hd, if_neg h, stp]
      · exact ⟨rfl, rfl⟩
      · by_cases e : m = 9
        · subst e; right; omega
        · left; omega
    have tl : (m = 9 → ¬ 1 < bt s 9) → br (decide ((0 : Int) < m)) (∃ c9 : UInt8, 0 ≤ (m : Int) ∧ (bs8 s)[((m : Nat) : Int).toNat]? = some c9 ∧ br (decide ((UInt8.toNat c9 : Int) = (0 : Int))) ((Value.tuple #[.int .u64 0, .int .i64 0, .int .i64 3]) = .tuple #[.int .u64 ((dec s).1 : Nat), .int .i64 ((dec s).2.1 : Nat), .int .i64 ((dec s).2.2 : Nat)] ∧ w1 = w1)
        ((Value.tuple #[.int .u64 (bOr .u64 ((hi s 0 m : Nat) : Int) (shL .u64 ((bt s m % 128 : Nat) : Int) ((7 * m : Nat) : Int))), .int .i64 ((m + 1 : Nat) : Int), .int .i64 0]) = .tuple #[.int .u64 ((dec s).1 : Nat), .int .i64 ((dec s).2.1 : Nat), .int .i64 ((dec s).2.2 : Nat)] ∧ w1 = w1))
        ((Value.tuple #[.int .u64 (bOr .u64 ((hi s 0 m : Nat) : Int) (shL .u64 ((bt s m % 128 : Nat) : Int) ((7 * m : Nat) : Int))), .int .i64 ((m + 1 : Nat) : Int), .int .i64 0]) = .tuple #[.int .u64 ((dec s).1 : Nat), .int .i64 ((dec s).2.1 : Nat), .int .i64 ((dec s).2.2 : Nat)] ∧ w1 = w1) := fun h9 =>
      br_dec (fun h4 => ⟨c, by omega, hget, br_dec (fun h5 => bad (.inr ⟨by omega, by omega⟩)) (fun h5 => good (by rintro (⟨a, b⟩ | ⟨a, b⟩); exact h9 a b; omega))⟩) (fun h4 => good (by rintro (⟨a, b⟩ | ⟨a, b⟩); exact h9 a b; omega))
    refine br_dec (fun h4 => ⟨c, by omega, hget, br_dec (fun h5 => bad (.inl ⟨by omega, ?_⟩)) (fun h5 => tl fun e => ?_)⟩) (fun h4 => tl fun e => by omega)
    · have : m = 9 := by omega
      subst this; omega
    · subst e; omega
  · have hm10 : m = 10 := by omega
    subst hm10
    have hk : kOf s = 10 := kOf_eq hm hc (fun h => by omega)
    rw [dec_of hk, if_pos rfl]
    exact ⟨rfl, rfl⟩

/-- The value, from the last byte back. -/
def LoopV (s : ByteArray) (x3 : Int) (w4 : World) (R : Value → World → Prop) : Prop :=
  ∃ (I8 : Int → Int → World → Prop) (μ9 : Int → Int → World → Nat), I8 (0 : Int) x3 w4 ∧ ∀ x10 : Int, ∀ x11 : Int, ∀ w12 : World, I8 x10 x11 w12 →
    br (decide ((0 : Int) ≤ x11)) (∃ c13 : UInt8, 0 ≤ x11 ∧ s[x11.toNat]? = some c13 ∧ (128 : Int) ≠ 0 ∧
    I8 (IntKind.u64.wrap ((IntKind.u64.wrap (x10 * 128)) + (IntKind.u64.wrap (Int.tmod (UInt8.toNat c13 : Int) 128)))) (IntKind.i64.wrap (x11 - 1)) w12 ∧
    μ9 (IntKind.u64.wrap ((IntKind.u64.wrap (x10 * 128)) + (IntKind.u64.wrap (Int.tmod (UInt8.toNat c13 : Int) 128)))) (IntKind.i64.wrap (x11 - 1)) w12 < μ9 x10 x11 w12) (R (.tuple #[.int .u64 x10, .int .i64 (IntKind.i64.wrap (x3 + 1)), .int .i64 0]) w12)
theorem hi_mono (s : List UInt8) : ∀ (i n : Nat), hi s i n ≤ hi s 0 (i + n)
  | 0, n => by simp
  | i + 1, n => by
    have h := hi_mono s i (n + 1)
    rw [show i + 1 + n = i + (n + 1) by omega]
    simp only [hi] at h ⊢
    omega
theorem loopV {s : List UInt8} {k : Nat} (hk : k < s.length) (hk2 : k ≤ 10) (hlt : hi s 0 (k + 1) < 18446744073709551616) (w : World) {R : Value → World → Prop}
    (h : R (.tuple #[.int .u64 ((hi s 0 (k + 1) : Nat) : Int), .int .i64 ((k + 1 : Nat) : Int), .int .i64 0]) w) : LoopV (bs8 s) k w R := by
  unfold LoopV
  have e3 : IntKind.i64.wrap ((k : Int) + 1) = ((k + 1 : Nat) : Int) := by rw [w64 ⟨by omega, by omega⟩]; omega
  rw [e3]
  refine ⟨fun v i w' => w' = w ∧ ∃ m : Nat, i = (m : Int) - 1 ∧ m ≤ k + 1 ∧ v = (hi s m (k + 1 - m) : Int), fun _ i _ => (i + 1).toNat, ⟨rfl, k + 1, by omega, by omega, by simp [hi]⟩, ?_⟩
  rintro v i w1 ⟨rfl, m, rfl, hm, rfl⟩
  refine br_dec (fun h1 => ?_) (fun h1 => ?_)
  · obtain ⟨q, rfl⟩ : ∃ q, m = q + 1 := ⟨m - 1, by omega⟩
    have eq : ((q + 1 : Nat) : Int) - 1 = (q : Int) := by omega
    rw [eq]
    obtain ⟨c, hget, hcb⟩ := bs8_at (show q < s.length by omega)
    have hb := bt_lt s q
    have hmo := hi_mono s q (k + 1 - q)
    rw [show q + (k + 1 - q) = k + 1 by omega] at hmo
    have hst : hi s q (k + 1 - q) = bt s q % 128 + 128 * hi s (q + 1) (k + 1 - (q + 1)) := by
      rw [show k + 1 - q = (k + 1 - (q + 1)) + 1 by omega, hi]
    refine ⟨c, by omega, hget, by omega, ⟨rfl, q, by rw [w64 ⟨by omega, by omega⟩], by omega, ?_⟩, by dsimp only; rw [w64 ⟨by omega, by omega⟩]; omega⟩
    rw [hcb, Int.tmod_eq_emod_of_nonneg (by omega), wu64 (x := ((bt s q : Nat) : Int) % 128) ⟨by omega, by omega⟩, wu64 (x := ((hi s (q + 1) (k + 1 - (q + 1)) : Nat) : Int) * 128) ⟨by omega, by omega⟩, wu64 ⟨by omega, by omega⟩]
    omega
  · obtain rfl : m = 0 := by omega
    exact h

theorem first (w : World) (s : List UInt8) : Is 88 #[.string (bs8 s)] w (.tuple #[.int .u64 ((dec s).1 : Nat), .int .i64 ((dec s).2.1 : Nat), .int .i64 ((dec s).2.2 : Nat)]) := by
  refine c88 _ _ _ ?_
  unfold B88
  rw [bs8_size]
  refine ⟨fun i w' => w' = w ∧ ∃ m : Nat, i = m ∧ m ≤ 10 ∧ Cont s m, fun i _ => (10 - i).toNat, ⟨rfl, 0, rfl, by omega, fun j hj => by omega⟩, ?_⟩
  rintro i w1 ⟨rfl, m, rfl, hm, hc⟩
  have e3 : IntKind.i64.wrap ((m : Int) + 1) = ((m + 1 : Nat) : Int) := by rw [w64 ⟨by omega, by omega⟩]; omega
  -- behind the loop
  have tail : (m < 10 → ¬ (m < s.length ∧ 128 ≤ bt s m)) → br (decide ((m : Int) = (10 : Int))) ((Value.tuple #[.int .u64 0, .int .i64 0, .int .i64 3]) = .tuple #[.int .u64 ((dec s).1 : Nat), .int .i64 ((dec s).2.1 : Nat), .int .i64 ((dec s).2.2 : Nat)] ∧ w1 = w1)
      (br (decide ((m : Int) = (s.length : Int))) ((Value.tuple #[.int .u64 0, .int .i64 0, .int .i64 2]) = .tuple #[.int .u64 ((dec s).1 : Nat), .int .i64 ((dec s).2.1 : Nat), .int .i64 ((dec s).2.2 : Nat)] ∧ w1 = w1)
      (br (decide ((m : Int) = (9 : Int))) (∃ c6 : UInt8, 0 ≤ (m : Int) ∧ (bs8 s)[((m : Nat) : Int).toNat]? = some c6 ∧ br (decide ((1 : Int) < (UInt8.toNat c6 : Int))) ((Value.tuple #[.int .u64 0, .int .i64 0, .int .i64 3]) = .tuple #[.int .u64 ((dec s).1 : Nat), .int .i64 ((dec s).2.1 : Nat), .int .i64 ((dec s).2.2 : Nat)] ∧ w1 = w1)
        (br (decide ((0 : Int) < (m : Int))) (∃ c7 : UInt8, 0 ≤ (m : Int) ∧ (bs8 s)[((m : Nat) : Int).toNat]? = some c7 ∧ br (decide ((UInt8.toNat c7 : Int) = (0 : Int))) ((Value.tuple #[.int .u64 0, .int .i64 0, .int .i64 3]) = .tuple #[.int .u64 ((dec s).1 : Nat), .int .i64 ((dec s).2.1 : Nat), .int .i64 ((dec s).2.2 : Nat)] ∧ w1 = w1)
          (LoopV (bs8 s) m w1 fun u w' => u = .tuple #[.int .u64 ((dec s).1 : Nat), .int .i64 ((dec s).2.1 : Nat), .int .i64 ((dec s).2.2 : Nat)] ∧ w' = w1))
          (LoopV (bs8 s) m w1 fun u w' => u = .tuple #[.int .u64 ((dec s).1 : Nat), .int .i64 ((dec s).2.1 : Nat), .int .i64 ((dec s).2.2 : Nat)] ∧ w' = w1)))
        (br (decide ((0 : Int) < (m : Int))) (∃ c7 : UInt8, 0 ≤ (m : Int) ∧ (bs8 s)[((m : Nat) : Int).toNat]? = some c7 ∧ br (decide ((UInt8.toNat c7 : Int) = (0 : Int))) ((Value.tuple #[.int .u64 0, .int .i64 0, .int .i64 3]) = .tuple #[.int .u64 ((dec s).1 : Nat), .int .i64 ((dec s).2.1 : Nat), .int .i64 ((dec s).2.2 : Nat)] ∧ w1 = w1)
          (LoopV (bs8 s) m w1 fun u w' => u = .tuple #[.int .u64 ((dec s).1 : Nat), .int .i64 ((dec s).2.1 : Nat), .int .i64 ((dec s).2.2 : Nat)] ∧ w' = w1))
          (LoopV (bs8 s) m w1 fun u w' => u = .tuple #[.int .u64 ((dec s).1 : Nat), .int .i64 ((dec s).2.1 : Nat), .int .i64 ((dec s).2.2 : Nat)] ∧ w' = w1)))) := by
    intro hk0
    have hk : kOf s = m := kOf_eq hm hc hk0
    have hkl := kOf_le s
    have hfit := dec_fit s
    have hd := dec_of hk
    refine br_dec (fun h1 => ?_) (fun h1 => br_dec (fun h2 => ?_) (fun h2 => ?_))
    · rw [hd, if_pos (by omega)]; exact ⟨rfl, rfl⟩
    · rw [hd, if_neg (by omega), if_pos (by omega)]; exact ⟨rfl, rfl⟩
    rw [if_neg (by omega), if_neg (by omega)] at hd
    have hml : m < s.length := by omega
    obtain ⟨c, hget, hcb⟩ := bs8_at hml
    have bad : ((m = 9 ∧ 1 < bt s 9) ∨ (0 < m ∧ bt s m = 0)) → (Value.tuple #[.int .u64 0, .int .i64 0, .int .i64 3]) = .tuple #[.int .u64 ((dec s).1 : Nat), .int .i64 ((dec s).2.1 : Nat), .int .i64 ((dec s).2.2 : Nat)] ∧ w1 = w1 := fun h => by
      rw [hd, if_pos h]; exact ⟨rfl, rfl⟩
    have good : ¬ ((m = 9 ∧ 1 < bt s 9) ∨ (0 < m ∧ bt s m = 0)) → LoopV (bs8 s) m w1 fun u w' => u = .tuple #[.int .u64 ((dec s).1 : Nat), .int .i64 ((dec s).2.1 : Nat), .int .i64 ((dec s).2.2 : Nat)] ∧ w' = w1 := fun h => by
      rw [if_neg h] at hd
      rw [hd] at hfit
      refine loopV hml hm hfit.1 w1 ?_
      rw [hd]; exact ⟨rfl, rfl⟩
    have tl : (m = 9 → ¬ 1 < bt s 9) → br (decide ((0 : Int) < (m : Int))) (∃ c7 : UInt8, 0 ≤ (m : Int) ∧ (bs8 s)[((m : Nat) : Int).toNat]? = some c7 ∧ br (decide ((UInt8.toNat c7 : Int) = (0 : Int))) ((Value.tuple #[.int .u64 0, .int .i64 0, .int .i64 3]) = .tuple #[.int .u64 ((dec s).1 : Nat), .int .i64 ((dec s).2.1 : Nat), .int .i64 ((dec s).2.2 : Nat)] ∧ w1 = w1)
          (LoopV (bs8 s) m w1 fun u w' => u = .tuple #[.int .u64 ((dec s).1 : Nat), .int .i64 ((dec s).2.1 : Nat), .int .i64 ((dec s).2.2 : Nat)] ∧ w' = w1))
          (LoopV (bs8 s) m w1 fun u w' => u = .tuple #[.int .u64 ((dec s).1 : Nat), .int .i64 ((dec s).2.1 : Nat), .int .i64 ((dec s).2.2 : Nat)] ∧ w' = w1) := fun h9 =>
      br_dec (fun h4 => ⟨c, by omega, hget, br_dec (fun h5 => bad (.inr ⟨by omega, by omega⟩)) (fun h5 => good (by rintro (⟨a, b⟩ | ⟨a, b⟩); exact h9 a b; omega))⟩) (fun h4 => good (by rintro (⟨a, b⟩ | ⟨a, b⟩); exact h9 a b; omega))
    refine br_dec (fun h4 => ⟨c, by omega, hget, br_dec (fun h5 => bad (.inl ⟨by omega, ?_⟩)) (fun h5 => tl fun e => ?_)⟩) (fun h4 => tl fun e => by omega)
    · have : m = 9 := by omega
      subst this; omega
    · subst e; omega
  refine br_dec (fun h1 => br_dec (fun h2 => ?_) (fun h2 => tail (fun _ => by omega))) (fun h1 => tail (fun _ => by omega))
  obtain ⟨c, hget, hcb⟩ := bs8_at (show m < s.length by omega)
  refine ⟨c, by omega, hget, br_dec (fun h3 => ?_) (fun h3 => tail (fun _ => by omega))⟩
  rw [e3]
  exact ⟨⟨rfl, m + 1, rfl, by omega, hc.succ (by omega) (by omega)⟩, by dsimp only; omega⟩
end Go.Proofs.Ytlobkadfmgnlmaa.V
