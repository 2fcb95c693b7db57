/- The encoding of numbers by bytes of seven bits. No program here. -/
import Derived.Test.YtlobkadfmgnlmaaWd
import Derived.Test.YtlobkadfmgnlmaaMs
namespace Go.VC
open Go

def encF : Nat → Nat → List UInt8
  | 0, _ => []
  | f + 1, v => if v < 128 then [UInt8.ofNat v] else UInt8.ofNat (v % 128 + 128) :: encF f (v / 128)
/-- The bytes of a number: seven bits each, the lowest first; all but the last are 128 or more. -/
def enc (v : Nat) : List UInt8 := encF 10 v
theorem encF_more : ∀ (f v : Nat), v < 128 ^ f → 0 < f → ∀ g, f ≤ g → encF g v = encF f v
  | 0, _, _, h, _, _ => by omega
  | f + 1, v, hv, _, g, hg => by
    obtain ⟨g', rfl⟩ : ∃ g', g = g' + 1 := ⟨g - 1, by omega⟩
    simp only [encF]
    split
    · rfl
    · rename_i h
      rw [Nat.pow_succ] at hv
      have hf : 0 < f := by
        rcases Nat.eq_zero_or_pos f with rfl | h0
        · simp at hv; omega
        · exact h0
      rw [encF_more f (v / 128) (by omega) hf g' (by omega)]
theorem enc_lt {v : Nat} (h : v < 128) : enc v = [UInt8.ofNat v] := by unfold enc; simp [encF, h]
theorem enc_ge {v : Nat} (h : 128 ≤ v) (hv : v < 18446744073709551616) : enc v = UInt8.ofNat (v % 128 + 128) :: enc (v / 128) := by
  have e : encF 10 (v / 128) = encF 9 (v / 128) := encF_more 9 (v / 128) (by simp only [Nat.reducePow]; omega) (by omega) 10 (by omega)
  unfold enc
  rw [e, show (10 : Nat) = 9 + 1 from rfl, encF, if_neg (by omega)]
theorem encF_len : ∀ (f v : Nat), (encF f v).length ≤ f
  | 0, _ => by simp [encF]
  | f + 1, v => by
    simp only [encF]
    split
    · simp
    · have := encF_len f (v / 128); simp; omega
theorem enc_len (v : Nat) : (enc v).length ≤ 10 := encF_len 10 v

theorem or128 : ∀ x : Fin 256, x.val ||| 128 = x.val % 128 + 128 := by decide +kernel
theorem byte_or (v : Nat) : bOr .u8 (IntKind.u8.wrap (v : Int)) 128 = ((v % 128 + 128 : Nat) : Int) := by
  rw [wu8', show (v : Int) % 256 = ((v % 256 : Nat) : Int) by omega, show (128 : Int) = ((128 : Nat) : Int) from rfl, or_u8 (by omega) (by omega), or128 ⟨v % 256, by omega⟩]
  simp only
  omega
theorem V8_of {n : Nat} (h : n < 256) : V8 (UInt8.ofNat n) = .int .u8 (n : Int) := by
  unfold V8
  rw [UInt8.toNat_ofNat_of_lt' (by simpa [UInt8.size] using h)]

theorem xor_ones {x : Nat} (hx : x < 18446744073709551616) : x ^^^ 18446744073709551615 = 18446744073709551615 - x := by
  have h := congrArg BitVec.toNat (BitVec.xor_allOnes (x := BitVec.ofNat 64 x))
  rw [BitVec.toNat_xor, BitVec.toNat_not, BitVec.toNat_ofNat, Nat.mod_eq_of_lt (by simpa using hx)] at h
  simpa using h

/-- A number with its sign as the lowest bit. -/
def zig (n : Int) : Nat := if 0 ≤ n then (2 * n).toNat else (-2 * n - 1).toNat
theorem zig_lt {n : Int} (h : -9223372036854775808 ≤ n ∧ n ≤ 9223372036854775807) : zig n < 18446744073709551616 := by unfold zig; split <;> omega
theorem zig_eq {n : Int} (h : -9223372036854775808 ≤ n ∧ n ≤ 9223372036854775807) : bXor .u64 (shL .u64 (IntKind.u64.wrap n) 1) (IntKind.u64.wrap (shR .i64 n 63)) = (zig n : Int) := by
  by_cases h0 : 0 ≤ n
  · obtain ⟨k, rfl⟩ : ∃ k : Nat, n = k := ⟨n.toNat, by omega⟩
    have e1 : shR .i64 (k : Int) 63 = 0 := by
      unfold shR
      rw [Int.fdiv_eq_ediv_of_nonneg _ (Int.pow_nonneg (by omega))]
      exact Int.ediv_eq_zero_of_lt (by omega) (by
        have : (2 : Int) ^ min (63 : Int).toNat IntKind.i64.bits = 9223372036854775808 := rfl
        omega)
    rw [e1, wu64 (x := (k : Int)) ⟨by omega, by omega⟩, show (1 : Int) = ((1 : Nat) : Int) from rfl, shl_u64, wu64 (x := 0) ⟨by omega, by omega⟩, show (0 : Int) = ((0 : Nat) : Int) from rfl, xor_u64 (Nat.mod_lt _ (by omega)) (by omega), Nat.xor_zero, Nat.shiftLeft_eq]
    unfold zig
    rw [if_pos h0]
    omega
  · obtain ⟨k, rfl⟩ : ∃ k : Nat, n = -(k : Int) - 1 := ⟨(-n - 1).toNat, by omega⟩
    have e1 : shR .i64 (-(k : Int) - 1) 63 = -1 := by
      unfold shR
      rw [Int.fdiv_eq_ediv_of_nonneg _ (Int.pow_nonneg (by omega))]
      have : (2 : Int) ^ min (63 : Int).toNat IntKind.i64.bits = 9223372036854775808 := rfl
      rw [this]
      omega
    rw [e1, wu64' (-1), show (-1 : Int) % 18446744073709551616 = ((18446744073709551615 : Nat) : Int) from rfl, wu64', show (-(k : Int) - 1) % 18446744073709551616 = ((18446744073709551615 - k : Nat) : Int) by omega,
      show (1 : Int) = ((1 : Nat) : Int) from rfl, shl_u64, xor_u64 (Nat.mod_lt _ (by omega)) (by omega), xor_ones (Nat.mod_lt _ (by omega)), Nat.shiftLeft_eq]
    unfold zig
    split <;> omega
end Go.VC
