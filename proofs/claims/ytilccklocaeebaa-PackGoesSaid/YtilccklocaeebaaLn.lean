/- What the functions of the lane chapter compute: the words' own functions and the plain ones they are held against. -/
import Derived.Test.YtilccklocaeebaaBL
import Derived.Test.YtilccklocaeebaaWd
import Derived.Lib.BitFns
namespace Go.VC
open Go

/-- A place within the word's 64. -/
def clampW (p : Int) : Nat := (min (max p 0) 64).toNat
theorem clampW_le (p : Int) : clampW p ≤ 64 := by unfold clampW; omega
/-- The bit at a place; outside of the word there is none. -/
def bitZ (x : Nat) (i : Int) : Bool := decide (0 ≤ i) && x.testBit i.toNat

theorem mod_two_pow_lt64 (x k : Nat) (hk : k ≤ 64) : x % 2 ^ k < 18446744073709551616 :=
  Nat.lt_of_lt_of_le (Nat.mod_lt _ (Nat.two_pow_pos k)) (by
    have : 2 ^ k ≤ 2 ^ 64 := Nat.pow_le_pow_right (by omega) hk
    simpa using this)
theorem pc_mod (x k : Nat) (hk : k ≤ 64) : pc (x % 2 ^ k) = cnt x.testBit k := by
  unfold pc
  obtain ⟨j, hj⟩ : ∃ j, 64 = k + j := ⟨64 - k, by omega⟩
  rw [hj, cnt_add]
  have h1 : cnt (x % 2 ^ k).testBit k = cnt x.testBit k := cnt_congr fun i hi => by simp [Nat.testBit_mod_two_pow, hi]
  have h2 : cnt (fun i => (x % 2 ^ k).testBit (k + i)) j = 0 := by
    rw [cnt_congr (q := fun _ => false) (fun i _ => by simp only [Nat.testBit_mod_two_pow]; simp; omega)]
    exact cnt_false _
  omega
theorem and_mask (x k : Nat) : x &&& (2 ^ k - 1) = x % 2 ^ k := Nat.and_two_pow_sub_one_eq_mod x k
theorem cnt_shift (x a k : Nat) : cnt (x >>> a).testBit k = cnt (fun i => x.testBit (a + i)) k :=
  cnt_congr fun _ _ => Nat.testBit_shiftRight x
theorem cnt_find (p : Nat → Bool) : ∀ (n m : Nat), m < cnt p n → ∃ a, a < n ∧ p a = true ∧ cnt p a = m
  | 0, _, h => absurd h (by simp [cnt])
  | n + 1, m, h => by
    by_cases h2 : m < cnt p n
    · obtain ⟨a, ha, hb, hc⟩ := cnt_find p n m h2
      exact ⟨a, by omega, hb, hc⟩
    · simp only [cnt] at h
      by_cases hp : p n = true
      · rw [if_pos hp] at h
        exact ⟨n, by omega, hp, by omega⟩
      · rw [if_neg hp] at h
        omega
/-- Where the n-th one stands. -/
def SelP (x : Nat) (n r : Int) : Prop :=
  (r = -1 ∧ (n < 0 ∨ (pc x : Int) ≤ n)) ∨ ∃ a : Nat, r = a ∧ a < 64 ∧ x.testBit a = true ∧ (cnt x.testBit a : Int) = n
theorem cnt_lt {p : Nat → Bool} {a b : Nat} (ha : p a = true) (h : a < b) : cnt p a < cnt p b := by
  have h1 : cnt p (a + 1) = cnt p a + 1 := by simp [cnt, ha]
  have := cnt_mono p (m := a + 1) (n := b) (by omega)
  omega
theorem SelP.one {x : Nat} {n r s : Int} (h : SelP x n r) (g : SelP x n s) : r = s := by
  rcases h with ⟨rfl, h⟩ | ⟨a, rfl, ha, hb, hc⟩ <;> rcases g with ⟨rfl, g⟩ | ⟨b, rfl, ga, gb, gc⟩
  · rfl
  · have := cnt_lt gb ga; unfold pc at h; omega
  · have := cnt_lt hb ha; unfold pc at g; omega
  · rcases Nat.lt_trichotomy a b with h | h | h
    · have := cnt_lt hb h; omega
    · rw [h]
    · have := cnt_lt gb h; omega

theorem tb_div (x i : Nat) : x.testBit i = decide (x / 2 ^ i % 2 = 1) := by
  rw [Nat.testBit_eq_decide_div_mod_eq]
end Go.VC

namespace Go.Proofs.Ytilccklocaeebaa.V
open Go Go.VC

/-- The call answers this and leaves the world as it was. -/
abbrev Is (f : Nat) (args : Array Value) (w : World) (v : Value) : Prop := Calls Try.prog f args w (Rv fun u w' => u = v ∧ w' = w)
theorem usei {f : Nat} {args : Array Value} {w : World} {v : Value} {R : Value → World → Prop} (h : Is f args w v) (k : R v w) : Calls Try.prog f args w (Rv R) :=
  use h (by rintro _ _ ⟨rfl, rfl⟩; exact k)

theorem ones64 (w : World) (x : Nat) (hx : x < 18446744073709551616) : Is 72 #[.int .u64 x] w (.int .i64 (pc x)) := by
  refine c72 _ _ _ ?_
  unfold B72
  refine ⟨by omega, by omega, by omega, by omega, by omega, by omega, ?_⟩
  obtain ⟨_, _, _, _, q1, q2, q3, q4, q5, q6, q7⟩ := swarI x hx
  rw [q1, q2, q3, q4, q5, q6, q7]
  exact ⟨rfl, rfl⟩
theorem within (w : World) (p : Int) : Is 79 #[.int .i64 p] w (.int .i64 (clampW p)) := by
  refine c79 _ _ _ ?_
  unfold B79
  have : min (max p 0) 64 = (clampW p : Int) := by unfold clampW; omega
  rw [this]
  exact ⟨rfl, rfl⟩

theorem mask (w : World) (p : Int) : Is 75 #[.int .i64 p] w (.int .u64 ((2 ^ clampW p - 1 : Nat) : Int)) := by
  refine c75 _ _ _ ?_
  unfold B75
  refine usei (within w p) ⟨_, rfl, ?_⟩
  have hk := clampW_le p
  generalize clampW p = k at *
  refine br_dec (fun h => ?_) (fun h => ?_)
  · have : k = 64 := by omega
    subst this
    exact ⟨rfl, rfl⟩
  · rw [wu64 ⟨by omega, by omega⟩]
    refine ⟨by omega, ?_⟩
    have h2 : (2 : Nat) ^ k < 18446744073709551616 := by
      have : (2 : Nat) ^ k < 2 ^ 64 := Nat.pow_lt_pow_right (by omega) (by omega)
      omega
    have h3 := Nat.two_pow_pos k
    have h4 : shL .u64 1 (k : Int) = ((2 ^ k : Nat) : Int) := by
      have := shl_u64 1 k
      rw [Nat.shiftLeft_eq, Nat.one_mul, Nat.mod_eq_of_lt h2] at this
      exact this
    rw [h4, show ((2 ^ k : Nat) : Int) - 1 = ((2 ^ k - 1 : Nat) : Int) by omega, wu64 ⟨by omega, by omega⟩]
    exact ⟨rfl, rfl⟩

theorem ones (w : World) (x : Nat) (hx : x < 18446744073709551616) : Is 46 #[.int .u64 x] w (.int .i64 (pc x)) := by
  refine c46 _ _ _ ?_
  unfold B46
  exact usei (ones64 w x hx) ⟨_, rfl, rfl, rfl⟩

theorem mask_lt (k : Nat) (hk : k ≤ 64) : 2 ^ k - 1 < 18446744073709551616 := by
  have : (2 : Nat) ^ k ≤ 2 ^ 64 := Nat.pow_le_pow_right (by omega) hk
  have : 0 < (2 : Nat) ^ k := Nat.two_pow_pos k
  omega
theorem low (x p : Nat) (hx : x < 18446744073709551616) (hp : p ≤ 64) : bAnd .u64 (x : Int) ((2 ^ p - 1 : Nat) : Int) = ((x % 2 ^ p : Nat) : Int) := by
  rw [and_u64 hx (mask_lt p hp), and_mask]

theorem rank (w : World) (x : Nat) (hx : x < 18446744073709551616) (p : Int) : Is 50 #[.int .u64 x, .int .i64 p] w (.int .i64 (cnt x.testBit (clampW p))) := by
  refine c50 _ _ _ _ ?_
  unfold B50
  refine usei (mask w p) ⟨_, rfl, ?_⟩
  have hk := clampW_le p
  rw [low x _ hx hk]
  refine usei (ones64 w _ (mod_two_pow_lt64 x _ hk)) ⟨_, rfl, ?_⟩
  rw [pc_mod _ _ hk]
  exact ⟨rfl, rfl⟩

theorem rbit (w : World) (x : Nat) (hx : x < 18446744073709551616) (i : Int) : Is 73 #[.int .u64 x, .int .i64 i] w (.bool (bitZ x i)) := by
  refine c73 _ _ _ _ ?_
  unfold B73
  refine br_dec (fun h => ?_) (fun h => br_dec (fun h2 => ?_) (fun h2 => ?_))
  · refine ⟨?_, rfl⟩
    unfold bitZ
    simp [show ¬ 0 ≤ i by omega]
  · refine ⟨?_, rfl⟩
    unfold bitZ
    rw [tb_lt hx (by omega)]
    simp
  · obtain ⟨k, rfl⟩ : ∃ k : Nat, i = k := ⟨i.toNat, by omega⟩
    refine ⟨fun y j w' => w' = w ∧ ∃ m : Nat, j = m ∧ m ≤ k ∧ y = ((x / 2 ^ m : Nat) : Int), fun _ j _ => ((k : Int) - j).toNat, ⟨rfl, 0, rfl, by omega, by simp⟩, ?_⟩
    rintro y j w' ⟨rfl, m, rfl, hm, rfl⟩
    have hlt : x / 2 ^ m < 18446744073709551616 := Nat.lt_of_le_of_lt (Nat.div_le_self _ _) hx
    refine br_dec (fun h3 => ⟨by omega, ⟨rfl, m + 1, ?_, by omega, ?_⟩, ?_⟩) (fun h3 => ⟨by omega, ?_, rfl⟩)
    · rw [w64 ⟨by omega, by omega⟩]; omega
    · rw [Nat.pow_succ, ← Nat.div_div_eq_div_mul]
      generalize x / 2 ^ m = y at *
      rw [Int.tdiv_eq_ediv_of_nonneg (by omega), wu64 ⟨by omega, by omega⟩]
      omega
    · dsimp only; rw [w64 ⟨by omega, by omega⟩]; omega
    · have : m = k := by omega
      subst this
      unfold bitZ
      rw [Int.toNat_natCast, tb_div]
      generalize x / 2 ^ m = y at *
      rw [Int.tmod_eq_emod_of_nonneg (by omega)]
      simp
      omega

theorem shr_cast {x : Nat} (hx : x < 18446744073709551616) (a : Nat) (ha : a ≤ 64) : shR .u64 (x : Int) (IntKind.u64.wrap (a : Int)) = ((x >>> a : Nat) : Int) := by
  rw [wu64 ⟨by omega, by omega⟩, shr_u64 hx]
theorem shr_lt {x : Nat} (hx : x < 18446744073709551616) (a : Nat) : x >>> a < 18446744073709551616 :=
  Nat.lt_of_le_of_lt (by rw [Nat.shiftRight_eq_div_pow]; exact Nat.div_le_self _ _) hx

theorem select (w : World) (x : Nat) (hx : x < 18446744073709551616) (n : Int) :
    Calls Try.prog 69 #[.int .u64 x, .int .i64 n] w (Rv fun v w' => w' = w ∧ ∃ r : Int, v = .int .i64 r ∧ SelP x n r) := by
  refine c69 _ _ _ _ ?_
  unfold B69
  have hpc : pc x ≤ 64 := cnt_le _ _
  refine br_dec (fun h => ⟨rfl, _, rfl, .inl ⟨rfl, .inl h⟩⟩) (fun h => usei (ones64 w x hx) ⟨_, rfl, br_dec (fun h2 => ⟨rfl, _, rfl, .inl ⟨rfl, .inr h2⟩⟩) (fun h2 => ?_)⟩)
  refine ⟨fun m a d w' => w' = w ∧ ∃ a' d' : Nat, a = a' ∧ d = d' ∧ d' ≤ 32 ∧ (d' = 0 ∨ d' = 1 ∨ d' = 2 ∨ d' = 4 ∨ d' = 8 ∨ d' = 16 ∨ d' = 32) ∧ a' + (if d' = 0 then 1 else 2 * d') ≤ 64 ∧
      (m = n - cnt x.testBit a') ∧ (cnt x.testBit a' : Int) ≤ n ∧ n < (cnt x.testBit (a' + (if d' = 0 then 1 else 2 * d')) : Int), fun _ _ d _ => d.toNat,
    ⟨rfl, 0, 32, rfl, rfl, by omega, by omega, by decide, by simp [cnt], by simp [cnt]; omega, ?_⟩, ?_⟩
  · have : pc x = cnt x.testBit (0 + 2 * 32) := rfl
    rw [if_neg (by omega)]; omega
  · rintro m a d w' ⟨rfl, a, d, rfl, rfl, hd, hd2, had, rfl, hl, hr⟩
    refine br_dec (fun h3 => ?_) (fun h3 => ?_)
    · rw [if_neg (by omega)] at had hr
      have hk : clampW d = d := by unfold clampW; omega
      refine ⟨by rw [wu64 ⟨by omega, by omega⟩]; omega, usei (mask w' d) ⟨_, rfl, ?_⟩⟩
      rw [shr_cast hx a (by omega), hk, low _ _ (shr_lt hx a) (by omega)]
      refine usei (ones64 w' _ (mod_two_pow_lt64 _ _ (by omega))) ⟨_, rfl, ?_⟩
      rw [pc_mod _ _ (by omega), cnt_shift]
      have e1 := cnt_add x.testBit a d
      have e2 := cnt_le x.testBit (a + d)
      have e3 := cnt_le x.testBit a
      generalize hq : cnt (fun i => x.testBit (a + i)) d = q at *
      have hdd : Int.tdiv (d : Int) 2 = ((d / 2 : Nat) : Int) := by rw [Int.tdiv_eq_ediv_of_nonneg (by omega)]; omega
      rw [hdd, w64 (x := ((d / 2 : Nat) : Int)) ⟨by omega, by omega⟩]
      have hn : n < 64 := by omega
      refine br_dec (fun h4 => ⟨by omega, ⟨rfl, a + d, d / 2, ?_, rfl, by omega, by omega, ?_, ?_, ?_, ?_⟩, by dsimp only; omega⟩) (fun h4 => ⟨by omega, ⟨rfl, a, d / 2, rfl, rfl, by omega, by omega, ?_, rfl, hl, ?_⟩, by dsimp only; omega⟩)
      · rw [w64 ⟨by omega, by omega⟩]; omega
      · split <;> omega
      · rw [w64 ⟨by omega, by omega⟩]; omega
      · omega
      · have : a + d + (if d / 2 = 0 then 1 else 2 * (d / 2)) = a + 2 * d := by split <;> omega
        rw [this]; exact hr
      · split <;> omega
      · have : a + (if d / 2 = 0 then 1 else 2 * (d / 2)) = a + d := by split <;> omega
        rw [this]; omega
    · obtain rfl : d = 0 := by omega
      simp only [if_true] at had hr
      refine ⟨rfl, _, rfl, .inr ⟨a, rfl, by omega, ?_, ?_⟩⟩
      · by_cases hb : x.testBit a = true
        · exact hb
        · simp only [cnt, hb] at hr; simp at hr; omega
      · simp only [cnt] at hr; split at hr <;> omega

/-- The bits of a word from a place on, so many. -/
def cutW (x : Nat) (a b : Int) : Nat := ofB (fun i => bitZ x (a + i)) (clampW b)
theorem ofB_false (n : Nat) : ofB (fun _ => false) n = 0 := by
  induction n with
  | zero => rfl
  | succ n ih => simp [ofB, ih]
theorem ofB_of_testBit {m n : Nat} {p : Nat → Bool} (h : ∀ i, m.testBit i = (decide (i < n) && p i)) : m = ofB p n :=
  Nat.eq_of_testBit_eq fun i => by rw [h, testBit_ofB]

theorem rcut (w : World) (x : Nat) (hx : x < 18446744073709551616) (a b : Int) (_ha : -9223372036854775808 ≤ a ∧ a ≤ 9223372036854775807) :
    Is 48 #[.int .u64 x, .int .i64 a, .int .i64 b] w (.int .u64 (cutW x a b)) := by
  refine c48 _ _ _ _ _ ?_
  unfold B48
  refine ⟨fun v o i w' => w' = w ∧ ∃ m : Nat, i = m ∧ m ≤ clampW b ∧ v = (ofB (fun i => bitZ x (a + i)) m : Int) ∧ o = ((2 ^ m % 18446744073709551616 : Nat) : Int), fun _ _ i _ => (64 - i).toNat, ⟨rfl, 0, rfl, by omega, rfl, rfl⟩, ?_⟩
  rintro v o i w' ⟨rfl, m, rfl, hm, rfl, rfl⟩
  have hk := clampW_le b
  have hlt := ofB_lt (fun i => bitZ x (a + i)) m
  have ho : IntKind.u64.wrap (((2 ^ m % 18446744073709551616 : Nat) : Int) * 2) = ((2 ^ (m + 1) % 18446744073709551616 : Nat) : Int) := by
    rw [wu64', Nat.pow_succ]; omega
  refine br_dec (fun h => br_dec (fun h2 => ?_) (fun h2 => ?_)) (fun h2 => ?_)
  · rw [ho, w64 (x := (m : Int) + 1) ⟨by omega, by omega⟩]
    have no : bitZ x (a + m) = false → (fun (v o i : Int) (w'' : World) => w'' = w' ∧ ∃ m : Nat, i = m ∧ m ≤ clampW b ∧ v = (ofB (fun i => bitZ x (a + i)) m : Int) ∧ o = ((2 ^ m % 18446744073709551616 : Nat) : Int)) (ofB (fun i => bitZ x (a + i)) m : Int) ((2 ^ (m + 1) % 18446744073709551616 : Nat) : Int) ((m : Int) + 1) w' := by
      intro hf
      exact ⟨rfl, m + 1, by omega, by unfold clampW; omega, by simp [ofB, hf], rfl⟩
    refine br_dec (fun h3 => br_dec (fun h4 => ?_) (fun h4 => ⟨no ?_, by dsimp only; omega⟩)) (fun h3 => ⟨no ?_, by dsimp only; omega⟩)
    · rw [w64 ⟨by omega, by omega⟩]
      refine usei (rbit w' x hx _) ⟨_, rfl, br_of (fun h5 => ⟨⟨rfl, m + 1, by omega, by unfold clampW; omega, ?_, rfl⟩, by dsimp only; omega⟩) (fun h5 => ⟨no h5, by dsimp only; omega⟩)⟩
      have hp : 2 ^ m < 18446744073709551616 := by
        have : (2 : Nat) ^ m < 2 ^ 64 := Nat.pow_lt_pow_right (by omega) (by omega)
        omega
      have hp2 : 2 ^ (m + 1) ≤ 18446744073709551616 := by
        have : (2 : Nat) ^ (m + 1) ≤ 2 ^ 64 := Nat.pow_le_pow_right (by omega) (by omega)
        omega
      rw [Nat.mod_eq_of_lt hp, addU (by rw [Nat.pow_succ] at hp2; omega)]
      simp [ofB, h5]
    · unfold bitZ; rw [tb_lt hx (by omega)]; simp
    · unfold bitZ; simp; omega
  · have : m = clampW b := by unfold clampW at *; omega
    rw [this]; exact ⟨rfl, rfl⟩
  · have : m = clampW b := by unfold clampW at *; omega
    rw [this]; exact ⟨rfl, rfl⟩

def lenTab : ByteArray := (⟨(List.toArray (List.append (List.append ([0, 1, 2, 2, 3, 3, 3, 3, 4, 4, 4, 4, 4, 4, 4, 4, 5, 5, 5, 5, 5, 5, 5, 5, 5, 5, 5, 5, 5, 5, 5, 5, 6, 6, 6, 6, 6, 6, 6, 6, 6, 6, 6, 6, 6, 6, 6, 6, 6, 6, 6, 6, 6, 6, 6, 6, 6, 6, 6, 6, 6, 6, 6, 6]) ([7, 7, 7, 7, 7, 7, 7, 7, 7, 7, 7, 7, 7, 7, 7, 7, 7, 7, 7, 7, 7, 7, 7, 7, 7, 7, 7, 7, 7, 7, 7, 7, 7, 7, 7, 7, 7, 7, 7, 7, 7, 7, 7, 7, 7, 7, 7, 7, 7, 7, 7, 7, 7, 7, 7, 7, 7, 7, 7, 7, 7, 7, 7, 7])) (List.append ([8, 8, 8, 8, 8, 8, 8, 8, 8, 8, 8, 8, 8, 8, 8, 8, 8, 8, 8, 8, 8, 8, 8, 8, 8, 8, 8, 8, 8, 8, 8, 8, 8, 8, 8, 8, 8, 8, 8, 8, 8, 8, 8, 8, 8, 8, 8, 8, 8, 8, 8, 8, 8, 8, 8, 8, 8, 8, 8, 8, 8, 8, 8, 8]) ([8, 8, 8, 8, 8, 8, 8, 8, 8, 8, 8, 8, 8, 8, 8, 8, 8, 8, 8, 8, 8, 8, 8, 8, 8, 8, 8, 8, 8, 8, 8, 8, 8, 8, 8, 8, 8, 8, 8, 8, 8, 8, 8, 8, 8, 8, 8, 8, 8, 8, 8, 8, 8, 8, 8, 8, 8, 8, 8, 8, 8, 8, 8, 8]))))⟩ : ByteArray)
theorem lenTab_at : ∀ n : Fin 256, lenTab[n.val]? = some (UInt8.ofNat (Lib.bitLen n.val)) ∧ Lib.bitLen n.val ≤ 8 := by decide +kernel
theorem lenAt {e : Int} (b : Nat) (he : e = b) (hb : b < 256) {K : UInt8 → Prop} (h : ∀ c : UInt8, c.toNat = Lib.bitLen b → Lib.bitLen b ≤ 8 → K c) :
    ∃ c : UInt8, 0 ≤ IntKind.u8.wrap e ∧ lenTab[(IntKind.u8.wrap e).toNat]? = some c ∧ K c := by
  have ht := lenTab_at ⟨b, hb⟩
  rw [he, wu8 ⟨by omega, by omega⟩]
  refine ⟨_, by omega, by rw [Int.toNat_natCast]; exact ht.1, h _ ?_ ht.2⟩
  have := ht.2
  simp only at this
  rw [UInt8.toNat_ofNat_of_lt' (by simp only [UInt8.size]; omega)]

theorem len64 (w : World) (x : Nat) (hx : x < 18446744073709551616) : Is 76 #[.int .u64 x] w (.int .i64 (Lib.bitLen x)) := by
  refine c76 _ _ _ ?_
  unfold B76
  have sh : ∀ (m : Nat) (k : Nat), m < 18446744073709551616 → shR .u64 (m : Int) (k : Int) = ((m / 2 ^ k : Nat) : Int) := fun m k hm => shrC hm
  have s32 : shR .u64 (x : Int) 32 = ((x / 4294967296 : Nat) : Int) := sh x 32 hx
  have s16 : shR .u64 (x : Int) 16 = ((x / 65536 : Nat) : Int) := sh x 16 hx
  have s8 : shR .u64 (x : Int) 8 = ((x / 256 : Nat) : Int) := sh x 8 hx
  have t16 : shR .u64 ((x / 4294967296 : Nat) : Int) 16 = ((x / 4294967296 / 65536 : Nat) : Int) := sh _ 16 (by omega)
  have t8 : shR .u64 ((x / 4294967296 : Nat) : Int) 8 = ((x / 4294967296 / 256 : Nat) : Int) := sh _ 8 (by omega)
  have u8 : shR .u64 ((x / 65536 : Nat) : Int) 8 = ((x / 65536 / 256 : Nat) : Int) := sh _ 8 (by omega)
  have v8 : shR .u64 ((x / 4294967296 / 65536 : Nat) : Int) 8 = ((x / 4294967296 / 65536 / 256 : Nat) : Int) := sh _ 8 (by omega)
  simp only [s32, s16, s8, t16, t8, u8, v8]
  refine br_dec (fun h => ⟨by omega, ?_⟩) (fun h => ?_)
  · have e := Lib.bitLen_shift32 x (by omega) hx
    have lt : x / 4294967296 < 4294967296 := by omega
    generalize x / 4294967296 = y at *
    refine br_dec (fun h1 => ⟨by omega, ?_⟩) (fun h1 => ?_)
    · have e1 := Lib.bitLen_shift16 y (by omega) (by omega)
      have lt1 : y / 65536 < 65536 := by omega
      generalize y / 65536 = z at *
      refine br_dec (fun h2 => ⟨by omega, ?_⟩) (fun h2 => ?_)
      · have e2 := Lib.bitLen_shift8 z (by omega) (by omega)
        refine lenAt (z / 256) rfl (by omega) fun c hc hl => ?_
        refine ⟨congrArg _ ?_, trivial⟩
        rw [hc]; simp (disch := omega) only [w64]; omega
      · refine lenAt z rfl (by omega) fun c hc hl => ?_
        refine ⟨congrArg _ ?_, trivial⟩
        rw [hc]; simp (disch := omega) only [w64]; omega
    · refine br_dec (fun h2 => ⟨by omega, ?_⟩) (fun h2 => ?_)
      · have e2 := Lib.bitLen_shift8 y (by omega) (by omega)
        refine lenAt (y / 256) rfl (by omega) fun c hc hl => ?_
        refine ⟨congrArg _ ?_, trivial⟩
        rw [hc]; simp (disch := omega) only [w64]; omega
      · refine lenAt y rfl (by omega) fun c hc hl => ?_
        refine ⟨congrArg _ ?_, trivial⟩
        rw [hc]; simp (disch := omega) only [w64]; omega
  · refine br_dec (fun h1 => ⟨by omega, ?_⟩) (fun h1 => ?_)
    · have e1 := Lib.bitLen_shift16 x (by omega) (by omega)
      have lt1 : x / 65536 < 65536 := by omega
      generalize x / 65536 = z at *
      refine br_dec (fun h2 => ⟨by omega, ?_⟩) (fun h2 => ?_)
      · have e2 := Lib.bitLen_shift8 z (by omega) (by omega)
        refine lenAt (z / 256) rfl (by omega) fun c hc hl => ?_
        refine ⟨congrArg _ ?_, trivial⟩
        rw [hc]; simp (disch := omega) only [w64]; omega
      · refine lenAt z rfl (by omega) fun c hc hl => ?_
        refine ⟨congrArg _ ?_, trivial⟩
        rw [hc]; simp (disch := omega) only [w64]; omega
    · refine br_dec (fun h2 => ⟨by omega, ?_⟩) (fun h2 => ?_)
      · have e2 := Lib.bitLen_shift8 x (by omega) (by omega)
        refine lenAt (x / 256) rfl (by omega) fun c hc hl => ?_
        refine ⟨congrArg _ ?_, trivial⟩
        rw [hc]; simp (disch := omega) only [w64]; omega
      · refine lenAt x rfl (by omega) fun c hc hl => ?_
        refine ⟨congrArg _ ?_, trivial⟩
        rw [hc]; simp (disch := omega) only [w64]; omega

theorem width (w : World) (x : Nat) (hx : x < 18446744073709551616) : Is 53 #[.int .u64 x] w (.int .i64 (Lib.bitLen x)) := by
  refine c53 _ _ _ ?_
  unfold B53
  exact usei (len64 w x hx) ⟨_, rfl, rfl, rfl⟩

theorem rwidth (w : World) (x : Nat) (hx : x < 18446744073709551616) : Is 59 #[.int .u64 x] w (.int .i64 (Lib.bitLen x)) := by
  refine c59 _ _ _ ?_
  unfold B59
  refine ⟨fun y n w' => w' = w ∧ ∃ m : Nat, y = (m : Int) ∧ m ≤ x ∧ n + Lib.bitLen m = Lib.bitLen x ∧ 0 ≤ n, fun y _ _ => y.toNat, ⟨rfl, x, rfl, by omega, by omega, by omega⟩, ?_⟩
  rintro y n w' ⟨rfl, m, rfl, hm, hn, h0⟩
  have hb : Lib.bitLen x ≤ 64 := Lib.bitLen_le x 64 (by omega) (by simpa using hx)
  refine br_dec (fun h => ⟨by omega, ⟨rfl, m / 2, ?_, by omega, ?_, ?_⟩, ?_⟩) (fun h => ?_)
  · rw [Int.tdiv_eq_ediv_of_nonneg (by omega), wu64 ⟨by omega, by omega⟩]; omega
  · have := Lib.bitLen_half m (by omega) (by omega)
    rw [w64 ⟨by omega, by omega⟩]; omega
  · rw [w64 ⟨by omega, by omega⟩]; omega
  · dsimp only; rw [Int.tdiv_eq_ediv_of_nonneg (by omega), wu64 ⟨by omega, by omega⟩]; omega
  · obtain rfl : m = 0 := by omega
    have : Lib.bitLen 0 = 0 := by decide
    rw [show n = (Lib.bitLen x : Int) by omega]
    exact ⟨rfl, rfl⟩

end Go.Proofs.Ytilccklocaeebaa.V
