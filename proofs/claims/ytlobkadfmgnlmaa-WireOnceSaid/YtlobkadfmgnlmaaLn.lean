/- What the functions of the lane chapter compute: the words' own functions and the plain ones they are held against. -/
import Derived.Test.YtlobkadfmgnlmaaBL
import Derived.Test.YtlobkadfmgnlmaaWd
import Derived.Lib.BitFns
namespace Go.VC
open Go

/-- A place within the word's 64. -/
def clampW (p : Int) : Nat := (min (max p 0) 64).toNat
theorem clampW_le (p : Int) : clampW p ≤ 64 := by unfold clampW; omega
/-- The bit at a place; outside of the word there is none. -/
def bitZ (x : Nat) (i : Int) : Bool := decide (0 ≤ i) && x.testBit i.toNat

theorem mod_two_pow_lt64 (x k : Nat) (hk : k ≤ 64) : x % 2 ^ k < 18446744073709551616 :=
  Nat.lt_of_lt_of_le (Nat.mod_lt _ (Nat.two_pow_pos k)) (by
    have : 2 ^ k ≤ 2 ^ 64 := Nat.pow_le_pow_right (by omega) hk
    simpa using this)
theorem pc_mod (x k : Nat) (hk : k ≤ 64) : pc (x % 2 ^ k) = cnt x.testBit k := by
  unfold pc
  obtain ⟨j, hj⟩ : ∃ j, 64 = k + j := ⟨64 - k, by omega⟩
  rw [hj, cnt_add]
  have h1 : cnt (x % 2 ^ k).testBit k = cnt x.testBit k := cnt_congr fun i hi => by simp [Nat.testBit_mod_two_pow, hi]
  have h2 : cnt (fun i => (x % 2 ^ k).testBit (k + i)) j = 0 := by
    rw [cnt_congr (q := fun _ => false) (fun i _ => by simp only [Nat.testBit_mod_two_pow]; simp; omega)]
    exact cnt_false _
  omega
theorem and_mask (x k : Nat) : x &&& (2 ^ k - 1) = x % 2 ^ k := Nat.and_two_pow_sub_one_eq_mod x k
theorem cnt_shift (x a k : Nat) : cnt (x >>> a).testBit k = cnt (fun i => x.testBit (a + i)) k :=
  cnt_congr fun _ _ => Nat.testBit_shiftRight x
theorem cnt_find (p : Nat → Bool) : ∀ (n m : Nat), m < cnt p n → ∃ a, a < n ∧ p a = true ∧ cnt p a = m
  | 0, _, h => absurd h (by simp [cnt])
  | n + 1, m, h => by
    by_cases h2 : m < cnt p n
    · obtain ⟨a, ha, hb, hc⟩ := cnt_find p n m h2
      exact ⟨a, by omega, hb, hc⟩
    · simp only [cnt] at h
      by_cases hp : p n = true
      · rw [if_pos hp] at h
        exact ⟨n, by omega, hp, by omega⟩
      · rw [if_neg hp] at h
        omega
/-- Where the n-th one stands. -/
def SelP (x : Nat) (n r : Int) : Prop :=
  (r = -1 ∧ (n < 0 ∨ (pc x : Int) ≤ n)) ∨ ∃ a : Nat, r = a ∧ a < 64 ∧ x.testBit a = true ∧ (cnt x.testBit a : Int) = n
theorem cnt_lt {p : Nat → Bool} {a b : Nat} (ha : p a = true) (h : a < b) : cnt p a < cnt p b := by
  have h1 : cnt p (a + 1) = cnt p a + 1 := by simp [cnt, ha]
  have := cnt_mono p (m := a + 1) (n := b) (by omega)
  omega
theorem SelP.one {x : Nat} {n r s : Int} (h : SelP x n r) (g : SelP x n s) : r = s := by
  rcases h with ⟨rfl, h⟩ | ⟨a, rfl, ha, hb, hc⟩ <;> rcases g with ⟨rfl, g⟩ | ⟨b, rfl, ga, gb, gc⟩
  · rfl
  · have := cnt_lt gb ga; unfold pc at h; omega
  · have := cnt_lt hb ha; unfold pc at g; omega
  · rcases Nat.lt_trichotomy a b with h | h | h
    · have := cnt_lt hb h; omega
    · rw [h]
    · have := cnt_lt gb h; omega

theorem tb_div (x i : Nat) : x.testBit i = decide (x / 2 ^ i % 2 = 1) := by
  rw [Nat.testBit_eq_decide_div_mod_eq]
end Go.VC

namespace Go.Proofs.Ytlobkadfmgnlmaa.V
open Go Go.VC

/-- The call answers this and leaves the world as it was. -/
abbrev Is (f : Nat) (args : Array Value) (w : World) (v : Value) : Prop := Calls Try.prog f args w (Rv fun u w' => u = v ∧ w' = w)
theorem usei {f : Nat} {args : Array Value} {w : World} {v : Value} {R : Value → World → Prop} (h : Is f args w v) (k : R v w) : Calls Try.prog f args w (Rv R) :=
  use h (by rintro _ _ ⟨rfl, rfl⟩; exact k)

theorem ones64 (w : World) (x : Nat) (hx : x < 18446744073709551616) : Is 60 #[.int .u64 x] w (.int .i64 (pc x)) := by
  refine c60 _ _ _ ?_
  unfold B60
  refine ⟨by omega, by omega, by omega, by omega, by omega, by omega, ?_⟩
  obtain ⟨_, _, _, _, q1, q2, q3, q4, q5, q6, q7⟩ := swarI x hx
  rw [q1, q2, q3, q4, q5, q6, q7]
  exact ⟨rfl, rfl⟩
theorem within (w : World) (p : Int) : Is 61 #[.int .i64 p] w (.int .i64 (clampW p)) := by
  refine c61 _ _ _ ?_
  unfold B61
  have : min (max p 0) 64 = (clampW p : Int) := by unfold clampW; omega
  rw [this]
  exact ⟨rfl, rfl⟩

theorem mask (w : World) (p : Int) : Is 23 #[.int .i64 p] w (.int .u64 ((2 ^ clampW p - 1 : Nat) : Int)) := by
  refine c23 _ _ _ ?_
  unfold B23
  refine usei (within w p) ⟨_, rfl, ?_⟩
  have hk := clampW_le p
  generalize clampW p = k at *
  refine br_dec (fun h => ?_) (fun h => ?_)
  · have : k = 64 := by omega
    subst this
    exact ⟨rfl, rfl⟩
  · rw [wu64 ⟨by omega, by omega⟩]
    refine ⟨by omega, ?_⟩
    have h2 : (2 : Nat) ^ k < 18446744073709551616 := by
      have : (2 : Nat) ^ k < 2 ^ 64 := Nat.pow_lt_pow_right (by omega) (by omega)
      omega
    have h3 := Nat.two_pow_pos k
    have h4 : shL .u64 1 (k : Int) = ((2 ^ k : Nat) : Int) := by
      have := shl_u64 1 k
      rw [Nat.shiftLeft_eq, Nat.one_mul, Nat.mod_eq_of_lt h2] at this
      exact this
    rw [h4, show ((2 ^ k : Nat) : Int) - 1 = ((2 ^ k - 1 : Nat) : Int) by omega, wu64 ⟨by omega, by omega⟩]
    exact ⟨rfl, rfl⟩

theorem ones (w : World) (x : Nat) (hx : x < 18446744073709551616) : Is 14 #[.int .u64 x] w (.int .i64 (pc x)) := by
  refine c14 _ _ _ ?_
  unfold B14
  exact usei (ones64 w x hx) ⟨_, rfl, rfl, rfl⟩

theorem mask_lt (k : Nat) (hk : k ≤ 64) : 2 ^ k - 1 < 18446744073709551616 := by
  have : (2 : Nat) ^ k ≤ 2 ^ 64 := Nat.pow_le_pow_right (by omega) hk
  have : 0 < (2 : Nat) ^ k := Nat.two_pow_pos k
  omega
theorem low (x p : Nat) (hx : x < 18446744073709551616) (hp : p ≤ 64) : bAnd .u64 (x : Int) ((2 ^ p - 1 : Nat) : Int) = ((x % 2 ^ p : Nat) : Int) := by
  rw [and_u64 hx (mask_lt p hp), and_mask]

theorem rank (w : World) (x : Nat) (hx : x < 18446744073709551616) (p : Int) : Is 16 #[.int .u64 x, .int .i64 p] w (.int .i64 (cnt x.testBit (clampW p))) := by
  refine c16 _ _ _ _ ?_
  unfold B16
  refine usei (mask w p) ⟨_, rfl, ?_⟩
  have hk := clampW_le p
  rw [low x _ hx hk]
  refine usei (ones64 w _ (mod_two_pow_lt64 x _ hk)) ⟨_, rfl, ?_⟩
  rw [pc_mod _ _ hk]
  exact ⟨rfl, rfl⟩

theorem rbit (w : World) (x : Nat) (hx : x < 18446744073709551616) (i : Int) : Is 20 #[.int .u64 x, .int .i64 i] w (.bool (bitZ x i)) := by
  refine c20 _ _ _ _ ?_
  unfold B20
  refine br_dec (fun h => ?_) (fun h => br_dec (fun h2 => ?_) (fun h2 => ?_))
  · refine ⟨?_, rfl⟩
    unfold bitZ
    simp [show ¬ 0 ≤ i by omega]
  · refine ⟨?_, rfl⟩
    unfold bitZ
    rw [tb_lt hx (by omega)]
    simp
  · obtain ⟨k, rfl⟩ : ∃ k : Nat, i = k := ⟨i.toNat, by omega⟩
    refine ⟨fun y j w' => w' = w ∧ ∃ m : Nat, j = m ∧ m ≤ k ∧ y = ((x / 2 ^ m : Nat) : Int), fun _ j _ => ((k : Int) - j).toNat, ⟨rfl, 0, rfl, by omega, by simp⟩, ?_⟩
    rintro y j w' ⟨rfl, m, rfl, hm, rfl⟩
    have hlt : x / 2 ^ m < 18446744073709551616 := Nat.lt_of_le_of_lt (Nat.div_le_self _ _) hx
    refine br_dec (fun h3 => ⟨by omega, ⟨rfl, m + 1, ?_, by omega, ?_⟩, ?_⟩) (fun h3 => ⟨by omega, ?_, rfl⟩)
    · rw [w64 ⟨by omega, by omega⟩]; omega
    · rw [Nat.pow_succ, ← Nat.div_div_eq_div_mul]
      generalize x / 2 ^ m = y at *
      rw [Int.tdiv_eq_ediv_of_nonneg (by omega), wu64 ⟨by omega, by omega⟩]
      omega
    · dsimp only; rw [w64 ⟨by omega, by omega⟩]; omega
    · have : m = k := by omega
      subst this
      unfold bitZ
      rw [Int.toNat_natCast, tb_div]
      generalize x / 2 ^ m = y at *
      rw [Int.tmod_eq_emod_of_nonneg (by omega)]
      simp
      omega

theorem rrank (w : World) (x : Nat) (hx : x < 18446744073709551616) (p : Int) (hp : p ≤ 9223372036854775807) : Is 15 #[.int .u64 x, .int .i64 p] w (.int .i64 (cnt x.testBit (clampW p))) := by
  refine c15 _ _ _ _ ?_
  unfold B15
  refine ⟨fun n j w' => w' = w ∧ ∃ m : Nat, j = m ∧ m ≤ clampW p ∧ n = (cnt x.testBit m : Int), fun _ j _ => (64 - j).toNat, ⟨rfl, 0, rfl, by omega, rfl⟩, ?_⟩
  rintro n j w' ⟨rfl, m, rfl, hm, rfl⟩
  have hk := clampW_le p
  have hcm := cnt_le x.testBit m
  refine br_dec (fun h => br_dec (fun h2 => usei (rbit w' x hx m) ⟨_, rfl, br_of (fun h3 => ?_) (fun h3 => ?_)⟩) (fun h2 => ?_)) (fun h2 => ?_)
  · have hb : x.testBit m = true := by simpa [bitZ] using h3
    rw [w64 ⟨by omega, by omega⟩, w64 ⟨by omega, by omega⟩]
    exact ⟨⟨rfl, m + 1, by omega, by unfold clampW; omega, by simp [cnt, hb]⟩, by dsimp only; omega⟩
  · have hb : x.testBit m = false := by simpa [bitZ] using h3
    rw [w64 ⟨by omega, by omega⟩]
    exact ⟨⟨rfl, m + 1, by omega, by unfold clampW; omega, by simp [cnt, hb]⟩, by dsimp only; omega⟩
  · have : m = clampW p := by unfold clampW at *; omega
    rw [this]; exact ⟨rfl, rfl⟩
  · have : m = clampW p := by unfold clampW at *; omega
    rw [this]; exact ⟨rfl, rfl⟩

theorem shr_cast {x : Nat} (hx : x < 18446744073709551616) (a : Nat) (ha : a ≤ 64) : shR .u64 (x : Int) (IntKind.u64.wrap (a : Int)) = ((x >>> a : Nat) : Int) := by
  rw [wu64 ⟨by omega, by omega⟩, shr_u64 hx]
theorem shr_lt {x : Nat} (hx : x < 18446744073709551616) (a : Nat) : x >>> a < 18446744073709551616 :=
  Nat.lt_of_le_of_lt (by rw [Nat.shiftRight_eq_div_pow]; exact Nat.div_le_self _ _) hx

theorem select (w : World) (x : Nat) (hx : x < 18446744073709551616) (n : Int) :
    Calls Try.prog 18 #[.int .u64 x, .int .i64 n] w (Rv fun v w' => w' = w ∧ ∃ r : Int, v = .int .i64 r ∧ SelP x n r) := by
  refine c18 _ _ _ _ ?_
  unfold B18
  have hpc : pc x ≤ 64 := cnt_le _ _
  refine br_dec (fun h => ⟨rfl, _, rfl, .inl ⟨rfl, .inl h⟩⟩) (fun h => usei (ones64 w x hx) ⟨_, rfl, br_dec (fun h2 => ⟨rfl, _, rfl, .inl ⟨rfl, .inr h2⟩⟩) (fun h2 => ?_)⟩)
  refine ⟨fun m a d w' => w' = w ∧ ∃ a' d' : Nat, a = a' ∧ d = d' ∧ d' ≤ 32 ∧ (d' = 0 ∨ d' = 1 ∨ d' = 2 ∨ d' = 4 ∨ d' = 8 ∨ d' = 16 ∨ d' = 32) ∧ a' + (if d' = 0 then 1 else 2 * d') ≤ 64 ∧
      (m = n - cnt x.testBit a') ∧ (cnt x.testBit a' : Int) ≤ n ∧ n < (cnt x.testBit (a' + (if d' = 0 then 1 else 2 * d')) : Int), fun _ _ d _ => d.toNat,
    ⟨rfl, 0, 32, rfl, rfl, by omega, by omega, by decide, by simp [cnt], by simp [cnt]; omega, ?_⟩, ?_⟩
  · have : pc x = cnt x.testBit (0 + 2 * 32) := rfl
    rw [if_neg (by omega)]; omega
  · rintro m a d w' ⟨rfl, a, d, rfl, rfl, hd, hd2, had, rfl, hl, hr⟩
    refine br_dec (fun h3 => ?_) (fun h3 => ?_)
    · rw [if_neg (by omega)] at had hr
      have hk : clampW d = d := by unfold clampW; omega
      refine ⟨by rw [wu64 ⟨by omega, by omega⟩]; omega, usei (mask w' d) ⟨_, rfl, ?_⟩⟩
      rw [shr_cast hx a (by omega), hk, low _ _ (shr_lt hx a) (by omega)]
      refine usei (ones64 w' _ (mod_two_pow_lt64 _ _ (by omega))) ⟨_, rfl, ?_⟩
      rw [pc_mod _ _ (by omega), cnt_shift]
      have e1 := cnt_add x.testBit a d
      have e2 := cnt_le x.testBit (a + d)
      have e3 := cnt_le x.testBit a
      generalize hq : cnt (fun i => x.testBit (a + i)) d = q at *
      have hdd : Int.tdiv (d : Int) 2 = ((d / 2 : Nat) : Int) := by rw [Int.tdiv_eq_ediv_of_nonneg (by omega)]; omega
      rw [hdd, w64 (x := ((d / 2 : Nat) : Int)) ⟨by omega, by omega⟩]
      have hn : n < 64 := by omega
      refine br_dec (fun h4 => ⟨by omega, ⟨rfl, a + d, d / 2, ?_, rfl, by omega, by omega, ?_, ?_, ?_, ?_⟩, by dsimp only; omega⟩) (fun h4 => ⟨by omega, ⟨rfl, a, d / 2, rfl, rfl, by omega, by omega, ?_, rfl, hl, ?_⟩, by dsimp only; omega⟩)
      · rw [w64 ⟨by omega, by omega⟩]; omega
      · split <;> omega
      · rw [w64 ⟨by omega, by omega⟩]; omega
      · omega
      · have : a + d + (if d / 2 = 0 then 1 else 2 * (d / 2)) = a + 2 * d := by split <;> omega
        rw [this]; exact hr
      · split <;> omega
      · have : a + (if d / 2 = 0 then 1 else 2 * (d / 2)) = a + d := by split <;> omega
        rw [this]; omega
    · obtain rfl : d = 0 := by omega
      simp only [if_true] at had hr
      refine ⟨rfl, _, rfl, .inr ⟨a, rfl, by omega, ?_, ?_⟩⟩
      · by_cases hb : x.testBit a = true
        · exact hb
        · simp only [cnt, hb] at hr; simp at hr; omega
      · simp only [cnt] at hr; split at hr <;> omega

theorem rselect (w : World) (x : Nat) (hx : x < 18446744073709551616) (n : Int) :
    Calls Try.prog 19 #[.int .u64 x, .int .i64 n] w (Rv fun v w' => w' = w ∧ ∃ r : Int, v = .int .i64 r ∧ SelP x n r) := by
  refine c19 _ _ _ _ ?_
  unfold B19
  refine ⟨fun i w' => w' = w ∧ ∃ m : Nat, i = m ∧ m ≤ 64 ∧ ∀ j, j < m → x.testBit j = true → (cnt x.testBit j : Int) ≠ n, fun i _ => (64 - i).toNat, ⟨rfl, 0, rfl, by omega, fun j hj => by omega⟩, ?_⟩
  rintro i w' ⟨rfl, m, rfl, hm, hj⟩
  refine br_dec (fun h => usei (rbit w' x hx m) ⟨_, rfl, br_of (fun h3 => ?_) (fun h3 => ?_)⟩) (fun h => ?_)
  · have hb : x.testBit m = true := by simpa [bitZ] using h3
    have hk : clampW m = m := by unfold clampW; omega
    refine usei (rrank w' x hx m (by omega)) ⟨_, rfl, ?_⟩
    rw [hk]
    refine br_dec (fun h4 => ⟨rfl, _, rfl, .inr ⟨m, rfl, by omega, hb, h4⟩⟩) (fun h4 => ?_)
    rw [w64 ⟨by omega, by omega⟩]
    refine ⟨⟨rfl, m + 1, by omega, by omega, fun j hj2 hb2 => ?_⟩, by dsimp only; omega⟩
    by_cases e : j = m
    · subst e; exact h4
    · exact hj j (by omega) hb2
  · have hb : x.testBit m = false := by simpa [bitZ] using h3
    rw [w64 ⟨by omega, by omega⟩]
    refine ⟨⟨rfl, m + 1, by omega, by omega, fun j hj2 hb2 => ?_⟩, by dsimp only; omega⟩
    by_cases e : j = m
    · subst e; rw [hb] at hb2; exact absurd hb2 (by simp)
    · exact hj j (by omega) hb2
  · obtain rfl : m = 64 := by omega
    refine ⟨rfl, _, rfl, .inl ⟨rfl, ?_⟩⟩
    by_cases h0 : n < 0
    · exact .inl h0
    · by_cases h1 : (pc x : Int) ≤ n
      · exact .inr h1
      · obtain ⟨k, rfl⟩ : ∃ k : Nat, n = k := ⟨n.toNat, by omega⟩
        obtain ⟨a, ha, hb, hc⟩ := cnt_find x.testBit 64 k (by unfold pc at h1; omega)
        exact absurd (by rw [hc]) (hj a ha hb)

/-- The bits of a word from a place on, so many. -/
def cutW (x : Nat) (a b : Int) : Nat := ofB (fun i => bitZ x (a + i)) (clampW b)
theorem ofB_false (n : Nat) : ofB (fun _ => false) n = 0 := by
  induction n with
  | zero => rfl
  | succ n ih => simp [ofB, ih]
theorem ofB_of_testBit {m n : Nat} {p : Nat → Bool} (h : ∀ i, m.testBit i = (decide (i < n) && p i)) : m = ofB p n :=
  Nat.eq_of_testBit_eq fun i => by rw [h, testBit_ofB]

theorem cut (w : World) (x : Nat) (hx : x < 18446744073709551616) (a b : Int) (ha : -9223372036854775808 ≤ a ∧ a ≤ 9223372036854775807) :
    Is 21 #[.int .u64 x, .int .i64 a, .int .i64 b] w (.int .u64 (cutW x a b)) := by
  refine c21 _ _ _ _ _ ?_
  unfold B21
  have z : ∀ {q : Prop}, (q → cutW x a b = 0) → q → (Value.int .u64 0 = Value.int .u64 (cutW x a b) ∧ w = w) := fun h hq => ⟨by rw [h hq]; rfl, rfl⟩
  have hk := clampW_le b
  refine br_dec (z fun h => ?_) (fun h => br_dec (z fun h2 => ?_) (fun h2 => br_dec (z fun h3 => ?_) (fun h3 => br_dec (fun h4 => ?_) (fun h4 => ?_))))
  · have : clampW b = 0 := by unfold clampW; omega
    unfold cutW; rw [this]; rfl
  · unfold cutW
    rw [ofB_congr (q := fun _ => false), ofB_false]
    intro i hi
    unfold bitZ
    rw [tb_lt hx (by omega)]; simp
  · unfold cutW
    rw [ofB_congr (q := fun _ => false), ofB_false]
    intro i hi
    unfold bitZ
    simp; omega
  · obtain ⟨k, rfl⟩ : ∃ k : Nat, a = -(k : Int) := ⟨(-a).toNat, by omega⟩
    have e : IntKind.u64.wrap (IntKind.i64.wrap (0 - -(k : Int))) = (k : Int) := by
      rw [w64 ⟨by omega, by omega⟩, wu64 ⟨by omega, by omega⟩]; omega
    rw [e]
    refine ⟨by omega, usei (mask w b) ⟨_, rfl, ?_, rfl⟩⟩
    rw [shl_u64, low _ _ (Nat.mod_lt _ (by omega)) hk]
    congr 2
    refine ofB_of_testBit fun i => ?_
    rw [Nat.testBit_mod_two_pow, show (18446744073709551616 : Nat) = 2 ^ 64 from rfl, Nat.testBit_mod_two_pow, Nat.testBit_shiftLeft]
    unfold bitZ
    by_cases hi : i < clampW b
    · simp only [hi, decide_true, Bool.true_and, show i < 64 by omega]
      by_cases h5 : k ≤ i
      · simp [h5, show (0 : Int) ≤ -(k : Int) + i by omega, show (-(k : Int) + i).toNat = i - k by omega]
      · simp [h5, show ¬ (0 : Int) ≤ -(k : Int) + i by omega]
    · simp [hi]
  · obtain ⟨k, rfl⟩ : ∃ k : Nat, a = (k : Int) := ⟨a.toNat, by omega⟩
    refine ⟨by rw [wu64 ⟨by omega, by omega⟩]; omega, usei (mask w b) ⟨_, rfl, ?_, rfl⟩⟩
    rw [shr_cast hx k (by omega), low _ _ (shr_lt hx k) hk]
    congr 2
    refine ofB_of_testBit fun i => ?_
    rw [Nat.testBit_mod_two_pow, Nat.testBit_shiftRight]
    unfold bitZ
    have : ((k : Int) + i).toNat = k + i := by omega
    simp [this, show (0 : Int) ≤ (k : Int) + i by omega]

theorem rcut (w : World) (x : Nat) (hx : x < 18446744073709551616) (a b : Int) (_ha : -9223372036854775808 ≤ a ∧ a ≤ 9223372036854775807) :
    Is 22 #[.int .u64 x, .int .i64 a, .int .i64 b] w (.int .u64 (cutW x a b)) := by
  refine c22 _ _ _ _ _ ?_
  unfold B22
  refine ⟨fun v o i w' => w' = w ∧ ∃ m : Nat, i = m ∧ m ≤ clampW b ∧ v = (ofB (fun i => bitZ x (a + i)) m : Int) ∧ o = ((2 ^ m % 18446744073709551616 : Nat) : Int), fun _ _ i _ => (64 - i).toNat, ⟨rfl, 0, rfl, by omega, rfl, rfl⟩, ?_⟩
  rintro v o i w' ⟨rfl, m, rfl, hm, rfl, rfl⟩
  have hk := clampW_le b
  have hlt := ofB_lt (fun i => bitZ x (a + i)) m
  have ho : IntKind.u64.wrap (((2 ^ m % 18446744073709551616 : Nat) : Int) * 2) = ((2 ^ (m + 1) % 18446744073709551616 : Nat) : Int) := by
    rw [wu64', Nat.pow_succ]; omega
  refine br_dec (fun h => br_dec (fun h2 => ?_) (fun h2 => ?_)) (fun h2 => ?_)
  · rw [ho, w64 (x := (m : Int) + 1) ⟨by omega, by omega⟩]
    have no : bitZ x (a + m) = false → (fun (v o i : Int) (w'' : World) => w'' = w' ∧ ∃ m : Nat, i = m ∧ m ≤ clampW b ∧ v = (ofB (fun i => bitZ x (a + i)) m : Int) ∧ o = ((2 ^ m % 18446744073709551616 : Nat) : Int)) (ofB (fun i => bitZ x (a + i)) m : Int) ((2 ^ (m + 1) % 18446744073709551616 : Nat) : Int) ((m : Int) + 1) w' := by
      intro hf
      exact ⟨rfl, m + 1, by omega, by unfold clampW; omega, by simp [ofB, hf], rfl⟩
    refine br_dec (fun h3 => br_dec (fun h4 => ?_) (fun h4 => ⟨no ?_, by dsimp only; omega⟩)) (fun h3 => ⟨no ?_, by dsimp only; omega⟩)
    · rw [w64 ⟨by omega, by omega⟩]
      refine usei (rbit w' x hx _) ⟨_, rfl, br_of (fun h5 => ⟨⟨rfl, m + 1, by omega, by unfold clampW; omega, ?_, rfl⟩, by dsimp only; omega⟩) (fun h5 => ⟨no h5, by dsimp only; omega⟩)⟩
      have hp : 2 ^ m < 18446744073709551616 := by
        have : (2 : Nat) ^ m < 2 ^ 64 := Nat.pow_lt_pow_right (by omega) (by omega)
        omega
      have hp2 : 2 ^ (m + 1) ≤ 18446744073709551616 := by
        have : (2 : Nat) ^ (m + 1) ≤ 2 ^ 64 := Nat.pow_le_pow_right (by omega) (by omega)
        omega
      rw [Nat.mod_eq_of_lt hp, addU (by rw [Nat.pow_succ] at hp2; omega)]
      simp [ofB, h5]
    · unfold bitZ; rw [tb_lt hx (by omega)]; simp
    · unfold bitZ; simp; omega
  · have : m = clampW b := by unfold clampW at *; omega
    rw [this]; exact ⟨rfl, rfl⟩
  · have : m = clampW b := by unfold clampW at *; omega
    rw [this]; exact ⟨rfl, rfl⟩

theorem rmask (w : World) (b : Int) : Is 24 #[.int .i64 b] w (.int .u64 ((2 ^ clampW b - 1 : Nat) : Int)) := by
  refine c24 _ _ _ ?_
  unfold B24
  refine usei (rcut w 18446744073709551615 (by omega) 0 b ⟨by omega, by omega⟩) ⟨_, rfl, ?_, rfl⟩
  congr 2
  unfold cutW
  have hk := clampW_le b
  refine (ofB_of_testBit fun i => ?_).symm
  rw [Nat.testBit_two_pow_sub_one]
  unfold bitZ
  rw [show (18446744073709551615 : Nat) = 2 ^ 64 - 1 from rfl, Nat.testBit_two_pow_sub_one]
  by_cases hi : i < clampW b
  · simp [hi]; omega
  · simp [hi]

def lenTab : ByteArray := (⟨(List.toArray (List.append (List.append ([0, 1, 2, 2, 3, 3, 3, 3, 4, 4, 4, 4, 4, 4, 4, 4, 5, 5, 5, 5, 5, 5, 5, 5, 5, 5, 5, 5, 5, 5, 5, 5, 6, 6, 6, 6, 6, 6, 6, 6, 6, 6, 6, 6, 6, 6, 6, 6, 6, 6, 6, 6, 6, 6, 6, 6, 6, 6, 6, 6, 6, 6, 6, 6]) ([7, 7, 7, 7, 7, 7, 7, 7, 7, 7, 7, 7, 7, 7, 7, 7, 7, 7, 7, 7, 7, 7, 7, 7, 7, 7, 7, 7, 7, 7, 7, 7, 7, 7, 7, 7, 7, 7, 7, 7, 7, 7, 7, 7, 7, 7, 7, 7, 7, 7, 7, 7, 7, 7, 7, 7, 7, 7, 7, 7, 7, 7, 7, 7])) (List.append ([8, 8, 8, 8, 8, 8, 8, 8, 8, 8, 8, 8, 8, 8, 8, 8, 8, 8, 8, 8, 8, 8, 8, 8, 8, 8, 8, 8, 8, 8, 8, 8, 8, 8, 8, 8, 8, 8, 8, 8, 8, 8, 8, 8, 8, 8, 8, 8, 8, 8, 8, 8, 8, 8, 8, 8, 8, 8, 8, 8, 8, 8, 8, 8]) ([8, 8, 8, 8, 8, 8, 8, 8, 8, 8, 8, 8, 8, 8, 8, 8, 8, 8, 8, 8, 8, 8, 8, 8, 8, 8, 8, 8, 8, 8, 8, 8, 8, 8, 8, 8, 8, 8, 8, 8, 8, 8, 8, 8, 8, 8, 8, 8, 8, 8, 8, 8, 8, 8, 8, 8, 8, 8, 8, 8, 8, 8, 8, 8]))))⟩ : ByteArray)
theorem lenTab_at : ∀ n : Fin 256, lenTab[n.val]? = some (UInt8.ofNat (Lib.bitLen n.val)) ∧ Lib.bitLen n.val ≤ 8 := by decide +kernel
theorem lenAt {e : Int} (b : Nat) (he : e = b) (hb : b < 256) {K : UInt8 → Prop} (h : ∀ c : UInt8, c.toNat = Lib.bitLen b → Lib.bitLen b ≤ 8 → K c) :
    ∃ c : UInt8, 0 ≤ IntKind.u8.wrap e ∧ lenTab[(IntKind.u8.wrap e).toNat]? = some c ∧ K c := by
  have ht := lenTab_at ⟨b, hb⟩
  rw [he, wu8 ⟨by omega, by omega⟩]
  refine ⟨_, by omega, by rw [Int.toNat_natCast]; exact ht.1, h _ ?_ ht.2⟩
  have := ht.2
  simp only at this
  rw [UInt8.toNat_ofNat_of_lt' (by simp only [UInt8.size]; omega)]

theorem len64 (w : World) (x : Nat) (hx : x < 18446744073709551616) : Is 62 #[.int .u64 x] w (.int .i64 (Lib.bitLen x)) := by
  refine c62 _ _ _ ?_
  unfold B62
  have sh : ∀ (m : Nat) (k : Nat), m < 18446744073709551616 → shR .u64 (m : Int) (k : Int) = ((m / 2 ^ k : Nat) : Int) := fun m k hm => shrC hm
  have s32 : shR .u64 (x : Int) 32 = ((x / 4294967296 : Nat) : Int) := sh x 32 hx
  have s16 : shR .u64 (x : Int) 16 = ((x / 65536 : Nat) : Int) := sh x 16 hx
  have s8 : shR .u64 (x : Int) 8 = ((x / 256 : Nat) : Int) := sh x 8 hx
  have t16 : shR .u64 ((x / 4294967296 : Nat) : Int) 16 = ((x / 4294967296 / 65536 : Nat) : Int) := sh _ 16 (by omega)
  have t8 : shR .u64 ((x / 4294967296 : Nat) : Int) 8 = ((x / 4294967296 / 256 : Nat) : Int) := sh _ 8 (by omega)
  have u8 : shR .u64 ((x / 65536 : Nat) : Int) 8 = ((x / 65536 / 256 : Nat) : Int) := sh _ 8 (by omega)
  have v8 : shR .u64 ((x / 4294967296 / 65536 : Nat) : Int) 8 = ((x / 4294967296 / 65536 / 256 : Nat) : Int) := sh _ 8 (by omega)
  simp only [s32, s16, s8, t16, t8, u8, v8]
  refine br_dec (fun h => ⟨by omega, ?_⟩) (fun h => ?_)
  · have e := Lib.bitLen_shift32 x (by omega) hx
    have lt : x / 4294967296 < 4294967296 := by omega
    generalize x / 4294967296 = y at *
    refine br_dec (fun h1 => ⟨by omega, ?_⟩) (fun h1 => ?_)
    · have e1 := Lib.bitLen_shift16 y (by omega) (by omega)
      have lt1 : y / 65536 < 65536 := by omega
      generalize y / 65536 = z at *
      refine br_dec (fun h2 => ⟨by omega, ?_⟩) (fun h2 => ?_)
      · have e2 := Lib.bitLen_shift8 z (by omega) (by omega)
        refine lenAt (z / 256) rfl (by omega) fun c hc hl => ?_
        refine ⟨congrArg _ ?_, trivial⟩
        rw [hc]; simp (disch := omega) only [w64]; omega
      · refine lenAt z rfl (by omega) fun c hc hl => ?_
        refine ⟨congrArg _ ?_, trivial⟩
        rw [hc]; simp (disch := omega) only [w64]; omega
    · refine br_dec (fun h2 => ⟨by omega, ?_⟩) (fun h2 => ?_)
      · have e2 := Lib.bitLen_shift8 y (by omega) (by omega)
        refine lenAt (y / 256) rfl (by omega) fun c hc hl => ?_
        refine ⟨congrArg _ ?_, trivial⟩
        rw [hc]; simp (disch := omega) only [w64]; omega
      · refine lenAt y rfl (by omega) fun c hc hl => ?_
        refine ⟨congrArg _ ?_, trivial⟩
        rw [hc]; simp (disch := omega) only [w64]; omega
  · refine br_dec (fun h1 => ⟨by omega, ?_⟩) (fun h1 => ?_)
    · have e1 := Lib.bitLen_shift16 x (by omega) (by omega)
      have lt1 : x / 65536 < 65536 := by omega
      generalize x / 65536 = z at *
      refine br_dec (fun h2 => ⟨by omega, ?_⟩) (fun h2 => ?_)
      · have e2 := Lib.bitLen_shift8 z (by omega) (by omega)
        refine lenAt (z / 256) rfl (by omega) fun c hc hl => ?_
        refine ⟨congrArg _ ?_, trivial⟩
        rw [hc]; simp (disch := omega) only [w64]; omega
      · refine lenAt z rfl (by omega) fun c hc hl => ?_
        refine ⟨congrArg _ ?_, trivial⟩
        rw [hc]; simp (disch := omega) only [w64]; omega
    · refine br_dec (fun h2 => ⟨by omega, ?_⟩) (fun h2 => ?_)
      · have e2 := Lib.bitLen_shift8 x (by omega) (by omega)
        refine lenAt (x / 256) rfl (by omega) fun c hc hl => ?_
        refine ⟨congrArg _ ?_, trivial⟩
        rw [hc]; simp (disch := omega) only [w64]; omega
      · refine lenAt x rfl (by omega) fun c hc hl => ?_
        refine ⟨congrArg _ ?_, trivial⟩
        rw [hc]; simp (disch := omega) only [w64]; omega

theorem width (w : World) (x : Nat) (hx : x < 18446744073709551616) : Is 25 #[.int .u64 x] w (.int .i64 (Lib.bitLen x)) := by
  refine c25 _ _ _ ?_
  unfold B25
  exact usei (len64 w x hx) ⟨_, rfl, rfl, rfl⟩

theorem rwidth (w : World) (x : Nat) (hx : x < 18446744073709551616) : Is 26 #[.int .u64 x] w (.int .i64 (Lib.bitLen x)) := by
  refine c26 _ _ _ ?_
  unfold B26
  refine ⟨fun y n w' => w' = w ∧ ∃ m : Nat, y = (m : Int) ∧ m ≤ x ∧ n + Lib.bitLen m = Lib.bitLen x ∧ 0 ≤ n, fun y _ _ => y.toNat, ⟨rfl, x, rfl, by omega, by omega, by omega⟩, ?_⟩
  rintro y n w' ⟨rfl, m, rfl, hm, hn, h0⟩
  have hb : Lib.bitLen x ≤ 64 := Lib.bitLen_le x 64 (by omega) (by simpa using hx)
  refine br_dec (fun h => ⟨by omega, ⟨rfl, m / 2, ?_, by omega, ?_, ?_⟩, ?_⟩) (fun h => ?_)
  · rw [Int.tdiv_eq_ediv_of_nonneg (by omega), wu64 ⟨by omega, by omega⟩]; omega
  · have := Lib.bitLen_half m (by omega) (by omega)
    rw [w64 ⟨by omega, by omega⟩]; omega
  · rw [w64 ⟨by omega, by omega⟩]; omega
  · dsimp only; rw [Int.tdiv_eq_ediv_of_nonneg (by omega), wu64 ⟨by omega, by omega⟩]; omega
  · obtain rfl : m = 0 := by omega
    have : Lib.bitLen 0 = 0 := by decide
    rw [show n = (Lib.bitLen x : Int) by omega]
    exact ⟨rfl, rfl⟩

theorem live1 (w : World) : Is 17 #[] w (.bool true) := by
  refine c17 _ _ ?_
  unfold B17
  refine usei (ones w 22 (by omega)) ⟨_, rfl, br_dec (fun _ => ?_) (fun h => absurd (by decide +kernel) h)⟩
  refine usei (rank w 22 (by omega) 3) ⟨_, rfl, br_dec (fun _ => ?_) (fun h => absurd (by decide +kernel) h)⟩
  refine use (select w 22 (by omega) 2) ?_
  rintro _ _ ⟨rfl, r, rfl, hr⟩
  have h4 : SelP 22 2 4 := .inr ⟨4, rfl, by omega, by decide, by decide⟩
  obtain rfl := hr.one h4
  refine ⟨_, rfl, br_dec (fun _ => ?_) (fun h => absurd rfl h)⟩
  refine usei (cut _ 22 (by omega) 1 3 ⟨by omega, by omega⟩) ⟨_, rfl, br_dec (fun _ => ?_) (fun h => absurd (by decide +kernel) h)⟩
  refine usei (width _ 22 (by omega)) ⟨_, rfl, ?_, rfl⟩
  have : Lib.bitLen 22 = 5 := by decide +kernel
  rw [this]; rfl

theorem laneCounts (w : World) (x : Nat) (hx : x < 18446744073709551616) (p : Int) (hp : p ≤ 9223372036854775807) : Is 3 #[.int .u64 x, .int .i64 p] w (.bool true) := by
  refine c3 _ _ _ _ ?_
  unfold B3
  refine usei (ones w x hx) ⟨_, rfl, usei (rrank w x hx 64 (by omega)) ⟨_, rfl, br_dec (fun _ => ?_) (fun h => absurd rfl h)⟩⟩
  refine usei (rank w x hx p) ⟨_, rfl, usei (rrank w x hx p hp) ⟨_, rfl, br_dec (fun _ => ?_) (fun h => absurd rfl h)⟩⟩
  exact usei (live1 w) ⟨_, rfl, rfl, rfl⟩

theorem laneSelects (w : World) (x : Nat) (hx : x < 18446744073709551616) (n : Int) : Is 4 #[.int .u64 x, .int .i64 n] w (.bool true) := by
  refine c4 _ _ _ _ ?_
  unfold B4
  refine use (select w x hx n) ?_
  rintro _ _ ⟨rfl, r, rfl, hr⟩
  refine ⟨_, rfl, use (rselect _ x hx n) ?_⟩
  rintro _ w ⟨rfl, s, rfl, hs⟩
  obtain rfl := hr.one hs
  refine ⟨_, rfl, br_not (br_dec (fun _ => ?_) (fun h => absurd rfl h))⟩
  have tail : Calls Try.prog 20 #[.int .u64 x, .int .i64 n] w (Rv fun v25 w26 => ∃ b27 : Bool, v25 = .bool b27 ∧
    br (!b27) (Calls Try.prog 17 #[] w26 (Rv fun v28 w29 => ∃ b30 : Bool, v28 = .bool b30 ∧
    (Value.bool b30 = .bool true ∧ w29 = w))) (Calls Try.prog 16 #[.int .u64 x, .int .i64 n] w26 (Rv fun v31 w32 => ∃ n33 : Int, v31 = .int .i64 n33 ∧
    Calls Try.prog 18 #[.int .u64 x, .int .i64 n33] w32 (Rv fun v34 w35 => ∃ n36 : Int, v34 = .int .i64 n36 ∧
    br (decide (n36 = n)) (Calls Try.prog 17 #[] w35 (Rv fun v37 w38 => ∃ b39 : Bool, v37 = .bool b39 ∧ (Value.bool b39 = .bool true ∧ w38 = w))) (Value.bool false = .bool true ∧ w35 = w))))) := by
    refine usei (rbit w x hx n) ⟨_, rfl, br_not (br_of (fun h => ?_) (fun _ => usei (live1 w) ⟨_, rfl, rfl, rfl⟩))⟩
    refine usei (rank w x hx n) ⟨_, rfl, use (select w x hx _) ?_⟩
    rintro _ w2 ⟨rfl, s, rfl, hs⟩
    refine ⟨_, rfl, br_dec (fun _ => usei (live1 _) ⟨_, rfl, rfl, rfl⟩) (fun h2 => absurd ?_ h2)⟩
    obtain ⟨h0, hb⟩ : 0 ≤ n ∧ x.testBit n.toNat = true := by simpa [bitZ] using h
    have hlt : n.toNat < 64 := by
      by_cases h3 : n.toNat < 64
      · exact h3
      · rw [tb_lt hx (by omega)] at hb; exact absurd hb (by simp)
    have hk : clampW n = n.toNat := by unfold clampW; omega
    exact hs.one (.inr ⟨n.toNat, by omega, hlt, hb, by rw [hk]⟩)
  refine br_dec (fun h => ?_) (fun _ => tail)
  refine usei (rank w x hx r) ⟨_, rfl, br_not (br_dec (fun _ => tail) (fun h2 => absurd ?_ h2))⟩
  rcases hr with ⟨rfl, _⟩ | ⟨a, rfl, ha, hb, hc⟩
  · omega
  · have hk : clampW a = a := by unfold clampW; omega
    rw [hk, hc]

theorem laneCuts (w : World) (x : Nat) (hx : x < 18446744073709551616) (a b : Int) (ha : -9223372036854775808 ≤ a ∧ a ≤ 9223372036854775807) : Is 5 #[.int .u64 x, .int .i64 a, .int .i64 b] w (.bool true) := by
  refine c5 _ _ _ _ _ ?_
  unfold B5
  refine usei (cut w x hx a b ha) ⟨_, rfl, usei (rcut w x hx a b ha) ⟨_, rfl, br_dec (fun _ => ?_) (fun h => absurd rfl h)⟩⟩
  refine usei (mask w b) ⟨_, rfl, usei (rmask w b) ⟨_, rfl, br_dec (fun _ => ?_) (fun h => absurd rfl h)⟩⟩
  refine usei (width w x hx) ⟨_, rfl, usei (rwidth w x hx) ⟨_, rfl, br_dec (fun _ => ?_) (fun h => absurd rfl h)⟩⟩
  exact usei (live1 w) ⟨_, rfl, rfl, rfl⟩
end Go.Proofs.Ytlobkadfmgnlmaa.V
