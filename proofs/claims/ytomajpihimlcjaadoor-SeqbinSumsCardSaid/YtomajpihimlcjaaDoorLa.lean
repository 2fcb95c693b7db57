/- What the functions of the lane chapter compute: the words' own functions and the plain ones they are held against. Calls that answer and leave all that was as it was; the blocks of an object with one slice. Ranges over functions: lemmas for those who use the conditions. No program here. Opening what a law is handed: slices of structs of two integers, slices of integers. No program here. Rows of bits: a list of bits and the words that hold it. No program here. The places at which bits are as told. No program here. Codes of numbers as bits: written, read. No program here. Numbers that do not fall, as Elias and Fano told: the bits of the upper parts. No program here. Numbers that do not fall: what is asked of them, and that the answers are unique. No program here. Numbers that do not fall: what their upper and lower parts tell. No program here. -/
import Derived.Test.YtomajpihimlcjaaDoorBL
import Derived.Test.YtomajpihimlcjaaDoorVb
import Derived.Lib.BitFns
import Derived.Deep.SlicePairs
import Derived.OpenShut
namespace Go.VC
open Go

/-- A place within the word's 64. -/
def clampW (p : Int) : Nat := (min (max p 0) 64).toNat
theorem clampW_le (p : Int) : clampW p ≤ 64 := by unfold clampW; omega
/-- The bit at a place; outside of the word there is none. -/
def bitZ (x : Nat) (i : Int) : Bool := decide (0 ≤ i) && x.testBit i.toNat

theorem mod_two_pow_lt64 (x k : Nat) (hk : k ≤ 64) : x % 2 ^ k < 18446744073709551616 :=
  Nat.lt_of_lt_of_le (Nat.mod_lt _ (Nat.two_pow_pos k)) (by
    have : 2 ^ k ≤ 2 ^ 64 := Nat.pow_le_pow_right (by omega) hk
    simpa using this)
theorem pc_mod (x k : Nat) (hk : k ≤ 64) : pc (x % 2 ^ k) = cnt x.testBit k := by
  unfold pc
  obtain ⟨j, hj⟩ : ∃ j, 64 = k + j := ⟨64 - k, by omega⟩
  rw [hj, cnt_add]
  have h1 : cnt (x % 2 ^ k).testBit k = cnt x.testBit k := cnt_congr fun i hi => by simp [Nat.testBit_mod_two_pow, hi]
  have h2 : cnt (fun i => (x % 2 ^ k).testBit (k + i)) j = 0 := by
    rw [cnt_congr (q := fun _ => false) (fun i _ => by simp only [Nat.testBit_mod_two_pow]; simp; omega)]
    exact cnt_false _
  omega
theorem and_mask (x k : Nat) : x &&& (2 ^ k - 1) = x % 2 ^ k := Nat.and_two_pow_sub_one_eq_mod x k
theorem cnt_shift (x a k : Nat) : cnt (x >>> a).testBit k = cnt (fun i => x.testBit (a + i)) k :=
  cnt_congr fun _ _ => Nat.testBit_shiftRight x
theorem cnt_find (p : Nat → Bool) : ∀ (n m : Nat), m < cnt p n → ∃ a, a < n ∧ p a = true ∧ cnt p a = m
  | 0, _, h => absurd h (by simp [cnt])
  | n + 1, m, h => by
    by_cases h2 : m < cnt p n
    · obtain ⟨a, ha, hb, hc⟩ := cnt_find p n m h2
      exact ⟨a, by omega, hb, hc⟩
    · simp only [cnt] at h
      by_cases hp : p n = true
      · rw [if_pos hp] at h
        exact ⟨n, by omega, hp, by omega⟩
      · rw [if_neg hp] at h
        omega
/-- Where the n-th one stands. -/
def SelP (x : Nat) (n r : Int) : Prop :=
  (r = -1 ∧ (n < 0 ∨ (pc x : Int) ≤ n)) ∨ ∃ a : Nat, r = a ∧ a < 64 ∧ x.testBit a = true ∧ (cnt x.testBit a : Int) = n
theorem cnt_lt {p : Nat → Bool} {a b : Nat} (ha : p a = true) (h : a < b) : cnt p a < cnt p b := by
  have h1 : cnt p (a + 1) = cnt p a + 1 := by simp [cnt, ha]
  have := cnt_mono p (m := a + 1) (n := b) (by omega)
  omega
theorem SelP.one {x : Nat} {n r s : Int} (h : SelP x n r) (g : SelP x n s) : r = s := by
  rcases h with ⟨rfl, h⟩ | ⟨a, rfl, ha, hb, hc⟩ <;> rcases g with ⟨rfl, g⟩ | ⟨b, rfl, ga, gb, gc⟩
  · rfl
  · have := cnt_lt gb ga; unfold pc at h; omega
  · have := cnt_lt hb ha; unfold pc at g; omega
  · rcases Nat.lt_trichotomy a b with h | h | h
    · have := cnt_lt hb h; omega
    · rw [h]
    · have := cnt_lt gb h; omega

theorem tb_div (x i : Nat) : x.testBit i = decide (x / 2 ^ i % 2 = 1) := by
  rw [Nat.testBit_eq_decide_div_mod_eq]
end Go.VC

namespace Go.Proofs.YtomajpihimlcjaaDoor.V
open Go Go.VC

/-- The call answers this and leaves the world as it was. -/
abbrev Is (f : Nat) (args : Array Value) (w : World) (v : Value) : Prop := Calls Tryd.prog f args w (Rv fun u w' => u = v ∧ w' = w)
theorem usei {f : Nat} {args : Array Value} {w : World} {v : Value} {R : Value → World → Prop} (h : Is f args w v) (k : R v w) : Calls Tryd.prog f args w (Rv R) :=
  use h (by rintro _ _ ⟨rfl, rfl⟩; exact k)

theorem ones64 (w : World) (x : Nat) (hx : x < 18446744073709551616) : Is 133 #[.int .u64 x] w (.int .i64 (pc x)) := by
  refine c133 _ _ _ ?_
  unfold B133
  refine ⟨by omega, by omega, by omega, by omega, by omega, by omega, ?_⟩
  obtain ⟨_, _, _, _, q1, q2, q3, q4, q5, q6, q7⟩ := swarI x hx
  rw [q1, q2, q3, q4, q5, q6, q7]
  exact ⟨rfl, rfl⟩
theorem within (w : World) (p : Int) : Is 135 #[.int .i64 p] w (.int .i64 (clampW p)) := by
  refine c135 _ _ _ ?_
  unfold B135
  have : min (max p 0) 64 = (clampW p : Int) := by unfold clampW; omega
  rw [this]
  exact ⟨rfl, rfl⟩

theorem mask (w : World) (p : Int) : Is 88 #[.int .i64 p] w (.int .u64 ((2 ^ clampW p - 1 : Nat) : Int)) := by
  refine c88 _ _ _ ?_
  unfold B88
  refine usei (within w p) ⟨_, rfl, ?_⟩
  have hk := clampW_le p
  generalize clampW p = k at *
  refine br_dec (fun h => ?_) (fun h => ?_)
  · have : k = 64 := by omega
    subst this
    exact ⟨rfl, rfl⟩
  · rw [wu64 ⟨by omega, by omega⟩]
    refine ⟨by omega, ?_⟩
    have h2 : (2 : Nat) ^ k < 18446744073709551616 := by
      have : (2 : Nat) ^ k < 2 ^ 64 := Nat.pow_lt_pow_right (by omega) (by omega)
      omega
    have h3 := Nat.two_pow_pos k
    have h4 : shL .u64 1 (k : Int) = ((2 ^ k : Nat) : Int) := by
      have := shl_u64 1 k
      rw [Nat.shiftLeft_eq, Nat.one_mul, Nat.mod_eq_of_lt h2] at this
      exact this
    rw [h4, show ((2 ^ k : Nat) : Int) - 1 = ((2 ^ k - 1 : Nat) : Int) by omega, wu64 ⟨by omega, by omega⟩]
    exact ⟨rfl, rfl⟩

theorem ones (w : World) (x : Nat) (hx : x < 18446744073709551616) : Is 77 #[.int .u64 x] w (.int .i64 (pc x)) := by
  refine c77 _ _ _ ?_
  unfold B77
  exact usei (ones64 w x hx) ⟨_, rfl, rfl, rfl⟩

theorem mask_lt (k : Nat) (hk : k ≤ 64) : 2 ^ k - 1 < 18446744073709551616 := by
  have : (2 : Nat) ^ k ≤ 2 ^ 64 := Nat.pow_le_pow_right (by omega) hk
  have : 0 < (2 : Nat) ^ k := Nat.two_pow_pos k
  omega
theorem low (x p : Nat) (hx : x < 18446744073709551616) (hp : p ≤ 64) : bAnd .u64 (x : Int) ((2 ^ p - 1 : Nat) : Int) = ((x % 2 ^ p : Nat) : Int) := by
  rw [and_u64 hx (mask_lt p hp), and_mask]

theorem rank (w : World) (x : Nat) (hx : x < 18446744073709551616) (p : Int) : Is 78 #[.int .u64 x, .int .i64 p] w (.int .i64 (cnt x.testBit (clampW p))) := by
  refine c78 _ _ _ _ ?_
  unfold B78
  refine usei (mask w p) ⟨_, rfl, ?_⟩
  have hk := clampW_le p
  rw [low x _ hx hk]
  refine usei (ones64 w _ (mod_two_pow_lt64 x _ hk)) ⟨_, rfl, ?_⟩
  rw [pc_mod _ _ hk]
  exact ⟨rfl, rfl⟩

theorem rbit (w : World) (x : Nat) (hx : x < 18446744073709551616) (i : Int) : Is 76 #[.int .u64 x, .int .i64 i] w (.bool (bitZ x i)) := by
  refine c76 _ _ _ _ ?_
  unfold B76
  refine br_dec (fun h => ?_) (fun h => br_dec (fun h2 => ?_) (fun h2 => ?_))
  · refine ⟨?_, rfl⟩
    unfold bitZ
    simp [show ¬ 0 ≤ i by omega]
  · refine ⟨?_, rfl⟩
    unfold bitZ
    rw [tb_lt hx (by omega)]
    simp
  · obtain ⟨k, rfl⟩ : ∃ k : Nat, i = k := ⟨i.toNat, by omega⟩
    refine ⟨fun y j w' => w' = w ∧ ∃ m : Nat, j = m ∧ m ≤ k ∧ y = ((x / 2 ^ m : Nat) : Int), fun _ j _ => ((k : Int) - j).toNat, ⟨rfl, 0, rfl, by omega, by simp⟩, ?_⟩
    rintro y j w' ⟨rfl, m, rfl, hm, rfl⟩
    have hlt : x / 2 ^ m < 18446744073709551616 := Nat.lt_of_le_of_lt (Nat.div_le_self _ _) hx
    refine br_dec (fun h3 => ⟨by omega, ⟨rfl, m + 1, ?_, by omega, ?_⟩, ?_⟩) (fun h3 => ⟨by omega, ?_, rfl⟩)
    · rw [w64 ⟨by omega, by omega⟩]; omega
    · rw [Nat.pow_succ, ← Nat.div_div_eq_div_mul]
      generalize x / 2 ^ m = y at *
      rw [Int.tdiv_eq_ediv_of_nonneg (by omega), wu64 ⟨by omega, by omega⟩]
      omega
    · dsimp only; rw [w64 ⟨by omega, by omega⟩]; omega
    · have : m = k := by omega
      subst this
      unfold bitZ
      rw [Int.toNat_natCast, tb_div]
      generalize x / 2 ^ m = y at *
      rw [Int.tmod_eq_emod_of_nonneg (by omega)]
      simp
      omega

theorem rrank (w : World) (x : Nat) (hx : x < 18446744073709551616) (p : Int) (hp : p ≤ 9223372036854775807) : Is 14 #[.int .u64 x, .int .i64 p] w (.int .i64 (cnt x.testBit (clampW p))) := by
  refine c14 _ _ _ _ ?_
  unfold B14
  refine ⟨fun n j w' => w' = w ∧ ∃ m : Nat, j = m ∧ m ≤ clampW p ∧ n = (cnt x.testBit m : Int), fun _ j _ => (64 - j).toNat, ⟨rfl, 0, rfl, by omega, rfl⟩, ?_⟩
  rintro n j w' ⟨rfl, m, rfl, hm, rfl⟩
  have hk := clampW_le p
  have hcm := cnt_le x.testBit m
  refine br_dec (fun h => br_dec (fun h2 => usei (rbit w' x hx m) ⟨_, rfl, br_of (fun h3 => ?_) (fun h3 => ?_)⟩) (fun h2 => ?_)) (fun h2 => ?_)
  · have hb : x.testBit m = true := by simpa [bitZ] using h3
    rw [w64 ⟨by omega, by omega⟩, w64 ⟨by omega, by omega⟩]
    exact ⟨⟨rfl, m + 1, by omega, by unfold clampW; omega, by simp [cnt, hb]⟩, by dsimp only; omega⟩
  · have hb : x.testBit m = false := by simpa [bitZ] using h3
    rw [w64 ⟨by omega, by omega⟩]
    exact ⟨⟨rfl, m + 1, by omega, by unfold clampW; omega, by simp [cnt, hb]⟩, by dsimp only; omega⟩
  · have : m = clampW p := by unfold clampW at *; omega
    rw [this]; exact ⟨rfl, rfl⟩
  · have : m = clampW p := by unfold clampW at *; omega
    rw [this]; exact ⟨rfl, rfl⟩

theorem shr_cast {x : Nat} (hx : x < 18446744073709551616) (a : Nat) (ha : a ≤ 64) : shR .u64 (x : Int) (IntKind.u64.wrap (a : Int)) = ((x >>> a : Nat) : Int) := by
  rw [wu64 ⟨by omega, by omega⟩, shr_u64 hx]
theorem shr_lt {x : Nat} (hx : x < 18446744073709551616) (a : Nat) : x >>> a < 18446744073709551616 :=
  Nat.lt_of_le_of_lt (by rw [Nat.shiftRight_eq_div_pow]; exact Nat.div_le_self _ _) hx

theorem select (w : World) (x : Nat) (hx : x < 18446744073709551616) (n : Int) :
    Calls Tryd.prog 79 #[.int .u64 x, .int .i64 n] w (Rv fun v w' => w' = w ∧ ∃ r : Int, v = .int .i64 r ∧ SelP x n r) := by
  refine c79 _ _ _ _ ?_
  unfold B79
  have hpc : pc x ≤ 64 := cnt_le _ _
  refine br_dec (fun h => ⟨rfl, _, rfl, .inl ⟨rfl, .inl h⟩⟩) (fun h => usei (ones64 w x hx) ⟨_, rfl, br_dec (fun h2 => ⟨rfl, _, rfl, .inl ⟨rfl, .inr h2⟩⟩) (fun h2 => ?_)⟩)
  refine ⟨fun m a d w' => w' = w ∧ ∃ a' d' : Nat, a = a' ∧ d = d' ∧ d' ≤ 32 ∧ (d' = 0 ∨ d' = 1 ∨ d' = 2 ∨ d' = 4 ∨ d' = 8 ∨ d' = 16 ∨ d' = 32) ∧ a' + (if d' = 0 then 1 else 2 * d') ≤ 64 ∧
      (m = n - cnt x.testBit a') ∧ (cnt x.testBit a' : Int) ≤ n ∧ n < (cnt x.testBit (a' + (if d' = 0 then 1 else 2 * d')) : Int), fun _ _ d _ => d.toNat,
    ⟨rfl, 0, 32, rfl, rfl, by omega, by omega, by decide, by simp [cnt], by simp [cnt]; omega, ?_⟩, ?_⟩
  · have : pc x = cnt x.testBit (0 + 2 * 32) := rfl
    rw [if_neg (by omega)]; omega
  · rintro m a d w' ⟨rfl, a, d, rfl, rfl, hd, hd2, had, rfl, hl, hr⟩
    refine br_dec (fun h3 => ?_) (fun h3 => ?_)
    · rw [if_neg (by omega)] at had hr
      have hk : clampW d = d := by unfold clampW; omega
      refine ⟨by rw [wu64 ⟨by omega, by omega⟩]; omega, usei (mask w' d) ⟨_, rfl, ?_⟩⟩
      rw [shr_cast hx a (by omega), hk, low _ _ (shr_lt hx a) (by omega)]
      refine usei (ones64 w' _ (mod_two_pow_lt64 _ _ (by omega))) ⟨_, rfl, ?_⟩
      rw [pc_mod _ _ (by omega), cnt_shift]
      have e1 := cnt_add x.testBit a d
      have e2 := cnt_le x.testBit (a + d)
      have e3 := cnt_le x.testBit a
      generalize hq : cnt (fun i => x.testBit (a + i)) d = q at *
      have hdd : Int.tdiv (d : Int) 2 = ((d / 2 : Nat) : Int) := by rw [Int.tdiv_eq_ediv_of_nonneg (by omega)]; omega
      rw [hdd, w64 (x := ((d / 2 : Nat) : Int)) ⟨by omega, by omega⟩]
      have hn : n < 64 := by omega
      refine br_dec (fun h4 => ⟨by omega, ⟨rfl, a + d, d / 2, ?_, rfl, by omega, by omega, ?_, ?_, ?_, ?_⟩, by dsimp only; omega⟩) (fun h4 => ⟨by omega, ⟨rfl, a, d / 2, rfl, rfl, by omega, by omega, ?_, rfl, hl, ?_⟩, by dsimp only; omega⟩)
      · rw [w64 ⟨by omega, by omega⟩]; omega
      · split <;> omega
      · rw [w64 ⟨by omega, by omega⟩]; omega
      · omega
      · have : a + d + (if d / 2 = 0 then 1 else 2 * (d / 2)) = a + 2 * d := by split <;> omega
        rw [this]; exact hr
      · split <;> omega
      · have : a + (if d / 2 = 0 then 1 else 2 * (d / 2)) = a + d := by split <;> omega
        rw [this]; omega
    · obtain rfl : d = 0 := by omega
      simp only [if_true] at had hr
      refine ⟨rfl, _, rfl, .inr ⟨a, rfl, by omega, ?_, ?_⟩⟩
      · by_cases hb : x.testBit a = true
        · exact hb
        · simp only [cnt, hb] at hr; simp at hr; omega
      · simp only [cnt] at hr; split at hr <;> omega

theorem rselect (w : World) (x : Nat) (hx : x < 18446744073709551616) (n : Int) :
    Calls Tryd.prog 13 #[.int .u64 x, .int .i64 n] w (Rv fun v w' => w' = w ∧ ∃ r : Int, v = .int .i64 r ∧ SelP x n r) := by
  refine c13 _ _ _ _ ?_
  unfold B13
  refine ⟨fun i w' => w' = w ∧ ∃ m : Nat, i = m ∧ m ≤ 64 ∧ ∀ j, j < m → x.testBit j = true → (cnt x.testBit j : Int) ≠ n, fun i _ => (64 - i).toNat, ⟨rfl, 0, rfl, by omega, fun j hj => by omega⟩, ?_⟩
  rintro i w' ⟨rfl, m, rfl, hm, hj⟩
  refine br_dec (fun h => usei (rbit w' x hx m) ⟨_, rfl, br_of (fun h3 => ?_) (fun h3 => ?_)⟩) (fun h => ?_)
  · have hb : x.testBit m = true := by simpa [bitZ] using h3
    have hk : clampW m = m := by unfold clampW; omega
    refine usei (rrank w' x hx m (by omega)) ⟨_, rfl, ?_⟩
    rw [hk]
    refine br_dec (fun h4 => ⟨rfl, _, rfl, .inr ⟨m, rfl, by omega, hb, h4⟩⟩) (fun h4 => ?_)
    rw [w64 ⟨by omega, by omega⟩]
    refine ⟨⟨rfl, m + 1, by omega, by omega, fun j hj2 hb2 => ?_⟩, by dsimp only; omega⟩
    by_cases e : j = m
    · subst e; exact h4
    · exact hj j (by omega) hb2
  · have hb : x.testBit m = false := by simpa [bitZ] using h3
    rw [w64 ⟨by omega, by omega⟩]
    refine ⟨⟨rfl, m + 1, by omega, by omega, fun j hj2 hb2 => ?_⟩, by dsimp only; omega⟩
    by_cases e : j = m
    · subst e; rw [hb] at hb2; exact absurd hb2 (by simp)
    · exact hj j (by omega) hb2
  · obtain rfl : m = 64 := by omega
    refine ⟨rfl, _, rfl, .inl ⟨rfl, ?_⟩⟩
    by_cases h0 : n < 0
    · exact .inl h0
    · by_cases h1 : (pc x : Int) ≤ n
      · exact .inr h1
      · obtain ⟨k, rfl⟩ : ∃ k : Nat, n = k := ⟨n.toNat, by omega⟩
        obtain ⟨a, ha, hb, hc⟩ := cnt_find x.testBit 64 k (by unfold pc at h1; omega)
        exact absurd (by rw [hc]) (hj a ha hb)

/-- The bits of a word from a place on, so many. -/
def cutW (x : Nat) (a b : Int) : Nat := ofB (fun i => bitZ x (a + i)) (clampW b)
theorem ofB_false (n : Nat) : ofB (fun _ => false) n = 0 := by
  induction n with
  | zero => rfl
  | succ n ih => simp [ofB, ih]
theorem ofB_of_testBit {m n : Nat} {p : Nat → Bool} (h : ∀ i, m.testBit i = (decide (i < n) && p i)) : m = ofB p n :=
  Nat.eq_of_testBit_eq fun i => by rw [h, testBit_ofB]

theorem cut (w : World) (x : Nat) (hx : x < 18446744073709551616) (a b : Int) (ha : -9223372036854775808 ≤ a ∧ a ≤ 9223372036854775807) :
    Is 80 #[.int .u64 x, .int .i64 a, .int .i64 b] w (.int .u64 (cutW x a b)) := by
  refine c80 _ _ _ _ _ ?_
  unfold B80
  have z : ∀ {q : Prop}, (q → cutW x a b = 0) → q → (Value.int .u64 0 = Value.int .u64 (cutW x a b) ∧ w = w) := fun h hq => ⟨by rw [h hq]; rfl, rfl⟩
  have hk := clampW_le b
  refine br_dec (z fun h => ?_) (fun h => br_dec (z fun h2 => ?_) (fun h2 => br_dec (z fun h3 => ?_) (fun h3 => br_dec (fun h4 => ?_) (fun h4 => ?_))))
  · have : clampW b = 0 := by unfold clampW; omega
    unfold cutW; rw [this]; rfl
  · unfold cutW
    rw [ofB_congr (q := fun _ => false), ofB_false]
    intro i hi
    unfold bitZ
    rw [tb_lt hx (by omega)]; simp
  · unfold cutW
    rw [ofB_congr (q := fun _ => false), ofB_false]
    intro i hi
    unfold bitZ
    simp; omega
  · obtain ⟨k, rfl⟩ : ∃ k : Nat, a = -(k : Int) := ⟨(-a).toNat, by omega⟩
    have e : IntKind.u64.wrap (IntKind.i64.wrap (0 - -(k : Int))) = (k : Int) := by
      rw [w64 ⟨by omega, by omega⟩, wu64 ⟨by omega, by omega⟩]; omega
    rw [e]
    refine ⟨by omega, usei (mask w b) ⟨_, rfl, ?_, rfl⟩⟩
    rw [shl_u64, low _ _ (Nat.mod_lt _ (by omega)) hk]
    congr 2
    refine ofB_of_testBit fun i => ?_
    rw [Nat.testBit_mod_two_pow, show (18446744073709551616 : Nat) = 2 ^ 64 from rfl, Nat.testBit_mod_two_pow, Nat.testBit_shiftLeft]
    unfold bitZ
    by_cases hi : i < clampW b
    · simp only [hi, decide_true, Bool.true_and, show i < 64 by omega]
      by_cases h5 : k ≤ i
      · simp [h5, show (0 : Int) ≤ -(k : Int) + i by omega, show (-(k : Int) + i).toNat = i - k by omega]
      · simp [h5, show ¬ (0 : Int) ≤ -(k : Int) + i by omega]
    · simp [hi]
  · obtain ⟨k, rfl⟩ : ∃ k : Nat, a = (k : Int) := ⟨a.toNat, by omega⟩
    refine ⟨by rw [wu64 ⟨by omega, by omega⟩]; omega, usei (mask w b) ⟨_, rfl, ?_, rfl⟩⟩
    rw [shr_cast hx k (by omega), low _ _ (shr_lt hx k) hk]
    congr 2
    refine ofB_of_testBit fun i => ?_
    rw [Nat.testBit_mod_two_pow, Nat.testBit_shiftRight]
    unfold bitZ
    have : ((k : Int) + i).toNat = k + i := by omega
    simp [this, show (0 : Int) ≤ (k : Int) + i by omega]

theorem rcut (w : World) (x : Nat) (hx : x < 18446744073709551616) (a b : Int) (_ha : -9223372036854775808 ≤ a ∧ a ≤ 9223372036854775807) :
    Is 83 #[.int .u64 x, .int .i64 a, .int .i64 b] w (.int .u64 (cutW x a b)) := by
  refine c83 _ _ _ _ _ ?_
  unfold B83
  refine ⟨fun v o i w' => w' = w ∧ ∃ m : Nat, i = m ∧ m ≤ clampW b ∧ v = (ofB (fun i => bitZ x (a + i)) m : Int) ∧ o = ((2 ^ m % 18446744073709551616 : Nat) : Int), fun _ _ i _ => (64 - i).toNat, ⟨rfl, 0, rfl, by omega, rfl, rfl⟩, ?_⟩
  rintro v o i w' ⟨rfl, m, rfl, hm, rfl, rfl⟩
  have hk := clampW_le b
  have hlt := ofB_lt (fun i => bitZ x (a + i)) m
  have ho : IntKind.u64.wrap (((2 ^ m % 18446744073709551616 : Nat) : Int) * 2) = ((2 ^ (m + 1) % 18446744073709551616 : Nat) : Int) := by
    rw [wu64', Nat.pow_succ]; omega
  refine br_dec (fun h => br_dec (fun h2 => ?_) (fun h2 => ?_)) (fun h2 => ?_)
  · rw [ho, w64 (x := (m : Int) + 1) ⟨by omega, by omega⟩]
    have no : bitZ x (a + m) = false → (fun (v o i : Int) (w'' : World) => w'' = w' ∧ ∃ m : Nat, i = m ∧ m ≤ clampW b ∧ v = (ofB (fun i => bitZ x (a + i)) m : Int) ∧ o = ((2 ^ m % 18446744073709551616 : Nat) : Int)) (ofB (fun i => bitZ x (a + i)) m : Int) ((2 ^ (m + 1) % 18446744073709551616 : Nat) : Int) ((m : Int) + 1) w' := by
      intro hf
      exact ⟨rfl, m + 1, by omega, by unfold clampW; omega, by simp [ofB, hf], rfl⟩
    refine br_dec (fun h3 => br_dec (fun h4 => ?_) (fun h4 => ⟨no ?_, by dsimp only; omega⟩)) (fun h3 => ⟨no ?_, by dsimp only; omega⟩)
    · rw [w64 ⟨by omega, by omega⟩]
      refine usei (rbit w' x hx _) ⟨_, rfl, br_of (fun h5 => ⟨⟨rfl, m + 1, by omega, by unfold clampW; omega, ?_, rfl⟩, by dsimp only; omega⟩) (fun h5 => ⟨no h5, by dsimp only; omega⟩)⟩
      have hp : 2 ^ m < 18446744073709551616 := by
        have : (2 : Nat) ^ m < 2 ^ 64 := Nat.pow_lt_pow_right (by omega) (by omega)
        omega
      have hp2 : 2 ^ (m + 1) ≤ 18446744073709551616 := by
        have : (2 : Nat) ^ (m + 1) ≤ 2 ^ 64 := Nat.pow_le_pow_right (by omega) (by omega)
        omega
      rw [Nat.mod_eq_of_lt hp, addU (by rw [Nat.pow_succ] at hp2; omega)]
      simp [ofB, h5]
    · unfold bitZ; rw [tb_lt hx (by omega)]; simp
    · unfold bitZ; simp; omega
  · have : m = clampW b := by unfold clampW at *; omega
    rw [this]; exact ⟨rfl, rfl⟩
  · have : m = clampW b := by unfold clampW at *; omega
    rw [this]; exact ⟨rfl, rfl⟩

def lenTab : ByteArray := (⟨(List.toArray (List.append (List.append ([0, 1, 2, 2, 3, 3, 3, 3, 4, 4, 4, 4, 4, 4, 4, 4, 5, 5, 5, 5, 5, 5, 5, 5, 5, 5, 5, 5, 5, 5, 5, 5, 6, 6, 6, 6, 6, 6, 6, 6, 6, 6, 6, 6, 6, 6, 6, 6, 6, 6, 6, 6, 6, 6, 6, 6, 6, 6, 6, 6, 6, 6, 6, 6]) ([7, 7, 7, 7, 7, 7, 7, 7, 7, 7, 7, 7, 7, 7, 7, 7, 7, 7, 7, 7, 7, 7, 7, 7, 7, 7, 7, 7, 7, 7, 7, 7, 7, 7, 7, 7, 7, 7, 7, 7, 7, 7, 7, 7, 7, 7, 7, 7, 7, 7, 7, 7, 7, 7, 7, 7, 7, 7, 7, 7, 7, 7, 7, 7])) (List.append ([8, 8, 8, 8, 8, 8, 8, 8, 8, 8, 8, 8, 8, 8, 8, 8, 8, 8, 8, 8, 8, 8, 8, 8, 8, 8, 8, 8, 8, 8, 8, 8, 8, 8, 8, 8, 8, 8, 8, 8, 8, 8, 8, 8, 8, 8, 8, 8, 8, 8, 8, 8, 8, 8, 8, 8, 8, 8, 8, 8, 8, 8, 8, 8]) ([8, 8, 8, 8, 8, 8, 8, 8, 8, 8, 8, 8, 8, 8, 8, 8, 8, 8, 8, 8, 8, 8, 8, 8, 8, 8, 8, 8, 8, 8, 8, 8, 8, 8, 8, 8, 8, 8, 8, 8, 8, 8, 8, 8, 8, 8, 8, 8, 8, 8, 8, 8, 8, 8, 8, 8, 8, 8, 8, 8, 8, 8, 8, 8]))))⟩ : ByteArray)
theorem lenTab_at : ∀ n : Fin 256, lenTab[n.val]? = some (UInt8.ofNat (Lib.bitLen n.val)) ∧ Lib.bitLen n.val ≤ 8 := by decide +kernel
theorem lenAt {e : Int} (b : Nat) (he : e = b) (hb : b < 256) {K : UInt8 → Prop} (h : ∀ c : UInt8, c.toNat = Lib.bitLen b → Lib.bitLen b ≤ 8 → K c) :
    ∃ c : UInt8, 0 ≤ IntKind.u8.wrap e ∧ lenTab[(IntKind.u8.wrap e).toNat]? = some c ∧ K c := by
  have ht := lenTab_at ⟨b, hb⟩
  rw [he, wu8 ⟨by omega, by omega⟩]
  refine ⟨_, by omega, by rw [Int.toNat_natCast]; exact ht.1, h _ ?_ ht.2⟩
  have := ht.2
  simp only at this
  rw [UInt8.toNat_ofNat_of_lt' (by simp only [UInt8.size]; omega)]

theorem len64 (w : World) (x : Nat) (hx : x < 18446744073709551616) : Is 134 #[.int .u64 x] w (.int .i64 (Lib.bitLen x)) := by
  refine c134 _ _ _ ?_
  unfold B134
  have sh : ∀ (m : Nat) (k : Nat), m < 18446744073709551616 → shR .u64 (m : Int) (k : Int) = ((m / 2 ^ k : Nat) : Int) := fun m k hm => shrC hm
  have s32 : shR .u64 (x : Int) 32 = ((x / 4294967296 : Nat) : Int) := sh x 32 hx
  have s16 : shR .u64 (x : Int) 16 = ((x / 65536 : Nat) : Int) := sh x 16 hx
  have s8 : shR .u64 (x : Int) 8 = ((x / 256 : Nat) : Int) := sh x 8 hx
  have t16 : shR .u64 ((x / 4294967296 : Nat) : Int) 16 = ((x / 4294967296 / 65536 : Nat) : Int) := sh _ 16 (by omega)
  have t8 : shR .u64 ((x / 4294967296 : Nat) : Int) 8 = ((x / 4294967296 / 256 : Nat) : Int) := sh _ 8 (by omega)
  have u8 : shR .u64 ((x / 65536 : Nat) : Int) 8 = ((x / 65536 / 256 : Nat) : Int) := sh _ 8 (by omega)
  have v8 : shR .u64 ((x / 4294967296 / 65536 : Nat) : Int) 8 = ((x / 4294967296 / 65536 / 256 : Nat) : Int) := sh _ 8 (by omega)
  simp only [s32, s16, s8, t16, t8, u8, v8]
  refine br_dec (fun h => ⟨by omega, ?_⟩) (fun h => ?_)
  · have e := Lib.bitLen_shift32 x (by omega) hx
    have lt : x / 4294967296 < 4294967296 := by omega
    generalize x / 4294967296 = y at *
    refine br_dec (fun h1 => ⟨by omega, ?_⟩) (fun h1 => ?_)
    · have e1 := Lib.bitLen_shift16 y (by omega) (by omega)
      have lt1 : y / 65536 < 65536 := by omega
      generalize y / 65536 = z at *
      refine br_dec (fun h2 => ⟨by omega, ?_⟩) (fun h2 => ?_)
      · have e2 := Lib.bitLen_shift8 z (by omega) (by omega)
        refine lenAt (z / 256) rfl (by omega) fun c hc hl => ?_
        refine ⟨congrArg _ ?_, trivial⟩
        rw [hc]; simp (disch := omega) only [w64]; omega
      · refine lenAt z rfl (by omega) fun c hc hl => ?_
        refine ⟨congrArg _ ?_, trivial⟩
        rw [hc]; simp (disch := omega) only [w64]; omega
    · refine br_dec (fun h2 => ⟨by omega, ?_⟩) (fun h2 => ?_)
      · have e2 := Lib.bitLen_shift8 y (by omega) (by omega)
        refine lenAt (y / 256) rfl (by omega) fun c hc hl => ?_
        refine ⟨congrArg _ ?_, trivial⟩
        rw [hc]; simp (disch := omega) only [w64]; omega
      · refine lenAt y rfl (by omega) fun c hc hl => ?_
        refine ⟨congrArg _ ?_, trivial⟩
        rw [hc]; simp (disch := omega) only [w64]; omega
  · refine br_dec (fun h1 => ⟨by omega, ?_⟩) (fun h1 => ?_)
    · have e1 := Lib.bitLen_shift16 x (by omega) (by omega)
      have lt1 : x / 65536 < 65536 := by omega
      generalize x / 65536 = z at *
      refine br_dec (fun h2 => ⟨by omega, ?_⟩) (fun h2 => ?_)
      · have e2 := Lib.bitLen_shift8 z (by omega) (by omega)
        refine lenAt (z / 256) rfl (by omega) fun c hc hl => ?_
        refine ⟨congrArg _ ?_, trivial⟩
        rw [hc]; simp (disch := omega) only [w64]; omega
      · refine lenAt z rfl (by omega) fun c hc hl => ?_
        refine ⟨congrArg _ ?_, trivial⟩
        rw [hc]; simp (disch := omega) only [w64]; omega
    · refine br_dec (fun h2 => ⟨by omega, ?_⟩) (fun h2 => ?_)
      · have e2 := Lib.bitLen_shift8 x (by omega) (by omega)
        refine lenAt (x / 256) rfl (by omega) fun c hc hl => ?_
        refine ⟨congrArg _ ?_, trivial⟩
        rw [hc]; simp (disch := omega) only [w64]; omega
      · refine lenAt x rfl (by omega) fun c hc hl => ?_
        refine ⟨congrArg _ ?_, trivial⟩
        rw [hc]; simp (disch := omega) only [w64]; omega

theorem width (w : World) (x : Nat) (hx : x < 18446744073709551616) : Is 81 #[.int .u64 x] w (.int .i64 (Lib.bitLen x)) := by
  refine c81 _ _ _ ?_
  unfold B81
  exact usei (len64 w x hx) ⟨_, rfl, rfl, rfl⟩

theorem rwidth (w : World) (x : Nat) (hx : x < 18446744073709551616) : Is 128 #[.int .u64 x] w (.int .i64 (Lib.bitLen x)) := by
  refine c128 _ _ _ ?_
  unfold B128
  refine ⟨fun y n w' => w' = w ∧ ∃ m : Nat, y = (m : Int) ∧ m ≤ x ∧ n + Lib.bitLen m = Lib.bitLen x ∧ 0 ≤ n, fun y _ _ => y.toNat, ⟨rfl, x, rfl, by omega, by omega, by omega⟩, ?_⟩
  rintro y n w' ⟨rfl, m, rfl, hm, hn, h0⟩
  have hb : Lib.bitLen x ≤ 64 := Lib.bitLen_le x 64 (by omega) (by simpa using hx)
  refine br_dec (fun h => ⟨by omega, ⟨rfl, m / 2, ?_, by omega, ?_, ?_⟩, ?_⟩) (fun h => ?_)
  · rw [Int.tdiv_eq_ediv_of_nonneg (by omega), wu64 ⟨by omega, by omega⟩]; omega
  · have := Lib.bitLen_half m (by omega) (by omega)
    rw [w64 ⟨by omega, by omega⟩]; omega
  · rw [w64 ⟨by omega, by omega⟩]; omega
  · dsimp only; rw [Int.tdiv_eq_ediv_of_nonneg (by omega), wu64 ⟨by omega, by omega⟩]; omega
  · obtain rfl : m = 0 := by omega
    have : Lib.bitLen 0 = 0 := by decide
    rw [show n = (Lib.bitLen x : Int) by omega]
    exact ⟨rfl, rfl⟩

theorem live1 (w : World) : Is 15 #[] w (.bool true) := by
  refine c15 _ _ ?_
  unfold B15
  refine usei (ones w 22 (by omega)) ⟨_, rfl, br_dec (fun _ => ?_) (fun h => absurd (by decide +kernel) h)⟩
  refine usei (rank w 22 (by omega) 3) ⟨_, rfl, br_dec (fun _ => ?_) (fun h => absurd (by decide +kernel) h)⟩
  refine use (select w 22 (by omega) 2) ?_
  rintro _ _ ⟨rfl, r, rfl, hr⟩
  have h4 : SelP 22 2 4 := .inr ⟨4, rfl, by omega, by decide, by decide⟩
  obtain rfl := hr.one h4
  refine ⟨_, rfl, br_dec (fun _ => ?_) (fun h => absurd rfl h)⟩
  refine usei (cut _ 22 (by omega) 1 3 ⟨by omega, by omega⟩) ⟨_, rfl, br_dec (fun _ => ?_) (fun h => absurd (by decide +kernel) h)⟩
  refine usei (width _ 22 (by omega)) ⟨_, rfl, ?_, rfl⟩
  have : Lib.bitLen 22 = 5 := by decide +kernel
  rw [this]; rfl

end Go.Proofs.YtomajpihimlcjaaDoor.V

namespace Go.VC
open Go
/-- No block. -/
abbrev no : Nat → Prop := fun _ => False
end Go.VC
namespace Go.Proofs.YtomajpihimlcjaaDoor.V
open Go Go.VC
/-- The call answers this and leaves all that was as it was. -/
abbrev IsK (f : Nat) (args : Array Value) (w : World) (v : Value) : Prop := Calls Tryd.prog f args w (Rv fun u w' => u = v ∧ Kp no w w')
theorem usek {f : Nat} {args : Array Value} {w : World} {v : Value} {R : Value → World → Prop} (h : IsK f args w v) (k : ∀ w', Kp no w w' → R v w') : Calls Tryd.prog f args w (Rv R) :=
  use h (by rintro _ w' ⟨rfl, g⟩; exact k w' g)
/-- The blocks of an object with one slice. -/
def RF (r : Nat) (l : Slc) (k : Nat) : Prop := k = r ∨ On l k
end Go.Proofs.YtomajpihimlcjaaDoor.V

namespace Go.VC
open Go Go.RowKit
variable {S T : Nat → Prop} {w w' w1 : World}

theorem Gr.of_no (T : Nat → Prop) (k : Kp no w w') : Gr T T w w' := ⟨k.mono (fun _ _ f => f.elim), fun _ h => h, fun _ h => .inl h⟩
theorem Stab.no {J : (Nat → Prop) → World → Prop} (h : Stab J) (hj : J T w) (k : Kp no w w') : J T w' := h _ _ _ _ hj (Gr.of_no T k)

theorem yuse {P : Program} {l : Nat} {args : Array Value} {R R' : Value → World → Prop} (h : YieldC P l args w R) (k : ∀ v w', R v w' → R' v w') : YieldC P l args w R' := by
  obtain ⟨fn, tmps, a, b, h1, h2⟩ := h
  exact ⟨fn, tmps, a, b, h1, h2.mono fun e w' ⟨v, he, hr⟩ => ⟨v, he, k v w' hr⟩⟩

/-- An iterator may be ranged over later. -/
theorem Iter.later {P : Program} {g : Nat} {first cap : List Value} {n : Nat} {xs : Nat → List Value} {Dt : Nat → Prop} (h : Iter P g first cap w n xs Dt) (k : Kp no w w') : Iter P g first cap w' n xs Dt :=
  fun l J X w1 k1 hJ hX hr h0 => h l J X w1 (k.trans k1 (fun _ _ f => f)) hJ hX hr h0

/-- What is said of blocks below a bound abides. -/
theorem stab_const (p : Prop) : Stab (fun _ _ => p) := fun _ _ _ _ h _ => h
theorem stab_and {J J' : (Nat → Prop) → World → Prop} (h : Stab J) (h' : Stab J') : Stab (fun T w => J T w ∧ J' T w) := fun T T' w w' hj hg => ⟨h _ _ _ _ hj.1 hg, h' _ _ _ _ hj.2 hg⟩
theorem stab_blk {b : Nat} {cs : List Value} {U : TypeId} : Stab (fun T w => ¬ T b ∧ Blk w b cs U) := fun T T' w w' hj hg => ⟨fun h => by
  rcases hg.fr b h with g | g
  · exact hj.1 g
  · have := hj.2.lt; omega, hj.2.kp hg.kp hj.1⟩
/-- All that lay in a world lies as it lay, but some blocks. -/
theorem stab_kp {S : Nat → Prop} {w0 : World} : Stab (fun T w => (∀ k, T k → w0.heap.size ≤ k) ∧ Kp S w0 w) := fun T T' w w' hj hg => ⟨fun k hk => by
  rcases hg.fr k hk with g | g
  · exact hj.1 k g
  · have := hj.2.size; omega, hj.2.trans hg.kp (fun k h1 h2 => by have := hj.1 k h2; omega)⟩

/-- A result in a cell is set and handed back. -/
theorem retc {rb : Nat} {x : Value} {b : Bool} {U : TypeId} {DS : List Nat} {R : Value → World → Prop} (hb : Blk w rb [x] U) (hn : DS.Nodup) (hd : ∀ D, D ∈ DS → w.heap[D]? = some (.deferred (some [])))
    (k : ∀ w', Kp (fun k => k = rb ∨ k ∈ DS) w w' → R (.bool b) w') :
    (∃ u, w.cell? ⟨rb, 0, none⟩ = some u) ∧ w.frozen? ⟨rb, 0, none⟩ = false ∧ DS.Nodup ∧ (∀ D, D ∈ DS → (w.setCell ⟨rb, 0, none⟩ (.bool b)).heap[D]? = some (.deferred (some []))) ∧
      ∀ w5, Kp (fun k => k ∈ DS) (w.setCell ⟨rb, 0, none⟩ (.bool b)) w5 → ∃ b6 : Bool, w5.cell? ⟨rb, 0, none⟩ = some (.bool b6) ∧ R (.bool b6) w5 := by
  have hrd : rb ∉ DS := fun h => by have := hd rb h; rw [show w.heap[rb]? = _ from hb] at this; cases this
  have h1 : Kp (fun k => k = rb ∨ k ∈ DS) w (w.setCell ⟨rb, 0, none⟩ (.bool b)) := (Kp.refl _ _).set _ _ (fun _ => .inl rfl)
  have hz := hb.set 0 (.bool b)
  rw [add0] at hz
  refine ⟨⟨_, hb.cell0 0⟩, ?_, hn, fun D hD => ?_, fun w5 k5 => ⟨b, ?_, k w5 (h1.trans k5 (fun _ _ h => .inr h))⟩⟩
  · have := hb.frozen 0; rwa [add0] at this
  · rw [heap_setCell_other w ⟨rb, 0, none⟩ D _ (fun e => hrd (by simp only at e; subst e; exact hD))]; exact hd D hD
  · exact (hz.kp k5 hrd).cell0 0

/-- A cell of one's own is set. -/
theorem setc {b : Nat} {x v : Value} {U : TypeId} (hb : Blk w b [x] U) : (∃ u, w.cell? ⟨b, 0, none⟩ = some u) ∧ w.frozen? ⟨b, 0, none⟩ = false ∧ Blk (w.setCell ⟨b, 0, none⟩ v) b [v] U ∧ ∀ S : Nat → Prop, S b → Kp S w (w.setCell ⟨b, 0, none⟩ v) := by
  have hz := hb.set 0 v
  rw [add0] at hz
  refine ⟨⟨_, hb.cell0 0⟩, ?_, hz, fun S hS => (Kp.refl _ _).set _ _ (fun _ => hS)⟩
  have := hb.frozen 0; rwa [add0] at this
end Go.VC

namespace Go.VC
open Go Go.ChangeShapes Go.WideShapes

/-- A slice of pairs of integers that came in. -/
def IsPairs (k0 k1 : IntKind) (w : World) (a : Option Addr) (len : Nat) (zs : List (Int × Int)) : Prop :=
  zs.length = len ∧ len ≤ maxLen ∧ ∀ i (hi : i < zs.length), (∃ b, a = some b ∧ w.cell? (Addr.add (Addr.add b (i * 2)) 0) = some (.int k0 zs[i].1) ∧ w.cell? (Addr.add (Addr.add b (i * 2)) 1) = some (.int k1 zs[i].2)) ∧
    (Lit.int k0 zs[i].1).wf = true ∧ (Lit.int k1 zs[i].2).wf = true

theorem list_of {α : Type} {p : Nat → α → Prop} : ∀ (n : Nat), (∀ i, i < n → ∃ x, p i x) → ∃ xs : List α, xs.length = n ∧ ∀ i (hi : i < xs.length), p i xs[i]
  | 0, _ => ⟨[], rfl, fun i hi => absurd hi (by simp)⟩
  | n + 1, h => by
    obtain ⟨xs, hl, hx⟩ := list_of n (fun i hi => h i (by omega))
    obtain ⟨x, hp⟩ := h n (by omega)
    refine ⟨xs ++ [x], by simp [hl], fun i hi => ?_⟩
    by_cases g : i < xs.length
    · rw [List.getElem_append_left g]; exact hx i g
    · rw [List.getElem_append_right (by omega)]
      simp only [List.length_append, List.length_singleton] at hi
      have : i = n := by omega
      subst this
      simpa using hp

theorem open_pairs {H : Type} {enc : TypeId × Value → H} {P : Program} {w : World} {t e : TypeId} {f0 f1 : Field} {k0 k1 : IntKind} {fuel : Nat} {a : Option Addr} {len cap : Nat} {x : DataW H × List MemPlace}
    (ht : P.underlying t = some (.slice e)) (he : P.underlying e = some (.struct #[f0, f1])) (ce : P.cellsOf e = 2) (o0 : f0.offset = 0) (o1 : f1.offset = 1) (c0 : P.cellsOf f0.type = 1) (c1 : P.cellsOf f1.type = 1)
    (i0 : P.underlying f0.type = some (.int k0)) (i1 : P.underlying f1.type = some (.int k1))
    (h : DataW.trod enc P w 0 (fun _ => true) true fuel t (Value.slice a len cap).cells.toList = some x) : ∃ zs, IsPairs k0 k1 w a len zs := by
  rcases Deep.open_slice_pairs ht he ce o0 o1 c0 c1 h with ⟨hcs, _⟩ | ⟨b, l, c, m, n, V0, V1, D0, D1, P0, P1, hcs, _, hlc, hcm, hm, _, hcell⟩
  · simp [Value.cells] at hcs
    obtain ⟨rfl, rfl, rfl⟩ := hcs
    exact ⟨[], rfl, Nat.zero_le _, fun i hi => absurd hi (by simp)⟩
  · simp [Value.cells] at hcs
    obtain ⟨rfl, rfl, rfl⟩ := hcs
    simp only [if_true] at hm
    subst hm
    obtain ⟨zs, hl, hz⟩ := list_of (p := fun i (z : Int × Int) => (w.cell? (Addr.add (Addr.add b (i * 2)) 0) = some (.int k0 z.1) ∧ w.cell? (Addr.add (Addr.add b (i * 2)) 1) = some (.int k1 z.2)) ∧
      (Lit.int k0 z.1).wf = true ∧ (Lit.int k1 z.2).wf = true) len (fun i hi => by
        obtain ⟨h0, h1, g0, g1⟩ := hcell i (by omega)
        obtain ⟨n0, e0, _, wf0⟩ := DataW.trod_int i0 g0
        obtain ⟨n1, e1, _, wf1⟩ := DataW.trod_int i1 g1
        refine ⟨(n0, n1), ⟨?_, ?_⟩, wf0, wf1⟩
        · rw [Addr.add]; simp only [if_true]; rw [h0]; simpa using e0
        · rw [Deep.add_add, h1]; simpa using e1)
    exact ⟨zs, hl, by omega, fun i hi => ⟨⟨b, rfl, (hz i hi).1⟩, (hz i hi).2⟩⟩
end Go.VC

namespace Go.VC
open Go

/-- The bit at a place of a list; past its end there is none. -/
def bg (l : List Bool) (i : Nat) : Bool := (l[i]?).getD false
def bz (l : List Bool) (i : Int) : Bool := decide (0 ≤ i) && bg l i.toNat
/-- The word at a place of a list; past its end it is zero. -/
def wg (ws : List Nat) (k : Nat) : Nat := (ws[k]?).getD 0
def wbit (ws : List Nat) (i : Nat) : Bool := (wg ws (i / 64)).testBit (i % 64)
def wordOf (l : List Bool) (k : Nat) : Nat := ofB (fun i => bg l (64 * k + i)) 64
/-- The words that hold a list of bits. -/
def wordsOf (l : List Bool) : List Nat := (List.range ((l.length + 63) / 64)).map (wordOf l)
def lowb (x n : Nat) : List Bool := (List.range n).map x.testBit

theorem bg_out {l : List Bool} {i : Nat} (h : l.length ≤ i) : bg l i = false := by unfold bg; rw [List.getElem?_eq_none h]; rfl
theorem length_wordsOf (l : List Bool) : (wordsOf l).length = (l.length + 63) / 64 := by simp [wordsOf]
theorem wordOf_lt (l : List Bool) (k : Nat) : wordOf l k < 18446744073709551616 := ofB_lt _ 64
theorem wordsOf_at {l : List Bool} {k : Nat} (h : k < (l.length + 63) / 64) : (wordsOf l)[k]? = some (wordOf l k) := by
  simp [wordsOf, h]
theorem wordsOf_lt {l : List Bool} {x : Nat} (h : x ∈ wordsOf l) : x < 18446744073709551616 := by
  unfold wordsOf at h
  obtain ⟨k, _, rfl⟩ := List.mem_map.1 h
  exact wordOf_lt l k
theorem wordOf_out {l : List Bool} {k : Nat} (h : (l.length + 63) / 64 ≤ k) : wordOf l k = 0 := by
  unfold wordOf
  have : ∀ n, ofB (fun _ => false) n = 0 := fun n => by induction n with
    | zero => rfl
    | succ n ih => simp [ofB, ih]
  rw [ofB_congr (q := fun _ => false) (fun i _ => bg_out (by omega)), this]
theorem wg_wordsOf (l : List Bool) (k : Nat) : wg (wordsOf l) k = wordOf l k := by
  unfold wg
  by_cases h : k < (l.length + 63) / 64
  · rw [wordsOf_at h]; rfl
  · rw [List.getElem?_eq_none (by rw [length_wordsOf]; omega), wordOf_out (by omega)]; rfl
theorem testBit_wordOf (l : List Bool) (k i : Nat) (hi : i < 64) : (wordOf l k).testBit i = bg l (64 * k + i) := by
  unfold wordOf; rw [testBit_ofB]; simp [hi]
theorem wbit_wordsOf (l : List Bool) (i : Nat) : wbit (wordsOf l) i = bg l i := by
  unfold wbit
  rw [wg_wordsOf, testBit_wordOf _ _ _ (by omega)]
  congr 1; omega
/-- Words of the right number whose bits are the list's are the list's words. -/
theorem eq_wordsOf {ws : List Nat} {l : List Bool} (hl : ws.length = (l.length + 63) / 64) (hlt : ∀ k, wg ws k < 18446744073709551616) (hb : ∀ i, i < 64 * ws.length → wbit ws i = bg l i) : ws = wordsOf l := by
  apply List.ext_getElem?
  intro k
  by_cases h : k < ws.length
  · rw [wordsOf_at (by omega), List.getElem?_eq_getElem h]
    congr 1
    have e : ws[k] = wg ws k := by unfold wg; simp [h]
    rw [e]
    apply Nat.eq_of_testBit_eq
    intro i
    by_cases hi : i < 64
    · rw [testBit_wordOf _ _ _ hi, ← hb _ (by omega)]
      unfold wbit
      rw [show (64 * k + i) / 64 = k by omega, show (64 * k + i) % 64 = i by omega]
    · rw [tb_lt (hlt k) (by omega), tb_lt (wordOf_lt l k) (by omega)]
  · rw [List.getElem?_eq_none (by omega), List.getElem?_eq_none (by rw [length_wordsOf]; omega)]

theorem bg_append_low (l : List Bool) (x n i : Nat) (hx : x < 2 ^ n) : bg (l ++ lowb x n) i = if i < l.length then bg l i else x.testBit (i - l.length) := by
  unfold bg lowb
  by_cases h : i < l.length
  · rw [if_pos h, List.getElem?_append_left h]
  · rw [if_neg h, List.getElem?_append_right (by omega)]
    by_cases g : i - l.length < n
    · simp [g]
    · rw [List.getElem?_eq_none (by simp; omega)]
      have : x.testBit (i - l.length) = false := Nat.testBit_lt_two_pow (Nat.lt_of_lt_of_le hx (Nat.pow_le_pow_right (by omega) (by omega)))
      simp [this]
theorem wg_set (ws : List Nat) (j k x : Nat) (hj : j < ws.length) : wg (ws.set j x) k = if k = j then x else wg ws k := by
  unfold wg
  rw [List.getElem?_set]
  by_cases h : j = k
  · subst h; simp [hj]
  · rw [if_neg h, if_neg (fun e => h e.symm)]
theorem wg_snoc (ws : List Nat) (x k : Nat) : wg (ws ++ [x]) k = if k = ws.length then x else wg ws k := by
  unfold wg
  by_cases h : k < ws.length
  · rw [List.getElem?_append_left h, if_neg (by omega)]
  · rw [List.getElem?_append_right (by omega)]
    by_cases e : k = ws.length
    · subst e; simp
    · rw [if_neg e, List.getElem?_eq_none (by simp; omega), List.getElem?_eq_none (by omega)]

/-- The word of a row that is begun takes the new bits that it has room for. -/
def orLast (l : List Bool) (x : Nat) : List Nat := (wordsOf l).set ((wordsOf l).length - 1) (wordOf l ((wordsOf l).length - 1) ||| ((x <<< (l.length % 64)) % 18446744073709551616))

theorem add_in {l : List Bool} {x n : Nat} (hx : x < 2 ^ n) (hat : 0 < l.length % 64) (hn : l.length % 64 + n ≤ 64) : orLast l x = wordsOf (l ++ lowb x n) := by
  have hlen : (orLast l x).length = (l.length + 63) / 64 := by simp [orLast, length_wordsOf]
  have hwl := length_wordsOf l
  have hl : (l ++ lowb x n).length = l.length + n := by simp [lowb]
  refine eq_wordsOf (by omega) (fun k => ?_) (fun i hi => ?_)
  · unfold orLast
    rw [wg_set _ _ _ _ (by omega), wg_wordsOf]
    split
    · exact Nat.or_lt_two_pow (n := 64) (wordOf_lt l _) (Nat.mod_lt _ (by omega))
    · exact wordOf_lt l k
  · rw [bg_append_low _ _ _ _ hx]
    unfold wbit orLast
    rw [wg_set _ _ _ _ (by omega), wg_wordsOf]
    split
    · rename_i h
      rw [Nat.testBit_or, show (18446744073709551616 : Nat) = 2 ^ 64 from rfl, Nat.testBit_mod_two_pow, Nat.testBit_shiftLeft, testBit_wordOf _ _ _ (by omega), show 64 * ((wordsOf l).length - 1) + i % 64 = i by omega]
      by_cases g : i < l.length
      · rw [if_pos g]
        have : ¬ i % 64 ≥ l.length % 64 := by omega
        simp [this]
      · rw [if_neg g, bg_out (by omega)]
        have : i % 64 ≥ l.length % 64 := by omega
        simp [this, show i % 64 < 64 by omega, show i % 64 - l.length % 64 = i - l.length by omega]
    · rename_i h
      rw [if_pos (by omega), testBit_wordOf _ _ _ (by omega)]
      congr 1; omega

theorem add_over {l : List Bool} {x n : Nat} (hx : x < 2 ^ n) (hx64 : x < 18446744073709551616) (hat : 0 < l.length % 64) (hn : 64 < l.length % 64 + n) (hn64 : n ≤ 64) : orLast l x ++ [x >>> (64 - l.length % 64)] = wordsOf (l ++ lowb x n) := by
  have hlen : (orLast l x).length = (l.length + 63) / 64 := by simp [orLast, length_wordsOf]
  have hwl := length_wordsOf l
  have hl : (l ++ lowb x n).length = l.length + n := by simp [lowb]
  refine eq_wordsOf (by rw [List.length_append, List.length_singleton]; omega) (fun k => ?_) (fun i hi => ?_)
  · rw [wg_snoc]
    split
    · rw [Nat.shiftRight_eq_div_pow]; exact Nat.lt_of_le_of_lt (Nat.div_le_self _ _) hx64
    · unfold orLast
      rw [wg_set _ _ _ _ (by omega), wg_wordsOf]
      split
      · exact Nat.or_lt_two_pow (n := 64) (wordOf_lt l _) (Nat.mod_lt _ (by omega))
      · exact wordOf_lt l k
  · rw [List.length_append, List.length_singleton] at hi
    rw [bg_append_low _ _ _ _ hx]
    unfold wbit
    rw [wg_snoc]
    split
    · rename_i h
      rw [if_neg (by omega), Nat.testBit_shiftRight]
      congr 1; omega
    · unfold orLast
      rw [wg_set _ _ _ _ (by omega), wg_wordsOf]
      split
      · rename_i h
        rw [Nat.testBit_or, show (18446744073709551616 : Nat) = 2 ^ 64 from rfl, Nat.testBit_mod_two_pow, Nat.testBit_shiftLeft, testBit_wordOf _ _ _ (by omega), show 64 * ((wordsOf l).length - 1) + i % 64 = i by omega]
        by_cases g : i < l.length
        · rw [if_pos g]
          have : ¬ i % 64 ≥ l.length % 64 := by omega
          simp [this]
        · rw [if_neg g, bg_out (by omega)]
          have : i % 64 ≥ l.length % 64 := by omega
          simp [this, show i % 64 < 64 by omega, show i % 64 - l.length % 64 = i - l.length by omega]
      · rename_i h
        rw [if_pos (by omega), testBit_wordOf _ _ _ (by omega)]
        congr 1; omega

theorem add_new {l : List Bool} {x n : Nat} (hx : x < 2 ^ n) (hx64 : x < 18446744073709551616) (hat : l.length % 64 = 0) (hn : 0 < n) (hn64 : n ≤ 64) : wordsOf l ++ [x] = wordsOf (l ++ lowb x n) := by
  have hwl := length_wordsOf l
  have hl : (l ++ lowb x n).length = l.length + n := by simp [lowb]
  refine eq_wordsOf (by rw [List.length_append, List.length_singleton]; omega) (fun k => ?_) (fun i hi => ?_)
  · rw [wg_snoc]
    split
    · exact hx64
    · rw [wg_wordsOf]; exact wordOf_lt l k
  · rw [List.length_append, List.length_singleton] at hi
    rw [bg_append_low _ _ _ _ hx]
    unfold wbit
    rw [wg_snoc]
    split
    · rename_i h
      rw [if_neg (by omega)]
      congr 1; omega
    · rw [if_pos (by omega), wg_wordsOf, testBit_wordOf _ _ _ (by omega)]
      congr 1; omega

/-- So many bits of a list from a place on. -/
def cutL (l : List Bool) (a : Int) (n : Nat) : Nat := ofB (fun i => bz l (a + i)) n
/-- The first place at or after this one where a bit is. -/
def NextP (l : List Bool) (i r : Int) : Prop :=
  (r = -1 ∧ ∀ j : Nat, i ≤ j → bg l j = false) ∨ ∃ a : Nat, r = a ∧ i ≤ a ∧ bg l a = true ∧ ∀ j : Nat, i ≤ j → j < a → bg l j = false
theorem NextP.one {l : List Bool} {i r s : Int} (h : NextP l i r) (g : NextP l i s) : r = s := by
  rcases h with ⟨rfl, h⟩ | ⟨a, rfl, ha, hb, hc⟩ <;> rcases g with ⟨rfl, g⟩ | ⟨b, rfl, ga, gb, gc⟩
  · rfl
  · rw [h b ga] at gb; cases gb
  · rw [g a ha] at hb; cases hb
  · rcases Nat.lt_trichotomy a b with h | h | h
    · rw [gc a ha h] at hb; cases hb
    · rw [h]
    · rw [hc b ga h] at gb; cases gb

theorem cnt_words (l : List Bool) : ∀ m, cnt (bg l) (64 * m) = ((List.range m).map fun k => pc (wordOf l k)).sum
  | 0 => rfl
  | m + 1 => by
    rw [show 64 * (m + 1) = 64 * m + 64 by omega, cnt_add, cnt_words l m, List.range_succ, List.map_append, List.sum_append]
    congr 1
    simp only [List.map_cons, List.map_nil, List.sum_cons, List.sum_nil, Nat.add_zero]
    exact cnt_congr fun i hi => (testBit_wordOf l m i hi).symm
end Go.VC

namespace Go.VC
open Go
/-- The places below n at which p holds. -/
def plc (p : Nat → Bool) (n : Nat) : List Nat := (List.range n).filter p
theorem plc_succ (p : Nat → Bool) (n : Nat) : plc p (n + 1) = plc p n ++ (if p n then [n] else []) := by
  unfold plc
  rw [List.range_succ, List.filter_append]
  by_cases h : p n = true
  · simp [h]
  · simp [h]
theorem plc_len (p : Nat → Bool) (n : Nat) : (plc p n).length = cnt p n := by
  induction n with
  | zero => rfl
  | succ n ih =>
    rw [plc_succ, List.length_append, ih]
    simp only [cnt]
    split <;> rfl
theorem cnt_lt' {p : Nat → Bool} {a b : Nat} (ha : p a = true) (h : a < b) : cnt p a < cnt p b := by
  have h1 : cnt p (a + 1) = cnt p a + 1 := by simp [cnt, ha]
  have := cnt_mono p (m := a + 1) (n := b) (by omega)
  omega
theorem plc_at {p : Nat → Bool} {n i : Nat} (hi : i < n) (hp : p i = true) : (plc p n)[cnt p i]? = some i := by
  induction n with
  | zero => omega
  | succ n ih =>
    rw [plc_succ]
    by_cases e : i = n
    · subst e
      rw [List.getElem?_append_right (by rw [plc_len]; omega), plc_len, Nat.sub_self, if_pos hp]
      rfl
    · have h1 := cnt_lt' hp (show i < n by omega)
      rw [List.getElem?_append_left (by rw [plc_len]; exact h1)]
      exact ih (by omega)
theorem cnt_ex {p : Nat → Bool} : ∀ {n k : Nat}, k < cnt p n → ∃ a, a < n ∧ p a = true ∧ cnt p a = k
  | 0, k, h => by simp [cnt] at h
  | n + 1, k, h => by
    by_cases g : k < cnt p n
    · obtain ⟨a, h1, h2, h3⟩ := cnt_ex g; exact ⟨a, by omega, h2, h3⟩
    · simp only [cnt] at h
      by_cases hp : p n = true
      · rw [if_pos hp] at h; exact ⟨n, by omega, hp, by omega⟩
      · rw [if_neg hp] at h; omega
/-- A list at a place, or -1. -/
def atL (l : List Nat) (k : Int) : Int := if 0 ≤ k ∧ k < l.length then (wg l k.toNat : Int) else -1
/-- Where the k-th place is at which p holds, or -1. -/
def PlaceP (p : Nat → Bool) (n : Nat) (k r : Int) : Prop :=
  (r = -1 ∧ (k < 0 ∨ (cnt p n : Int) ≤ k)) ∨ ∃ a : Nat, r = a ∧ a < n ∧ p a = true ∧ (cnt p a : Int) = k
theorem PlaceP.eq {p : Nat → Bool} {n : Nat} {k r : Int} (h : PlaceP p n k r) : r = atL (plc p n) k := by
  rcases h with ⟨rfl, h⟩ | ⟨a, rfl, ha, hp, hc⟩
  · unfold atL; rw [if_neg (by rw [plc_len]; omega)]
  · have h1 := cnt_lt' hp ha
    unfold atL
    rw [if_pos (by rw [plc_len]; omega)]
    have : k.toNat = cnt p a := by omega
    rw [this]; unfold wg
    rw [plc_at ha hp]; rfl
theorem atL_place (p : Nat → Bool) (n : Nat) (k : Int) : PlaceP p n k (atL (plc p n) k) := by
  by_cases h : 0 ≤ k ∧ k < (cnt p n : Int)
  · obtain ⟨a, ha, hp, hc⟩ := cnt_ex (p := p) (n := n) (k := k.toNat) (by omega)
    have : PlaceP p n k (a : Int) := .inr ⟨a, rfl, ha, hp, by omega⟩
    rw [← this.eq]; exact this
  · refine .inl ⟨?_, by omega⟩
    unfold atL; rw [if_neg (by rw [plc_len]; exact h)]
theorem cnt_not (p : Nat → Bool) (n : Nat) : cnt (fun i => !p i) n + cnt p n = n := by
  induction n with
  | zero => rfl
  | succ n ih =>
    simp only [cnt]
    by_cases h : p n = true
    · simp [h]; omega
    · have h2 : p n = false := by simpa using h
      simp [h2]; omega
/-- The noughts of a row. -/
def nz (bits : List Bool) (i : Nat) : Bool := decide (i < bits.length) && !bg bits i
theorem nz_out {bits : List Bool} {i : Nat} (h : bits.length ≤ i) : nz bits i = false := by unfold nz; simp; omega
theorem cnt_nz {bits : List Bool} {n : Nat} (h : n ≤ bits.length) : cnt (nz bits) n + cnt (bg bits) n = n := by
  have e : cnt (nz bits) n = cnt (fun i => !bg bits i) n := cnt_congr (fun i hi => by unfold nz; rw [decide_eq_true (show i < bits.length by omega), Bool.true_and])
  rw [e, cnt_not]
theorem cnt_stop {p : Nat → Bool} {m : Nat} (h : ∀ i, m ≤ i → p i = false) {n : Nat} (hn : m ≤ n) : cnt p n = cnt p m := by
  obtain ⟨j, rfl⟩ : ∃ j, n = m + j := ⟨n - m, by omega⟩
  have : cnt (fun i => p (m + i)) j = 0 := by rw [cnt_congr (q := fun _ => false) (fun i _ => h _ (by omega)), cnt_false]
  rw [cnt_add, this]; rfl
/-- Samples: the words in which the ones 0, 64, 128, .. stand. -/
def SampOk (p : Nat → Bool) (ss : List Nat) : Prop := ∀ j, j < ss.length → cnt p (64 * wg ss j) ≤ 64 * j ∧ 64 * j < cnt p (64 * (wg ss j + 1))
theorem SampOk.nil (p : Nat → Bool) : SampOk p [] := fun j hj => absurd hj (by simp)
theorem SampOk.snoc {p : Nat → Bool} {ss : List Nat} (h : SampOk p ss) {k : Nat} (h1 : cnt p (64 * k) ≤ 64 * ss.length) (h2 : 64 * ss.length < cnt p (64 * (k + 1))) : SampOk p (ss ++ [k]) := by
  intro j hj
  rw [List.length_append, List.length_singleton] at hj
  by_cases e : j = ss.length
  · subst e
    have : wg (ss ++ [k]) ss.length = k := by unfold wg; simp
    rw [this]; exact ⟨h1, h2⟩
  · have : wg (ss ++ [k]) j = wg ss j := by unfold wg; rw [List.getElem?_append_left (by omega)]
    rw [this]; exact h j (by omega)
end Go.VC

namespace Go.VC
open Go
/-- How many noughts a list begins with. -/
def lz : List Bool → Nat
  | [] => 0
  | true :: _ => 0
  | false :: l => lz l + 1
theorem lz_le : ∀ (L : List Bool), lz L ≤ L.length
  | [] => Nat.le_refl _
  | true :: l => Nat.zero_le _
  | false :: l => by have := lz_le l; simp only [lz, List.length_cons]; omega
theorem bg_cons_zero (b : Bool) (l : List Bool) : bg (b :: l) 0 = b := rfl
theorem bg_cons_succ (b : Bool) (l : List Bool) (i : Nat) : bg (b :: l) (i + 1) = bg l i := by unfold bg; simp
theorem lz_false : ∀ {L : List Bool} {j : Nat}, j < lz L → bg L j = false
  | [], j, h => by simp [lz] at h
  | true :: l, j, h => by simp [lz] at h
  | false :: l, 0, h => rfl
  | false :: l, j + 1, h => by rw [bg_cons_succ]; exact lz_false (by simpa [lz] using h)
theorem lz_true : ∀ {L : List Bool}, lz L < L.length → bg L (lz L) = true
  | [], h => by simp at h
  | true :: l, _ => rfl
  | false :: l, h => by
    simp only [lz, bg_cons_succ]
    exact lz_true (by simpa [lz] using h)
theorem lz_eq {L : List Bool} {n : Nat} (h1 : ∀ j, j < n → bg L j = false) (h2 : bg L n = true) : lz L = n := by
  have hn : n < L.length := by
    by_cases g : n < L.length
    · exact g
    · rw [bg_out (by omega)] at h2; cases h2
  by_cases g : lz L < n
  · have := lz_true (L := L) (by omega)
    rw [h1 _ g] at this; cases this
  · by_cases g2 : n < lz L
    · rw [lz_false g2] at h2; cases h2
    · omega
theorem lz_none {L : List Bool} (h : ∀ j, j < L.length → bg L j = false) : lz L = L.length := by
  by_cases g : lz L < L.length
  · have := lz_true g
    rw [h _ g] at this; cases this
  · have := lz_le L; omega
theorem bg_drop (L : List Bool) (a j : Nat) : bg (L.drop a) j = bg L (a + j) := by unfold bg; rw [List.getElem?_drop]
theorem next_lz {bits : List Bool} {at_ : Nat} {r : Int} (h : NextP bits at_ r) :
    (r = -1 ∧ lz (bits.drop at_) = bits.length - at_) ∨ (r = at_ + lz (bits.drop at_) ∧ lz (bits.drop at_) < bits.length - at_) := by
  rcases h with ⟨rfl, h⟩ | ⟨a, rfl, h1, h2, h3⟩
  · refine .inl ⟨rfl, ?_⟩
    rw [lz_none (fun j _ => by rw [bg_drop]; exact h _ (by omega)), List.length_drop]
  · have ha : a < bits.length := by
      by_cases g : a < bits.length
      · exact g
      · rw [bg_out (by omega)] at h2; cases h2
    have e : lz (bits.drop at_) = a - at_ := lz_eq (fun j hj => by rw [bg_drop]; exact h3 _ (by omega) (by omega)) (by rw [bg_drop, show at_ + (a - at_) = a by omega]; exact h2)
    rw [e]
    exact .inr ⟨by omega, by omega⟩
/-- Bits at a place, as a number. -/
def cutN (L : List Bool) (a n : Nat) : Nat := ofB (fun i => bg L (a + i)) n
theorem cutL_nat (L : List Bool) (a n : Nat) : cutL L (a : Int) n = cutN L a n := by
  unfold cutL cutN
  refine ofB_congr fun i _ => ?_
  unfold bz
  rw [show ((a : Int) + (i : Int)).toNat = a + i by omega]
  simp; omega
theorem cutN_drop (L : List Bool) (k a n : Nat) : cutN (L.drop k) a n = cutN L (k + a) n := by
  unfold cutN
  exact ofB_congr fun i _ => by rw [bg_drop, Nat.add_assoc]
theorem cutN_lt (L : List Bool) (a n : Nat) : cutN L a n < 2 ^ n := ofB_lt _ _
theorem bg_append (a b : List Bool) (i : Nat) : bg (a ++ b) i = if i < a.length then bg a i else bg b (i - a.length) := by
  unfold bg
  split
  · rename_i h; rw [List.getElem?_append_left h]
  · rename_i h; rw [List.getElem?_append_right (by omega)]
theorem bg_lowb {x n i : Nat} (hi : i < n) : bg (lowb x n) i = x.testBit i := by unfold bg lowb; simp [hi]
theorem len_lowb (x n : Nat) : (lowb x n).length = n := by simp [lowb]
theorem cutN_lowb (p : List Bool) (x n : Nat) (rest : List Bool) : cutN (p ++ (lowb x n ++ rest)) p.length n = x % 2 ^ n := by
  unfold cutN
  rw [← ofB_testBit]
  refine ofB_congr fun i hi => ?_
  rw [bg_append, if_neg (by omega), Nat.add_sub_cancel_left, bg_append, if_pos (by rw [len_lowb]; exact hi), bg_lowb hi]
/-- Noughts, and a one. -/
def zrun (n : Nat) : List Bool := List.replicate n false ++ [true]
theorem zrun_len (n : Nat) : (zrun n).length = n + 1 := by simp [zrun]
theorem lowb_zero (n : Nat) : lowb 0 n = List.replicate n false := by
  apply List.ext_getElem <;> simp [lowb]
theorem lowb_pow (n : Nat) : lowb (2 ^ n) (n + 1) = zrun n := by
  unfold lowb zrun
  rw [List.range_succ, List.map_append]
  congr 1
  · apply List.ext_getElem
    · simp
    · intro i h1 h2
      simp only [List.getElem_map, List.getElem_range, List.getElem_replicate]
      rw [Nat.testBit_two_pow]
      simp at h1; simp; omega
  · simp [Nat.testBit_two_pow]
theorem lz_zrun (n : Nat) (rest : List Bool) : lz (zrun n ++ rest) = n := by
  refine lz_eq (fun j hj => ?_) ?_
  · rw [bg_append, if_pos (by rw [zrun_len]; omega)]
    unfold zrun; rw [bg_append, if_pos (by simpa using hj)]
    unfold bg; simp [hj]
  · rw [bg_append, if_pos (by rw [zrun_len]; omega)]
    unfold zrun; rw [bg_append, if_neg (by simp)]
    simp [bg]
/-- What writing a code comes to. -/
def wcF (bits : List Bool) (kind : Nat) (v : Nat) (n : Int) : Int × List Bool :=
  match kind with
  | 0 => if n < 0 ∨ 64 < n then (1, bits) else if n < Lib.bitLen v then (8, bits) else (0, bits ++ lowb v n.toNat)
  | 1 => if n < 0 ∨ 4096 < n then (8, bits) else (0, bits ++ zrun n.toNat)
  | 2 => if v = 0 then (8, bits) else (0, bits ++ zrun (Lib.bitLen v - 1) ++ lowb v (Lib.bitLen v - 1))
  | _ => if n < 0 ∨ 63 < n then (1, bits) else if 4096 < v / 2 ^ n.toNat then (8, bits) else (0, bits ++ zrun (v / 2 ^ n.toNat) ++ lowb v n.toNat)
def noF (L : List Bool) (limit : Nat) : Nat × Nat := if limit < lz L then (0, 3) else if lz L < L.length then (lz L, 0) else (0, 2)
def lowF (L : List Bool) (a n : Nat) : Nat × Nat := if L.length < a + n then (0, 2) else (cutN L a n, 0)
/-- What reading a code comes to: the number, how many bits it takes, an error's number. -/
def rdF (L : List Bool) (kind : Nat) (n : Int) : Nat × Nat × Nat :=
  match kind with
  | 0 => if n < 0 ∨ 64 < n then (0, 0, 1) else if (lowF L 0 n.toNat).2 ≠ 0 then (0, 0, (lowF L 0 n.toNat).2) else ((lowF L 0 n.toNat).1, n.toNat, 0)
  | 1 => if (noF L 4096).2 ≠ 0 then (0, 0, (noF L 4096).2) else ((noF L 4096).1, (noF L 4096).1 + 1, 0)
  | 2 => if (noF L 63).2 ≠ 0 then (0, 0, (noF L 63).2) else if (lowF L ((noF L 63).1 + 1) (noF L 63).1).2 ≠ 0 then (0, 0, (lowF L ((noF L 63).1 + 1) (noF L 63).1).2) else
      (2 ^ (noF L 63).1 + (lowF L ((noF L 63).1 + 1) (noF L 63).1).1, 2 * (noF L 63).1 + 1, 0)
  | _ => if n < 0 ∨ 63 < n then (0, 0, 1) else if (noF L 4096).2 ≠ 0 then (0, 0, (noF L 4096).2) else if 64 < Lib.bitLen (noF L 4096).1 + n.toNat then (0, 0, 3) else
      if (lowF L ((noF L 4096).1 + 1) n.toNat).2 ≠ 0 then (0, 0, (lowF L ((noF L 4096).1 + 1) n.toNat).2) else
      ((noF L 4096).1 * 2 ^ n.toNat + (lowF L ((noF L 4096).1 + 1) n.toNat).1, (noF L 4096).1 + 1 + n.toNat, 0)
/-- The bits of a code. -/
def cdB (kind v : Nat) (n : Int) : List Bool := (wcF [] kind v n).2
theorem wcF_app (bits : List Bool) (kind v : Nat) (n : Int) : wcF bits kind v n = ((wcF [] kind v n).1, bits ++ cdB kind v n) := by
  unfold cdB wcF
  match kind with
  | 0 => simp only; split <;> (try split) <;> simp
  | 1 => simp only; split <;> simp
  | 2 => simp only; split <;> simp
  | k + 3 => simp only; split <;> (try split) <;> simp
theorem noF_run {q limit : Nat} (h : q ≤ limit) (rest : List Bool) : noF (zrun q ++ rest) limit = (q, 0) := by
  unfold noF
  rw [lz_zrun, if_neg (by omega), if_pos (by rw [List.length_append, zrun_len]; omega)]
theorem lowF_run (p : List Bool) (x n : Nat) (rest : List Bool) : lowF (p ++ (lowb x n ++ rest)) p.length n = (x % 2 ^ n, 0) := by
  unfold lowF
  rw [if_neg (by rw [List.length_append, List.length_append, len_lowb]; omega), cutN_lowb]
theorem bl_lt (x : Nat) (hx : x < 18446744073709551616) : ∀ k, Lib.bitLen x ≤ k → x < 2 ^ k := by
  intro k
  induction k generalizing x with
  | zero =>
    intro h
    by_cases h0 : x = 0
    · subst h0; decide
    · have := Lib.bitLen_half x h0 (by simpa using hx); omega
  | succ k ih =>
    intro h
    by_cases h0 : x = 0
    · subst h0; exact Nat.two_pow_pos _
    · have h1 := Lib.bitLen_half x h0 (by simpa using hx)
      have := ih (x / 2) (by omega) (by omega)
      rw [Nat.pow_succ]; omega
theorem bl_le {x k : Nat} (h : x < 2 ^ k) (hx : x < 18446744073709551616) : Lib.bitLen x ≤ k := by
  induction k generalizing x with
  | zero =>
    have : x = 0 := by simpa using h
    subst this; decide
  | succ k ih =>
    by_cases h0 : x = 0
    · subst h0; exact Nat.zero_le _
    · have h1 := Lib.bitLen_half x h0 (by simpa using hx)
      have := ih (x := x / 2) (by rw [Nat.pow_succ] at h; omega) (by omega)
      omega
theorem bl_ge {x : Nat} (h0 : x ≠ 0) (hx : x < 18446744073709551616) : 0 < Lib.bitLen x ∧ 2 ^ (Lib.bitLen x - 1) ≤ x := by
  have hp : 0 < Lib.bitLen x := by
    have := bl_lt x hx 0
    rcases Nat.eq_zero_or_pos (Lib.bitLen x) with e | e
    · have := this (by omega); omega
    · exact e
  refine ⟨hp, ?_⟩
  by_cases g : 2 ^ (Lib.bitLen x - 1) ≤ x
  · exact g
  · have := bl_le (k := Lib.bitLen x - 1) (by omega) hx; omega
/-- The number that is read. -/
def wantF (kind v : Nat) (n : Int) : Nat := match kind with
  | 1 => n.toNat
  | _ => v
/-- What is written is read. -/
theorem rd_wr {kind v : Nat} {n : Int} (hv : v < 18446744073709551616) (h : (wcF [] kind v n).1 = 0) (rest : List Bool) : rdF (cdB kind v n ++ rest) kind n = (wantF kind v n, (cdB kind v n).length, 0) := by
  match kind with
  | 0 =>
    unfold wcF at h
    simp only at h
    split at h
    · cases h
    · rename_i h1
      split at h
      · cases h
      · rename_i h2
        have hc : cdB 0 v n = lowb v n.toNat := by unfold cdB wcF; simp only; rw [if_neg h1, if_neg h2]; simp
        have hl : lowF (lowb v n.toNat ++ rest) 0 n.toNat = (v % 2 ^ n.toNat, 0) := lowF_run [] v n.toNat rest
        have hlt := bl_lt v hv n.toNat (by omega)
        unfold rdF
        simp only
        rw [hc, if_neg h1, hl, if_neg (by simp), Nat.mod_eq_of_lt hlt, len_lowb]
        rfl
  | 1 =>
    unfold wcF at h
    simp only at h
    split at h
    · cases h
    · rename_i h1
      have hc : cdB 1 v n = zrun n.toNat := by unfold cdB wcF; simp only; rw [if_neg h1]; simp
      have hl := noF_run (q := n.toNat) (limit := 4096) (by omega) rest
      unfold rdF
      simp only
      rw [hc, hl, if_neg (by simp), zrun_len]
      rfl
  | 2 =>
    unfold wcF at h
    simp only at h
    split at h
    · cases h
    · rename_i h1
      have hc : cdB 2 v n = zrun (Lib.bitLen v - 1) ++ lowb v (Lib.bitLen v - 1) := by unfold cdB wcF; simp only; rw [if_neg h1]; simp
      have hb : Lib.bitLen v ≤ 64 := bl_le (by simpa using hv) hv
      obtain ⟨g1, g2⟩ := bl_ge h1 hv
      have hl := noF_run (q := Lib.bitLen v - 1) (limit := 63) (by omega) (lowb v (Lib.bitLen v - 1) ++ rest)
      have hr := lowF_run (zrun (Lib.bitLen v - 1)) v (Lib.bitLen v - 1) rest
      rw [zrun_len] at hr
      have hlt := bl_lt v hv (Lib.bitLen v - 1 + 1) (by omega)
      rw [Nat.pow_succ] at hlt
      unfold rdF
      simp only
      rw [hc, List.append_assoc, hl]
      simp only
      rw [hr, if_neg (by simp), if_neg (by simp)]
      have e1 : v % 2 ^ (Lib.bitLen v - 1) = v - 2 ^ (Lib.bitLen v - 1) := by rw [Nat.mod_eq_sub_mod g2, Nat.mod_eq_of_lt (by omega)]
      rw [e1]
      simp only [List.length_append, zrun_len, len_lowb]
      refine Prod.ext ?_ (Prod.ext ?_ rfl)
      · show 2 ^ (Lib.bitLen v - 1) + (v - 2 ^ (Lib.bitLen v - 1)) = v; omega
      · simp only; omega
  | k + 3 =>
    unfold wcF at h
    simp only at h
    split at h
    · cases h
    · rename_i h1
      split at h
      · cases h
      · rename_i h2
        have hc : cdB (k + 3) v n = zrun (v / 2 ^ n.toNat) ++ lowb v n.toNat := by unfold cdB wcF; simp only; rw [if_neg h1, if_neg h2]; simp
        have hl := noF_run (q := v / 2 ^ n.toNat) (limit := 4096) (by omega) (lowb v n.toNat ++ rest)
        have hr := lowF_run (zrun (v / 2 ^ n.toNat)) v n.toNat rest
        rw [zrun_len] at hr
        have hq : Lib.bitLen (v / 2 ^ n.toNat) ≤ 64 - n.toNat := by
          refine bl_le ?_ (Nat.lt_of_le_of_lt (Nat.div_le_self _ _) hv)
          rw [Nat.div_lt_iff_lt_mul (Nat.two_pow_pos _), ← Nat.pow_add, show 64 - n.toNat + n.toNat = 64 by omega]
          simpa using hv
        unfold rdF
        simp only
        rw [hc, List.append_assoc, hl]
        simp only
        rw [hr, if_neg h1, if_neg (by simp), if_neg (by omega), if_neg (by simp)]
        simp only [List.length_append, zrun_len, len_lowb]
        refine Prod.ext ?_ (Prod.ext ?_ rfl)
        · show v / 2 ^ n.toNat * 2 ^ n.toNat + v % 2 ^ n.toNat = v; rw [Nat.mul_comm]; exact Nat.div_add_mod v _
        · simp only
end Go.VC

namespace Go.VC
open Go
/-- The number ahead, or 0. -/
def prv (u : Nat → Nat) (m : Nat) : Nat := if m = 0 then 0 else u (m - 1)
/-- The bits of the first m upper parts. -/
def hb (u : Nat → Nat) : Nat → List Bool
  | 0 => []
  | m + 1 => hb u m ++ zrun (u m - prv u m)
/-- They do not fall. -/
def Mono (u : Nat → Nat) (n : Nat) : Prop := ∀ i j, i ≤ j → j < n → u i ≤ u j
theorem Mono.le {u : Nat → Nat} {m n : Nat} (h : Mono u n) (hm : m ≤ n) : Mono u m := fun i j hi hj => h i j hi (by omega)
theorem prv_le {u : Nat → Nat} {m n : Nat} (h : Mono u n) (hm : m < n) : prv u m ≤ u m := by
  unfold prv
  split
  · exact Nat.zero_le _
  · exact h _ _ (by omega) hm
theorem prv_succ (u : Nat → Nat) (m : Nat) : prv u (m + 1) = u m := by unfold prv; simp
theorem hb_len {u : Nat → Nat} : ∀ {m : Nat}, Mono u m → (hb u m).length = m + prv u m
  | 0, _ => rfl
  | m + 1, h => by
    have := prv_le h (Nat.lt_succ_self m)
    simp only [hb, List.length_append, zrun_len, hb_len (h.le (Nat.le_succ m)), prv_succ]
    omega
theorem hb_pre {u : Nat → Nat} {k : Nat} : ∀ {m : Nat}, k ≤ m → ∀ p, p < (hb u k).length → bg (hb u m) p = bg (hb u k) p := by
  intro m hm
  obtain ⟨j, rfl⟩ : ∃ j, m = k + j := ⟨m - k, by omega⟩
  clear hm
  induction j with
  | zero => intro p _; rfl
  | succ j ih =>
    intro p hp
    have : p < (hb u (k + j)).length := by
      have : ∀ j, (hb u k).length ≤ (hb u (k + j)).length := fun j => by
        induction j with
        | zero => exact Nat.le_refl _
        | succ j ih => have : hb u (k + (j + 1)) = hb u (k + j) ++ zrun (u (k + j) - prv u (k + j)) := rfl
                       rw [this, List.length_append]; omega
      have := this j; omega
    show bg (hb u (k + j) ++ zrun (u (k + j) - prv u (k + j))) p = _
    rw [bg_append, if_pos this]
    exact ih p hp
theorem bg_zrun_lt {g i : Nat} (h : i < g) : bg (zrun g) i = false := by
  unfold zrun; rw [bg_append, if_pos (by simpa using h)]
  unfold bg; simp [h]
theorem bg_zrun_eq (g : Nat) : bg (zrun g) g = true := by
  unfold zrun; rw [bg_append, if_neg (by simp)]; simp [bg]
theorem hb_run {u : Nat → Nat} {k n p : Nat} (hk : k < n) (h1 : (hb u k).length ≤ p) (h2 : p < (hb u k).length + (u k - prv u k + 1)) : bg (hb u n) p = bg (zrun (u k - prv u k)) (p - (hb u k).length) := by
  rw [hb_pre (k := k + 1) (by omega) p (by show p < (hb u k ++ zrun (u k - prv u k)).length; rw [List.length_append, zrun_len]; exact h2)]
  show bg (hb u k ++ zrun (u k - prv u k)) p = _
  rw [bg_append, if_neg (by omega)]
theorem hb_zero {u : Nat → Nat} {k n p : Nat} (h : Mono u n) (hk : k < n) (h1 : k + prv u k ≤ p) (h2 : p < k + u k) : bg (hb u n) p = false := by
  have hl := hb_len (h.le (show k ≤ n by omega))
  have := prv_le h hk
  rw [hb_run hk (by omega) (by omega), bg_zrun_lt (by omega)]
theorem hb_one {u : Nat → Nat} {k n : Nat} (h : Mono u n) (hk : k < n) : bg (hb u n) (u k + k) = true := by
  have hl := hb_len (h.le (show k ≤ n by omega))
  have := prv_le h hk
  rw [hb_run hk (by omega) (by omega), show u k + k - (hb u k).length = u k - prv u k by omega, bg_zrun_eq]
theorem cnt_zeros {p : Nat → Bool} {a b : Nat} (hab : a ≤ b) (h : ∀ i, a ≤ i → i < b → p i = false) : cnt p b = cnt p a := by
  obtain ⟨j, rfl⟩ : ∃ j, b = a + j := ⟨b - a, by omega⟩
  have : cnt (fun i => p (a + i)) j = 0 := by rw [cnt_congr (q := fun _ => false) (fun i hi => h _ (by omega) (by omega)), cnt_false]
  rw [cnt_add, this]; rfl
theorem hb_cnt {u : Nat → Nat} {n : Nat} (h : Mono u n) : ∀ {k : Nat}, k ≤ n → cnt (bg (hb u n)) (k + prv u k) = k
  | 0, _ => rfl
  | k + 1, hk => by
    have ih := hb_cnt h (show k ≤ n by omega)
    have := prv_le h hk
    rw [prv_succ, show k + 1 + u k = (u k + k) + 1 by omega]
    have e : cnt (bg (hb u n)) (u k + k + 1) = cnt (bg (hb u n)) (u k + k) + 1 := by simp [cnt, hb_one h hk]
    rw [e, cnt_zeros (a := k + prv u k) (by omega) (fun i h1 h2 => hb_zero h hk h1 (by omega)), ih]
theorem hb_cntAt {u : Nat → Nat} {k n p : Nat} (h : Mono u n) (hk : k < n) (h1 : k + prv u k ≤ p) (h2 : p ≤ k + u k) : cnt (bg (hb u n)) p = k := by
  rw [cnt_zeros (a := k + prv u k) h1 (fun i g1 g2 => hb_zero h hk g1 (by omega)), hb_cnt h (by omega)]
theorem hb_lt {u : Nat → Nat} {k n : Nat} (h : Mono u n) (hk : k < n) : u k + k < (hb u n).length := by
  rw [hb_len h]
  have h1 := h k (n - 1) (by omega) (by omega)
  have : prv u n = u (n - 1) := by unfold prv; rw [if_neg (by omega)]
  omega
/-- The k-th one. -/
theorem hb_place {u : Nat → Nat} {k n : Nat} (h : Mono u n) (hk : k < n) : atL (plc (bg (hb u n)) (hb u n).length) (k : Int) = ((u k + k : Nat) : Int) :=
  (PlaceP.eq (.inr ⟨u k + k, rfl, hb_lt h hk, hb_one h hk, by rw [hb_cntAt h hk (by have := prv_le h hk; omega) (by omega)]⟩)).symm
theorem hb_ones {u : Nat → Nat} {n : Nat} (h : Mono u n) : cnt (bg (hb u n)) (hb u n).length = n := by rw [hb_len h]; exact hb_cnt h (Nat.le_refl _)
theorem hb_zeros {u : Nat → Nat} {n : Nat} (h : Mono u n) : cnt (nz (hb u n)) (hb u n).length = prv u n := by
  have h1 := cnt_nz (bits := hb u n) (Nat.le_refl _)
  have h2 := hb_ones h
  have h3 := hb_len h
  omega
/-- How many are below a number. -/
def clt (u : Nat → Nat) (n v : Nat) : Nat := cnt (fun i => decide (u i < v)) n
theorem clt_le (u : Nat → Nat) (n v : Nat) : clt u n v ≤ n := cnt_le _ _
theorem cnt_true {p : Nat → Bool} {n : Nat} (h : ∀ i, i < n → p i = true) : cnt p n = n := by
  induction n with
  | zero => rfl
  | succ n ih => simp only [cnt]; rw [ih (fun i hi => h i (by omega)), h n (by omega)]; rfl
theorem clt_iff {u : Nat → Nat} {v : Nat} : ∀ {n i : Nat}, Mono u n → i < n → (i < clt u n v ↔ u i < v)
  | 0, i, _, hi => by omega
  | n + 1, i, h, hi => by
    by_cases g : u n < v
    · have : clt u (n + 1) v = n + 1 := cnt_true fun j hj => by have := h j n (by omega) (by omega); simp; omega
      rw [this]
      have := h i n (by omega) (by omega)
      omega
    · have e : clt u (n + 1) v = clt u n v := by unfold clt; simp [cnt, g]
      rw [e]
      by_cases e2 : i = n
      · subst e2; have := clt_le u i v; omega
      · exact clt_iff (h.le (by omega)) (by omega)
/-- Ones ahead of the nought with which an upper part ends. -/
theorem hb_ahead {u : Nat → Nat} {n up : Nat} (h : Mono u n) (hup : 0 < up) :
    (prv u n ≤ up - 1 ∧ atL (plc (nz (hb u n)) (hb u n).length) ((up : Int) - 1) = -1 ∧ clt u n up = n) ∨
    ∃ a : Nat, atL (plc (nz (hb u n)) (hb u n).length) ((up : Int) - 1) = a ∧ a < (hb u n).length ∧ cnt (bg (hb u n)) a = clt u n up := by
  have hz := hb_zeros h
  by_cases g : prv u n ≤ up - 1
  · refine .inl ⟨g, (PlaceP.eq (.inl ⟨rfl, .inr (by omega)⟩)).symm, ?_⟩
    have hle := clt_le u n up
    by_cases e : clt u n up < n
    · have h1 := clt_iff (v := up) h e
      have h2 := h (clt u n up) (n - 1) (by omega) (by omega)
      have : prv u n = u (n - 1) := by unfold prv; rw [if_neg (by omega)]
      omega
    · omega
  · have hn : 0 < n := by
      rcases Nat.eq_zero_or_pos n with e | e
      · subst e; simp [prv] at g
      · exact e
    have hp : prv u n = u (n - 1) := by unfold prv; rw [if_neg (by omega)]
    have hc : clt u n up < n := by
      have := clt_iff (v := up) h (show n - 1 < n by omega)
      omega
    have hcu : up ≤ u (clt u n up) := by have := clt_iff (v := up) h hc; omega
    have hcp : prv u (clt u n up) ≤ up - 1 := by
      unfold prv
      split
      · omega
      · have := (clt_iff (v := up) (i := clt u n up - 1) h (by omega)).1 (by omega); omega
    have c1 : cnt (bg (hb u n)) (clt u n up + (up - 1)) = clt u n up := hb_cntAt h hc (by omega) (by omega)
    have z1 : bg (hb u n) (clt u n up + (up - 1)) = false := hb_zero h hc (by omega) (by omega)
    have hl : clt u n up + (up - 1) < (hb u n).length := by have := hb_lt h hc; omega
    have cz := cnt_nz (bits := hb u n) (n := clt u n up + (up - 1)) (by omega)
    refine .inr ⟨clt u n up + (up - 1), ?_, hl, c1⟩
    refine (PlaceP.eq (.inr ⟨_, rfl, hl, ?_, by omega⟩)).symm
    unfold nz; rw [decide_eq_true hl, z1]; rfl

/-- The low width. -/
def lowW (n last : Int) : Nat := if n < 1 ∨ last < n then 0 else Lib.bitLen (last / n).toNat - 1
theorem lowW_spec {n last : Nat} (hn : 0 < n) (hl : last < 18446744073709551616) : (∀ k, k < lowW n last → n ≤ last / 2 ^ (k + 1)) ∧ last / 2 ^ (lowW n last + 1) < n := by
  unfold lowW
  by_cases g : last < n
  · rw [if_pos (by omega)]
    exact ⟨fun k hk => by omega, by have := Nat.div_le_self last (2 ^ (0 + 1)); omega⟩
  · rw [if_neg (by omega), show ((last : Int) / (n : Int)).toNat = last / n by rw [← Int.natCast_ediv, Int.toNat_natCast]]
    have hq : last / n < 18446744073709551616 := Nat.lt_of_le_of_lt (Nat.div_le_self _ _) hl
    have hq0 : last / n ≠ 0 := by have := (Nat.one_le_div_iff hn).2 (show n ≤ last by omega); omega
    obtain ⟨g1, g2⟩ := bl_ge hq0 hq
    have g3 := bl_lt _ hq _ (Nat.le_refl _)
    refine ⟨fun k hk => ?_, ?_⟩
    · rw [Nat.le_div_iff_mul_le (Nat.two_pow_pos _)]
      have e1 : 2 ^ (k + 1) ≤ last / n := Nat.le_trans (Nat.pow_le_pow_right (by omega) (by omega)) g2
      have := Nat.mul_le_mul_left n e1
      exact Nat.le_trans this (Nat.mul_div_le _ _)
    · rw [show Lib.bitLen (last / n) - 1 + 1 = Lib.bitLen (last / n) by omega, Nat.div_lt_iff_lt_mul (Nat.two_pow_pos _)]
      have := (Nat.div_lt_iff_lt_mul hn).1 g3
      rwa [Nat.mul_comm] at this
theorem lowW_up {n last : Nat} (hn : 0 < n) (hl : last < 18446744073709551616) : last / 2 ^ lowW n last < 2 * n := by
  have h := (lowW_spec hn hl).2
  rw [Nat.pow_succ, ← Nat.div_div_eq_div_mul] at h
  omega
theorem lowW_le {n last : Nat} (hl : last < 18446744073709551616) : lowW n last ≤ 63 := by
  unfold lowW
  split
  · omega
  · have : Lib.bitLen ((last : Int) / (n : Int)).toNat ≤ 64 := by
      rw [show ((last : Int) / (n : Int)).toNat = last / n by rw [← Int.natCast_ediv, Int.toNat_natCast]]
      have hq : last / n < 18446744073709551616 := Nat.lt_of_le_of_lt (Nat.div_le_self _ _) hl
      exact bl_le (by simpa using hq) hq
    omega
end Go.VC

namespace Go.VC
open Go
/-- The first place of some at which a number is not below another one. -/
def FindP (xs : List Nat) (lo hi : Int) (v : Nat) (r : Int) : Prop :=
  (r = -1 ∧ ∀ i : Nat, lo ≤ i → (i : Int) < hi → i < xs.length → wg xs i < v) ∨
  ∃ a : Nat, r = a ∧ lo ≤ a ∧ (a : Int) < hi ∧ a < xs.length ∧ v ≤ wg xs a ∧ ∀ i : Nat, lo ≤ i → i < a → wg xs i < v
def wz (zs : List Int) (i : Nat) : Int := (zs[i]?).getD 0
/-- The first number not below another one. -/
def NextIP (zs : List Int) (v r : Int) : Prop := (r = -1 ∧ ∀ i, i < zs.length → wz zs i < v) ∨ ∃ a : Nat, r = a ∧ a < zs.length ∧ v ≤ wz zs a ∧ ∀ i, i < a → wz zs i < v
theorem NextIP.one {zs : List Int} {v r s : Int} (h : NextIP zs v r) (g : NextIP zs v s) : r = s := by
  rcases h with ⟨rfl, h⟩ | ⟨a, rfl, h1, h2, h3⟩ <;> rcases g with ⟨rfl, g⟩ | ⟨b, rfl, g1, g2, g3⟩
  · rfl
  · have := h b g1; omega
  · have := g a h1; omega
  · rcases Nat.lt_trichotomy a b with e | e | e
    · have := g3 a e; omega
    · rw [e]
    · have := h3 b e; omega
/-- The last number not above another one. -/
def AheadIP (zs : List Int) (v r : Int) : Prop := (r = -1 ∧ ∀ i, i < zs.length → v < wz zs i) ∨ ∃ a : Nat, r = a ∧ a < zs.length ∧ wz zs a ≤ v ∧ ∀ i, a < i → i < zs.length → v < wz zs i
theorem AheadIP.one {zs : List Int} {v r s : Int} (h : AheadIP zs v r) (g : AheadIP zs v s) : r = s := by
  rcases h with ⟨rfl, h⟩ | ⟨a, rfl, h1, h2, h3⟩ <;> rcases g with ⟨rfl, g⟩ | ⟨b, rfl, g1, g2, g3⟩
  · rfl
  · have := h b g1; omega
  · have := g a h1; omega
  · rcases Nat.lt_trichotomy a b with e | e | e
    · have := h3 b e g1; omega
    · rw [e]
    · have := g3 a e h1; omega
/-- The first place of a number among some. -/
def FindIP (zs : List Int) (lo hi v r : Int) : Prop := (r = -1 ∧ ∀ i : Nat, i < zs.length → lo ≤ i → (i : Int) < hi → wz zs i ≠ v) ∨
  ∃ a : Nat, r = a ∧ a < zs.length ∧ lo ≤ a ∧ (a : Int) < hi ∧ wz zs a = v ∧ ∀ i : Nat, i < a → lo ≤ i → (i : Int) < hi → wz zs i ≠ v
theorem FindIP.one {zs : List Int} {lo hi v r s : Int} (h : FindIP zs lo hi v r) (g : FindIP zs lo hi v s) : r = s := by
  rcases h with ⟨rfl, h⟩ | ⟨a, rfl, h1, h2, h3, h4, h5⟩ <;> rcases g with ⟨rfl, g⟩ | ⟨b, rfl, g1, g2, g3, g4, g5⟩
  · rfl
  · exact absurd g4 (h b g1 g2 g3)
  · exact absurd h4 (g a h1 h2 h3)
  · rcases Nat.lt_trichotomy a b with e | e | e
    · exact absurd h4 (g5 a e h2 h3)
    · rw [e]
    · exact absurd g4 (h5 b e g2 g3)
/-- The number at a place, or -1. -/
def atZ (zs : List Int) (i : Int) : Int := if 0 ≤ i ∧ i < zs.length then wz zs i.toNat else -1
def outE (z : Int) : Prop := z < 0 ∨ 1099511627776 < z
instance (z : Int) : Decidable (outE z) := by unfold outE; infer_instance
def okE (zs : List Int) (i : Nat) : Prop := ¬ outE (wz zs i) ∧ ¬ (0 < i ∧ wz zs i < wz zs (i - 1))
/-- What is wrong with numbers. -/
def WrongP (zs : List Int) (e : Int) : Prop := (e = 0 ∧ ∀ i, i < zs.length → okE zs i) ∨
  ∃ a, a < zs.length ∧ (∀ i, i < a → okE zs i) ∧ ((e = 8 ∧ outE (wz zs a)) ∨ (e = 9 ∧ ¬ outE (wz zs a) ∧ 0 < a ∧ wz zs a < wz zs (a - 1)))
theorem WrongP.one {zs : List Int} {e f : Int} (h : WrongP zs e) (g : WrongP zs f) : e = f := by
  have bad : ∀ {a : Nat} {e : Int}, ((e = 8 ∧ outE (wz zs a)) ∨ (e = 9 ∧ ¬ outE (wz zs a) ∧ 0 < a ∧ wz zs a < wz zs (a - 1))) → ¬ okE zs a := fun h ok => by
    rcases h with ⟨_, h⟩ | ⟨_, _, h⟩
    · exact ok.1 h
    · exact ok.2 h
  rcases h with ⟨rfl, h⟩ | ⟨a, h1, h2, h3⟩ <;> rcases g with ⟨rfl, g⟩ | ⟨b, g1, g2, g3⟩
  · rfl
  · exact absurd (h b g1) (bad g3)
  · exact absurd (g a h1) (bad h3)
  · rcases Nat.lt_trichotomy a b with e | e | e
    · exact absurd (g2 a e) (bad h3)
    · subst e
      rcases h3 with ⟨rfl, h3⟩ | ⟨rfl, h3, _⟩ <;> rcases g3 with ⟨rfl, g3⟩ | ⟨rfl, g3, _⟩
      · rfl
      · exact absurd h3 g3
      · exact absurd g3 h3
      · rfl
    · exact absurd (h2 b e) (bad g3)
/-- Numbers as ints. -/
abbrev zl (l : List Nat) : List Int := l.map (fun x : Nat => (x : Int))
theorem wz_zl (l : List Nat) (i : Nat) : wz (zl l) i = (wg l i : Int) := by
  unfold wz wg zl
  rw [List.getElem?_map]
  cases l[i]? <;> rfl
/-- Numbers that may be a sequence's. -/
def GoodL (l : List Nat) : Prop := Mono (wg l) l.length ∧ ∀ x ∈ l, x ≤ 1099511627776
theorem good_of {zs : List Int} (h : ∀ i, i < zs.length → okE zs i) : ∃ l : List Nat, zs = zl l ∧ GoodL l := by
  have hz : ∀ z ∈ zs, 0 ≤ z ∧ z ≤ 1099511627776 := fun z hz => by
    obtain ⟨i, hi, rfl⟩ := List.getElem_of_mem hz
    have := (h i hi).1
    unfold outE wz at this
    rw [List.getElem?_eq_getElem hi] at this
    simp only [Option.getD_some] at this
    omega
  refine ⟨zs.map Int.toNat, ?_, ?_, ?_⟩
  · unfold zl
    rw [List.map_map]
    symm
    rw [List.map_congr_left (g := id) (fun z hz' => by have := hz z hz'; simp only [Function.comp, id]; omega), List.map_id]
  · rw [List.length_map]
    have e : ∀ i, i < zs.length → ((wg (zs.map Int.toNat) i : Nat) : Int) = wz zs i := fun i hi => by
      unfold wg wz
      rw [List.getElem?_map, List.getElem?_eq_getElem hi]
      have := hz _ (List.getElem_mem hi)
      simp only [Option.map_some, Option.getD_some]; omega
    intro i j hij
    induction j with
    | zero => intro hj; have : i = 0 := by omega
              subst this; exact Nat.le_refl _
    | succ j ih =>
      intro hj
      by_cases g : i = j + 1
      · subst g; exact Nat.le_refl _
      · have h1 := ih (by omega) (by omega)
        have h2 := (h (j + 1) hj).2
        rw [Nat.add_sub_cancel] at h2
        have e1 := e j (by omega)
        have e2 := e (j + 1) hj
        omega
  · intro x hx
    obtain ⟨z, hz', rfl⟩ := List.mem_map.1 hx
    have := hz z hz'; omega
theorem okE_of {l : List Nat} (h : GoodL l) : ∀ i, i < (zl l).length → okE (zl l) i := fun i hi => by
  rw [List.length_map] at hi
  unfold okE outE
  rw [wz_zl, wz_zl]
  have h1 : wg l i ≤ 1099511627776 := h.2 _ (by unfold wg; rw [List.getElem?_eq_getElem hi]; exact List.getElem_mem hi)
  have h2 := h.1 (i - 1) i (by omega) hi
  omega
end Go.VC

namespace Go.VC
open Go
theorem wg_map {l : List Nat} {f : Nat → Nat} {i : Nat} (hi : i < l.length) : wg (l.map f) i = f (wg l i) := by
  unfold wg; rw [List.getElem?_map, List.getElem?_eq_getElem hi]; rfl
theorem lt_parts {x v m : Nat} (hm : 0 < m) : x < v ↔ x / m < v / m ∨ (x / m = v / m ∧ x % m < v % m) := by
  have h1 := Nat.div_add_mod x m
  have h2 := Nat.div_add_mod v m
  constructor
  · intro h
    have := Nat.div_le_div_right (c := m) (Nat.le_of_lt h)
    rcases Nat.lt_or_eq_of_le this with g | g
    · exact .inl g
    · refine .inr ⟨g, ?_⟩
      rw [g] at h1; omega
  · rintro (h | ⟨h, g⟩)
    · exact Nat.lt_of_div_lt_div h
    · rw [h] at h1; omega
/-- The upper parts. -/
def upl (l : List Nat) (W : Nat) (i : Nat) : Nat := wg l i / 2 ^ W
theorem upl_mono {l : List Nat} (h : GoodL l) (W : Nat) : Mono (upl l W) l.length := fun i j hi hj => Nat.div_le_div_right (h.1 i j hi hj)
section
variable {l : List Nat} {W v : Nat}
theorem eg_mono (h : GoodL l) : ∀ i j : Nat, ((clt (upl l W) l.length (v / 2 ^ W) : Nat) : Int) ≤ i → i ≤ j → (j : Int) < (clt (upl l W) l.length (v / 2 ^ W + 1) : Nat) → j < (l.map (· % 2 ^ W)).length →
    wg (l.map (· % 2 ^ W)) i ≤ wg (l.map (· % 2 ^ W)) j := by
  intro i j h1 h2 h3 h4
  rw [List.length_map] at h4
  rw [wg_map (by omega), wg_map h4]
  have m := upl_mono h W
  have a1 := clt_iff (v := v / 2 ^ W) m (show i < l.length by omega)
  have a2 := clt_iff (v := v / 2 ^ W + 1) m h4
  have a3 := m i j h2 h4
  have a4 := h.1 i j h2 h4
  have e : upl l W i = upl l W j := by omega
  unfold upl at e
  have d1 := Nat.div_add_mod (wg l i) (2 ^ W)
  have d2 := Nat.div_add_mod (wg l j) (2 ^ W)
  rw [e] at d1
  omega
theorem eg_next (h : GoodL l) (hn : 0 < l.length) (hl : v ≤ wg l (l.length - 1)) {r : Int} (hr : FindP (l.map (· % 2 ^ W)) (clt (upl l W) l.length (v / 2 ^ W) : Nat) (clt (upl l W) l.length (v / 2 ^ W + 1) : Nat) (v % 2 ^ W) r) :
    ∃ a : Nat, (if r < 0 then ((clt (upl l W) l.length (v / 2 ^ W + 1) : Nat) : Int) else r) = a ∧ a < l.length ∧ v ≤ wg l a ∧ ∀ i, i < a → wg l i < v := by
  have m := upl_mono h W
  have hp := Nat.two_pow_pos W
  have i1 := fun i (hi : i < l.length) => clt_iff (v := v / 2 ^ W) m hi
  have i2 := fun i (hi : i < l.length) => clt_iff (v := v / 2 ^ W + 1) m hi
  have c2 := clt_le (upl l W) l.length (v / 2 ^ W + 1)
  rcases hr with ⟨rfl, hr⟩ | ⟨a, rfl, h1, h2, h3, h4, h5⟩
  · rw [if_pos (by omega)]
    have hlt : ∀ i, i < l.length → i < clt (upl l W) l.length (v / 2 ^ W + 1) → wg l i < v := fun i hi hc => by
      rw [lt_parts hp]
      have := (i2 i hi).1 hc
      by_cases g : i < clt (upl l W) l.length (v / 2 ^ W)
      · exact .inl ((i1 i hi).1 g)
      · have := (i1 i hi)
        refine .inr ⟨by unfold upl at *; omega, ?_⟩
        have := hr i (by omega) (by omega) (by rw [List.length_map]; exact hi)
        rwa [wg_map hi] at this
    by_cases g : clt (upl l W) l.length (v / 2 ^ W + 1) < l.length
    · refine ⟨_, rfl, g, ?_, fun i hi => hlt i (by omega) hi⟩
      have := (i2 _ g)
      by_cases e : v ≤ wg l (clt (upl l W) l.length (v / 2 ^ W + 1))
      · exact e
      · have := (lt_parts hp).1 (show wg l (clt (upl l W) l.length (v / 2 ^ W + 1)) < v by omega)
        unfold upl at *; omega
    · have := hlt (l.length - 1) (by omega) (by omega)
      omega
  · rw [if_neg (by omega)]
    rw [List.length_map] at h3
    rw [wg_map h3] at h4
    refine ⟨a, rfl, h3, ?_, fun i hi => ?_⟩
    · by_cases e : v ≤ wg l a
      · exact e
      · have := (lt_parts hp).1 (show wg l a < v by omega)
        have := i1 a h3
        unfold upl at *; omega
    · rw [lt_parts hp]
      by_cases g : i < clt (upl l W) l.length (v / 2 ^ W)
      · exact .inl ((i1 i (by omega)).1 g)
      · have q1 := i1 i (show i < l.length by omega)
        have q2 := i2 i (show i < l.length by omega)
        refine .inr ⟨by unfold upl at *; omega, ?_⟩
        have := h5 i (by omega) hi
        rwa [wg_map (by omega)] at this
theorem zl_len (l : List Nat) : (zl l).length = l.length := List.length_map ..
theorem eg_nextI {a : Nat} {z : Int} (hz : max z 0 = (v : Int)) (h1 : a < l.length) (h2 : v ≤ wg l a) (h3 : ∀ i, i < a → wg l i < v) : NextIP (zl l) z (a : Int) := by
  refine .inr ⟨a, rfl, by rw [zl_len]; exact h1, by rw [wz_zl]; omega, fun i hi => ?_⟩
  have := h3 i hi
  rw [wz_zl]; omega
theorem eg_none {z : Int} (h : GoodL l) (hz : (wg l (l.length - 1) : Int) < z) : NextIP (zl l) z (-1) := by
  refine .inl ⟨rfl, fun i hi => ?_⟩
  rw [zl_len] at hi
  have := h.1 i (l.length - 1) (by omega) (by omega)
  rw [wz_zl]; omega
theorem eg_ahead {z r : Int} (h : GoodL l) (hr : NextIP (zl l) (z + 1) r) (hr0 : r ≠ -1) : AheadIP (zl l) z (r - 1) := by
  rcases hr with ⟨rfl, _⟩ | ⟨a, rfl, h1, h2, h3⟩
  · exact absurd rfl hr0
  · rw [zl_len] at h1
    have up : ∀ i, a ≤ i → i < l.length → z < wz (zl l) i := fun i h4 h5 => by
      have := h.1 a i h4 h5
      rw [wz_zl] at h2 ⊢; omega
    rcases Nat.eq_zero_or_pos a with e | e
    · subst e
      exact .inl ⟨rfl, fun i hi => up i (by omega) (by rwa [zl_len] at hi)⟩
    · refine .inr ⟨a - 1, by omega, by rw [zl_len]; omega, ?_, fun i h4 h5 => up i (by omega) (by rwa [zl_len] at h5)⟩
      have := h3 (a - 1) (by omega); omega
theorem eg_last {z : Int} (hn : 0 < l.length) (h : GoodL l) (hz : (wg l (l.length - 1) : Int) ≤ z) : AheadIP (zl l) z ((l.length : Int) - 1) :=
  .inr ⟨l.length - 1, by omega, by rw [zl_len]; omega, by rw [wz_zl]; exact hz, fun i h1 h2 => by rw [zl_len] at h2; omega⟩
theorem eg_findNone {lo hi z : Int} (h : GoodL l) {r : Int} (hr : NextIP (zl l) z r) (hx : r < 0 ∨ atZ (zl l) r ≠ z) : FindIP (zl l) lo hi z (-1) := by
  refine .inl ⟨rfl, fun i hi _ _ e => ?_⟩
  rcases hr with ⟨rfl, h1⟩ | ⟨a, rfl, h1, h2, h3⟩
  · have := h1 i hi; omega
  · rcases hx with hx | hx
    · omega
    · rw [zl_len] at hi h1
      unfold atZ at hx
      rw [if_pos (by rw [zl_len]; omega), Int.toNat_natCast] at hx
      by_cases g : i < a
      · have := h3 i g; omega
      · have := h.1 a i (by omega) hi
        rw [wz_zl] at *; omega
theorem eg_find {lo hi z : Int} (h : GoodL l) {a : Nat} (hr : NextIP (zl l) z (a : Int)) (hx : atZ (zl l) a = z) :
    ((min hi l.length ≤ max (a : Int) lo ∨ atZ (zl l) (max (a : Int) lo) ≠ z) → FindIP (zl l) lo hi z (-1)) ∧
    (max (a : Int) lo < min hi l.length → atZ (zl l) (max (a : Int) lo) = z → FindIP (zl l) lo hi z (max (a : Int) lo)) := by
  rcases hr with ⟨hr, _⟩ | ⟨b, hb, h1, h2, h3⟩
  · omega
  · have : b = a := by omega
    subst this
    rw [zl_len] at h1
    have hxa : wz (zl l) b = z := by
      unfold atZ at hx
      rwa [if_pos (by rw [zl_len]; omega), Int.toNat_natCast] at hx
    refine ⟨fun hh => .inl ⟨rfl, fun i hi h4 h5 e => ?_⟩, fun g1 g2 => .inr ⟨(max (b : Int) lo).toNat, by omega, by rw [zl_len]; omega, by omega, by omega, ?_, fun i g3 g4 g5 e => ?_⟩⟩
    · rw [zl_len] at hi
      have hib : b ≤ i := by
        by_cases g : b ≤ i
        · exact g
        · have := h3 i (by omega); omega
      rcases hh with hh | hh
      · omega
      · unfold atZ at hh
        rw [if_pos (by rw [zl_len]; omega)] at hh
        have m1 := h.1 b (max (b : Int) lo).toNat (by omega) (by omega)
        have m2 := h.1 (max (b : Int) lo).toNat i (by omega) hi
        rw [wz_zl] at *; omega
    · unfold atZ at g2
      rwa [if_pos (by rw [zl_len]; omega)] at g2
    · have := h3 i (by omega); omega
theorem atZ_in {i : Nat} (hi : i < l.length) : atZ (zl l) (i : Int) = (wg l i : Int) := by
  unfold atZ; rw [if_pos (by rw [zl_len]; omega), Int.toNat_natCast, wz_zl]
theorem atZ_out {zs : List Int} {i : Int} (h : ¬ (0 ≤ i ∧ i < zs.length)) : atZ zs i = -1 := by unfold atZ; rw [if_neg h]
/-- A number out of its parts. -/
theorem parts_or (x W : Nat) : (x / 2 ^ W) <<< W ||| x % 2 ^ W = x := by
  rw [← Nat.shiftLeft_add_eq_or_of_lt (Nat.mod_lt _ (Nat.two_pow_pos W)), Nat.shiftLeft_eq, Nat.mul_comm]
  exact Nat.div_add_mod x _
end
end Go.VC
