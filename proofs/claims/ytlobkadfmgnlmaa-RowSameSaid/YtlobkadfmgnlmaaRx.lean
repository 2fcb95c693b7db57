/- What the functions of package bitrow compute. -/
import Derived.Test.YtlobkadfmgnlmaaRw
namespace Go.Proofs.Ytlobkadfmgnlmaa.V
open Go Go.VC

/-- A row of bits, and that the world holds it as its own. -/
structure Row (w : World) (r : Nat) (l : Slc) (bits : List Bool) : Prop where
  blk : Blk w r [.slice l.a l.len l.cap, .int .i64 (bits.length : Int)] 98
  own : Ownd w l 22 1 ((wordsOf bits).map U)
  ne : ¬ On l r
/-- The blocks of a row. -/
def RF (r : Nat) (l : Slc) (k : Nat) : Prop := k = r ∨ On l k

variable {w w' : World} {l : Slc} {bits : List Bool} {ws : List Nat} {r : Nat} {S : Nat → Prop}

theorem Row.kp (h : Row w r l bits) (g : Kp S w w') (hn : ∀ k, RF r l k → ¬ S k) : Row w' r l bits :=
  ⟨h.blk.kp g (hn r (.inl rfl)), h.own.kp g (fun k hk => hn k (.inr hk)), h.ne⟩
theorem Row.lt (h : Row w r l bits) {k : Nat} (hk : RF r l k) : k < w.heap.size := by
  rcases hk with rfl | hk
  · exact h.blk.lt
  · exact h.own.on hk
theorem Row.rd (h : Row w r l bits) : RdW w l (wordsOf bits) := h.own.rdW fun _ hx => wordsOf_lt hx
theorem Row.len (h : Row w r l bits) : l.len = (bits.length + 63) / 64 := by rw [← h.rd.len, length_wordsOf]

theorem new (w : World) : Calls Try.prog 81 #[] w (Rv fun v w' => v = .pointer (some ⟨w.heap.size, 0, none⟩) ∧ Row w' w.heap.size ⟨none, 0, 0⟩ [] ∧ Kp no w w') := by
  refine c81 _ _ ?_
  unfold B81
  exact ⟨rfl, ⟨Blk.new _ _ _, (Ownd.nil _ _ _), On.nil⟩, (Kp.refl _ _).alloc _ _⟩

theorem need (w : World) (n : Nat) (hn : n ≤ 9223372036854775807) : Is 87 #[.int .i64 n] w (.int .i64 (((n + 63) / 64 : Nat) : Int)) := by
  refine c87 _ _ _ ?_
  unfold B87
  refine ⟨by omega, by omega, congrArg _ ?_, rfl⟩
  rw [Int.tdiv_eq_ediv_of_nonneg (by omega), Int.tmod_eq_emod_of_nonneg (by omega), w64 (x := (n : Int) / 64) ⟨by omega, by omega⟩, w64 ⟨by omega, by omega⟩]
  omega

theorem len1 (h : Row w r l bits) : Is 52 #[.pointer (some ⟨r, 0, none⟩)] w (.int .i64 bits.length) := by
  refine c52 _ _ _ ?_
  unfold B52
  exact ⟨_, h.blk.cell 1, rfl, rfl⟩

theorem bit1 (h : Row w r l bits) (hsz : bits.length ≤ 1099511627776) (i : Int) : Is 44 #[.pointer (some ⟨r, 0, none⟩), .int .i64 i] w (.bool (bz bits i)) := by
  refine c44 _ _ _ _ ?_
  unfold B44
  have hl := h.len
  refine br_dec (fun h0 => ⟨?_, rfl⟩) (fun h0 => ⟨_, h.blk.cell 1, br_dec (fun h1 => ⟨?_, rfl⟩) (fun h1 => ?_)⟩)
  · unfold bz; simp; omega
  · unfold bz; rw [bg_out (by omega)]; simp
  · obtain ⟨k, rfl⟩ : ∃ k : Nat, i = k := ⟨i.toNat, by omega⟩
    rw [Int.tdiv_eq_ediv_of_nonneg (by omega), Int.tmod_eq_emod_of_nonneg (by omega), w64 (x := (k : Int) / 64) ⟨by omega, by omega⟩, wu64 (x := (k : Int) % 64) ⟨by omega, by omega⟩]
    obtain ⟨a, ha, hc⟩ := h.rd.at (i := (k : Int) / 64) (by omega) (by omega)
    refine ⟨l, h.blk.cell 0, by omega, by omega, by omega, a, ha, _, hc, by omega, by omega, ?_, rfl⟩
    rw [show ((k : Int) / 64).toNat = k / 64 by omega, wg_wordsOf, show (k : Int) % 64 = ((k % 64 : Nat) : Int) by omega, shr_u64 (wordOf_lt bits _), show (1 : Int) = ((1 : Nat) : Int) from rfl, and_u64 (shr_lt (wordOf_lt bits _) _) (by omega)]
    have e : bz bits k = (wordOf bits (k / 64)).testBit (k % 64) := by
      unfold bz
      rw [testBit_wordOf _ _ _ (by omega), show 64 * (k / 64) + k % 64 = k by omega]
      simp
    rw [e, Nat.testBit, Nat.and_comm 1]
    congr 1
    have : (wordOf bits (k / 64) >>> (k % 64)) &&& 1 ≤ 1 := Nat.and_le_right
    generalize (wordOf bits (k / 64) >>> (k % 64)) &&& 1 = z at *
    rcases Nat.le_one_iff_eq_zero_or_eq_one.1 this with rfl | rfl <;> rfl

theorem word1 (h : Row w r l bits) (k : Int) : Is 84 #[.pointer (some ⟨r, 0, none⟩), .int .i64 k] w (.int .u64 ((if 0 ≤ k then wordOf bits k.toNat else 0 : Nat) : Int)) := by
  refine c84 _ _ _ _ ?_
  unfold B84
  have hl := h.len
  refine br_dec (fun h0 => ⟨?_, rfl⟩) (fun h0 => ⟨l, h.blk.cell 0, br_dec (fun h1 => ⟨?_, rfl⟩) (fun h1 => ⟨l, h.blk.cell 0, by omega, by omega, ?_⟩)⟩)
  · rw [if_neg (by omega)]; rfl
  · rw [if_pos (by omega), wordOf_out (by omega)]; rfl
  · obtain ⟨a, ha, hc⟩ := h.rd.at (i := k) (by omega) (by omega)
    refine ⟨a, ha, _, hc, ?_, rfl⟩
    rw [if_pos (by omega), wg_wordsOf]

theorem cut1 (h : Row w r l bits) (hsz : bits.length ≤ 1099511627776) (a b : Int) (ha : -9223372036854775808 ≤ a ∧ a ≤ 9223372036854775807) :
    Is 46 #[.pointer (some ⟨r, 0, none⟩), .int .i64 a, .int .i64 b] w (.int .u64 (cutL bits a (clampW b))) := by
  refine c46 _ _ _ _ _ ?_
  unfold B46
  have z : ∀ {q : Prop}, (q → cutL bits a (clampW b) = 0) → q → (Value.int .u64 0 = Value.int .u64 (cutL bits a (clampW b)) ∧ w = w) := fun h hq => ⟨by rw [h hq]; rfl, rfl⟩
  have hk := clampW_le b
  have hz : (∀ i, i < clampW b → bz bits (a + i) = false) → cutL bits a (clampW b) = 0 := fun h => by
    unfold cutL; rw [ofB_congr (q := fun _ => false) h, ofB_false]
  refine br_dec (z fun h0 => ?_) (fun h0 => ⟨_, h.blk.cell 1, br_dec (z fun h1 => ?_) (fun h1 => br_dec (z fun h2 => ?_) (fun h2 => ?_))⟩)
  · have : clampW b = 0 := by unfold clampW; omega
    rw [this]; rfl
  · exact hz fun i hi => by unfold bz; rw [bg_out (by omega)]; simp
  · exact hz fun i hi => by unfold bz; simp; omega
  have hmin : clampW (min b 64) = clampW b := by unfold clampW; omega
  refine br_dec (fun h3 => ?_) (fun h3 => ?_)
  · obtain ⟨k, rfl⟩ : ∃ k : Nat, a = -(k : Int) := ⟨(-a).toNat, by omega⟩
    have e : IntKind.u64.wrap (IntKind.i64.wrap (0 - -(k : Int))) = (k : Int) := by
      rw [w64 ⟨by omega, by omega⟩, wu64 ⟨by omega, by omega⟩]; omega
    rw [e]
    refine usei (word1 h 0) ⟨_, rfl, by omega, usei (mask w _) ⟨_, rfl, ?_, rfl⟩⟩
    rw [hmin, shl_u64, low _ _ (Nat.mod_lt _ (by omega)) hk]
    congr 2
    refine ofB_of_testBit fun i => ?_
    rw [Nat.testBit_mod_two_pow, show (18446744073709551616 : Nat) = 2 ^ 64 from rfl, Nat.testBit_mod_two_pow, Nat.testBit_shiftLeft, if_pos (by omega)]
    unfold bz
    by_cases hi : i < clampW b
    · simp only [hi, decide_true, Bool.true_and, show i < 64 by omega]
      by_cases h5 : k ≤ i
      · rw [testBit_wordOf _ _ _ (by omega)]
        simp [h5, show (0 : Int) ≤ -(k : Int) + i by omega, show (-(k : Int) + i).toNat = i - k by omega]
      · simp [h5, show ¬ (0 : Int) ≤ -(k : Int) + i by omega]
    · simp [hi]
  · obtain ⟨k, rfl⟩ : ∃ k : Nat, a = (k : Int) := ⟨a.toNat, by omega⟩
    rw [Int.tdiv_eq_ediv_of_nonneg (by omega), Int.tmod_eq_emod_of_nonneg (by omega), w64 (x := (k : Int) / 64) ⟨by omega, by omega⟩, wu64 (x := (k : Int) % 64) ⟨by omega, by omega⟩]
    have hb : ∀ i : Nat, bz bits ((k : Int) + i) = bg bits (k + i) := fun i => by
      unfold bz
      have : ((k : Int) + i).toNat = k + i := by omega
      simp [this, show (0 : Int) ≤ (k : Int) + i by omega]
    refine ⟨by omega, by omega, usei (word1 h _) ⟨_, rfl, by omega, br_dec (fun h4 => ?_) (fun h4 => ?_)⟩⟩
    · rw [w64 (x := (k : Int) / 64 + 1) ⟨by omega, by omega⟩]
      refine usei (word1 h _) ⟨_, rfl, ?_⟩
      have e2 : IntKind.u64.wrap (IntKind.i64.wrap (64 - (k : Int) % 64)) = ((64 - k % 64 : Nat) : Int) := by
        rw [w64 ⟨by omega, by omega⟩, wu64 ⟨by omega, by omega⟩]; omega
      rw [e2]
      refine ⟨by omega, usei (mask w _) ⟨_, rfl, ?_, rfl⟩⟩
      rw [if_pos (by omega), if_pos (by omega), show ((k : Int) / 64).toNat = k / 64 by omega, show ((k : Int) / 64 + 1).toNat = k / 64 + 1 by omega, show (k : Int) % 64 = ((k % 64 : Nat) : Int) by omega,
        shr_u64 (wordOf_lt bits _), shl_u64, or_u64 (shr_lt (wordOf_lt bits _) _) (Nat.mod_lt _ (by omega)), hmin, low _ _ (Nat.or_lt_two_pow (n := 64) (shr_lt (wordOf_lt bits _) _) (Nat.mod_lt _ (by omega))) hk]
      congr 2
      refine ofB_of_testBit fun i => ?_
      rw [Nat.testBit_mod_two_pow, Nat.testBit_or, Nat.testBit_shiftRight, Nat.testBit_mod_two_pow, Nat.testBit_shiftLeft, hb]
      by_cases hi : i < clampW b
      · simp only [hi, decide_true, Bool.true_and, show i < 64 by omega]
        by_cases h5 : k % 64 + i < 64
        · rw [testBit_wordOf _ _ _ h5]
          simp [show ¬ i ≥ 64 - k % 64 by omega, show 64 * (k / 64) + (k % 64 + i) = k + i by omega]
        · rw [tb_lt (wordOf_lt bits _) (by omega), testBit_wordOf _ _ _ (by omega)]
          simp [show i ≥ 64 - k % 64 by omega, show 64 * (k / 64 + 1) + (i - (64 - k % 64)) = k + i by omega]
      · simp [hi]
    · refine usei (mask w _) ⟨_, rfl, ?_, rfl⟩
      rw [if_pos (by omega), show ((k : Int) / 64).toNat = k / 64 by omega, show (k : Int) % 64 = ((k % 64 : Nat) : Int) by omega, shr_u64 (wordOf_lt bits _), hmin, low _ _ (shr_lt (wordOf_lt bits _) _) hk]
      congr 2
      refine ofB_of_testBit fun i => ?_
      rw [Nat.testBit_mod_two_pow, Nat.testBit_shiftRight, hb]
      by_cases hi : i < clampW b
      · rw [testBit_wordOf _ _ _ (by omega), show 64 * (k / 64) + (k % 64 + i) = k + i by omega]
      · simp [hi]

theorem cnt_out {p : Nat → Bool} {m : Nat} (h : ∀ i, m ≤ i → p i = false) : ∀ {n : Nat}, m ≤ n → cnt p n = cnt p m := by
  intro n hn
  obtain ⟨j, rfl⟩ : ∃ j, n = m + j := ⟨n - m, by omega⟩
  have : cnt (fun i => p (m + i)) j = 0 := by rw [cnt_congr (q := fun _ => false) (fun i _ => h _ (by omega)), cnt_false]
  rw [cnt_add, this]; rfl

theorem ones1 (h : Row w r l bits) (hsz : bits.length ≤ 1099511627776) : Is 48 #[.pointer (some ⟨r, 0, none⟩)] w (.int .i64 (cnt (bg bits) bits.length)) := by
  refine c48 _ _ _ ?_
  unfold B48
  have hl := h.len
  refine ⟨l, h.blk.cell 0, fun n i w' => w' = w ∧ ∃ m : Nat, i = m ∧ m ≤ l.len ∧ n = (cnt (bg bits) (64 * m) : Int), fun _ i _ => (l.len - i).toNat, ⟨rfl, 0, rfl, by omega, rfl⟩, ?_⟩
  rintro n i w' ⟨rfl, m, rfl, hm, rfl⟩
  have hc := cnt_le (bg bits) (64 * m)
  refine br_dec (fun h1 => ⟨l, h.blk.cell 0, by omega, h1, ?_⟩) (fun h1 => ⟨?_, rfl⟩)
  · obtain ⟨a, ha, hb⟩ := h.rd.at (i := m) (by omega) h1
    refine ⟨a, ha, _, hb, ?_⟩
    rw [Int.toNat_natCast, wg_wordsOf]
    refine usei (ones w' _ (wordOf_lt bits m)) ⟨_, rfl, ?_⟩
    have hp : pc (wordOf bits m) ≤ 64 := cnt_le _ _
    rw [w64 (x := (m : Int) + 1) ⟨by omega, by omega⟩, w64 ⟨by omega, by omega⟩]
    refine ⟨⟨rfl, m + 1, by omega, by omega, ?_⟩, by dsimp only; omega⟩
    rw [show 64 * (m + 1) = 64 * m + 64 by omega, cnt_add]
    have : pc (wordOf bits m) = cnt (fun i => bg bits (64 * m + i)) 64 := cnt_congr fun i hi => testBit_wordOf bits m i hi
    rw [this]; omega
  · obtain rfl : m = l.len := by omega
    rw [cnt_out (fun i hi => bg_out hi) (show bits.length ≤ 64 * l.len by omega)]

theorem bg_word (bits : List Bool) (k i : Nat) (hi : i < 64) : (wordOf bits k).testBit i = bg bits (64 * k + i) := testBit_wordOf bits k i hi
theorem cnt_zero {p : Nat → Bool} : ∀ {n : Nat}, cnt p n = 0 → ∀ i, i < n → p i = false
  | 0, _, i, hi => by omega
  | n + 1, h, i, hi => by
    simp only [cnt] at h
    by_cases e : i = n
    · subst e
      by_cases g : p i = true
      · simp [g] at h
      · simpa using g
    · exact cnt_zero (n := n) (by omega) i (by omega)

theorem sel0 {x : Nat} {n : Int} (hx : x < 18446744073709551616) (h0 : x ≠ 0) (h : SelP x 0 n) : ∃ a : Nat, n = a ∧ a < 64 ∧ x.testBit a = true ∧ ∀ i, i < a → x.testBit i = false := by
  rcases h with ⟨_, h | h⟩ | ⟨a, rfl, ha, hb, hc⟩
  · omega
  · have hz : pc x = 0 := by omega
    exfalso
    apply h0
    apply Nat.eq_of_testBit_eq
    intro i
    rw [Nat.zero_testBit]
    by_cases hi : i < 64
    · exact cnt_zero hz i hi
    · exact tb_lt hx (by omega)
  · exact ⟨a, rfl, ha, hb, cnt_zero (by omega)⟩

theorem next1 (h : Row w r l bits) (hsz : bits.length ≤ 1099511627776) (i : Int) : Calls Try.prog 50 #[.pointer (some ⟨r, 0, none⟩), .int .i64 i] w (Rv fun v w' => w' = w ∧ ∃ s : Int, v = .int .i64 s ∧ NextP bits i s) := by
  refine c50 _ _ _ _ ?_
  unfold B50
  have hl := h.len
  have hout : ∀ j : Nat, bits.length ≤ j → bg bits j = false := fun j hj => bg_out hj
  refine ⟨_, h.blk.cell 1, br_dec (fun h0 => ⟨rfl, _, rfl, .inl ⟨rfl, fun j hj => hout j (by omega)⟩⟩) (fun h0 => ?_)⟩
  obtain ⟨k, hk⟩ : ∃ k : Nat, max i 0 = k := ⟨(max i 0).toNat, by omega⟩
  rw [hk] at h0 ⊢
  rw [Int.tdiv_eq_ediv_of_nonneg (by omega), Int.tmod_eq_emod_of_nonneg (by omega), w64 (x := (k : Int) / 64) ⟨by omega, by omega⟩, wu64 (x := (k : Int) % 64) ⟨by omega, by omega⟩]
  obtain ⟨a, ha, hc⟩ := h.rd.at (i := (k : Int) / 64) (by omega) (by omega)
  refine ⟨l, h.blk.cell 0, by omega, by omega, by omega, a, ha, _, hc, by omega, by omega, ?_⟩
  rw [show ((k : Int) / 64).toNat = k / 64 by omega, wg_wordsOf, show (k : Int) % 64 = ((k % 64 : Nat) : Int) by omega, shr_u64 (wordOf_lt bits _)]
  refine br_not (br_dec (fun h1 => ?_) (fun h1 => ?_))
  · have hz : wordOf bits (k / 64) >>> (k % 64) = 0 := by omega
    have hz2 : ∀ j : Nat, k ≤ j → j < 64 * (k / 64 + 1) → bg bits j = false := fun j h2 h3 => by
      have := congrArg (fun x => Nat.testBit x (j - k)) hz
      simp only [Nat.testBit_shiftRight, Nat.zero_testBit] at this
      rw [testBit_wordOf _ _ _ (by omega), show 64 * (k / 64) + (k % 64 + (j - k)) = j by omega] at this
      exact this
    refine ⟨l, h.blk.cell 0, fun m w' => w' = w ∧ ∃ q : Nat, m = q ∧ q ≤ l.len ∧ ∀ j : Nat, k ≤ j → j < 64 * q → bg bits j = false, fun m _ => (l.len - m).toNat, ⟨rfl, 0, rfl, by omega, fun j _ hj => by omega⟩, ?_⟩
    rintro m w' ⟨rfl, q, rfl, hq, hno⟩
    refine br_dec (fun h2 => ⟨by omega, br_dec (fun h3 => ⟨l, h.blk.cell 0, by omega, h2, ?_⟩) (fun h3 => ?_)⟩) (fun h2 => ⟨rfl, _, rfl, .inl ⟨rfl, fun j hj => ?_⟩⟩)
    · obtain ⟨a2, ha2, hc2⟩ := h.rd.at (i := (q : Int)) (by omega) h2
      refine ⟨a2, ha2, _, hc2, br_not (br_dec (fun h4 => ?_) (fun h4 => ⟨l, h.blk.cell 0, by omega, h2, a2, ha2, _, hc2, ?_⟩))⟩
      · rw [Int.toNat_natCast, wg_wordsOf] at h4
        rw [w64 ⟨by omega, by omega⟩]
        refine ⟨⟨rfl, q + 1, by omega, by omega, fun j h5 h6 => ?_⟩, by dsimp only; omega⟩
        by_cases h7 : j < 64 * q
        · exact hno j h5 h7
        · have h8 : wordOf bits q = 0 := by omega
          have := congrArg (fun x => Nat.testBit x (j - 64 * q)) h8
          simp only [Nat.zero_testBit] at this
          rw [testBit_wordOf _ _ _ (by omega), show 64 * q + (j - 64 * q) = j by omega] at this
          exact this
      · rw [Int.toNat_natCast, wg_wordsOf] at h4 ⊢
        refine use (select w' _ (wordOf_lt bits q) 0) ?_
        rintro _ w2 ⟨rfl, s, rfl, hs⟩
        obtain ⟨b, rfl, hb, hb2, hb3⟩ := sel0 (wordOf_lt bits q) (by omega) hs
        rw [testBit_wordOf _ _ _ hb] at hb2
        have hlt : 64 * q + b < bits.length := by
          by_cases g : 64 * q + b < bits.length
          · exact g
          · rw [hout _ (by omega)] at hb2; cases hb2
        refine ⟨_, rfl, ?_⟩
        rw [w64 (x := (q : Int) * 64) ⟨by omega, by omega⟩, w64 ⟨by omega, by omega⟩]
        refine ⟨rfl, _, rfl, .inr ⟨64 * q + b, by omega, by omega, hb2, fun j h5 h6 => ?_⟩⟩
        by_cases h7 : j < 64 * q
        · exact hno j (by omega) h7
        · have := hb3 (j - 64 * q) (by omega)
          rw [testBit_wordOf _ _ _ (by omega), show 64 * q + (j - 64 * q) = j by omega] at this
          exact this
    · rw [w64 ⟨by omega, by omega⟩]
      exact ⟨⟨rfl, q + 1, by omega, by omega, fun j h5 h6 => hz2 j h5 (by omega)⟩, by dsimp only; omega⟩
    · by_cases g : j < 64 * q
      · exact hno j (by omega) g
      · exact hout j (by omega)
  · refine use (select w _ (shr_lt (wordOf_lt bits _) _) 0) ?_
    rintro _ w2 ⟨rfl, s, rfl, hs⟩
    obtain ⟨b, rfl, hb, hb2, hb3⟩ := sel0 (shr_lt (wordOf_lt bits _) _) (by omega) hs
    have key : ∀ j, j ≤ b → (wordOf bits (k / 64) >>> (k % 64)).testBit j = bg bits (k + j) ∨ (64 ≤ k % 64 + j ∧ (wordOf bits (k / 64) >>> (k % 64)).testBit j = false) := fun j _ => by
      rw [Nat.testBit_shiftRight]
      by_cases g : k % 64 + j < 64
      · left; rw [testBit_wordOf _ _ _ g]; congr 1; omega
      · right; exact ⟨by omega, tb_lt (wordOf_lt bits _) (by omega)⟩
    have hbb : k % 64 + b < 64 ∧ bg bits (k + b) = true := by
      rw [Nat.testBit_shiftRight] at hb2
      by_cases g : k % 64 + b < 64
      · rw [testBit_wordOf _ _ _ g, show 64 * (k / 64) + (k % 64 + b) = k + b by omega] at hb2
        exact ⟨g, hb2⟩
      · rw [tb_lt (wordOf_lt bits _) (by omega)] at hb2; cases hb2
    refine ⟨_, rfl, ?_⟩
    rw [w64 ⟨by omega, by omega⟩]
    refine ⟨rfl, _, rfl, .inr ⟨k + b, by omega, by omega, hbb.2, fun j h5 h6 => ?_⟩⟩
    have h7 := hb3 (j - k) (by omega)
    rcases key (j - k) (by omega) with g | ⟨g, _⟩
    · rw [h7, show k + (j - k) = j by omega] at g; exact g.symm
    · omega

/-- Both see the same next place. -/
theorem clone (h : RdW w l ws) (hsz : l.len ≤ 1099511627776) : Calls Try.prog 85 #[.slice l.a l.len l.cap] w (Rv fun v w' => ∃ o : Slc, v = .slice o.a o.len o.cap ∧
    Ownd w' o 22 1 (ws.map U) ∧ Kp no w w' ∧ ∀ k, On o k → w.heap.size ≤ k) := by
  refine c85 _ _ _ ?_
  unfold B85
  have hl := h.len
  cases ha : l.a with
  | none =>
    have : ws = [] := by
      cases ws with
      | nil => rfl
      | cons x y => obtain ⟨a, ha', _⟩ := h.rd 0 (by simp); rw [ha] at ha'; cases ha'
    subst this
    exact ⟨⟨none, 0, 0⟩, rfl, (Ownd.nil _ _ _), Kp.refl _ _, fun k hk => absurd hk On.nil⟩
  | some a =>
    obtain ⟨w1, o1, hr, ho1, hl1, hk1, hf1⟩ := append_rd (ty := 69) elU (by omega) (Ownd.empty w 22 1) l (news := ws.map U) (by simp [hl]) (h.rd.kp ((Kp.refl no w).alloc #[] 22) (fun _ _ f => f))
      (fun u hu => by obtain ⟨b, _, rfl⟩ := List.mem_map.1 hu; rfl) (by simp only [maxLen]; omega) (by simp only; omega)
    rw [ha] at hr
    refine ⟨w1, o1, hr, o1, rfl, by simpa using ho1, ((Kp.refl no w).alloc _ _).trans hk1 (fun k hlt hkk => by obtain ⟨a, ha, rfl⟩ := hkk; cases ha; exact absurd hlt (by simp)), fun k hkk => ?_⟩
    rcases hf1 k hkk with g | g
    · obtain ⟨a, ha, rfl⟩ := g; cases ha; exact Nat.le_refl _
    · simp at g; omega

theorem equal {l2 : Slc} {vs : List Nat} (h : RdW w l ws) (g : RdW w l2 vs) (hsz : l.len ≤ 1099511627776) :
    IsK 86 #[.slice l.a l.len l.cap, .slice l2.a l2.len l2.cap] w (.bool (decide (ws = vs))) := by
  refine c86 l l2 w _ ?_
  unfold B86
  have hl := h.len
  have gl := g.len
  refine br_not (br_dec (fun hh => ?_) (fun hh => ⟨?_, Kp.refl _ _⟩))
  · refine ⟨fun i w' => Kp no w w' ∧ ∃ m : Nat, i = m ∧ m ≤ l.len ∧ ∀ k, k < m → wg ws k = wg vs k, fun i _ => (l.len - i).toNat, ⟨Kp.refl _ _, 0, rfl, by omega, fun k hk => by omega⟩, ?_⟩
    rintro i w' ⟨hk, m, rfl, hm, he⟩
    refine br_dec (fun h1 => ⟨by omega, h1, ?_⟩) (fun h1 => ⟨?_, hk⟩)
    · obtain ⟨a, ha, hb⟩ := (h.kp hk.drew (fun _ _ f => f)).at (i := m) (by omega) h1
      obtain ⟨a2, ha2, hb2⟩ := (g.kp hk.drew (fun _ _ f => f)).at (i := m) (by omega) (by omega)
      refine ⟨a, ha, _, hb, by omega, by omega, a2, ha2, _, hb2, ?_⟩
      rw [Int.toNat_natCast, w64 (x := (m : Int) + 1) ⟨by omega, by omega⟩]
      refine br_not (br_dec (fun h3 => ⟨⟨hk.drew, m + 1, by omega, by omega, fun k hk2 => ?_⟩, by dsimp only; omega⟩) (fun h3 => ⟨?_, hk.drew⟩))
      · by_cases e : k = m
        · subst e; omega
        · exact he k (by omega)
      · have : ws ≠ vs := fun e => h3 (by rw [e])
        simp [this]
    · have : ws = vs := wg_ext (by omega) (fun k hk => he k (by omega))
      simp [this]
  · have : ws ≠ vs := fun e => hh (by rw [← hl, ← gl, e])
    simp [this]

theorem words1 (h : Row w r l bits) (hsz : bits.length ≤ 1099511627776) : Calls Try.prog 54 #[.pointer (some ⟨r, 0, none⟩)] w (Rv fun v w' => ∃ o : Slc, v = .slice o.a o.len o.cap ∧
    Ownd w' o 22 1 ((wordsOf bits).map U) ∧ Kp no w w' ∧ ∀ k, On o k → w.heap.size ≤ k) := by
  refine c54 _ _ _ ?_
  unfold B54
  have hl := h.len
  refine ⟨l, h.blk.cell 0, use (clone h.rd (by omega)) ?_⟩
  rintro _ w' ⟨o, rfl, ho⟩
  exact ⟨o, rfl, o, rfl, ho⟩

theorem same1 {r2 : Nat} {l2 : Slc} {bits2 : List Bool} (h : Row w r l bits) (g : Row w r2 l2 bits2) (hsz : bits.length ≤ 1099511627776) :
    IsK 56 #[.pointer (some ⟨r, 0, none⟩), .pointer (some ⟨r2, 0, none⟩)] w (.bool (decide (bits.length = bits2.length ∧ wordsOf bits = wordsOf bits2))) := by
  refine c56 _ _ _ _ ?_
  unfold B56
  have hl := h.len
  refine usei (len1 h) ⟨_, rfl, usei (len1 g) ⟨_, rfl, br_not (br_dec (fun h1 => usei (len1 h) ⟨_, rfl, br_dec (fun h2 => ?_) (fun h2 => ?_)⟩) (fun h1 => ?_))⟩⟩
  · refine usei (len1 h) ⟨_, rfl, usei (len1 g) ⟨_, rfl, ?_, Kp.refl _ _⟩⟩
    obtain rfl : bits = [] := List.eq_nil_of_length_eq_zero (by omega)
    obtain rfl : bits2 = [] := List.eq_nil_of_length_eq_zero (by simp at h1; omega)
    simp
  · refine ⟨l, h.blk.cell 0, l2, g.blk.cell 0, usek (equal (h.rd.kp (Kp.refl no w).drew (fun _ _ f => f)) (g.rd.kp (Kp.refl no w).drew (fun _ _ f => f)) (by omega)) fun w' hk => ⟨_, rfl, ?_, (Kp.refl no w).drew.trans hk (fun _ _ f => f)⟩⟩
    have : bits.length = bits2.length := by omega
    simp [this]
  · refine usei (len1 h) ⟨_, rfl, usei (len1 g) ⟨_, rfl, ?_, Kp.refl _ _⟩⟩
    have : ¬ bits.length = bits2.length := by omega
    simp [this]
    omega
end Go.Proofs.Ytlobkadfmgnlmaa.V
