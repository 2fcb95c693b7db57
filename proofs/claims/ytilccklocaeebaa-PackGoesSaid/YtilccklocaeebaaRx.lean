/- What the functions of package bitrow compute. -/
import Derived.Test.YtilccklocaeebaaRw
namespace Go.Proofs.Ytilccklocaeebaa.V
open Go Go.VC

/-- A row of bits, and that the world holds it as its own. -/
structure Row (w : World) (r : Nat) (l : Slc) (bits : List Bool) : Prop where
  blk : Blk w r [.slice l.a l.len l.cap, .int .i64 (bits.length : Int)] 79
  own : Ownd w l 23 1 ((wordsOf bits).map U)
  ne : ¬ On l r

variable {w w' : World} {l : Slc} {bits : List Bool} {ws : List Nat} {r : Nat} {S : Nat → Prop}

theorem Row.kp (h : Row w r l bits) (g : Kp S w w') (hn : ∀ k, RF r l k → ¬ S k) : Row w' r l bits :=
  ⟨h.blk.kp g (hn r (.inl rfl)), h.own.kp g (fun k hk => hn k (.inr hk)), h.ne⟩
theorem Row.lt (h : Row w r l bits) {k : Nat} (hk : RF r l k) : k < w.heap.size := by
  rcases hk with rfl | hk
  · exact h.blk.lt
  · exact h.own.on hk
theorem Row.rd (h : Row w r l bits) : RdW w l (wordsOf bits) := h.own.rdW fun _ hx => wordsOf_lt hx
theorem Row.len (h : Row w r l bits) : l.len = (bits.length + 63) / 64 := by rw [← h.rd.len, length_wordsOf]

theorem new (w : World) : Calls Try.prog 47 #[] w (Rv fun v w' => v = .pointer (some ⟨w.heap.size, 0, none⟩) ∧ Row w' w.heap.size ⟨none, 0, 0⟩ [] ∧ Kp no w w') := by
  refine c47 _ _ ?_
  unfold B47
  exact ⟨rfl, ⟨Blk.new _ _ _, (Ownd.nil _ _ _), On.nil⟩, (Kp.refl _ _).alloc _ _⟩

theorem need (w : World) (n : Nat) (hn : n ≤ 9223372036854775807) : Is 54 #[.int .i64 n] w (.int .i64 (((n + 63) / 64 : Nat) : Int)) := by
  refine c54 _ _ _ ?_
  unfold B54
  refine ⟨by omega, by omega, congrArg _ ?_, rfl⟩
  rw [Int.tdiv_eq_ediv_of_nonneg (by omega), Int.tmod_eq_emod_of_nonneg (by omega), w64 (x := (n : Int) / 64) ⟨by omega, by omega⟩, w64 ⟨by omega, by omega⟩]
  omega

theorem len1 (h : Row w r l bits) : Is 45 #[.pointer (some ⟨r, 0, none⟩)] w (.int .i64 bits.length) := by
  refine c45 _ _ _ ?_
  unfold B45
  exact ⟨_, h.blk.cell 1, rfl, rfl⟩

theorem word1 (h : Row w r l bits) (k : Int) : Is 78 #[.pointer (some ⟨r, 0, none⟩), .int .i64 k] w (.int .u64 ((if 0 ≤ k then wordOf bits k.toNat else 0 : Nat) : Int)) := by
  refine c78 _ _ _ _ ?_
  unfold B78
  have hl := h.len
  refine br_dec (fun h0 => ⟨?_, rfl⟩) (fun h0 => ⟨l, h.blk.cell 0, br_dec (fun h1 => ⟨?_, rfl⟩) (fun h1 => ⟨l, h.blk.cell 0, by omega, by omega, ?_⟩)⟩)
  · rw [if_neg (by omega)]; rfl
  · rw [if_pos (by omega), wordOf_out (by omega)]; rfl
  · obtain ⟨a, ha, hc⟩ := h.rd.at (i := k) (by omega) (by omega)
    refine ⟨a, ha, _, hc, ?_, rfl⟩
    rw [if_pos (by omega), wg_wordsOf]

theorem cut1 (h : Row w r l bits) (hsz : bits.length ≤ 1099511627776) (a b : Int) (ha : -9223372036854775808 ≤ a ∧ a ≤ 9223372036854775807) :
    Is 61 #[.pointer (some ⟨r, 0, none⟩), .int .i64 a, .int .i64 b] w (.int .u64 (cutL bits a (clampW b))) := by
  refine c61 _ _ _ _ _ ?_
  unfold B61
  have z : ∀ {q : Prop}, (q → cutL bits a (clampW b) = 0) → q → (Value.int .u64 0 = Value.int .u64 (cutL bits a (clampW b)) ∧ w = w) := fun h hq => ⟨by rw [h hq]; rfl, rfl⟩
  have hk := clampW_le b
  have hz : (∀ i, i < clampW b → bz bits (a + i) = false) → cutL bits a (clampW b) = 0 := fun h => by
    unfold cutL; rw [ofB_congr (q := fun _ => false) h, ofB_false]
  refine br_dec (z fun h0 => ?_) (fun h0 => ⟨_, h.blk.cell 1, br_dec (z fun h1 => ?_) (fun h1 => br_dec (z fun h2 => ?_) (fun h2 => ?_))⟩)
  · have : clampW b = 0 := by unfold clampW; omega
    rw [this]; rfl
  · exact hz fun i hi => by unfold bz; rw [bg_out (by omega)]; simp
  · exact hz fun i hi => by unfold bz; simp; omega
  have hmin : clampW (min b 64) = clampW b := by unfold clampW; omega
  refine br_dec (fun h3 => ?_) (fun h3 => ?_)
  · obtain ⟨k, rfl⟩ : ∃ k : Nat, a = -(k : Int) := ⟨(-a).toNat, by omega⟩
    have e : IntKind.u64.wrap (IntKind.i64.wrap (0 - -(k : Int))) = (k : Int) := by
      rw [w64 ⟨by omega, by omega⟩, wu64 ⟨by omega, by omega⟩]; omega
    rw [e]
    refine usei (word1 h 0) ⟨_, rfl, by omega, usei (mask w _) ⟨_, rfl, ?_, rfl⟩⟩
    rw [hmin, shl_u64, low _ _ (Nat.mod_lt _ (by omega)) hk]
    congr 2
    refine ofB_of_testBit fun i => ?_
    rw [Nat.testBit_mod_two_pow, show (18446744073709551616 : Nat) = 2 ^ 64 from rfl, Nat.testBit_mod_two_pow, Nat.testBit_shiftLeft, if_pos (by omega)]
    unfold bz
    by_cases hi : i < clampW b
    · simp only [hi, decide_true, Bool.true_and, show i < 64 by omega]
      by_cases h5 : k ≤ i
      · rw [testBit_wordOf _ _ _ (by omega)]
        simp [h5, show (0 : Int) ≤ -(k : Int) + i by omega, show (-(k : Int) + i).toNat = i - k by omega]
      · simp [h5, show ¬ (0 : Int) ≤ -(k : Int) + i by omega]
    · simp [hi]
  · obtain ⟨k, rfl⟩ : ∃ k : Nat, a = (k : Int) := ⟨a.toNat, by omega⟩
    rw [Int.tdiv_eq_ediv_of_nonneg (by omega), Int.tmod_eq_emod_of_nonneg (by omega), w64 (x := (k : Int) / 64) ⟨by omega, by omega⟩, wu64 (x := (k : Int) % 64) ⟨by omega, by omega⟩]
    have hb : ∀ i : Nat, bz bits ((k : Int) + i) = bg bits (k + i) := fun i => by
      unfold bz
      have : ((k : Int) + i).toNat = k + i := by omega
      simp [this, show (0 : Int) ≤ (k : Int) + i by omega]
    refine ⟨by omega, by omega, usei (word1 h _) ⟨_, rfl, by omega, br_dec (fun h4 => ?_) (fun h4 => ?_)⟩⟩
    · rw [w64 (x := (k : Int) / 64 + 1) ⟨by omega, by omega⟩]
      refine usei (word1 h _) ⟨_, rfl, ?_⟩
      have e2 : IntKind.u64.wrap (IntKind.i64.wrap (64 - (k : Int) % 64)) = ((64 - k % 64 : Nat) : Int) := by
        rw [w64 ⟨by omega, by omega⟩, wu64 ⟨by omega, by omega⟩]; omega
      rw [e2]
      refine ⟨by omega, usei (mask w _) ⟨_, rfl, ?_, rfl⟩⟩
      rw [if_pos (by omega), if_pos (by omega), show ((k : Int) / 64).toNat = k / 64 by omega, show ((k : Int) / 64 + 1).toNat = k / 64 + 1 by omega, show (k : Int) % 64 = ((k % 64 : Nat) : Int) by omega,
        shr_u64 (wordOf_lt bits _), shl_u64, or_u64 (shr_lt (wordOf_lt bits _) _) (Nat.mod_lt _ (by omega)), hmin, low _ _ (Nat.or_lt_two_pow (n := 64) (shr_lt (wordOf_lt bits _) _) (Nat.mod_lt _ (by omega))) hk]
      congr 2
      refine ofB_of_testBit fun i => ?_
      rw [Nat.testBit_mod_two_pow, Nat.testBit_or, Nat.testBit_shiftRight, Nat.testBit_mod_two_pow, Nat.testBit_shiftLeft, hb]
      by_cases hi : i < clampW b
      · simp only [hi, decide_true, Bool.true_and, show i < 64 by omega]
        by_cases h5 : k % 64 + i < 64
        · rw [testBit_wordOf _ _ _ h5]
          simp [show ¬ i ≥ 64 - k % 64 by omega, show 64 * (k / 64) + (k % 64 + i) = k + i by omega]
        · rw [tb_lt (wordOf_lt bits _) (by omega), testBit_wordOf _ _ _ (by omega)]
          simp [show i ≥ 64 - k % 64 by omega, show 64 * (k / 64 + 1) + (i - (64 - k % 64)) = k + i by omega]
      · simp [hi]
    · refine usei (mask w _) ⟨_, rfl, ?_, rfl⟩
      rw [if_pos (by omega), show ((k : Int) / 64).toNat = k / 64 by omega, show (k : Int) % 64 = ((k % 64 : Nat) : Int) by omega, shr_u64 (wordOf_lt bits _), hmin, low _ _ (shr_lt (wordOf_lt bits _) _) hk]
      congr 2
      refine ofB_of_testBit fun i => ?_
      rw [Nat.testBit_mod_two_pow, Nat.testBit_shiftRight, hb]
      by_cases hi : i < clampW b
      · rw [testBit_wordOf _ _ _ (by omega), show 64 * (k / 64) + (k % 64 + i) = k + i by omega]
      · simp [hi]

theorem cnt_out {p : Nat → Bool} {m : Nat} (h : ∀ i, m ≤ i → p i = false) : ∀ {n : Nat}, m ≤ n → cnt p n = cnt p m := by
  intro n hn
  obtain ⟨j, rfl⟩ : ∃ j, n = m + j := ⟨n - m, by omega⟩
  have : cnt (fun i => p (m + i)) j = 0 := by rw [cnt_congr (q := fun _ => false) (fun i _ => h _ (by omega)), cnt_false]
  rw [cnt_add, this]; rfl

theorem bg_word (bits : List Bool) (k i : Nat) (hi : i < 64) : (wordOf bits k).testBit i = bg bits (64 * k + i) := testBit_wordOf bits k i hi
theorem cnt_zero {p : Nat → Bool} : ∀ {n : Nat}, cnt p n = 0 → ∀ i, i < n → p i = false
  | 0, _, i, hi => by omega
  | n + 1, h, i, hi => by
    simp only [cnt] at h
    by_cases e : i = n
    · subst e
      by_cases g : p i = true
      · simp [g] at h
      · simpa using g
    · exact cnt_zero (n := n) (by omega) i (by omega)

theorem sel0 {x : Nat} {n : Int} (hx : x < 18446744073709551616) (h0 : x ≠ 0) (h : SelP x 0 n) : ∃ a : Nat, n = a ∧ a < 64 ∧ x.testBit a = true ∧ ∀ i, i < a → x.testBit i = false := by
  rcases h with ⟨_, h | h⟩ | ⟨a, rfl, ha, hb, hc⟩
  · omega
  · have hz : pc x = 0 := by omega
    exfalso
    apply h0
    apply Nat.eq_of_testBit_eq
    intro i
    rw [Nat.zero_testBit]
    by_cases hi : i < 64
    · exact cnt_zero hz i hi
    · exact tb_lt hx (by omega)
  · exact ⟨a, rfl, ha, hb, cnt_zero (by omega)⟩

/-- Both see the same next place. -/
theorem clone (h : RdW w l ws) (hsz : l.len ≤ 1099511627776) : Calls Try.prog 71 #[.slice l.a l.len l.cap] w (Rv fun v w' => ∃ o : Slc, v = .slice o.a o.len o.cap ∧
    Ownd w' o 23 1 (ws.map U) ∧ Kp no w w' ∧ ∀ k, On o k → w.heap.size ≤ k) := by
  refine c71 _ _ _ ?_
  unfold B71
  have hl := h.len
  cases ha : l.a with
  | none =>
    have : ws = [] := by
      cases ws with
      | nil => rfl
      | cons x y => obtain ⟨a, ha', _⟩ := h.rd 0 (by simp); rw [ha] at ha'; cases ha'
    subst this
    exact ⟨⟨none, 0, 0⟩, rfl, (Ownd.nil _ _ _), Kp.refl _ _, fun k hk => absurd hk On.nil⟩
  | some a =>
    obtain ⟨w1, o1, hr, ho1, hl1, hk1, hf1⟩ := append_rd (ty := 22) elU (by omega) (Ownd.empty w 23 1) l (news := ws.map U) (by simp [hl]) (h.rd.kp ((Kp.refl no w).alloc #[] 23) (fun _ _ f => f))
      (fun u hu => by obtain ⟨b, _, rfl⟩ := List.mem_map.1 hu; rfl) (by simp only [maxLen]; omega) (by simp only; omega)
    rw [ha] at hr
    refine ⟨w1, o1, hr, o1, rfl, by simpa using ho1, ((Kp.refl no w).alloc _ _).trans hk1 (fun k hlt hkk => by obtain ⟨a, ha, rfl⟩ := hkk; cases ha; exact absurd hlt (by simp)), fun k hkk => ?_⟩
    rcases hf1 k hkk with g | g
    · obtain ⟨a, ha, rfl⟩ := g; cases ha; exact Nat.le_refl _
    · simp at g; omega

theorem words1 (h : Row w r l bits) (hsz : bits.length ≤ 1099511627776) : Calls Try.prog 44 #[.pointer (some ⟨r, 0, none⟩)] w (Rv fun v w' => ∃ o : Slc, v = .slice o.a o.len o.cap ∧
    Ownd w' o 23 1 ((wordsOf bits).map U) ∧ Kp no w w' ∧ ∀ k, On o k → w.heap.size ≤ k) := by
  refine c44 _ _ _ ?_
  unfold B44
  have hl := h.len
  refine ⟨l, h.blk.cell 0, use (clone h.rd (by omega)) ?_⟩
  rintro _ w' ⟨o, rfl, ho⟩
  exact ⟨o, rfl, o, rfl, ho⟩

end Go.Proofs.Ytilccklocaeebaa.V
