/- What the functions of the row chapter compute: the row's own functions and the plain ones over lists of bits. What the functions of package bitrow compute. Adding to a row; rows made of parts; the laws of the row chapter. The laws of the row chapter. The laws of the row chapter: rows that are the same, rows from words. Opening what a law is handed: words, ints. No program here. 'make' of a slice. No program here. -/
import Derived.Test.YtomajpihimlcjaaDoorLa
import Derived.Test.YtomajpihimlcjaaDoorBR
import Derived.Lib.SmallJoins
import Derived.Laws.OwnMore
namespace Go.VC
open Go
/-- The word as a value. -/
abbrev U (x : Nat) : Value := .int .u64 (x : Int)
/-- Bits that can be read. -/
structure RdB (w : World) (l : Slc) (bits : List Bool) : Prop where
  len : bits.length = l.len
  rd : Rd w l (bits.map Value.bool)
/-- Words that can be read. -/
structure RdW (w : World) (l : Slc) (ws : List Nat) : Prop where
  len : ws.length = l.len
  rd : Rd w l (ws.map U)
  lt : ∀ x ∈ ws, x < 18446744073709551616
variable {w w' : World} {l : Slc} {bits : List Bool} {ws : List Nat} {S : Nat → Prop}
theorem RdB.at (h : RdB w l bits) {i : Int} (h0 : 0 ≤ i) (h1 : i < l.len) : ∃ a, l.a = some a ∧ w.cell? (Addr.add a (i.toNat * 1)) = some (.bool (bg bits i.toNat)) := by
  have hl := h.len
  obtain ⟨a, ha, hc⟩ := h.rd i.toNat (by rw [List.length_map]; omega)
  refine ⟨a, ha, ?_⟩
  rw [Nat.mul_one, hc]
  unfold bg
  rw [List.getElem?_map, List.getElem?_eq_getElem (by omega)]
  rfl
theorem RdW.at (h : RdW w l ws) {i : Int} (h0 : 0 ≤ i) (h1 : i < l.len) : ∃ a, l.a = some a ∧ w.cell? (Addr.add a (i.toNat * 1)) = some (U (wg ws i.toNat)) := by
  have hl := h.len
  obtain ⟨a, ha, hc⟩ := h.rd i.toNat (by rw [List.length_map]; omega)
  refine ⟨a, ha, ?_⟩
  rw [Nat.mul_one, hc]
  unfold wg
  rw [List.getElem?_map, List.getElem?_eq_getElem (by omega)]
  rfl
theorem wg_lt (h : ∀ x ∈ ws, x < 18446744073709551616) (k : Nat) : wg ws k < 18446744073709551616 := by
  unfold wg
  by_cases g : k < ws.length
  · rw [List.getElem?_eq_getElem g]; exact h _ (List.getElem_mem g)
  · rw [List.getElem?_eq_none (by omega)]; decide
theorem RdB.kp (h : RdB w l bits) (g : Kp S w w') (hn : ∀ k, On l k → ¬ S k) : RdB w' l bits := ⟨h.len, h.rd.kp g hn⟩
theorem RdW.kp (h : RdW w l ws) (g : Kp S w w') (hn : ∀ k, On l k → ¬ S k) : RdW w' l ws := ⟨h.len, h.rd.kp g hn, h.lt⟩
theorem Ownd.rdB {e : TypeId} (h : Ownd w l e 1 (bits.map Value.bool)) : RdB w l bits := ⟨by have := h.len; simpa using this, h.rd⟩
theorem Ownd.rdW {e : TypeId} (h : Ownd w l e 1 (ws.map U)) (hlt : ∀ x ∈ ws, x < 18446744073709551616) : RdW w l ws := ⟨by have := h.len; simpa using this, h.rd, hlt⟩
end Go.VC

namespace Go.Proofs.YtomajpihimlcjaaDoor.V
open Go Go.VC
variable {w : World} {l : Slc} {bits : List Bool} {ws : List Nat}

theorem elU : El Tryd.prog 29 22 1 8 := El.of (by kernel_rfl) (by kernel_rfl)
theorem elB : El Tryd.prog 39 4 1 1 := El.of (by kernel_rfl) (by kernel_rfl)

/-! ### the plain row -/
theorem bit2 (h : RdB w l bits) (i : Int) : Is 146 #[.slice l.a l.len l.cap, .int .i64 i] w (.bool (bz bits i)) := by
  refine c146 l i w _ ?_
  unfold B146
  have hl := h.len
  refine br_dec (fun h0 => br_dec (fun h1 => ⟨h0, h1, ?_⟩) (fun h1 => ⟨?_, rfl⟩)) (fun h0 => ⟨?_, rfl⟩)
  · obtain ⟨a, ha, hc⟩ := h.at h0 h1
    refine ⟨a, ha, _, hc, ?_, rfl⟩
    unfold bz; simp [h0]
  · unfold bz; rw [bg_out (by omega)]; simp
  · unfold bz; simp [h0]

theorem cut2 (h : RdB w l bits) (hsz : l.len ≤ 1099511627776) (a b : Int) (_ha : -9223372036854775808 ≤ a ∧ a ≤ 9223372036854775807) :
    Is 121 #[.slice l.a l.len l.cap, .int .i64 a, .int .i64 b] w (.int .u64 (cutL bits a (clampW b))) := by
  refine c121 l a b w _ ?_
  unfold B121
  have hl := h.len
  refine ⟨fun v o i w' => w' = w ∧ ∃ m : Nat, i = m ∧ m ≤ clampW b ∧ v = (cutL bits a m : Int) ∧ o = ((2 ^ m % 18446744073709551616 : Nat) : Int), fun _ _ i _ => (64 - i).toNat, ⟨rfl, 0, rfl, by omega, rfl, rfl⟩, ?_⟩
  rintro v o i w' ⟨rfl, m, rfl, hm, rfl, rfl⟩
  have hk := clampW_le b
  have hlt : cutL bits a m < 2 ^ m := ofB_lt (fun i => bz bits (a + i)) m
  have ho : IntKind.u64.wrap (((2 ^ m % 18446744073709551616 : Nat) : Int) * 2) = ((2 ^ (m + 1) % 18446744073709551616 : Nat) : Int) := by
    rw [wu64', Nat.pow_succ]; omega
  refine br_dec (fun h => br_dec (fun h2 => ?_) (fun h2 => ?_)) (fun h2 => ?_)
  · rw [ho, w64 (x := (m : Int) + 1) ⟨by omega, by omega⟩]
    have no : bz bits (a + m) = false → (fun (v o i : Int) (w'' : World) => w'' = w' ∧ ∃ m : Nat, i = m ∧ m ≤ clampW b ∧ v = (cutL bits a m : Int) ∧ o = ((2 ^ m % 18446744073709551616 : Nat) : Int)) (cutL bits a m : Int) ((2 ^ (m + 1) % 18446744073709551616 : Nat) : Int) ((m : Int) + 1) w' := by
      intro hf
      exact ⟨rfl, m + 1, by omega, by unfold clampW; omega, by simp [cutL, ofB, hf], rfl⟩
    refine br_dec (fun h3 => br_dec (fun h4 => ?_) (fun h4 => ⟨no ?_, by dsimp only; omega⟩)) (fun h3 => ⟨no ?_, by dsimp only; omega⟩)
    · rw [w64 ⟨by omega, by omega⟩]
      refine usei (bit2 (by assumption) _) ⟨_, rfl, br_of (fun h5 => ⟨⟨rfl, m + 1, by omega, by unfold clampW; omega, ?_, rfl⟩, by dsimp only; omega⟩) (fun h5 => ⟨no h5, by dsimp only; omega⟩)⟩
      have hp : 2 ^ m < 18446744073709551616 := by
        have : (2 : Nat) ^ m < 2 ^ 64 := Nat.pow_lt_pow_right (by omega) (by omega)
        omega
      have hp2 : 2 ^ (m + 1) ≤ 18446744073709551616 := by
        have : (2 : Nat) ^ (m + 1) ≤ 2 ^ 64 := Nat.pow_le_pow_right (by omega) (by omega)
        omega
      rw [Nat.mod_eq_of_lt hp, addU (by rw [Nat.pow_succ] at hp2; omega)]
      simp [cutL, ofB, h5]
    · unfold bz; rw [bg_out (by omega)]; simp
    · unfold bz; simp; omega
  · have : m = clampW b := by unfold clampW at *; omega
    rw [this]; exact ⟨rfl, rfl⟩
  · have : m = clampW b := by unfold clampW at *; omega
    rw [this]; exact ⟨rfl, rfl⟩

theorem wg_ext {a b : List Nat} (hl : a.length = b.length) (h : ∀ k, k < a.length → wg a k = wg b k) : a = b := by
  apply List.ext_getElem hl
  intro k h1 h2
  have := h k h1
  unfold wg at this
  simpa [h1, h2] using this

theorem same2 {l2 : Slc} {vs : List Nat} (h : RdW w l ws) (g : RdW w l2 vs) (hsz : l.len ≤ 1099511627776) :
    IsK 55 #[.slice l.a l.len l.cap, .slice l2.a l2.len l2.cap] w (.bool (decide (ws = vs))) := by
  refine c55 l l2 w _ ?_
  unfold B55
  have hl := h.len
  have gl := g.len
  refine br_not (br_dec (fun hh => ?_) (fun hh => ⟨?_, Kp.refl _ _⟩))
  · refine ⟨fun i w' => Kp no w w' ∧ ∃ m : Nat, i = m ∧ m ≤ l.len ∧ ∀ k, k < m → wg ws k = wg vs k, fun i _ => (l.len - i).toNat, ⟨Kp.refl _ _, 0, rfl, by omega, fun k hk => by omega⟩, ?_⟩
    rintro i w' ⟨hk, m, rfl, hm, he⟩
    refine br_dec (fun h1 => ⟨by omega, h1, ?_⟩) (fun h1 => ⟨?_, hk⟩)
    · obtain ⟨a, ha, hb⟩ := (h.kp hk.drew (fun _ _ f => f)).at (i := m) (by omega) h1
      obtain ⟨a2, ha2, hb2⟩ := (g.kp hk.drew (fun _ _ f => f)).at (i := m) (by omega) (by omega)
      refine ⟨a, ha, _, hb, by omega, by omega, a2, ha2, _, hb2, ?_⟩
      rw [Int.toNat_natCast, w64 (x := (m : Int) + 1) ⟨by omega, by omega⟩]
      refine br_not (br_dec (fun h3 => ⟨⟨hk.drew, m + 1, by omega, by omega, fun k hk2 => ?_⟩, by dsimp only; omega⟩) (fun h3 => ⟨?_, hk.drew⟩))
      · by_cases e : k = m
        · subst e; omega
        · exact he k (by omega)
      · have : ws ≠ vs := fun e => h3 (by rw [e])
        simp [this]
    · have : ws = vs := wg_ext (by omega) (fun k hk => he k (by omega))
      simp [this]
  · have : ws ≠ vs := fun e => hh (by rw [← hl, ← gl, e])
    simp [this]

theorem map_snoc (xs : List Nat) (x : Nat) : xs.map U ++ [U x] = (xs ++ [x]).map U := by simp
theorem map_snocB (xs : List Bool) (x : Bool) : xs.map Value.bool ++ [Value.bool x] = (xs ++ [x]).map Value.bool := by simp

theorem words2 (h : RdB w l bits) (hsz : l.len ≤ 1099511627776) : Calls Tryd.prog 57 #[.slice l.a l.len l.cap] w (Rv fun v w' => ∃ o : Slc, v = .slice o.a o.len o.cap ∧
    Ownd w' o 22 1 ((wordsOf bits).map U) ∧ Kp no w w' ∧ ∀ k, On o k → w.heap.size ≤ k) := by
  refine c57 l w _ ?_
  unfold B57
  have hl := h.len
  refine ⟨fun o i w' => ∃ m : Nat, i = ((64 * m : Nat) : Int) ∧ m ≤ (bits.length + 63) / 64 ∧ Ownd w' o 22 1 (((List.range m).map (wordOf bits)).map U) ∧ o.len = m ∧ Kp no w w' ∧ ∀ k, On o k → w.heap.size ≤ k,
    fun _ i _ => (l.len + 64 - i).toNat, ⟨0, rfl, by omega, Ownd.nil _ _ _, rfl, Kp.refl _ _, fun k hk => absurd hk On.nil⟩, ?_⟩
  rintro o i w' ⟨m, rfl, hm, ho, hol, hk, hf⟩
  refine br_dec (fun h1 => usei (cut2 (h.kp hk (fun _ _ f => f)) hsz _ _ ⟨by omega, by omega⟩) ⟨_, rfl, ?_⟩) (fun h1 => ?_)
  · obtain ⟨w1, o1, hr, ho1, hl1, hk1, hf1⟩ := append_one (ty := 29) elU ho (U (wordOf bits m)) rfl (by simp only [maxLen]; omega) (by omega)
    have hcut : cutL bits ((64 * m : Nat) : Int) (clampW 64) = wordOf bits m := by
      unfold cutL wordOf
      exact ofB_congr fun i _ => by
        unfold bz
        rw [show (((64 * m : Nat) : Int) + (i : Int)).toNat = 64 * m + i by omega]
        simp; omega
    rw [hcut]
    refine ⟨w1, o1, hr, ?_⟩
    rw [w64 ⟨by omega, by omega⟩]
    refine ⟨⟨m + 1, by omega, by omega, ?_, by omega, hk.trans hk1 (fun k hlt hkk => ?_), fun k hkk => ?_⟩, by dsimp only; omega⟩
    · rw [List.range_succ, List.map_append, List.map_append]; exact ho1
    · exact absurd (hf k hkk) (by omega)
    · have := hk.size
      rcases hf1 k hkk with g | g
      · exact hf k g
      · omega
  · have : m = (bits.length + 63) / 64 := by omega
    subst this
    exact ⟨o, rfl, ho, hk, hf⟩

theorem may2 (w : World) (x : Nat) (hx : x < 18446744073709551616) (n : Int) : Is 116 #[.int .u64 x, .int .i64 n] w (.bool (decide (0 ≤ n ∧ n ≤ 64 ∧ (Lib.bitLen x : Int) ≤ n))) := by
  refine c116 _ _ _ _ ?_
  unfold B116
  refine br_dec (fun h0 => br_dec (fun h1 => usei (rwidth w x hx) ⟨_, rfl, ?_, rfl⟩) (fun h1 => ⟨?_, rfl⟩)) (fun h0 => ⟨?_, rfl⟩)
  · simp [h0, h1]
  · simp [h1]
  · simp [h0]

theorem add2 (h : RdB w l bits) (hsz : l.len ≤ 1099511627776) (x : Nat) (hx : x < 18446744073709551616) (n : Nat) (hn : n ≤ 64) :
    Calls Tryd.prog 117 #[.slice l.a l.len l.cap, .int .u64 x, .int .i64 n] w (Rv fun v w' => ∃ o : Slc, v = .slice o.a o.len o.cap ∧
    Ownd w' o 4 1 ((bits ++ lowb x n).map Value.bool) ∧ Kp no w w' ∧ ∀ k, On o k → w.heap.size ≤ k) := by
  refine c117 l x n w _ ?_
  unfold B117
  have hl := h.len
  have h0 := (h.rd.kp ((Kp.refl no w).alloc #[] 4) (fun _ _ f => f))
  obtain ⟨w1, o1, hr, ho1, hl1, hk1, hf1⟩ := append_rd (ty := 39) elB (by omega) (Ownd.empty w 4 1) l (news := bits.map Value.bool) (by simp [hl]) h0
    (fun u hu => by obtain ⟨b, _, rfl⟩ := List.mem_map.1 hu; rfl) (by simp only [maxLen]; omega) (by simp only; omega)
  have hk1' : Kp no w w1 := ((Kp.refl no w).alloc _ _).trans hk1 (fun k hlt hkk => by obtain ⟨a, ha, rfl⟩ := hkk; cases ha; exact absurd hlt (by simp))
  refine ⟨w1, o1, hr, fun o i w' => ∃ m : Nat, i = m ∧ m ≤ n ∧ Ownd w' o 4 1 ((bits ++ lowb x m).map Value.bool) ∧ o.len = l.len + m ∧ Kp no w w' ∧ ∀ k, On o k → w.heap.size ≤ k,
    fun _ i _ => (n - i).toNat, ⟨0, rfl, by omega, by simpa [lowb] using ho1, by simpa using hl1, hk1', fun k hkk => ?_⟩, ?_⟩
  · rcases hf1 k hkk with g | g
    · obtain ⟨a, ha, rfl⟩ := g; cases ha; exact Nat.le_refl _
    · simp at g; omega
  rintro o i w' ⟨m, rfl, hm, ho, hol, hk, hf⟩
  refine br_dec (fun h1 => usei (rbit w' x hx m) ⟨_, rfl, ?_⟩) (fun h1 => ?_)
  · obtain ⟨w2, o2, hr2, ho2, hl2, hk2, hf2⟩ := append_one (ty := 39) elB ho (.bool (bitZ x m)) rfl (by simp only [maxLen]; omega) (by omega)
    refine ⟨w2, o2, hr2, ?_⟩
    rw [w64 ⟨by omega, by omega⟩]
    refine ⟨⟨m + 1, by omega, by omega, ?_, by omega, hk.trans hk2 (fun k hlt hkk => ?_), fun k hkk => ?_⟩, by dsimp only; omega⟩
    · rw [map_snocB, List.append_assoc] at ho2
      have : lowb x m ++ [bitZ x m] = lowb x (m + 1) := by simp [lowb, List.range_succ, bitZ]
      rw [this] at ho2
      exact ho2
    · exact absurd (hf k hkk) (by omega)
    · have := hk.size
      rcases hf2 k hkk with g | g
      · exact hf k g
      · omega
  · obtain rfl : m = n := by omega
    exact ⟨o, rfl, ho, hk, hf⟩
end Go.Proofs.YtomajpihimlcjaaDoor.V

namespace Go.Proofs.YtomajpihimlcjaaDoor.V
open Go Go.VC

/-- A row of bits, and that the world holds it as its own. -/
structure Row (w : World) (r : Nat) (l : Slc) (bits : List Bool) : Prop where
  blk : Blk w r [.slice l.a l.len l.cap, .int .i64 (bits.length : Int)] 111
  own : Ownd w l 22 1 ((wordsOf bits).map U)
  ne : ¬ On l r

variable {w w' : World} {l : Slc} {bits : List Bool} {ws : List Nat} {r : Nat} {S : Nat → Prop}

theorem Row.kp (h : Row w r l bits) (g : Kp S w w') (hn : ∀ k, RF r l k → ¬ S k) : Row w' r l bits :=
  ⟨h.blk.kp g (hn r (.inl rfl)), h.own.kp g (fun k hk => hn k (.inr hk)), h.ne⟩
theorem Row.lt (h : Row w r l bits) {k : Nat} (hk : RF r l k) : k < w.heap.size := by
  rcases hk with rfl | hk
  · exact h.blk.lt
  · exact h.own.on hk
theorem Row.rd (h : Row w r l bits) : RdW w l (wordsOf bits) := h.own.rdW fun _ hx => wordsOf_lt hx
theorem Row.len (h : Row w r l bits) : l.len = (bits.length + 63) / 64 := by rw [← h.rd.len, length_wordsOf]

theorem new (w : World) : Calls Tryd.prog 82 #[] w (Rv fun v w' => v = .pointer (some ⟨w.heap.size, 0, none⟩) ∧ Row w' w.heap.size ⟨none, 0, 0⟩ [] ∧ Kp no w w') := by
  refine c82 _ _ ?_
  unfold B82
  exact ⟨rfl, ⟨Blk.new _ _ _, (Ownd.nil _ _ _), On.nil⟩, (Kp.refl _ _).alloc _ _⟩

theorem need (w : World) (n : Nat) (hn : n ≤ 9223372036854775807) : Is 86 #[.int .i64 n] w (.int .i64 (((n + 63) / 64 : Nat) : Int)) := by
  refine c86 _ _ _ ?_
  unfold B86
  refine ⟨by omega, by omega, congrArg _ ?_, rfl⟩
  rw [Int.tdiv_eq_ediv_of_nonneg (by omega), Int.tmod_eq_emod_of_nonneg (by omega), w64 (x := (n : Int) / 64) ⟨by omega, by omega⟩, w64 ⟨by omega, by omega⟩]
  omega

theorem len1 (h : Row w r l bits) : Is 54 #[.pointer (some ⟨r, 0, none⟩)] w (.int .i64 bits.length) := by
  refine c54 _ _ _ ?_
  unfold B54
  exact ⟨_, h.blk.cell 1, rfl, rfl⟩

theorem bit1 (h : Row w r l bits) (hsz : bits.length ≤ 1099511627776) (i : Int) : Is 142 #[.pointer (some ⟨r, 0, none⟩), .int .i64 i] w (.bool (bz bits i)) := by
  refine c142 _ _ _ _ ?_
  unfold B142
  have hl := h.len
  refine br_dec (fun h0 => ⟨?_, rfl⟩) (fun h0 => ⟨_, h.blk.cell 1, br_dec (fun h1 => ⟨?_, rfl⟩) (fun h1 => ?_)⟩)
  · unfold bz; simp; omega
  · unfold bz; rw [bg_out (by omega)]; simp
  · obtain ⟨k, rfl⟩ : ∃ k : Nat, i = k := ⟨i.toNat, by omega⟩
    rw [Int.tdiv_eq_ediv_of_nonneg (by omega), Int.tmod_eq_emod_of_nonneg (by omega), w64 (x := (k : Int) / 64) ⟨by omega, by omega⟩, wu64 (x := (k : Int) % 64) ⟨by omega, by omega⟩]
    obtain ⟨a, ha, hc⟩ := h.rd.at (i := (k : Int) / 64) (by omega) (by omega)
    refine ⟨l, h.blk.cell 0, by omega, by omega, by omega, a, ha, _, hc, by omega, by omega, ?_, rfl⟩
    rw [show ((k : Int) / 64).toNat = k / 64 by omega, wg_wordsOf, show (k : Int) % 64 = ((k % 64 : Nat) : Int) by omega, shr_u64 (wordOf_lt bits _), show (1 : Int) = ((1 : Nat) : Int) from rfl, and_u64 (shr_lt (wordOf_lt bits _) _) (by omega)]
    have e : bz bits k = (wordOf bits (k / 64)).testBit (k % 64) := by
      unfold bz
      rw [testBit_wordOf _ _ _ (by omega), show 64 * (k / 64) + k % 64 = k by omega]
      simp
    rw [e, Nat.testBit, Nat.and_comm 1]
    congr 1
    have : (wordOf bits (k / 64) >>> (k % 64)) &&& 1 ≤ 1 := Nat.and_le_right
    generalize (wordOf bits (k / 64) >>> (k % 64)) &&& 1 = z at *
    rcases Nat.le_one_iff_eq_zero_or_eq_one.1 this with rfl | rfl <;> rfl

theorem word1 (h : Row w r l bits) (k : Int) : Is 144 #[.pointer (some ⟨r, 0, none⟩), .int .i64 k] w (.int .u64 ((if 0 ≤ k then wordOf bits k.toNat else 0 : Nat) : Int)) := by
  refine c144 _ _ _ _ ?_
  unfold B144
  have hl := h.len
  refine br_dec (fun h0 => ⟨?_, rfl⟩) (fun h0 => ⟨l, h.blk.cell 0, br_dec (fun h1 => ⟨?_, rfl⟩) (fun h1 => ⟨l, h.blk.cell 0, by omega, by omega, ?_⟩)⟩)
  · rw [if_neg (by omega)]; rfl
  · rw [if_pos (by omega), wordOf_out (by omega)]; rfl
  · obtain ⟨a, ha, hc⟩ := h.rd.at (i := k) (by omega) (by omega)
    refine ⟨a, ha, _, hc, ?_, rfl⟩
    rw [if_pos (by omega), wg_wordsOf]

theorem cut1 (h : Row w r l bits) (hsz : bits.length ≤ 1099511627776) (a b : Int) (ha : -9223372036854775808 ≤ a ∧ a ≤ 9223372036854775807) :
    Is 118 #[.pointer (some ⟨r, 0, none⟩), .int .i64 a, .int .i64 b] w (.int .u64 (cutL bits a (clampW b))) := by
  refine c118 _ _ _ _ _ ?_
  unfold B118
  have z : ∀ {q : Prop}, (q → cutL bits a (clampW b) = 0) → q → (Value.int .u64 0 = Value.int .u64 (cutL bits a (clampW b)) ∧ w = w) := fun h hq => ⟨by rw [h hq]; rfl, rfl⟩
  have hk := clampW_le b
  have hz : (∀ i, i < clampW b → bz bits (a + i) = false) → cutL bits a (clampW b) = 0 := fun h => by
    unfold cutL; rw [ofB_congr (q := fun _ => false) h, ofB_false]
  refine br_dec (z fun h0 => ?_) (fun h0 => ⟨_, h.blk.cell 1, br_dec (z fun h1 => ?_) (fun h1 => br_dec (z fun h2 => ?_) (fun h2 => ?_))⟩)
  · have : clampW b = 0 := by unfold clampW; omega
    rw [this]; rfl
  · exact hz fun i hi => by unfold bz; rw [bg_out (by omega)]; simp
  · exact hz fun i hi => by unfold bz; simp; omega
  have hmin : clampW (min b 64) = clampW b := by unfold clampW; omega
  refine br_dec (fun h3 => ?_) (fun h3 => ?_)
  · obtain ⟨k, rfl⟩ : ∃ k : Nat, a = -(k : Int) := ⟨(-a).toNat, by omega⟩
    have e : IntKind.u64.wrap (IntKind.i64.wrap (0 - -(k : Int))) = (k : Int) := by
      rw [w64 ⟨by omega, by omega⟩, wu64 ⟨by omega, by omega⟩]; omega
    rw [e]
    refine usei (word1 h 0) ⟨_, rfl, by omega, usei (mask w _) ⟨_, rfl, ?_, rfl⟩⟩
    rw [hmin, shl_u64, low _ _ (Nat.mod_lt _ (by omega)) hk]
    congr 2
    refine ofB_of_testBit fun i => ?_
    rw [Nat.testBit_mod_two_pow, show (18446744073709551616 : Nat) = 2 ^ 64 from rfl, Nat.testBit_mod_two_pow, Nat.testBit_shiftLeft, if_pos (by omega)]
    unfold bz
    by_cases hi : i < clampW b
    · simp only [hi, decide_true, Bool.true_and, show i < 64 by omega]
      by_cases h5 : k ≤ i
      · rw [testBit_wordOf _ _ _ (by omega)]
        simp [h5, show (0 : Int) ≤ -(k : Int) + i by omega, show (-(k : Int) + i).toNat = i - k by omega]
      · simp [h5, show ¬ (0 : Int) ≤ -(k : Int) + i by omega]
    · simp [hi]
  · obtain ⟨k, rfl⟩ : ∃ k : Nat, a = (k : Int) := ⟨a.toNat, by omega⟩
    rw [Int.tdiv_eq_ediv_of_nonneg (by omega), Int.tmod_eq_emod_of_nonneg (by omega), w64 (x := (k : Int) / 64) ⟨by omega, by omega⟩, wu64 (x := (k : Int) % 64) ⟨by omega, by omega⟩]
    have hb : ∀ i : Nat, bz bits ((k : Int) + i) = bg bits (k + i) := fun i => by
      unfold bz
      have : ((k : Int) + i).toNat = k + i := by omega
      simp [this, show (0 : Int) ≤ (k : Int) + i by omega]
    refine ⟨by omega, by omega, usei (word1 h _) ⟨_, rfl, by omega, br_dec (fun h4 => ?_) (fun h4 => ?_)⟩⟩
    · rw [w64 (x := (k : Int) / 64 + 1) ⟨by omega, by omega⟩]
      refine usei (word1 h _) ⟨_, rfl, ?_⟩
      have e2 : IntKind.u64.wrap (IntKind.i64.wrap (64 - (k : Int) % 64)) = ((64 - k % 64 : Nat) : Int) := by
        rw [w64 ⟨by omega, by omega⟩, wu64 ⟨by omega, by omega⟩]; omega
      rw [e2]
      refine ⟨by omega, usei (mask w _) ⟨_, rfl, ?_, rfl⟩⟩
      rw [if_pos (by omega), if_pos (by omega), show ((k : Int) / 64).toNat = k / 64 by omega, show ((k : Int) / 64 + 1).toNat = k / 64 + 1 by omega, show (k : Int) % 64 = ((k % 64 : Nat) : Int) by omega,
        shr_u64 (wordOf_lt bits _), shl_u64, or_u64 (shr_lt (wordOf_lt bits _) _) (Nat.mod_lt _ (by omega)), hmin, low _ _ (Nat.or_lt_two_pow (n := 64) (shr_lt (wordOf_lt bits _) _) (Nat.mod_lt _ (by omega))) hk]
      congr 2
      refine ofB_of_testBit fun i => ?_
      rw [Nat.testBit_mod_two_pow, Nat.testBit_or, Nat.testBit_shiftRight, Nat.testBit_mod_two_pow, Nat.testBit_shiftLeft, hb]
      by_cases hi : i < clampW b
      · simp only [hi, decide_true, Bool.true_and, show i < 64 by omega]
        by_cases h5 : k % 64 + i < 64
        · rw [testBit_wordOf _ _ _ h5]
          simp [show ¬ i ≥ 64 - k % 64 by omega, show 64 * (k / 64) + (k % 64 + i) = k + i by omega]
        · rw [tb_lt (wordOf_lt bits _) (by omega), testBit_wordOf _ _ _ (by omega)]
          simp [show i ≥ 64 - k % 64 by omega, show 64 * (k / 64 + 1) + (i - (64 - k % 64)) = k + i by omega]
      · simp [hi]
    · refine usei (mask w _) ⟨_, rfl, ?_, rfl⟩
      rw [if_pos (by omega), show ((k : Int) / 64).toNat = k / 64 by omega, show (k : Int) % 64 = ((k % 64 : Nat) : Int) by omega, shr_u64 (wordOf_lt bits _), hmin, low _ _ (shr_lt (wordOf_lt bits _) _) hk]
      congr 2
      refine ofB_of_testBit fun i => ?_
      rw [Nat.testBit_mod_two_pow, Nat.testBit_shiftRight, hb]
      by_cases hi : i < clampW b
      · rw [testBit_wordOf _ _ _ (by omega), show 64 * (k / 64) + (k % 64 + i) = k + i by omega]
      · simp [hi]

theorem cnt_out {p : Nat → Bool} {m : Nat} (h : ∀ i, m ≤ i → p i = false) : ∀ {n : Nat}, m ≤ n → cnt p n = cnt p m := by
  intro n hn
  obtain ⟨j, rfl⟩ : ∃ j, n = m + j := ⟨n - m, by omega⟩
  have : cnt (fun i => p (m + i)) j = 0 := by rw [cnt_congr (q := fun _ => false) (fun i _ => h _ (by omega)), cnt_false]
  rw [cnt_add, this]; rfl

theorem bg_word (bits : List Bool) (k i : Nat) (hi : i < 64) : (wordOf bits k).testBit i = bg bits (64 * k + i) := testBit_wordOf bits k i hi
theorem cnt_zero {p : Nat → Bool} : ∀ {n : Nat}, cnt p n = 0 → ∀ i, i < n → p i = false
  | 0, _, i, hi => by omega
  | n + 1, h, i, hi => by
    simp only [cnt] at h
    by_cases e : i = n
    · subst e
      by_cases g : p i = true
      · simp [g] at h
      · simpa using g
    · exact cnt_zero (n := n) (by omega) i (by omega)

theorem sel0 {x : Nat} {n : Int} (hx : x < 18446744073709551616) (h0 : x ≠ 0) (h : SelP x 0 n) : ∃ a : Nat, n = a ∧ a < 64 ∧ x.testBit a = true ∧ ∀ i, i < a → x.testBit i = false := by
  rcases h with ⟨_, h | h⟩ | ⟨a, rfl, ha, hb, hc⟩
  · omega
  · have hz : pc x = 0 := by omega
    exfalso
    apply h0
    apply Nat.eq_of_testBit_eq
    intro i
    rw [Nat.zero_testBit]
    by_cases hi : i < 64
    · exact cnt_zero hz i hi
    · exact tb_lt hx (by omega)
  · exact ⟨a, rfl, ha, hb, cnt_zero (by omega)⟩

/-- Both see the same next place. -/
theorem clone (h : RdW w l ws) (hsz : l.len ≤ 1099511627776) : Calls Tryd.prog 124 #[.slice l.a l.len l.cap] w (Rv fun v w' => ∃ o : Slc, v = .slice o.a o.len o.cap ∧
    Ownd w' o 22 1 (ws.map U) ∧ Kp no w w' ∧ ∀ k, On o k → w.heap.size ≤ k) := by
  refine c124 _ _ _ ?_
  unfold B124
  have hl := h.len
  cases ha : l.a with
  | none =>
    have : ws = [] := by
      cases ws with
      | nil => rfl
      | cons x y => obtain ⟨a, ha', _⟩ := h.rd 0 (by simp); rw [ha] at ha'; cases ha'
    subst this
    exact ⟨⟨none, 0, 0⟩, rfl, (Ownd.nil _ _ _), Kp.refl _ _, fun k hk => absurd hk On.nil⟩
  | some a =>
    obtain ⟨w1, o1, hr, ho1, hl1, hk1, hf1⟩ := append_rd (ty := 29) elU (by omega) (Ownd.empty w 22 1) l (news := ws.map U) (by simp [hl]) (h.rd.kp ((Kp.refl no w).alloc #[] 22) (fun _ _ f => f))
      (fun u hu => by obtain ⟨b, _, rfl⟩ := List.mem_map.1 hu; rfl) (by simp only [maxLen]; omega) (by simp only; omega)
    rw [ha] at hr
    refine ⟨w1, o1, hr, o1, rfl, by simpa using ho1, ((Kp.refl no w).alloc _ _).trans hk1 (fun k hlt hkk => by obtain ⟨a, ha, rfl⟩ := hkk; cases ha; exact absurd hlt (by simp)), fun k hkk => ?_⟩
    rcases hf1 k hkk with g | g
    · obtain ⟨a, ha, rfl⟩ := g; cases ha; exact Nat.le_refl _
    · simp at g; omega

theorem equal {l2 : Slc} {vs : List Nat} (h : RdW w l ws) (g : RdW w l2 vs) (hsz : l.len ≤ 1099511627776) :
    IsK 122 #[.slice l.a l.len l.cap, .slice l2.a l2.len l2.cap] w (.bool (decide (ws = vs))) := by
  refine c122 l l2 w _ ?_
  unfold B122
  have hl := h.len
  have gl := g.len
  refine br_not (br_dec (fun hh => ?_) (fun hh => ⟨?_, Kp.refl _ _⟩))
  · refine ⟨fun i w' => Kp no w w' ∧ ∃ m : Nat, i = m ∧ m ≤ l.len ∧ ∀ k, k < m → wg ws k = wg vs k, fun i _ => (l.len - i).toNat, ⟨Kp.refl _ _, 0, rfl, by omega, fun k hk => by omega⟩, ?_⟩
    rintro i w' ⟨hk, m, rfl, hm, he⟩
    refine br_dec (fun h1 => ⟨by omega, h1, ?_⟩) (fun h1 => ⟨?_, hk⟩)
    · obtain ⟨a, ha, hb⟩ := (h.kp hk.drew (fun _ _ f => f)).at (i := m) (by omega) h1
      obtain ⟨a2, ha2, hb2⟩ := (g.kp hk.drew (fun _ _ f => f)).at (i := m) (by omega) (by omega)
      refine ⟨a, ha, _, hb, by omega, by omega, a2, ha2, _, hb2, ?_⟩
      rw [Int.toNat_natCast, w64 (x := (m : Int) + 1) ⟨by omega, by omega⟩]
      refine br_not (br_dec (fun h3 => ⟨⟨hk.drew, m + 1, by omega, by omega, fun k hk2 => ?_⟩, by dsimp only; omega⟩) (fun h3 => ⟨?_, hk.drew⟩))
      · by_cases e : k = m
        · subst e; omega
        · exact he k (by omega)
      · have : ws ≠ vs := fun e => h3 (by rw [e])
        simp [this]
    · have : ws = vs := wg_ext (by omega) (fun k hk => he k (by omega))
      simp [this]
  · have : ws ≠ vs := fun e => hh (by rw [← hl, ← gl, e])
    simp [this]

theorem words1 (h : Row w r l bits) (hsz : bits.length ≤ 1099511627776) : Calls Tryd.prog 56 #[.pointer (some ⟨r, 0, none⟩)] w (Rv fun v w' => ∃ o : Slc, v = .slice o.a o.len o.cap ∧
    Ownd w' o 22 1 ((wordsOf bits).map U) ∧ Kp no w w' ∧ ∀ k, On o k → w.heap.size ≤ k) := by
  refine c56 _ _ _ ?_
  unfold B56
  have hl := h.len
  refine ⟨l, h.blk.cell 0, use (clone h.rd (by omega)) ?_⟩
  rintro _ w' ⟨o, rfl, ho⟩
  exact ⟨o, rfl, o, rfl, ho⟩

theorem same1 {r2 : Nat} {l2 : Slc} {bits2 : List Bool} (h : Row w r l bits) (g : Row w r2 l2 bits2) (hsz : bits.length ≤ 1099511627776) :
    IsK 52 #[.pointer (some ⟨r, 0, none⟩), .pointer (some ⟨r2, 0, none⟩)] w (.bool (decide (bits.length = bits2.length ∧ wordsOf bits = wordsOf bits2))) := by
  refine c52 _ _ _ _ ?_
  unfold B52
  have hl := h.len
  refine usei (len1 h) ⟨_, rfl, usei (len1 g) ⟨_, rfl, br_not (br_dec (fun h1 => usei (len1 h) ⟨_, rfl, br_dec (fun h2 => ?_) (fun h2 => ?_)⟩) (fun h1 => ?_))⟩⟩
  · refine usei (len1 h) ⟨_, rfl, usei (len1 g) ⟨_, rfl, ?_, Kp.refl _ _⟩⟩
    obtain rfl : bits = [] := List.eq_nil_of_length_eq_zero (by omega)
    obtain rfl : bits2 = [] := List.eq_nil_of_length_eq_zero (by simp at h1; omega)
    simp
  · refine ⟨l, h.blk.cell 0, l2, g.blk.cell 0, usek (equal (h.rd.kp (Kp.refl no w).drew (fun _ _ f => f)) (g.rd.kp (Kp.refl no w).drew (fun _ _ f => f)) (by omega)) fun w' hk => ⟨_, rfl, ?_, (Kp.refl no w).drew.trans hk (fun _ _ f => f)⟩⟩
    have : bits.length = bits2.length := by omega
    simp [this]
  · refine usei (len1 h) ⟨_, rfl, usei (len1 g) ⟨_, rfl, ?_, Kp.refl _ _⟩⟩
    have : ¬ bits.length = bits2.length := by omega
    simp [this]
    omega
end Go.Proofs.YtomajpihimlcjaaDoor.V

namespace Go.Proofs.YtomajpihimlcjaaDoor.V
open Go Go.VC

theorem lt_of_bitLen : ∀ (k x : Nat), x < 18446744073709551616 → Lib.bitLen x ≤ k → x < 2 ^ k
  | 0, x, hx, h => by
    by_cases h0 : x = 0
    · subst h0; decide
    · have := Lib.bitLen_half x h0 (by simpa using hx); omega
  | k + 1, x, hx, h => by
    by_cases h0 : x = 0
    · subst h0; exact Nat.two_pow_pos _
    · have h1 := Lib.bitLen_half x h0 (by simpa using hx)
      have := lt_of_bitLen k (x / 2) (by omega) (by omega)
      rw [Nat.pow_succ]; omega

/-- What adding does to the bits, and the number that it answers. -/
def addS (bits : List Bool) (x : Nat) (n : Int) : Int × List Bool :=
  if n < 0 ∨ 64 < n then (1, bits) else if n < Lib.bitLen x then (8, bits) else (0, bits ++ lowb x n.toNat)

/-- A row under way: its words, its number of bits, and what it has left as it was since. -/
structure St (w0 : World) (r : Nat) (l : Slc) (N : Int) (w : World) (o : Slc) (ws : List Nat) : Prop where
  blk : Blk w r [.slice o.a o.len o.cap, .int .i64 N] 111
  own : Ownd w o 22 1 (ws.map U)
  ne : ¬ On o r
  kp : Kp (RF r l) w0 w
  fr : ∀ k, On o k → On l k ∨ w0.heap.size ≤ k
variable {w w' w0 : World} {l o : Slc} {bits : List Bool} {ws : List Nat} {r : Nat} {N : Int}

theorem St.drew (h : St w0 r l N w o ws) : St w0 r l N w.drew o ws := ⟨h.blk.drew, h.own.drew, h.ne, h.kp.drew, h.fr⟩
theorem St.olen (h : St w0 r l N w o ws) : ws.length = o.len := by have := h.own.len; simpa using this
theorem St.push (h : St w0 r l N w o ws) (y : Nat) (hb : ws.length ≤ 1099511627776) :
    ∃ w2 o2, (Builtin.append_ #[29, 29] 29 #[.slice o.a o.len o.cap, .slice (some ⟨w.heap.size, 0, none⟩) 1 1]).run Tryd.prog (w.alloc (.cells #[U y] 22)) = .ok (.slice o2.a o2.len o2.cap) w2 ∧
      (∃ u, w2.cell? (Addr.add ⟨r, 0, none⟩ 0) = some u) ∧ w2.frozen? (Addr.add ⟨r, 0, none⟩ 0) = false ∧ o2.len = o.len + 1 ∧
      St w0 r l N (w2.setCell (Addr.add ⟨r, 0, none⟩ 0) (.slice o2.a o2.len o2.cap)) o2 (ws ++ [y]) := by
  have hol := h.olen
  obtain ⟨w2, o2, hr2, ho2, hl2, hk2, hf2⟩ := append_one (ty := 29) elU h.own (U y) rfl (by simp only [maxLen]; omega) (by omega)
  have hb2 : Blk w2 r [.slice o.a o.len o.cap, .int .i64 N] 111 := h.blk.kp hk2 h.ne
  have hrl := h.blk.lt
  have hne : ¬ On o2 r := fun hk => by
    rcases hf2 r hk with g | g
    · exact h.ne g
    · omega
  refine ⟨w2, o2, hr2, ⟨_, hb2.cell 0⟩, hb2.frozen 0, hl2, ⟨hb2.set 0 _, ?_, hne, ?_, fun k hk => ?_⟩⟩
  · rw [map_snoc] at ho2
    exact ho2.set_other _ _ (by rw [add_block]; exact hne)
  · refine (h.kp.trans hk2 (fun k hk hkk => ?_)).set _ _ (fun _ => .inl (by rw [add_block]))
    rcases h.fr k hkk with g | g
    · exact .inr g
    · omega
  · have := h.kp.size
    rcases hf2 k hk with g | g
    · exact h.fr k g
    · exact .inr (by omega)

/-- The length of the slice in a row's first cell. -/
def len0 (r : Nat) (w : World) : Nat := match w.cell? (Addr.add ⟨r, 0, none⟩ 0) with
  | some (.slice _ n _) => n
  | _ => 0
theorem St.len0 (h : St w0 r l N w o ws) : len0 r w = o.len := by
  unfold V.len0
  rw [h.blk.cell 0]; rfl

theorem add1 (h : Row w r l bits) (hsz : bits.length ≤ 549755813888) (x : Nat) (hx : x < 18446744073709551616) (n : Int) :
    Calls Tryd.prog 22 #[.pointer (some ⟨r, 0, none⟩), .int .u64 x, .int .i64 n] w (Rv fun v w' => ∃ o, v = .int .i64 (addS bits x n).1 ∧ Row w' r o (addS bits x n).2 ∧
      Kp (RF r l) w w' ∧ ∀ k, On o k → On l k ∨ w.heap.size ≤ k) := by
  refine c22 _ _ _ _ _ ?_
  unfold B22
  have hl := h.len
  have hwl := length_wordsOf bits
  have keep : ∀ (c : Int), addS bits x n = (c, bits) → ∃ o, Value.int .i64 c = .int .i64 (addS bits x n).1 ∧ Row w r o (addS bits x n).2 ∧ Kp (RF r l) w w ∧ ∀ k, On o k → On l k ∨ w.heap.size ≤ k := fun c hc => by
    rw [hc]; exact ⟨l, rfl, h, Kp.refl _ _, fun k hk => .inl hk⟩
  refine br_dec (fun h0 => keep 1 ?_) (fun h0 => br_dec (fun h1 => keep 1 ?_) (fun h1 => usei (width w x hx) ⟨_, rfl, br_dec (fun h2 => keep 8 ?_) (fun h2 => ?_)⟩))
  · unfold addS; rw [if_pos (.inl h0)]
  · unfold addS; rw [if_pos (.inr h1)]
  · unfold addS; rw [if_neg (by omega), if_pos (by omega)]
  obtain ⟨m, rfl⟩ : ∃ m : Nat, n = m := ⟨n.toNat, by omega⟩
  have hS : addS bits x m = (0, bits ++ lowb x m) := by unfold addS; rw [if_neg (by omega), if_neg (by omega)]; rfl
  rw [hS]
  have hx2 : x < 2 ^ m := lt_of_bitLen m x hx (by omega)
  have hlen2 : (bits ++ lowb x m).length = bits.length + m := by simp [lowb]
  refine ⟨_, h.blk.cell 1, by omega, _, h.blk.cell 1, ⟨_, h.blk.cell 1⟩, h.blk.frozen 1, ?_⟩
  rw [Int.tmod_eq_emod_of_nonneg (by omega), w64 (x := (bits.length : Int) + m) ⟨by omega, by omega⟩]
  have hrl := h.blk.lt
  have st0 : St w r l ((bits.length : Int) + m) (w.setCell (Addr.add ⟨r, 0, none⟩ 1) (.int .i64 ((bits.length : Int) + m))) l (wordsOf bits) :=
    ⟨h.blk.set 1 _, h.own.set_other _ _ (by rw [add_block]; exact h.ne), h.ne, (Kp.refl _ _).set _ _ (fun _ => .inl (by rw [add_block])), fun k hk => .inl hk⟩
  generalize w.setCell (Addr.add ⟨r, 0, none⟩ 1) (.int .i64 ((bits.length : Int) + m)) = w1 at *
  have fin : ∀ {w3 : World} {o : Slc}, St w r l ((bits.length : Int) + m) w3 o (wordsOf (bits ++ lowb x m)) → ∃ o, Value.int .i64 0 = .int .i64 0 ∧ Row w3 r o (bits ++ lowb x m) ∧ Kp (RF r l) w w3 ∧ ∀ k, On o k → On l k ∨ w.heap.size ≤ k :=
    fun {w3 o} s => ⟨o, rfl, ⟨by have := s.blk; rw [hlen2]; rw [Int.natCast_add]; exact this, s.own, s.ne⟩, s.kp, s.fr⟩
  have hcast : ((bits.length : Int) + m) = ((bits.length + m : Nat) : Int) := by omega
  refine br_dec (fun h3 => ?_) (fun h3 => ?_)
  · have st1 := st0.drew
    generalize w1.drew = w2 at *
    have hl0 : 0 < (wordsOf bits).length := by omega
    have hi : (wordsOf bits).length - 1 < ((wordsOf bits).map U).length := by rw [List.length_map]; omega
    obtain ⟨a, ha, hc, hfz, hset⟩ := st1.own.at hi
    have hw1 : IntKind.i64.wrap ((l.len : Int) - 1) = (((wordsOf bits).length - 1 : Nat) : Int) := by rw [w64 ⟨by omega, by omega⟩]; omega
    have hv : ((wordsOf bits).map U)[(wordsOf bits).length - 1] = U (wordOf bits ((wordsOf bits).length - 1)) := by
      have := wordsOf_at (l := bits) (k := (wordsOf bits).length - 1) (by omega)
      rw [List.getElem?_eq_getElem (by omega)] at this
      rw [List.getElem_map, Option.some.inj this]
    rw [hv] at hc
    have hat : IntKind.u64.wrap ((bits.length : Int) % 64) = ((bits.length % 64 : Nat) : Int) := by rw [wu64 ⟨by omega, by omega⟩]; omega
    have st2 : St w r l ((bits.length : Int) + m) (w2.setCell (Addr.add a ((wordsOf bits).length - 1)) (U (wordOf bits ((wordsOf bits).length - 1) ||| ((x <<< (bits.length % 64)) % 18446744073709551616)))) l (orLast bits x) := by
      refine ⟨st1.blk.set_other _ _ ?_, ?_, h.ne, st1.kp.set _ _ (fun _ => .inr ⟨a, ha, by rw [add_block]⟩), st1.fr⟩
      · rw [add_block]; exact fun e => h.ne ⟨a, ha, e.symm⟩
      · have := hset (U (wordOf bits ((wordsOf bits).length - 1) ||| ((x <<< (bits.length % 64)) % 18446744073709551616)))
        rw [← List.map_set] at this
        exact this
    refine ⟨l, st1.blk.cell 0, l, st1.blk.cell 0, ?_⟩
    rw [hw1, Int.toNat_natCast, Nat.mul_one]
    refine ⟨by omega, by omega, a, ha, _, hc, by omega, by omega, by omega, a, ha, ⟨_, hc⟩, hfz, ?_⟩
    rw [hat, shl_u64, or_u64 (wordOf_lt _ _) (Nat.mod_lt _ (by omega))]
    refine ⟨fun w3 => ∃ o ws, St w r l ((bits.length : Int) + m) w3 o ws ∧ (ws = orLast bits x ∨ ws = wordsOf (bits ++ lowb x m)), fun w3 => (bits.length + m + 63) / 64 - len0 r w3, ⟨l, _, st2, .inl rfl⟩, ?_⟩
    rintro w3 ⟨o, ws, s, hws⟩
    have ss := s.drew
    have hol := s.olen
    have hln := s.len0
    refine ⟨o, ss.blk.cell 0, _, ss.blk.cell 1, ?_⟩
    rw [hcast]
    refine usei (need _ _ (by omega)) ⟨_, rfl, ss.blk.cell 0, br_dec (fun h4 => ?_) (fun h4 => ?_)⟩
    · have hws1 : ws = orLast bits x := by
        rcases hws with rfl | rfl
        · rfl
        · rw [length_wordsOf, hlen2] at hol; omega
      subst hws1
      have hol1 : (orLast bits x).length = (wordsOf bits).length := by simp [orLast]
      refine br_dec (fun h5 => ⟨o, ss.blk.cell 0, ?_⟩) (fun h5 => absurd h3 h5)
      have e2 : IntKind.u64.wrap (IntKind.i64.wrap (64 - (bits.length : Int) % 64)) = ((64 - bits.length % 64 : Nat) : Int) := by
        rw [w64 ⟨by omega, by omega⟩, wu64 ⟨by omega, by omega⟩]; omega
      rw [e2, shr_u64 hx]
      obtain ⟨w4, o4, hr4, hu4, hf4, hl4, s4⟩ := ss.push (x >>> (64 - bits.length % 64)) (by omega)
      rw [add_over hx2 hx (by omega) (by omega) (by omega)] at s4
      refine ⟨by omega, w4, o4, hr4, hu4, hf4, ⟨o4, _, by rw [← hcast]; exact s4, .inr rfl⟩, ?_⟩
      dsimp only
      rw [s4.len0, hln]
      omega
    · rcases hws with rfl | rfl
      · have hol1 : (orLast bits x).length = (wordsOf bits).length := by simp [orLast]
        rw [add_in hx2 (by omega) (by omega)] at ss
        exact fin ss
      · exact fin ss
  · refine ⟨fun w3 => ∃ o ws, St w r l ((bits.length : Int) + m) w3 o ws ∧ ((ws = wordsOf bits) ∨ ws = wordsOf (bits ++ lowb x m)), fun w3 => (bits.length + m + 63) / 64 - len0 r w3, ⟨l, _, st0, .inl rfl⟩, ?_⟩
    rintro w3 ⟨o, ws, s, hws⟩
    have ss := s.drew
    have hol := s.olen
    have hln := s.len0
    refine ⟨o, ss.blk.cell 0, _, ss.blk.cell 1, ?_⟩
    rw [hcast]
    refine usei (need _ _ (by omega)) ⟨_, rfl, ss.blk.cell 0, br_dec (fun h4 => ?_) (fun h4 => ?_)⟩
    · have hws1 : ws = wordsOf bits := by
        rcases hws with rfl | rfl
        · rfl
        · rw [length_wordsOf, hlen2] at hol; omega
      subst hws1
      refine br_dec (fun h5 => absurd h5 h3) (fun h5 => ⟨o, ss.blk.cell 0, ?_⟩)
      obtain ⟨w4, o4, hr4, hu4, hf4, hl4, s4⟩ := ss.push x (by omega)
      rw [add_new hx2 hx (by omega) (by omega) (by omega)] at s4
      refine ⟨w4, o4, hr4, hu4, hf4, ⟨o4, _, by rw [← hcast]; exact s4, .inr rfl⟩, ?_⟩
      dsimp only
      rw [s4.len0, hln]
      omega
    · rcases hws with rfl | rfl
      · have hm : m = 0 := by omega
        subst hm
        have e : bits ++ lowb x 0 = bits := by simp [lowb]
        rw [e] at fin ⊢
        exact fin ss
      · exact fin ss
end Go.Proofs.YtomajpihimlcjaaDoor.V

namespace Go.Proofs.YtomajpihimlcjaaDoor.V
open Go Go.VC
variable {w w' w0 : World} {l o : Slc} {bits : List Bool} {ws : List Nat} {r : Nat}

/-- Parts that can be read. -/
structure RdP (w : World) (l : Slc) (ps : List (Nat × Int)) : Prop where
  len : ps.length = l.len
  cel : ∀ i (hi : i < ps.length), ∃ b, l.a = some b ∧ w.cell? (Addr.add (Addr.add b (i * 2)) 0) = some (U ps[i].1) ∧ w.cell? (Addr.add (Addr.add b (i * 2)) 1) = some (.int .i64 ps[i].2)
  lt : ∀ p ∈ ps, p.1 < 18446744073709551616
theorem RdP.kp {ps : List (Nat × Int)} (h : RdP w l ps) (g : Kp no w w') : RdP w' l ps := ⟨h.len, fun i hi => by
  obtain ⟨b, hb, h0, h1⟩ := h.cel i hi
  have e : w'.heap[b.block]? = w.heap[b.block]? := g.keep _ (by have := cell_lt h0; simpa [add_block] using this) id
  exact ⟨b, hb, by rw [World.cell?_of_block (w := w) (by simpa [add_block] using e), h0], by rw [World.cell?_of_block (w := w) (by simpa [add_block] using e), h1]⟩, h.lt⟩

theorem rdP_of {a : Option Addr} {len cap : Nat} {zs : List (Int × Int)} (h : IsPairs .u64 .i64 w a len zs) : RdP w ⟨a, len, cap⟩ (zs.map fun z => (z.1.toNat, z.2)) := by
  have b : ∀ i (hi : i < zs.length), 0 ≤ zs[i].1 ∧ zs[i].1 ≤ 18446744073709551615 := fun i hi => Go.bounds_u64 (h.2.2 i hi).2.1
  refine ⟨by simpa using h.1, fun i hi => ?_, fun p hp => ?_⟩
  · rw [List.length_map] at hi
    obtain ⟨⟨c, hc, h0, h1⟩, _⟩ := h.2.2 i hi
    have := b i hi
    refine ⟨c, hc, ?_, by simpa using h1⟩
    rw [h0, List.getElem_map]
    congr 2
    simp only; omega
  · obtain ⟨z, hz, rfl⟩ := List.mem_map.1 hp
    obtain ⟨i, hi, rfl⟩ := List.getElem_of_mem hz
    have := b i hi
    simp only; omega

/-- The bits of a list of parts. -/
def bitsOf : List (Nat × Int) → List Bool → List Bool
  | [], b => b
  | p :: ps, b => bitsOf ps (addS b p.1 p.2).2
theorem bitsOf_snoc (ps : List (Nat × Int)) (p : Nat × Int) : ∀ b, bitsOf (ps ++ [p]) b = (addS (bitsOf ps b) p.1 p.2).2 := by
  induction ps with
  | nil => intro b; rfl
  | cons q ps ih => intro b; exact ih _
theorem addS_len (b : List Bool) (x : Nat) (n : Int) : (addS b x n).2.length ≤ b.length + 64 := by
  unfold addS
  split
  · simp
  · split
    · simp
    · simp [lowb]; omega
theorem bitsOf_len (ps : List (Nat × Int)) : ∀ b, (bitsOf ps b).length ≤ b.length + 64 * ps.length := by
  induction ps with
  | nil => intro b; simp [bitsOf]
  | cons q ps ih => intro b; have := ih (addS b q.1 q.2).2; have := addS_len b q.1 q.2; simp only [bitsOf, List.length_cons]; omega

theorem built {ps : List (Nat × Int)} (h : RdP w l ps) (hsz : l.len ≤ 1000000) : Calls Tryd.prog 48 #[.slice l.a l.len l.cap] w (Rv fun v w' => ∃ r rl o, v = .tuple #[.pointer (some ⟨r, 0, none⟩), .slice o.a o.len o.cap, .bool true] ∧
    Row w' r rl (bitsOf ps []) ∧ Ownd w' o 4 1 ((bitsOf ps []).map Value.bool) ∧ Kp no w w' ∧ (∀ k, RF r rl k → w.heap.size ≤ k) ∧ (∀ k, On o k → w.heap.size ≤ k)) := by
  refine c48 _ _ _ ?_
  unfold B48
  have hl := h.len
  refine use (new w) ?_
  rintro _ w1 ⟨rfl, hrow, hk0⟩
  refine ⟨_, rfl, fun o i w' => ∃ m : Nat, i = m ∧ m ≤ ps.length ∧ ∃ rl, Row w' w.heap.size rl (bitsOf (ps.take m) []) ∧ Ownd w' o 4 1 ((bitsOf (ps.take m) []).map Value.bool) ∧ Kp no w w' ∧ (∀ k, RF w.heap.size rl k → w.heap.size ≤ k) ∧ (∀ k, On o k → w.heap.size ≤ k ∧ ¬ RF w.heap.size rl k),
    fun _ i _ => (l.len - i).toNat, ⟨0, rfl, by omega, _, hrow, Ownd.nil _ _ _, hk0, fun k hk => ?_, fun k hk => absurd hk On.nil⟩, ?_⟩
  · rcases hk with rfl | hk
    · exact Nat.le_refl _
    · exact absurd hk On.nil
  rintro o i w2 ⟨m, rfl, hm, rl, hR, hO, hK, hF, hG⟩
  have hbl := bitsOf_len (ps.take m) []
  have htl : (ps.take m).length = m := by simp; omega
  simp only [List.length_nil, htl] at hbl
  refine br_dec (fun h1 => ⟨by omega, h1, ?_⟩) (fun h1 => ?_)
  · have hmp : m < ps.length := by omega
    obtain ⟨b, hb, e0, e1⟩ := (h.kp hK.drew).cel m hmp
    have hx := h.lt _ (List.getElem_mem hmp)
    have htk : ps.take (m + 1) = ps.take m ++ [ps[m]] := by rw [List.take_add_one, List.getElem?_eq_getElem hmp]; rfl
    refine ⟨b, hb, _, e0, by omega, h1, b, hb, _, e1, ?_⟩
    have hRd : Row w2.drew w.heap.size rl (bitsOf (ps.take m) []) := hR.kp (Kp.refl no w2).drew (fun _ _ f => f)
    refine use (add1 hRd (by omega) ps[m].1 hx ps[m].2) ?_
    rintro _ w3 ⟨rl3, rfl, hR3, hK3, hF3⟩
    have hK3' : Kp no w w3 := hK.drew.trans hK3 (fun k hlt hk => by have := hF k hk; omega)
    have hO3 : Ownd w3 o 4 1 ((bitsOf (ps.take m) []).map Value.bool) := hO.drew.kp hK3 (fun k hk => (hG k hk).2)
    have hwl := hK.size
    have hF3' : ∀ k, RF w.heap.size rl3 k → w.heap.size ≤ k := fun k hk => by
      rcases hk with rfl | hk
      · exact Nat.le_refl _
      · rcases hF3 k hk with g | g
        · exact hF k (.inr g)
        · simp at g; omega
    have hG3 : ∀ k, On o k → w.heap.size ≤ k ∧ ¬ RF w.heap.size rl3 k := fun k hk => ⟨(hG k hk).1, fun g => by
      rcases g with rfl | g
      · exact (hG _ hk).2 (.inl rfl)
      · rcases hF3 k g with g | g
        · exact (hG _ hk).2 (.inr g)
        · have := hO.on hk; simp at g; omega⟩
    have hbs : bitsOf (ps.take (m + 1)) [] = (addS (bitsOf (ps.take m) []) ps[m].1 ps[m].2).2 := by rw [htk, bitsOf_snoc]
    have P3 := h.kp hK3'
    have hold : ∀ c, addS (bitsOf (ps.take m) []) ps[m].1 ps[m].2 = (c, bitsOf (ps.take m) []) → ∀ w4, Kp no w3 w4 →
        (∃ m' : Nat, ((m : Int) + 1) = m' ∧ m' ≤ ps.length ∧ ∃ rl, Row w4 w.heap.size rl (bitsOf (ps.take m') []) ∧ Ownd w4 o 4 1 ((bitsOf (ps.take m') []).map Value.bool) ∧ Kp no w w4 ∧ (∀ k, RF w.heap.size rl k → w.heap.size ≤ k) ∧ (∀ k, On o k → w.heap.size ≤ k ∧ ¬ RF w.heap.size rl k)) := fun c hc w4 hk4 => by
      rw [hc] at hR3 hbs
      exact ⟨m + 1, by omega, hmp, rl3, by rw [hbs]; exact hR3.kp hk4 (fun _ _ f => f), by rw [hbs]; exact hO3.kp hk4 (fun _ _ f => f), hK3'.trans hk4 (fun _ _ f => f), hF3', hG3⟩
    obtain ⟨b2, hb2, f0, f1⟩ := P3.cel m hmp
    refine ⟨_, rfl, by omega, h1, b2, hb2, _, f1, ?_⟩
    have hw : IntKind.i64.wrap ((m : Int) + 1) = (m : Int) + 1 := w64 ⟨by omega, by omega⟩
    rw [hw]
    have P4 := h.kp hK3'.drew
    obtain ⟨b4, hb4, q0, q1⟩ := P4.cel m hmp
    refine br_dec (fun h2 => ?_) (fun h2 => ⟨by omega, h1, b2, hb2, _, f1, br_dec (fun h3 => ?_) (fun h3 => ⟨by omega, h1, b4, hb4, _, q0, by omega, h1, b4, hb4, _, q1, ?_⟩)⟩)
    · have hc : addS (bitsOf (ps.take m) []) ps[m].1 ps[m].2 = (1, bitsOf (ps.take m) []) := by unfold addS; rw [if_pos (.inl h2)]
      rw [hc]
      exact br_not (br_dec (fun _ => ⟨hold 1 hc w3 (Kp.refl _ _), by dsimp only; omega⟩) (fun h => absurd rfl h))
    · have hc : addS (bitsOf (ps.take m) []) ps[m].1 ps[m].2 = (1, bitsOf (ps.take m) []) := by unfold addS; rw [if_pos (.inr h3)]
      rw [hc]
      exact br_not (br_dec (fun _ => ⟨hold 1 hc w3 (Kp.refl _ _), by dsimp only; omega⟩) (fun h => absurd rfl h))
    · refine usei (may2 w3.drew ps[m].1 hx ps[m].2) ⟨_, rfl, br_not (br_dec (fun h4 => ?_) (fun h4 => ?_))⟩
      · have hc : addS (bitsOf (ps.take m) []) ps[m].1 ps[m].2 = (0, bitsOf (ps.take m) [] ++ lowb ps[m].1 ps[m].2.toNat) := by unfold addS; rw [if_neg (by omega), if_neg (by omega)]
        obtain ⟨n, hn⟩ : ∃ n : Nat, ps[m].2 = n := ⟨ps[m].2.toNat, by omega⟩
        have P5 := h.kp hK3'.drew.drew
        obtain ⟨b5, hb5, r0, r1⟩ := P5.cel m hmp
        refine ⟨by omega, h1, b5, hb5, _, r0, by omega, h1, b5, hb5, _, r1, ?_⟩
        have hO5 := (hO3.drew.drew).rdB
        have hol : o.len = (bitsOf (ps.take m) []).length := hO5.len.symm
        rw [hn]
        refine use (add2 hO5 (by omega) ps[m].1 hx n (by omega)) ?_
        rintro _ w6 ⟨o6, rfl, hO6, hK6, hF6⟩
        refine ⟨_, rfl, ?_⟩
        rw [← hn]
        rw [hc] at hR3 hbs ⊢
        have hKK : Kp no w3 w6 := (Kp.refl no w3).drew.drew.trans hK6 (fun _ _ f => f)
        refine br_not (br_dec (fun _ => ⟨⟨m + 1, by omega, hmp, rl3, by rw [hbs]; exact hR3.kp hKK (fun _ _ f => f), by rw [hbs, hn]; exact hO6, hK3'.trans hKK (fun _ _ f => f), hF3', fun k hk => ?_⟩, by dsimp only; omega⟩) (fun h => absurd rfl h))
        have g := hF6 k hk
        simp at g
        have s3 := hK3'.size
        exact ⟨by omega, fun f => by have := hR3.lt f; omega⟩
      · have hc : addS (bitsOf (ps.take m) []) ps[m].1 ps[m].2 = (8, bitsOf (ps.take m) []) := by unfold addS; rw [if_neg (by omega), if_pos (by omega)]
        rw [hc]
        exact br_not (br_dec (fun _ => ⟨hold 8 hc w3.drew (Kp.refl _ _).drew, by dsimp only; omega⟩) (fun h => absurd rfl h))
  · have hme : m = ps.length := by omega
    subst hme
    rw [List.take_length] at hR hO
    exact ⟨w.heap.size, rl, o, rfl, hR, hO, hK, hF, fun k hk => (hG k hk).1⟩

end Go.Proofs.YtomajpihimlcjaaDoor.V

namespace Go.Proofs.YtomajpihimlcjaaDoor.V
open Go Go.VC
variable {w w' w0 : World} {l o : Slc} {bits : List Bool} {ws : List Nat} {r : Nat}

theorem nAdd (w : World) (x n : Int) : Is 22 #[.pointer none, .int .u64 x, .int .i64 n] w (.int .i64 11) := c22n _ _ _ _ ⟨rfl, rfl⟩
theorem nLen (w : World) : Is 54 #[.pointer none] w (.int .i64 0) := c54n _ _ ⟨rfl, rfl⟩
theorem nBit (w : World) (i : Int) : Is 142 #[.pointer none, .int .i64 i] w (.bool false) := c142n _ _ _ ⟨rfl, rfl⟩
theorem nCut (w : World) (i n : Int) : Is 118 #[.pointer none, .int .i64 i, .int .i64 n] w (.int .u64 0) := c118n _ _ _ _ ⟨rfl, rfl⟩
theorem nWords (w : World) : Is 56 #[.pointer none] w (.slice none 0 0) := c56n _ _ ⟨rfl, rfl⟩
theorem sameN (h : Row w r l bits) : Is 52 #[.pointer none, .pointer (some ⟨r, 0, none⟩)] w (.bool (decide (bits.length = 0))) := by
  refine c52n _ _ _ ?_
  unfold B52n
  refine usei (nLen w) ⟨_, rfl, usei (len1 h) ⟨_, rfl, br_not (br_dec (fun h1 => usei (nLen w) ⟨_, rfl, br_dec (fun h2 => usei (nLen w) ⟨_, rfl, usei (len1 h) ⟨_, rfl, ?_, rfl⟩⟩) (fun h2 => absurd rfl h2)⟩) (fun h1 => usei (nLen w) ⟨_, rfl, usei (len1 h) ⟨_, rfl, ?_, rfl⟩⟩))⟩⟩ <;>
  · congr 1; rw [decide_eq_decide]; omega
theorem sameN' (h : Row w r l bits) : Is 52 #[.pointer (some ⟨r, 0, none⟩), .pointer none] w (.bool (decide (bits.length = 0))) := by
  refine c52n1 _ _ _ ?_
  unfold B52n1
  refine usei (len1 h) ⟨_, rfl, usei (nLen w) ⟨_, rfl, br_not (br_dec (fun h1 => usei (len1 h) ⟨_, rfl, br_dec (fun h2 => usei (len1 h) ⟨_, rfl, usei (nLen w) ⟨_, rfl, ?_, rfl⟩⟩) (fun h2 => absurd h1 h2)⟩) (fun h1 => usei (len1 h) ⟨_, rfl, usei (nLen w) ⟨_, rfl, ?_, rfl⟩⟩))⟩⟩ <;>
  · congr 1; rw [decide_eq_decide]; omega

/-- So many bits of a list of words. -/
def bitsW (ws : List Nat) (n : Nat) : List Bool := (List.range n).map (wbit ws)
theorem bitsW_len (ws : List Nat) (n : Nat) : (bitsW ws n).length = n := by simp [bitsW]
theorem bg_bitsW (ws : List Nat) (n i : Nat) (hi : i < n) : bg (bitsW ws n) i = wbit ws i := by
  unfold bg bitsW; simp [hi]
theorem good_iff {n : Nat} (hlt : ∀ x ∈ ws, x < 18446744073709551616) (hl : (n + 63) / 64 = ws.length) : wordsOf (bitsW ws n) = ws ↔ (n % 64 = 0 ∨ wg ws (ws.length - 1) >>> (n % 64) = 0) := by
  have hbl := bitsW_len ws n
  constructor
  · intro h
    by_cases h0 : n % 64 = 0
    · exact .inl h0
    · right
      have e : wg ws (ws.length - 1) = wordOf (bitsW ws n) (ws.length - 1) := by rw [← wg_wordsOf, h]
      rw [e]
      apply Nat.eq_of_testBit_eq
      intro i
      rw [Nat.testBit_shiftRight, Nat.zero_testBit]
      by_cases hi : n % 64 + i < 64
      · rw [testBit_wordOf _ _ _ hi, bg_out (by omega)]
      · exact tb_lt (wordOf_lt _ _) (by omega)
  · intro h
    symm
    refine eq_wordsOf (by omega) (fun k => wg_lt hlt k) (fun i hi => ?_)
    by_cases hin : i < n
    · rw [bg_bitsW _ _ _ hin]
    · rw [bg_out (by omega)]
      rcases h with h | h
      · omega
      · have := congrArg (fun x => Nat.testBit x (i % 64 - n % 64)) h
        simp only [Nat.testBit_shiftRight, Nat.zero_testBit] at this
        unfold wbit
        rw [show i / 64 = ws.length - 1 by omega]
        rw [show n % 64 + (i % 64 - n % 64) = i % 64 by omega] at this
        exact this

theorem of1 (h : RdW w l ws) (hsz : l.len ≤ 1000000) (n : Int) (hn : -9223372036854775808 ≤ n ∧ n ≤ 9223372036854775807) : Calls Tryd.prog 125 #[.slice l.a l.len l.cap, .int .i64 n] w (Rv fun v w' => Kp no w w' ∧
    ((v = .tuple #[.pointer none, .int .i64 1] ∧ (n < 0 ∨ (n.toNat + 63) / 64 ≠ ws.length)) ∨ (v = .tuple #[.pointer none, .int .i64 3] ∧ 0 ≤ n ∧ (n.toNat + 63) / 64 = ws.length ∧ wordsOf (bitsW ws n.toNat) ≠ ws) ∨
     (∃ r rl, v = .tuple #[.pointer (some ⟨r, 0, none⟩), .int .i64 0] ∧ 0 ≤ n ∧ (n.toNat + 63) / 64 = ws.length ∧ wordsOf (bitsW ws n.toNat) = ws ∧ Row w' r rl (bitsW ws n.toNat) ∧ ∀ k, RF r rl k → w.heap.size ≤ k))) := by
  refine c125 _ _ _ _ ?_
  unfold B125
  have hl := h.len
  refine br_dec (fun h0 => ⟨Kp.refl _ _, .inl ⟨rfl, .inl h0⟩⟩) (fun h0 => ?_)
  obtain ⟨m, rfl⟩ : ∃ m : Nat, n = m := ⟨n.toNat, by omega⟩
  rw [show ((m : Int)).toNat = m from Int.toNat_natCast m]
  refine usei (need w m (by omega)) ⟨_, rfl, br_not (br_dec (fun h1 => ⟨by omega, ?_⟩) (fun h1 => ⟨Kp.refl _ _, .inl ⟨rfl, .inr (by omega)⟩⟩))⟩
  have hlw : (m + 63) / 64 = ws.length := by omega
  have gi := good_iff h.lt hlw
  have fin : wordsOf (bitsW ws m) = ws → Calls Tryd.prog 124 #[.slice l.a l.len l.cap] w (Rv fun v6 w7 =>
    ∃ l8 : Slc, v6 = .slice l8.a l8.len l8.cap ∧ Kp no w (w7.alloc (.cells #[.slice l8.a l8.len l8.cap, .int .i64 m] 111)) ∧
    (((Value.tuple #[.pointer (some ⟨w7.heap.size, 0, none⟩), .int .i64 0]) = .tuple #[.pointer none, .int .i64 1] ∧ ((m : Int) < 0 ∨ (m + 63) / 64 ≠ ws.length)) ∨ ((Value.tuple #[.pointer (some ⟨w7.heap.size, 0, none⟩), .int .i64 0]) = .tuple #[.pointer none, .int .i64 3] ∧ 0 ≤ (m : Int) ∧ (m + 63) / 64 = ws.length ∧ wordsOf (bitsW ws m) ≠ ws) ∨
     (∃ r rl, (Value.tuple #[.pointer (some ⟨w7.heap.size, 0, none⟩), .int .i64 0]) = .tuple #[.pointer (some ⟨r, 0, none⟩), .int .i64 0] ∧ 0 ≤ (m : Int) ∧ (m + 63) / 64 = ws.length ∧ wordsOf (bitsW ws m) = ws ∧ Row (w7.alloc (.cells #[.slice l8.a l8.len l8.cap, .int .i64 m] 111)) r rl (bitsW ws m) ∧ ∀ k, RF r rl k → w.heap.size ≤ k))) := fun hg => by
    refine use (clone h (by omega)) ?_
    rintro _ w7 ⟨o, rfl, hO, hK, hF⟩
    refine ⟨o, rfl, hK.alloc _ _, .inr (.inr ⟨_, o, rfl, by omega, hlw, hg, ⟨?_, ?_, fun hk => ?_⟩, fun k hk => ?_⟩)⟩
    · rw [bitsW_len]; exact Blk.new _ _ _
    · rw [hg]; exact hO.alloc _
    · exact absurd (hO.on hk) (by omega)
    · rcases hk with rfl | hk
      · exact hK.size
      · exact hF k hk
  rw [Int.tmod_eq_emod_of_nonneg (by omega)]
  refine br_not (br_dec (fun h2 => fin (gi.2 (.inl (by omega)))) (fun h2 => ?_))
  have hw1 : IntKind.i64.wrap ((l.len : Int) - 1) = ((ws.length - 1 : Nat) : Int) := by rw [w64 ⟨by omega, by omega⟩]; omega
  rw [hw1]
  obtain ⟨a, ha, hc⟩ := h.at (i := ((ws.length - 1 : Nat) : Int)) (by omega) (by omega)
  refine ⟨by omega, by omega, a, ha, _, hc, by omega, ?_⟩
  rw [wu64 (x := (m : Int) % 64) ⟨by omega, by omega⟩, Int.toNat_natCast, show (m : Int) % 64 = ((m % 64 : Nat) : Int) by omega, shr_u64 (wg_lt h.lt _)]
  refine ⟨by omega, br_not (br_dec (fun h3 => fin (gi.2 (.inr (by omega)))) (fun h3 => ⟨Kp.refl _ _, .inr (.inl ⟨rfl, by omega, hlw, fun e => ?_⟩)⟩))⟩
  rcases gi.1 e with g | g <;> omega

theorem rdW_of {a : Option Addr} {len cap : Nat} {zs : List Int} (h : (a = none ∧ len = 0 ∧ cap = 0 ∧ zs = []) ∨
    ∃ x, a = some x ∧ len ≤ cap ∧ cap ≤ maxLen ∧ zs.length = cap ∧ (∀ i, i < zs.length → w.cell? (x.add i) = some (.int .u64 (zs.getD i 0))) ∧ ∀ n ∈ zs, (Lit.int .u64 n).wf = true) :
    RdW w ⟨a, len, cap⟩ ((zs.take len).map Int.toNat) := by
  rcases h with ⟨rfl, rfl, rfl, rfl⟩ | ⟨x, rfl, hlc, hcm, hzl, hcell, hwf⟩
  · exact ⟨rfl, Rd.nil _ _, fun x hx => by simp at hx⟩
  · have b : ∀ n ∈ zs, 0 ≤ n ∧ n ≤ 18446744073709551615 := fun n hn => Go.bounds_u64 (hwf n hn)
    refine ⟨by simp; omega, fun i hi => ⟨x, rfl, ?_⟩, fun y hy => ?_⟩
    · have hi2 : i < len := by simp at hi; omega
      rw [hcell i (by omega)]
      rw [List.getElem?_map, List.getElem?_map, List.getElem?_take, if_pos hi2, List.getElem?_eq_getElem (by omega)]
      have := b zs[i] (List.getElem_mem _)
      have e : zs.getD i 0 = zs[i] := by simp [List.getD, show i < zs.length by omega]
      rw [e]
      simp only [Option.map_some]
      congr 2
      omega
    · obtain ⟨z, hz, rfl⟩ := List.mem_map.1 hy
      have := b z (List.mem_of_mem_take hz)
      omega
end Go.Proofs.YtomajpihimlcjaaDoor.V

namespace Go.VC
open Go Go.ChangeShapes Go.WideShapes Go.Joins Go.Deep
/-- A slice of ints that can be read. -/
structure RdZ (w : World) (l : Slc) (zs : List Int) : Prop where
  len : zs.length = l.len
  rd : Rd w l (zs.map (Value.int .i64))
  lo : ∀ z ∈ zs, -9223372036854775808 ≤ z ∧ z ≤ 9223372036854775807
variable {H : Type} {enc : TypeId × Value → H} {P : Program} {w : World} {r : Reach} {b0 : Nat} {t e : TypeId} {v : Value} {d : DataW H} {p : List MemPlace}

theorem open_zs {k : IntKind} {fuel : Nat} {a : Option Addr} {len cap : Nat} {x : DataW H × List MemPlace} (ht : P.underlying t = some (.slice e)) (he : P.underlying e = some (.int k)) (hc : P.cellsOf e = 1)
    (h : DataW.trod enc P w 0 (fun _ => true) true fuel t [.slice a len cap] = some x) :
    ∃ zs : List Int, zs.length = len ∧ Rd w ⟨a, len, cap⟩ (zs.map (Value.int k)) ∧ (∀ z ∈ zs, (Lit.int k z).wf = true) ∧ len ≤ maxLen := by
  rcases open_ints ht he hc h with ⟨hcs, _⟩ | ⟨x, l, c, zs, hcs, _, hl, hm, hz, _, hcell, hwz⟩
  · simp at hcs
    obtain ⟨rfl, rfl, rfl⟩ := hcs
    exact ⟨[], rfl, Rd.nil _ _, by simp, Nat.zero_le _⟩
  · simp at hcs
    obtain ⟨rfl, rfl, rfl⟩ := hcs
    have hz : zs.length = cap := by simpa using hz
    refine ⟨zs.take len, by simp; omega, fun i hi => ⟨x, rfl, ?_⟩, fun z hzz => hwz z (List.mem_of_mem_take hzz), by omega⟩
    have hi2 : i < len := by simp at hi; omega
    rw [hcell i (by omega)]
    rw [List.getElem?_map, List.getElem?_take, if_pos hi2, List.getElem?_eq_getElem (by omega)]
    have e : zs.getD i 0 = zs[i] := by simp [List.getD, show i < zs.length by omega]
    rw [e]; rfl
theorem ws_of {l : Slc} {zs : List Int} (hl : zs.length = l.len) (h : Rd w l (zs.map (Value.int .u64))) (hw : ∀ z ∈ zs, (Lit.int .u64 z).wf = true) : RdW w l (zs.map Int.toNat) := by
  have b : ∀ n ∈ zs, 0 ≤ n ∧ n ≤ 18446744073709551615 := fun n hn => Go.bounds_u64 (hw n hn)
  refine ⟨by simpa using hl, ?_, fun y hy => ?_⟩
  · have : (zs.map Int.toNat).map U = zs.map (Value.int .u64) := by
      rw [List.map_map]
      apply List.map_congr_left
      intro z hz
      have := b z hz
      show Value.int .u64 ((z.toNat : Nat) : Int) = _
      rw [show ((z.toNat : Nat) : Int) = z by omega]
    rw [this]; exact h
  · obtain ⟨z, hz, rfl⟩ := List.mem_map.1 hy
    have := b z hz; omega

theorem open_wsl (ht : P.underlying t = some (.slice e)) (he : P.underlying e = some (.int .u64)) (hc : P.cellsOf e = 1) (hv : Value.okWide P w r b0 t v) (h : DataW.Trod enc P w 0 (fun _ => true) true t v d p) :
    ∃ (l : Slc) (ws : List Nat), v = .slice l.a l.len l.cap ∧ RdW w l ws ∧ l.len ≤ maxLen := by
  obtain ⟨a, len, cap, rfl⟩ := okWide_slice ht hv
  obtain ⟨fuel, hf⟩ := h
  obtain ⟨zs, hl, hr, hw, hm⟩ := open_zs ht he hc hf
  exact ⟨⟨a, len, cap⟩, _, rfl, ws_of hl hr hw, hm⟩
theorem open_zsl (ht : P.underlying t = some (.slice e)) (he : P.underlying e = some (.int .i64)) (hc : P.cellsOf e = 1) (hv : Value.okWide P w r b0 t v) (h : DataW.Trod enc P w 0 (fun _ => true) true t v d p) :
    ∃ (l : Slc) (zs : List Int), v = .slice l.a l.len l.cap ∧ RdZ w l zs ∧ l.len ≤ maxLen := by
  obtain ⟨a, len, cap, rfl⟩ := okWide_slice ht hv
  obtain ⟨fuel, hf⟩ := h
  obtain ⟨zs, hl, hr, hw, hm⟩ := open_zs ht he hc hf
  exact ⟨⟨a, len, cap⟩, zs, rfl, ⟨hl, hr, fun z hz => Go.bounds_i64 (hw z hz)⟩, hm⟩
end Go.VC

namespace Go.VC
open Go
/-- 'make' of a slice of elements of one cell: it is owned and holds zeros. -/
theorem make_own {P : Program} {t e : TypeId} {z : Value} {bytes : Nat} (ht : P.underlying t = some (.slice e)) (hz : (P.info? e).bind (·.zero) = some z) (hs : (P.info? e).map (fun i => (i.size, i.bytes)) = some (1, bytes)) (hzc : z.cells = #[z])
    (w : World) (n : Nat) (hn : bytes * n ≤ 281474976710656) (h63 : n ≤ 9223372036854775807) :
    ∃ w' l, (Instr.makeSlice t (.int .i64 (n : Int)) (.int .i64 (n : Int))).run P w = .ok (.slice l.a l.len l.cap) w' ∧ l.len = n ∧ Ownd w' l e 1 (List.replicate n z) ∧ Kp no w w' ∧ ∀ k, On l k → k = w.heap.size := by
  cases hi : P.info? e with
  | none => rw [hi] at hs; cases hs
  | some i =>
    rw [hi] at hz hs
    simp only [Option.bind_some, Option.map_some, Option.some.injEq, Prod.mk.injEq] at hz hs
    have hr := run_make (P := P) w t e i z ht hi hz .i64 .i64 (n : Int) (n : Int) (by omega) (Int.le_refl _) (by rw [hs.2]; omega) (by omega)
    simp only [Int.toNat_natCast, hs.1, Nat.mul_one, hzc] at hr
    have hm : (madeCells #[z] n).toList = List.replicate n z := by
      apply List.ext_getElem
      · simp [madeCells]
      · intro k h1 h2
        simp [madeCells]
        have : k % 1 = 0 := Nat.mod_one k
        simp [this]
    refine ⟨_, ⟨some ⟨w.heap.size, 0, none⟩, n, n⟩, hr, rfl, Ownd.mk' (cur := (madeCells #[z] n).toList) rfl ?_ (Nat.le_refl _) (by simpa [maxLen] using h63) ?_ ?_, (Kp.refl _ _).alloc _ _, fun k hk => ?_⟩
    · unfold Blk
      rw [Array.toArray_toList]
      exact heap_alloc_new w _
    · rw [hm]; simp
    · rw [hm]; simp
    · obtain ⟨b, hb, rfl⟩ := hk; cases hb; rfl
end Go.VC
