/- What the functions of the row chapter compute: the row's own functions and the plain ones over lists of bits. What the functions of package bitrow compute. Adding to a row; rows made of parts; the laws of the row chapter. The laws of the row chapter. The laws of the row chapter: rows that are the same, rows from words. Opening what a law is handed: words, ints. No program here. 'make' of a slice. No program here. -/
import Derived.Test.YtmpgklgjmkcpdaaLa
import Derived.Test.YtmpgklgjmkcpdaaBR
import Derived.Lib.SmallJoins
import Derived.Laws.OwnMore
namespace Go.VC
open Go
/-- The word as a value. -/
abbrev U (x : Nat) : Value := .int .u64 (x : Int)
/-- Bits that can be read. -/
structure RdB (w : World) (l : Slc) (bits : List Bool) : Prop where
  len : bits.length = l.len
  rd : Rd w l (bits.map Value.bool)
/-- Words that can be read. -/
structure RdW (w : World) (l : Slc) (ws : List Nat) : Prop where
  len : ws.length = l.len
  rd : Rd w l (ws.map U)
  lt : ∀ x ∈ ws, x < 18446744073709551616
variable {w w' : World} {l : Slc} {bits : List Bool} {ws : List Nat} {S : Nat → Prop}
theorem RdB.at (h : RdB w l bits) {i : Int} (h0 : 0 ≤ i) (h1 : i < l.len) : ∃ a, l.a = some a ∧ w.cell? (Addr.add a (i.toNat * 1)) = some (.bool (bg bits i.toNat)) := by
  have hl := h.len
  obtain ⟨a, ha, hc⟩ := h.rd i.toNat (by rw [List.length_map]; omega)
  refine ⟨a, ha, ?_⟩
  rw [Nat.mul_one, hc]
  unfold bg
  rw [List.getElem?_map, List.getElem?_eq_getElem (by omega)]
  rfl
theorem RdW.at (h : RdW w l ws) {i : Int} (h0 : 0 ≤ i) (h1 : i < l.len) : ∃ a, l.a = some a ∧ w.cell? (Addr.add a (i.toNat * 1)) = some (U (wg ws i.toNat)) := by
  have hl := h.len
  obtain ⟨a, ha, hc⟩ := h.rd i.toNat (by rw [List.length_map]; omega)
  refine ⟨a, ha, ?_⟩
  rw [Nat.mul_one, hc]
  unfold wg
  rw [List.getElem?_map, List.getElem?_eq_getElem (by omega)]
  rfl
theorem wg_lt (h : ∀ x ∈ ws, x < 18446744073709551616) (k : Nat) : wg ws k < 18446744073709551616 := by
  unfold wg
  by_cases g : k < ws.length
  · rw [List.getElem?_eq_getElem g]; exact h _ (List.getElem_mem g)
  · rw [List.getElem?_eq_none (by omega)]; decide
theorem RdB.kp (h : RdB w l bits) (g : Kp S w w') (hn : ∀ k, On l k → ¬ S k) : RdB w' l bits := ⟨h.len, h.rd.kp g hn⟩
theorem RdW.kp (h : RdW w l ws) (g : Kp S w w') (hn : ∀ k, On l k → ¬ S k) : RdW w' l ws := ⟨h.len, h.rd.kp g hn, h.lt⟩
theorem Ownd.rdB {e : TypeId} (h : Ownd w l e 1 (bits.map Value.bool)) : RdB w l bits := ⟨by have := h.len; simpa using this, h.rd⟩
theorem Ownd.rdW {e : TypeId} (h : Ownd w l e 1 (ws.map U)) (hlt : ∀ x ∈ ws, x < 18446744073709551616) : RdW w l ws := ⟨by have := h.len; simpa using this, h.rd, hlt⟩
end Go.VC

namespace Go.Proofs.Ytmpgklgjmkcpdaa.V
open Go Go.VC
variable {w : World} {l : Slc} {bits : List Bool} {ws : List Nat}

theorem elU : El Try.prog 106 107 1 8 := El.of (by kernel_rfl) (by kernel_rfl)
/-! ### the plain row -/
theorem wg_ext {a b : List Nat} (hl : a.length = b.length) (h : ∀ k, k < a.length → wg a k = wg b k) : a = b := by
  apply List.ext_getElem hl
  intro k h1 h2
  have := h k h1
  unfold wg at this
  simpa [h1, h2] using this

theorem map_snoc (xs : List Nat) (x : Nat) : xs.map U ++ [U x] = (xs ++ [x]).map U := by simp
theorem map_snocB (xs : List Bool) (x : Bool) : xs.map Value.bool ++ [Value.bool x] = (xs ++ [x]).map Value.bool := by simp

end Go.Proofs.Ytmpgklgjmkcpdaa.V

namespace Go.Proofs.Ytmpgklgjmkcpdaa.V
open Go Go.VC

/-- A row of bits, and that the world holds it as its own. -/
structure Row (w : World) (r : Nat) (l : Slc) (bits : List Bool) : Prop where
  blk : Blk w r [.slice l.a l.len l.cap, .int .i64 (bits.length : Int)] 127
  own : Ownd w l 107 1 ((wordsOf bits).map U)
  ne : ¬ On l r

variable {w w' : World} {l : Slc} {bits : List Bool} {ws : List Nat} {r : Nat} {S : Nat → Prop}

theorem Row.kp (h : Row w r l bits) (g : Kp S w w') (hn : ∀ k, RF r l k → ¬ S k) : Row w' r l bits :=
  ⟨h.blk.kp g (hn r (.inl rfl)), h.own.kp g (fun k hk => hn k (.inr hk)), h.ne⟩
theorem Row.lt (h : Row w r l bits) {k : Nat} (hk : RF r l k) : k < w.heap.size := by
  rcases hk with rfl | hk
  · exact h.blk.lt
  · exact h.own.on hk
theorem Row.rd (h : Row w r l bits) : RdW w l (wordsOf bits) := h.own.rdW fun _ hx => wordsOf_lt hx
theorem Row.len (h : Row w r l bits) : l.len = (bits.length + 63) / 64 := by rw [← h.rd.len, length_wordsOf]

theorem new (w : World) : Calls Try.prog 90 #[] w (Rv fun v w' => v = .pointer (some ⟨w.heap.size, 0, none⟩) ∧ Row w' w.heap.size ⟨none, 0, 0⟩ [] ∧ Kp no w w') := by
  refine c90 _ _ ?_
  unfold B90
  exact ⟨rfl, ⟨Blk.new _ _ _, (Ownd.nil _ _ _), On.nil⟩, (Kp.refl _ _).alloc _ _⟩

theorem need (w : World) (n : Nat) (hn : n ≤ 9223372036854775807) : Is 110 #[.int .i64 n] w (.int .i64 (((n + 63) / 64 : Nat) : Int)) := by
  refine c110 _ _ _ ?_
  unfold B110
  refine ⟨by omega, by omega, congrArg _ ?_, rfl⟩
  rw [Int.tdiv_eq_ediv_of_nonneg (by omega), Int.tmod_eq_emod_of_nonneg (by omega), w64 (x := (n : Int) / 64) ⟨by omega, by omega⟩, w64 ⟨by omega, by omega⟩]
  omega

theorem len1 (h : Row w r l bits) : Is 106 #[.pointer (some ⟨r, 0, none⟩)] w (.int .i64 bits.length) := by
  refine c106 _ _ _ ?_
  unfold B106
  exact ⟨_, h.blk.cell 1, rfl, rfl⟩

theorem word1 (h : Row w r l bits) (k : Int) : Is 130 #[.pointer (some ⟨r, 0, none⟩), .int .i64 k] w (.int .u64 ((if 0 ≤ k then wordOf bits k.toNat else 0 : Nat) : Int)) := by
  refine c130 _ _ _ _ ?_
  unfold B130
  have hl := h.len
  refine br_dec (fun h0 => ⟨?_, rfl⟩) (fun h0 => ⟨l, h.blk.cell 0, br_dec (fun h1 => ⟨?_, rfl⟩) (fun h1 => ⟨l, h.blk.cell 0, by omega, by omega, ?_⟩)⟩)
  · rw [if_neg (by omega)]; rfl
  · rw [if_pos (by omega), wordOf_out (by omega)]; rfl
  · obtain ⟨a, ha, hc⟩ := h.rd.at (i := k) (by omega) (by omega)
    refine ⟨a, ha, _, hc, ?_, rfl⟩
    rw [if_pos (by omega), wg_wordsOf]

theorem cut1 (h : Row w r l bits) (hsz : bits.length ≤ 1099511627776) (a b : Int) (ha : -9223372036854775808 ≤ a ∧ a ≤ 9223372036854775807) :
    Is 121 #[.pointer (some ⟨r, 0, none⟩), .int .i64 a, .int .i64 b] w (.int .u64 (cutL bits a (clampW b))) := by
  refine c121 _ _ _ _ _ ?_
  unfold B121
  have z : ∀ {q : Prop}, (q → cutL bits a (clampW b) = 0) → q → (Value.int .u64 0 = Value.int .u64 (cutL bits a (clampW b)) ∧ w = w) := fun h hq => ⟨by rw [h hq]; rfl, rfl⟩
  have hk := clampW_le b
  have hz : (∀ i, i < clampW b → bz bits (a + i) = false) → cutL bits a (clampW b) = 0 := fun h => by
    unfold cutL; rw [ofB_congr (q := fun _ => false) h, ofB_false]
  refine br_dec (z fun h0 => ?_) (fun h0 => ⟨_, h.blk.cell 1, br_dec (z fun h1 => ?_) (fun h1 => br_dec (z fun h2 => ?_) (fun h2 => ?_))⟩)
  · have : clampW b = 0 := by unfold clampW; omega
    rw [this]; rfl
  · exact hz fun i hi => by unfold bz; rw [bg_out (by omega)]; simp
  · exact hz fun i hi => by unfold bz; simp; omega
  have hmin : clampW (min b 64) = clampW b := by unfold clampW; omega
  refine br_dec (fun h3 => ?_) (fun h3 => ?_)
  · obtain ⟨k, rfl⟩ : ∃ k : Nat, a = -(k : Int) := ⟨(-a).toNat, by omega⟩
    have e : IntKind.u64.wrap (IntKind.i64.wrap (0 - -(k : Int))) = (k : Int) := by
      rw [w64 ⟨by omega, by omega⟩, wu64 ⟨by omega, by omega⟩]; omega
    rw [e]
    refine usei (word1 h 0) ⟨_, rfl, by omega, usei (mask w _) ⟨_, rfl, ?_, rfl⟩⟩
    rw [hmin, shl_u64, low _ _ (Nat.mod_lt _ (by omega)) hk]
    congr 2
    refine ofB_of_testBit fun i => ?_
    rw [Nat.testBit_mod_two_pow, show (18446744073709551616 : Nat) = 2 ^ 64 from rfl, Nat.testBit_mod_two_pow, Nat.testBit_shiftLeft, if_pos (by omega)]
    unfold bz
    by_cases hi : i < clampW b
    · simp only [hi, decide_true, Bool.true_and, show i < 64 by omega]
      by_cases h5 : k ≤ i
      · rw [testBit_wordOf _ _ _ (by omega)]
        simp [h5, show (0 : Int) ≤ -(k : Int) + i by omega, show (-(k : Int) + i).toNat = i - k by omega]
      · simp [h5, show ¬ (0 : Int) ≤ -(k : Int) + i by omega]
    · simp [hi]
  · obtain ⟨k, rfl⟩ : ∃ k : Nat, a = (k : Int) := ⟨a.toNat, by omega⟩
    rw [Int.tdiv_eq_ediv_of_nonneg (by omega), Int.tmod_eq_emod_of_nonneg (by omega), w64 (x := (k : Int) / 64) ⟨by omega, by omega⟩, wu64 (x := (k : Int) % 64) ⟨by omega, by omega⟩]
    have hb : ∀ i : Nat, bz bits ((k : Int) + i) = bg bits (k + i) := fun i => by
      unfold bz
      have : ((k : Int) + i).toNat = k + i := by omega
      simp [this, show (0 : Int) ≤ (k : Int) + i by omega]
    refine ⟨by omega, by omega, usei (word1 h _) ⟨_, rfl, by omega, br_dec (fun h4 => ?_) (fun h4 => ?_)⟩⟩
    · rw [w64 (x := (k : Int) / 64 + 1) ⟨by omega, by omega⟩]
      refine usei (word1 h _) ⟨_, rfl, ?_⟩
      have e2 : IntKind.u64.wrap (IntKind.i64.wrap (64 - (k : Int) % 64)) = ((64 - k % 64 : Nat) : Int) := by
        rw [w64 ⟨by omega, by omega⟩, wu64 ⟨by omega, by omega⟩]; omega
      rw [e2]
      refine ⟨by omega, usei (mask w _) ⟨_, rfl, ?_, rfl⟩⟩
      rw [if_pos (by omega), if_pos (by omega), show ((k : Int) / 64).toNat = k / 64 by omega, show ((k : Int) / 64 + 1).toNat = k / 64 + 1 by omega, show (k : Int) % 64 = ((k % 64 : Nat) : Int) by omega,
        shr_u64 (wordOf_lt bits _), shl_u64, or_u64 (shr_lt (wordOf_lt bits _) _) (Nat.mod_lt _ (by omega)), hmin, low _ _ (Nat.or_lt_two_pow (n := 64) (shr_lt (wordOf_lt bits _) _) (Nat.mod_lt _ (by omega))) hk]
      congr 2
      refine ofB_of_testBit fun i => ?_
      rw [Nat.testBit_mod_two_pow, Nat.testBit_or, Nat.testBit_shiftRight, Nat.testBit_mod_two_pow, Nat.testBit_shiftLeft, hb]
      by_cases hi : i < clampW b
      · simp only [hi, decide_true, Bool.true_and, show i < 64 by omega]
        by_cases h5 : k % 64 + i < 64
        · rw [testBit_wordOf _ _ _ h5]
          simp [show ¬ i ≥ 64 - k % 64 by omega, show 64 * (k / 64) + (k % 64 + i) = k + i by omega]
        · rw [tb_lt (wordOf_lt bits _) (by omega), testBit_wordOf _ _ _ (by omega)]
          simp [show i ≥ 64 - k % 64 by omega, show 64 * (k / 64 + 1) + (i - (64 - k % 64)) = k + i by omega]
      · simp [hi]
    · refine usei (mask w _) ⟨_, rfl, ?_, rfl⟩
      rw [if_pos (by omega), show ((k : Int) / 64).toNat = k / 64 by omega, show (k : Int) % 64 = ((k % 64 : Nat) : Int) by omega, shr_u64 (wordOf_lt bits _), hmin, low _ _ (shr_lt (wordOf_lt bits _) _) hk]
      congr 2
      refine ofB_of_testBit fun i => ?_
      rw [Nat.testBit_mod_two_pow, Nat.testBit_shiftRight, hb]
      by_cases hi : i < clampW b
      · rw [testBit_wordOf _ _ _ (by omega), show 64 * (k / 64) + (k % 64 + i) = k + i by omega]
      · simp [hi]

theorem cnt_out {p : Nat → Bool} {m : Nat} (h : ∀ i, m ≤ i → p i = false) : ∀ {n : Nat}, m ≤ n → cnt p n = cnt p m := by
  intro n hn
  obtain ⟨j, rfl⟩ : ∃ j, n = m + j := ⟨n - m, by omega⟩
  have : cnt (fun i => p (m + i)) j = 0 := by rw [cnt_congr (q := fun _ => false) (fun i _ => h _ (by omega)), cnt_false]
  rw [cnt_add, this]; rfl

theorem bg_word (bits : List Bool) (k i : Nat) (hi : i < 64) : (wordOf bits k).testBit i = bg bits (64 * k + i) := testBit_wordOf bits k i hi
theorem cnt_zero {p : Nat → Bool} : ∀ {n : Nat}, cnt p n = 0 → ∀ i, i < n → p i = false
  | 0, _, i, hi => by omega
  | n + 1, h, i, hi => by
    simp only [cnt] at h
    by_cases e : i = n
    · subst e
      by_cases g : p i = true
      · simp [g] at h
      · simpa using g
    · exact cnt_zero (n := n) (by omega) i (by omega)

theorem sel0 {x : Nat} {n : Int} (hx : x < 18446744073709551616) (h0 : x ≠ 0) (h : SelP x 0 n) : ∃ a : Nat, n = a ∧ a < 64 ∧ x.testBit a = true ∧ ∀ i, i < a → x.testBit i = false := by
  rcases h with ⟨_, h | h⟩ | ⟨a, rfl, ha, hb, hc⟩
  · omega
  · have hz : pc x = 0 := by omega
    exfalso
    apply h0
    apply Nat.eq_of_testBit_eq
    intro i
    rw [Nat.zero_testBit]
    by_cases hi : i < 64
    · exact cnt_zero hz i hi
    · exact tb_lt hx (by omega)
  · exact ⟨a, rfl, ha, hb, cnt_zero (by omega)⟩

/-- Both see the same next place. -/
theorem clone (h : RdW w l ws) (hsz : l.len ≤ 1099511627776) : Calls Try.prog 127 #[.slice l.a l.len l.cap] w (Rv fun v w' => ∃ o : Slc, v = .slice o.a o.len o.cap ∧
    Ownd w' o 107 1 (ws.map U) ∧ Kp no w w' ∧ ∀ k, On o k → w.heap.size ≤ k) := by
  refine c127 _ _ _ ?_
  unfold B127
  have hl := h.len
  cases ha : l.a with
  | none =>
    have : ws = [] := by
      cases ws with
      | nil => rfl
      | cons x y => obtain ⟨a, ha', _⟩ := h.rd 0 (by simp); rw [ha] at ha'; cases ha'
    subst this
    exact ⟨⟨none, 0, 0⟩, rfl, (Ownd.nil _ _ _), Kp.refl _ _, fun k hk => absurd hk On.nil⟩
  | some a =>
    obtain ⟨w1, o1, hr, ho1, hl1, hk1, hf1⟩ := append_rd (ty := 106) elU (by omega) (Ownd.empty w 107 1) l (news := ws.map U) (by simp [hl]) (h.rd.kp ((Kp.refl no w).alloc #[] 107) (fun _ _ f => f))
      (fun u hu => by obtain ⟨b, _, rfl⟩ := List.mem_map.1 hu; rfl) (by simp only [maxLen]; omega) (by simp only; omega)
    rw [ha] at hr
    refine ⟨w1, o1, hr, o1, rfl, by simpa using ho1, ((Kp.refl no w).alloc _ _).trans hk1 (fun k hlt hkk => by obtain ⟨a, ha, rfl⟩ := hkk; cases ha; exact absurd hlt (by simp)), fun k hkk => ?_⟩
    rcases hf1 k hkk with g | g
    · obtain ⟨a, ha, rfl⟩ := g; cases ha; exact Nat.le_refl _
    · simp at g; omega

theorem words1 (h : Row w r l bits) (hsz : bits.length ≤ 1099511627776) : Calls Try.prog 113 #[.pointer (some ⟨r, 0, none⟩)] w (Rv fun v w' => ∃ o : Slc, v = .slice o.a o.len o.cap ∧
    Ownd w' o 107 1 ((wordsOf bits).map U) ∧ Kp no w w' ∧ ∀ k, On o k → w.heap.size ≤ k) := by
  refine c113 _ _ _ ?_
  unfold B113
  have hl := h.len
  refine ⟨l, h.blk.cell 0, use (clone h.rd (by omega)) ?_⟩
  rintro _ w' ⟨o, rfl, ho⟩
  exact ⟨o, rfl, o, rfl, ho⟩

end Go.Proofs.Ytmpgklgjmkcpdaa.V

namespace Go.Proofs.Ytmpgklgjmkcpdaa.V
open Go Go.VC

theorem lt_of_bitLen : ∀ (k x : Nat), x < 18446744073709551616 → Lib.bitLen x ≤ k → x < 2 ^ k
  | 0, x, hx, h => by
    by_cases h0 : x = 0
    · subst h0; decide
    · have := Lib.bitLen_half x h0 (by simpa using hx); omega
  | k + 1, x, hx, h => by
    by_cases h0 : x = 0
    · subst h0; exact Nat.two_pow_pos _
    · have h1 := Lib.bitLen_half x h0 (by simpa using hx)
      have := lt_of_bitLen k (x / 2) (by omega) (by omega)
      rw [Nat.pow_succ]; omega

/-- What adding does to the bits, and the number that it answers. -/
def addS (bits : List Bool) (x : Nat) (n : Int) : Int × List Bool :=
  if n < 0 ∨ 64 < n then (1, bits) else if n < Lib.bitLen x then (8, bits) else (0, bits ++ lowb x n.toNat)

/-- A row under way: its words, its number of bits, and what it has left as it was since. -/
structure St (w0 : World) (r : Nat) (l : Slc) (N : Int) (w : World) (o : Slc) (ws : List Nat) : Prop where
  blk : Blk w r [.slice o.a o.len o.cap, .int .i64 N] 127
  own : Ownd w o 107 1 (ws.map U)
  ne : ¬ On o r
  kp : Kp (RF r l) w0 w
  fr : ∀ k, On o k → On l k ∨ w0.heap.size ≤ k
variable {w w' w0 : World} {l o : Slc} {bits : List Bool} {ws : List Nat} {r : Nat} {N : Int}

theorem St.drew (h : St w0 r l N w o ws) : St w0 r l N w.drew o ws := ⟨h.blk.drew, h.own.drew, h.ne, h.kp.drew, h.fr⟩
theorem St.olen (h : St w0 r l N w o ws) : ws.length = o.len := by have := h.own.len; simpa using this
theorem St.push (h : St w0 r l N w o ws) (y : Nat) (hb : ws.length ≤ 1099511627776) :
    ∃ w2 o2, (Builtin.append_ #[106, 106] 106 #[.slice o.a o.len o.cap, .slice (some ⟨w.heap.size, 0, none⟩) 1 1]).run Try.prog (w.alloc (.cells #[U y] 107)) = .ok (.slice o2.a o2.len o2.cap) w2 ∧
      (∃ u, w2.cell? (Addr.add ⟨r, 0, none⟩ 0) = some u) ∧ w2.frozen? (Addr.add ⟨r, 0, none⟩ 0) = false ∧ o2.len = o.len + 1 ∧
      St w0 r l N (w2.setCell (Addr.add ⟨r, 0, none⟩ 0) (.slice o2.a o2.len o2.cap)) o2 (ws ++ [y]) := by
  have hol := h.olen
  obtain ⟨w2, o2, hr2, ho2, hl2, hk2, hf2⟩ := append_one (ty := 106) elU h.own (U y) rfl (by simp only [maxLen]; omega) (by omega)
  have hb2 : Blk w2 r [.slice o.a o.len o.cap, .int .i64 N] 127 := h.blk.kp hk2 h.ne
  have hrl := h.blk.lt
  have hne : ¬ On o2 r := fun hk => by
    rcases hf2 r hk with g | g
    · exact h.ne g
    · omega
  refine ⟨w2, o2, hr2, ⟨_, hb2.cell 0⟩, hb2.frozen 0, hl2, ⟨hb2.set 0 _, ?_, hne, ?_, fun k hk => ?_⟩⟩
  · rw [map_snoc] at ho2
    exact ho2.set_other _ _ (by rw [add_block]; exact hne)
  · refine (h.kp.trans hk2 (fun k hk hkk => ?_)).set _ _ (fun _ => .inl (by rw [add_block]))
    rcases h.fr k hkk with g | g
    · exact .inr g
    · omega
  · have := h.kp.size
    rcases hf2 k hk with g | g
    · exact h.fr k g
    · exact .inr (by omega)

/-- The length of the slice in a row's first cell. -/
def len0 (r : Nat) (w : World) : Nat := match w.cell? (Addr.add ⟨r, 0, none⟩ 0) with
  | some (.slice _ n _) => n
  | _ => 0
theorem St.len0 (h : St w0 r l N w o ws) : len0 r w = o.len := by
  unfold V.len0
  rw [h.blk.cell 0]; rfl

theorem add1 (h : Row w r l bits) (hsz : bits.length ≤ 549755813888) (x : Nat) (hx : x < 18446744073709551616) (n : Int) :
    Calls Try.prog 93 #[.pointer (some ⟨r, 0, none⟩), .int .u64 x, .int .i64 n] w (Rv fun v w' => ∃ o, v = .int .i64 (addS bits x n).1 ∧ Row w' r o (addS bits x n).2 ∧
      Kp (RF r l) w w' ∧ ∀ k, On o k → On l k ∨ w.heap.size ≤ k) := by
  refine c93 _ _ _ _ _ ?_
  unfold B93
  have hl := h.len
  have hwl := length_wordsOf bits
  have keep : ∀ (c : Int), addS bits x n = (c, bits) → ∃ o, Value.int .i64 c = .int .i64 (addS bits x n).1 ∧ Row w r o (addS bits x n).2 ∧ Kp (RF r l) w w ∧ ∀ k, On o k → On l k ∨ w.heap.size ≤ k := fun c hc => by
    rw [hc]; exact ⟨l, rfl, h, Kp.refl _ _, fun k hk => .inl hk⟩
  refine br_dec (fun h0 => keep 1 ?_) (fun h0 => br_dec (fun h1 => keep 1 ?_) (fun h1 => usei (width w x hx) ⟨_, rfl, br_dec (fun h2 => keep 8 ?_) (fun h2 => ?_)⟩))
  · unfold addS; rw [if_pos (.inl h0)]
  · unfold addS; rw [if_pos (.inr h1)]
  · unfold addS; rw [if_neg (by omega), if_pos (by omega)]
  obtain ⟨m, rfl⟩ : ∃ m : Nat, n = m := ⟨n.toNat, by omega⟩
  have hS : addS bits x m = (0, bits ++ lowb x m) := by unfold addS; rw [if_neg (by omega), if_neg (by omega)]; rfl
  rw [hS]
  have hx2 : x < 2 ^ m := lt_of_bitLen m x hx (by omega)
  have hlen2 : (bits ++ lowb x m).length = bits.length + m := by simp [lowb]
  refine ⟨_, h.blk.cell 1, by omega, _, h.blk.cell 1, ⟨_, h.blk.cell 1⟩, h.blk.frozen 1, ?_⟩
  rw [Int.tmod_eq_emod_of_nonneg (by omega), w64 (x := (bits.length : Int) + m) ⟨by omega, by omega⟩]
  have hrl := h.blk.lt
  have st0 : St w r l ((bits.length : Int) + m) (w.setCell (Addr.add ⟨r, 0, none⟩ 1) (.int .i64 ((bits.length : Int) + m))) l (wordsOf bits) :=
    ⟨h.blk.set 1 _, h.own.set_other _ _ (by rw [add_block]; exact h.ne), h.ne, (Kp.refl _ _).set _ _ (fun _ => .inl (by rw [add_block])), fun k hk => .inl hk⟩
  generalize w.setCell (Addr.add ⟨r, 0, none⟩ 1) (.int .i64 ((bits.length : Int) + m)) = w1 at *
  have fin : ∀ {w3 : World} {o : Slc}, St w r l ((bits.length : Int) + m) w3 o (wordsOf (bits ++ lowb x m)) → ∃ o, Value.int .i64 0 = .int .i64 0 ∧ Row w3 r o (bits ++ lowb x m) ∧ Kp (RF r l) w w3 ∧ ∀ k, On o k → On l k ∨ w.heap.size ≤ k :=
    fun {w3 o} s => ⟨o, rfl, ⟨by have := s.blk; rw [hlen2]; rw [Int.natCast_add]; exact this, s.own, s.ne⟩, s.kp, s.fr⟩
  have hcast : ((bits.length : Int) + m) = ((bits.length + m : Nat) : Int) := by omega
  refine br_dec (fun h3 => ?_) (fun h3 => ?_)
  · have st1 := st0.drew
    generalize w1.drew = w2 at *
    have hl0 : 0 < (wordsOf bits).length := by omega
    have hi : (wordsOf bits).length - 1 < ((wordsOf bits).map U).length := by rw [List.length_map]; omega
    obtain ⟨a, ha, hc, hfz, hset⟩ := st1.own.at hi
    have hw1 : IntKind.i64.wrap ((l.len : Int) - 1) = (((wordsOf bits).length - 1 : Nat) : Int) := by rw [w64 ⟨by omega, by omega⟩]; omega
    have hv : ((wordsOf bits).map U)[(wordsOf bits).length - 1] = U (wordOf bits ((wordsOf bits).length - 1)) := by
      have := wordsOf_at (l := bits) (k := (wordsOf bits).length - 1) (by omega)
      rw [List.getElem?_eq_getElem (by omega)] at this
      rw [List.getElem_map, Option.some.inj this]
    rw [hv] at hc
    have hat : IntKind.u64.wrap ((bits.length : Int) % 64) = ((bits.length % 64 : Nat) : Int) := by rw [wu64 ⟨by omega, by omega⟩]; omega
    have st2 : St w r l ((bits.length : Int) + m) (w2.setCell (Addr.add a ((wordsOf bits).length - 1)) (U (wordOf bits ((wordsOf bits).length - 1) ||| ((x <<< (bits.length % 64)) % 18446744073709551616)))) l (orLast bits x) := by
      refine ⟨st1.blk.set_other _ _ ?_, ?_, h.ne, st1.kp.set _ _ (fun _ => .inr ⟨a, ha, by rw [add_block]⟩), st1.fr⟩
      · rw [add_block]; exact fun e => h.ne ⟨a, ha, e.symm⟩
      · have := hset (U (wordOf bits ((wordsOf bits).length - 1) ||| ((x <<< (bits.length % 64)) % 18446744073709551616)))
        rw [← List.map_set] at this
        exact this
    refine ⟨l, st1.blk.cell 0, l, st1.blk.cell 0, ?_⟩
    rw [hw1, Int.toNat_natCast, Nat.mul_one]
    refine ⟨by omega, by omega, a, ha, _, hc, by omega, by omega, by omega, a, ha, ⟨_, hc⟩, hfz, ?_⟩
    rw [hat, shl_u64, or_u64 (wordOf_lt _ _) (Nat.mod_lt _ (by omega))]
    refine ⟨fun w3 => ∃ o ws, St w r l ((bits.length : Int) + m) w3 o ws ∧ (ws = orLast bits x ∨ ws = wordsOf (bits ++ lowb x m)), fun w3 => (bits.length + m + 63) / 64 - len0 r w3, ⟨l, _, st2, .inl rfl⟩, ?_⟩
    rintro w3 ⟨o, ws, s, hws⟩
    have ss := s.drew
    have hol := s.olen
    have hln := s.len0
    refine ⟨o, ss.blk.cell 0, _, ss.blk.cell 1, ?_⟩
    rw [hcast]
    refine usei (need _ _ (by omega)) ⟨_, rfl, ss.blk.cell 0, br_dec (fun h4 => ?_) (fun h4 => ?_)⟩
    · have hws1 : ws = orLast bits x := by
        rcases hws with rfl | rfl
        · rfl
        · rw [length_wordsOf, hlen2] at hol; omega
      subst hws1
      have hol1 : (orLast bits x).length = (wordsOf bits).length := by simp [orLast]
      refine br_dec (fun h5 => ⟨o, ss.blk.cell 0, ?_⟩) (fun h5 => absurd h3 h5)
      have e2 : IntKind.u64.wrap (IntKind.i64.wrap (64 - (bits.length : Int) % 64)) = ((64 - bits.length % 64 : Nat) : Int) := by
        rw [w64 ⟨by omega, by omega⟩, wu64 ⟨by omega, by omega⟩]; omega
      rw [e2, shr_u64 hx]
      obtain ⟨w4, o4, hr4, hu4, hf4, hl4, s4⟩ := ss.push (x >>> (64 - bits.length % 64)) (by omega)
      rw [add_over hx2 hx (by omega) (by omega) (by omega)] at s4
      refine ⟨by omega, w4, o4, hr4, hu4, hf4, ⟨o4, _, by rw [← hcast]; exact s4, .inr rfl⟩, ?_⟩
      dsimp only
      rw [s4.len0, hln]
      omega
    · rcases hws with rfl | rfl
      · have hol1 : (orLast bits x).length = (wordsOf bits).length := by simp [orLast]
        rw [add_in hx2 (by omega) (by omega)] at ss
        exact fin ss
      · exact fin ss
  · refine ⟨fun w3 => ∃ o ws, St w r l ((bits.length : Int) + m) w3 o ws ∧ ((ws = wordsOf bits) ∨ ws = wordsOf (bits ++ lowb x m)), fun w3 => (bits.length + m + 63) / 64 - len0 r w3, ⟨l, _, st0, .inl rfl⟩, ?_⟩
    rintro w3 ⟨o, ws, s, hws⟩
    have ss := s.drew
    have hol := s.olen
    have hln := s.len0
    refine ⟨o, ss.blk.cell 0, _, ss.blk.cell 1, ?_⟩
    rw [hcast]
    refine usei (need _ _ (by omega)) ⟨_, rfl, ss.blk.cell 0, br_dec (fun h4 => ?_) (fun h4 => ?_)⟩
    · have hws1 : ws = wordsOf bits := by
        rcases hws with rfl | rfl
        · rfl
        · rw [length_wordsOf, hlen2] at hol; omega
      subst hws1
      refine br_dec (fun h5 => absurd h5 h3) (fun h5 => ⟨o, ss.blk.cell 0, ?_⟩)
      obtain ⟨w4, o4, hr4, hu4, hf4, hl4, s4⟩ := ss.push x (by omega)
      rw [add_new hx2 hx (by omega) (by omega) (by omega)] at s4
      refine ⟨w4, o4, hr4, hu4, hf4, ⟨o4, _, by rw [← hcast]; exact s4, .inr rfl⟩, ?_⟩
      dsimp only
      rw [s4.len0, hln]
      omega
    · rcases hws with rfl | rfl
      · have hm : m = 0 := by omega
        subst hm
        have e : bits ++ lowb x 0 = bits := by simp [lowb]
        rw [e] at fin ⊢
        exact fin ss
      · exact fin ss
end Go.Proofs.Ytmpgklgjmkcpdaa.V

namespace Go.Proofs.Ytmpgklgjmkcpdaa.V
open Go Go.VC
variable {w w' w0 : World} {l o : Slc} {bits : List Bool} {ws : List Nat} {r : Nat}

/-- Parts that can be read. -/
structure RdP (w : World) (l : Slc) (ps : List (Nat × Int)) : Prop where
  len : ps.length = l.len
  cel : ∀ i (hi : i < ps.length), ∃ b, l.a = some b ∧ w.cell? (Addr.add (Addr.add b (i * 2)) 0) = some (U ps[i].1) ∧ w.cell? (Addr.add (Addr.add b (i * 2)) 1) = some (.int .i64 ps[i].2)
  lt : ∀ p ∈ ps, p.1 < 18446744073709551616
theorem RdP.kp {ps : List (Nat × Int)} (h : RdP w l ps) (g : Kp no w w') : RdP w' l ps := ⟨h.len, fun i hi => by
  obtain ⟨b, hb, h0, h1⟩ := h.cel i hi
  have e : w'.heap[b.block]? = w.heap[b.block]? := g.keep _ (by have := cell_lt h0; simpa [add_block] using this) id
  exact ⟨b, hb, by rw [World.cell?_of_block (w := w) (by simpa [add_block] using e), h0], by rw [World.cell?_of_block (w := w) (by simpa [add_block] using e), h1]⟩, h.lt⟩

theorem rdP_of {a : Option Addr} {len cap : Nat} {zs : List (Int × Int)} (h : IsPairs .u64 .i64 w a len zs) : RdP w ⟨a, len, cap⟩ (zs.map fun z => (z.1.toNat, z.2)) := by
  have b : ∀ i (hi : i < zs.length), 0 ≤ zs[i].1 ∧ zs[i].1 ≤ 18446744073709551615 := fun i hi => Go.bounds_u64 (h.2.2 i hi).2.1
  refine ⟨by simpa using h.1, fun i hi => ?_, fun p hp => ?_⟩
  · rw [List.length_map] at hi
    obtain ⟨⟨c, hc, h0, h1⟩, _⟩ := h.2.2 i hi
    have := b i hi
    refine ⟨c, hc, ?_, by simpa using h1⟩
    rw [h0, List.getElem_map]
    congr 2
    simp only; omega
  · obtain ⟨z, hz, rfl⟩ := List.mem_map.1 hp
    obtain ⟨i, hi, rfl⟩ := List.getElem_of_mem hz
    have := b i hi
    simp only; omega

/-- The bits of a list of parts. -/
def bitsOf : List (Nat × Int) → List Bool → List Bool
  | [], b => b
  | p :: ps, b => bitsOf ps (addS b p.1 p.2).2
theorem bitsOf_snoc (ps : List (Nat × Int)) (p : Nat × Int) : ∀ b, bitsOf (ps ++ [p]) b = (addS (bitsOf ps b) p.1 p.2).2 := by
  induction ps with
  | nil => intro b; rfl
  | cons q ps ih => intro b; exact ih _
theorem addS_len (b : List Bool) (x : Nat) (n : Int) : (addS b x n).2.length ≤ b.length + 64 := by
  unfold addS
  split
  · simp
  · split
    · simp
    · simp [lowb]; omega
theorem bitsOf_len (ps : List (Nat × Int)) : ∀ b, (bitsOf ps b).length ≤ b.length + 64 * ps.length := by
  induction ps with
  | nil => intro b; simp [bitsOf]
  | cons q ps ih => intro b; have := ih (addS b q.1 q.2).2; have := addS_len b q.1 q.2; simp only [bitsOf, List.length_cons]; omega

end Go.Proofs.Ytmpgklgjmkcpdaa.V

namespace Go.Proofs.Ytmpgklgjmkcpdaa.V
open Go Go.VC
variable {w w' w0 : World} {l o : Slc} {bits : List Bool} {ws : List Nat} {r : Nat}

theorem nAdd (w : World) (x n : Int) : Is 93 #[.pointer none, .int .u64 x, .int .i64 n] w (.int .i64 11) := c93n _ _ _ _ ⟨rfl, rfl⟩
theorem nLen (w : World) : Is 106 #[.pointer none] w (.int .i64 0) := c106n _ _ ⟨rfl, rfl⟩
theorem nCut (w : World) (i n : Int) : Is 121 #[.pointer none, .int .i64 i, .int .i64 n] w (.int .u64 0) := c121n _ _ _ _ ⟨rfl, rfl⟩
theorem nWords (w : World) : Is 113 #[.pointer none] w (.slice none 0 0) := c113n _ _ ⟨rfl, rfl⟩
/-- So many bits of a list of words. -/
def bitsW (ws : List Nat) (n : Nat) : List Bool := (List.range n).map (wbit ws)
theorem bitsW_len (ws : List Nat) (n : Nat) : (bitsW ws n).length = n := by simp [bitsW]
theorem bg_bitsW (ws : List Nat) (n i : Nat) (hi : i < n) : bg (bitsW ws n) i = wbit ws i := by
  unfold bg bitsW; simp [hi]
theorem good_iff {n : Nat} (hlt : ∀ x ∈ ws, x < 18446744073709551616) (hl : (n + 63) / 64 = ws.length) : wordsOf (bitsW ws n) = ws ↔ (n % 64 = 0 ∨ wg ws (ws.length - 1) >>> (n % 64) = 0) := by
  have hbl := bitsW_len ws n
  constructor
  · intro h
    by_cases h0 : n % 64 = 0
    · exact .inl h0
    · right
      have e : wg ws (ws.length - 1) = wordOf (bitsW ws n) (ws.length - 1) := by rw [← wg_wordsOf, h]
      rw [e]
      apply Nat.eq_of_testBit_eq
      intro i
      rw [Nat.testBit_shiftRight, Nat.zero_testBit]
      by_cases hi : n % 64 + i < 64
      · rw [testBit_wordOf _ _ _ hi, bg_out (by omega)]
      · exact tb_lt (wordOf_lt _ _) (by omega)
  · intro h
    symm
    refine eq_wordsOf (by omega) (fun k => wg_lt hlt k) (fun i hi => ?_)
    by_cases hin : i < n
    · rw [bg_bitsW _ _ _ hin]
    · rw [bg_out (by omega)]
      rcases h with h | h
      · omega
      · have := congrArg (fun x => Nat.testBit x (i % 64 - n % 64)) h
        simp only [Nat.testBit_shiftRight, Nat.zero_testBit] at this
        unfold wbit
        rw [show i / 64 = ws.length - 1 by omega]
        rw [show n % 64 + (i % 64 - n % 64) = i % 64 by omega] at this
        exact this

theorem rdW_of {a : Option Addr} {len cap : Nat} {zs : List Int} (h : (a = none ∧ len = 0 ∧ cap = 0 ∧ zs = []) ∨
    ∃ x, a = some x ∧ len ≤ cap ∧ cap ≤ maxLen ∧ zs.length = cap ∧ (∀ i, i < zs.length → w.cell? (x.add i) = some (.int .u64 (zs.getD i 0))) ∧ ∀ n ∈ zs, (Lit.int .u64 n).wf = true) :
    RdW w ⟨a, len, cap⟩ ((zs.take len).map Int.toNat) := by
  rcases h with ⟨rfl, rfl, rfl, rfl⟩ | ⟨x, rfl, hlc, hcm, hzl, hcell, hwf⟩
  · exact ⟨rfl, Rd.nil _ _, fun x hx => by simp at hx⟩
  · have b : ∀ n ∈ zs, 0 ≤ n ∧ n ≤ 18446744073709551615 := fun n hn => Go.bounds_u64 (hwf n hn)
    refine ⟨by simp; omega, fun i hi => ⟨x, rfl, ?_⟩, fun y hy => ?_⟩
    · have hi2 : i < len := by simp at hi; omega
      rw [hcell i (by omega)]
      rw [List.getElem?_map, List.getElem?_map, List.getElem?_take, if_pos hi2, List.getElem?_eq_getElem (by omega)]
      have := b zs[i] (List.getElem_mem _)
      have e : zs.getD i 0 = zs[i] := by simp [List.getD, show i < zs.length by omega]
      rw [e]
      simp only [Option.map_some]
      congr 2
      omega
    · obtain ⟨z, hz, rfl⟩ := List.mem_map.1 hy
      have := b z (List.mem_of_mem_take hz)
      omega
end Go.Proofs.Ytmpgklgjmkcpdaa.V

namespace Go.VC
open Go Go.ChangeShapes Go.WideShapes Go.Joins Go.Deep
/-- A slice of ints that can be read. -/
structure RdZ (w : World) (l : Slc) (zs : List Int) : Prop where
  len : zs.length = l.len
  rd : Rd w l (zs.map (Value.int .i64))
  lo : ∀ z ∈ zs, -9223372036854775808 ≤ z ∧ z ≤ 9223372036854775807
variable {H : Type} {enc : TypeId × Value → H} {P : Program} {w : World} {r : Reach} {b0 : Nat} {t e : TypeId} {v : Value} {d : DataW H} {p : List MemPlace}

theorem open_zs {k : IntKind} {fuel : Nat} {a : Option Addr} {len cap : Nat} {x : DataW H × List MemPlace} (ht : P.underlying t = some (.slice e)) (he : P.underlying e = some (.int k)) (hc : P.cellsOf e = 1)
    (h : DataW.trod enc P w 0 (fun _ => true) true fuel t [.slice a len cap] = some x) :
    ∃ zs : List Int, zs.length = len ∧ Rd w ⟨a, len, cap⟩ (zs.map (Value.int k)) ∧ (∀ z ∈ zs, (Lit.int k z).wf = true) ∧ len ≤ maxLen := by
  rcases open_ints ht he hc h with ⟨hcs, _⟩ | ⟨x, l, c, zs, hcs, _, hl, hm, hz, _, hcell, hwz⟩
  · simp at hcs
    obtain ⟨rfl, rfl, rfl⟩ := hcs
    exact ⟨[], rfl, Rd.nil _ _, by simp, Nat.zero_le _⟩
  · simp at hcs
    obtain ⟨rfl, rfl, rfl⟩ := hcs
    have hz : zs.length = cap := by simpa using hz
    refine ⟨zs.take len, by simp; omega, fun i hi => ⟨x, rfl, ?_⟩, fun z hzz => hwz z (List.mem_of_mem_take hzz), by omega⟩
    have hi2 : i < len := by simp at hi; omega
    rw [hcell i (by omega)]
    rw [List.getElem?_map, List.getElem?_take, if_pos hi2, List.getElem?_eq_getElem (by omega)]
    have e : zs.getD i 0 = zs[i] := by simp [List.getD, show i < zs.length by omega]
    rw [e]; rfl
theorem ws_of {l : Slc} {zs : List Int} (hl : zs.length = l.len) (h : Rd w l (zs.map (Value.int .u64))) (hw : ∀ z ∈ zs, (Lit.int .u64 z).wf = true) : RdW w l (zs.map Int.toNat) := by
  have b : ∀ n ∈ zs, 0 ≤ n ∧ n ≤ 18446744073709551615 := fun n hn => Go.bounds_u64 (hw n hn)
  refine ⟨by simpa using hl, ?_, fun y hy => ?_⟩
  · have : (zs.map Int.toNat).map U = zs.map (Value.int .u64) := by
      rw [List.map_map]
      apply List.map_congr_left
      intro z hz
      have := b z hz
      show Value.int .u64 ((z.toNat : Nat) : Int) = _
      rw [show ((z.toNat : Nat) : Int) = z by omega]
    rw [this]; exact h
  · obtain ⟨z, hz, rfl⟩ := List.mem_map.1 hy
    have := b z hz; omega

theorem open_wsl (ht : P.underlying t = some (.slice e)) (he : P.underlying e = some (.int .u64)) (hc : P.cellsOf e = 1) (hv : Value.okWide P w r b0 t v) (h : DataW.Trod enc P w 0 (fun _ => true) true t v d p) :
    ∃ (l : Slc) (ws : List Nat), v = .slice l.a l.len l.cap ∧ RdW w l ws ∧ l.len ≤ maxLen := by
  obtain ⟨a, len, cap, rfl⟩ := okWide_slice ht hv
  obtain ⟨fuel, hf⟩ := h
  obtain ⟨zs, hl, hr, hw, hm⟩ := open_zs ht he hc hf
  exact ⟨⟨a, len, cap⟩, _, rfl, ws_of hl hr hw, hm⟩
theorem open_zsl (ht : P.underlying t = some (.slice e)) (he : P.underlying e = some (.int .i64)) (hc : P.cellsOf e = 1) (hv : Value.okWide P w r b0 t v) (h : DataW.Trod enc P w 0 (fun _ => true) true t v d p) :
    ∃ (l : Slc) (zs : List Int), v = .slice l.a l.len l.cap ∧ RdZ w l zs ∧ l.len ≤ maxLen := by
  obtain ⟨a, len, cap, rfl⟩ := okWide_slice ht hv
  obtain ⟨fuel, hf⟩ := h
  obtain ⟨zs, hl, hr, hw, hm⟩ := open_zs ht he hc hf
  exact ⟨⟨a, len, cap⟩, zs, rfl, ⟨hl, hr, fun z hz => Go.bounds_i64 (hw z hz)⟩, hm⟩
end Go.VC

namespace Go.VC
open Go
/-- 'make' of a slice of elements of one cell: it is owned and holds zeros. -/
theorem make_own {P : Program} {t e : TypeId} {z : Value} {bytes : Nat} (ht : P.underlying t = some (.slice e)) (hz : (P.info? e).bind (·.zero) = some z) (hs : (P.info? e).map (fun i => (i.size, i.bytes)) = some (1, bytes)) (hzc : z.cells = #[z])
    (w : World) (n : Nat) (hn : bytes * n ≤ 281474976710656) (h63 : n ≤ 9223372036854775807) :
    ∃ w' l, (Instr.makeSlice t (.int .i64 (n : Int)) (.int .i64 (n : Int))).run P w = .ok (.slice l.a l.len l.cap) w' ∧ l.len = n ∧ Ownd w' l e 1 (List.replicate n z) ∧ Kp no w w' ∧ ∀ k, On l k → k = w.heap.size := by
  cases hi : P.info? e with
  | none => rw [hi] at hs; cases hs
  | some i =>
    rw [hi] at hz hs
    simp only [Option.bind_some, Option.map_some, Option.some.injEq, Prod.mk.injEq] at hz hs
    have hr := run_make (P := P) w t e i z ht hi hz .i64 .i64 (n : Int) (n : Int) (by omega) (Int.le_refl _) (by rw [hs.2]; omega) (by omega)
    simp only [Int.toNat_natCast, hs.1, Nat.mul_one, hzc] at hr
    have hm : (madeCells #[z] n).toList = List.replicate n z := by
      apply List.ext_getElem
      · simp [madeCells]
      · intro k h1 h2
        simp [madeCells]
        have : k % 1 = 0 := Nat.mod_one k
        simp [this]
    refine ⟨_, ⟨some ⟨w.heap.size, 0, none⟩, n, n⟩, hr, rfl, Ownd.mk' (cur := (madeCells #[z] n).toList) rfl ?_ (Nat.le_refl _) (by simpa [maxLen] using h63) ?_ ?_, (Kp.refl _ _).alloc _ _, fun k hk => ?_⟩
    · unfold Blk
      rw [Array.toArray_toList]
      exact heap_alloc_new w _
    · rw [hm]; simp
    · rw [hm]; simp
    · obtain ⟨b, hb, rfl⟩ := hk; cases hb; rfl
end Go.VC
