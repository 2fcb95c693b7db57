/- The laws of the row chapter: rows that are the same, rows from words. -/
import Derived.Test.YtlobkadfmgnlmaaRz
namespace Go.Proofs.Ytlobkadfmgnlmaa.V
open Go Go.VC
variable {w w' w0 : World} {l o : Slc} {bits : List Bool} {ws : List Nat} {r : Nat}

theorem nAdd (w : World) (x n : Int) : Is 57 #[.pointer none, .int .u64 x, .int .i64 n] w (.int .i64 11) := c57n _ _ _ _ ⟨rfl, rfl⟩
theorem nLen (w : World) : Is 52 #[.pointer none] w (.int .i64 0) := c52n _ _ ⟨rfl, rfl⟩
theorem nBit (w : World) (i : Int) : Is 44 #[.pointer none, .int .i64 i] w (.bool false) := c44n _ _ _ ⟨rfl, rfl⟩
theorem nCut (w : World) (i n : Int) : Is 46 #[.pointer none, .int .i64 i, .int .i64 n] w (.int .u64 0) := c46n _ _ _ _ ⟨rfl, rfl⟩
theorem nOnes (w : World) : Is 48 #[.pointer none] w (.int .i64 0) := c48n _ _ ⟨rfl, rfl⟩
theorem nNext (w : World) (i : Int) : Is 50 #[.pointer none, .int .i64 i] w (.int .i64 (-1)) := c50n _ _ _ ⟨rfl, rfl⟩
theorem nWords (w : World) : Is 54 #[.pointer none] w (.slice none 0 0) := c54n _ _ ⟨rfl, rfl⟩
theorem sameN (h : Row w r l bits) : Is 56 #[.pointer none, .pointer (some ⟨r, 0, none⟩)] w (.bool (decide (bits.length = 0))) := by
  refine c56n _ _ _ ?_
  unfold B56n
  refine usei (nLen w) ⟨_, rfl, usei (len1 h) ⟨_, rfl, br_not (br_dec (fun h1 => usei (nLen w) ⟨_, rfl, br_dec (fun h2 => usei (nLen w) ⟨_, rfl, usei (len1 h) ⟨_, rfl, ?_, rfl⟩⟩) (fun h2 => absurd rfl h2)⟩) (fun h1 => usei (nLen w) ⟨_, rfl, usei (len1 h) ⟨_, rfl, ?_, rfl⟩⟩))⟩⟩ <;>
  · congr 1; rw [decide_eq_decide]; omega
theorem sameN' (h : Row w r l bits) : Is 56 #[.pointer (some ⟨r, 0, none⟩), .pointer none] w (.bool (decide (bits.length = 0))) := by
  refine c56n1 _ _ _ ?_
  unfold B56n1
  refine usei (len1 h) ⟨_, rfl, usei (nLen w) ⟨_, rfl, br_not (br_dec (fun h1 => usei (len1 h) ⟨_, rfl, br_dec (fun h2 => usei (len1 h) ⟨_, rfl, usei (nLen w) ⟨_, rfl, ?_, rfl⟩⟩) (fun h2 => absurd h1 h2)⟩) (fun h1 => usei (len1 h) ⟨_, rfl, usei (nLen w) ⟨_, rfl, ?_, rfl⟩⟩))⟩⟩ <;>
  · congr 1; rw [decide_eq_decide]; omega

theorem rowSame {l2 : Slc} {ps qs : List (Nat × Int)} (h : RdP w l ps) (g : RdP w l2 qs) (i : Int) : IsK 12 #[.slice l.a l.len l.cap, .slice l2.a l2.len l2.cap, .int .i64 i] w (.bool true) := by
  refine c12 _ _ _ _ _ ?_
  unfold B12
  have hl := h.len
  have gl := g.len
  refine br_dec (fun _ => usek (live2 w) fun w' hk => ⟨_, rfl, rfl, hk⟩) (fun h0 => br_dec (fun _ => usek (live2 w) fun w' hk => ⟨_, rfl, rfl, hk⟩) (fun g0 => ?_))
  refine use (built h (by omega)) ?_
  rintro _ w1 ⟨r1, rl1, o1, rfl, hR, hO, hK, hF, hG⟩
  refine ⟨_, o1, _, rfl, use (built (g.kp hK) (by omega)) ?_⟩
  rintro _ w2 ⟨r2, rl2, o2, rfl, hR2, hO2, hK2, hF2, hG2⟩
  refine ⟨_, o2, _, rfl, ?_⟩
  have hR1 := hR.kp hK2 (fun _ _ f => f)
  have hB1 := (hO.kp hK2 (fun _ _ f => f)).rdB
  have hB2 := hO2.rdB
  have l1 := hB1.len
  have l2 := hB2.len
  have b1 := bitsOf_len ps []
  have b2 := bitsOf_len qs []
  simp only [List.length_nil] at b1 b2
  have hKK := hK.trans hK2 (fun _ _ f => f)
  clear hR hO hF hG hF2 hG2
  have lt1 : ∀ x ∈ wordsOf (bitsOf ps []), x < 18446744073709551616 := fun _ hx => wordsOf_lt hx
  have lt2 : ∀ x ∈ wordsOf (bitsOf qs []), x < 18446744073709551616 := fun _ hx => wordsOf_lt hx
  generalize bitsOf ps [] = p at *
  generalize bitsOf qs [] = q at *
  refine br_dec (fun e => ?_) (fun e => ?_)
  · refine use (words2 hB1 (by omega)) ?_
    rintro _ w3 ⟨o3, rfl, hO3, hK3, hF3⟩
    refine ⟨o3, rfl, use (words2 (hB2.kp hK3 (fun _ _ f => f)) (by omega)) ?_⟩
    rintro _ w4 ⟨o4, rfl, hO4, hK4, hF4⟩
    have h3 := (hO3.kp hK4 (fun _ _ f => f)).rdW lt1
    have hln := h3.len
    rw [length_wordsOf] at hln
    refine ⟨o4, rfl, use (same2 h3 (hO4.rdW lt2) (by omega)) ?_⟩
    rintro _ w5 ⟨rfl, hK5⟩
    refine ⟨_, rfl, ?_⟩
    have hk25 : Kp no w2 w5 := (hK3.trans hK4 (fun _ _ f => f)).trans hK5 (fun _ _ f => f)
    replace hR1 := hR1.kp hk25 (fun _ _ f => f)
    replace hR2 := hR2.kp hk25 (fun _ _ f => f)
    have hKK5 := hKK.trans hk25 (fun _ _ f => f)
    have ee : p.length = q.length := by omega
    refine use (same1 hR1 hR2 (by omega)) ?_
    rintro _ wA ⟨rfl, kA⟩
    refine ⟨_, rfl, br_not (br_of (fun _ => ?_) (fun hh => absurd hh (by simp [ee])))⟩
    have hRA := hR1.kp kA (fun _ _ f => f)
    have hRB := hR2.kp kA (fun _ _ f => f)
    refine usei (sameN hRA) ⟨_, rfl, br_not (br_of (fun _ => ?_) (fun hh => absurd hh (by rw [show (decide (p.length = 0)) = decide ((o1.len : Int) = 0) by rw [decide_eq_decide]; omega]; simp)))⟩
    refine usei (sameN' hRB) ⟨_, rfl, br_not (br_of (fun _ => ?_) (fun hh => absurd hh (by rw [show (decide (q.length = 0)) = decide ((o2.len : Int) = 0) by rw [decide_eq_decide]; omega]; simp)))⟩
    refine usei (nAdd _ 0 0) ⟨_, rfl, br_dec (fun _ => ?_) (fun h => absurd rfl h)⟩
    refine usei (nLen _) ⟨_, rfl, br_dec (fun _ => ?_) (fun h => absurd rfl h)⟩
    refine usei (nBit _ i) ⟨_, rfl, br_not (br_of (fun h => absurd h (by simp)) (fun _ => ?_))⟩
    refine usei (nCut _ i 64) ⟨_, rfl, br_dec (fun _ => ?_) (fun h => absurd rfl h)⟩
    refine usei (nOnes _) ⟨_, rfl, br_dec (fun _ => ?_) (fun h => absurd rfl h)⟩
    refine usei (nNext _ i) ⟨_, rfl, br_dec (fun _ => ?_) (fun h => absurd rfl h)⟩
    refine usei (nWords _) ⟨⟨none, 0, 0⟩, rfl, br_dec (fun _ => ?_) (fun h => absurd rfl h)⟩
    exact usek (live2 _) fun w5 hK5 => ⟨_, rfl, rfl, (hKK5.trans kA (fun _ _ f => f)).trans hK5 (fun _ _ f => f)⟩
  · have ee : ¬ p.length = q.length := by omega
    refine use (same1 hR1 hR2 (by omega)) ?_
    rintro _ wA ⟨rfl, kA⟩
    refine ⟨_, rfl, br_not (br_of (fun _ => ?_) (fun hh => absurd hh (by simp [ee])))⟩
    have hRA := hR1.kp kA (fun _ _ f => f)
    have hRB := hR2.kp kA (fun _ _ f => f)
    refine usei (sameN hRA) ⟨_, rfl, br_not (br_of (fun _ => ?_) (fun hh => absurd hh (by rw [show (decide (p.length = 0)) = decide ((o1.len : Int) = 0) by rw [decide_eq_decide]; omega]; simp)))⟩
    refine usei (sameN' hRB) ⟨_, rfl, br_not (br_of (fun _ => ?_) (fun hh => absurd hh (by rw [show (decide (q.length = 0)) = decide ((o2.len : Int) = 0) by rw [decide_eq_decide]; omega]; simp)))⟩
    refine usei (nAdd _ 0 0) ⟨_, rfl, br_dec (fun _ => ?_) (fun h => absurd rfl h)⟩
    refine usei (nLen _) ⟨_, rfl, br_dec (fun _ => ?_) (fun h => absurd rfl h)⟩
    refine usei (nBit _ i) ⟨_, rfl, br_not (br_of (fun h => absurd h (by simp)) (fun _ => ?_))⟩
    refine usei (nCut _ i 64) ⟨_, rfl, br_dec (fun _ => ?_) (fun h => absurd rfl h)⟩
    refine usei (nOnes _) ⟨_, rfl, br_dec (fun _ => ?_) (fun h => absurd rfl h)⟩
    refine usei (nNext _ i) ⟨_, rfl, br_dec (fun _ => ?_) (fun h => absurd rfl h)⟩
    refine usei (nWords _) ⟨⟨none, 0, 0⟩, rfl, br_dec (fun _ => ?_) (fun h => absurd rfl h)⟩
    exact usek (live2 _) fun w5 hK5 => ⟨_, rfl, rfl, (hKK.trans kA (fun _ _ f => f)).trans hK5 (fun _ _ f => f)⟩

/-- So many bits of a list of words. -/
def bitsW (ws : List Nat) (n : Nat) : List Bool := (List.range n).map (wbit ws)
theorem bitsW_len (ws : List Nat) (n : Nat) : (bitsW ws n).length = n := by simp [bitsW]
theorem bg_bitsW (ws : List Nat) (n i : Nat) (hi : i < n) : bg (bitsW ws n) i = wbit ws i := by
  unfold bg bitsW; simp [hi]
theorem good_iff {n : Nat} (hlt : ∀ x ∈ ws, x < 18446744073709551616) (hl : (n + 63) / 64 = ws.length) : wordsOf (bitsW ws n) = ws ↔ (n % 64 = 0 ∨ wg ws (ws.length - 1) >>> (n % 64) = 0) := by
  have hbl := bitsW_len ws n
  constructor
  · intro h
    by_cases h0 : n % 64 = 0
    · exact .inl h0
    · right
      have e : wg ws (ws.length - 1) = wordOf (bitsW ws n) (ws.length - 1) := by rw [← wg_wordsOf, h]
      rw [e]
      apply Nat.eq_of_testBit_eq
      intro i
      rw [Nat.testBit_shiftRight, Nat.zero_testBit]
      by_cases hi : n % 64 + i < 64
      · rw [testBit_wordOf _ _ _ hi, bg_out (by omega)]
      · exact tb_lt (wordOf_lt _ _) (by omega)
  · intro h
    symm
    refine eq_wordsOf (by omega) (fun k => wg_lt hlt k) (fun i hi => ?_)
    by_cases hin : i < n
    · rw [bg_bitsW _ _ _ hin]
    · rw [bg_out (by omega)]
      rcases h with h | h
      · omega
      · have := congrArg (fun x => Nat.testBit x (i % 64 - n % 64)) h
        simp only [Nat.testBit_shiftRight, Nat.zero_testBit] at this
        unfold wbit
        rw [show i / 64 = ws.length - 1 by omega]
        rw [show n % 64 + (i % 64 - n % 64) = i % 64 by omega] at this
        exact this

theorem of1 (h : RdW w l ws) (hsz : l.len ≤ 1000000) (n : Int) (hn : -9223372036854775808 ≤ n ∧ n ≤ 9223372036854775807) : Calls Try.prog 58 #[.slice l.a l.len l.cap, .int .i64 n] w (Rv fun v w' => Kp no w w' ∧
    ((v = .tuple #[.pointer none, .int .i64 1] ∧ (n < 0 ∨ (n.toNat + 63) / 64 ≠ ws.length)) ∨ (v = .tuple #[.pointer none, .int .i64 3] ∧ 0 ≤ n ∧ (n.toNat + 63) / 64 = ws.length ∧ wordsOf (bitsW ws n.toNat) ≠ ws) ∨
     (∃ r rl, v = .tuple #[.pointer (some ⟨r, 0, none⟩), .int .i64 0] ∧ 0 ≤ n ∧ (n.toNat + 63) / 64 = ws.length ∧ wordsOf (bitsW ws n.toNat) = ws ∧ Row w' r rl (bitsW ws n.toNat)))) := by
  refine c58 _ _ _ _ ?_
  unfold B58
  have hl := h.len
  refine br_dec (fun h0 => ⟨Kp.refl _ _, .inl ⟨rfl, .inl h0⟩⟩) (fun h0 => ?_)
  obtain ⟨m, rfl⟩ : ∃ m : Nat, n = m := ⟨n.toNat, by omega⟩
  rw [show ((m : Int)).toNat = m from Int.toNat_natCast m]
  refine usei (need w m (by omega)) ⟨_, rfl, br_not (br_dec (fun h1 => ⟨by omega, ?_⟩) (fun h1 => ⟨Kp.refl _ _, .inl ⟨rfl, .inr (by omega)⟩⟩))⟩
  have hlw : (m + 63) / 64 = ws.length := by omega
  have gi := good_iff h.lt hlw
  have fin : wordsOf (bitsW ws m) = ws → Calls Try.prog 85 #[.slice l.a l.len l.cap] w (Rv fun v6 w7 =>
    ∃ l8 : Slc, v6 = .slice l8.a l8.len l8.cap ∧ Kp no w (w7.alloc (.cells #[.slice l8.a l8.len l8.cap, .int .i64 m] 98)) ∧
    (((Value.tuple #[.pointer (some ⟨w7.heap.size, 0, none⟩), .int .i64 0]) = .tuple #[.pointer none, .int .i64 1] ∧ ((m : Int) < 0 ∨ (m + 63) / 64 ≠ ws.length)) ∨ ((Value.tuple #[.pointer (some ⟨w7.heap.size, 0, none⟩), .int .i64 0]) = .tuple #[.pointer none, .int .i64 3] ∧ 0 ≤ (m : Int) ∧ (m + 63) / 64 = ws.length ∧ wordsOf (bitsW ws m) ≠ ws) ∨
     (∃ r rl, (Value.tuple #[.pointer (some ⟨w7.heap.size, 0, none⟩), .int .i64 0]) = .tuple #[.pointer (some ⟨r, 0, none⟩), .int .i64 0] ∧ 0 ≤ (m : Int) ∧ (m + 63) / 64 = ws.length ∧ wordsOf (bitsW ws m) = ws ∧ Row (w7.alloc (.cells #[.slice l8.a l8.len l8.cap, .int .i64 m] 98)) r rl (bitsW ws m)))) := fun hg => by
    refine use (clone h (by omega)) ?_
    rintro _ w7 ⟨o, rfl, hO, hK, hF⟩
    refine ⟨o, rfl, hK.alloc _ _, .inr (.inr ⟨_, o, rfl, by omega, hlw, hg, ⟨?_, ?_, fun hk => ?_⟩⟩)⟩
    · rw [bitsW_len]; exact Blk.new _ _ _
    · rw [hg]; exact hO.alloc _
    · exact absurd (hO.on hk) (by omega)
  rw [Int.tmod_eq_emod_of_nonneg (by omega)]
  refine br_not (br_dec (fun h2 => fin (gi.2 (.inl (by omega)))) (fun h2 => ?_))
  have hw1 : IntKind.i64.wrap ((l.len : Int) - 1) = ((ws.length - 1 : Nat) : Int) := by rw [w64 ⟨by omega, by omega⟩]; omega
  rw [hw1]
  obtain ⟨a, ha, hc⟩ := h.at (i := ((ws.length - 1 : Nat) : Int)) (by omega) (by omega)
  refine ⟨by omega, by omega, a, ha, _, hc, by omega, ?_⟩
  rw [wu64 (x := (m : Int) % 64) ⟨by omega, by omega⟩, Int.toNat_natCast, show (m : Int) % 64 = ((m % 64 : Nat) : Int) by omega, shr_u64 (wg_lt h.lt _)]
  refine ⟨by omega, br_not (br_dec (fun h3 => fin (gi.2 (.inr (by omega)))) (fun h3 => ⟨Kp.refl _ _, .inr (.inl ⟨rfl, by omega, hlw, fun e => ?_⟩)⟩))⟩
  rcases gi.1 e with g | g <;> omega

theorem of2 (h : RdW w l ws) (hsz : l.len ≤ 1000000) (n : Int) : Calls Try.prog 59 #[.slice l.a l.len l.cap, .int .i64 n] w (Rv fun v w' => Kp no w w' ∧
    ((v = .tuple #[.slice none 0 0, .bool false] ∧ (n < 0 ∨ 64 * (l.len : Int) < n)) ∨ (∃ o : Slc, v = .tuple #[.slice o.a o.len o.cap, .bool (decide (wordsOf (bitsW ws n.toNat) = ws))] ∧ 0 ≤ n ∧ n ≤ 64 * (l.len : Int) ∧
      Ownd w' o 4 1 ((bitsW ws n.toNat).map Value.bool)))) := by
  refine c59 _ _ _ _ ?_
  unfold B59
  have hl := h.len
  refine br_dec (fun h0 => ⟨Kp.refl _ _, .inl ⟨rfl, .inl h0⟩⟩) (fun h0 => ?_)
  obtain ⟨m, rfl⟩ : ∃ m : Nat, n = m := ⟨n.toNat, by omega⟩
  rw [show ((m : Int)).toNat = m from Int.toNat_natCast m]
  rw [w64 (x := 64 * (l.len : Int)) ⟨by omega, by omega⟩]
  refine br_dec (fun h1 => ⟨Kp.refl _ _, .inl ⟨rfl, .inr h1⟩⟩) (fun h1 => ?_)
  refine ⟨fun o i w' => ∃ q : Nat, i = q ∧ q ≤ m ∧ Ownd w' o 4 1 ((bitsW ws q).map Value.bool) ∧ o.len = q ∧ Kp no w w' ∧ (∀ k, On o k → w.heap.size ≤ k), fun _ i _ => (m - i).toNat,
    ⟨0, rfl, by omega, Ownd.nil _ _ _, rfl, Kp.refl _ _, fun k hk => absurd hk On.nil⟩, ?_⟩
  rintro o i w1 ⟨q, rfl, hq, hO, hol, hK, hF⟩
  refine br_dec (fun h2 => ⟨by omega, ?_⟩) (fun h2 => ?_)
  · rw [Int.tdiv_eq_ediv_of_nonneg (by omega), Int.tmod_eq_emod_of_nonneg (by omega), w64 (x := (q : Int) / 64) ⟨by omega, by omega⟩]
    have h1' := h.kp hK (fun _ _ f => f)
    obtain ⟨a, ha, hc⟩ := h1'.at (i := (q : Int) / 64) (by omega) (by omega)
    refine ⟨by omega, by omega, a, ha, _, hc, by omega, ?_⟩
    rw [show ((q : Int) / 64).toNat = q / 64 by omega, show (q : Int) % 64 = ((q % 64 : Nat) : Int) by omega]
    refine usei (rbit w1 _ (wg_lt h.lt _) _) ⟨_, rfl, ?_⟩
    have hb : bitZ (wg ws (q / 64)) ((q % 64 : Nat) : Int) = wbit ws q := by
      unfold bitZ wbit
      rw [Int.toNat_natCast, show decide ((0 : Int) ≤ ((q % 64 : Nat) : Int)) = true from decide_eq_true (by omega)]
      rfl
    rw [hb]
    obtain ⟨w2, o2, hr2, hO2, hl2, hK2, hF2⟩ := append_one (ty := 57) elB hO (.bool (wbit ws q)) rfl (by simp only [maxLen]; omega) (by omega)
    refine ⟨w2, o2, hr2, ?_⟩
    rw [w64 ⟨by omega, by omega⟩]
    refine ⟨⟨q + 1, by omega, by omega, ?_, by omega, hK.trans hK2 (fun k hlt hk => ?_), fun k hk => ?_⟩, by dsimp only; omega⟩
    · rw [map_snocB] at hO2
      have : bitsW ws q ++ [wbit ws q] = bitsW ws (q + 1) := by simp [bitsW, List.range_succ]
      rw [this] at hO2
      exact hO2
    · exact absurd (hF k hk) (by omega)
    · have := hK.size
      rcases hF2 k hk with g | g
      · exact hF k g
      · omega
  · have e : q = m := by omega
    subst e
    have hB := hO.rdB
    refine use (words2 hB (by omega)) ?_
    rintro _ w3 ⟨o3, rfl, hO3, hK3, hF3⟩
    have hwl := length_wordsOf (bitsW ws q)
    rw [bitsW_len] at hwl
    have h3 := hO3.rdW (fun _ hx => wordsOf_lt hx)
    have h3l := h3.len
    refine ⟨o3, rfl, use (same2 h3 (h.kp (hK.trans hK3 (fun _ _ f => f)) (fun _ _ f => f)) (by omega)) ?_⟩
    rintro _ w4 ⟨rfl, hK4⟩
    exact ⟨_, rfl, (hK.trans hK3 (fun _ _ f => f)).trans hK4 (fun _ _ f => f), .inr ⟨o, rfl, by omega, by omega, (hO.kp hK3 (fun _ _ f => f)).kp hK4 (fun _ _ f => f)⟩⟩

theorem rowOf (h : RdW w l ws) (n : Int) (hn : -9223372036854775808 ≤ n ∧ n ≤ 9223372036854775807) : IsK 13 #[.slice l.a l.len l.cap, .int .i64 n] w (.bool true) := by
  refine c13 _ _ _ _ ?_
  unfold B13
  have hl := h.len
  refine br_dec (fun _ => usek (live2 w) fun w' hk => ⟨_, rfl, rfl, hk⟩) (fun h0 => ?_)
  refine use (of1 h (by omega) n hn) ?_
  rintro v w1 ⟨hK, hv⟩
  have h1 := h.kp hK (fun _ _ f => f)
  have fin : ∀ {w2 : World}, Kp no w w2 → Calls Try.prog 42 #[] w2 (Rv fun v33 w34 => ∃ b35 : Bool, v33 = .bool b35 ∧ (Value.bool b35 = .bool true ∧ Kp no w w34)) := fun hk => usek (live2 _) fun w5 hK5 => ⟨_, rfl, rfl, hk.trans hK5 (fun _ _ f => f)⟩
  have w1' : IntKind.i64.wrap (64 * (l.len : Int)) = 64 * (l.len : Int) := w64 ⟨by omega, by omega⟩
  have w2' : IntKind.i64.wrap (64 * IntKind.i64.wrap ((l.len : Int) - 1)) = 64 * ((l.len : Int) - 1) := by rw [w64 (x := (l.len : Int) - 1) ⟨by omega, by omega⟩, w64 ⟨by omega, by omega⟩]
  rw [w1', w2']
  have ends : ∀ (c : Int), (c = 1 ∨ c = 3) → ((c = 1) ↔ (n < 0 ∨ 64 * (l.len : Int) < n ∨ n ≤ 64 * ((l.len : Int) - 1))) → ∀ w2, Kp no w w2 → 
     (br (decide (n < (0 : Int))) (br ((decide (c = (1 : Int))) == true) (br ((decide (c = (3 : Int))) == false) (Calls Try.prog 42 #[] w2 (Rv fun v33 w34 => ∃ b35 : Bool, v33 = .bool b35 ∧ (Value.bool b35 = .bool true ∧ Kp no w w34))) (Value.bool false = .bool true ∧ Kp no w w2)) (Value.bool false = .bool true ∧ Kp no w w2)) (br (decide (64 * (l.len : Int) < n)) (br ((decide (c = (1 : Int))) == true) (br ((decide (c = (3 : Int))) == false) (Calls Try.prog 42 #[] w2 (Rv fun v33 w34 => ∃ b35 : Bool, v33 = .bool b35 ∧ (Value.bool b35 = .bool true ∧ Kp no w w34))) (Value.bool false = .bool true ∧ Kp no w w2)) (Value.bool false = .bool true ∧ Kp no w w2))
      (br ((decide (c = (1 : Int))) == (decide (n ≤ 64 * ((l.len : Int) - 1)))) (br ((decide (c = (3 : Int))) == (!(decide (n ≤ 64 * ((l.len : Int) - 1))))) (Calls Try.prog 42 #[] w2 (Rv fun v33 w34 => ∃ b35 : Bool, v33 = .bool b35 ∧ (Value.bool b35 = .bool true ∧ Kp no w w34))) (Value.bool false = .bool true ∧ Kp no w w2)) (Value.bool false = .bool true ∧ Kp no w w2)))) := by
    intro c hc hiff w2 hk2
    refine br_dec (fun e => ?_) (fun e => br_dec (fun e2 => ?_) (fun e2 => ?_))
    · have : c = 1 := hiff.2 (.inl e)
      subst this
      exact fin hk2
    · have : c = 1 := hiff.2 (.inr (.inl e2))
      subst this
      exact fin hk2
    · by_cases e3 : n ≤ 64 * ((l.len : Int) - 1)
      · have : c = 1 := hiff.2 (.inr (.inr e3))
        subst this
        simp only [e3, decide_true]
        exact fin hk2
      · have : c = 3 := by
          rcases hc with rfl | rfl
          · rcases hiff.1 rfl with g | g | g <;> omega
          · rfl
        subst this
        simp only [e3, decide_false]
        exact fin hk2
  rcases hv with ⟨rfl, hv⟩ | ⟨rfl, hn0, hlen, hbad⟩ | ⟨r, rl, rfl, hn0, hlen, hgood, hR⟩
  · refine ⟨_, _, rfl, use (of2 h1 (by omega) n) ?_⟩
    rintro _ w2 ⟨hK2, hv2⟩
    have hk2 := hK.trans hK2 (fun _ _ f => f)
    rcases hv2 with ⟨rfl, hv2⟩ | ⟨o, rfl, hn0, hn1, hO⟩
    · exact ⟨⟨none, 0, 0⟩, _, rfl, ends 1 (.inl rfl) ⟨fun _ => by omega, fun _ => rfl⟩ w2 hk2⟩
    · have hne : ¬ wordsOf (bitsW ws n.toNat) = ws := fun e => by
        have := length_wordsOf (bitsW ws n.toNat)
        rw [e, bitsW_len] at this
        rcases hv with g | g <;> omega
      refine ⟨o, _, rfl, ?_⟩
      simp only [hne, decide_false]
      exact ends 1 (.inl rfl) ⟨fun _ => by rcases hv with g | g <;> omega, fun _ => rfl⟩ w2 hk2
  · refine ⟨_, _, rfl, use (of2 h1 (by omega) n) ?_⟩
    rintro _ w2 ⟨hK2, hv2⟩
    have hk2 := hK.trans hK2 (fun _ _ f => f)
    rcases hv2 with ⟨rfl, hv2⟩ | ⟨o, rfl, hn0, hn1, hO⟩
    · omega
    · refine ⟨o, _, rfl, ?_⟩
      simp only [hbad, decide_false]
      exact ends 3 (.inr rfl) ⟨fun e => by omega, fun _ => by omega⟩ w2 hk2
  · refine ⟨_, _, rfl, use (of2 h1 (by omega) n) ?_⟩
    rintro _ w2 ⟨hK2, hv2⟩
    have hk2 := hK.trans hK2 (fun _ _ f => f)
    have hR2 := hR.kp hK2 (fun _ _ f => f)
    have hbl := bitsW_len ws n.toNat
    rcases hv2 with ⟨rfl, hv2⟩ | ⟨o, rfl, hn0, hn1, hO⟩
    · omega
    · refine ⟨o, _, rfl, ?_⟩
      rw [show decide (wordsOf (bitsW ws n.toNat) = ws) = true from decide_eq_true hgood]
      show br (decide ((0 : Int) = 0)) _ _
      refine br_dec (fun _ => ?_) (fun h => absurd rfl h)
      show Calls _ _ _ _ _
      refine usei (len1 hR2) ⟨_, rfl, br_dec (fun _ => ?_) (fun h => absurd (by omega) h)⟩
      refine use (words1 hR2 (by omega)) ?_
      rintro _ w3 ⟨o3, rfl, hO3, hK3, hF3⟩
      have h3 := hO3.rdW (fun _ hx => wordsOf_lt hx)
      have h3l := h3.len
      rw [hgood] at h3 h3l
      have hk3 := hk2.trans hK3 (fun _ _ f => f)
      refine ⟨o3, rfl, usek (same2 h3 (h.kp hk3 (fun _ _ f => f)) (by omega)) fun w4 hK4 => ⟨_, rfl, br_dec (fun _ => ?_) (fun h => absurd rfl h)⟩⟩
      have hk4 := hk3.trans hK4 (fun _ _ f => f)
      have k24 := hK3.trans hK4 (fun _ _ f => f)
      have hR4 := hR2.kp k24 (fun _ _ f => f)
      have hB4 := (hO.kp k24 (fun _ _ f => f)).rdB
      have hol := hB4.len
      refine usei (ones1 hR4 (by omega)) ⟨_, rfl, usei (ones2 hB4 (by omega)) ⟨_, rfl, br_dec (fun _ => ?_) (fun h => absurd rfl h)⟩⟩
      refine usek (same1 hR4 hR4 (by omega)) fun w5 hK5 => ⟨_, rfl, ?_⟩
      exact br_dec (fun _ => fin (hk4.trans hK5 (fun _ _ f => f))) (fun h => absurd ⟨rfl, rfl⟩ h)

theorem rdW_of {a : Option Addr} {len cap : Nat} {zs : List Int} (h : (a = none ∧ len = 0 ∧ cap = 0 ∧ zs = []) ∨
    ∃ x, a = some x ∧ len ≤ cap ∧ cap ≤ maxLen ∧ zs.length = cap ∧ (∀ i, i < zs.length → w.cell? (x.add i) = some (.int .u64 (zs.getD i 0))) ∧ ∀ n ∈ zs, (Lit.int .u64 n).wf = true) :
    RdW w ⟨a, len, cap⟩ ((zs.take len).map Int.toNat) := by
  rcases h with ⟨rfl, rfl, rfl, rfl⟩ | ⟨x, rfl, hlc, hcm, hzl, hcell, hwf⟩
  · exact ⟨rfl, Rd.nil _ _, fun x hx => by simp at hx⟩
  · have b : ∀ n ∈ zs, 0 ≤ n ∧ n ≤ 18446744073709551615 := fun n hn => Go.bounds_u64 (hwf n hn)
    refine ⟨by simp; omega, fun i hi => ⟨x, rfl, ?_⟩, fun y hy => ?_⟩
    · have hi2 : i < len := by simp at hi; omega
      rw [hcell i (by omega)]
      rw [List.getElem?_map, List.getElem?_map, List.getElem?_take, if_pos hi2, List.getElem?_eq_getElem (by omega)]
      have := b zs[i] (List.getElem_mem _)
      have e : zs.getD i 0 = zs[i] := by simp [List.getD, show i < zs.length by omega]
      rw [e]
      simp only [Option.map_some]
      congr 2
      omega
    · obtain ⟨z, hz, rfl⟩ := List.mem_map.1 hy
      have := b z (List.mem_of_mem_take hz)
      omega
end Go.Proofs.Ytlobkadfmgnlmaa.V
