/- The laws of the row chapter: rows that are the same, rows from words. -/
import Derived.Test.YtilccklocaeebaaRz
namespace Go.Proofs.Ytilccklocaeebaa.V
open Go Go.VC
variable {w w' w0 : World} {l o : Slc} {bits : List Bool} {ws : List Nat} {r : Nat}

theorem nAdd (w : World) (x n : Int) : Is 23 #[.pointer none, .int .u64 x, .int .i64 n] w (.int .i64 11) := c23n _ _ _ _ ⟨rfl, rfl⟩
theorem nLen (w : World) : Is 45 #[.pointer none] w (.int .i64 0) := c45n _ _ ⟨rfl, rfl⟩
theorem nCut (w : World) (i n : Int) : Is 61 #[.pointer none, .int .i64 i, .int .i64 n] w (.int .u64 0) := c61n _ _ _ _ ⟨rfl, rfl⟩
theorem nWords (w : World) : Is 44 #[.pointer none] w (.slice none 0 0) := c44n _ _ ⟨rfl, rfl⟩
/-- So many bits of a list of words. -/
def bitsW (ws : List Nat) (n : Nat) : List Bool := (List.range n).map (wbit ws)
theorem bitsW_len (ws : List Nat) (n : Nat) : (bitsW ws n).length = n := by simp [bitsW]
theorem bg_bitsW (ws : List Nat) (n i : Nat) (hi : i < n) : bg (bitsW ws n) i = wbit ws i := by
  unfold bg bitsW; simp [hi]
theorem good_iff {n : Nat} (hlt : ∀ x ∈ ws, x < 18446744073709551616) (hl : (n + 63) / 64 = ws.length) : wordsOf (bitsW ws n) = ws ↔ (n % 64 = 0 ∨ wg ws (ws.length - 1) >>> (n % 64) = 0) := by
  have hbl := bitsW_len ws n
  constructor
  · intro h
    by_cases h0 : n % 64 = 0
    · exact .inl h0
    · right
      have e : wg ws (ws.length - 1) = wordOf (bitsW ws n) (ws.length - 1) := by rw [← wg_wordsOf, h]
      rw [e]
      apply Nat.eq_of_testBit_eq
      intro i
      rw [Nat.testBit_shiftRight, Nat.zero_testBit]
      by_cases hi : n % 64 + i < 64
      · rw [testBit_wordOf _ _ _ hi, bg_out (by omega)]
      · exact tb_lt (wordOf_lt _ _) (by omega)
  · intro h
    symm
    refine eq_wordsOf (by omega) (fun k => wg_lt hlt k) (fun i hi => ?_)
    by_cases hin : i < n
    · rw [bg_bitsW _ _ _ hin]
    · rw [bg_out (by omega)]
      rcases h with h | h
      · omega
      · have := congrArg (fun x => Nat.testBit x (i % 64 - n % 64)) h
        simp only [Nat.testBit_shiftRight, Nat.zero_testBit] at this
        unfold wbit
        rw [show i / 64 = ws.length - 1 by omega]
        rw [show n % 64 + (i % 64 - n % 64) = i % 64 by omega] at this
        exact this

theorem of1 (h : RdW w l ws) (hsz : l.len ≤ 1000000) (n : Int) (hn : -9223372036854775808 ≤ n ∧ n ≤ 9223372036854775807) : Calls Try.prog 63 #[.slice l.a l.len l.cap, .int .i64 n] w (Rv fun v w' => Kp no w w' ∧
    ((v = .tuple #[.pointer none, .int .i64 1] ∧ (n < 0 ∨ (n.toNat + 63) / 64 ≠ ws.length)) ∨ (v = .tuple #[.pointer none, .int .i64 3] ∧ 0 ≤ n ∧ (n.toNat + 63) / 64 = ws.length ∧ wordsOf (bitsW ws n.toNat) ≠ ws) ∨
     (∃ r rl, v = .tuple #[.pointer (some ⟨r, 0, none⟩), .int .i64 0] ∧ 0 ≤ n ∧ (n.toNat + 63) / 64 = ws.length ∧ wordsOf (bitsW ws n.toNat) = ws ∧ Row w' r rl (bitsW ws n.toNat)))) := by
  refine c63 _ _ _ _ ?_
  unfold B63
  have hl := h.len
  refine br_dec (fun h0 => ⟨Kp.refl _ _, .inl ⟨rfl, .inl h0⟩⟩) (fun h0 => ?_)
  obtain ⟨m, rfl⟩ : ∃ m : Nat, n = m := ⟨n.toNat, by omega⟩
  rw [show ((m : Int)).toNat = m from Int.toNat_natCast m]
  refine usei (need w m (by omega)) ⟨_, rfl, br_not (br_dec (fun h1 => ⟨by omega, ?_⟩) (fun h1 => ⟨Kp.refl _ _, .inl ⟨rfl, .inr (by omega)⟩⟩))⟩
  have hlw : (m + 63) / 64 = ws.length := by omega
  have gi := good_iff h.lt hlw
  have fin : wordsOf (bitsW ws m) = ws → Calls Try.prog 71 #[.slice l.a l.len l.cap] w (Rv fun v6 w7 =>
    ∃ l8 : Slc, v6 = .slice l8.a l8.len l8.cap ∧ Kp no w (w7.alloc (.cells #[.slice l8.a l8.len l8.cap, .int .i64 m] 79)) ∧
    (((Value.tuple #[.pointer (some ⟨w7.heap.size, 0, none⟩), .int .i64 0]) = .tuple #[.pointer none, .int .i64 1] ∧ ((m : Int) < 0 ∨ (m + 63) / 64 ≠ ws.length)) ∨ ((Value.tuple #[.pointer (some ⟨w7.heap.size, 0, none⟩), .int .i64 0]) = .tuple #[.pointer none, .int .i64 3] ∧ 0 ≤ (m : Int) ∧ (m + 63) / 64 = ws.length ∧ wordsOf (bitsW ws m) ≠ ws) ∨
     (∃ r rl, (Value.tuple #[.pointer (some ⟨w7.heap.size, 0, none⟩), .int .i64 0]) = .tuple #[.pointer (some ⟨r, 0, none⟩), .int .i64 0] ∧ 0 ≤ (m : Int) ∧ (m + 63) / 64 = ws.length ∧ wordsOf (bitsW ws m) = ws ∧ Row (w7.alloc (.cells #[.slice l8.a l8.len l8.cap, .int .i64 m] 79)) r rl (bitsW ws m)))) := fun hg => by
    refine use (clone h (by omega)) ?_
    rintro _ w7 ⟨o, rfl, hO, hK, hF⟩
    refine ⟨o, rfl, hK.alloc _ _, .inr (.inr ⟨_, o, rfl, by omega, hlw, hg, ⟨?_, ?_, fun hk => ?_⟩⟩)⟩
    · rw [bitsW_len]; exact Blk.new _ _ _
    · rw [hg]; exact hO.alloc _
    · exact absurd (hO.on hk) (by omega)
  rw [Int.tmod_eq_emod_of_nonneg (by omega)]
  refine br_not (br_dec (fun h2 => fin (gi.2 (.inl (by omega)))) (fun h2 => ?_))
  have hw1 : IntKind.i64.wrap ((l.len : Int) - 1) = ((ws.length - 1 : Nat) : Int) := by rw [w64 ⟨by omega, by omega⟩]; omega
  rw [hw1]
  obtain ⟨a, ha, hc⟩ := h.at (i := ((ws.length - 1 : Nat) : Int)) (by omega) (by omega)
  refine ⟨by omega, by omega, a, ha, _, hc, by omega, ?_⟩
  rw [wu64 (x := (m : Int) % 64) ⟨by omega, by omega⟩, Int.toNat_natCast, show (m : Int) % 64 = ((m % 64 : Nat) : Int) by omega, shr_u64 (wg_lt h.lt _)]
  refine ⟨by omega, br_not (br_dec (fun h3 => fin (gi.2 (.inr (by omega)))) (fun h3 => ⟨Kp.refl _ _, .inr (.inl ⟨rfl, by omega, hlw, fun e => ?_⟩)⟩))⟩
  rcases gi.1 e with g | g <;> omega

theorem of2 (h : RdW w l ws) (hsz : l.len ≤ 1000000) (n : Int) : Calls Try.prog 64 #[.slice l.a l.len l.cap, .int .i64 n] w (Rv fun v w' => Kp no w w' ∧
    ((v = .tuple #[.slice none 0 0, .bool false] ∧ (n < 0 ∨ 64 * (l.len : Int) < n)) ∨ (∃ o : Slc, v = .tuple #[.slice o.a o.len o.cap, .bool (decide (wordsOf (bitsW ws n.toNat) = ws))] ∧ 0 ≤ n ∧ n ≤ 64 * (l.len : Int) ∧
      Ownd w' o 4 1 ((bitsW ws n.toNat).map Value.bool)))) := by
  refine c64 _ _ _ _ ?_
  unfold B64
  have hl := h.len
  refine br_dec (fun h0 => ⟨Kp.refl _ _, .inl ⟨rfl, .inl h0⟩⟩) (fun h0 => ?_)
  obtain ⟨m, rfl⟩ : ∃ m : Nat, n = m := ⟨n.toNat, by omega⟩
  rw [show ((m : Int)).toNat = m from Int.toNat_natCast m]
  rw [w64 (x := 64 * (l.len : Int)) ⟨by omega, by omega⟩]
  refine br_dec (fun h1 => ⟨Kp.refl _ _, .inl ⟨rfl, .inr h1⟩⟩) (fun h1 => ?_)
  refine ⟨fun o i w' => ∃ q : Nat, i = q ∧ q ≤ m ∧ Ownd w' o 4 1 ((bitsW ws q).map Value.bool) ∧ o.len = q ∧ Kp no w w' ∧ (∀ k, On o k → w.heap.size ≤ k), fun _ i _ => (m - i).toNat,
    ⟨0, rfl, by omega, Ownd.nil _ _ _, rfl, Kp.refl _ _, fun k hk => absurd hk On.nil⟩, ?_⟩
  rintro o i w1 ⟨q, rfl, hq, hO, hol, hK, hF⟩
  refine br_dec (fun h2 => ⟨by omega, ?_⟩) (fun h2 => ?_)
  · rw [Int.tdiv_eq_ediv_of_nonneg (by omega), Int.tmod_eq_emod_of_nonneg (by omega), w64 (x := (q : Int) / 64) ⟨by omega, by omega⟩]
    have h1' := h.kp hK (fun _ _ f => f)
    obtain ⟨a, ha, hc⟩ := h1'.at (i := (q : Int) / 64) (by omega) (by omega)
    refine ⟨by omega, by omega, a, ha, _, hc, by omega, ?_⟩
    rw [show ((q : Int) / 64).toNat = q / 64 by omega, show (q : Int) % 64 = ((q % 64 : Nat) : Int) by omega]
    refine usei (rbit w1 _ (wg_lt h.lt _) _) ⟨_, rfl, ?_⟩
    have hb : bitZ (wg ws (q / 64)) ((q % 64 : Nat) : Int) = wbit ws q := by
      unfold bitZ wbit
      rw [Int.toNat_natCast, show decide ((0 : Int) ≤ ((q % 64 : Nat) : Int)) = true from decide_eq_true (by omega)]
      rfl
    rw [hb]
    obtain ⟨w2, o2, hr2, hO2, hl2, hK2, hF2⟩ := append_one (ty := 32) elB hO (.bool (wbit ws q)) rfl (by simp only [maxLen]; omega) (by omega)
    refine ⟨w2, o2, hr2, ?_⟩
    rw [w64 ⟨by omega, by omega⟩]
    refine ⟨⟨q + 1, by omega, by omega, ?_, by omega, hK.trans hK2 (fun k hlt hk => ?_), fun k hk => ?_⟩, by dsimp only; omega⟩
    · rw [map_snocB] at hO2
      have : bitsW ws q ++ [wbit ws q] = bitsW ws (q + 1) := by simp [bitsW, List.range_succ]
      rw [this] at hO2
      exact hO2
    · exact absurd (hF k hk) (by omega)
    · have := hK.size
      rcases hF2 k hk with g | g
      · exact hF k g
      · omega
  · have e : q = m := by omega
    subst e
    have hB := hO.rdB
    refine use (words2 hB (by omega)) ?_
    rintro _ w3 ⟨o3, rfl, hO3, hK3, hF3⟩
    have hwl := length_wordsOf (bitsW ws q)
    rw [bitsW_len] at hwl
    have h3 := hO3.rdW (fun _ hx => wordsOf_lt hx)
    have h3l := h3.len
    refine ⟨o3, rfl, use (same2 h3 (h.kp (hK.trans hK3 (fun _ _ f => f)) (fun _ _ f => f)) (by omega)) ?_⟩
    rintro _ w4 ⟨rfl, hK4⟩
    exact ⟨_, rfl, (hK.trans hK3 (fun _ _ f => f)).trans hK4 (fun _ _ f => f), .inr ⟨o, rfl, by omega, by omega, (hO.kp hK3 (fun _ _ f => f)).kp hK4 (fun _ _ f => f)⟩⟩

theorem rdW_of {a : Option Addr} {len cap : Nat} {zs : List Int} (h : (a = none ∧ len = 0 ∧ cap = 0 ∧ zs = []) ∨
    ∃ x, a = some x ∧ len ≤ cap ∧ cap ≤ maxLen ∧ zs.length = cap ∧ (∀ i, i < zs.length → w.cell? (x.add i) = some (.int .u64 (zs.getD i 0))) ∧ ∀ n ∈ zs, (Lit.int .u64 n).wf = true) :
    RdW w ⟨a, len, cap⟩ ((zs.take len).map Int.toNat) := by
  rcases h with ⟨rfl, rfl, rfl, rfl⟩ | ⟨x, rfl, hlc, hcm, hzl, hcell, hwf⟩
  · exact ⟨rfl, Rd.nil _ _, fun x hx => by simp at hx⟩
  · have b : ∀ n ∈ zs, 0 ≤ n ∧ n ≤ 18446744073709551615 := fun n hn => Go.bounds_u64 (hwf n hn)
    refine ⟨by simp; omega, fun i hi => ⟨x, rfl, ?_⟩, fun y hy => ?_⟩
    · have hi2 : i < len := by simp at hi; omega
      rw [hcell i (by omega)]
      rw [List.getElem?_map, List.getElem?_map, List.getElem?_take, if_pos hi2, List.getElem?_eq_getElem (by omega)]
      have := b zs[i] (List.getElem_mem _)
      have e : zs.getD i 0 = zs[i] := by simp [List.getD, show i < zs.length by omega]
      rw [e]
      simp only [Option.map_some]
      congr 2
      omega
    · obtain ⟨z, hz, rfl⟩ := List.mem_map.1 hy
      have := b z (List.mem_of_mem_take hz)
      omega
end Go.Proofs.Ytilccklocaeebaa.V
