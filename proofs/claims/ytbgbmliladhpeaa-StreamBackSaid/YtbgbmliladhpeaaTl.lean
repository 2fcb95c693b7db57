/- Streams: what is told of them beside the program; writers and readers as the laws use them. -/
import Derived.Test.YtbgbmliladhpeaaTr
namespace Go.VC
open Go
/-- A code. -/
structure Cd where
  kind : Int
  v : Nat
  n : Int
/-- A slice of codes that can be read. -/
structure RdC (w : World) (l : Slc) (cs : List Cd) : Prop where
  len : cs.length = l.len
  cel : ∀ i (hi : i < cs.length), ∃ b, l.a = some b ∧ w.cell? (Addr.add (Addr.add b (i * 3)) 0) = some (.int .i64 cs[i].kind) ∧ w.cell? (Addr.add (Addr.add b (i * 3)) 1) = some (U cs[i].v) ∧ w.cell? (Addr.add (Addr.add b (i * 3)) 2) = some (.int .i64 cs[i].n)
  lt : ∀ c ∈ cs, c.v < 18446744073709551616
theorem RdC.kpo {w w' : World} {l : Slc} {cs : List Cd} (h : RdC w l cs) (g : Kp no w w') : RdC w' l cs := ⟨h.len, fun i hi => by
  obtain ⟨b, hb, h0, h1, h2⟩ := h.cel i hi
  have e : w'.heap[b.block]? = w.heap[b.block]? := g.keep _ (by have := cell_lt h0; simpa [add_block] using this) id
  exact ⟨b, hb, by rw [World.cell?_of_block (w := w) (by simpa [add_block] using e), h0], by rw [World.cell?_of_block (w := w) (by simpa [add_block] using e), h1], by rw [World.cell?_of_block (w := w) (by simpa [add_block] using e), h2]⟩, h.lt⟩
theorem RdC.at {w : World} {l : Slc} {cs : List Cd} (h : RdC w l cs) {m : Nat} (hm : m < cs.length) : ∃ b, l.a = some b ∧ w.cell? (Addr.add (Addr.add b ((m : Int).toNat * 3)) 0) = some (.int .i64 cs[m].kind) ∧ w.cell? (Addr.add (Addr.add b ((m : Int).toNat * 3)) 1) = some (.int .u64 (cs[m].v : Int)) ∧ w.cell? (Addr.add (Addr.add b ((m : Int).toNat * 3)) 2) = some (.int .i64 cs[m].n) := by
  rw [Int.toNat_natCast]; exact h.cel m hm
theorem wcF_len (bits : List Bool) (kd v : Nat) (n : Int) (hv : v < 18446744073709551616) : (wcF bits kd v n).2.length ≤ bits.length + 5000 := by
  unfold wcF
  split
  · split
    · simp only; omega
    · split
      · simp only; omega
      · simp only [List.length_append, len_lowb]; omega
  · split
    · simp only; omega
    · simp only [List.length_append, zrun_len]; omega
  · split
    · simp only; omega
    · have := bl_le (x := v) (k := 64) (by simpa using hv) hv
      simp only [List.length_append, zrun_len, len_lowb]; omega
  · split
    · simp only; omega
    · split
      · simp only; omega
      · simp only [List.length_append, zrun_len, len_lowb]; omega
theorem rdF_le (L : List Bool) (kd : Nat) (n : Int) : (rdF L kd n).2.1 ≤ L.length := by
  have lw : ∀ a m, (lowF L a m).2 = 0 → a + m ≤ L.length := fun a m h => by
    unfold lowF at h; split at h
    · simp at h
    · omega
  unfold rdF
  split
  · split
    · simp
    · split
      · simp
      · rename_i h; have := lw 0 n.toNat (by omega); simp only; omega
  · split
    · simp
    · rename_i h; have := noF_ok (L := L) (lim := 4096) (by omega); simp only; omega
  · split
    · simp
    · rename_i h; have := noF_ok (L := L) (lim := 63) (by omega)
      split
      · simp
      · rename_i h2; have := lw ((noF L 63).1 + 1) (noF L 63).1 (by omega); simp only; omega
  · split
    · simp
    · split
      · simp
      · rename_i h; have := noF_ok (L := L) (lim := 4096) (by omega)
        split
        · simp
        · split
          · simp
          · rename_i h2; have := lw ((noF L 4096).1 + 1) n.toNat (by omega); simp only; omega
theorem Rd.drop {w : World} {l : Slc} {xs : List Value} (h : Rd w l xs) (hl : xs.length = l.len) (hc : l.len ≤ l.cap) (n : Nat) : Rd w ⟨if l.cap = n then l.a else l.a.map (·.add (n * 1)), l.len - n, l.cap - n⟩ (xs.drop n) := fun i hi => by
  rw [List.length_drop] at hi
  obtain ⟨a, ha, hcell⟩ := h (n + i) (by omega)
  refine ⟨a.add (n * 1), ?_, ?_⟩
  · show (if l.cap = n then l.a else l.a.map (·.add (n * 1))) = _
    rw [if_neg (by omega), ha]; rfl
  · rw [Nat.mul_one, Deep.add_add, hcell, List.getElem?_drop]
theorem On.drop {l : Slc} {n k : Nat} (h : On ⟨if l.cap = n then l.a else l.a.map (·.add (n * 1)), l.len - n, l.cap - n⟩ k) : On l k := by
  obtain ⟨a, ha, rfl⟩ := h
  simp only at ha
  split at ha
  · exact ⟨a, ha, rfl⟩
  · cases hb : l.a with
    | none => rw [hb] at ha; cases ha
    | some b => rw [hb] at ha; cases ha; exact ⟨b, hb, by rw [add_block]⟩
end Go.VC

namespace Go.Proofs.Ytbgbmliladhpeaa.V
open Go Go.VC
variable {w w' w0 : World} {l rl : Slc} {bits L : List Bool} {s r n p bad : Nat} {F : Nat → Prop}
theorem RdB.dropB (h : RdB w l bits) (hc : l.len ≤ l.cap) {m : Nat} (hm : m ≤ l.len) : RdB w ⟨if l.cap = m then l.a else l.a.map (·.add (m * 1)), l.len - m, l.cap - m⟩ (bits.drop m) :=
  ⟨by rw [List.length_drop, h.len], by
    have := h.rd.drop (by rw [List.length_map]; exact h.len) hc m
    rwa [← List.map_drop] at this⟩

theorem rNoughts (h : RdB w l L) (hsz : l.len ≤ 100000000) (lim : Nat) {li : Int} (hli : li = (lim : Int)) : Is 76 #[.slice l.a l.len l.cap, .int .i64 li] w (.tuple #[.int .i64 (noF L lim).1, .int .i64 (noF L lim).2]) := by
  subst hli
  refine c76 _ _ _ _ ?_
  unfold B76
  have hl := h.len
  refine ⟨fun i w' => w' = w ∧ ∃ m : Nat, i = m ∧ m ≤ L.length ∧ m ≤ lim ∧ ∀ j, j < m → bg L j = false, fun i _ => (l.len - i).toNat, ⟨rfl, 0, rfl, by omega, by omega, fun j hj => by omega⟩, ?_⟩
  rintro i w1 ⟨hw, m, rfl, hm, hml, hj⟩
  obtain rfl : w = w1 := hw.symm
  refine br_dec (fun hlt => ?_) (fun hlt => ⟨?_, rfl⟩)
  · obtain ⟨a, ha, hc⟩ := h.at (i := (m : Int)) (by omega) hlt
    refine ⟨by omega, hlt, a, ha, _, hc, ?_⟩
    rw [Int.toNat_natCast]
    cases hb : bg L m
    · show br (decide _) _ _
      refine br_dec (fun h1 => ⟨?_, rfl⟩) (fun h1 => ?_)
      · have hge : lim < lz L := by
          rcases Nat.lt_or_ge lim (lz L) with g | g
          · exact g
          · have h2 := lz_true (L := L) (by omega)
            by_cases e : lz L = m
            · rw [e, hb] at h2; cases h2
            · rw [hj _ (by omega)] at h2; cases h2
        have e : noF L lim = (0, 3) := by unfold noF; rw [if_pos hge]
        rw [e]; rfl
      · rw [w64 (x := (m : Int) + 1) ⟨by omega, by omega⟩]
        refine ⟨⟨rfl, m + 1, by omega, by omega, by omega, fun j hj2 => ?_⟩, by dsimp only; omega⟩
        by_cases e : j = m
        · subst e; exact hb
        · exact hj j (by omega)
    · have hz := lz_eq hj hb
      have e : noF L lim = (m, 0) := by unfold noF; rw [hz, if_neg (by omega), if_pos (by omega)]
      show _ ∧ _
      rw [e]
      exact ⟨rfl, rfl⟩
  · have hz := lz_none (L := L) (fun j hj2 => hj j (by omega))
    have e : noF L lim = (0, 2) := by unfold noF; rw [hz, if_neg (by omega), if_neg (by omega)]
    rw [e]; rfl
theorem rLow6 (h : RdB w l L) (hsz : l.len ≤ 100000000) (a n : Nat) (ha : a ≤ 100000000) (hn : n ≤ 64) {ai : Int} (hai : ai = (a : Int)) : Is 75 #[.slice l.a l.len l.cap, .int .i64 ai, .int .i64 n] w (.tuple #[.int .u64 (lowF L a n).1, .int .i64 (lowF L a n).2]) := by
  subst hai
  refine c75 _ _ _ _ _ ?_
  unfold B75
  have hl := h.len
  refine br_dec (fun h1 => ⟨?_, rfl⟩) (fun h1 => ?_)
  · have e : lowF L a n = (0, 2) := by unfold lowF; rw [if_pos (by omega)]
    rw [e]; rfl
  · rw [w64 (x := (l.len : Int) - (a : Int)) ⟨by omega, by omega⟩]
    refine br_dec (fun h2 => ⟨?_, rfl⟩) (fun h2 => usei (cut2 h (by omega) _ _ ⟨by omega, by omega⟩) ⟨_, rfl, ?_, rfl⟩)
    · have e : lowF L a n = (0, 2) := by unfold lowF; rw [if_pos (by omega)]
      rw [e]; rfl
    · have e : lowF L a n = (cutN L a n, 0) := by unfold lowF; rw [if_neg (by omega)]
      rw [e, cutL_nat, show clampW (n : Int) = n by unfold clampW; omega]; rfl
theorem rPower (w : World) (k : Nat) (hk : k ≤ 63) : Is 77 #[.int .i64 k] w (.int .u64 ((2 ^ k : Nat) : Int)) := by
  refine c77 _ _ _ ?_
  unfold B77
  refine ⟨fun x i w' => w' = w ∧ ∃ j : Nat, i = j ∧ j ≤ k ∧ x = ((2 ^ j : Nat) : Int), fun _ i _ => (k - i).toNat, ⟨rfl, 0, rfl, by omega, rfl⟩, ?_⟩
  rintro x i w1 ⟨rfl, j, rfl, hj, rfl⟩
  refine br_dec (fun h1 => ⟨⟨rfl, j + 1, ?_, by omega, ?_⟩, ?_⟩) (fun h1 => ⟨?_, rfl⟩)
  · rw [w64 ⟨by omega, by omega⟩]; rfl
  · have hp : (2 : Nat) ^ (j + 1) ≤ 2 ^ 63 := Nat.pow_le_pow_right (by omega) (by omega)
    have e : ((2 ^ j : Nat) : Int) * 2 = ((2 ^ (j + 1) : Nat) : Int) := by rw [Nat.pow_succ]; push_cast; rfl
    rw [e]
    generalize 2 ^ (j + 1) = q at *
    exact wu64 ⟨by omega, by omega⟩
  · rw [w64 (x := (j : Int) + 1) ⟨by omega, by omega⟩]; dsimp only; omega
  · rw [show j = k by omega]

theorem rRead (h : RdB w l L) (hsz : l.len ≤ 10000000) {kd : Nat} (hk : kd ≤ 3) (n : Int) : Is 25 #[.slice l.a l.len l.cap, .int .i64 kd, .int .i64 n] w (.tuple #[.int .u64 (rdF L kd n).1, .int .i64 (rdF L kd n).2.1, .int .i64 (rdF L kd n).2.2]) := by
  refine c25 _ _ _ _ _ ?_
  unfold B25
  have hl := h.len
  have hu : kd = 0 ∨ kd = 1 ∨ kd = 2 ∨ kd = 3 := by omega
  rcases hu with rfl | rfl | rfl | rfl
  · simp only [rdF]
    refine yes rfl (br_dec (fun h1 => ⟨?_, trivial⟩) (fun h1 => br_dec (fun h2 => ⟨?_, trivial⟩) (fun h2 => ?_)))
    · rw [if_pos (.inl h1)]; rfl
    · rw [if_pos (.inr h2)]; rfl
    · obtain ⟨m, rfl⟩ : ∃ m : Nat, n = m := ⟨n.toNat, by omega⟩
      rw [if_neg (by omega), Int.toNat_natCast]
      refine usei (rLow6 h (by omega) 0 m (by omega) (by omega) rfl) ⟨_, _, rfl, br_not (br_dec (fun h3 => ⟨?_, rfl⟩) (fun h3 => ⟨?_, rfl⟩))⟩
      · rw [if_neg (by omega)]; rfl
      · rw [if_pos (by omega)]; rfl
  · simp only [rdF]
    refine nope (by decide) (yes rfl (usei (rNoughts h (by omega) 4096 rfl) ⟨_, _, rfl, br_not (br_dec (fun h3 => ⟨?_, rfl⟩) (fun h3 => ⟨?_, rfl⟩))⟩))
    · have := noF_ok (L := L) (lim := 4096) (by omega)
      rw [if_neg (by omega), wu64 (x := ((noF L 4096).1 : Int)) ⟨by omega, by omega⟩, w64 ⟨by omega, by omega⟩]; rfl
    · rw [if_pos (by omega)]; rfl
  · simp only [rdF]
    refine nope (by decide) (nope (by decide) (yes rfl (usei (rNoughts h (by omega) 63 rfl) ⟨_, _, rfl, br_not (br_dec (fun h3 => ?_) (fun h3 => ⟨?_, rfl⟩))⟩)))
    · have := noF_ok (L := L) (lim := 63) (by omega)
      rw [if_neg (by omega)]
      generalize (noF L 63).1 = q at *
      have hlt := lowF_lt L (q + 1) q
      refine usei (rLow6 h (by omega) (q + 1) q (by omega) (by omega) (by rw [w64 ⟨by omega, by omega⟩]; omega)) ⟨_, _, rfl, br_not (br_dec (fun h4 => usei (rPower _ q (by omega)) ⟨_, rfl, ?_, rfl⟩) (fun h4 => ⟨?_, rfl⟩))⟩
      · rw [if_neg (by omega)]
        have hp2 : (2 : Nat) ^ q ≤ 2 ^ 63 := Nat.pow_le_pow_right (by omega) (by omega)
        generalize 2 ^ q = z at *
        rw [wu64 (x := ((z : Nat) : Int) + ((lowF L (q + 1) q).1 : Int)) ⟨by omega, by omega⟩, w64 (x := 2 * (q : Int)) ⟨by omega, by omega⟩, w64 ⟨by omega, by omega⟩]; rfl
      · rw [if_pos (by omega)]; rfl
    · rw [if_pos (by omega)]; rfl
  · simp only [rdF]
    refine nope (by decide) (nope (by decide) (nope (by decide) (br_dec (fun h1 => ⟨?_, trivial⟩) (fun h1 => br_dec (fun h2 => ⟨?_, trivial⟩) (fun h2 => ?_)))))
    · rw [if_pos (.inl h1)]; rfl
    · rw [if_pos (.inr h2)]; rfl
    · obtain ⟨m, rfl⟩ : ∃ m : Nat, n = m := ⟨n.toNat, by omega⟩
      rw [if_neg (by omega), Int.toNat_natCast]
      refine usei (rNoughts h (by omega) 4096 rfl) ⟨_, _, rfl, br_not (br_dec (fun h3 => ?_) (fun h3 => ⟨?_, rfl⟩))⟩
      · have := noF_ok (L := L) (lim := 4096) (by omega)
        rw [if_neg (by omega)]
        generalize (noF L 4096).1 = q at *
        have hbl := bl_le (x := q) (k := 64) (by omega) (by omega)
        rw [wu64 (x := (q : Int)) ⟨by omega, by omega⟩]
        refine usei (rwidth _ q (by omega)) ⟨_, rfl, ?_⟩
        rw [w64 (x := (Lib.bitLen q : Int) + (m : Int)) ⟨by omega, by omega⟩]
        refine br_dec (fun h4 => ⟨?_, rfl⟩) (fun h4 => ?_)
        · rw [if_pos (by omega)]; rfl
        · rw [if_neg (by omega)]
          have hlt := lowF_lt L (q + 1) m
          refine usei (rLow6 h (by omega) (q + 1) m (by omega) (by omega) (by rw [w64 ⟨by omega, by omega⟩]; omega)) ⟨_, _, rfl, br_not (br_dec (fun h5 => usei (rPower _ m (by omega)) ⟨_, rfl, ?_, rfl⟩) (fun h5 => ⟨?_, rfl⟩))⟩
          · rw [if_neg (by omega)]
            have hr := rice_lt (q := q) hlt (by omega) (by omega)
            rw [← Int.natCast_mul, wu64 (x := ((q * 2 ^ m : Nat) : Int)) ⟨by omega, by omega⟩, wu64 (x := ((q * 2 ^ m : Nat) : Int) + ((lowF L (q + 1) m).1 : Int)) ⟨by omega, by omega⟩, w64 (x := (q : Int) + 1) ⟨by omega, by omega⟩, w64 ⟨by omega, by omega⟩]; rfl
          · rw [if_pos (by omega)]; rfl
      · rw [if_pos (by omega)]; rfl

theorem bits_back (bits : List Bool) : bitsW (wordsOf bits) bits.length = bits :=
  bg_ext (bitsW_len _ _) fun i hi => by rw [bg_bitsW _ _ _ (by rwa [bitsW_len] at hi), wbit_wordsOf]
theorem wCopied (h : Row w r l bits) (hsz : bits.length ≤ 10000000) : Calls Try.prog 72 #[.pointer (some ⟨r, 0, none⟩)] w (Rv fun v w' => ∃ r2 l2, v = .pointer (some ⟨r2, 0, none⟩) ∧ Row w' r2 l2 bits ∧ Kp no w w' ∧ ∀ k, RF r2 l2 k → w.heap.size ≤ k) := by
  refine c72 _ _ _ ?_
  unfold B72
  refine use (words1 h (by omega)) ?_
  rintro _ w1 ⟨o, rfl, ho, k1, f1⟩
  have hw := ho.rdW (fun _ hx => wordsOf_lt hx)
  have hwl := hw.len
  have hlw := length_wordsOf bits
  refine ⟨o, rfl, usei (len1 (h.kp k1 (fun _ _ f => f))) ⟨_, rfl, use (of1 hw (by omega) _ ⟨by omega, by omega⟩) ?_⟩⟩
  rintro _ w2 ⟨k2, hv⟩
  rw [Int.toNat_natCast, bits_back] at hv
  rcases hv with ⟨_, g | g⟩ | ⟨_, _, _, g⟩ | ⟨r2, l2, rfl, _, _, _, hr, f2⟩
  · omega
  · omega
  · exact absurd rfl g
  · have := k1.size
    exact ⟨_, _, rfl, r2, l2, rfl, hr, k1.t k2, fun k hk => by have := f2 k hk; omega⟩
theorem wCopiedN (w : World) : Calls Try.prog 72 #[.pointer none] w (Rv fun v w' => ∃ r2 l2, v = .pointer (some ⟨r2, 0, none⟩) ∧ Row w' r2 l2 [] ∧ Kp no w w' ∧ ∀ k, RF r2 l2 k → w.heap.size ≤ k) := by
  refine c72n _ _ ?_
  unfold B72n
  have hw : RdW w ⟨none, 0, 0⟩ [] := ⟨rfl, Rd.nil _ _, by simp⟩
  have ho := of1 hw (by simp) 0 ⟨by omega, by omega⟩
  refine usei (nWords w) ⟨⟨none, 0, 0⟩, rfl, usei (nLen w) ⟨_, rfl, use ho ?_⟩⟩
  rintro _ w2 ⟨k2, hv⟩
  rcases hv with ⟨_, g | g⟩ | ⟨_, _, _, g⟩ | ⟨r2, l2, rfl, _, _, _, hr, f2⟩
  · omega
  · simp at g
  · exact absurd rfl g
  · exact ⟨_, _, rfl, r2, l2, rfl, hr, k2, f2⟩
theorem wRow (h : Wst w s bits F) (hsz : bits.length ≤ 10000000) : Calls Try.prog 18 #[.pointer (some ⟨s, 0, none⟩)] w (Rv fun v w' => ∃ r2 l2, v = .pointer (some ⟨r2, 0, none⟩) ∧ Row w' r2 l2 bits ∧ Kp no w w' ∧ ∀ k, RF r2 l2 k → w.heap.size ≤ k) := by
  refine c18 _ _ _ ?_
  unfold B18
  rcases h with ⟨hb, rfl, _⟩ | ⟨r, l, h⟩
  · refine ⟨_, hb.cell 0, use (wCopiedN w) ?_⟩
    rintro _ w1 ⟨r2, l2, rfl, g⟩
    exact ⟨_, rfl, r2, l2, rfl, g⟩
  · refine ⟨_, h.blk.cell 0, use (wCopied h.row hsz) ?_⟩
    rintro _ w1 ⟨r2, l2, rfl, g⟩
    exact ⟨_, rfl, r2, l2, rfl, g⟩
theorem wRowN (w : World) : Calls Try.prog 18 #[.pointer none] w (Rv fun v w' => ∃ r2, v = .pointer (some ⟨r2, 0, none⟩) ∧ Row w' r2 ⟨none, 0, 0⟩ [] ∧ Kp no w w') := by
  refine c18n _ _ ?_
  unfold B18n
  refine use (new w) ?_
  rintro _ w1 ⟨rfl, hr, k1⟩
  exact ⟨_, rfl, _, rfl, hr, k1⟩
theorem opened {w w1 : World} {r2 : Nat} {l2 : Slc} (hr : Row w1 r2 l2 bits) (k1 : Kp no w w1) (f1 : ∀ k, RF r2 l2 k → w.heap.size ≤ k) : ∃ s r2' l2', (Value.pointer (some ⟨w1.heap.size, 0, none⟩)) = .pointer (some ⟨s, 0, none⟩) ∧ Rst (w1.alloc (.cells #[.pointer (some ⟨r2, 0, none⟩), .int .i64 0, .int .i64 0] 97)) s r2' l2' bits 0 0 ∧
    Kp no w (w1.alloc (.cells #[.pointer (some ⟨r2, 0, none⟩), .int .i64 0, .int .i64 0] 97)) ∧ w.heap.size ≤ s ∧ ∀ k, RF r2' l2' k → w.heap.size ≤ k := by
  have k2 : Kp no w1 (w1.alloc (.cells #[.pointer (some ⟨r2, 0, none⟩), .int .i64 0, .int .i64 0] 97)) := (Kp.refl _ _).alloc _ _
  exact ⟨_, r2, l2, rfl, ⟨Blk.new w1 [.pointer (some ⟨r2, 0, none⟩), .int .i64 0, .int .i64 0] 97, hr.kp k2 (fun _ _ f => f), fun k hk => by have := hr.lt hk; omega, Nat.zero_le _⟩, k1.t k2, k1.size, f1⟩
theorem rOpen (h : Row w r l bits) (hsz : bits.length ≤ 10000000) : Calls Try.prog 24 #[.pointer (some ⟨r, 0, none⟩)] w (Rv fun v w' => ∃ s r2 l2, v = .pointer (some ⟨s, 0, none⟩) ∧ Rst w' s r2 l2 bits 0 0 ∧ Kp no w w' ∧ w.heap.size ≤ s ∧ ∀ k, RF r2 l2 k → w.heap.size ≤ k) := by
  refine c24 _ _ _ ?_
  unfold B24
  refine use (wCopied h hsz) ?_
  rintro _ w1 ⟨r2, l2, rfl, hr, k1, f1⟩
  exact ⟨_, rfl, opened hr k1 f1⟩
theorem rOpenN (w : World) : Calls Try.prog 24 #[.pointer none] w (Rv fun v w' => ∃ s r2 l2, v = .pointer (some ⟨s, 0, none⟩) ∧ Rst w' s r2 l2 [] 0 0 ∧ Kp no w w' ∧ w.heap.size ≤ s ∧ ∀ k, RF r2 l2 k → w.heap.size ≤ k) := by
  refine c24n _ _ ?_
  unfold B24n
  refine use (wCopiedN w) ?_
  rintro _ w1 ⟨r2, l2, rfl, hr, k1, f1⟩
  exact ⟨_, rfl, opened hr k1 f1⟩

/-- A code by value. -/
abbrev cdV (c : Cd) : Value := .agg #[.int .i64 c.kind, .int .u64 (c.v : Int), .int .i64 c.n]
theorem kind6 (w : World) (c : Cd) : IsK 16 #[cdV c] w (.int .i64 (kindN c.kind)) := by
  refine c16 _ _ _ _ _ ?_
  unfold B16
  have hb := Blk.new w [.int .i64 c.kind, .int .u64 (c.v : Int), .int .i64 c.n] 34
  have k : Kp no w (w.alloc (.cells #[.int .i64 c.kind, .int .u64 (c.v : Int), .int .i64 c.n] 34)) := (Kp.refl _ _).alloc _ _
  refine ⟨_, hb.cell 0, br_dec (fun h1 => ⟨?_, k⟩) (fun h1 => ⟨_, hb.cell 0, br_dec (fun h2 => ⟨?_, k⟩) (fun h2 => ⟨_, hb.cell 0, ?_, k⟩)⟩)⟩
  · unfold kindN; rw [if_neg (by omega)]; rfl
  · unfold kindN; rw [if_neg (by omega)]; rfl
  · unfold kindN; rw [if_pos (by omega)]; congr 1; omega
theorem write6 (h : Wst w s bits F) (hsz : bits.length ≤ 10000000) (c : Cd) (hv : c.v < 18446744073709551616) : Calls Try.prog 17 #[.pointer (some ⟨s, 0, none⟩), cdV c] w (Rv (Wrt w s F (wcF bits (kindN c.kind) c.v c.n))) := by
  refine c17 _ _ _ _ _ _ ?_
  unfold B17
  have hb := Blk.new w [.int .i64 c.kind, .int .u64 (c.v : Int), .int .i64 c.n] 34
  have k : Kp no w (w.alloc (.cells #[.int .i64 c.kind, .int .u64 (c.v : Int), .int .i64 c.n] 34)) := (Kp.refl _ _).alloc _ _
  have h' := h.kp k (fun _ _ f => f)
  generalize w.alloc (.cells #[.int .i64 c.kind, .int .u64 (c.v : Int), .int .i64 c.n] 34) = w1 at *
  have fin : ∀ {res : Int × List Bool} {v : Value} {w2 : World}, Wrt w1 s F res v w2 → ∃ n : Int, v = .int .i64 n ∧ Wrt w s F res (.int .i64 n) w2 := fun hw => ⟨_, hw.1, rfl, by
    obtain ⟨_, F', g1, g2⟩ := hw
    exact ⟨F', g1, (Gro.no k).trans g2⟩⟩
  refine ⟨_, hb.cell 0, br_dec (fun h1 => ?_) (fun h1 => br_dec (fun h2 => ?_) (fun h2 => br_dec (fun h3 => ?_) (fun h3 => ?_)))⟩
  · rw [show kindN c.kind = 0 by unfold kindN; rw [if_pos (by omega)]; omega]
    exact ⟨_, hb.cell 1, _, hb.cell 2, use (wFixed h' (by omega) c.v hv c.n) fun _ _ hw => fin hw⟩
  · rw [show kindN c.kind = 1 by unfold kindN; rw [if_pos (by omega)]; omega]
    exact ⟨_, hb.cell 2, use (wUnary h' (by omega) c.v c.n) fun _ _ hw => fin hw⟩
  · rw [show kindN c.kind = 2 by unfold kindN; rw [if_pos (by omega)]; omega]
    exact ⟨_, hb.cell 1, use (wGamma h' hsz c.v hv c.n) fun _ _ hw => fin hw⟩
  · rw [show kindN c.kind = 3 by unfold kindN; rw [if_neg (by omega)]]
    exact ⟨_, hb.cell 1, _, hb.cell 2, use (wRice h' hsz c.v hv c.n) fun _ _ hw => fin hw⟩
theorem write6N (w : World) (c : Cd) : IsK 17 #[.pointer none, cdV c] w (.int .i64 11) := by
  refine c17n _ _ _ _ _ ?_
  unfold B17n
  have hb := Blk.new w [.int .i64 c.kind, .int .u64 (c.v : Int), .int .i64 c.n] 34
  have k : Kp no w (w.alloc (.cells #[.int .i64 c.kind, .int .u64 (c.v : Int), .int .i64 c.n] 34)) := (Kp.refl _ _).alloc _ _
  generalize w.alloc (.cells #[.int .i64 c.kind, .int .u64 (c.v : Int), .int .i64 c.n] 34) = w1 at *
  refine ⟨_, hb.cell 0, br_dec (fun h1 => ?_) (fun h1 => br_dec (fun h2 => ?_) (fun h2 => br_dec (fun h3 => ?_) (fun h3 => ?_)))⟩
  · exact ⟨_, hb.cell 1, _, hb.cell 2, c69n _ _ _ _ ⟨_, rfl, rfl, k⟩⟩
  · exact ⟨_, hb.cell 2, c70n _ _ _ ⟨_, rfl, rfl, k⟩⟩
  · exact ⟨_, hb.cell 1, c59n _ _ _ ⟨_, rfl, rfl, k⟩⟩
  · exact ⟨_, hb.cell 1, _, hb.cell 2, c60n _ _ _ _ ⟨_, rfl, rfl, k⟩⟩
theorem read6 (h : Rst w s r rl bits p bad) (hsz : bits.length ≤ 10000000) (c : Cd) : Calls Try.prog 26 #[.pointer (some ⟨s, 0, none⟩), cdV c] w (Rv fun v w' => Rdd w s r rl bits p (rdS bits p bad (kindN c.kind) c.n) v .u64 w') := by
  refine c26 _ _ _ _ _ _ ?_
  unfold B26
  have hb := Blk.new w [.int .i64 c.kind, .int .u64 (c.v : Int), .int .i64 c.n] 34
  have k : Kp no w (w.alloc (.cells #[.int .i64 c.kind, .int .u64 (c.v : Int), .int .i64 c.n] 34)) := (Kp.refl _ _).alloc _ _
  have h' := h.kpo k
  generalize w.alloc (.cells #[.int .i64 c.kind, .int .u64 (c.v : Int), .int .i64 c.n] 34) = w1 at *
  have kS : ∀ {w2 : World}, Kp (fun k => k = s) w1 w2 → Kp (fun k => k = s) w w2 := fun g => (k.mono (fun _ _ f => f.elim)).trans g (fun _ _ e => e)
  refine ⟨_, hb.cell 0, br_dec (fun h1 => ?_) (fun h1 => br_dec (fun h2 => ?_) (fun h2 => br_dec (fun h3 => ?_) (fun h3 => ?_)))⟩
  · rw [show kindN c.kind = 0 by unfold kindN; rw [if_pos (by omega)]; omega]
    exact ⟨_, hb.cell 2, use (rFixed h' hsz c.n) fun _ _ ⟨g1, g2, g3⟩ => ⟨_, g2, kS g1, rfl, g3⟩⟩
  · rw [show kindN c.kind = 1 by unfold kindN; rw [if_pos (by omega)]; omega]
    refine use (rUnaryR h' hsz c.n) fun _ _ ⟨⟨g1, g2, g3⟩, g4⟩ => ⟨_, g2, kS g1, ?_, g3⟩
    rw [wu64 ⟨by omega, by omega⟩]
  · rw [show kindN c.kind = 2 by unfold kindN; rw [if_pos (by omega)]; omega]
    exact use (rGamma h' hsz c.n) fun _ _ ⟨g1, g2, g3⟩ => ⟨_, g2, kS g1, rfl, g3⟩
  · rw [show kindN c.kind = 3 by unfold kindN; rw [if_neg (by omega)]]
    exact ⟨_, hb.cell 2, use (rRice h' hsz c.n) fun _ _ ⟨g1, g2, g3⟩ => ⟨_, g2, kS g1, rfl, g3⟩⟩
theorem goesN (w : World) : Is 95 #[.pointer none] w (.bool false) := c95n _ _ ⟨rfl, rfl⟩
theorem read6N (w : World) (c : Cd) : IsK 26 #[.pointer none, cdV c] w (.int .u64 0) := by
  refine c26n _ _ _ _ _ ?_
  unfold B26n
  have hb := Blk.new w [.int .i64 c.kind, .int .u64 (c.v : Int), .int .i64 c.n] 34
  have k : Kp no w (w.alloc (.cells #[.int .i64 c.kind, .int .u64 (c.v : Int), .int .i64 c.n] 34)) := (Kp.refl _ _).alloc _ _
  generalize w.alloc (.cells #[.int .i64 c.kind, .int .u64 (c.v : Int), .int .i64 c.n] 34) = w1 at *
  refine ⟨_, hb.cell 0, br_dec (fun h1 => ?_) (fun h1 => br_dec (fun h2 => ?_) (fun h2 => br_dec (fun h3 => ?_) (fun h3 => ?_)))⟩
  · refine ⟨_, hb.cell 2, c78n _ _ _ ?_⟩
    unfold B78n
    exact usei (goesN _) ⟨_, rfl, brT ⟨_, rfl, rfl, k⟩⟩
  · refine c79n _ _ ?_
    unfold B79n
    exact usei (goesN _) ⟨_, rfl, brT ⟨_, rfl, rfl, k⟩⟩
  · refine c62n _ _ ?_
    unfold B62n
    exact usei (goesN _) ⟨_, rfl, brT ⟨_, rfl, rfl, k⟩⟩
  · refine ⟨_, hb.cell 2, c63n _ _ _ ?_⟩
    unfold B63n
    exact usei (goesN _) ⟨_, rfl, brT ⟨_, rfl, rfl, k⟩⟩
theorem leftN (w : World) : Is 27 #[.pointer none] w (.int .i64 0) := c27n _ _ ⟨rfl, rfl⟩
theorem errN (w : World) : Is 28 #[.pointer none] w (.int .i64 11) := c28n _ _ ⟨rfl, rfl⟩
theorem endN (w : World) : Is 29 #[.pointer none] w (.int .i64 11) := c29n _ _ (by
  unfold B29n
  exact usei (errN w) ⟨_, rfl, nope (by decide) (usei (errN w) ⟨_, rfl, rfl, rfl⟩)⟩)
end Go.Proofs.Ytbgbmliladhpeaa.V
