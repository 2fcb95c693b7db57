/- Streams: what is read. -/
import Derived.Test.YtbgbmliladhpeaaTw
namespace Go.VC
open Go
theorem lowF_at {bits : List Bool} {p : Nat} (h : p ≤ bits.length) (a n : Nat) : lowF (bits.drop p) a n = lowF bits (p + a) n := by
  unfold lowF
  rw [List.length_drop, cutN_drop]
  by_cases g : bits.length < p + a + n
  · rw [if_pos (by omega), if_pos g]
  · rw [if_neg (by omega), if_neg g]
theorem lowF_lt (L : List Bool) (a n : Nat) : (lowF L a n).1 < 2 ^ n := by
  unfold lowF
  split
  · exact Nat.two_pow_pos _
  · exact cutN_lt _ _ _
theorem lowF_err (L : List Bool) (a n : Nat) : (lowF L a n).2 = 0 ∨ (lowF L a n).2 = 2 := by
  unfold lowF; split <;> simp
theorem noF_ok {L : List Bool} {lim : Nat} (h : (noF L lim).2 = 0) : (noF L lim).1 = lz L ∧ lz L < L.length ∧ lz L ≤ lim := by
  unfold noF at h ⊢
  split at h
  · simp at h
  · rename_i h1
    split at h
    · rename_i h2; rw [if_neg h1, if_pos h2]; exact ⟨rfl, h2, by omega⟩
    · simp at h
/-- What a read comes to, if nothing was wrong before. -/
def rdS (bits : List Bool) (p bad kd : Nat) (n : Int) : Nat × Nat × Nat := if bad = 0 then rdF (bits.drop p) kd n else (0, 0, bad)
def kindN (k : Int) : Nat := if 0 ≤ k ∧ k ≤ 2 then k.toNat else 3
theorem kindN_le (k : Int) : kindN k ≤ 3 := by unfold kindN; split <;> omega
theorem or_u64' {a b : Nat} (ha : a < 18446744073709551616) (hb : b < 18446744073709551616) : bOr .u64 (a : Int) (b : Int) = ((a ||| b : Nat) : Int) := by
  unfold bOr
  rw [BitVec.toNat_or, bits_of, bits_of]
  simp only [IntKind.bits, Nat.reducePow, Nat.mod_eq_of_lt ha, Nat.mod_eq_of_lt hb]
  have : a ||| b < 2 ^ 64 := Nat.or_lt_two_pow (by omega) (by omega)
  exact wu64 ⟨by omega, by omega⟩
theorem shl_u64' {q n : Nat} (hn : n ≤ 64) (h : q * 2 ^ n < 18446744073709551616) : shL .u64 (q : Int) (n : Int) = ((q * 2 ^ n : Nat) : Int) := by
  unfold shL
  simp only [Int.toNat_natCast, IntKind.bits]
  rw [Nat.min_eq_left (by omega)]
  have e : (q : Int) * 2 ^ n = ((q * 2 ^ n : Nat) : Int) := by push_cast; rfl
  rw [e]
  exact wu64 ⟨by omega, by omega⟩
theorem shl_or {q n v : Nat} (hv : v < 2 ^ n) (hn : n ≤ 64) (h : q * 2 ^ n + v < 18446744073709551616) : bOr .u64 (shL .u64 (q : Int) (n : Int)) (v : Int) = ((q * 2 ^ n + v : Nat) : Int) := by
  rw [shl_u64' hn (by omega), or_u64' (by omega) (by omega), ← Nat.shiftLeft_eq, Nat.shiftLeft_add_eq_or_of_lt hv]
theorem rice_lt {q n v : Nat} (hv : v < 2 ^ n) (hq : q ≤ 4096) (h : Lib.bitLen q + n ≤ 64) : q * 2 ^ n + v < 18446744073709551616 := by
  have h1 := bl_lt q (by omega) (Lib.bitLen q) (Nat.le_refl _)
  have h2 : (q + 1) * 2 ^ n ≤ 2 ^ Lib.bitLen q * 2 ^ n := Nat.mul_le_mul_right _ h1
  rw [← Nat.pow_add] at h2
  have h3 : (2 : Nat) ^ (Lib.bitLen q + n) ≤ 2 ^ 64 := Nat.pow_le_pow_right (by omega) h
  rw [Nat.add_mul, Nat.one_mul] at h2
  omega
end Go.VC

namespace Go.Proofs.Ytbgbmliladhpeaa.V
open Go Go.VC
variable {w w' w0 : World} {l rl : Slc} {bits L : List Bool} {s r n p bad : Nat}

/-- A reader: its bits, how many of them are taken, what is wrong. -/
structure Rst (w : World) (s r : Nat) (rl : Slc) (bits : List Bool) (p bad : Nat) : Prop where
  blk : Blk w s [.pointer (some ⟨r, 0, none⟩), .int .i64 (p : Int), .int .i64 (bad : Int)] 97
  row : Row w r rl bits
  ns : ∀ k, RF r rl k → k ≠ s
  le : p ≤ bits.length
theorem Rst.kpo (h : Rst w s r rl bits p bad) (g : Kp no w w') : Rst w' s r rl bits p bad := ⟨h.blk.kp g id, h.row.kp g (fun _ _ f => f), h.ns, h.le⟩
theorem Rst.kp {S : Nat → Prop} (h : Rst w s r rl bits p bad) (g : Kp S w w') (hs : ¬ S s) (hr : ∀ k, RF r rl k → ¬ S k) : Rst w' s r rl bits p bad := ⟨h.blk.kp g hs, h.row.kp g hr, h.ns, h.le⟩
theorem Rst.at (h : Rst w s r rl bits p bad) (q : Nat) (hq : q ≤ bits.length) : (∃ u, w.cell? (Addr.add ⟨s, 0, none⟩ 1) = some u) ∧ w.frozen? (Addr.add ⟨s, 0, none⟩ 1) = false ∧
    Rst (w.setCell (Addr.add ⟨s, 0, none⟩ 1) (.int .i64 (q : Int))) s r rl bits q bad ∧ Kp (fun k => k = s) w (w.setCell (Addr.add ⟨s, 0, none⟩ 1) (.int .i64 (q : Int))) := by
  have k : Kp (fun k => k = s) w (w.setCell (Addr.add ⟨s, 0, none⟩ 1) (.int .i64 (q : Int))) := (Kp.refl _ _).set _ _ (fun _ => by rw [add_block])
  exact ⟨⟨_, h.blk.cell 1⟩, h.blk.frozen 1, ⟨h.blk.set 1 (.int .i64 (q : Int)), h.row.kp k h.ns, h.ns, hq⟩, k⟩
theorem rFails (h : Rst w s r rl bits p 0) (e : Nat) {ei : Int} (he : ei = (e : Int)) : Calls Try.prog 98 #[.pointer (some ⟨s, 0, none⟩), .int .i64 ei] w (Rv fun v w' => v = .tuple #[] ∧ Rst w' s r rl bits p e ∧ Kp (fun k => k = s) w w') := by
  subst he
  refine c98 _ _ _ _ ?_
  unfold B98
  have k : Kp (fun k => k = s) w (w.setCell (Addr.add ⟨s, 0, none⟩ 2) (.int .i64 (e : Int))) := (Kp.refl _ _).set _ _ (fun _ => by rw [add_block])
  exact ⟨_, h.blk.cell 2, yes rfl ⟨⟨_, h.blk.cell 2⟩, h.blk.frozen 2, rfl, ⟨h.blk.set 2 (.int .i64 (e : Int)), h.row.kp k h.ns, h.ns, h.le⟩, k⟩⟩
theorem rGoes (h : Rst w s r rl bits p bad) : Is 95 #[.pointer (some ⟨s, 0, none⟩)] w (.bool (decide ((bad : Int) = 0))) := by
  refine c95 _ _ _ ?_
  unfold B95
  exact ⟨_, h.blk.cell 0, brT ⟨_, h.blk.cell 2, rfl, rfl⟩⟩
theorem rErr (h : Rst w s r rl bits p bad) : Is 28 #[.pointer (some ⟨s, 0, none⟩)] w (.int .i64 bad) := by
  refine c28 _ _ _ ?_
  unfold B28
  exact ⟨_, h.blk.cell 2, rfl, rfl⟩
theorem rLeft (h : Rst w s r rl bits p bad) (hsz : bits.length ≤ 10000000) : IsK 27 #[.pointer (some ⟨s, 0, none⟩)] w (.int .i64 ((bits.drop p).length : Nat)) := by
  refine c27 _ _ _ ?_
  unfold B27
  have k0 : Kp no w w.drew := (Kp.refl no w).drew
  have h0 := h.kpo k0
  have := h.le
  refine ⟨_, h0.blk.cell 0, _, h0.blk.cell 1, usei (len1 h0.row) ⟨_, rfl, h0.blk.cell 1, ?_, k0⟩⟩
  rw [w64 ⟨by omega, by omega⟩, List.length_drop]
  congr 1
  omega
theorem rEnd (h : Rst w s r rl bits p bad) (hsz : bits.length ≤ 10000000) : IsK 29 #[.pointer (some ⟨s, 0, none⟩)] w (.int .i64 ((if bad = 0 ∧ 0 < (bits.drop p).length then 3 else bad : Nat) : Int)) := by
  refine c29 _ _ _ ?_
  unfold B29
  refine usei (rErr h) ⟨_, rfl, br_dec (fun h1 => usek (rLeft h hsz) fun w1 k1 => ⟨_, rfl, br_dec (fun h2 => ⟨?_, k1⟩) (fun h2 => usei (rErr (h.kpo k1)) ⟨_, rfl, ?_, k1⟩)⟩) (fun h1 => usei (rErr h) ⟨_, rfl, ?_, Kp.refl _ _⟩)⟩
  · rw [if_pos ⟨by omega, by omega⟩]; rfl
  · rw [if_neg (by omega)]
  · rw [if_neg (by omega)]

theorem rZeros (h : Rst w s r rl bits p 0) (hsz : bits.length ≤ 10000000) (lim : Nat) {li : Int} (hli : li = (lim : Int)) : Calls Try.prog 96 #[.pointer (some ⟨s, 0, none⟩), .int .i64 li] w (Rv fun v w' => Kp (fun k => k = s) w w' ∧ Rst w' s r rl bits p (noF (bits.drop p) lim).2 ∧
    ((v = .int .i64 ((noF (bits.drop p) lim).1 : Nat) ∧ (noF (bits.drop p) lim).2 = 0) ∨ (v = .int .i64 (-1) ∧ (noF (bits.drop p) lim).2 ≠ 0))) := by
  subst hli
  refine c96 _ _ _ _ ?_
  unfold B96
  have k0 : Kp no w w.drew := (Kp.refl no w).drew
  have h0 := h.kpo k0
  have hp := h.le
  have kS : ∀ {a b c : World}, Kp no a b → Kp (fun k => k = s) b c → Kp (fun k => k = s) a c := fun g1 g2 => (g1.mono (fun _ _ f => f.elim)).trans g2 (fun _ _ e => e)
  refine ⟨_, h0.blk.cell 0, _, h0.blk.cell 1, use (next1 h0.row (by omega) _) ?_⟩
  rintro _ _ ⟨rfl, x, rfl, hx⟩
  have hll : (bits.drop p).length = bits.length - p := List.length_drop ..
  refine ⟨_, rfl, _, h0.blk.cell 1, ?_⟩
  rcases next_lz hx with ⟨rfl, hz⟩ | ⟨rfl, hz⟩
  · have k1 : Kp no w w.drew.drew := k0.drew
    have h1 := h.kpo k1
    refine yes (by omega) ⟨_, h1.blk.cell 0, _, h1.blk.cell 1, usei (len1 h1.row) ⟨_, rfl, h1.blk.cell 1, ?_⟩⟩
    rw [w64 (x := (bits.length : Int) - (p : Int)) ⟨by omega, by omega⟩]
    refine br_dec (fun h2 => ?_) (fun h2 => yes (by omega) ?_)
    · have e : noF (bits.drop p) lim = (0, 3) := by unfold noF; rw [if_pos (by omega)]
      rw [e]
      refine use (rFails h1 3 rfl) ?_
      rintro _ w2 ⟨rfl, h3, k2⟩
      exact ⟨rfl, kS k1 k2, h3, .inr ⟨rfl, by simp⟩⟩
    · have e : noF (bits.drop p) lim = (0, 2) := by unfold noF; rw [if_neg (by omega), if_neg (by omega)]
      rw [e]
      refine use (rFails h1 2 rfl) ?_
      rintro _ w2 ⟨rfl, h3, k2⟩
      exact ⟨rfl, kS k1 k2, h3, .inr ⟨rfl, by simp⟩⟩
  · refine nope (by omega) ?_
    have e0 : IntKind.i64.wrap ((p : Int) + (lz (bits.drop p) : Int) - (p : Int)) = ((lz (bits.drop p) : Nat) : Int) := by rw [w64 ⟨by omega, by omega⟩]; omega
    rw [e0]
    refine br_dec (fun h2 => ?_) (fun h2 => nope (by omega) ?_)
    · have e : noF (bits.drop p) lim = (0, 3) := by unfold noF; rw [if_pos (by omega)]
      rw [e]
      refine use (rFails h0 3 rfl) ?_
      rintro _ w2 ⟨rfl, h3, k2⟩
      exact ⟨rfl, kS k0 k2, h3, .inr ⟨rfl, by simp⟩⟩
    · have e : noF (bits.drop p) lim = (lz (bits.drop p), 0) := by unfold noF; rw [if_neg (by omega), if_pos (by omega)]
      rw [e]
      exact ⟨k0.mono (fun _ _ f => f.elim), h0, .inl ⟨rfl, rfl⟩⟩

theorem rTakes (h : Rst w s r rl bits p 0) (hsz : bits.length ≤ 10000000) (a n : Nat) (ha : a ≤ bits.length) (hn : n ≤ 64) : Calls Try.prog 97 #[.pointer (some ⟨s, 0, none⟩), .int .i64 a, .int .i64 n] w (Rv fun v w' => Kp (fun k => k = s) w w' ∧
    v = .int .u64 ((lowF bits a n).1 : Nat) ∧ Rst w' s r rl bits (if (lowF bits a n).2 = 0 then a + n else p) (lowF bits a n).2) := by
  refine c97 _ _ _ _ _ ?_
  unfold B97
  refine ⟨_, h.blk.cell 0, usei (len1 h.row) ⟨_, rfl, ?_⟩⟩
  rw [w64 (x := (bits.length : Int) - (a : Int)) ⟨by omega, by omega⟩]
  refine br_dec (fun h1 => ?_) (fun h1 => ?_)
  · have e : lowF bits a n = (0, 2) := by unfold lowF; rw [if_pos (by omega)]
    rw [e]
    refine use (rFails h 2 rfl) ?_
    rintro _ w2 ⟨rfl, h3, k2⟩
    exact ⟨rfl, k2, rfl, h3⟩
  · have e : lowF bits a n = (cutN bits a n, 0) := by unfold lowF; rw [if_neg (by omega)]
    rw [e, w64 (x := (a : Int) + (n : Int)) ⟨by omega, by omega⟩, show (a : Int) + (n : Int) = ((a + n : Nat) : Int) by omega]
    obtain ⟨g1, g2, g3, g4⟩ := h.at (a + n) (by omega)
    refine ⟨g1, g2, _, g3.blk.cell 0, usei (cut1 g3.row (by omega) _ _ ⟨by omega, by omega⟩) ⟨_, rfl, g4, ?_, g3⟩⟩
    rw [cutL_nat, show clampW (n : Int) = n by unfold clampW; omega]

/-- What a read comes to. -/
abbrev Rdd (w : World) (s r : Nat) (rl : Slc) (bits : List Bool) (p : Nat) (res : Nat × Nat × Nat) (v : Value) (k : IntKind) (w' : World) : Prop :=
  Kp (fun k => k = s) w w' ∧ v = .int k (res.1 : Nat) ∧ Rst w' s r rl bits (p + res.2.1) res.2.2

theorem rFixed (h : Rst w s r rl bits p bad) (hsz : bits.length ≤ 10000000) (n : Int) : Calls Try.prog 78 #[.pointer (some ⟨s, 0, none⟩), .int .i64 n] w (Rv fun v w' => Rdd w s r rl bits p (rdS bits p bad 0 n) v .u64 w') := by
  refine c78 _ _ _ _ ?_
  unfold B78
  refine usei (rGoes h) ⟨_, rfl, br_not (br_dec (fun h0 => ?_) (fun h0 => ?_))⟩
  · obtain rfl : bad = 0 := by omega
    have er : rdS bits p 0 0 n = rdF (bits.drop p) 0 n := if_pos rfl
    rw [er]
    have arg : (n < 0 ∨ 64 < n) → Calls Try.prog 98 #[.pointer (some ⟨s, 0, none⟩), .int .i64 1] w (Rv fun v4 w5 => v4 = .tuple #[] ∧ Rdd w s r rl bits p (rdF (bits.drop p) 0 n) (.int .u64 0) .u64 w5) := fun hh => by
      have e : rdF (bits.drop p) 0 n = (0, 0, 1) := by simp only [rdF]; rw [if_pos hh]
      rw [e]
      refine use (rFails h 1 rfl) ?_
      rintro _ w2 ⟨rfl, h3, k2⟩
      exact ⟨rfl, k2, rfl, h3⟩
    refine br_dec (fun h1 => arg (.inl h1)) (fun h1 => br_dec (fun h2 => arg (.inr h2)) (fun h2 => ?_))
    obtain ⟨m, rfl⟩ : ∃ m : Nat, n = m := ⟨n.toNat, by omega⟩
    refine ⟨_, h.blk.cell 1, use (rTakes h hsz p m h.le (by omega)) ?_⟩
    rintro _ w1 ⟨k1, rfl, h3⟩
    refine ⟨_, rfl, k1, ?_⟩
    have el := lowF_at h.le 0 m
    rw [Nat.add_zero] at el
    simp only [rdF]
    rw [if_neg (by omega), Int.toNat_natCast, el]
    rcases lowF_err bits p m with e | e
    · rw [if_neg (by omega)]; rw [e, if_pos rfl] at h3; exact ⟨rfl, h3⟩
    · rw [if_pos (by omega)]
      rw [e, if_neg (by omega)] at h3
      rw [e]
      have : (lowF bits p m).1 = 0 := by
        unfold lowF at e ⊢; split at e
        · rename_i g; rw [if_pos g]
        · simp at e
      rw [this]
      exact ⟨rfl, h3⟩
  · have er : rdS bits p bad 0 n = (0, 0, bad) := if_neg (by omega)
    rw [er]; exact ⟨Kp.refl _ _, rfl, h⟩

theorem rUnaryR (h : Rst w s r rl bits p bad) (hsz : bits.length ≤ 10000000) (n : Int) : Calls Try.prog 79 #[.pointer (some ⟨s, 0, none⟩)] w (Rv fun v w' => Rdd w s r rl bits p (rdS bits p bad 1 n) v .i64 w' ∧ (rdS bits p bad 1 n).1 ≤ 4096) := by
  refine c79 _ _ _ ?_
  unfold B79
  refine usei (rGoes h) ⟨_, rfl, br_not (br_dec (fun h0 => ?_) (fun h0 => ?_))⟩
  · obtain rfl : bad = 0 := by omega
    have er : rdS bits p 0 1 n = rdF (bits.drop p) 1 n := if_pos rfl
    rw [er]
    refine use (rZeros h hsz 4096 rfl) ?_
    rintro _ w1 ⟨k1, h1, ⟨rfl, e⟩ | ⟨rfl, e⟩⟩
    · obtain ⟨e1, e2, e3⟩ := noF_ok e
      rw [e] at h1
      rw [List.length_drop] at e2
      simp only [rdF]
      rw [if_neg (by omega)]
      obtain ⟨g1, g2, g3, g4⟩ := h1.at (p + ((noF (bits.drop p) 4096).1 + 1)) (by omega)
      refine ⟨_, rfl, nope (by omega) ⟨_, h1.blk.cell 1, g1, g2, ?_⟩⟩
      have ew : IntKind.i64.wrap ((p : Int) + IntKind.i64.wrap (((noF (bits.drop p) 4096).1 : Int) + 1)) = ((p + ((noF (bits.drop p) 4096).1 + 1) : Nat) : Int) := by
        rw [w64 (x := ((noF (bits.drop p) 4096).1 : Int) + 1) ⟨by omega, by omega⟩, w64 ⟨by omega, by omega⟩]; omega
      rw [ew]
      exact ⟨⟨k1.trans g4 (fun _ _ e => e), rfl, g3⟩, by dsimp only; omega⟩
    · simp only [rdF]
      rw [if_pos e]
      exact ⟨_, rfl, yes (by omega) ⟨⟨k1, rfl, h1⟩, by dsimp only; omega⟩⟩
  · have er : rdS bits p bad 1 n = (0, 0, bad) := if_neg (by omega)
    rw [er]; exact ⟨⟨Kp.refl _ _, rfl, h⟩, by dsimp only; omega⟩

theorem rGamma (h : Rst w s r rl bits p bad) (hsz : bits.length ≤ 10000000) (n : Int) : Calls Try.prog 62 #[.pointer (some ⟨s, 0, none⟩)] w (Rv fun v w' => Rdd w s r rl bits p (rdS bits p bad 2 n) v .u64 w') := by
  refine c62 _ _ _ ?_
  unfold B62
  refine usei (rGoes h) ⟨_, rfl, br_not (br_dec (fun h0 => ?_) (fun h0 => ?_))⟩
  · obtain rfl : bad = 0 := by omega
    have er : rdS bits p 0 2 n = rdF (bits.drop p) 2 n := if_pos rfl
    rw [er]
    refine use (rZeros h hsz 63 rfl) ?_
    rintro _ w1 ⟨k1, h1, ⟨rfl, e⟩ | ⟨rfl, e⟩⟩
    · obtain ⟨e1, e2, e3⟩ := noF_ok e
      rw [e] at h1
      rw [List.length_drop] at e2
      have el := lowF_at h.le ((noF (bits.drop p) 63).1 + 1) (noF (bits.drop p) 63).1
      simp only [rdF]
      rw [if_neg (by omega), el]
      clear el er
      generalize (noF (bits.drop p) 63).1 = q at *
      rw [← Nat.add_assoc]
      refine ⟨_, rfl, nope (by omega) ⟨_, h1.blk.cell 1, ?_⟩⟩
      have ew : IntKind.i64.wrap (IntKind.i64.wrap ((p : Int) + (q : Int)) + 1) = ((p + q + 1 : Nat) : Int) := by
        rw [w64 (x := (p : Int) + (q : Int)) ⟨by omega, by omega⟩, w64 ⟨by omega, by omega⟩]; omega
      rw [ew]
      refine use (rTakes h1 hsz (p + q + 1) q (by omega) (by omega)) ?_
      rintro _ w2 ⟨k2, rfl, h3⟩
      have k12 := k1.trans k2 (fun _ _ e => e)
      refine ⟨_, rfl, _, h3.blk.cell 2, ?_⟩
      have hlt := lowF_lt bits (p + q + 1) q
      rcases lowF_err bits (p + q + 1) q with e | e
      · rw [e] at h3 ⊢
        rw [if_neg (by omega)]
        rw [if_pos rfl] at h3
        refine br_not (yes rfl ?_)
        rw [wu64 (x := (q : Int)) ⟨by omega, by omega⟩]
        have hp2 : (2 : Nat) ^ q ≤ 2 ^ 63 := Nat.pow_le_pow_right (by omega) (by omega)
        have := shl_or (q := 1) hlt (by omega) (by omega)
        rw [Nat.one_mul] at this
        refine ⟨by omega, k12, ?_, ?_⟩
        · rw [show (1 : Int) = ((1 : Nat) : Int) from rfl, this]
        · rw [show p + (2 * q + 1) = p + q + 1 + q by omega]; exact h3
      · rw [e] at h3 ⊢
        rw [if_pos (by omega)]
        rw [if_neg (by omega)] at h3
        exact br_not (nope (by omega) ⟨k12, rfl, h3⟩)
    · simp only [rdF]
      rw [if_pos e]
      exact ⟨_, rfl, yes (by omega) ⟨k1, rfl, h1⟩⟩
  · have er : rdS bits p bad 2 n = (0, 0, bad) := if_neg (by omega)
    rw [er]; exact ⟨Kp.refl _ _, rfl, h⟩

theorem rRice (h : Rst w s r rl bits p bad) (hsz : bits.length ≤ 10000000) (n : Int) : Calls Try.prog 63 #[.pointer (some ⟨s, 0, none⟩), .int .i64 n] w (Rv fun v w' => Rdd w s r rl bits p (rdS bits p bad 3 n) v .u64 w') := by
  refine c63 _ _ _ _ ?_
  unfold B63
  refine usei (rGoes h) ⟨_, rfl, br_not (br_dec (fun h0 => ?_) (fun h0 => ?_))⟩
  · obtain rfl : bad = 0 := by omega
    have er : rdS bits p 0 3 n = rdF (bits.drop p) 3 n := if_pos rfl
    rw [er]
    have arg : (n < 0 ∨ 63 < n) → Calls Try.prog 98 #[.pointer (some ⟨s, 0, none⟩), .int .i64 1] w (Rv fun v4 w5 => v4 = .tuple #[] ∧ Rdd w s r rl bits p (rdF (bits.drop p) 3 n) (.int .u64 0) .u64 w5) := fun hh => by
      have e : rdF (bits.drop p) 3 n = (0, 0, 1) := by simp only [rdF]; rw [if_pos hh]
      rw [e]
      refine use (rFails h 1 rfl) ?_
      rintro _ w2 ⟨rfl, h3, k2⟩
      exact ⟨rfl, k2, rfl, h3⟩
    refine br_dec (fun h1 => arg (.inl h1)) (fun h1 => br_dec (fun h2 => arg (.inr h2)) (fun h2 => ?_))
    clear arg
    obtain ⟨m, rfl⟩ : ∃ m : Nat, n = m := ⟨n.toNat, by omega⟩
    refine use (rZeros h hsz 4096 rfl) ?_
    rintro _ w1 ⟨k1, h1', ⟨rfl, e⟩ | ⟨rfl, e⟩⟩
    · obtain ⟨e1, e2, e3⟩ := noF_ok e
      rw [e] at h1'
      rw [List.length_drop] at e2
      have el := lowF_at h.le ((noF (bits.drop p) 4096).1 + 1) m
      simp only [rdF]
      rw [if_neg (by omega), if_neg (by omega), Int.toNat_natCast, el]
      clear el er
      generalize (noF (bits.drop p) 4096).1 = q at *
      rw [← Nat.add_assoc]
      have hbl := bl_le (x := q) (k := 64) (by omega) (by omega)
      refine ⟨_, rfl, nope (by omega) ?_⟩
      rw [wu64 (x := (q : Int)) ⟨by omega, by omega⟩]
      refine usei (width _ q (by omega)) ⟨_, rfl, ?_⟩
      rw [w64 (x := (Lib.bitLen q : Int) + (m : Int)) ⟨by omega, by omega⟩]
      refine br_dec (fun h4 => ?_) (fun h4 => ⟨_, h1'.blk.cell 1, ?_⟩)
      · rw [if_pos (by omega)]
        refine use (rFails h1' 3 rfl) ?_
        rintro _ w2 ⟨rfl, h3, k2⟩
        exact ⟨rfl, k1.trans k2 (fun _ _ e => e), rfl, h3⟩
      · rw [if_neg (by omega)]
        have ew : IntKind.i64.wrap (IntKind.i64.wrap ((p : Int) + (q : Int)) + 1) = ((p + q + 1 : Nat) : Int) := by
          rw [w64 (x := (p : Int) + (q : Int)) ⟨by omega, by omega⟩, w64 ⟨by omega, by omega⟩]; omega
        rw [ew]
        refine use (rTakes h1' hsz (p + q + 1) m (by omega) (by omega)) ?_
        rintro _ w2 ⟨k2, rfl, h3⟩
        have k12 := k1.trans k2 (fun _ _ e => e)
        refine ⟨_, rfl, _, h3.blk.cell 2, ?_⟩
        have hlt := lowF_lt bits (p + q + 1) m
        rcases lowF_err bits (p + q + 1) m with e | e
        · rw [e] at h3 ⊢
          rw [if_neg (by omega)]
          rw [if_pos rfl] at h3
          refine br_not (yes rfl ?_)
          rw [wu64 (x := (m : Int)) ⟨by omega, by omega⟩, shl_or hlt (by omega) (rice_lt hlt (by omega) (by omega))]
          refine ⟨by omega, k12, rfl, ?_⟩
          rw [show p + (q + 1 + m) = p + q + 1 + m by omega]; exact h3
        · rw [e] at h3 ⊢
          rw [if_pos (by omega)]
          rw [if_neg (by omega)] at h3
          exact br_not (nope (by omega) ⟨k12, rfl, h3⟩)
    · simp only [rdF]
      rw [if_neg (by omega), if_pos e]
      exact ⟨_, rfl, yes (by omega) ⟨k1, rfl, h1'⟩⟩
  · have er : rdS bits p bad 3 n = (0, 0, bad) := if_neg (by omega)
    rw [er]; exact ⟨Kp.refl _ _, rfl, h⟩
end Go.Proofs.Ytbgbmliladhpeaa.V
