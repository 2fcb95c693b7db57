/- Sequences as Elias and Fano told: asked. -/
import Derived.Test.YtomajpihimlcjaaDoorEl
namespace Go.Proofs.YtomajpihimlcjaaDoor.V
open Go Go.VC
variable {w w' w0 : World} {l lr lw : Slc} {bits : List Bool} {ls xs : List Nat} {zs : List Int} {s hi r B W n : Nat}

theorem br_y {c : Prop} [Decidable c] {x y : Prop} (h : c) (k : x) : br (decide c) x y := br_dec (fun _ => k) (fun g => absurd h g)
theorem br_n {c : Prop} [Decidable c] {x y : Prop} (h : ¬ c) (k : y) : br (decide c) x y := br_dec (fun g => absurd g h) (fun _ => k)

theorem eLen (h : SeqB w s ls B) : Is 43 #[.pointer (some ⟨s, 0, none⟩)] w (.int .i64 ls.length) := by
  obtain ⟨lo, hi, rk, pl, hb, _⟩ := h
  refine c43 _ _ _ ?_
  unfold B43
  exact ⟨_, hb.cell 0, rfl, rfl⟩
theorem eLast (h : SeqB w s ls B) : Is 107 #[.pointer (some ⟨s, 0, none⟩)] w (.int .i64 (lastZ ls)) := by
  have h0 := h
  obtain ⟨lo, hi, rk, pl, hb, _⟩ := h
  refine c107 _ _ _ ?_
  unfold B107
  refine usei (eLen h0) ⟨_, rfl, br_dec (fun h1 => ⟨?_, rfl⟩) (fun h1 => ⟨_, hb.cell 1, rfl, rfl⟩)⟩
  unfold lastZ; rw [if_pos (by omega)]
theorem lastZ_pos (hn : 0 < ls.length) : lastZ ls = ((wg ls (ls.length - 1) : Nat) : Int) := by unfold lastZ; rw [if_neg (by omega)]

theorem eAt (h : SeqB w s ls B) (hsz : ls.length ≤ 100000000) (i : Int) : IsK 42 #[.pointer (some ⟨s, 0, none⟩), .int .i64 i] w (.int .i64 (atZ (zl ls) i)) := by
  obtain ⟨lo, hi, rk, pl, hb, hp, hr, hd, hs, hg, hB⟩ := h
  refine c42 _ _ _ _ ?_
  unfold B42
  refine br_dec (fun h1 => ⟨?_, Kp.refl _ _⟩) (fun h1 => ⟨_, hb.cell 0, br_dec (fun h2 => ⟨?_, Kp.refl _ _⟩) (fun h2 => ?_)⟩)
  · rw [atZ_out (by omega)]
  · rw [atZ_out (by rw [zl_len]; omega)]
  · obtain ⟨m, rfl⟩ : ∃ m : Nat, i = m := ⟨i.toNat, by omega⟩
    have hm : m < ls.length := by omega
    have hW := eW_le hg
    have hl := hiB_len hg
    have k0 : Kp no w w.drew := (Kp.refl no w).drew
    have hu := upl_mono hg (eW ls)
    have hu1 := upl_lt hg hm
    have hv := wg_le hg m
    have hcp : IntKind.u64.wrap (eW ls : Int) = ((eW ls : Nat) : Int) := wu64 ⟨by omega, by omega⟩
    refine ⟨_, hb.drew.cell 6, _, hb.drew.cell 2, _, hb.drew.cell 3, usek (sOne (hs.kpo k0) (by omega) _) fun w1 k1 => ?_⟩
    rw [hb_place hu hm]
    have b1 := hb.drew.kp k1 id
    refine ⟨_, rfl, b1.cell 3, b1.cell 2, by rw [hcp]; omega, usek (pAt (hp.kpo (k0.t k1)) (by rw [List.length_map]; omega) _) fun w2 k2 => ?_⟩
    have hat : atU (ls.map (· % 2 ^ eW ls)) (m : Int) = wg ls m % 2 ^ eW ls := by
      unfold atU; rw [if_pos (by rw [List.length_map]; omega), Int.toNat_natCast, wg_map hm]
    rw [hat]
    refine ⟨_, rfl, (b1.kp k2 id).cell 2, ?_, (k0.t k1).t k2⟩
    have hlt : wg ls m % 2 ^ eW ls ≤ wg ls m := Nat.mod_le _ _
    have hmul : upl ls (eW ls) m * 2 ^ eW ls ≤ wg ls m := Nat.div_mul_le_self _ _
    rw [hcp, w64 (x := (((upl ls (eW ls) m + m : Nat) : Int) - (m : Int))) ⟨by omega, by omega⟩]
    have e1 : (((upl ls (eW ls) m + m : Nat) : Int) - (m : Int)) = ((upl ls (eW ls) m : Nat) : Int) := by omega
    rw [e1, shl_i64 hW (by omega), w64 (x := ((wg ls m % 2 ^ eW ls : Nat) : Int)) ⟨by omega, by omega⟩, or_i64 (by omega) (by omega), atZ_in hm]
    congr 2
    have := parts_or (wg ls m) (eW ls)
    rw [Nat.shiftLeft_eq] at this
    exact this

theorem clt_zero (u : Nat → Nat) (n : Nat) : clt u n 0 = 0 := by
  unfold clt
  induction n with
  | zero => rfl
  | succ n ih => simp only [cnt]; rw [ih]; simp
theorem eAheadU (h : SeqB w s ls B) (hsz : ls.length ≤ 100000000) (up : Nat) (hup : up ≤ 4611686018427387904) : IsK 137 #[.pointer (some ⟨s, 0, none⟩), .int .i64 up] w (.int .i64 (clt (upl ls (eW ls)) ls.length up : Nat)) := by
  obtain ⟨lo, hi, rk, pl, hb, hp, hr, hd, hs, hg, hB⟩ := h
  refine c137 _ _ _ _ ?_
  unfold B137
  have hl := hiB_len hg
  have hu := upl_mono hg (eW ls)
  refine br_dec (fun h1 => ⟨?_, Kp.refl _ _⟩) (fun h1 => ⟨_, hb.cell 6, ?_⟩)
  · obtain rfl : up = 0 := by omega
    rw [clt_zero]; rfl
  · rw [w64 (x := (up : Int) - 1) ⟨by omega, by omega⟩]
    refine usek (sZero hs (by omega) _) fun w1 k1 => ⟨_, rfl, ?_⟩
    have b1 := hb.kp k1 id
    rcases hb_ahead hu (show 0 < up by omega) with ⟨_, e, h3⟩ | ⟨a, e, h3, h4⟩
    · rw [e]
      refine br_y (by omega) ⟨_, b1.cell 0, ?_, k1⟩
      rw [h3]
    · rw [e]
      refine br_n (by omega) ⟨_, b1.cell 5, usek (rankB (hd.kpo k1) (by omega) _) fun w2 k2 => ⟨_, rfl, ?_, k1.t k2⟩⟩
      have : clampL (hiB ls) (a : Int) = a := by show (min (max (a : Int) 0) ((VC.hb (upl ls (eW ls)) ls.length).length : Int)).toNat = a; omega
      rw [this, h4]

theorem eNext (h : SeqB w s ls B) (hsz : ls.length ≤ 100000000) (z : Int) : Calls Tryd.prog 95 #[.pointer (some ⟨s, 0, none⟩), .int .i64 z] w (Rv fun v w' => Kp no w w' ∧
    ∃ r : Int, v = .tuple #[.int .i64 r, .int .i64 (atZ (zl ls) r)] ∧ NextIP (zl ls) z r) := by
  have h0 := h
  obtain ⟨lo, hi, rk, pl, hb, hp, hr, hd, hs, hg, hB⟩ := h
  refine c95 _ _ _ _ ?_
  unfold B95
  have none1 : atZ (zl ls) (-1) = -1 := atZ_out (by omega)
  refine usei (eLen h0) ⟨_, rfl, br_dec (fun h1 => ⟨Kp.refl _ _, -1, by rw [none1], .inl ⟨rfl, fun i hi => by rw [zl_len] at hi; omega⟩⟩) (fun h1 => ⟨_, hb.cell 1, ?_⟩)⟩
  have hn : 0 < ls.length := by omega
  rw [lastZ_pos hn]
  have hlast := wg_le hg (ls.length - 1)
  refine br_dec (fun h2 => ⟨Kp.refl _ _, -1, by rw [none1], eg_none hg h2⟩) (fun h2 => ?_)
  obtain ⟨v, hv⟩ : ∃ v : Nat, max z 0 = v := ⟨(max z 0).toNat, by omega⟩
  have hW := eW_le hg
  have hcp : IntKind.u64.wrap (eW ls : Int) = ((eW ls : Nat) : Int) := wu64 ⟨by omega, by omega⟩
  have hcl : clampW (eW ls : Int) = eW ls := by unfold clampW; omega
  have hdv : v / 2 ^ eW ls ≤ v := Nat.div_le_self _ _
  rw [hv]
  refine ⟨_, hb.cell 2, by rw [hcp]; omega, ?_⟩
  rw [hcp, shr_i64 hW]
  refine usek (eAheadU h0 hsz _ (by omega)) fun w1 k1 => ⟨_, rfl, ?_⟩
  have ew : ∀ q : Nat, q ≤ v → IntKind.i64.wrap ((q : Int) + 1) = (q : Int) + 1 := fun q hq => w64 ⟨by omega, by omega⟩
  rw [ew _ hdv]
  have hA2 := eAheadU (h0.kpo k1) hsz (v / 2 ^ eW ls + 1) (by omega)
  rw [show ((v / 2 ^ eW ls + 1 : Nat) : Int) = ((v / 2 ^ eW ls : Nat) : Int) + 1 by omega] at hA2
  refine usek hA2 fun w2 k2 => ⟨_, rfl, ?_⟩
  have k3 : Kp no w w2.drew := (k1.t k2).drew
  have b3 := hb.kp k3 id
  refine ⟨_, b3.cell 3, _, b3.cell 2, usei (mask _ _) ⟨_, rfl, b3.cell 3, ?_⟩⟩
  rw [hcl, wu64 (x := ((v : Nat) : Int)) ⟨by omega, by omega⟩, low _ _ (by omega) (by omega)]
  refine use (pFind (hp.kpo k3) (by rw [List.length_map]; omega) _ _ _ (eg_mono hg)) ?_
  rintro _ w4 ⟨k4, f, rfl, hf⟩
  obtain ⟨a, ha, h3, h4, h5⟩ := eg_next hg hn (by omega) hf
  have k5 := k3.t k4
  have fin : ∀ {w5 : World}, Kp no w4 w5 → Kp no w w5 ∧ ∃ r : Int, (Value.tuple #[.int .i64 (a : Int), .int .i64 (atZ (zl ls) a)]) = .tuple #[.int .i64 r, .int .i64 (atZ (zl ls) r)] ∧ NextIP (zl ls) z r := fun k6 =>
    ⟨k5.t k6, a, rfl, eg_nextI hv h3 h4 h5⟩
  refine ⟨_, rfl, br_dec (fun hf0 => ?_) (fun hf0 => ?_)⟩
  · rw [if_pos hf0] at ha
    rw [ha]
    exact usek (eAt (h0.kpo k5) hsz _) fun w5 k6 => ⟨_, rfl, fin k6⟩
  · rw [if_neg hf0] at ha
    subst ha
    exact usek (eAt (h0.kpo k5) hsz _) fun w5 k6 => ⟨_, rfl, fin k6⟩

theorem eAhead (h : SeqB w s ls B) (hsz : ls.length ≤ 100000000) (z : Int) : Calls Tryd.prog 96 #[.pointer (some ⟨s, 0, none⟩), .int .i64 z] w (Rv fun v w' => Kp no w w' ∧
    ∃ r : Int, v = .tuple #[.int .i64 r, .int .i64 (atZ (zl ls) r)] ∧ AheadIP (zl ls) z r) := by
  have h0 := h
  obtain ⟨lo, hi, rk, pl, hb, hp, hr, hd, hs, hg, hB⟩ := h
  refine c96 _ _ _ _ ?_
  unfold B96
  have none1 : atZ (zl ls) (-1) = -1 := atZ_out (by omega)
  refine usei (eLen h0) ⟨_, rfl, br_dec (fun h1 => ⟨Kp.refl _ _, -1, by rw [none1], .inl ⟨rfl, fun i hi => by rw [zl_len] at hi; omega⟩⟩) (fun h1 => br_dec (fun h2 => ⟨Kp.refl _ _, -1, by rw [none1], .inl ⟨rfl, fun i _ => by rw [wz_zl]; omega⟩⟩) (fun h2 => ⟨_, hb.cell 0, _, hb.cell 1, ?_⟩))⟩
  have hn : 0 < ls.length := by omega
  rw [lastZ_pos hn]
  have hlast := wg_le hg (ls.length - 1)
  refine br_dec (fun h3 => ?_) (fun h3 => ?_)
  · rw [w64 (x := z + 1) ⟨by omega, by omega⟩]
    refine use (eNext h0 hsz (z + 1)) ?_
    rintro _ w1 ⟨k1, r, rfl, hr1⟩
    have hr0 : r ≠ -1 := by
      rintro rfl
      rcases hr1 with ⟨_, g⟩ | ⟨a, g, _⟩
      · have := g (ls.length - 1) (by rw [zl_len]; omega)
        rw [wz_zl] at this; omega
      · omega
    have hrb : 0 ≤ r ∧ r < ls.length := by
      rcases hr1 with ⟨g, _⟩ | ⟨a, rfl, g, _⟩
      · exact absurd g hr0
      · rw [zl_len] at g; omega
    refine ⟨_, _, rfl, ?_⟩
    rw [w64 (x := r - 1) ⟨by omega, by omega⟩]
    exact usek (eAt (h0.kpo k1) hsz _) fun w2 k2 => ⟨_, rfl, k1.t k2, _, rfl, eg_ahead hg hr1 hr0⟩
  · rw [w64 (x := (ls.length : Int) - 1) ⟨by omega, by omega⟩]
    exact usek (eAt h0 hsz _) fun w2 k2 => ⟨_, rfl, k2, _, rfl, eg_last hn hg (by omega)⟩

theorem eFind (h : SeqB w s ls B) (hsz : ls.length ≤ 100000000) (lo hi z : Int) : Calls Tryd.prog 97 #[.pointer (some ⟨s, 0, none⟩), .int .i64 lo, .int .i64 hi, .int .i64 z] w (Rv fun v w' => Kp no w w' ∧
    ∃ r : Int, v = .int .i64 r ∧ FindIP (zl ls) lo hi z r) := by
  have h0 := h
  have hg := h.good
  refine c97 _ _ _ _ _ _ ?_
  unfold B97
  refine use (eNext h hsz z) ?_
  rintro _ w1 ⟨k1, r, rfl, hr1⟩
  refine ⟨_, _, rfl, br_not (br_dec (fun h1 => br_dec (fun h2 => ⟨k1, _, rfl, eg_findNone hg hr1 (.inl h2)⟩) (fun h2 => ?_)) (fun h1 => ⟨k1, _, rfl, eg_findNone hg hr1 (.inr h1)⟩))⟩
  obtain ⟨a, rfl⟩ : ∃ a : Nat, r = a := ⟨r.toNat, by omega⟩
  obtain ⟨f1, f2⟩ := eg_find (lo := lo) (hi := hi) hg hr1 h1
  obtain ⟨lo', hi', rk, pl, hb, _⟩ := h
  refine ⟨_, (hb.kp k1 id).cell 0, br_dec (fun h3 => ⟨k1, _, rfl, f1 (.inl h3)⟩) (fun h3 => ?_)⟩
  refine usek (eAt (h0.kpo k1) hsz _) fun w2 k2 => ⟨_, rfl, br_not (br_dec (fun h4 => ⟨k1.t k2, _, rfl, f2 (by omega) h4⟩) (fun h4 => ⟨k1.t k2, _, rfl, f1 (.inr h4)⟩))⟩

theorem eSize (h : SeqB w s ls B) (hsz : ls.length ≤ 100000000) : IsK 44 #[.pointer (some ⟨s, 0, none⟩)] w (.int .i64 ((ls.length * eW ls + (hiB ls).length : Nat) : Int)) := by
  obtain ⟨lo, hi, rk, pl, hb, hp, ⟨lr, hr, _⟩, hd, hs, hg, hB⟩ := h
  refine c44 _ _ _ ?_
  unfold B44
  have hl := hiB_len hg
  have hW := eW_le hg
  have hm : ls.length * eW ls ≤ 100000000 * 63 := Nat.mul_le_mul hsz hW
  have k0 : Kp no w w.drew := (Kp.refl no w).drew
  refine ⟨_, hb.drew.cell 0, _, hb.drew.cell 2, _, hb.drew.cell 4, usei (len1 (hr.kp k0 (fun _ _ f => f))) ⟨_, rfl, hb.drew.cell 2, hb.drew.cell 0, ?_, k0⟩⟩
  rw [w64 (x := (ls.length : Int) * (eW ls : Int)) ⟨by rw [← Int.natCast_mul]; omega, by rw [← Int.natCast_mul]; omega⟩, ← Int.natCast_mul, w64 ⟨by omega, by omega⟩]
  congr 1

theorem eLenN (w : World) : Is 43 #[.pointer none] w (.int .i64 0) := c43n _ _ ⟨rfl, rfl⟩
theorem eLastN (w : World) : Is 107 #[.pointer none] w (.int .i64 (-1)) := c107n _ _ (by unfold B107n; exact usei (eLenN w) ⟨_, rfl, br_y rfl ⟨rfl, rfl⟩⟩)
theorem eAtN (w : World) (i : Int) : Is 42 #[.pointer none, .int .i64 i] w (.int .i64 (-1)) := c42n _ _ _ ⟨rfl, rfl⟩
theorem eNextN (w : World) (i : Int) : Is 95 #[.pointer none, .int .i64 i] w (.tuple #[.int .i64 (-1), .int .i64 (-1)]) := c95n _ _ _ (by unfold B95n; exact usei (eLenN w) ⟨_, rfl, br_y rfl ⟨rfl, rfl⟩⟩)
theorem eAheadN (w : World) (i : Int) : Is 96 #[.pointer none, .int .i64 i] w (.tuple #[.int .i64 (-1), .int .i64 (-1)]) := c96n _ _ _ (by unfold B96n; exact usei (eLenN w) ⟨_, rfl, br_y rfl ⟨rfl, rfl⟩⟩)
theorem eFindN (w : World) (lo hi z : Int) : Is 97 #[.pointer none, .int .i64 lo, .int .i64 hi, .int .i64 z] w (.int .i64 (-1)) := c97n _ _ _ _ _ (by
  unfold B97n
  exact usei (eNextN w _) ⟨_, _, rfl, br_not (br_dec (fun _ => br_y (by decide) ⟨rfl, rfl⟩) (fun _ => ⟨rfl, rfl⟩))⟩)
theorem eSizeN (w : World) : Is 44 #[.pointer none] w (.int .i64 0) := c44n _ _ ⟨rfl, rfl⟩
end Go.Proofs.YtomajpihimlcjaaDoor.V
