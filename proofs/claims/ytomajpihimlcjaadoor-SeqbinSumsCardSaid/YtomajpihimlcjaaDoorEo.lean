/- Sequences: what is told of them beside the program, and the laws. -/
import Derived.Test.YtomajpihimlcjaaDoorEm
namespace Go.Proofs.YtomajpihimlcjaaDoor.V
open Go Go.VC
variable {w w' w0 : World} {l lr lw : Slc} {bits : List Bool} {ls xs : List Nat} {zs : List Int} {s hi r B W n : Nat}

theorem rdZ_lit (w : World) (zs : List Int) (h : ∀ z ∈ zs, -9223372036854775808 ≤ z ∧ z ≤ 9223372036854775807) (T : TypeId) : RdZ (w.alloc (.cells (zs.map (Value.int .i64)).toArray T)) ⟨some ⟨w.heap.size, 0, none⟩, zs.length, zs.length⟩ zs :=
  ⟨rfl, by have := blk2 w (zs.map (Value.int .i64)) T; rwa [List.length_map] at this, h⟩

theorem rWrong7 (h : RdZ w l zs) (hsz : zs.length ≤ 1000000000) : Calls Tryd.prog 27 #[.slice l.a l.len l.cap] w (Rv fun v w' => Kp no w w' ∧ ∃ e : Int, v = .int .i64 e ∧ WrongP zs e) := by
  refine c27 _ _ _ ?_
  unfold B27
  have hl := h.len
  refine ⟨fun i w' => Kp no w w' ∧ ∃ m : Nat, i = m ∧ m ≤ zs.length ∧ ∀ j, j < m → okE zs j, fun i _ => (l.len - i).toNat, ⟨Kp.refl _ _, 0, rfl, by omega, fun j hj => by omega⟩, ?_⟩
  rintro i w1 ⟨k1, m, rfl, hm, hok⟩
  refine br_dec (fun hlt => ?_) (fun hlt => ⟨k1, 0, rfl, .inl ⟨rfl, fun j hj => hok j (by omega)⟩⟩)
  obtain ⟨a, ha, hc⟩ := (h.kpo k1).at (i := (m : Int)) (by omega) hlt
  have bad : ∀ e : Int, ((e = 8 ∧ outE (wz zs m)) ∨ (e = 9 ∧ ¬ outE (wz zs m) ∧ 0 < m ∧ wz zs m < wz zs (m - 1))) → WrongP zs e := fun e he => .inr ⟨m, by omega, hok, he⟩
  rw [w64 (x := (m : Int) + 1) ⟨by omega, by omega⟩]
  have h00 : (0 : Int) ≤ (m : Int) := by omega
  have hcd : w1.drew.cell? (Addr.add a ((m : Int).toNat * 1)) = some (.int .i64 (wz zs (m : Int).toNat)) := hc
  rw [Int.toNat_natCast] at hc hcd ⊢
  refine ⟨h00, hlt, a, ha, _, hc, br_dec (fun h1 => ⟨k1, 8, rfl, bad 8 (.inl ⟨rfl, .inl h1⟩)⟩) (fun h1 => ⟨h00, hlt, a, ha, _, hc, br_dec (fun h2 => ⟨k1, 8, rfl, bad 8 (.inl ⟨rfl, .inr h2⟩)⟩) (fun h2 => ?_)⟩)⟩
  have hno : ¬ outE (wz zs m) := by unfold outE; omega
  have stp : ∀ w2, Kp no w w2 → ¬ (0 < m ∧ wz zs m < wz zs (m - 1)) → (fun i w' => Kp no w w' ∧ ∃ m : Nat, i = (m : Int) ∧ m ≤ zs.length ∧ ∀ j, j < m → okE zs j) ((m : Int) + 1) w2 ∧ (fun (i : Int) (_ : World) => (l.len - i).toNat) ((m : Int) + 1) w2 < (fun (i : Int) (_ : World) => (l.len - i).toNat) (m : Int) w1 := fun w2 k2 hh =>
    ⟨⟨k2, m + 1, by omega, by omega, fun j hj => by
      by_cases e : j = m
      · subst e; exact ⟨hno, hh⟩
      · exact hok j (by omega)⟩, by dsimp only; omega⟩
  refine br_dec (fun h3 => ?_) (fun h3 => stp _ k1.drew (by omega))
  have e1 : IntKind.i64.wrap ((m : Int) - 1) = ((m - 1 : Nat) : Int) := by rw [w64 ⟨by omega, by omega⟩]; omega
  rw [e1]
  obtain ⟨a2, ha2, hc2⟩ := (h.kpo k1).at (i := ((m - 1 : Nat) : Int)) (by omega) (by omega)
  have hcd2 : w1.drew.cell? (Addr.add a2 (((m - 1 : Nat) : Int).toNat * 1)) = some (.int .i64 (wz zs ((m - 1 : Nat) : Int).toNat)) := hc2
  rw [Int.toNat_natCast] at hcd2
  exact ⟨h00, hlt, a, ha, _, hcd, by omega, by omega, a2, ha2, _, by rw [Int.toNat_natCast]; exact hcd2, br_dec (fun h4 => ⟨k1.drew, 9, rfl, bad 9 (.inr ⟨rfl, hno, by omega, h4⟩)⟩) (fun h4 => stp _ k1.drew (fun hh => h4 hh.2))⟩

theorem rAt7 (h : RdZ w l zs) (i : Int) : Is 31 #[.slice l.a l.len l.cap, .int .i64 i] w (.int .i64 (atZ zs i)) := by
  refine c31 _ _ _ _ ?_
  unfold B31
  have hl := h.len
  refine br_dec (fun h1 => ⟨?_, rfl⟩) (fun h1 => br_dec (fun h2 => ⟨?_, rfl⟩) (fun h2 => ⟨by omega, by omega, ?_⟩))
  · rw [atZ_out (by omega)]
  · rw [atZ_out (by omega)]
  · obtain ⟨a, ha, hc⟩ := h.at (i := i) (by omega) (by omega)
    refine ⟨a, ha, _, hc, ?_, rfl⟩
    unfold atZ; rw [if_pos (by omega)]

theorem rLow7 (w : World) (n last : Int) (hn : n ≤ 9223372036854775807) (hl : last ≤ 9223372036854775807) : Is 115 #[.int .i64 n, .int .i64 last] w (.int .i64 (lowW n last)) := by
  refine c115 _ _ _ _ ?_
  unfold B115
  refine br_dec (fun h1 => ⟨?_, rfl⟩) (fun h1 => br_dec (fun h2 => ⟨?_, rfl⟩) (fun h2 => ?_))
  · unfold lowW; rw [if_pos (.inl h1)]; rfl
  · unfold lowW; rw [if_pos (.inr (by omega))]; rfl
  · obtain ⟨n, rfl⟩ : ∃ j : Nat, n = j := ⟨n.toNat, by omega⟩
    obtain ⟨m, rfl⟩ : ∃ j : Nat, last = j := ⟨last.toNat, by omega⟩
    obtain ⟨s1, s2⟩ := lowW_spec (n := n) (last := m) (by omega) (by omega)
    have hle : lowW (n : Int) (m : Int) ≤ 63 := lowW_le (by omega)
    refine ⟨fun x k w' => w' = w ∧ ∃ j : Nat, k = j ∧ j ≤ lowW (n : Int) (m : Int) ∧ x = ((m / 2 ^ j : Nat) : Int), fun _ k _ => (64 - k).toNat, ⟨rfl, 0, rfl, by omega, by rw [Nat.pow_zero, Nat.div_one]⟩, ?_⟩
    rintro x k w1 ⟨rfl, j, rfl, hj, rfl⟩
    have hd : m / 2 ^ j ≤ m := Nat.div_le_self _ _
    have e : Int.tdiv ((m / 2 ^ j : Nat) : Int) 2 = ((m / 2 ^ (j + 1) : Nat) : Int) := by
      rw [Int.tdiv_eq_ediv_of_nonneg (by exact Int.natCast_nonneg _), Nat.pow_succ, ← Nat.div_div_eq_div_mul]; rfl
    have hd2 : m / 2 ^ (j + 1) ≤ m := Nat.div_le_self _ _
    have ew : ∀ q : Nat, q ≤ m → IntKind.i64.wrap (q : Int) = (q : Int) := fun q hq => w64 ⟨by omega, by omega⟩
    rw [e, ew _ hd2, w64 (x := (j : Int) + 1) ⟨by omega, by omega⟩]
    refine ⟨by omega, br_dec (fun h3 => ⟨by omega, ⟨rfl, j + 1, by omega, ?_, rfl⟩, by dsimp only; omega⟩) (fun h3 => ⟨?_, rfl⟩)⟩
    · by_cases g : j = lowW (n : Int) (m : Int)
      · rw [← g] at s2; generalize m / 2 ^ (j + 1) = q at *; omega
      · omega
    · by_cases g : j < lowW (n : Int) (m : Int)
      · have := s1 j g; generalize m / 2 ^ (j + 1) = q at *; omega
      · rw [show j = lowW (n : Int) (m : Int) by omega]

theorem rSize7 (h : RdZ w l (zl ls)) (hg : GoodL ls) (hsz : ls.length ≤ 100000000) : Is 45 #[.slice l.a l.len l.cap] w (.int .i64 ((ls.length * eW ls + (hiB ls).length : Nat) : Int)) := by
  refine c45 _ _ _ ?_
  unfold B45
  have hl := h.len
  rw [zl_len] at hl
  have hu := upl_mono hg (eW ls)
  have hbl := hb_len hu
  refine br_dec (fun h1 => ⟨?_, rfl⟩) (fun h1 => ?_)
  · have e0 : ls.length = 0 := by omega
    have : (hiB ls).length = 0 := by
      show (hb (upl ls (eW ls)) ls.length).length = 0
      rw [hbl, e0]; rfl
    rw [this, e0]; simp
  · have hn : 0 < ls.length := by omega
    have e1 : IntKind.i64.wrap ((l.len : Int) - 1) = ((ls.length - 1 : Nat) : Int) := by rw [w64 ⟨by omega, by omega⟩]; omega
    rw [e1]
    obtain ⟨a, ha, hc⟩ := h.at (i := ((ls.length - 1 : Nat) : Int)) (by omega) (by omega)
    have hv := wg_le hg (ls.length - 1)
    have hW := eW_le hg
    have hWe : lowW (l.len : Int) ((wg ls (ls.length - 1) : Nat) : Int) = eW ls := by unfold eW; rw [lastZ_pos hn, ← hl]
    refine ⟨by omega, by omega, a, ha, _, hc, ?_⟩
    rw [Int.toNat_natCast, wz_zl]
    refine usei (rLow7 w _ _ (by omega) (by omega)) ⟨_, rfl, ?_⟩
    rw [hWe]
    have hm : ls.length * eW ls ≤ 100000000 * 63 := Nat.mul_le_mul hsz hW
    refine ⟨fun x k w' => w' = w ∧ ∃ j : Nat, k = j ∧ j ≤ eW ls ∧ x = ((wg ls (ls.length - 1) / 2 ^ j : Nat) : Int), fun _ k _ => (64 - k).toNat, ⟨rfl, 0, rfl, by omega, by rw [Nat.pow_zero, Nat.div_one]⟩, ?_⟩
    rintro x k w1 ⟨rfl, j, rfl, hj, rfl⟩
    generalize hv' : wg ls (ls.length - 1) = m at *
    have hd : m / 2 ^ j ≤ m := Nat.div_le_self _ _
    refine br_dec (fun h2 => ⟨by omega, ⟨rfl, j + 1, ?_, by omega, ?_⟩, ?_⟩) (fun h2 => ⟨?_, rfl⟩)
    · rw [w64 ⟨by omega, by omega⟩]; rfl
    · have e : Int.tdiv ((m / 2 ^ j : Nat) : Int) 2 = ((m / 2 ^ (j + 1) : Nat) : Int) := by
        rw [Int.tdiv_eq_ediv_of_nonneg (by exact Int.natCast_nonneg _), Nat.pow_succ, ← Nat.div_div_eq_div_mul]; rfl
      have hd2 : m / 2 ^ (j + 1) ≤ m := Nat.div_le_self _ _
      have ew : ∀ q : Nat, q ≤ m → IntKind.i64.wrap (q : Int) = (q : Int) := fun q hq => w64 ⟨by omega, by omega⟩
      rw [e, ew _ hd2]
    · rw [w64 (x := (j : Int) + 1) ⟨by omega, by omega⟩]; dsimp only; omega
    · obtain rfl : j = eW ls := by omega
      have hp : prv (upl ls (eW ls)) ls.length = m / 2 ^ eW ls := by
        unfold prv; rw [if_neg (by omega)]; unfold upl; rw [hv']
      have hh : (hiB ls).length = ls.length + m / 2 ^ eW ls := by
        show (hb (upl ls (eW ls)) ls.length).length = _
        rw [hbl, hp]
      rw [hh]
      have fin : ∀ q : Nat, q ≤ m → IntKind.i64.wrap (IntKind.i64.wrap (IntKind.i64.wrap ((l.len : Int) * (eW ls : Int)) + (q : Int)) + (l.len : Int)) = ((ls.length * eW ls + (ls.length + q) : Nat) : Int) := fun q hq => by
        rw [← hl, ← Int.natCast_mul, w64 (x := ((ls.length * eW ls : Nat) : Int)) ⟨by omega, by omega⟩, w64 (x := ((ls.length * eW ls : Nat) : Int) + (q : Int)) ⟨by omega, by omega⟩, w64 ⟨by omega, by omega⟩]
        omega
      rw [fin _ hd]

theorem eNew0 (h : RdZ w l zs) (hsz : zs.length ≤ 100000000) (hw : WrongP zs 0) : Calls Tryd.prog 29 #[.slice l.a l.len l.cap] w (Rv fun v w' => Kp no w w' ∧
    ∃ s ls, v = .tuple #[.pointer (some ⟨s, 0, none⟩), .int .i64 0] ∧ zs = zl ls ∧ SeqB w' s ls w.heap.size) := by
  refine use (eNew h hsz) ?_
  rintro _ w1 ⟨k1, ⟨e, _, he, g⟩ | g⟩
  · exact absurd (WrongP.one g hw) he
  · exact ⟨k1, g⟩

theorem live7 (w : World) : IsK 28 #[] w (.bool true) := by
  refine c28 _ _ ?_
  unfold B28
  have kA : Kp no w (w.alloc (.cells #[.int .i64 3, .int .i64 4, .int .i64 7, .int .i64 13, .int .i64 14, .int .i64 15, .int .i64 21, .int .i64 43] 3)) := (Kp.refl _ _).alloc _ _
  have rA : RdZ (w.alloc (.cells #[.int .i64 3, .int .i64 4, .int .i64 7, .int .i64 13, .int .i64 14, .int .i64 15, .int .i64 21, .int .i64 43] 3)) ⟨some ⟨w.heap.size, 0, none⟩, 8, 8⟩ [3, 4, 7, 13, 14, 15, 21, 43] := rdZ_lit w [3, 4, 7, 13, 14, 15, 21, 43] (by simp) 3
  generalize w.alloc (.cells #[.int .i64 3, .int .i64 4, .int .i64 7, .int .i64 13, .int .i64 14, .int .i64 15, .int .i64 21, .int .i64 43] 3) = w1 at *
  have h1 := eNew0 rA (by simp) (.inl ⟨rfl, by unfold okE outE; decide⟩)
  refine use h1 ?_
  rintro _ w2 ⟨k2, s, ls, rfl, hz, hs⟩
  have hls : ls = [3, 4, 7, 13, 14, 15, 21, 43] := by
    have := congrArg (List.map Int.toNat) hz
    rw [List.map_map] at this
    have e : (Int.toNat ∘ fun x : Nat => (x : Int)) = id := by funext x; simp
    rw [e, List.map_id] at this
    exact this.symm
  subst hls
  clear hz
  have e1 : 8 * eW [3, 4, 7, 13, 14, 15, 21, 43] + (hiB [3, 4, 7, 13, 14, 15, 21, 43]).length = 34 := by decide +kernel
  refine ⟨_, _, rfl, use (eNext hs (by simp) 8) ?_⟩
  rintro _ w3 ⟨k3, r, rfl, hr⟩
  obtain rfl := hr.one (.inr ⟨3, rfl, by decide, by decide, by decide⟩ : NextIP _ 8 3)
  refine ⟨_, _, rfl, use (eAhead (hs.kpo k3) (by simp) 12) ?_⟩
  rintro _ w4 ⟨k4, r, rfl, hr2⟩
  obtain rfl := hr2.one (.inr ⟨2, rfl, by decide, by decide, fun i h1 h2 => by
    have : i = 3 ∨ i = 4 ∨ i = 5 ∨ i = 6 ∨ i = 7 := by simp at h2; omega
    rcases this with rfl | rfl | rfl | rfl | rfl <;> decide⟩ : AheadIP _ 12 2)
  refine ⟨_, _, rfl, br_y rfl (br_y (by decide) (br_y rfl (br_y (by decide) (use (eFind ((hs.kpo k3).kpo k4) (by simp) 2 6 14) ?_))))⟩
  rintro _ w5 ⟨k5, r, rfl, hr3⟩
  obtain rfl := hr3.one (.inr ⟨4, rfl, by decide, by decide, by decide, by decide, fun i h1 _ _ => by
    have : i = 0 ∨ i = 1 ∨ i = 2 ∨ i = 3 := by omega
    rcases this with rfl | rfl | rfl | rfl <;> decide⟩ : FindIP _ 2 6 14 4)
  refine ⟨_, rfl, br_y rfl (usek (eSize (((hs.kpo k3).kpo k4).kpo k5) (by simp)) fun w6 k6 => ⟨_, rfl, ?_, kA.t (k2.t (k3.t (k4.t (k5.t k6))))⟩)⟩
  rw [show ([3, 4, 7, 13, 14, 15, 21, 43] : List Nat).length = 8 from rfl, e1]
  rfl

end Go.Proofs.YtomajpihimlcjaaDoor.V
