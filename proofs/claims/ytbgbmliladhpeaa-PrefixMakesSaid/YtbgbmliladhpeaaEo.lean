/- Sequences: what is told of them beside the program, and the laws. -/
import Derived.Test.YtbgbmliladhpeaaEm
namespace Go.Proofs.Ytbgbmliladhpeaa.V
open Go Go.VC
variable {w w' w0 : World} {l lr lw : Slc} {bits : List Bool} {ls xs : List Nat} {zs : List Int} {s hi r B W n : Nat}

theorem rdZ_lit (w : World) (zs : List Int) (h : ∀ z ∈ zs, -9223372036854775808 ≤ z ∧ z ≤ 9223372036854775807) (T : TypeId) : RdZ (w.alloc (.cells (zs.map (Value.int .i64)).toArray T)) ⟨some ⟨w.heap.size, 0, none⟩, zs.length, zs.length⟩ zs :=
  ⟨rfl, by have := blk2 w (zs.map (Value.int .i64)) T; rwa [List.length_map] at this, h⟩

theorem rWrong7 (h : RdZ w l zs) (hsz : zs.length ≤ 1000000000) : Calls Try.prog 31 #[.slice l.a l.len l.cap] w (Rv fun v w' => Kp no w w' ∧ ∃ e : Int, v = .int .i64 e ∧ WrongP zs e) := by
  refine c31 _ _ _ ?_
  unfold B31
  have hl := h.len
  refine ⟨fun i w' => Kp no w w' ∧ ∃ m : Nat, i = m ∧ m ≤ zs.length ∧ ∀ j, j < m → okE zs j, fun i _ => (l.len - i).toNat, ⟨Kp.refl _ _, 0, rfl, by omega, fun j hj => by omega⟩, ?_⟩
  rintro i w1 ⟨k1, m, rfl, hm, hok⟩
  refine br_dec (fun hlt => ?_) (fun hlt => ⟨k1, 0, rfl, .inl ⟨rfl, fun j hj => hok j (by omega)⟩⟩)
  obtain ⟨a, ha, hc⟩ := (h.kpo k1).at (i := (m : Int)) (by omega) hlt
  have bad : ∀ e : Int, ((e = 8 ∧ outE (wz zs m)) ∨ (e = 9 ∧ ¬ outE (wz zs m) ∧ 0 < m ∧ wz zs m < wz zs (m - 1))) → WrongP zs e := fun e he => .inr ⟨m, by omega, hok, he⟩
  rw [w64 (x := (m : Int) + 1) ⟨by omega, by omega⟩]
  have h00 : (0 : Int) ≤ (m : Int) := by omega
  have hcd : w1.drew.cell? (Addr.add a ((m : Int).toNat * 1)) = some (.int .i64 (wz zs (m : Int).toNat)) := hc
  rw [Int.toNat_natCast] at hc hcd ⊢
  refine ⟨h00, hlt, a, ha, _, hc, br_dec (fun h1 => ⟨k1, 8, rfl, bad 8 (.inl ⟨rfl, .inl h1⟩)⟩) (fun h1 => ⟨h00, hlt, a, ha, _, hc, br_dec (fun h2 => ⟨k1, 8, rfl, bad 8 (.inl ⟨rfl, .inr h2⟩)⟩) (fun h2 => ?_)⟩)⟩
  have hno : ¬ outE (wz zs m) := by unfold outE; omega
  have stp : ∀ w2, Kp no w w2 → ¬ (0 < m ∧ wz zs m < wz zs (m - 1)) → (fun i w' => Kp no w w' ∧ ∃ m : Nat, i = (m : Int) ∧ m ≤ zs.length ∧ ∀ j, j < m → okE zs j) ((m : Int) + 1) w2 ∧ (fun (i : Int) (_ : World) => (l.len - i).toNat) ((m : Int) + 1) w2 < (fun (i : Int) (_ : World) => (l.len - i).toNat) (m : Int) w1 := fun w2 k2 hh =>
    ⟨⟨k2, m + 1, by omega, by omega, fun j hj => by
      by_cases e : j = m
      · subst e; exact ⟨hno, hh⟩
      · exact hok j (by omega)⟩, by dsimp only; omega⟩
  refine br_dec (fun h3 => ?_) (fun h3 => stp _ k1.drew (by omega))
  have e1 : IntKind.i64.wrap ((m : Int) - 1) = ((m - 1 : Nat) : Int) := by rw [w64 ⟨by omega, by omega⟩]; omega
  rw [e1]
  obtain ⟨a2, ha2, hc2⟩ := (h.kpo k1).at (i := ((m - 1 : Nat) : Int)) (by omega) (by omega)
  have hcd2 : w1.drew.cell? (Addr.add a2 (((m - 1 : Nat) : Int).toNat * 1)) = some (.int .i64 (wz zs ((m - 1 : Nat) : Int).toNat)) := hc2
  rw [Int.toNat_natCast] at hcd2
  exact ⟨h00, hlt, a, ha, _, hcd, by omega, by omega, a2, ha2, _, by rw [Int.toNat_natCast]; exact hcd2, br_dec (fun h4 => ⟨k1.drew, 9, rfl, bad 9 (.inr ⟨rfl, hno, by omega, h4⟩)⟩) (fun h4 => stp _ k1.drew (fun hh => h4 hh.2))⟩

theorem rNext7 (h : RdZ w l zs) (hsz : zs.length ≤ 1000000000) (z : Int) : Calls Try.prog 36 #[.slice l.a l.len l.cap, .int .i64 z] w (Rv fun v w' => w' = w ∧ ∃ r : Int, v = .int .i64 r ∧ NextIP zs z r) := by
  refine c36 _ _ _ _ ?_
  unfold B36
  have hl := h.len
  refine ⟨fun i w' => w' = w ∧ ∃ m : Nat, i = m ∧ m ≤ zs.length ∧ ∀ j, j < m → wz zs j < z, fun i _ => (l.len - i).toNat, ⟨rfl, 0, rfl, by omega, fun j hj => by omega⟩, ?_⟩
  rintro i w1 ⟨hw, m, rfl, hm, hok⟩
  obtain rfl : w = w1 := hw.symm
  refine br_dec (fun hlt => ?_) (fun hlt => ⟨rfl, -1, rfl, .inl ⟨rfl, fun j hj => hok j (by omega)⟩⟩)
  obtain ⟨a, ha, hc⟩ := h.at (i := (m : Int)) (by omega) hlt
  refine ⟨by omega, hlt, a, ha, _, hc, ?_⟩
  rw [Int.toNat_natCast, w64 (x := (m : Int) + 1) ⟨by omega, by omega⟩]
  refine br_dec (fun h1 => ⟨rfl, _, rfl, .inr ⟨m, rfl, by omega, h1, hok⟩⟩) (fun h1 => ⟨⟨rfl, m + 1, by omega, by omega, fun j hj => ?_⟩, by dsimp only; omega⟩)
  by_cases e : j = m
  · subst e; omega
  · exact hok j (by omega)

theorem rAhead7 (h : RdZ w l zs) (hsz : zs.length ≤ 1000000000) (z : Int) : Calls Try.prog 37 #[.slice l.a l.len l.cap, .int .i64 z] w (Rv fun v w' => w' = w ∧ ∃ r : Int, v = .int .i64 r ∧ AheadIP zs z r) := by
  refine c37 _ _ _ _ ?_
  unfold B37
  have hl := h.len
  refine ⟨fun x i w' => w' = w ∧ ∃ m : Nat, i = m ∧ m ≤ zs.length ∧ ((x = -1 ∧ ∀ j, j < m → z < wz zs j) ∨ ∃ a : Nat, x = a ∧ a < m ∧ wz zs a ≤ z ∧ ∀ j, a < j → j < m → z < wz zs j), fun _ i _ => (l.len - i).toNat, ⟨rfl, 0, rfl, by omega, .inl ⟨rfl, fun j hj => by omega⟩⟩, ?_⟩
  rintro x i w1 ⟨hw, m, rfl, hm, hok⟩
  obtain rfl : w = w1 := hw.symm
  refine br_dec (fun hlt => ?_) (fun hlt => ⟨rfl, x, rfl, ?_⟩)
  · obtain ⟨a, ha, hc⟩ := h.at (i := (m : Int)) (by omega) hlt
    refine ⟨by omega, hlt, a, ha, _, hc, ?_⟩
    rw [Int.toNat_natCast, w64 (x := (m : Int) + 1) ⟨by omega, by omega⟩]
    refine br_dec (fun h1 => ⟨⟨rfl, m + 1, by omega, by omega, .inr ⟨m, rfl, by omega, h1, fun j g1 g2 => by omega⟩⟩, by dsimp only; omega⟩) (fun h1 => ⟨⟨rfl, m + 1, by omega, by omega, ?_⟩, by dsimp only; omega⟩)
    rcases hok with ⟨rfl, hok⟩ | ⟨b, rfl, h2, h3, h4⟩
    · refine .inl ⟨rfl, fun j hj => ?_⟩
      by_cases e : j = m
      · subst e; omega
      · exact hok j (by omega)
    · refine .inr ⟨b, rfl, by omega, h3, fun j g1 g2 => ?_⟩
      by_cases e : j = m
      · subst e; omega
      · exact h4 j g1 (by omega)
  · obtain rfl : m = zs.length := by omega
    exact hok

theorem rAt7 (h : RdZ w l zs) (i : Int) : Is 38 #[.slice l.a l.len l.cap, .int .i64 i] w (.int .i64 (atZ zs i)) := by
  refine c38 _ _ _ _ ?_
  unfold B38
  have hl := h.len
  refine br_dec (fun h1 => ⟨?_, rfl⟩) (fun h1 => br_dec (fun h2 => ⟨?_, rfl⟩) (fun h2 => ⟨by omega, by omega, ?_⟩))
  · rw [atZ_out (by omega)]
  · rw [atZ_out (by omega)]
  · obtain ⟨a, ha, hc⟩ := h.at (i := i) (by omega) (by omega)
    refine ⟨a, ha, _, hc, ?_, rfl⟩
    unfold atZ; rw [if_pos (by omega)]

theorem rFind7 (h : RdZ w l zs) (hsz : zs.length ≤ 1000000000) (lo hi z : Int) : Calls Try.prog 40 #[.slice l.a l.len l.cap, .int .i64 lo, .int .i64 hi, .int .i64 z] w (Rv fun v w' => w' = w ∧ ∃ r : Int, v = .int .i64 r ∧ FindIP zs lo hi z r) := by
  refine c40 _ _ _ _ _ _ ?_
  unfold B40
  have hl := h.len
  refine ⟨fun i w' => w' = w ∧ ∃ m : Nat, i = m ∧ m ≤ zs.length ∧ ∀ j : Nat, j < m → lo ≤ j → (j : Int) < hi → wz zs j ≠ z, fun i _ => (l.len - i).toNat, ⟨rfl, 0, rfl, by omega, fun j hj => by omega⟩, ?_⟩
  rintro i w1 ⟨hw, m, rfl, hm, hok⟩
  obtain rfl : w = w1 := hw.symm
  refine br_dec (fun hlt => ?_) (fun hlt => ⟨rfl, -1, rfl, .inl ⟨rfl, fun j hj => hok j (by omega)⟩⟩)
  obtain ⟨a, ha, hc⟩ := h.at (i := (m : Int)) (by omega) hlt
  rw [w64 (x := (m : Int) + 1) ⟨by omega, by omega⟩]
  have stp : ((lo ≤ m) → ((m : Int) < hi) → wz zs m ≠ z) → (fun i w' => w' = w ∧ ∃ m : Nat, i = (m : Int) ∧ m ≤ zs.length ∧ ∀ j : Nat, j < m → lo ≤ j → (j : Int) < hi → wz zs j ≠ z) ((m : Int) + 1) w ∧ (fun (i : Int) (_ : World) => (l.len - i).toNat) ((m : Int) + 1) w < (fun (i : Int) (_ : World) => (l.len - i).toNat) (m : Int) w := fun hh =>
    ⟨⟨rfl, m + 1, by omega, by omega, fun j hj => by
      by_cases e : j = m
      · subst e; exact hh
      · exact hok j (by omega)⟩, by dsimp only; omega⟩
  refine br_dec (fun h1 => br_dec (fun h2 => ⟨by omega, hlt, a, ha, _, hc, ?_⟩) (fun h2 => stp (fun _ g => absurd g h2))) (fun h1 => stp (fun g => absurd g h1))
  rw [Int.toNat_natCast]
  exact br_dec (fun h3 => ⟨rfl, _, rfl, .inr ⟨m, rfl, by omega, h1, h2, h3, hok⟩⟩) (fun h3 => stp (fun _ _ => h3))

theorem rLow7 (w : World) (n last : Int) (hn : n ≤ 9223372036854775807) (hl : last ≤ 9223372036854775807) : Is 44 #[.int .i64 n, .int .i64 last] w (.int .i64 (lowW n last)) := by
  refine c44 _ _ _ _ ?_
  unfold B44
  refine br_dec (fun h1 => ⟨?_, rfl⟩) (fun h1 => br_dec (fun h2 => ⟨?_, rfl⟩) (fun h2 => ?_))
  · unfold lowW; rw [if_pos (.inl h1)]; rfl
  · unfold lowW; rw [if_pos (.inr (by omega))]; rfl
  · obtain ⟨n, rfl⟩ : ∃ j : Nat, n = j := ⟨n.toNat, by omega⟩
    obtain ⟨m, rfl⟩ : ∃ j : Nat, last = j := ⟨last.toNat, by omega⟩
    obtain ⟨s1, s2⟩ := lowW_spec (n := n) (last := m) (by omega) (by omega)
    have hle : lowW (n : Int) (m : Int) ≤ 63 := lowW_le (by omega)
    refine ⟨fun x k w' => w' = w ∧ ∃ j : Nat, k = j ∧ j ≤ lowW (n : Int) (m : Int) ∧ x = ((m / 2 ^ j : Nat) : Int), fun _ k _ => (64 - k).toNat, ⟨rfl, 0, rfl, by omega, by rw [Nat.pow_zero, Nat.div_one]⟩, ?_⟩
    rintro x k w1 ⟨rfl, j, rfl, hj, rfl⟩
    have hd : m / 2 ^ j ≤ m := Nat.div_le_self _ _
    have e : Int.tdiv ((m / 2 ^ j : Nat) : Int) 2 = ((m / 2 ^ (j + 1) : Nat) : Int) := by
      rw [Int.tdiv_eq_ediv_of_nonneg (by exact Int.natCast_nonneg _), Nat.pow_succ, ← Nat.div_div_eq_div_mul]; rfl
    have hd2 : m / 2 ^ (j + 1) ≤ m := Nat.div_le_self _ _
    have ew : ∀ q : Nat, q ≤ m → IntKind.i64.wrap (q : Int) = (q : Int) := fun q hq => w64 ⟨by omega, by omega⟩
    rw [e, ew _ hd2, w64 (x := (j : Int) + 1) ⟨by omega, by omega⟩]
    refine ⟨by omega, br_dec (fun h3 => ⟨by omega, ⟨rfl, j + 1, by omega, ?_, rfl⟩, by dsimp only; omega⟩) (fun h3 => ⟨?_, rfl⟩)⟩
    · by_cases g : j = lowW (n : Int) (m : Int)
      · rw [← g] at s2; generalize m / 2 ^ (j + 1) = q at *; omega
      · omega
    · by_cases g : j < lowW (n : Int) (m : Int)
      · have := s1 j g; generalize m / 2 ^ (j + 1) = q at *; omega
      · rw [show j = lowW (n : Int) (m : Int) by omega]

theorem rSize7 (h : RdZ w l (zl ls)) (hg : GoodL ls) (hsz : ls.length ≤ 100000000) : Is 42 #[.slice l.a l.len l.cap] w (.int .i64 ((ls.length * eW ls + (hiB ls).length : Nat) : Int)) := by
  refine c42 _ _ _ ?_
  unfold B42
  have hl := h.len
  rw [zl_len] at hl
  have hu := upl_mono hg (eW ls)
  have hbl := hb_len hu
  refine br_dec (fun h1 => ⟨?_, rfl⟩) (fun h1 => ?_)
  · have e0 : ls.length = 0 := by omega
    have : (hiB ls).length = 0 := by
      show (hb (upl ls (eW ls)) ls.length).length = 0
      rw [hbl, e0]; rfl
    rw [this, e0]; simp
  · have hn : 0 < ls.length := by omega
    have e1 : IntKind.i64.wrap ((l.len : Int) - 1) = ((ls.length - 1 : Nat) : Int) := by rw [w64 ⟨by omega, by omega⟩]; omega
    rw [e1]
    obtain ⟨a, ha, hc⟩ := h.at (i := ((ls.length - 1 : Nat) : Int)) (by omega) (by omega)
    have hv := wg_le hg (ls.length - 1)
    have hW := eW_le hg
    have hWe : lowW (l.len : Int) ((wg ls (ls.length - 1) : Nat) : Int) = eW ls := by unfold eW; rw [lastZ_pos hn, ← hl]
    refine ⟨by omega, by omega, a, ha, _, hc, ?_⟩
    rw [Int.toNat_natCast, wz_zl]
    refine usei (rLow7 w _ _ (by omega) (by omega)) ⟨_, rfl, ?_⟩
    rw [hWe]
    have hm : ls.length * eW ls ≤ 100000000 * 63 := Nat.mul_le_mul hsz hW
    refine ⟨fun x k w' => w' = w ∧ ∃ j : Nat, k = j ∧ j ≤ eW ls ∧ x = ((wg ls (ls.length - 1) / 2 ^ j : Nat) : Int), fun _ k _ => (64 - k).toNat, ⟨rfl, 0, rfl, by omega, by rw [Nat.pow_zero, Nat.div_one]⟩, ?_⟩
    rintro x k w1 ⟨rfl, j, rfl, hj, rfl⟩
    generalize hv' : wg ls (ls.length - 1) = m at *
    have hd : m / 2 ^ j ≤ m := Nat.div_le_self _ _
    refine br_dec (fun h2 => ⟨by omega, ⟨rfl, j + 1, ?_, by omega, ?_⟩, ?_⟩) (fun h2 => ⟨?_, rfl⟩)
    · rw [w64 ⟨by omega, by omega⟩]; rfl
    · have e : Int.tdiv ((m / 2 ^ j : Nat) : Int) 2 = ((m / 2 ^ (j + 1) : Nat) : Int) := by
        rw [Int.tdiv_eq_ediv_of_nonneg (by exact Int.natCast_nonneg _), Nat.pow_succ, ← Nat.div_div_eq_div_mul]; rfl
      have hd2 : m / 2 ^ (j + 1) ≤ m := Nat.div_le_self _ _
      have ew : ∀ q : Nat, q ≤ m → IntKind.i64.wrap (q : Int) = (q : Int) := fun q hq => w64 ⟨by omega, by omega⟩
      rw [e, ew _ hd2]
    · rw [w64 (x := (j : Int) + 1) ⟨by omega, by omega⟩]; dsimp only; omega
    · obtain rfl : j = eW ls := by omega
      have hp : prv (upl ls (eW ls)) ls.length = m / 2 ^ eW ls := by
        unfold prv; rw [if_neg (by omega)]; unfold upl; rw [hv']
      have hh : (hiB ls).length = ls.length + m / 2 ^ eW ls := by
        show (hb (upl ls (eW ls)) ls.length).length = _
        rw [hbl, hp]
      rw [hh]
      have fin : ∀ q : Nat, q ≤ m → IntKind.i64.wrap (IntKind.i64.wrap (IntKind.i64.wrap ((l.len : Int) * (eW ls : Int)) + (q : Int)) + (l.len : Int)) = ((ls.length * eW ls + (ls.length + q) : Nat) : Int) := fun q hq => by
        rw [← hl, ← Int.natCast_mul, w64 (x := ((ls.length * eW ls : Nat) : Int)) ⟨by omega, by omega⟩, w64 (x := ((ls.length * eW ls : Nat) : Int) + (q : Int)) ⟨by omega, by omega⟩, w64 ⟨by omega, by omega⟩]
        omega
      rw [fin _ hd]

theorem eNew0 (h : RdZ w l zs) (hsz : zs.length ≤ 100000000) (hw : WrongP zs 0) : Calls Try.prog 33 #[.slice l.a l.len l.cap] w (Rv fun v w' => Kp no w w' ∧
    ∃ s ls, v = .tuple #[.pointer (some ⟨s, 0, none⟩), .int .i64 0] ∧ zs = zl ls ∧ SeqB w' s ls w.heap.size) := by
  refine use (eNew h hsz) ?_
  rintro _ w1 ⟨k1, ⟨e, _, he, g⟩ | g⟩
  · exact absurd (WrongP.one g hw) he
  · exact ⟨k1, g⟩

theorem live7 (w : World) : IsK 32 #[] w (.bool true) := by
  refine c32 _ _ ?_
  unfold B32
  have kA : Kp no w (w.alloc (.cells #[.int .i64 3, .int .i64 4, .int .i64 7, .int .i64 13, .int .i64 14, .int .i64 15, .int .i64 21, .int .i64 43] 3)) := (Kp.refl _ _).alloc _ _
  have rA : RdZ (w.alloc (.cells #[.int .i64 3, .int .i64 4, .int .i64 7, .int .i64 13, .int .i64 14, .int .i64 15, .int .i64 21, .int .i64 43] 3)) ⟨some ⟨w.heap.size, 0, none⟩, 8, 8⟩ [3, 4, 7, 13, 14, 15, 21, 43] := rdZ_lit w [3, 4, 7, 13, 14, 15, 21, 43] (by simp) 3
  generalize w.alloc (.cells #[.int .i64 3, .int .i64 4, .int .i64 7, .int .i64 13, .int .i64 14, .int .i64 15, .int .i64 21, .int .i64 43] 3) = w1 at *
  have h1 := eNew0 rA (by simp) (.inl ⟨rfl, by unfold okE outE; decide⟩)
  refine use h1 ?_
  rintro _ w2 ⟨k2, s, ls, rfl, hz, hs⟩
  have hls : ls = [3, 4, 7, 13, 14, 15, 21, 43] := by
    have := congrArg (List.map Int.toNat) hz
    rw [List.map_map] at this
    have e : (Int.toNat ∘ fun x : Nat => (x : Int)) = id := by funext x; simp
    rw [e, List.map_id] at this
    exact this.symm
  subst hls
  clear hz
  have e1 : 8 * eW [3, 4, 7, 13, 14, 15, 21, 43] + (hiB [3, 4, 7, 13, 14, 15, 21, 43]).length = 34 := by decide +kernel
  refine ⟨_, _, rfl, use (eNext hs (by simp) 8) ?_⟩
  rintro _ w3 ⟨k3, r, rfl, hr⟩
  obtain rfl := hr.one (.inr ⟨3, rfl, by decide, by decide, by decide⟩ : NextIP _ 8 3)
  refine ⟨_, _, rfl, use (eAhead (hs.kpo k3) (by simp) 12) ?_⟩
  rintro _ w4 ⟨k4, r, rfl, hr2⟩
  obtain rfl := hr2.one (.inr ⟨2, rfl, by decide, by decide, fun i h1 h2 => by
    have : i = 3 ∨ i = 4 ∨ i = 5 ∨ i = 6 ∨ i = 7 := by simp at h2; omega
    rcases this with rfl | rfl | rfl | rfl | rfl <;> decide⟩ : AheadIP _ 12 2)
  refine ⟨_, _, rfl, br_y rfl (br_y (by decide) (br_y rfl (br_y (by decide) (use (eFind ((hs.kpo k3).kpo k4) (by simp) 2 6 14) ?_))))⟩
  rintro _ w5 ⟨k5, r, rfl, hr3⟩
  obtain rfl := hr3.one (.inr ⟨4, rfl, by decide, by decide, by decide, by decide, fun i h1 _ _ => by
    have : i = 0 ∨ i = 1 ∨ i = 2 ∨ i = 3 := by omega
    rcases this with rfl | rfl | rfl | rfl <;> decide⟩ : FindIP _ 2 6 14 4)
  refine ⟨_, rfl, br_y rfl (usek (eSize (((hs.kpo k3).kpo k4).kpo k5) (by simp)) fun w6 k6 => ⟨_, rfl, ?_, kA.t (k2.t (k3.t (k4.t (k5.t k6))))⟩)⟩
  rw [show ([3, 4, 7, 13, 14, 15, 21, 43] : List Nat).length = 8 from rfl, e1]
  rfl

theorem seqNext (h : RdZ w l zs) (x : Int) : IsK 7 #[.slice l.a l.len l.cap, .int .i64 x] w (.bool true) := by
  refine c7 _ _ _ _ ?_
  unfold B7
  have hl := h.len
  refine br_dec (fun _ => usek (live7 _) fun w1 k1 => ⟨_, rfl, rfl, k1⟩) (fun hsm => ?_)
  refine use (rWrong7 h (by omega)) ?_
  rintro _ w1 ⟨k1, e, rfl, he⟩
  refine ⟨_, rfl, br_not (br_dec (fun h0 => ?_) (fun h0 => usek (live7 _) fun w2 k2 => ⟨_, rfl, rfl, k1.t k2⟩))⟩
  subst h0
  refine use (eNew0 (h.kpo k1) (by omega) he) ?_
  rintro _ w2 ⟨k2, s, ls, rfl, rfl, hs⟩
  rw [zl_len] at hl
  refine ⟨_, _, rfl, use (eNext hs (by omega) x) ?_⟩
  rintro _ w3 ⟨k3, r3, rfl, h3⟩
  refine ⟨_, _, rfl, use (eAhead (hs.kpo k3) (by omega) x) ?_⟩
  rintro _ w4 ⟨k4, r4, rfl, h4⟩
  have k14 := k1.t (k2.t (k3.t k4))
  have z4 := h.kpo k14
  refine ⟨_, _, rfl, usei (eNextN _ _) ⟨_, _, rfl, usei (eAheadN _ _) ⟨_, _, rfl, use (rNext7 z4 (by rw [zl_len]; omega) x) ?_⟩⟩⟩
  rintro _ _ ⟨rfl, r5, rfl, h5⟩
  obtain rfl := h3.one h5
  refine ⟨_, rfl, use (rAhead7 z4 (by rw [zl_len]; omega) x) ?_⟩
  rintro _ _ ⟨rfl, r6, rfl, h6⟩
  obtain rfl := h4.one h6
  exact ⟨_, rfl, br_y rfl (usei (rAt7 z4 _) ⟨_, rfl, br_y rfl (br_y rfl (usei (rAt7 z4 _) ⟨_, rfl, br_y rfl (br_y rfl (br_y rfl (br_y rfl (br_y rfl (usek (live7 _) fun w7 k7 => ⟨_, rfl, rfl, k14.t k7⟩)))))⟩))⟩)⟩

theorem seqFinds (h : RdZ w l zs) (lo hi x : Int) : IsK 8 #[.slice l.a l.len l.cap, .agg #[.int .i64 lo, .int .i64 hi], .int .i64 x] w (.bool true) := by
  refine c8 _ _ _ _ _ _ ?_
  unfold B8
  have hl := h.len
  have hb0 := Blk.new w [.int .i64 lo, .int .i64 hi] 65
  have k0 : Kp no w (w.alloc (.cells #[.int .i64 lo, .int .i64 hi] 65)) := (Kp.refl _ _).alloc _ _
  have h' := h.kpo k0
  generalize w.alloc (.cells #[.int .i64 lo, .int .i64 hi] 65) = wa at *
  generalize w.heap.size = q at *
  refine br_dec (fun _ => usek (live7 _) fun w1 k1 => ⟨_, rfl, rfl, k0.t k1⟩) (fun hsm => ?_)
  refine use (rWrong7 h' (by omega)) ?_
  rintro _ w1 ⟨k1, e, rfl, he⟩
  refine ⟨_, rfl, br_not (br_dec (fun h0 => ?_) (fun h0 => usek (live7 _) fun w2 k2 => ⟨_, rfl, rfl, k0.t (k1.t k2)⟩))⟩
  subst h0
  refine use (eNew0 (h'.kpo k1) (by omega) he) ?_
  rintro _ w2 ⟨k2, s, ls, rfl, rfl, hs⟩
  rw [zl_len] at hl
  have kd : Kp no w2 w2.drew := (Kp.refl no w2).drew
  have b2 := hb0.kp (k1.t (k2.t kd)) id
  refine ⟨_, _, rfl, by decide, by decide, _, rfl, _, b2.cell 0, by decide, by decide, _, rfl, _, b2.cell 1, by decide, by decide, _, rfl, _, b2.cell 0, by decide, by decide, _, rfl, _, b2.cell 1, use (eFind (hs.kpo kd) (by omega) lo hi x) ?_⟩
  rintro _ w3 ⟨k3, r3, rfl, h3⟩
  have b3 := b2.kp k3 id
  have k13 := k1.t (k2.t (kd.t k3))
  refine ⟨_, rfl, b3.cell 1, b3.cell 0, use (rFind7 (h'.kpo k13) (by rw [zl_len]; omega) lo hi x) ?_⟩
  rintro _ _ ⟨rfl, r5, rfl, h5⟩
  obtain rfl := h3.one h5
  exact ⟨_, rfl, br_y rfl ⟨by decide, by decide, _, rfl, _, b3.cell 0, by decide, by decide, _, rfl, _, b3.cell 1, usei (eFindN _ _ _ _) ⟨_, rfl, br_y rfl (usek (live7 _) fun w7 k7 => ⟨_, rfl, rfl, k0.t (k13.t k7)⟩)⟩⟩⟩

theorem seqSize (h : RdZ w l zs) (x y : Int) (hx : x ≤ 9223372036854775807) (hy : y ≤ 9223372036854775807) : IsK 9 #[.slice l.a l.len l.cap, .int .i64 x, .int .i64 y] w (.bool true) := by
  refine c9 _ _ _ _ _ ?_
  unfold B9
  have hl := h.len
  refine br_dec (fun _ => usek (live7 _) fun w1 k1 => ⟨_, rfl, rfl, k1⟩) (fun hsm => ?_)
  refine use (rWrong7 h (by omega)) ?_
  rintro _ w1 ⟨k1, e, rfl, he⟩
  refine ⟨_, rfl, br_not (br_dec (fun h0 => ?_) (fun h0 => usek (live7 _) fun w2 k2 => ⟨_, rfl, rfl, k1.t k2⟩))⟩
  subst h0
  refine use (eNew0 (h.kpo k1) (by omega) he) ?_
  rintro _ w2 ⟨k2, s, ls, rfl, rfl, hs⟩
  have hg := hs.good
  rw [zl_len] at hl
  refine ⟨_, _, rfl, usek (eSize hs (by omega)) fun w3 k3 => ⟨_, rfl, ?_⟩⟩
  have k13 := k1.t (k2.t k3)
  have z3 := h.kpo k13
  refine usei (rSize7 z3 hg (by omega)) ⟨_, rfl, br_not (br_y rfl (usei (eSizeN _) ⟨_, rfl, br_not (br_y rfl (usei (eLow _ _ _ hx hy) ⟨_, rfl, usei (rLow7 _ _ _ hx hy) ⟨_, rfl, br_not (br_y rfl ?_)⟩⟩))⟩))⟩
  refine br_dec (fun _ => usek (live7 _) fun w4 k4 => ⟨_, rfl, rfl, k13.t k4⟩) (fun hne => ?_)
  have hn : 0 < ls.length := by omega
  have e1 : IntKind.i64.wrap ((l.len : Int) - 1) = ((ls.length - 1 : Nat) : Int) := by rw [w64 ⟨by omega, by omega⟩]; omega
  rw [e1]
  obtain ⟨a, ha, hc⟩ := z3.at (i := ((ls.length - 1 : Nat) : Int)) (by omega) (by omega)
  have hv := wg_le hg (ls.length - 1)
  refine ⟨by omega, by omega, a, ha, _, hc, ?_⟩
  rw [Int.toNat_natCast, wz_zl]
  have hWe : lowW (l.len : Int) ((wg ls (ls.length - 1) : Nat) : Int) = eW ls := by unfold eW; rw [lastZ_pos hn, ← hl]
  refine usei (rLow7 _ _ _ (by omega) (by omega)) ⟨_, rfl, ?_⟩
  rw [hWe]
  have hW := eW_le hg
  have hu := upl_mono hg (eW ls)
  have hbl := hb_len hu
  have hul := upl_lt hg (show ls.length - 1 < ls.length by omega)
  have hp : prv (upl ls (eW ls)) ls.length = upl ls (eW ls) (ls.length - 1) := by unfold prv; rw [if_neg (by omega)]
  refine br_y ?_ (usek (live7 _) fun w4 k4 => ⟨_, rfl, rfl, k13.t k4⟩)
  have hh : (hiB ls).length = ls.length + prv (upl ls (eW ls)) ls.length := hbl
  rw [hh, hp, w64 (x := ((eW ls : Nat) : Int) + 3) ⟨by omega, by omega⟩]
  have hm : ls.length * eW ls ≤ 200 * 63 := Nat.mul_le_mul (by omega) hW
  have em : (l.len : Int) * ((eW ls : Int) + 3) = ((ls.length * eW ls + 3 * ls.length : Nat) : Int) := by
    rw [← hl]; push_cast; rw [Int.mul_add]; omega
  rw [em, w64 ⟨by omega, by omega⟩]
  omega

theorem seqMakes (h : RdZ w l zs) (x : Int) : IsK 10 #[.slice l.a l.len l.cap, .int .i64 x] w (.bool true) := by
  refine c10 _ _ _ _ ?_
  unfold B10
  have hl := h.len
  refine br_dec (fun _ => usek (live7 _) fun w1 k1 => ⟨_, rfl, rfl, k1⟩) (fun hsm => ?_)
  refine use (eNew h (by omega)) ?_
  rintro _ w1 ⟨k1, hv⟩
  have nils : ∀ {W : World} {R : World → Prop}, R W → Calls Try.prog 45 #[.pointer none] W (Rv fun v11 w12 => ∃ n13 : Int, v11 = .int .i64 n13 ∧
    br (!(decide (n13 = (0 : Int)))) ((fun v w' => v = Value.bool true ∧ Kp no w w') (.bool false) w12) (Calls Try.prog 46 #[.pointer none, .int .i64 x] w12 (Rv fun v14 w15 => ∃ n16 : Int, v14 = .int .i64 n16 ∧
    br (!(decide (n16 = (-1)))) ((fun v w' => v = Value.bool true ∧ Kp no w w') (.bool false) w15) (Calls Try.prog 47 #[.pointer none] w15 (Rv fun v17 w18 => ∃ n19 : Int, v17 = .int .i64 n19 ∧
    br (!(decide (n19 = (-1)))) ((fun v w' => v = Value.bool true ∧ Kp no w w') (.bool false) w18) (R w18)))))) := fun hR =>
    usei (eLenN _) ⟨_, rfl, br_not (br_y rfl (usei (eAtN _ _) ⟨_, rfl, br_not (br_y rfl (usei (eLastN _) ⟨_, rfl, br_not (br_y rfl hR)⟩))⟩))⟩
  rcases hv with ⟨e, rfl, he0, he⟩ | ⟨s, ls, rfl, rfl, hs⟩
  · refine ⟨_, _, rfl, use (rWrong7 (h.kpo k1) (by omega)) ?_⟩
    rintro _ w2 ⟨k2, e2, rfl, he2⟩
    obtain rfl := he.one he2
    refine ⟨_, rfl, br_not (br_y rfl (nils ?_))⟩
    exact br_not (br_n he0 (brN (usek (live7 _) fun w3 k3 => ⟨_, rfl, rfl, k1.t (k2.t k3)⟩)))
  · have hg := hs.good
    refine ⟨_, _, rfl, use (rWrong7 (h.kpo k1) (by omega)) ?_⟩
    rintro _ w2 ⟨k2, e2, rfl, he2⟩
    obtain rfl := he2.one (.inl ⟨rfl, okE_of hg⟩)
    refine ⟨_, rfl, br_not (br_y rfl (nils ?_))⟩
    rw [zl_len] at hl
    refine br_not (br_y rfl ⟨fun i w' => Kp no w1 w' ∧ ∃ m : Nat, i = m ∧ m ≤ ls.length, fun i _ => (l.len - i).toNat, ⟨k2, 0, rfl, by omega⟩, ?_⟩)
    rintro i w3 ⟨k3, m, rfl, hm⟩
    refine br_dec (fun hlt => ?_) (fun hlt => ?_)
    · obtain ⟨a, ha, hc⟩ := (h.kpo (k1.t k3)).at (i := (m : Int)) (by omega) hlt
      have hc' : w3.drew.cell? (Addr.add a ((m : Int).toNat * 1)) = some (.int .i64 (wz (zl ls) (m : Int).toNat)) := hc
      refine ⟨by omega, hlt, a, ha, _, hc', usek (eAt (hs.kpo k3.drew) (by omega) _) fun w4 k4 => ⟨_, rfl, ?_, ?_⟩⟩
      · have := (h.kpo (k1.t (k3.drew.t k4))).at (i := (m : Int)) (by omega) hlt
        obtain ⟨a', ha', hc2⟩ := this
        rw [ha] at ha'
        obtain rfl := Option.some.inj ha'
        exact hc2
      · rw [Int.toNat_natCast, wz_zl, atZ_in (by omega), w64 ⟨by omega, by omega⟩]
        exact br_not (br_y rfl ⟨⟨k3.drew.t k4, m + 1, by omega, by omega⟩, by dsimp only; omega⟩)
    · have z3 := h.kpo (k1.t k3)
      have s3 := hs.kpo k3
      refine usei (eLen s3) ⟨_, rfl, br_y (by omega) (usek (eAt s3 (by omega) _) fun w4 k4 => ⟨_, rfl, usei (rAt7 (z3.kpo k4) _) ⟨_, rfl, br_y rfl (usei (eLast (s3.kpo k4)) ⟨_, rfl, usei (rAt7 (z3.kpo k4) _) ⟨_, rfl, br_y ?_ (usek (live7 _) fun w5 k5 => ⟨_, rfl, rfl, (k1.t k3).t (k4.t k5)⟩)⟩⟩)⟩⟩)⟩
      rw [w64 (x := (l.len : Int) - 1) ⟨by omega, by omega⟩]
      by_cases hn : ls.length = 0
      · rw [atZ_out (by omega)]; unfold lastZ; rw [if_pos hn]
      · rw [show (l.len : Int) - 1 = ((ls.length - 1 : Nat) : Int) by omega, atZ_in (by omega), lastZ_pos (by omega)]
end Go.Proofs.Ytbgbmliladhpeaa.V
