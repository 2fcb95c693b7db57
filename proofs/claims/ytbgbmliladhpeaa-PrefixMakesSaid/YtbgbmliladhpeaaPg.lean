/- Numbers by their sums: what is told of them beside the program, and the laws. -/
import Derived.Test.YtbgbmliladhpeaaPf
namespace Go.Proofs.Ytbgbmliladhpeaa.V
open Go Go.VC
variable {w w' w0 : World} {l : Slc} {ls xs : List Nat} {zs : List Int} {s p B n : Nat}

theorem rSums9 (h : RdZ w l zs) (hsz : zs.length ≤ 10000000) : Calls Try.prog 49 #[.slice l.a l.len l.cap] w (Rv fun v w' => Kp no w w' ∧
    ((v = .tuple #[.slice none 0 0, .bool false] ∧ ¬ GoodS zs) ∨ ∃ (o : Slc) (ls : List Nat), v = .tuple #[.slice o.a o.len o.cap, .bool true] ∧ zs = zl ls ∧ ls.sum ≤ 1099511627776 ∧ RdZ w' o (zl (sumsOf ls)))) := by
  refine c49 _ _ _ ?_
  unfold B49
  have hl := h.len
  have hO : Ownd (w.alloc (.cells #[.int .i64 0] 3)) ⟨some ⟨w.heap.size, 0, none⟩, 1, 1⟩ 3 1 ((sumsZ zs 0).map (Value.int .i64)) :=
    Ownd.mk' (cur := [.int .i64 0]) rfl (Blk.new w [.int .i64 0] 3) (Nat.le_refl _) (by simp [maxLen]) rfl rfl
  have k1 : Kp no w (w.alloc (.cells #[.int .i64 0] 3)) := (Kp.refl _ _).alloc _ _
  refine ⟨fun o x i w' => ∃ m : Nat, i = m ∧ m ≤ zs.length ∧ (∀ j, j < m → 0 ≤ wz zs j) ∧ x = (zs.take m).sum ∧ 0 ≤ x ∧ x ≤ 1099511627776 ∧ Ownd w' o 3 1 ((sumsZ zs m).map (Value.int .i64)) ∧ o.len = m + 1 ∧ Kp no w w' ∧ ∀ k, On o k → w.heap.size ≤ k,
    fun _ _ i _ => (l.len - i).toNat, ⟨0, rfl, by omega, fun j hj => by omega, rfl, by omega, by omega, hO, rfl, k1, fun k hk => by obtain ⟨b, hb, rfl⟩ := hk; cases hb; exact Nat.le_refl _⟩, ?_⟩
  rintro o x i w2 ⟨m, rfl, hm, hok, hx, hx0, hx1, hO2, hol, k2, f2⟩
  refine br_dec (fun hlt => ?_) (fun hlt => ⟨k2, .inr ?_⟩)
  · obtain ⟨a, ha, hc⟩ := (h.kpo k2).at (i := (m : Int)) (by omega) hlt
    have hb := wz_bounds h m
    have h00 : (0 : Int) ≤ (m : Int) := by omega
    rw [Int.toNat_natCast] at hc ⊢
    refine ⟨h00, hlt, a, ha, _, hc, br_dec (fun h1 => ⟨k2, .inl ⟨rfl, not_goodS (by omega) hok (.inl h1)⟩⟩) (fun h1 => ⟨h00, hlt, a, ha, _, hc, ?_⟩)⟩
    rw [w64 (x := 1099511627776 - x) ⟨by omega, by omega⟩]
    refine br_dec (fun h2 => ⟨k2, .inl ⟨rfl, not_goodS (by omega) hok (.inr (by omega))⟩⟩) (fun h2 => ⟨h00, hlt, a, ha, _, hc, ?_⟩)
    rw [w64 (x := x + wz zs m) ⟨by omega, by omega⟩, w64 (x := (m : Int) + 1) ⟨by omega, by omega⟩]
    obtain ⟨w3, o3, hr3, hO3, hl3, k3, f3⟩ := append_one (ty := 56) elI hO2 (.int .i64 (x + wz zs m)) rfl (by simp only [maxLen]; omega) (by omega)
    have e : (zs.take (m + 1)).sum = x + wz zs m := by rw [takeZ_succ (by omega), List.sum_append, hx]; simp
    refine ⟨w3, o3, hr3, ⟨m + 1, by omega, by omega, fun j hj => ?_, e.symm, by omega, by omega, ?_, by omega, k2.trans k3 (fun k g1 g2 => by have := f2 k g2; omega), fun k hk => ?_⟩, by dsimp only; omega⟩
    · by_cases e2 : j = m
      · subst e2; omega
      · exact hok j (by omega)
    · rw [sumsZ_succ, e, List.map_append]; exact hO3
    · have := k2.size
      rcases f3 k hk with g | g
      · exact f2 k g
      · omega
  · obtain rfl : m = zs.length := by omega
    have hg := goodS_end hok (by rw [← hx]; exact hx1)
    obtain ⟨ls, rfl, hs⟩ := goodS_of hg
    rw [zl_len, sumsZ_zl] at hO2
    exact ⟨o, ls, rfl, rfl, hs, ownZ hO2 (sumsOf_bnd hs)⟩

theorem rSum9 (h : RdZ w l (zl ls)) (hs : ls.sum ≤ 1099511627776) (hsz : ls.length ≤ 10000000) (lo hi : Int) : Is 52 #[.slice l.a l.len l.cap, .int .i64 lo, .int .i64 hi] w (.int .i64 (sumR ls lo hi)) := by
  refine c52 _ _ _ _ _ ?_
  unfold B52
  have hl := h.len
  rw [zl_len] at hl
  refine ⟨fun x i w' => w' = w ∧ ∃ m : Nat, i = m ∧ m ≤ ls.length ∧ x = (sumTo ls lo hi m : Int), fun _ i _ => (l.len - i).toNat, ⟨rfl, 0, rfl, by omega, ?_⟩, ?_⟩
  · unfold sumTo
    rw [show (min hi ((0 : Nat) : Int)).toNat = 0 by omega, S0_zero]; simp
  · rintro x i w1 ⟨hw, m, rfl, hm, rfl⟩
    obtain rfl : w = w1 := hw.symm
    refine br_dec (fun hlt => ?_) (fun hlt => ⟨?_, rfl⟩)
    · obtain ⟨a, ha, hc⟩ := h.at (i := (m : Int)) (by omega) hlt
      rw [Int.toNat_natCast, wz_zl] at hc
      have hst := sumTo_succ (lo := lo) (hi := hi) (show m < ls.length by omega)
      have hle := sumTo_le ls lo hi (m + 1)
      rw [w64 (x := (m : Int) + 1) ⟨by omega, by omega⟩]
      refine br_dec (fun h1 => br_dec (fun h2 => ⟨by omega, hlt, a, ha, _, by rw [Int.toNat_natCast]; exact hc, ?_⟩) (fun h2 => ?_)) (fun h1 => ?_)
      · rw [if_pos ⟨h1, h2⟩] at hst
        rw [w64 (x := ((sumTo ls lo hi m : Nat) : Int) + _) ⟨by omega, by omega⟩]
        exact ⟨⟨rfl, m + 1, by omega, by omega, by omega⟩, by dsimp only; omega⟩
      · rw [if_neg (by omega)] at hst
        exact ⟨⟨rfl, m + 1, by omega, by omega, by omega⟩, by dsimp only; omega⟩
      · rw [if_neg (by omega)] at hst
        exact ⟨⟨rfl, m + 1, by omega, by omega, by omega⟩, by dsimp only; omega⟩
    · obtain rfl : m = ls.length := by omega
      rw [sumTo_end]

theorem rWhere9 (h : RdZ w l (zl ls)) (hs : ls.sum ≤ 1099511627776) (hsz : ls.length ≤ 10000000) (t : Int) (ht : t ≤ 9223372036854775807) : Calls Try.prog 54 #[.slice l.a l.len l.cap, .int .i64 t] w (Rv fun v w' => w' = w ∧ ∃ r : Int, v = .int .i64 r ∧ WhereP ls t r) := by
  refine c54 _ _ _ _ ?_
  unfold B54
  have hl := h.len
  rw [zl_len] at hl
  refine br_dec (fun h1 => ⟨rfl, _, rfl, .inl ⟨rfl, .inl h1⟩⟩) (fun h1 => ⟨fun x i w' => w' = w ∧ ∃ m : Nat, i = m ∧ m ≤ ls.length ∧ x = t - (S0 ls m : Int) ∧ 0 ≤ x, fun _ i _ => (l.len - i).toNat, ⟨rfl, 0, rfl, by omega, by rw [S0_zero]; omega, by omega⟩, ?_⟩)
  rintro x i w1 ⟨hw, m, rfl, hm, hx, hx0⟩
  obtain rfl : w = w1 := hw.symm
  refine br_dec (fun hlt => ?_) (fun hlt => ⟨rfl, _, rfl, .inl ⟨rfl, .inr ?_⟩⟩)
  · obtain ⟨a, ha, hc⟩ := h.at (i := (m : Int)) (by omega) hlt
    rw [Int.toNat_natCast, wz_zl] at hc
    have hS := S0_succ (show m < ls.length by omega)
    have h00 : (0 : Int) ≤ (m : Int) := by omega
    rw [Int.toNat_natCast]
    refine ⟨h00, hlt, a, ha, _, hc, br_dec (fun h2 => ⟨rfl, _, rfl, .inr ⟨m, rfl, by omega, by omega, by omega⟩⟩) (fun h2 => ⟨h00, hlt, a, ha, _, hc, ?_⟩)⟩
    rw [w64 (x := x - _) ⟨by omega, by omega⟩, w64 (x := (m : Int) + 1) ⟨by omega, by omega⟩]
    exact ⟨⟨rfl, m + 1, by omega, by omega, by omega, by omega⟩, by dsimp only; omega⟩
  · obtain rfl : m = ls.length := by omega
    rw [S0_all] at hx; omega

theorem xNew0 (h : RdZ w l (zl ls)) (hsz : ls.length ≤ 10000000) (hs : ls.sum ≤ 1099511627776) : Calls Try.prog 50 #[.slice l.a l.len l.cap] w (Rv fun v w' => Kp no w w' ∧
    ∃ p, v = .tuple #[.pointer (some ⟨p, 0, none⟩), .int .i64 0] ∧ PreB w' p ls w.heap.size) := by
  refine use (xNew h (by rw [zl_len]; exact hsz)) ?_
  rintro _ w1 ⟨k1, ⟨_, g⟩ | ⟨p, ls', rfl, hz, _, g⟩⟩
  · exact absurd (goodS_zl hs) g
  · obtain rfl := zl_inj hz
    exact ⟨k1, p, rfl, g⟩

theorem live9 (w : World) : IsK 48 #[] w (.bool true) := by
  refine c48 _ _ ?_
  unfold B48
  have kA : Kp no w (w.alloc (.cells #[.int .i64 2, .int .i64 0, .int .i64 3] 3)) := (Kp.refl _ _).alloc _ _
  have rA : RdZ (w.alloc (.cells #[.int .i64 2, .int .i64 0, .int .i64 3] 3)) ⟨some ⟨w.heap.size, 0, none⟩, 3, 3⟩ (zl [2, 0, 3]) := rdZ_lit w [2, 0, 3] (by simp) 3
  generalize w.alloc (.cells #[.int .i64 2, .int .i64 0, .int .i64 3] 3) = w1 at *
  have h1 := xNew0 rA (by simp) (by simp)
  refine use h1 ?_
  rintro _ w2 ⟨k2, p, rfl, hp⟩
  refine ⟨_, _, rfl, usei (xTotal hp) ⟨_, rfl, br_y rfl (usek (xSum hp (by simp) 1 3) fun w3 k3 => ⟨_, rfl, br_y (by decide) (use (xWhere (hp.kpo k3) (by simp) 1) ?_)⟩)⟩⟩
  rintro _ w4 ⟨k4, r, rfl, hr⟩
  obtain rfl := hr.one (.inr ⟨0, rfl, by decide, by decide, by decide⟩ : WhereP _ 1 0)
  refine ⟨_, rfl, br_y rfl (use (xWhere (hp.kpo (k3.t k4)) (by simp) 2) ?_)⟩
  rintro _ w5 ⟨k5, r, rfl, hr⟩
  obtain rfl := hr.one (.inr ⟨2, rfl, by decide, by decide, by decide⟩ : WhereP _ 2 2)
  refine ⟨_, rfl, br_y rfl (use (xWhere (hp.kpo ((k3.t k4).t k5)) (by simp) 5) ?_)⟩
  rintro _ w6 ⟨k6, r, rfl, hr⟩
  obtain rfl := hr.one (.inl ⟨rfl, .inr (by decide)⟩ : WhereP _ 5 (-1))
  exact ⟨_, rfl, rfl, kA.t (k2.t ((k3.t k4).t (k5.t k6)))⟩

theorem prefixMakes (h : RdZ w l zs) (x : Int) : IsK 13 #[.slice l.a l.len l.cap, .int .i64 x] w (.bool true) := by
  refine c13 _ _ _ _ ?_
  unfold B13
  have hl := h.len
  refine br_dec (fun _ => usek (live9 _) fun w1 k1 => ⟨_, rfl, rfl, k1⟩) (fun hsm => ?_)
  refine use (xNew h (by omega)) ?_
  rintro _ w1 ⟨k1, ⟨rfl, hn⟩ | ⟨p, ls, rfl, rfl, hs, hp⟩⟩
  · refine ⟨_, _, rfl, use (rSums9 (h.kpo k1) (by omega)) ?_⟩
    rintro _ w2 ⟨k2, ⟨rfl, _⟩ | ⟨o, ls, rfl, rfl, hs, _⟩⟩
    · refine ⟨⟨none, 0, 0⟩, _, rfl, usei (xLenN _) ⟨_, rfl, br_not (br_y rfl (usei (xAtN _ _) ⟨_, rfl, br_not (br_y rfl (usei (xTotalN _) ⟨_, rfl, br_not (br_y rfl (usei (xSizeN _) ⟨_, rfl, br_not (br_y rfl ?_)⟩))⟩))⟩))⟩⟩
      exact brT (brN (br_y rfl (usek (live9 _) fun w3 k3 => ⟨_, rfl, rfl, k1.t (k2.t k3)⟩)))
    · exact absurd (goodS_zl hs) hn
  · refine ⟨_, _, rfl, use (rSums9 (h.kpo k1) (by omega)) ?_⟩
    rw [zl_len] at hl
    rintro _ w2 ⟨k2, ⟨_, hn⟩ | ⟨o, ls', rfl, hz, _, ho⟩⟩
    · exact absurd (goodS_zl hs) hn
    · obtain rfl := zl_inj hz
      clear hz
      refine ⟨o, _, rfl, usei (xLenN _) ⟨_, rfl, br_not (br_y rfl (usei (xAtN _ _) ⟨_, rfl, br_not (br_y rfl (usei (xTotalN _) ⟨_, rfl, br_not (br_y rfl (usei (xSizeN _) ⟨_, rfl, br_not (br_y rfl ?_)⟩))⟩))⟩))⟩⟩
      refine brF ⟨fun i w' => Kp no w2 w' ∧ ∃ m : Nat, i = m ∧ m ≤ ls.length, fun i _ => (l.len - i).toNat, ⟨Kp.refl _ _, 0, rfl, by omega⟩, ?_⟩
      rintro i w3 ⟨k3, m, rfl, hm⟩
      have k13 := k1.t (k2.t k3)
      refine br_dec (fun hlt => ?_) (fun hlt => ?_)
      · obtain ⟨a, ha, hc⟩ := (h.kpo k13).at (i := (m : Int)) (by omega) hlt
        have hc' : w3.drew.cell? (Addr.add a ((m : Int).toNat * 1)) = some (.int .i64 (wz (zl ls) (m : Int).toNat)) := hc
        refine ⟨by omega, hlt, a, ha, _, hc', usek (xAt (hp.kpo (k2.t k3.drew)) (by omega) _) fun w4 k4 => ⟨_, rfl, ?_, ?_⟩⟩
        · obtain ⟨a', ha', hc2⟩ := (h.kpo (k1.t (k2.t (k3.drew.t k4)))).at (i := (m : Int)) (by omega) hlt
          rw [ha] at ha'
          obtain rfl := Option.some.inj ha'
          exact hc2
        · rw [Int.toNat_natCast, wz_zl, atZ_in (by omega), w64 ⟨by omega, by omega⟩]
          exact br_not (br_y rfl ⟨⟨k3.drew.t k4, m + 1, by omega, by omega⟩, by dsimp only; omega⟩)
      · have p3 := hp.kpo (k2.t k3.drew)
        have z3 := h.kpo (k1.t (k2.t k3.drew))
        have o3 := ho.kpo k3.drew
        have hol := o3.len
        rw [zl_len, sumsOf_len] at hol
        refine br_y rfl (usei (xLen p3 (by omega)) ⟨_, rfl, br_y (by omega) (usek (xAt p3 (by omega) _) fun w4 k4 => ⟨_, rfl, usei (rAt7 (z3.kpo k4) _) ⟨_, rfl, br_y rfl ?_⟩⟩)⟩)
        obtain ⟨a, ha, hc⟩ := (o3.kpo k4).at (i := (l.len : Int)) (by omega) (by omega)
        have ev : wz (zl (sumsOf ls)) (l.len : Int).toNat = (ls.sum : Int) := by
          rw [Int.toNat_natCast, wz_zl, ← hl, sumsOf_at (Nat.le_refl _), S0_all]
        rw [ev] at hc
        refine ⟨by omega, by omega, a, ha, _, hc, usei (xTotal (p3.kpo k4)) ⟨_, rfl, hc, br_y rfl (usek (xSize (p3.kpo k4) (by omega)) fun w5 k5 => ⟨_, rfl, usei (rSize7 ((o3.kpo k4).kpo k5) (sumsOf_good hs) (by rw [sumsOf_len]; omega)) ⟨_, rfl, br_y rfl (usek (live9 _) fun w6 k6 => ⟨_, rfl, rfl, (k1.t (k2.t k3.drew)).t (k4.t (k5.t k6))⟩)⟩⟩)⟩⟩

theorem prefixSums (h : RdZ w l zs) (lo hi t : Int) (ht : t ≤ 9223372036854775807) : IsK 11 #[.slice l.a l.len l.cap, .agg #[.int .i64 lo, .int .i64 hi], .int .i64 t] w (.bool true) := by
  refine c11 _ _ _ _ _ _ ?_
  unfold B11
  have hl := h.len
  have hb0 := Blk.new w [.int .i64 lo, .int .i64 hi] 65
  have k0 : Kp no w (w.alloc (.cells #[.int .i64 lo, .int .i64 hi] 65)) := (Kp.refl _ _).alloc _ _
  have h' := h.kpo k0
  generalize w.alloc (.cells #[.int .i64 lo, .int .i64 hi] 65) = wa at *
  generalize w.heap.size = q at *
  refine br_dec (fun _ => usek (live9 _) fun w1 k1 => ⟨_, rfl, rfl, k0.t k1⟩) (fun hsm => ?_)
  refine use (rSums9 h' (by omega)) ?_
  rintro _ w1 ⟨k1, ⟨rfl, _⟩ | ⟨o, ls, rfl, rfl, hs, _⟩⟩
  · exact ⟨⟨none, 0, 0⟩, _, rfl, brT (usek (live9 _) fun w2 k2 => ⟨_, rfl, rfl, k0.t (k1.t k2)⟩)⟩
  rw [zl_len] at hl
  refine ⟨o, _, rfl, brF (use (xNew0 (h'.kpo k1) (by omega) hs) ?_)⟩
  rintro _ w2 ⟨k2, p, rfl, hp⟩
  have kd : Kp no w2 w2.drew := (Kp.refl no w2).drew
  have b2 := hb0.kp (k1.t (k2.t kd)) id
  refine ⟨_, _, rfl, by decide, by decide, _, rfl, _, b2.cell 0, by decide, by decide, _, rfl, _, b2.cell 1, by decide, by decide, _, rfl, _, b2.cell 0, by decide, by decide, _, rfl, _, b2.cell 1, usek (xSum (hp.kpo kd) (by omega) lo hi) fun w3 k3 => ?_⟩
  have b3 := b2.kp k3 id
  have k13 := k1.t (k2.t (kd.t k3))
  refine ⟨_, rfl, b3.cell 1, b3.cell 0, usei (rSum9 (h'.kpo k13) hs (by omega) lo hi) ⟨_, rfl, br_y rfl (use (xWhere (hp.kpo (kd.t k3)) (by omega) t) ?_)⟩⟩
  rintro _ w4 ⟨k4, r4, rfl, h4⟩
  have b4 := b3.kp k4 id
  refine ⟨_, rfl, use (rWhere9 (h'.kpo (k13.t k4)) hs (by omega) t ht) ?_⟩
  rintro _ _ ⟨rfl, r5, rfl, h5⟩
  obtain rfl := h4.one h5
  exact ⟨_, rfl, br_y rfl ⟨by decide, by decide, _, rfl, _, b4.cell 0, by decide, by decide, _, rfl, _, b4.cell 1, usei (xSumN _ _ _) ⟨_, rfl, br_y rfl (usei (xWhereN _ _) ⟨_, rfl, br_y rfl (usek (live9 _) fun w7 k7 => ⟨_, rfl, rfl, k0.t ((k13.t k4).t k7)⟩)⟩)⟩⟩⟩

theorem sum_le {zs : List Int} {c : Int} (h : ∀ i, i < zs.length → 0 ≤ wz zs i ∧ wz zs i ≤ c) : (∀ z ∈ zs, 0 ≤ z) ∧ zs.sum ≤ c * zs.length := by
  have hz : ∀ z ∈ zs, 0 ≤ z ∧ z ≤ c := fun z hz => by
    obtain ⟨i, hi, rfl⟩ := List.getElem_of_mem hz
    have := h i hi
    unfold wz at this
    rwa [List.getElem?_eq_getElem hi] at this
  refine ⟨fun z g => (hz z g).1, ?_⟩
  clear h
  induction zs with
  | nil => simp
  | cons z zs ih =>
    have h1 := ih (fun y hy => hz y (List.mem_cons_of_mem _ hy))
    have h2 := hz z (by simp)
    rw [List.sum_cons, List.length_cons]
    push_cast
    rw [Int.mul_add]; omega

theorem prefixUnits (h : RdZ w l zs) : IsK 12 #[.slice l.a l.len l.cap] w (.bool true) := by
  refine c12 _ _ _ ?_
  unfold B12
  have hl := h.len
  refine br_dec (fun _ => usek (live9 _) fun w1 k1 => ⟨_, rfl, rfl, k1⟩) (fun hsm => ?_)
  refine ⟨fun i w' => w' = w ∧ ∃ m : Nat, i = m ∧ m ≤ zs.length ∧ ∀ j, j < m → 0 ≤ wz zs j ∧ wz zs j ≤ 49, fun i _ => (l.len - i).toNat, ⟨rfl, 0, rfl, by omega, fun j hj => by omega⟩, ?_⟩
  rintro i w1 ⟨hw, m, rfl, hm, hok⟩
  obtain rfl : w = w1 := hw.symm
  refine br_dec (fun hlt => ?_) (fun hlt => ?_)
  · obtain ⟨a, ha, hc⟩ := h.at (i := (m : Int)) (by omega) hlt
    have h00 : (0 : Int) ≤ (m : Int) := by omega
    rw [Int.toNat_natCast] at hc ⊢
    refine ⟨h00, hlt, a, ha, _, hc, br_dec (fun _ => usek (live9 _) fun w1 k1 => ⟨_, rfl, rfl, k1⟩) (fun h1 => ⟨h00, hlt, a, ha, _, hc, br_dec (fun _ => usek (live9 _) fun w1 k1 => ⟨_, rfl, rfl, k1⟩) (fun h2 => ?_)⟩)⟩
    rw [w64 (x := (m : Int) + 1) ⟨by omega, by omega⟩]
    refine ⟨⟨rfl, m + 1, by omega, by omega, fun j hj => ?_⟩, by dsimp only; omega⟩
    by_cases e : j = m
    · subst e; omega
    · exact hok j (by omega)
  · obtain rfl : m = zs.length := by omega
    obtain ⟨g1, g2⟩ := sum_le hok
    obtain ⟨ls, rfl, hs⟩ := goodS_of (⟨g1, by omega⟩ : GoodS zs)
    rw [zl_len] at hl
    refine use (xNew0 h (by omega) hs) ?_
    rintro _ w2 ⟨k2, p, rfl, hp⟩
    refine ⟨_, _, rfl, fun t i w' => Kp no w2 w' ∧ ∃ m : Nat, i = m ∧ m ≤ ls.length ∧ t = (S0 ls m : Int), fun _ i _ => (l.len - i).toNat, ⟨Kp.refl _ _, 0, rfl, by omega, by rw [S0_zero]; rfl⟩, ?_⟩
    rintro t i w3 ⟨k3, m, rfl, hm, rfl⟩
    refine br_dec (fun hlt => ?_) (fun hlt => ?_)
    · have hS := S0_succ (show m < ls.length by omega)
      have hS2 : S0 ls (m + 1) ≤ ls.sum := S0_le
      refine ⟨fun t k w' => Kp no w2 w' ∧ ∃ j : Nat, k = j ∧ j ≤ wg ls m ∧ t = ((S0 ls m + j : Nat) : Int), fun _ k _ => ((wg ls m : Int) - k).toNat, ⟨k3, 0, rfl, by omega, by rw [Nat.add_zero]⟩, ?_⟩
      rintro t k w4 ⟨k4, j, rfl, hj, rfl⟩
      obtain ⟨a, ha, hc⟩ := (h.kpo (k2.t k4)).at (i := (m : Int)) (by omega) hlt
      rw [Int.toNat_natCast, wz_zl] at hc
      refine ⟨by omega, hlt, a, ha, _, by rw [Int.toNat_natCast]; exact hc, br_dec (fun h1 => ?_) (fun h1 => ?_)⟩
      · refine use (xWhere (hp.kpo k4) (by omega) _) ?_
        rintro _ w5 ⟨k5, r, rfl, hr⟩
        obtain rfl := hr.one (.inr ⟨m, rfl, by omega, by omega, by omega⟩ : WhereP _ _ (m : Int))
        rw [w64 (x := ((S0 ls m + j : Nat) : Int) + 1) ⟨by omega, by omega⟩, w64 (x := (j : Int) + 1) ⟨by omega, by omega⟩]
        exact ⟨_, rfl, br_not (br_y rfl ⟨⟨k4.t k5, j + 1, by omega, by omega, by omega⟩, by dsimp only; omega⟩)⟩
      · rw [w64 (x := (m : Int) + 1) ⟨by omega, by omega⟩]
        exact ⟨⟨k4, m + 1, by omega, by omega, by omega⟩, by dsimp only; omega⟩
    · obtain rfl : m = ls.length := by omega
      rw [S0_all]
      refine use (xWhere (hp.kpo k3) (by omega) _) ?_
      rintro _ w4 ⟨k4, r, rfl, hr⟩
      obtain rfl := hr.one (.inl ⟨rfl, .inr (Int.le_refl _)⟩ : WhereP _ _ (-1))
      exact ⟨_, rfl, br_y rfl (usei (xTotal (hp.kpo (k3.t k4))) ⟨_, rfl, br_y rfl (usek (live9 _) fun w5 k5 => ⟨_, rfl, rfl, k2.t ((k3.t k4).t k5)⟩)⟩)⟩
end Go.Proofs.Ytbgbmliladhpeaa.V
