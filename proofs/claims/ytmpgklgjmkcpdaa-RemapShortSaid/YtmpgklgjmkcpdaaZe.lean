/- Words behind words: words of ranks; what the document's functions tell; the example. -/
import Derived.Test.YtmpgklgjmkcpdaaZd
namespace Go.VC
open Go
theorem prZ_inj {a b : List (Nat × Nat)} (h : a.map prZ = b.map prZ) : a = b := by
  induction a generalizing b with
  | nil => cases b with
    | nil => rfl
    | cons y b => simp at h
  | cons x a ih => cases b with
    | nil => simp at h
    | cons y b =>
      simp only [List.map_cons, List.cons.injEq] at h
      have h1 := h.1
      unfold prZ at h1
      simp only [List.cons.injEq, and_true] at h1
      have : x = y := Prod.ext (by omega) (by omega)
      rw [this, ih h.2]
end Go.VC
namespace Go.Proofs.Ytmpgklgjmkcpdaa.V
open Go Go.VC
variable {w w' w0 : World} {l la lb : Slc} {zs ks : List Int} {ps : List (Nat × Nat)} {n m r B b : Nat} {v : Value}
theorem rInts {xs ys : List Nat} (h : RdZ w la (zl xs)) (g : RdZ w lb (zl ys)) (hsz : xs.length ≤ 1000000) : IsK 71 #[.slice la.a la.len la.cap, .slice lb.a lb.len lb.cap] w (.bool (decide (xs = ys))) := by
  have hl := h.len
  have gl := g.len
  rw [zl_len] at hl gl
  exact ints4 ⟨hl, by have := h.rd; rwa [List.map_map] at this⟩ ⟨gl, by have := g.rd; rwa [List.map_map] at this⟩ (by omega)

theorem mShortN (hz : RdZ w l zs) (hsz : zs.length ≤ 1000) : IsK 67 #[.pointer none, .slice l.a l.len l.cap] w (.tuple #[.slice none 0 0, .int .i64 7]) := by
  refine c67n _ _ _ ?_
  unfold B67n
  have b1 := Blk.new w [.pointer none] 72
  have k1 : Kp no w (w.alloc (.cells #[.pointer none] 72)) := (Kp.refl _ _).alloc _ _
  generalize w.alloc (.cells #[.pointer none] 72) = w1 at *
  refine ⟨_, b1.cell0 0, usek (mFitsN (hz.kpo k1) hsz) fun w3 k3 => ⟨_, rfl, brT ⟨List.nodup_nil, (fun D hD => by cases hD), fun w5 k5 => ⟨rfl, (k1.t k3).trans k5 (fun k h1 h2 => by cases h2)⟩⟩⟩⟩
theorem mLongN (w : World) (l : Slc) (a : Int) (ha : 0 ≤ a) : Is 69 #[.pointer none, .int .i64 a, .slice l.a l.len l.cap] w (.tuple #[.slice none 0 0, .int .i64 7]) := by
  refine c69n _ _ _ _ ?_
  unfold B69n
  exact br_n (by omega) (usei (mWordsN w) ⟨_, rfl, br_y ha ⟨rfl, rfl⟩⟩)

theorem atZ_nat (ls : List Nat) (k : Int) (h : ¬ atZ (zl ls) k < 0) : ∃ x : Nat, atZ (zl ls) k = x ∧ ∃ i, i < ls.length ∧ x = wg ls i := by
  unfold atZ at h ⊢
  split
  · rename_i g
    rw [wz_zl]
    exact ⟨_, rfl, k.toNat, by rw [zl_len] at g; omega, rfl⟩
  · rename_i g; rw [if_neg g] at h; omega

set_option maxHeartbeats 1000000 in
theorem mLong (h : MapB w m n ps B) (hk : RdZ w l ks) (hsz : ks.length ≤ 1000) (a : Int) : Calls Try.prog 69 #[.pointer (some ⟨m, 0, none⟩), .int .i64 a, .slice l.a l.len l.cap] w (Rv fun v w' => Kp no w w' ∧
    ((v = .tuple #[.slice none 0 0, .int .i64 7] ∧ LongR ps n a ks none) ∨ (∃ (o : Slc) (out : List Nat), v = .tuple #[.slice o.a o.len o.cap, .int .i64 0] ∧ RdZ w' o (zl out) ∧ LongR ps n a ks (some out)))) := by
  refine c69 _ _ _ _ _ ?_
  unfold B69
  have hl := hk.len
  refine br_dec (fun h1 => ⟨Kp.refl _ _, .inl ⟨rfl, .inl ⟨rfl, .inl h1⟩⟩⟩) (fun h1 => usei (mWords h) ⟨_, rfl, br_dec (fun h2 => ⟨Kp.refl _ _, .inl ⟨rfl, .inl ⟨rfl, .inr (.inl h2)⟩⟩⟩) (fun h2 => ?_)⟩)
  obtain ⟨a, rfl⟩ : ∃ a' : Nat, a = a' := ⟨a.toNat, by omega⟩
  have hb0 := Blk.new w [.int .i64 (a : Int)] 3
  have hO : Ownd (w.alloc (.cells #[.int .i64 (a : Int)] 3)) ⟨some ⟨w.heap.size, 0, none⟩, 1, 1⟩ 3 1 ((zl [a]).map (Value.int .i64)) :=
    Ownd.mk' (cur := [.int .i64 (a : Int)]) rfl hb0 (Nat.le_refl _) (by simp [maxLen]) rfl rfl
  have k1 : Kp no w (w.alloc (.cells #[.int .i64 (a : Int)] 3)) := (Kp.refl _ _).alloc _ _
  have hbn : n ≤ 65536 := by obtain ⟨_, _, _, _, hn, _⟩ := h; exact hn
  have hpsok : PairsOk n ps := by obtain ⟨_, _, _, hps, _⟩ := h; exact hps
  refine ⟨fun x y i w' => ∃ (j : Nat) (out : List Nat), i = j ∧ j ≤ ks.length ∧ LngP ps a ks out j ∧ x = (wg out j : Int) ∧ (∀ v ∈ out, v < 65536) ∧ Ownd w' y 3 1 ((zl out).map (Value.int .i64)) ∧ y.len = j + 1 ∧ (∀ k, On y k → w.heap.size ≤ k) ∧ Kp no w w', fun _ _ i _ => (l.len - i).toNat,
    ⟨0, [a], rfl, by omega, ⟨rfl, rfl, fun i hi => by omega⟩, rfl, fun v hv => by rw [List.mem_singleton.1 hv]; omega, hO, rfl, fun k hk => by obtain ⟨q, hq, rfl⟩ := hk; cases hq; exact Nat.le_refl _, k1⟩, ?_⟩
  rintro x y i w2 ⟨j, out, rfl, hj, hL, rfl, hv, hO2, hyl, hf, k2⟩
  refine br_dec (fun hlt => ?_) (fun hlt => ⟨k2, .inr ?_⟩)
  · obtain ⟨a2, ha2, hc2⟩ := (hk.kpo k2).at (i := (j : Int)) (by omega) hlt
    rw [Int.toNat_natCast] at hc2
    refine ⟨by omega, hlt, a2, ha2, _, by rw [Int.toNat_natCast]; exact hc2, usek (mWord (h.kpo k2) _ _) fun w3 k3 => ⟨_, rfl, br_dec (fun g => ⟨k2.t k3, .inl ⟨rfl, .inl ⟨rfl, .inr (.inr ⟨j, out, by omega, hL, g⟩)⟩⟩⟩) (fun g => ?_)⟩⟩
    obtain ⟨x, hx, i2, hi2, hx2⟩ := atZ_nat _ _ g
    rw [hx]
    have hxb : x < 65536 := by
      have := (bh_inc hpsok (wg out j : Int)).1 _ (wg_memN hi2)
      omega
    obtain ⟨w4, y4, hr4, hO4, hl4, k4, f4⟩ := append_one (ty := 22) elI (hO2.kp k3 (fun _ _ f => f)) (.int .i64 (x : Int)) rfl (by simp only [maxLen]; omega) (by omega)
    have e : (zl out).map (Value.int .i64) ++ [.int .i64 (x : Int)] = (zl (out ++ [x])).map (Value.int .i64) := by simp
    rw [e] at hO4
    rw [w64 (x := (j : Int) + 1) ⟨by omega, by omega⟩]
    have hL2 := hL.snoc (x := x) hx.symm
    refine ⟨w4, y4, hr4, ⟨j + 1, out ++ [x], by omega, by omega, hL2, ?_, fun v hv' => ?_, hO4, by omega, fun k hk => ?_, (k2.t k3).trans k4 (fun k h1 h2 => by have := hf k h2; omega)⟩, by dsimp only; omega⟩
    · rw [wg_snoc, if_pos (by rw [hL.1])]
    · rcases List.mem_append.1 hv' with g | g
      · exact hv v g
      · rw [List.mem_singleton.1 g]; exact hxb
    · rcases f4 k hk with g | g
      · exact hf k g
      · have := k2.size; have := k3.size; omega
  · obtain rfl : j = ks.length := by omega
    refine ⟨y, out, rfl, ownZ hO2 (fun z hz => ?_), .inr ⟨out, rfl, by omega, by omega, hL⟩⟩
    obtain ⟨v, hv', rfl⟩ := List.mem_map.1 hz
    have := hv v hv'
    omega

theorem rLong34 (h : RdG w lb (ps.map prZ)) (hps : PairsOk n ps) (hn : n ≤ 65536) (hpl : ps.length ≤ 1000) (hk : RdZ w l ks) (hsz : ks.length ≤ 1000) (a : Int) : Calls Try.prog 72 #[.int .i64 (n : Int), .slice lb.a lb.len lb.cap, .int .i64 a, .slice l.a l.len l.cap] w (Rv fun v w' => Kp no w w' ∧
    ((v = .tuple #[.slice none 0 0, .bool false] ∧ LongR ps n a ks none) ∨ (∃ (o : Slc) (out : List Nat), v = .tuple #[.slice o.a o.len o.cap, .bool true] ∧ RdZ w' o (zl out) ∧ LongR ps n a ks (some out)))) := by
  refine c72 _ _ _ _ _ _ ?_
  unfold B72
  have hl := hk.len
  have hpv : ∀ p ∈ ps, p.2 ≤ 65536 := fun p hp => by have := (hps.1 p hp).2; omega
  have hb0 := Blk.new w [.int .i64 a] 3
  have k1 : Kp no w (w.alloc (.cells #[.int .i64 a] 3)) := (Kp.refl _ _).alloc _ _
  refine br_dec (fun h1 => ⟨k1, .inl ⟨rfl, .inl ⟨rfl, .inl h1⟩⟩⟩) (fun h1 => br_dec (fun h2 => ⟨k1, .inl ⟨rfl, .inl ⟨rfl, .inr (.inl h2)⟩⟩⟩) (fun h2 => ?_))
  obtain ⟨a, rfl⟩ : ∃ a' : Nat, a = a' := ⟨a.toNat, by omega⟩
  have hO : Ownd (w.alloc (.cells #[.int .i64 (a : Int)] 3)) ⟨some ⟨w.heap.size, 0, none⟩, 1, 1⟩ 3 1 ((zl [a]).map (Value.int .i64)) :=
    Ownd.mk' (cur := [.int .i64 (a : Int)]) rfl hb0 (Nat.le_refl _) (by simp [maxLen]) rfl rfl
  refine ⟨fun x y i w' => ∃ (j : Nat) (out : List Nat), i = j ∧ j ≤ ks.length ∧ LngP ps a ks out j ∧ x = (wg out j : Int) ∧ (∀ v ∈ out, v < 65536) ∧ Ownd w' y 3 1 ((zl out).map (Value.int .i64)) ∧ y.len = j + 1 ∧ (∀ k, On y k → w.heap.size ≤ k) ∧ Kp no w w', fun _ _ i _ => (l.len - i).toNat,
    ⟨0, [a], rfl, by omega, ⟨rfl, rfl, fun i hi => by omega⟩, rfl, fun v hv => by rw [List.mem_singleton.1 hv]; omega, hO, rfl, fun k hk => by obtain ⟨q, hq, rfl⟩ := hk; cases hq; exact Nat.le_refl _, k1⟩, ?_⟩
  rintro x y i w2 ⟨j, out, rfl, hj, hL, rfl, hv, hO2, hyl, hf, k2⟩
  refine br_dec (fun hlt => ?_) (fun hlt => ⟨k2, .inr ?_⟩)
  · obtain ⟨a2, ha2, hc2⟩ := (hk.kpo k2).at (i := (j : Int)) (by omega) hlt
    rw [Int.toNat_natCast] at hc2
    refine ⟨by omega, hlt, a2, ha2, _, by rw [Int.toNat_natCast]; exact hc2, usek (rWord34 (h.kpo k2) hpl hpv _ _) fun w3 k3 => ⟨_, rfl, br_dec (fun g => ⟨k2.t k3, .inl ⟨rfl, .inl ⟨rfl, .inr (.inr ⟨j, out, by omega, hL, g⟩)⟩⟩⟩) (fun g => ?_)⟩⟩
    obtain ⟨x, hx, i2, hi2, hx2⟩ := atZ_nat _ _ g
    rw [hx]
    have hxb : x < 65536 := by
      have := (bh_inc hps (wg out j : Int)).1 _ (wg_memN hi2)
      omega
    obtain ⟨w4, y4, hr4, hO4, hl4, k4, f4⟩ := append_one (ty := 22) elI (hO2.kp k3 (fun _ _ f => f)) (.int .i64 (x : Int)) rfl (by simp only [maxLen]; omega) (by omega)
    have e : (zl out).map (Value.int .i64) ++ [.int .i64 (x : Int)] = (zl (out ++ [x])).map (Value.int .i64) := by simp
    rw [e] at hO4
    rw [w64 (x := (j : Int) + 1) ⟨by omega, by omega⟩]
    have hL2 := hL.snoc (x := x) hx.symm
    refine ⟨w4, y4, hr4, ⟨j + 1, out ++ [x], by omega, by omega, hL2, ?_, fun v hv' => ?_, hO4, by omega, fun k hk => ?_, (k2.t k3).trans k4 (fun k h1 h2 => by have := hf k h2; omega)⟩, by dsimp only; omega⟩
    · rw [wg_snoc, if_pos (by rw [hL.1])]
    · rcases List.mem_append.1 hv' with g | g
      · exact hv v g
      · rw [List.mem_singleton.1 g]; exact hxb
    · rcases f4 k hk with g | g
      · exact hf k g
      · have := k2.size; have := k3.size; omega
  · obtain rfl : j = ks.length := by omega
    refine ⟨y, out, rfl, ownZ hO2 (fun z hz => ?_), .inr ⟨out, rfl, by omega, by omega, hL⟩⟩
    obtain ⟨v, hv', rfl⟩ := List.mem_map.1 hz
    have := hv v hv'
    omega

theorem rShort34 (h : RdG w lb (ps.map prZ)) (hpv : ∀ p ∈ ps, p.2 ≤ 65536) (hpl : ps.length ≤ 1000) (hz : RdZ w l zs) (hsz : zs.length ≤ 1000) : Calls Try.prog 68 #[.slice lb.a lb.len lb.cap, .slice l.a l.len l.cap] w (Rv fun v w' => Kp no w w' ∧
    ((v = .tuple #[.slice none 0 0, .bool false] ∧ ∃ j, j + 1 < zs.length ∧ ¬ FitA ps zs j) ∨ (∃ (o : Slc) (rs : List Nat), v = .tuple #[.slice o.a o.len o.cap, .bool true] ∧ RdZ w' o (zl rs) ∧ RanksP ps zs rs (zs.length - 1) ∧ ∀ j, j + 1 < zs.length → FitA ps zs j))) := by
  refine c68 _ _ _ _ ?_
  unfold B68
  have hl := hz.len
  refine ⟨fun y i w' => ∃ (j : Nat) (rs : List Nat), i = ((j + 1 : Nat) : Int) ∧ j ≤ zs.length - 1 ∧ RanksP ps zs rs j ∧ (∀ i, i < j → FitA ps zs i) ∧ Ownd w' y 3 1 ((zl rs).map (Value.int .i64)) ∧ y.len = j ∧ (∀ k, On y k → w.heap.size ≤ k) ∧ Kp no w w', fun _ i _ => ((l.len : Int) + 1 - i).toNat,
    ⟨0, [], rfl, by omega, ⟨rfl, fun j hj => by omega⟩, fun i hi => by omega, Ownd.nil _ _ _, rfl, fun _ h => absurd h On.nil, Kp.refl _ _⟩, ?_⟩
  rintro y i w2 ⟨j, rs, rfl, hj, hR, hfit, hO2, hyl, hf, k2⟩
  refine br_dec (fun hlt => ?_) (fun hlt => ⟨k2, .inr ?_⟩)
  · have e1 : IntKind.i64.wrap (((j + 1 : Nat) : Int) - 1) = (j : Int) := by rw [w64 ⟨by omega, by omega⟩]; omega
    rw [e1]
    obtain ⟨a, ha, hc⟩ := (hz.kpo k2.drew).at (i := (j : Int)) (by omega) (by omega)
    obtain ⟨a2, ha2, hc2⟩ := (hz.kpo k2.drew).at (i := ((j + 1 : Nat) : Int)) (by omega) hlt
    refine ⟨by omega, by omega, a, ha, _, hc, by omega, hlt, a2, ha2, _, hc2, ?_⟩
    rw [Int.toNat_natCast, Int.toNat_natCast]
    refine use (rRank34 (h.kpo k2.drew) hpl hpv _ _) ?_
    rintro _ w3 ⟨k3, x, rfl, hx⟩
    have k23 := k2.drew.t k3
    refine ⟨_, rfl, br_dec (fun g => ⟨k23, .inl ⟨rfl, j, by omega, fit_no hx g⟩⟩) (fun g => ?_)⟩
    obtain ⟨x, rfl⟩ : ∃ y : Nat, x = y := ⟨x.toNat, by omega⟩
    obtain ⟨w4, y4, hr4, hO4, hl4, k4, f4⟩ := append_one (ty := 22) elI (hO2.drew.kp k3 (fun _ _ f => f)) (.int .i64 (x : Int)) rfl (by simp only [maxLen]; omega) (by omega)
    have e : (zl rs).map (Value.int .i64) ++ [.int .i64 (x : Int)] = (zl (rs ++ [x])).map (Value.int .i64) := by simp
    rw [e] at hO4
    rw [w64 (x := ((j + 1 : Nat) : Int) + 1) ⟨by omega, by omega⟩]
    refine ⟨w4, y4, hr4, ⟨j + 1, rs ++ [x], by omega, by omega, hR.snoc hx, fun i hi => ?_, hO4, by omega, fun k hk => ?_, k23.trans k4 (fun k h1 h2 => by have := hf k h2; omega)⟩, by dsimp only; omega⟩
    · by_cases e : i = j
      · subst e; exact fit_yes hx (by omega)
      · exact hfit i (by omega)
    · rcases f4 k hk with g | g
      · exact hf k g
      · have := k23.size; omega
  · obtain rfl : j = zs.length - 1 := by omega
    refine ⟨y, rs, rfl, ownZ hO2 (fun z hz2 => ?_), hR, fun i hi => hfit i (by omega)⟩
    obtain ⟨v, hv', rfl⟩ := List.mem_map.1 hz2
    obtain ⟨i, hi, rfl⟩ := List.getElem_of_mem hv'
    have hri := hR.2 i (by rw [← hR.1]; exact hi)
    have e : wg rs i = rs[i] := by unfold wg; rw [List.getElem?_eq_getElem hi]; rfl
    have hbl2 := bhZ_len ps (wz zs i)
    rcases hri with ⟨q, _⟩ | ⟨k, q, hk, _⟩ <;> omega

theorem rSmall34 {zs' : List (List Int)} (h : RdG w l zs') (nn : Int) : Calls Try.prog 56 #[.int .i64 nn, .slice l.a l.len l.cap] w (Rv fun v w' => w' = w ∧ ∃ b : Bool, v = .bool b ∧ (b = true → zs'.length ≤ 60)) := by
  refine c56 _ _ _ _ ?_
  unfold B56
  have hl := h.len
  refine br_dec (fun h1 => ⟨rfl, _, rfl, fun e => by cases e⟩) (fun h1 => br_dec (fun h2 => br_dec (fun h3 => ⟨rfl, _, rfl, fun e => by cases e⟩) (fun h3 => ?_)) (fun h2 => ?_))
  all_goals
    refine ⟨fun i w' => w' = w ∧ ∃ m : Nat, i = m ∧ m ≤ zs'.length, fun i _ => (l.len - i).toNat, ⟨rfl, 0, rfl, by omega⟩, ?_⟩
    rintro i w1 ⟨hw, m, rfl, hm⟩
    obtain rfl : w = w1 := hw.symm
    refine br_dec (fun hlt => ?_) (fun hlt => ⟨rfl, _, rfl, fun _ => by omega⟩)
    obtain ⟨a, s, ha, hc, hz⟩ := rdz_gz h (show m < zs'.length by omega)
    refine ⟨by omega, hlt, a, ha, s, hc, br_dec (fun g1 => ⟨rfl, _, rfl, fun e => by cases e⟩) (fun g1 => ?_)⟩
    rw [w64 (x := (m : Int) + 1) ⟨by omega, by omega⟩]
    exact ⟨⟨rfl, m + 1, by omega, by omega⟩, by dsimp only; omega⟩
end Go.Proofs.Ytmpgklgjmkcpdaa.V
