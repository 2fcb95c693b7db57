/- The law on the ones of a word, iterated over. -/
import Derived.Test.YtomajpihimlcjaaDoorLt
namespace Go.Proofs.YtomajpihimlcjaaDoor.V
open Go Go.VC
variable {w : World} {x : Nat}
theorem lanePairs (ht : Tab w) (hx : x < 18446744073709551616) (n : Int) (hn : -9223372036854775808 ≤ n ∧ n ≤ 9223372036854775807) : IsK 3 #[.int .u64 x, .int .i64 n] w (.bool true) := by
  have hpc := pc_le x
  refine c3 _ _ _ _ ?_
  unfold B3
  -- the boxes
  have a1 := Blk.new w [.int .u64 x] 22
  have a2 := Blk.new (w.alloc (.cells #[.int .u64 x] 22)) [.int .i64 n] 3
  have a3 := Blk.new ((w.alloc (.cells #[.int .u64 x] 22)).alloc (.cells #[.int .i64 n] 3)) [.bool false] 4
  have b1 := (a1.alloc (.cells #[.int .i64 n] 3)).alloc (.cells #[.bool false] 4)
  have b2 := a2.alloc (.cells #[.bool false] 4)
  have z1 : (w.alloc (.cells #[.int .u64 x] 22)).heap.size = w.heap.size + 1 := World.size_alloc _ _
  have z2 : ((w.alloc (.cells #[.int .u64 x] 22)).alloc (.cells #[.int .i64 n] 3)).heap.size = w.heap.size + 2 := by rw [World.size_alloc, z1]
  have z3 : (((w.alloc (.cells #[.int .u64 x] 22)).alloc (.cells #[.int .i64 n] 3)).alloc (.cells #[.bool false] 4)).heap.size = w.heap.size + 3 := by rw [World.size_alloc, z2]
  have k0 : Kp no w (((w.alloc (.cells #[.int .u64 x] 22)).alloc (.cells #[.int .i64 n] 3)).alloc (.cells #[.bool false] 4)) := (((Kp.refl _ _).alloc _ _).alloc _ _).alloc _ _
  have hpos := ht.pos
  clear a1
  generalize (((w.alloc (.cells #[.int .u64 x] 22)).alloc (.cells #[.int .i64 n] 3)).alloc (.cells #[.bool false] 4)) = w1 at *
  generalize ((w.alloc (.cells #[.int .u64 x] 22)).alloc (.cells #[.int .i64 n] 3)) = wy at *
  generalize (w.alloc (.cells #[.int .u64 x] 22)) = wx at *
  -- handing back
  have fin : ∀ {W : World} {DS : List Nat} {y : Value} , Kp no w W → Blk W wy.heap.size [y] 4 → DS.Nodup → (∀ D, D ∈ DS → w.heap.size ≤ D ∧ W.heap[D]? = some (.deferred (some []))) → _ := fun {W DS y} kW hb hn hd =>
    retc (b := true) (R := fun u w' => u = Value.bool true ∧ Kp no w w') hb hn (fun D hD => (hd D hD).2) (fun w' k' => ⟨rfl, kW.trans k' (fun k h1 h2 => by
      rcases h2 with rfl | h2
      · omega
      · have := (hd k h2).1; omega)⟩)
  have ecl : cnt x.testBit (clampW 64) = pc x := by unfold pc; congr 1
  refine ⟨_, b1.cell0 0, use (pairs w1 x) ?_⟩
  rintro _ w3 ⟨b, rfl, hb, k3, hbs⟩
  have s3 := k3.size
  have hit := pairsIter hb hx (ht.kpo (k0.t k3))
  refine ⟨_, rfl, .inr ⟨_, _, _, rfl⟩, ?_⟩
  -- the first loop
  have hn0 := Blk.new w3 [.int .i64 0] 3
  have kn : Kp no w3 (w3.alloc (.cells #[.int .i64 0] 3)) := (Kp.refl _ _).alloc _ _
  obtain ⟨e1, e2, hn1, e4⟩ := setc (v := .int .i64 0) hn0
  have kn1 : Kp no w3 ((w3.alloc (.cells #[.int .i64 0] 3)).setCell ⟨w3.heap.size, 0, none⟩ (.int .i64 0)) := kn.trans (e4 (fun k => k = w3.heap.size) rfl) (fun k h1 h2 => by omega)
  have sn1 : ((w3.alloc (.cells #[.int .i64 0] 3)).setCell ⟨w3.heap.size, 0, none⟩ (.int .i64 0)).heap.size = w3.heap.size + 1 := by simp
  have hbl := hb.lt
  refine ⟨e1, e2, _, #[], #[.pointer (some ⟨b, 0, none⟩)], rfl, by decide +kernel, pc x, fun j => (j : Int), fun j => (selN x j : Nat), fun k => k = 0 ∨ k = b, ?_⟩
  clear e1 e2 e4
  generalize (w3.alloc (.cells #[.int .i64 0] 3)).setCell ⟨w3.heap.size, 0, none⟩ (.int .i64 0) = wn at *
  have kwn : Kp no w wn := k0.t (k3.t kn1)
  refine ⟨fun j T W => ((∀ k, T k → wn.heap.size ≤ k) ∧ Kp (fun k => k = w3.heap.size) wn W) ∧ (¬ T w3.heap.size ∧ Blk W w3.heap.size [.int .i64 (j : Int)] 3), fun _ _ _ => False,
    hit.later kn1, fun k hk => by omega, fun j => stab_and stab_kp stab_blk, fun _ => stab_const _, ⟨⟨fun k hk => hk.elim, Kp.refl _ _⟩, fun hk => hk.elim, hn1⟩, ?_, ?_, ?_, trivial⟩
  · rintro j T w5 hj hJ hT hT0 hT1 hTb
    refine ⟨Kp.refl _ _, fun w6 k6 => ?_⟩
    obtain ⟨⟨_, k6n⟩, hTn, hnb⟩ := (stab_and stab_kp stab_blk) T T w5 w6 hJ ⟨k6.mono (fun k _ e => by subst e; exact hT1), fun _ h => h, fun _ h => .inl h⟩
    have b16 := (b1.kp (k3.t kn1) id).kp k6n (by omega)
    refine ⟨_, hnb.cell0 0, br_not (br_dec (fun _ => ⟨_, b16.cell0 0, _, hnb.cell0 0, use (rselect w6 x hx j) ?_⟩) (fun hh => absurd rfl hh))⟩
    rintro _ w7 ⟨rfl, r, rfl, hr⟩
    obtain rfl := hr.one (selN_sel hj)
    refine ⟨_, rfl, br_not (br_dec (fun _ => ?_) (fun hh => absurd rfl hh))⟩
    refine ⟨_, hnb.cell0 0, ?_⟩
    rw [w64 (x := (j : Int) + 1) ⟨by omega, by omega⟩]
    obtain ⟨e1, e2, hn2, e4⟩ := setc (v := .int .i64 ((j : Int) + 1)) hnb
    exact ⟨e1, e2, e4 _ ⟨hTn, by omega⟩, ⟨hT, k6n.trans (e4 (fun k => k = w3.heap.size) rfl) (fun _ _ h => h)⟩, hTn, by rw [Int.natCast_add]; exact hn2⟩
  · rintro T w5 ⟨⟨_, k5⟩, hTn, hnb⟩ hT hD1
    -- the second loop
    have s5 := k5.size
    have k35 : Kp no w3 w5 := kn1.trans k5 (fun k h1 h2 => by omega)
    have hm0 := Blk.new w5 [.int .i64 0] 3
    have km : Kp no w5 (w5.alloc (.cells #[.int .i64 0] 3)) := (Kp.refl _ _).alloc _ _
    obtain ⟨e1, e2, hm1, e4⟩ := setc (v := .int .i64 0) hm0
    have km1 : Kp no w5 ((w5.alloc (.cells #[.int .i64 0] 3)).setCell ⟨w5.heap.size, 0, none⟩ (.int .i64 0)) := km.trans (e4 (fun k => k = w5.heap.size) rfl) (fun k h1 h2 => by omega)
    have sm1 : ((w5.alloc (.cells #[.int .i64 0] 3)).setCell ⟨w5.heap.size, 0, none⟩ (.int .i64 0)).heap.size = w5.heap.size + 1 := by simp
    refine ⟨e1, e2, _, #[], #[.pointer (some ⟨b, 0, none⟩)], rfl, by decide +kernel, pc x, fun j => (j : Int), fun j => (selN x j : Nat), fun k => k = 0 ∨ k = b, ?_⟩
    clear e1 e2 e4
    generalize (w5.alloc (.cells #[.int .i64 0] 3)).setCell ⟨w5.heap.size, 0, none⟩ (.int .i64 0) = wm at *
    have k3m : Kp no w3 wm := k35.t km1
    have kwm : Kp no w wm := k0.t (k3.t k3m)
    have hD2 := (km1.keep _ (heap_lt hD1) (fun f => f)).trans hD1
    have nbm := hnb.kp km1 id
    have sk0 := k0.size
    have after : ∀ {W : World}, Kp (fun k => k = w5.heap.size) wm W → Kp no w W ∧ Blk W w.heap.size [.int .u64 x] 22 ∧ Blk W wx.heap.size [.int .i64 n] 3 ∧ Blk W wy.heap.size [.bool false] 4 ∧ Blk W w3.heap.size [.int .i64 (pc x : Int)] 3 ∧ W.heap[wn.heap.size]? = some (.deferred (some [])) := fun {W} kW =>
      ⟨kwm.trans kW (fun k h1 h2 => by omega), (b1.kp (k3.t k3m) id).kp kW (by omega), (b2.kp (k3.t k3m) id).kp kW (by omega), (a3.kp (k3.t k3m) id).kp kW (by omega), nbm.kp kW (by omega), (kW.keep _ (heap_lt hD2) (by have := heap_lt hD1; omega)).trans hD2⟩
    refine ⟨fun j T W => (((∀ k, T k → wm.heap.size ≤ k) ∧ Kp (fun k => k = w5.heap.size) wm W) ∧ (¬ T w5.heap.size ∧ Blk W w5.heap.size [.int .i64 (j : Int)] 3)) ∧ (n ≤ 0 ∨ (j : Int) < n),
      fun o T W => (∃ m : Nat, o = some 2 ∧ 1 ≤ m ∧ m ≤ pc x ∧ n = m) ∧ (((∀ k, T k → wm.heap.size ≤ k) ∧ Kp (fun k => k = w5.heap.size) wm W) ∧ (¬ T w5.heap.size ∧ Blk W w5.heap.size [.int .i64 n] 3)),
      (hit.later k3m), fun k hk => by omega, fun j => stab_and (stab_and stab_kp stab_blk) (stab_const _), fun o => stab_and (stab_const _) (stab_and stab_kp stab_blk), ⟨⟨⟨fun k hk => hk.elim, Kp.refl _ _⟩, fun hk => hk.elim, hm1⟩, by omega⟩, ?_, ?_, ?_, ?_⟩
    · rintro j T2 w7 hj hJ hT2 hT0 hT1 hTb
      refine ⟨Kp.refl _ _, fun w8 k8 => ?_⟩
      obtain ⟨⟨⟨_, k8n⟩, hTm, hmb⟩, hxj⟩ := (stab_and (stab_and stab_kp stab_blk) (stab_const _)) T2 T2 w7 w8 hJ ⟨k8.mono (fun k _ e => by subst e; exact hT1), fun _ h => h, fun _ h => .inl h⟩
      obtain ⟨kw8, bl8, bs8, _, _, _⟩ := after k8n
      refine ⟨_, hmb.cell0 0, br_not (br_dec (fun _ => ⟨_, bl8.cell0 0, _, hmb.cell0 0, use (rselect w8 x hx j) ?_⟩) (fun hh => absurd rfl hh))⟩
      rintro _ w9 ⟨rfl, r, rfl, hr⟩
      obtain rfl := hr.one (selN_sel hj)
      refine ⟨_, rfl, br_not (br_dec (fun _ => ?_) (fun hh => absurd rfl hh))⟩
      refine ⟨_, hmb.cell0 0, ?_⟩
      rw [w64 (x := (j : Int) + 1) ⟨by omega, by omega⟩]
      obtain ⟨e1, e2, hm2, e4⟩ := setc (v := .int .i64 ((j : Int) + 1)) hmb
      have bs9 := bs8.kp (e4 (fun k => k = w5.heap.size) rfl) (by omega)
      have kfin := k8n.trans (e4 (fun k => k = w5.heap.size) rfl) (fun _ _ h => h)
      refine ⟨e1, e2, _, hm2.cell0 0, _, bs9.cell0 0, br_dec (fun hh => ?_) (fun hh => ?_)⟩
      · exact ⟨e4 _ ⟨hTm, by omega⟩, ⟨j + 1, rfl, by omega, by omega, by omega⟩, ⟨hT2, kfin⟩, hTm, by rw [← hh]; exact hm2⟩
      · exact ⟨e4 _ ⟨hTm, by omega⟩, ⟨⟨hT2, kfin⟩, hTm, by rw [Int.natCast_add]; exact hm2⟩, by omega⟩
    · rintro T2 w7 ⟨⟨⟨_, k7⟩, hTm, hmb⟩, hxj⟩ hT2 hD3
      obtain ⟨kw7, bl7, bs7, br7, nb7, hD7⟩ := after k7
      have nd : [wm.heap.size, wn.heap.size].Nodup := by have := heap_lt hD1; simp; omega
      have hds : ∀ {W : World}, Kp no w7 W → ∀ D, D ∈ [wm.heap.size, wn.heap.size] → w.heap.size ≤ D ∧ W.heap[D]? = some (.deferred (some [])) := fun kW D hD => by
        rcases List.mem_cons.1 hD with rfl | hD
        · exact ⟨by omega, (kW.keep _ (heap_lt hD3) (fun f => f)).trans hD3⟩
        · rw [List.mem_singleton.1 hD]
          exact ⟨by omega, (kW.keep _ (heap_lt hD7) (fun f => f)).trans hD7⟩
      have kd := Kp.drew (Kp.refl no w7)
      have r1 := rrank w7 x hx 64 (by omega)
      have r2 := rrank w7.drew x hx 64 (by omega)
      rw [ecl] at r1 r2
      refine ⟨_, bl7.cell0 0, usei r1 ⟨_, rfl, _, bs7.cell0 0, br_dec (fun g1 => ?_) (fun g1 => ?_)⟩⟩
      · refine ⟨_, bs7.cell0 0, _, (nb7.kp kd id).cell0 0, _, (bl7.kp kd id).cell0 0, usei r2 ⟨_, rfl, (nb7.kp kd id).cell0 0, br_dec (fun _ => ⟨_, (hmb.kp kd id).cell0 0, br_dec (fun _ => usei (live1 _) ⟨true, rfl, fin (kw7.t kd) (br7.kp kd id) nd (hds kd)⟩) (fun hh => absurd (by omega) hh)⟩) (fun hh => absurd rfl hh)⟩⟩
      · refine ⟨_, (nb7.kp kd id).cell0 0, _, (bl7.kp kd id).cell0 0, usei r2 ⟨_, rfl, (nb7.kp kd id).cell0 0, br_dec (fun _ => ⟨_, (hmb.kp kd id).cell0 0, br_dec (fun _ => usei (live1 _) ⟨true, rfl, fin (kw7.t kd) (br7.kp kd id) nd (hds kd)⟩) (fun hh => absurd rfl hh)⟩) (fun hh => absurd rfl hh)⟩⟩
    · rintro T2 w7 ⟨⟨m, hh, _⟩, _⟩
      cases hh
    · rintro T2 w7 ⟨⟨m, _, g0, g1, rfl⟩, ⟨_, k7⟩, hTm, hmb⟩ hT2 hD3
      obtain ⟨kw7, bl7, bs7, br7, nb7, hD7⟩ := after k7
      have nd : [wm.heap.size, wn.heap.size].Nodup := by have := heap_lt hD1; simp; omega
      have hds : ∀ {W : World}, Kp no w7 W → ∀ D, D ∈ [wm.heap.size, wn.heap.size] → w.heap.size ≤ D ∧ W.heap[D]? = some (.deferred (some [])) := fun kW D hD => by
        rcases List.mem_cons.1 hD with rfl | hD
        · exact ⟨by omega, (kW.keep _ (heap_lt hD3) (fun f => f)).trans hD3⟩
        · rw [List.mem_singleton.1 hD]
          exact ⟨by omega, (kW.keep _ (heap_lt hD7) (fun f => f)).trans hD7⟩
      have kd := Kp.drew (Kp.refl no w7)
      have r1 := rrank w7 x hx 64 (by omega)
      have r2 := rrank w7.drew x hx 64 (by omega)
      rw [ecl] at r1 r2
      refine ⟨_, bl7.cell0 0, usei r1 ⟨_, rfl, _, bs7.cell0 0, br_dec (fun g2 => ?_) (fun g2 => absurd (by omega) g2)⟩⟩
      refine ⟨_, bs7.cell0 0, _, (nb7.kp kd id).cell0 0, _, (bl7.kp kd id).cell0 0, usei r2 ⟨_, rfl, (nb7.kp kd id).cell0 0, br_dec (fun _ => ⟨_, (hmb.kp kd id).cell0 0, br_dec (fun _ => usei (live1 _) ⟨true, rfl, fin (kw7.t kd) (br7.kp kd id) nd (hds kd)⟩) (fun hh => absurd (by omega) hh)⟩) (fun hh => absurd rfl hh)⟩⟩
  · rintro T w5 hh
    exact hh.elim
end Go.Proofs.YtomajpihimlcjaaDoor.V
