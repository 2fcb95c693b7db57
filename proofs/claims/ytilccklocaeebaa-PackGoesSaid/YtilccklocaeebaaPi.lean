/- Packs iterated over; the law on that. -/
import Derived.Test.YtilccklocaeebaaPo
import Derived.Test.YtilccklocaeebaaRf
namespace Go.Proofs.Ytilccklocaeebaa.V
open Go Go.VC
variable {w w' w0 : World} {l : Slc} {bits : List Bool} {ws xs : List Nat} {p r b B wd n : Nat}

theorem pIter (hb : Blk w b [.pointer (some ⟨p, 0, none⟩)] 46) (hp : PackB w p wd xs B) (hB : B ≤ b) (hsz : xs.length ≤ 1000000000) :
    Iter Try.prog 62 [] [.pointer (some ⟨b, 0, none⟩)] w xs.length (fun j => [.int .i64 (j : Int), .int .u64 (wg xs j : Nat)]) (fun k => B ≤ k ∧ k < w.heap.size) := by
  intro lp J X w1 k1 hJ hX hr h0
  refine c62 (.func (.yield lp) #[] #[]) ⟨b, 0, none⟩ _ _ ?_
  unfold B62
  refine ⟨fun i w' => ∃ j : Nat, i = j ∧ j ≤ xs.length ∧ Kp (fun k => k < B) w w' ∧ w1.heap.size ≤ w'.heap.size ∧ J j no w', fun i _ => (xs.length + 1 - i).toNat, ⟨0, rfl, by omega, k1.mono (fun _ _ f => f.elim), Nat.le_refl _, h0⟩, ?_⟩
  rintro i w2 ⟨j, rfl, hj, k2, s2, hj2⟩
  have b2 := hb.kp k2 (by omega)
  have p2 := hp.kp k2 (fun k h1 h2 => by omega)
  refine ⟨_, b2.cell0 0, usei (pLen p2) ⟨_, rfl, br_dec (fun hlt => ?_) (fun hlt => ?_)⟩⟩
  · refine ⟨_, b2.cell0 0, usek (pAt p2 hsz j) fun w3 k3 => ⟨_, rfl, ?_⟩⟩
    have hat : atU xs (j : Int) = wg xs j := by unfold atU; rw [if_pos (by omega), Int.toNat_natCast]
    rw [hat]
    refine yuse (hr j no w3 (by omega) ((hJ j).no hj2 k3) (fun k hk => hk.elim)) ?_
    rintro v w4 ⟨k4, hv⟩
    have hs3 := k3.size
    have hs4 := k4.size
    have hs2 := k2.size
    have k24 : Kp (fun k => k < B) w w4 := (k2.trans (k3.mono (S' := fun k => k < B) (fun _ _ f => f.elim)) (fun _ _ f => f)).trans k4 (fun k h1 h2 => by
      have h2 := h2.2
      omega)
    rcases hv with ⟨rfl, hj4⟩ | ⟨rfl, hx⟩
    · refine ⟨true, rfl, brF ⟨⟨j + 1, ?_, by omega, k24, by omega, hj4⟩, ?_⟩⟩
      · rw [w64 ⟨by omega, by omega⟩]; omega
      · rw [w64 ⟨by omega, by omega⟩]; dsimp only; omega
    · exact ⟨false, rfl, brT ⟨no, fun _ f => f.elim, .inr hx⟩⟩
  · obtain rfl : j = xs.length := by omega
    exact ⟨no, fun _ f => f.elim, .inl hj2⟩

theorem pAll (w : World) (p : Nat) : Calls Try.prog 34 #[.pointer (some ⟨p, 0, none⟩)] w (Rv fun v w' => ∃ b, v = .func (.func 62) #[] #[.pointer (some ⟨b, 0, none⟩)] ∧ Blk w' b [.pointer (some ⟨p, 0, none⟩)] 46 ∧ Kp no w w' ∧ w.heap.size ≤ b) := by
  refine c34 _ _ _ ?_
  unfold B34
  exact ⟨_, rfl, Blk.new _ _ _, (Kp.refl _ _).alloc _ _, Nat.le_refl _⟩

theorem packGoes (h : RdW w l ws) (x : Int) (hx : -9223372036854775808 ≤ x ∧ x ≤ 9223372036854775807) : IsK 7 #[.slice l.a l.len l.cap, .int .i64 x] w (.bool true) := by
  have hl := h.len
  refine c7 _ _ _ _ ?_
  unfold B7
  -- the boxes
  have a1 := Blk.new w [.slice l.a l.len l.cap] 22
  have a2 := Blk.new (w.alloc (.cells #[.slice l.a l.len l.cap] 22)) [.int .i64 x] 3
  have a3 := Blk.new ((w.alloc (.cells #[.slice l.a l.len l.cap] 22)).alloc (.cells #[.int .i64 x] 3)) [.bool false] 4
  have b1 := (a1.alloc (.cells #[.int .i64 x] 3)).alloc (.cells #[.bool false] 4)
  have b2 := a2.alloc (.cells #[.bool false] 4)
  have z1 : (w.alloc (.cells #[.slice l.a l.len l.cap] 22)).heap.size = w.heap.size + 1 := World.size_alloc _ _
  have z2 : ((w.alloc (.cells #[.slice l.a l.len l.cap] 22)).alloc (.cells #[.int .i64 x] 3)).heap.size = w.heap.size + 2 := by rw [World.size_alloc, z1]
  have z3 : (((w.alloc (.cells #[.slice l.a l.len l.cap] 22)).alloc (.cells #[.int .i64 x] 3)).alloc (.cells #[.bool false] 4)).heap.size = w.heap.size + 3 := by rw [World.size_alloc, z2]
  have k0 : Kp no w (((w.alloc (.cells #[.slice l.a l.len l.cap] 22)).alloc (.cells #[.int .i64 x] 3)).alloc (.cells #[.bool false] 4)) := (((Kp.refl _ _).alloc _ _).alloc _ _).alloc _ _
  clear a1
  generalize (((w.alloc (.cells #[.slice l.a l.len l.cap] 22)).alloc (.cells #[.int .i64 x] 3)).alloc (.cells #[.bool false] 4)) = w1 at *
  generalize ((w.alloc (.cells #[.slice l.a l.len l.cap] 22)).alloc (.cells #[.int .i64 x] 3)) = wy at *
  generalize (w.alloc (.cells #[.slice l.a l.len l.cap] 22)) = wx at *
  -- handing back
  have fin : ∀ {W : World} {DS : List Nat} {y : Value} , Kp no w W → Blk W wy.heap.size [y] 4 → DS.Nodup → (∀ D, D ∈ DS → w.heap.size ≤ D ∧ W.heap[D]? = some (.deferred (some []))) → _ := fun {W DS y} kW hb hn hd =>
    retc (b := true) (R := fun u w' => u = Value.bool true ∧ Kp no w w') hb hn (fun D hD => (hd D hD).2) (fun w' k' => ⟨rfl, kW.trans k' (fun k h1 h2 => by
      rcases h2 with rfl | h2
      · omega
      · have := (hd k h2).1; omega)⟩)
  refine ⟨l, b1.cell0 0, br_dec (fun _ => ?_) (fun hs => ⟨l, b1.cell0 0, use (pFit (h.kp k0 (fun _ _ f => f)) (by omega)) ?_⟩)⟩
  · exact usek (live3 _) fun w2 k2 => ⟨_, rfl, fin (k0.t k2) (a3.kp k2 id) List.nodup_nil (fun D hD => by cases hD)⟩
  rintro _ w2 ⟨p, rfl, hp, k2⟩
  refine ⟨_, rfl, use (pAll w2 p) ?_⟩
  rintro _ w3 ⟨b, rfl, hb, k3, hbs⟩
  have k13 := k2.t k3
  have s2 := k2.size
  have s3 := k3.size
  have hit := pIter hb (hp.kpo k3) (show w1.heap.size ≤ b by omega) (by omega)
  refine ⟨_, rfl, .inr ⟨_, _, _, rfl⟩, ?_⟩
  -- the first loop
  have hn0 := Blk.new w3 [.int .i64 0] 3
  have kn : Kp no w3 (w3.alloc (.cells #[.int .i64 0] 3)) := (Kp.refl _ _).alloc _ _
  obtain ⟨e1, e2, hn1, e4⟩ := setc (v := .int .i64 0) hn0
  have kn1 : Kp no w3 ((w3.alloc (.cells #[.int .i64 0] 3)).setCell ⟨w3.heap.size, 0, none⟩ (.int .i64 0)) := kn.trans (e4 (fun k => k = w3.heap.size) rfl) (fun k h1 h2 => by omega)
  have sn1 : ((w3.alloc (.cells #[.int .i64 0] 3)).setCell ⟨w3.heap.size, 0, none⟩ (.int .i64 0)).heap.size = w3.heap.size + 1 := by simp
  refine ⟨e1, e2, _, #[], #[.pointer (some ⟨b, 0, none⟩)], rfl, by decide +kernel, ws.length, fun j => (j : Int), fun j => (wg ws j : Nat), fun k => w1.heap.size ≤ k ∧ k < w3.heap.size, ?_⟩
  clear e1 e2 e4
  generalize (w3.alloc (.cells #[.int .i64 0] 3)).setCell ⟨w3.heap.size, 0, none⟩ (.int .i64 0) = wn at *
  have kwn : Kp no w wn := k0.t (k13.t kn1)
  refine ⟨fun j T W => ((∀ k, T k → wn.heap.size ≤ k) ∧ Kp (fun k => k = w3.heap.size) wn W) ∧ (¬ T w3.heap.size ∧ Blk W w3.heap.size [.int .i64 (j : Int)] 3), fun _ _ _ => False,
    hit.later kn1, fun k hk => by omega, fun j => stab_and stab_kp stab_blk, fun _ => stab_const _, ⟨⟨fun k hk => hk.elim, Kp.refl _ _⟩, fun hk => hk.elim, hn1⟩, ?_, ?_, ?_, trivial⟩
  · rintro j T w5 hj hJ hT hT0 hT1
    refine ⟨Kp.refl _ _, fun w6 k6 => ?_⟩
    obtain ⟨⟨_, k6n⟩, hTn, hnb⟩ := (stab_and stab_kp stab_blk) T T w5 w6 hJ ⟨k6.mono (fun k _ e => by subst e; exact hT1), fun _ h => h, fun _ h => .inl h⟩
    have kw6 : Kp no w w6 := kwn.trans k6n (fun k h1 h2 => by have := k0.size; have := k13.size; omega)
    have b16 := (b1.kp (k13.t kn1) id).kp k6n (by omega)
    obtain ⟨a, ha, hc⟩ := (h.kp kw6 (fun _ _ f => f)).at (i := (j : Int)) (by omega) (by omega)
    rw [Int.toNat_natCast] at hc
    refine ⟨_, hnb.cell0 0, br_not (br_dec (fun _ => ⟨l, b16.cell0 0, br_dec (fun hh => absurd hh (by omega)) (fun _ => ⟨l, b16.cell0 0, by omega, by omega, a, ha, _, by rw [Int.toNat_natCast]; exact hc, br_not (br_dec (fun _ => ?_) (fun hh => absurd rfl hh))⟩)⟩) (fun hh => absurd rfl hh))⟩
    refine ⟨_, hnb.cell0 0, ?_⟩
    rw [w64 (x := (j : Int) + 1) ⟨by omega, by omega⟩]
    obtain ⟨e1, e2, hn2, e4⟩ := setc (v := .int .i64 ((j : Int) + 1)) hnb
    exact ⟨e1, e2, e4 _ ⟨hTn, by omega⟩, ⟨hT, k6n.trans (e4 (fun k => k = w3.heap.size) rfl) (fun _ _ h => h)⟩, hTn, by rw [Int.natCast_add]; exact hn2⟩
  · rintro T w5 ⟨⟨_, k5⟩, hTn, hnb⟩ hT hD1
    -- the second loop
    have s5 := k5.size
    have k35 : Kp no w3 w5 := kn1.trans k5 (fun k h1 h2 => by omega)
    have hm0 := Blk.new w5 [.int .i64 0] 3
    have km : Kp no w5 (w5.alloc (.cells #[.int .i64 0] 3)) := (Kp.refl _ _).alloc _ _
    obtain ⟨e1, e2, hm1, e4⟩ := setc (v := .int .i64 0) hm0
    have km1 : Kp no w5 ((w5.alloc (.cells #[.int .i64 0] 3)).setCell ⟨w5.heap.size, 0, none⟩ (.int .i64 0)) := km.trans (e4 (fun k => k = w5.heap.size) rfl) (fun k h1 h2 => by omega)
    have sm1 : ((w5.alloc (.cells #[.int .i64 0] 3)).setCell ⟨w5.heap.size, 0, none⟩ (.int .i64 0)).heap.size = w5.heap.size + 1 := by simp
    refine ⟨e1, e2, _, #[], #[.pointer (some ⟨b, 0, none⟩)], rfl, by decide +kernel, ws.length, fun j => (j : Int), fun j => (wg ws j : Nat), fun k => w1.heap.size ≤ k ∧ k < w3.heap.size, ?_⟩
    clear e1 e2 e4
    generalize (w5.alloc (.cells #[.int .i64 0] 3)).setCell ⟨w5.heap.size, 0, none⟩ (.int .i64 0) = wm at *
    have k3m : Kp no w3 wm := k35.t km1
    have kwm : Kp no w wm := k0.t (k13.t k3m)
    have hD2 := (km1.keep _ (heap_lt hD1) (fun f => f)).trans hD1
    have nbm := hnb.kp km1 id
    have sk0 := k0.size
    have after : ∀ {W : World}, Kp (fun k => k = w5.heap.size) wm W → Kp no w W ∧ Blk W w.heap.size [.slice l.a l.len l.cap] 22 ∧ Blk W wx.heap.size [.int .i64 x] 3 ∧ Blk W wy.heap.size [.bool false] 4 ∧ Blk W w3.heap.size [.int .i64 (ws.length : Int)] 3 ∧ W.heap[wn.heap.size]? = some (.deferred (some [])) := fun {W} kW =>
      ⟨kwm.trans kW (fun k h1 h2 => by omega), (b1.kp (k13.t k3m) id).kp kW (by omega), (b2.kp (k13.t k3m) id).kp kW (by omega), (a3.kp (k13.t k3m) id).kp kW (by omega), nbm.kp kW (by omega), (kW.keep _ (heap_lt hD2) (by have := heap_lt hD1; omega)).trans hD2⟩
    refine ⟨fun j T W => (((∀ k, T k → wm.heap.size ≤ k) ∧ Kp (fun k => k = w5.heap.size) wm W) ∧ (¬ T w5.heap.size ∧ Blk W w5.heap.size [.int .i64 (j : Int)] 3)) ∧ (x ≤ 0 ∨ (j : Int) < x),
      fun o T W => (∃ m : Nat, o = some 2 ∧ 1 ≤ m ∧ m ≤ ws.length ∧ x = m) ∧ (((∀ k, T k → wm.heap.size ≤ k) ∧ Kp (fun k => k = w5.heap.size) wm W) ∧ (¬ T w5.heap.size ∧ Blk W w5.heap.size [.int .i64 x] 3)),
      (hit.later k3m), fun k hk => by omega, fun j => stab_and (stab_and stab_kp stab_blk) (stab_const _), fun o => stab_and (stab_const _) (stab_and stab_kp stab_blk), ⟨⟨⟨fun k hk => hk.elim, Kp.refl _ _⟩, fun hk => hk.elim, hm1⟩, by omega⟩, ?_, ?_, ?_, ?_⟩
    · rintro j T2 w7 hj hJ hT2 hT0 hT1
      refine ⟨Kp.refl _ _, fun w8 k8 => ?_⟩
      obtain ⟨⟨⟨_, k8n⟩, hTm, hmb⟩, hxj⟩ := (stab_and (stab_and stab_kp stab_blk) (stab_const _)) T2 T2 w7 w8 hJ ⟨k8.mono (fun k _ e => by subst e; exact hT1), fun _ h => h, fun _ h => .inl h⟩
      obtain ⟨kw8, bl8, bs8, _, _, _⟩ := after k8n
      obtain ⟨a, ha, hc⟩ := (h.kp kw8 (fun _ _ f => f)).at (i := (j : Int)) (by omega) (by omega)
      rw [Int.toNat_natCast] at hc
      refine ⟨_, hmb.cell0 0, br_not (br_dec (fun _ => ⟨l, bl8.cell0 0, br_dec (fun hh => absurd hh (by omega)) (fun _ => ⟨l, bl8.cell0 0, by omega, by omega, a, ha, _, by rw [Int.toNat_natCast]; exact hc, br_not (br_dec (fun _ => ?_) (fun hh => absurd rfl hh))⟩)⟩) (fun hh => absurd rfl hh))⟩
      refine ⟨_, hmb.cell0 0, ?_⟩
      rw [w64 (x := (j : Int) + 1) ⟨by omega, by omega⟩]
      obtain ⟨e1, e2, hm2, e4⟩ := setc (v := .int .i64 ((j : Int) + 1)) hmb
      have bs9 := bs8.kp (e4 (fun k => k = w5.heap.size) rfl) (by omega)
      have kfin := k8n.trans (e4 (fun k => k = w5.heap.size) rfl) (fun _ _ h => h)
      refine ⟨e1, e2, _, hm2.cell0 0, _, bs9.cell0 0, br_dec (fun hh => ?_) (fun hh => ?_)⟩
      · exact ⟨e4 _ ⟨hTm, by omega⟩, ⟨j + 1, rfl, by omega, by omega, by omega⟩, ⟨hT2, kfin⟩, hTm, by rw [← hh]; exact hm2⟩
      · exact ⟨e4 _ ⟨hTm, by omega⟩, ⟨⟨hT2, kfin⟩, hTm, by rw [Int.natCast_add]; exact hm2⟩, by omega⟩
    · rintro T2 w7 ⟨⟨⟨_, k7⟩, hTm, hmb⟩, hxj⟩ hT2 hD3
      obtain ⟨kw7, bl7, bs7, br7, nb7, hD7⟩ := after k7
      have nd : [wm.heap.size, wn.heap.size].Nodup := by have := heap_lt hD1; simp; omega
      have hds : ∀ {W : World}, Kp no w7 W → ∀ D, D ∈ [wm.heap.size, wn.heap.size] → w.heap.size ≤ D ∧ W.heap[D]? = some (.deferred (some [])) := fun kW D hD => by
        rcases List.mem_cons.1 hD with rfl | hD
        · exact ⟨by omega, (kW.keep _ (heap_lt hD3) (fun f => f)).trans hD3⟩
        · rw [List.mem_singleton.1 hD]
          exact ⟨by omega, (kW.keep _ (heap_lt hD7) (fun f => f)).trans hD7⟩
      refine ⟨_, nb7.cell0 0, l, bl7.cell0 0, br_not (br_dec (fun _ => ⟨_, bs7.cell0 0, br_dec (fun g1 => ⟨_, bs7.cell0 0, _, nb7.cell0 0, br_dec (fun g2 => by omega) (fun g2 => ⟨_, hmb.cell0 0, _, nb7.cell0 0, br_dec (fun _ => usek (live3 _) fun w9 k9 => ⟨true, rfl, fin (kw7.t k9) (br7.kp k9 id) nd (hds k9)⟩) (fun hh => absurd rfl hh)⟩)⟩) (fun g1 => ⟨_, hmb.cell0 0, _, nb7.cell0 0, br_dec (fun _ => usek (live3 _) fun w9 k9 => ⟨true, rfl, fin (kw7.t k9) (br7.kp k9 id) nd (hds k9)⟩) (fun hh => absurd rfl hh)⟩)⟩) (fun hh => absurd (by omega) hh))⟩
    · rintro T2 w7 ⟨⟨m, hh, _⟩, _⟩
      cases hh
    · rintro T2 w7 ⟨⟨m, _, g0, g1, rfl⟩, ⟨_, k7⟩, hTm, hmb⟩ hT2 hD3
      obtain ⟨kw7, bl7, bs7, br7, nb7, hD7⟩ := after k7
      have nd : [wm.heap.size, wn.heap.size].Nodup := by have := heap_lt hD1; simp; omega
      have hds : ∀ {W : World}, Kp no w7 W → ∀ D, D ∈ [wm.heap.size, wn.heap.size] → w.heap.size ≤ D ∧ W.heap[D]? = some (.deferred (some [])) := fun kW D hD => by
        rcases List.mem_cons.1 hD with rfl | hD
        · exact ⟨by omega, (kW.keep _ (heap_lt hD3) (fun f => f)).trans hD3⟩
        · rw [List.mem_singleton.1 hD]
          exact ⟨by omega, (kW.keep _ (heap_lt hD7) (fun f => f)).trans hD7⟩
      refine ⟨_, nb7.cell0 0, l, bl7.cell0 0, br_not (br_dec (fun _ => ⟨_, bs7.cell0 0, br_dec (fun g2 => ⟨_, bs7.cell0 0, _, nb7.cell0 0, br_dec (fun g3 => ⟨_, hmb.cell0 0, _, bs7.cell0 0, br_dec (fun _ => usek (live3 _) fun w9 k9 => ⟨true, rfl, fin (kw7.t k9) (br7.kp k9 id) nd (hds k9)⟩) (fun hh => absurd rfl hh)⟩) (fun g3 => ⟨_, hmb.cell0 0, _, nb7.cell0 0, br_dec (fun _ => usek (live3 _) fun w9 k9 => ⟨true, rfl, fin (kw7.t k9) (br7.kp k9 id) nd (hds k9)⟩) (fun hh => absurd (by omega) hh)⟩)⟩) (fun g2 => absurd (by omega) g2)⟩) (fun hh => absurd (by omega) hh))⟩
  · rintro T w5 hh
    exact hh.elim
end Go.Proofs.Ytilccklocaeebaa.V
