/- Numbers cut into parts, iterated over; the law on that. -/
import Derived.Test.YtmpgklgjmkcpdaaHl
namespace Go.Proofs.Ytmpgklgjmkcpdaa.V
open Go Go.VC
variable {w w' w0 : World} {l : Slc} {ls : List Nat} {zs : List Int} {q b B n : Nat}

theorem dvIter (hb : Blk w b [.pointer (some ⟨q, 0, none⟩)] 25) (hp : ShardB w q ls B) (hB : B ≤ b) (hsz : ls.length ≤ 100000000) :
    Iter Try.prog 75 [] [.pointer (some ⟨b, 0, none⟩)] w ls.length (fun j => [.int .i64 (j : Int), .int .i64 (wg ls j : Nat)]) (fun k => B ≤ k ∧ k < w.heap.size) := by
  intro lp J X w1 k1 hJ hX hr h0
  refine c75 (.func (.yield lp) #[] #[]) ⟨b, 0, none⟩ _ _ ?_
  unfold B75
  refine ⟨_, (hb.kp k1 id).cell0 0, usei (dvLen (hp.kpo k1)) ⟨_, rfl, ?_⟩⟩
  refine ⟨fun i w' => ∃ j : Nat, i = j ∧ j ≤ ls.length ∧ Kp (fun k => k < B) w w' ∧ w1.heap.size ≤ w'.heap.size ∧ J j no w', fun i _ => (ls.length + 1 - i).toNat, ⟨0, rfl, by omega, k1.mono (fun _ _ f => f.elim), Nat.le_refl _, h0⟩, ?_⟩
  rintro i w2 ⟨j, rfl, hj, k2, s2, hj2⟩
  have b2 := hb.kp k2 (by omega)
  have p2 := hp.kp k2 (fun k h1 h2 => by omega)
  refine br_dec (fun hlt => ?_) (fun hlt => ?_)
  · refine ⟨_, b2.cell0 0, usek (dvAt p2 hsz j) fun w3 k3 => ⟨_, rfl, ?_⟩⟩
    rw [atZ_in (by omega)]
    refine yuse (hr j no w3 (by omega) ((hJ j).no hj2 k3) (fun k hk => hk.elim)) ?_
    rintro v w4 ⟨k4, hv⟩
    have hs3 := k3.size
    have hs4 := k4.size
    have hs2 := k2.size
    have k24 : Kp (fun k => k < B) w w4 := (k2.trans (k3.mono (S' := fun k => k < B) (fun _ _ f => f.elim)) (fun _ _ f => f)).trans k4 (fun k h1 h2 => by
      have h2 := h2.2
      omega)
    rcases hv with ⟨rfl, hj4⟩ | ⟨rfl, hx⟩
    · refine ⟨true, rfl, brF ⟨⟨j + 1, ?_, by omega, k24, by omega, hj4⟩, ?_⟩⟩
      · rw [w64 ⟨by omega, by omega⟩]; omega
      · rw [w64 ⟨by omega, by omega⟩]; dsimp only; omega
    · exact ⟨false, rfl, brT ⟨no, fun _ f => f.elim, .inr hx⟩⟩
  · obtain rfl : j = ls.length := by omega
    exact ⟨no, fun _ f => f.elim, .inl hj2⟩

theorem dvAll (w : World) (q : Nat) : Calls Try.prog 20 #[.pointer (some ⟨q, 0, none⟩)] w (Rv fun v w' => ∃ b, v = .func (.func 75) #[] #[.pointer (some ⟨b, 0, none⟩)] ∧ Blk w' b [.pointer (some ⟨q, 0, none⟩)] 25 ∧ Kp no w w' ∧ w.heap.size ≤ b) := by
  refine c20 _ _ _ ?_
  unfold B20
  exact ⟨_, rfl, Blk.new _ _ _, (Kp.refl _ _).alloc _ _, Nat.le_refl _⟩

set_option maxHeartbeats 1000000 in
theorem shardGoes (h : RdZ w l zs) (hcap : l.len ≤ l.cap) (x : Int) : IsK 4 #[.slice l.a l.len l.cap, .int .i64 x] w (.bool true) := by
  have hl := h.len
  refine c4 _ _ _ _ ?_
  unfold B4
  have a1 := Blk.new w [.slice l.a l.len l.cap] 22
  have a2 := Blk.new (w.alloc (.cells #[.slice l.a l.len l.cap] 22)) [.int .i64 x] 3
  have a3 := Blk.new ((w.alloc (.cells #[.slice l.a l.len l.cap] 22)).alloc (.cells #[.int .i64 x] 3)) [.bool false] 4
  have b1 := (a1.alloc (.cells #[.int .i64 x] 3)).alloc (.cells #[.bool false] 4)
  have b2 := a2.alloc (.cells #[.bool false] 4)
  have z1 : (w.alloc (.cells #[.slice l.a l.len l.cap] 22)).heap.size = w.heap.size + 1 := World.size_alloc _ _
  have z2 : ((w.alloc (.cells #[.slice l.a l.len l.cap] 22)).alloc (.cells #[.int .i64 x] 3)).heap.size = w.heap.size + 2 := by rw [World.size_alloc, z1]
  have z3 : (((w.alloc (.cells #[.slice l.a l.len l.cap] 22)).alloc (.cells #[.int .i64 x] 3)).alloc (.cells #[.bool false] 4)).heap.size = w.heap.size + 3 := by rw [World.size_alloc, z2]
  have k0 : Kp no w (((w.alloc (.cells #[.slice l.a l.len l.cap] 22)).alloc (.cells #[.int .i64 x] 3)).alloc (.cells #[.bool false] 4)) := (((Kp.refl _ _).alloc _ _).alloc _ _).alloc _ _
  clear a1
  generalize (((w.alloc (.cells #[.slice l.a l.len l.cap] 22)).alloc (.cells #[.int .i64 x] 3)).alloc (.cells #[.bool false] 4)) = w1 at *
  generalize ((w.alloc (.cells #[.slice l.a l.len l.cap] 22)).alloc (.cells #[.int .i64 x] 3)) = wy at *
  generalize (w.alloc (.cells #[.slice l.a l.len l.cap] 22)) = wx at *
  have fin : ∀ {W : World} {DS : List Nat} {y : Value} , Kp no w W → Blk W wy.heap.size [y] 4 → DS.Nodup → (∀ D, D ∈ DS → w.heap.size ≤ D ∧ W.heap[D]? = some (.deferred (some []))) → _ := fun {W DS y} kW hb hn hd =>
    retc (b := true) (R := fun u w' => u = Value.bool true ∧ Kp no w w') hb hn (fun D hD => (hd D hD).2) (fun w' k' => ⟨rfl, kW.trans k' (fun k h1 h2 => by
      rcases h2 with rfl | h2
      · omega
      · have := (hd k h2).1; omega)⟩)
  refine ⟨l, b1.cell0 0, br_dec (fun _ => ?_) (fun hs => ⟨l, b1.cell0 0, use (rWrong7 (h.kpo k0) (by omega)) ?_⟩)⟩
  · exact usek (live8 _) fun w2 k2 => ⟨_, rfl, fin (k0.t k2) (a3.kp k2 id) List.nodup_nil (fun D hD => by cases hD)⟩
  rintro _ wa ⟨ka, e, rfl, hwr⟩
  refine ⟨_, rfl, br_not (br_dec (fun h0 => ?_) (fun h0 => usek (live8 _) fun w2 k2 => ⟨_, rfl, fin ((k0.t ka).t k2) ((a3.kp ka id).kp k2 id) List.nodup_nil (fun D hD => by cases hD)⟩))⟩
  subst h0
  have k0a := k0.t ka
  refine ⟨l, (b1.kp ka id).cell0 0, use (dvNew (h.kpo k0a) hcap (by omega)) ?_⟩
  rintro _ w2 ⟨k2, ⟨e, rfl, he, hw'⟩ | ⟨q, ls, rfl, rfl, hq⟩⟩
  · exact absurd (hw'.one hwr) he
  rw [zl_len] at hl
  refine ⟨_, _, rfl, use (dvAll w2 q) ?_⟩
  rintro _ w3 ⟨b, rfl, hb, k3, hbs⟩
  have k13 := (ka.t k2).t k3
  have sa := ka.size
  have s2 := k2.size
  have s3 := k3.size
  have hit := dvIter hb (hq.kpo k3) (show wa.heap.size ≤ b by omega) (by omega)
  refine ⟨_, rfl, .inr ⟨_, _, _, rfl⟩, ?_⟩
  have hn0 := Blk.new w3 [.int .i64 0] 3
  have kn : Kp no w3 (w3.alloc (.cells #[.int .i64 0] 3)) := (Kp.refl _ _).alloc _ _
  obtain ⟨e1, e2, hn1, e4⟩ := setc (v := .int .i64 0) hn0
  have kn1 : Kp no w3 ((w3.alloc (.cells #[.int .i64 0] 3)).setCell ⟨w3.heap.size, 0, none⟩ (.int .i64 0)) := kn.trans (e4 (fun k => k = w3.heap.size) rfl) (fun k h1 h2 => by omega)
  have sn1 : ((w3.alloc (.cells #[.int .i64 0] 3)).setCell ⟨w3.heap.size, 0, none⟩ (.int .i64 0)).heap.size = w3.heap.size + 1 := by simp
  refine ⟨e1, e2, _, #[], #[.pointer (some ⟨b, 0, none⟩)], rfl, by decide +kernel, ls.length, fun j => (j : Int), fun j => (wg ls j : Nat), fun k => wa.heap.size ≤ k ∧ k < w3.heap.size, ?_⟩
  clear e1 e2 e4
  generalize (w3.alloc (.cells #[.int .i64 0] 3)).setCell ⟨w3.heap.size, 0, none⟩ (.int .i64 0) = wm at *
  have k3m : Kp no w3 wm := kn1
  have k1m : Kp no w1 wm := k13.t k3m
  have kwm : Kp no w wm := k0.t k1m
  have sk0 := k0.size
  have after : ∀ {W : World}, Kp (fun k => k = w3.heap.size) wm W → Kp no w W ∧ Blk W w.heap.size [.slice l.a l.len l.cap] 22 ∧ Blk W wx.heap.size [.int .i64 x] 3 ∧ Blk W wy.heap.size [.bool false] 4 := fun {W} kW =>
    ⟨kwm.trans kW (fun k h1 h2 => by omega), (b1.kp k1m id).kp kW (by omega), (b2.kp k1m id).kp kW (by omega), (a3.kp k1m id).kp kW (by omega)⟩
  refine ⟨fun j T W => (((∀ k, T k → wm.heap.size ≤ k) ∧ Kp (fun k => k = w3.heap.size) wm W) ∧ (¬ T w3.heap.size ∧ Blk W w3.heap.size [.int .i64 (j : Int)] 3)) ∧ (x ≤ 0 ∨ (j : Int) < x),
    fun o T W => (∃ m : Nat, o = some 0 ∧ 1 ≤ m ∧ m ≤ ls.length ∧ x = m) ∧ (((∀ k, T k → wm.heap.size ≤ k) ∧ Kp (fun k => k = w3.heap.size) wm W) ∧ (¬ T w3.heap.size ∧ Blk W w3.heap.size [.int .i64 x] 3)),
    (hit.later k3m), fun k hk => by omega, fun j => stab_and (stab_and stab_kp stab_blk) (stab_const _), fun o => stab_and (stab_const _) (stab_and stab_kp stab_blk), ⟨⟨⟨fun k hk => hk.elim, Kp.refl _ _⟩, fun hk => hk.elim, hn1⟩, by omega⟩, ?_, ?_, ?_, ?_⟩
  · rintro j T2 w7 hj hJ hT2 hT0 hT1
    refine ⟨Kp.refl _ _, fun w8 k8 => ?_⟩
    obtain ⟨⟨⟨_, k8n⟩, hTm, hmb⟩, hxj⟩ := (stab_and (stab_and stab_kp stab_blk) (stab_const _)) T2 T2 w7 w8 hJ ⟨k8.mono (fun k _ e => by subst e; exact hT1), fun _ h => h, fun _ h => .inl h⟩
    obtain ⟨kw8, bl8, bs8, _⟩ := after k8n
    refine ⟨_, hmb.cell0 0, br_not (br_dec (fun _ => ⟨l, bl8.cell0 0, usei (rAt7 (h.kpo kw8) _) ⟨_, rfl, br_not (br_dec (fun _ => ?_) (fun hh => absurd ?_ hh))⟩⟩) (fun hh => absurd rfl hh))⟩
    · refine ⟨_, hmb.cell0 0, ?_⟩
      rw [w64 (x := (j : Int) + 1) ⟨by omega, by omega⟩]
      obtain ⟨e1, e2, hm2, e4⟩ := setc (v := .int .i64 ((j : Int) + 1)) hmb
      have bs9 := bs8.kp (e4 (fun k => k = w3.heap.size) rfl) (by omega)
      have kfin := k8n.trans (e4 (fun k => k = w3.heap.size) rfl) (fun _ _ h => h)
      refine ⟨e1, e2, _, hm2.cell0 0, _, bs9.cell0 0, br_dec (fun hh => ?_) (fun hh => ?_)⟩
      · exact ⟨e4 _ ⟨hTm, by omega⟩, ⟨j + 1, rfl, by omega, by omega, by omega⟩, ⟨hT2, kfin⟩, hTm, by rw [← hh]; exact hm2⟩
      · exact ⟨e4 _ ⟨hTm, by omega⟩, ⟨⟨hT2, kfin⟩, hTm, by rw [Int.natCast_add]; exact hm2⟩, by omega⟩
    · rw [atZ_in (by omega)]
  · rintro T2 w7 ⟨⟨⟨_, k7⟩, hTm, hmb⟩, hxj⟩ hT2 hD3
    obtain ⟨kw7, bl7, bs7, br7⟩ := after k7
    have hds : ∀ {W : World}, Kp no w7 W → ∀ D, D ∈ [wm.heap.size] → w.heap.size ≤ D ∧ W.heap[D]? = some (.deferred (some [])) := fun kW D hD => by
      rw [List.mem_singleton.1 hD]
      exact ⟨by omega, (kW.keep _ (heap_lt hD3) (fun f => f)).trans hD3⟩
    have nd : [wm.heap.size].Nodup := List.nodup_cons.2 ⟨by simp, List.nodup_nil⟩
    exact ⟨_, hmb.cell0 0, l, bl7.cell0 0, br_y (by omega) ⟨_, hmb.cell0 0, l, bl7.cell0 0, br_y (by omega) (usek (live8 _) fun w9 k9 => ⟨true, rfl, fin (kw7.t k9) (br7.kp k9 id) nd (hds k9)⟩)⟩⟩
  · rintro T2 w7 ⟨⟨m, hh, _⟩, _⟩
    cases hh
  · rintro T2 w7 ⟨⟨m, _, g0, g1, rfl⟩, ⟨_, k7⟩, hTm, hmb⟩ hT2 hD3
    obtain ⟨kw7, bl7, bs7, br7⟩ := after k7
    have hds : ∀ {W : World}, Kp no w7 W → ∀ D, D ∈ [wm.heap.size] → w.heap.size ≤ D ∧ W.heap[D]? = some (.deferred (some [])) := fun kW D hD => by
      rw [List.mem_singleton.1 hD]
      exact ⟨by omega, (kW.keep _ (heap_lt hD3) (fun f => f)).trans hD3⟩
    have nd : [wm.heap.size].Nodup := List.nodup_cons.2 ⟨by simp, List.nodup_nil⟩
    have last := fun (w9 : World) (k9 : Kp no w7 w9) => fin (kw7.t k9) (br7.kp k9 id) nd (hds k9)
    exact ⟨_, hmb.cell0 0, l, bl7.cell0 0, br_dec (fun _ => ⟨_, hmb.cell0 0, l, bl7.cell0 0, br_y (by omega) (usek (live8 _) fun w9 k9 => ⟨true, rfl, last w9 k9⟩)⟩)
      (fun _ => ⟨_, hmb.cell0 0, _, bs7.cell0 0, br_y rfl ⟨_, hmb.cell0 0, l, bl7.cell0 0, br_y (by omega) (usek (live8 _) fun w9 k9 => ⟨true, rfl, last w9 k9⟩)⟩⟩)⟩
end Go.Proofs.Ytmpgklgjmkcpdaa.V
