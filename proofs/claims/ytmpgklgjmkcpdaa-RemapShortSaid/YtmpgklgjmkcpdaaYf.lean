/- Rows: a group's numbers, iterated over; the law on that. -/
import Derived.Test.YtmpgklgjmkcpdaaYd
namespace Go.VC
open Go
/-- A group, or none. -/
def grpZ (gs : List (List Nat)) (g : Int) : List Nat := if 0 ≤ g then (gs[g.toNat]?).getD [] else []
theorem grpZ_in {gs : List (List Nat)} {m : Nat} (h : m < gs.length) : grpZ gs (m : Int) = gs[m] := by unfold grpZ; rw [if_pos (by omega), Int.toNat_natCast, List.getElem?_eq_getElem h]; rfl
theorem grpZ_out {gs : List (List Nat)} {g : Int} (h : ¬ (0 ≤ g ∧ g < gs.length)) : grpZ gs g = [] := by
  unfold grpZ
  by_cases g0 : 0 ≤ g
  · rw [if_pos g0, List.getElem?_eq_none (by omega)]; rfl
  · rw [if_neg g0]
theorem sp_len (gs : List (List Nat)) (g : Int) : spB (cnts gs) g = spA (cnts gs) g + ((grpZ gs g).length : Int) := by
  by_cases h : 0 ≤ g ∧ g < gs.length
  · obtain ⟨m, rfl⟩ : ∃ m : Nat, g = m := ⟨g.toNat, by omega⟩
    have hm : m < gs.length := by omega
    rw [spA_in (by rw [cnts_len]; exact hm), spB_in (by rw [cnts_len]; exact hm), grpZ_in hm, S0_succ (by rw [cnts_len]; exact hm), cnts_at hm]
    push_cast; rfl
  · rw [spA_out (by rw [cnts_len]; exact h), spB_out (by rw [cnts_len]; exact h), grpZ_out h]; rfl
theorem grpZ_ex {gs : List (List Nat)} {g : Int} (h : 0 < (grpZ gs g).length) : ∃ m : Nat, ∃ hm : m < gs.length, g = m ∧ grpZ gs g = gs[m] := by
  by_cases h1 : 0 ≤ g ∧ g < gs.length
  · obtain ⟨m, rfl⟩ : ∃ m : Nat, g = m := ⟨g.toNat, by omega⟩
    exact ⟨m, by omega, rfl, grpZ_in (by omega)⟩
  · rw [grpZ_out h1] at h; simp at h
theorem grpZ_le (gs : List (List Nat)) (g : Int) : (grpZ gs g).length ≤ (cnts gs).sum := by
  by_cases h : 0 < (grpZ gs g).length
  · obtain ⟨m, hm, _, e⟩ := grpZ_ex h
    have h1 := S0_succ (l := cnts gs) (m := m) (by rw [cnts_len]; exact hm)
    have h2 : S0 (cnts gs) (m + 1) ≤ (cnts gs).sum := S0_le
    rw [cnts_at hm] at h1
    rw [e]; omega
  · omega
end Go.VC
namespace Go.Proofs.Ytmpgklgjmkcpdaa.V
open Go Go.VC
variable {w w' w0 : World} {l : Slc} {gs : List (List Nat)} {zs : List (List Int)} {q b c B n r : Nat}

theorem kplZ {S : Nat → Prop} {xs : List Int} (h : RdZ w l xs) (g : Kp S w w') (hn : ∀ k, k < w.heap.size → ¬ S k) : RdZ w' l xs := by
  refine ⟨h.len, fun i hi => ?_, h.lo⟩
  obtain ⟨a, ha, hc⟩ := h.rd i hi
  rw [List.getElem?_eq_getElem hi] at hc ⊢
  have hlt := cell_lt hc
  exact ⟨a, ha, by rw [World.cell?_of_block (w := w) (g.keep _ hlt (hn _ hlt)), hc]⟩

theorem wIter {g : Int} (hb : Blk w b [.pointer (some ⟨r, 0, none⟩)] 45) (hc : Blk w c [.int .i64 g] 3) (hp : RowsB w r gs B) (hB : B ≤ b) (hB2 : B ≤ c) :
    Iter Try.prog 100 [] [.pointer (some ⟨b, 0, none⟩), .pointer (some ⟨c, 0, none⟩)] w (grpZ gs g).length (fun j => [.int .i64 (spA (cnts gs) g + (j : Int)), .int .i64 (wg (grpZ gs g) j : Nat)]) (fun k => B ≤ k ∧ k < w.heap.size) := by
  intro lp J X w1 k1 hJ hX hr h0
  refine c100 (.func (.yield lp) #[] #[]) ⟨b, 0, none⟩ ⟨c, 0, none⟩ _ _ ?_
  unfold B100
  have hp1 := hp.kpo k1
  obtain ⟨p, s, hb0, hpp, hss, b1, b2, hBB⟩ := id hp.1
  have hchl := chain_len gs
  have hcl := cnts_len gs
  refine ⟨_, (hb.kp k1 id).cell0 0, _, (hc.kp k1 id).cell0 0, usek (wSpan hp1.1 g) fun w9 k9 => ⟨_, _, rfl, ?_⟩⟩
  rw [sp_len]
  have hsA : 0 ≤ spA (cnts gs) g ∧ spA (cnts gs) g + ((grpZ gs g).length : Int) ≤ 100000000 := by
    by_cases h : 0 ≤ g ∧ g < gs.length
    · obtain ⟨m, rfl⟩ : ∃ m : Nat, g = m := ⟨g.toNat, by omega⟩
      have hm : m < gs.length := by omega
      have h1 := S0_succ (l := cnts gs) (m := m) (by omega)
      have h2 : S0 (cnts gs) (m + 1) ≤ (cnts gs).sum := S0_le
      rw [spA_in (by omega), grpZ_in hm]
      rw [cnts_at hm] at h1
      omega
    · rw [spA_out (by rw [hcl]; exact h), grpZ_out h]; simp
  have k19 := k1.t k9
  refine ⟨fun i w' => ∃ j : Nat, i = spA (cnts gs) g + (j : Int) ∧ j ≤ (grpZ gs g).length ∧ Kp (fun k => k < B) w w' ∧ w9.heap.size ≤ w'.heap.size ∧ J j no w', fun i _ => (spA (cnts gs) g + ((grpZ gs g).length : Int) + 1 - i).toNat, ⟨0, by omega, by omega, k19.mono (fun _ _ f => f.elim), Nat.le_refl _, (hJ 0).no h0 k9⟩, ?_⟩
  rintro i w2 ⟨j, rfl, hj, k2, s2, hj2⟩
  have bb2 := hb.kp k2 (by omega)
  have p2 := hp.kp k2 (fun k h1 h2 => by omega)
  refine br_dec (fun hlt => ?_) (fun hlt => ?_)
  · have kd : Kp no w2 w2.drew := (Kp.refl no w2).drew
    have hjl : j < (grpZ gs g).length := by omega
    obtain ⟨m, hm, rfl, hgr⟩ := grpZ_ex (show 0 < (grpZ gs g).length by omega)
    have hbR := hb0.kp k2 (by omega)
    have hsR := hss.kp k2 (fun k h1 h2 => by omega)
    refine ⟨_, bb2.drew.cell0 0, _, hbR.drew.cell 1, _, bb2.drew.cell0 0, usek (eAt (hsR.kpo kd) (by omega) _) fun w3 k3 => ⟨_, rfl, (bb2.drew.kp k3 id).cell0 0, usek (wBase ((p2.1.kpo kd).kpo k3) ⟨by omega, by omega⟩) fun w4 k4 => ⟨_, rfl, ?_⟩⟩⟩
    have hmc : m < (cnts gs).length := by omega
    rw [hgr] at hjl hj
    obtain ⟨c1, c2⟩ : j < gs[m].length ∧ wg (chainOf gs) (S0 (cnts gs) m + j) = nextB (chT gs m) + wg gs[m] j := ⟨hjl, chain_at hm hjl⟩
    have hS := S0_succ hmc
    rw [cnts_at hm] at hS
    have hle : S0 (cnts gs) (m + 1) ≤ (cnts gs).sum := S0_le
    have hv := (hp.2 gs[m] (List.getElem_mem hm)).1 _ (wg_memN c1)
    have hwl := wg_le hss.good (S0 (cnts gs) m + j)
    have e1 : IntKind.i64.wrap (atZ (zl (chainOf gs)) (spA (cnts gs) (m : Int) + (j : Int)) - (atZ (zl (chainOf gs)) (spA (cnts gs) (m : Int) - 1) + 1)) = ((wg (grpZ gs (m : Int)) j : Nat) : Int) := by
      rw [spA_in hmc, base_at (by omega), show (S0 (cnts gs) m : Int) + (j : Int) = ((S0 (cnts gs) m + j : Nat) : Int) by omega, atZ_in (by omega), c2, w64 ⟨by omega, by omega⟩, hgr]
      omega
    rw [e1]
    have k24' : Kp no w2 w4 := kd.t (k3.t k4)
    refine yuse (hr j no w4 (by rw [hgr]; exact hjl) ((hJ j).no hj2 k24') (fun k hk => hk.elim) (fun k hk => hk.elim)) ?_
    rintro v w5 ⟨k5, hv5⟩
    have hs4 := k24'.size
    have hs5 := k5.size
    have hs2 := k2.size
    have k25 : Kp (fun k => k < B) w w5 := (k2.trans (k24'.mono (S' := fun k => k < B) (fun _ _ f => f.elim)) (fun _ _ f => f)).trans k5 (fun k h1 h2 => by
      have h2 := h2.2
      omega)
    rcases hv5 with ⟨rfl, hj4⟩ | ⟨rfl, hx⟩
    · refine ⟨true, rfl, brF ⟨⟨j + 1, ?_, by rw [hgr]; omega, k25, by omega, hj4⟩, ?_⟩⟩
      · rw [w64 ⟨by omega, by omega⟩]; omega
      · rw [w64 ⟨by omega, by omega⟩]; dsimp only; omega
    · exact ⟨false, rfl, brT ⟨no, fun _ f => f.elim, .inr hx⟩⟩
  · obtain rfl : j = (grpZ gs g).length := by omega
    exact ⟨no, fun _ f => f.elim, .inl hj2⟩

theorem wAll (w : World) (r : Nat) (g : Int) : Calls Try.prog 55 #[.pointer (some ⟨r, 0, none⟩), .int .i64 g] w (Rv fun v w' => ∃ b c, v = .func (.func 100) #[] #[.pointer (some ⟨b, 0, none⟩), .pointer (some ⟨c, 0, none⟩)] ∧ Blk w' b [.pointer (some ⟨r, 0, none⟩)] 45 ∧ Blk w' c [.int .i64 g] 3 ∧ Kp no w w' ∧ w.heap.size ≤ b ∧ w.heap.size ≤ c) := by
  refine c55 _ _ _ _ ?_
  unfold B55
  have z1 : (w.alloc (.cells #[.pointer (some ⟨r, 0, none⟩)] 45)).heap.size = w.heap.size + 1 := World.size_alloc _ _
  exact ⟨_, _, rfl, (Blk.new w [.pointer (some ⟨r, 0, none⟩)] 45).alloc _, Blk.new _ _ _, ((Kp.refl _ _).alloc _ _).alloc _ _, Nat.le_refl _, by omega⟩

set_option maxHeartbeats 2000000 in
theorem rowsGo (h : RdG w l zs) (g x : Int) : IsK 10 #[.slice l.a l.len l.cap, .int .i64 g, .int .i64 x] w (.bool true) := by
  have hl := h.len
  refine c10 _ _ _ _ _ ?_
  unfold B10
  have a1 := Blk.new w [.slice l.a l.len l.cap] 42
  have a2 := Blk.new (w.alloc (.cells #[.slice l.a l.len l.cap] 42)) [.int .i64 g] 3
  have a3 := Blk.new ((w.alloc (.cells #[.slice l.a l.len l.cap] 42)).alloc (.cells #[.int .i64 g] 3)) [.int .i64 x] 3
  have a4 := Blk.new (((w.alloc (.cells #[.slice l.a l.len l.cap] 42)).alloc (.cells #[.int .i64 g] 3)).alloc (.cells #[.int .i64 x] 3)) [.bool false] 4
  have b1 := ((a1.alloc (.cells #[.int .i64 g] 3)).alloc (.cells #[.int .i64 x] 3)).alloc (.cells #[.bool false] 4)
  have b2 := (a2.alloc (.cells #[.int .i64 x] 3)).alloc (.cells #[.bool false] 4)
  have b3 := a3.alloc (.cells #[.bool false] 4)
  have z1 : (w.alloc (.cells #[.slice l.a l.len l.cap] 42)).heap.size = w.heap.size + 1 := World.size_alloc _ _
  have z2 : ((w.alloc (.cells #[.slice l.a l.len l.cap] 42)).alloc (.cells #[.int .i64 g] 3)).heap.size = w.heap.size + 2 := by rw [World.size_alloc, z1]
  have z3 : (((w.alloc (.cells #[.slice l.a l.len l.cap] 42)).alloc (.cells #[.int .i64 g] 3)).alloc (.cells #[.int .i64 x] 3)).heap.size = w.heap.size + 3 := by rw [World.size_alloc, z2]
  have z4 : ((((w.alloc (.cells #[.slice l.a l.len l.cap] 42)).alloc (.cells #[.int .i64 g] 3)).alloc (.cells #[.int .i64 x] 3)).alloc (.cells #[.bool false] 4)).heap.size = w.heap.size + 4 := by rw [World.size_alloc, z3]
  have k0 : Kp no w ((((w.alloc (.cells #[.slice l.a l.len l.cap] 42)).alloc (.cells #[.int .i64 g] 3)).alloc (.cells #[.int .i64 x] 3)).alloc (.cells #[.bool false] 4)) := ((((Kp.refl _ _).alloc _ _).alloc _ _).alloc _ _).alloc _ _
  clear a1 a2 a3
  generalize ((((w.alloc (.cells #[.slice l.a l.len l.cap] 42)).alloc (.cells #[.int .i64 g] 3)).alloc (.cells #[.int .i64 x] 3)).alloc (.cells #[.bool false] 4)) = w1 at *
  generalize (((w.alloc (.cells #[.slice l.a l.len l.cap] 42)).alloc (.cells #[.int .i64 g] 3)).alloc (.cells #[.int .i64 x] 3)) = wz at *
  generalize ((w.alloc (.cells #[.slice l.a l.len l.cap] 42)).alloc (.cells #[.int .i64 g] 3)) = wy at *
  generalize (w.alloc (.cells #[.slice l.a l.len l.cap] 42)) = wx at *
  have fin : ∀ {W : World} {DS : List Nat} {y : Value} , Kp no w W → Blk W wz.heap.size [y] 4 → DS.Nodup → (∀ D, D ∈ DS → w.heap.size ≤ D ∧ W.heap[D]? = some (.deferred (some []))) → _ := fun {W DS y} kW hb hn hd =>
    retc (b := true) (R := fun u w' => u = Value.bool true ∧ Kp no w w') hb hn (fun D hD => (hd D hD).2) (fun w' k' => ⟨rfl, kW.trans k' (fun k h1 h2 => by
      rcases h2 with rfl | h2
      · omega
      · have := (hd k h2).1; omega)⟩)
  refine ⟨l, b1.cell0 0, use (rSmall33 (h.kpo k0)) ?_⟩
  rintro _ wq ⟨hwq, bb, rfl, hbb⟩
  obtain rfl : w1 = wq := hwq.symm
  refine ⟨_, rfl, ?_⟩
  cases bb
  · exact brT (usek (live33 _) fun w2 k2 => ⟨_, rfl, fin (k0.t k2) (a4.kp k2 id) List.nodup_nil (fun D hD => by cases hD)⟩)
  obtain ⟨hin, hsum⟩ := small_in (hbb rfl)
  have hsm := (hbb rfl).1
  clear hbb
  refine brF ⟨l, b1.cell0 0, usei (rWrong33 (h.kpo k0) (by omega) hin) ⟨_, rfl, br_not (br_dec (fun h0 => ?_) (fun h0 => usek (live33 _) fun w2 k2 => ⟨_, rfl, fin (k0.t k2) (a4.kp k2 id) List.nodup_nil (fun D hD => by cases hD)⟩))⟩⟩
  refine ⟨l, b1.cell0 0, use (wNew (h.kpo k0) hin (by omega)) ?_⟩
  rintro _ w2 ⟨k2, ⟨e, rfl, he, hwr⟩ | ⟨r, gs, rfl, rfl, hw0, hr⟩⟩
  · rw [if_neg (by omega)] at hwr
    exact absurd (hwr.trans h0) he
  rw [cnts_of rfl] at hsum
  have hcl := cnts_len gs
  rw [List.length_map] at hl hsm
  refine ⟨_, _, rfl, use (wPartsN w2) ?_⟩
  rintro _ w3 ⟨k3, p, s, rfl, hp, hs⟩
  have b13 := b1.kp (k2.t k3) id
  have b23 := b2.kp (k2.t k3) id
  have b33 := b3.kp (k2.t k3) id
  have a43 := a4.kp (k2.t k3) id
  refine ⟨_, _, rfl, usei (wLenN _) ⟨_, rfl, br_not (br_y rfl (usei (wGroupsN _) ⟨_, rfl, br_not (br_y rfl ⟨_, b23.cell0 0, usei (wAtN _ _) ⟨_, rfl, br_not (br_y rfl ⟨_, b23.cell0 0, usei (wGroupN _ _) ⟨_, rfl, br_not (br_y rfl ⟨_, b23.cell0 0, _, b33.cell0 0, usei (wWhereN _ _ _) ⟨_, rfl, br_not (br_y rfl (usei (wSizeN _) ⟨_, rfl, br_not (br_y rfl (usei (xLen hp (by simp)) ⟨_, rfl, br_not (br_y rfl (usei (eLen hs) ⟨_, rfl, br_not (br_y rfl ?_)⟩))⟩))⟩))⟩⟩)⟩⟩)⟩⟩)⟩))⟩⟩
  have hr3 := hr.kpo k3
  have k13 := k2.t k3
  have s2 := k2.size
  have s3 := k3.size
  have hw0' := Blk.new w3 [.slice none 0 0] 22
  have kb : Kp no w3 (w3.alloc (.cells #[.slice none 0 0] 22)) := (Kp.refl _ _).alloc _ _
  have zb : (w3.alloc (.cells #[.slice none 0 0] 22)).heap.size = w3.heap.size + 1 := World.size_alloc _ _
  generalize w3.alloc (.cells #[.slice none 0 0] 22) = w4 at *
  have nowant : ¬ (0 ≤ g ∧ g < gs.length) → ∃ (lw : Slc) (ns : List Nat), Blk w4 w3.heap.size [.slice lw.a lw.len lw.cap] 22 ∧ RdZ w4 lw (zl ns) ∧ ns = grpZ gs g := fun hh => ⟨⟨none, 0, 0⟩, [], hw0', ⟨rfl, Rd.nil _ _, by simp⟩, (grpZ_out hh).symm⟩
  refine ⟨_, (b23.kp kb id).cell0 0, br_dec (fun hg0 => ⟨_, (b23.kp kb id).cell0 0, l, (b13.kp kb id).cell0 0, br_dec (fun hg1 => ?_) (fun hg1 => ?_)⟩) (fun hg0 => ?_)⟩
  · obtain ⟨m, rfl⟩ : ∃ m : Nat, g = m := ⟨g.toNat, by omega⟩
    have hm : m < gs.length := by omega
    obtain ⟨aG, lw, haG, hcG, hzG⟩ := rdg_at ((h.kpo k0).kpo (k13.t kb)) hm
    have kx : Kp (fun k => k = w3.heap.size) w4 (w4.setCell ⟨w3.heap.size, 0, none⟩ (.slice lw.a lw.len lw.cap)) := (Kp.refl _ _).set _ _ (fun _ => rfl)
    obtain ⟨e1, e2, hwb, e4⟩ := setc (v := .slice lw.a lw.len lw.cap) hw0'
    refine ⟨l, (b13.kp kb id).cell0 0, _, (b23.kp kb id).cell0 0, by omega, by omega, aG, haG, lw, hcG, e1, e2, ?_⟩
    clear e1 e2 e4
    have zb2 : (w4.setCell ⟨w3.heap.size, 0, none⟩ (.slice lw.a lw.len lw.cap)).heap.size = w3.heap.size + 1 := by rw [World.size_setCell, zb]
    have kb2 : Kp no w3 (w4.setCell ⟨w3.heap.size, 0, none⟩ (.slice lw.a lw.len lw.cap)) := kb.trans kx (fun k h1 h2 => by omega)
    have hnz : RdZ (w4.setCell ⟨w3.heap.size, 0, none⟩ (.slice lw.a lw.len lw.cap)) lw (zl gs[m]) := by
      obtain ⟨a', s', ha', hc', hz'⟩ := rdg_at h hm
      have q1 := kp_cell hc' (k0.t (k13.t kb))
      rw [haG] at ha'
      obtain rfl := Option.some.inj ha'
      rw [hcG] at q1
      have q2 := Option.some.inj q1
      injection q2 with e1 e2 e3
      have es : s' = lw := by cases lw; cases s'; simp_all
      subst es; exact hz'.kpo (k0.t (k13.t kb2))
    rw [show gs[m] = grpZ gs (m : Int) from (grpZ_in hm).symm] at hnz
    generalize hns : grpZ gs (m : Int) = ns at *
    generalize hgm : (m : Int) = g at *
    generalize w4.setCell ⟨w3.heap.size, 0, none⟩ (.slice lw.a lw.len lw.cap) = wv at *
    clear zb kb hw0'
    have kb := kb2
    have zb := zb2
    have hw0' := hwb
    have hnb := grpZ_le gs g
    rw [hns] at hnb
    have hnl := hnz.len
    rw [zl_len] at hnl
    refine ⟨_, (b23.kp kb id).cell0 0, use (wAll wv r g) ?_⟩
    rintro _ w5 ⟨b, c, rfl, hb, hc, k5, hbs, hcs⟩
    have k35 := kb.t k5
    have k15 := k13.t k35
    have s5 := k35.size
    have s55 := k5.size
    have hit := wIter hb hc (hr3.kpo k35) (show w1.heap.size ≤ b by omega) (by omega)
    rw [hns] at hit
    refine ⟨_, rfl, .inr ⟨_, _, _, rfl⟩, ?_⟩
    have hn0 := Blk.new w5 [.int .i64 0] 3
    have kn : Kp no w5 (w5.alloc (.cells #[.int .i64 0] 3)) := (Kp.refl _ _).alloc _ _
    obtain ⟨e1, e2, hn1, e4⟩ := setc (v := .int .i64 0) hn0
    have kn1 : Kp no w5 ((w5.alloc (.cells #[.int .i64 0] 3)).setCell ⟨w5.heap.size, 0, none⟩ (.int .i64 0)) := kn.trans (e4 (fun k => k = w5.heap.size) rfl) (fun k h1 h2 => by omega)
    have sn1 : ((w5.alloc (.cells #[.int .i64 0] 3)).setCell ⟨w5.heap.size, 0, none⟩ (.int .i64 0)).heap.size = w5.heap.size + 1 := by simp
    refine ⟨e1, e2, _, #[], #[.pointer (some ⟨b, 0, none⟩), .pointer (some ⟨c, 0, none⟩)], rfl, by decide +kernel, ns.length, fun j => spA (cnts gs) g + (j : Int), fun j => (wg ns j : Nat), fun k => w1.heap.size ≤ k ∧ k < w5.heap.size, ?_⟩
    clear e1 e2 e4
    generalize (w5.alloc (.cells #[.int .i64 0] 3)).setCell ⟨w5.heap.size, 0, none⟩ (.int .i64 0) = wm at *
    have k5m : Kp no w5 wm := kn1
    have k1m : Kp no w1 wm := k15.t k5m
    have kwm : Kp no w wm := k0.t k1m
    have sk0 := k0.size
    have after : ∀ {W : World}, Kp (fun k => k = w5.heap.size) wm W → Kp no w W ∧ Blk W w.heap.size [.slice l.a l.len l.cap] 42 ∧ Blk W wx.heap.size [.int .i64 g] 3 ∧ Blk W wy.heap.size [.int .i64 x] 3 ∧ Blk W wz.heap.size [.bool false] 4 ∧ Blk W w3.heap.size [.slice lw.a lw.len lw.cap] 22 ∧ RdZ W lw (zl ns) := fun {W} kW =>
      ⟨kwm.trans kW (fun k h1 h2 => by omega), (b1.kp k1m id).kp kW (by omega), (b2.kp k1m id).kp kW (by omega), (b3.kp k1m id).kp kW (by omega), (a4.kp k1m id).kp kW (by omega), ((hw0'.kp k5 id).kp k5m id).kp kW (by omega), kplZ (hnz.kpo k5) (S := fun k => k = w5.heap.size) ((k5m.mono (fun _ _ f => f.elim)).trans kW (fun _ _ h => h)) (fun k h1 h2 => by have h2 : k = w5.heap.size := h2; omega)⟩
    refine ⟨fun j T W => (((∀ k, T k → wm.heap.size ≤ k) ∧ Kp (fun k => k = w5.heap.size) wm W) ∧ (¬ T w5.heap.size ∧ Blk W w5.heap.size [.int .i64 (j : Int)] 3)) ∧ (x ≤ 0 ∨ (j : Int) < x),
      fun o T W => (∃ m : Nat, o = some 0 ∧ 1 ≤ m ∧ m ≤ ns.length ∧ x = m) ∧ (((∀ k, T k → wm.heap.size ≤ k) ∧ Kp (fun k => k = w5.heap.size) wm W) ∧ (¬ T w5.heap.size ∧ Blk W w5.heap.size [.int .i64 x] 3)),
      (hit.later k5m), fun k hk => by omega, fun j => stab_and (stab_and stab_kp stab_blk) (stab_const _), fun o => stab_and (stab_const _) (stab_and stab_kp stab_blk), ⟨⟨⟨fun k hk => hk.elim, Kp.refl _ _⟩, fun hk => hk.elim, hn1⟩, by omega⟩, ?_, ?_, ?_, ?_⟩
    · rintro j T2 w7 hj hJ hT2 hT0 hT1 hTb
      refine ⟨Kp.refl _ _, fun w8 k8 => ?_⟩
      obtain ⟨⟨⟨_, k8n⟩, hTm, hmb⟩, hxj⟩ := (stab_and (stab_and stab_kp stab_blk) (stab_const _)) T2 T2 w7 w8 hJ ⟨k8.mono (fun k _ e => by subst e; exact hT1), fun _ h => h, fun _ h => .inl h⟩
      obtain ⟨kw8, bl8, bg8, bs8, _, bw8, zw8⟩ := after k8n
      have kd : Kp no w8 w8.drew := (Kp.refl no w8).drew
      rw [← hns] at hj
      obtain ⟨m, hm, rfl, hgr⟩ := grpZ_ex (show 0 < (grpZ gs g).length by omega)
      rw [hns] at hj
      obtain ⟨aN, haN, hcN⟩ := zw8.at (i := (j : Int)) (by omega) (by omega)
      rw [wz_zl, Int.toNat_natCast] at hcN
      have hS := S0_succ (l := cnts gs) (m := m) (by omega)
      have hle : S0 (cnts gs) (m + 1) ≤ (cnts gs).sum := S0_le
      refine ⟨_, hmb.drew.cell0 0, lw, bw8.drew.cell0 0, br_n (by omega) ⟨l, bl8.drew.cell0 0, _, bg8.drew.cell0 0, _, hmb.drew.cell0 0, usei (rFirst33 (h.kpo (kw8.t kd)) (by omega) (g := m) (by omega) (by omega) rfl) ⟨_, rfl, hmb.drew.cell0 0, br_not (br_dec (fun _ => ?_) (fun hh => absurd ?_ hh))⟩⟩⟩
      · refine ⟨lw, bw8.drew.cell0 0, _, hmb.drew.cell0 0, by omega, by omega, aN, haN, _, by rw [Int.toNat_natCast]; exact hcN, br_not (br_y rfl ⟨_, hmb.drew.cell0 0, ?_⟩)⟩
        rw [w64 (x := (j : Int) + 1) ⟨by omega, by omega⟩]
        obtain ⟨e1, e2, hm2, e4⟩ := setc (v := .int .i64 ((j : Int) + 1)) hmb.drew
        have bs9 := bs8.drew.kp (e4 (fun k => k = w5.heap.size) rfl) (by omega)
        have kfin := (k8n.drew).trans (e4 (fun k => k = w5.heap.size) rfl) (fun _ _ h => h)
        have kst : Kp (fun k => ¬ T2 k ∧ ¬ (w1.heap.size ≤ k ∧ k < w5.heap.size)) w8 (w8.drew.setCell ⟨w5.heap.size, 0, none⟩ (.int .i64 ((j : Int) + 1))) := (kd.mono (fun _ _ f => f.elim)).trans (e4 (fun k => ¬ T2 k ∧ ¬ (w1.heap.size ≤ k ∧ k < w5.heap.size)) ⟨hTm, by omega⟩) (fun _ _ h => h)
        refine ⟨e1, e2, _, hm2.cell0 0, _, bs9.cell0 0, br_dec (fun hh => ?_) (fun hh => ?_)⟩
        · exact ⟨kst, ⟨j + 1, rfl, by omega, by omega, by omega⟩, ⟨hT2, kfin⟩, hTm, by rw [← hh]; exact hm2⟩
        · exact ⟨kst, ⟨⟨hT2, kfin⟩, hTm, by rw [Int.natCast_add]; exact hm2⟩, by omega⟩
      · show spA (cnts gs) (m : Int) + (j : Int) = _
        rw [spA_in (by omega), w64 ⟨by omega, by omega⟩]
    · rintro T2 w7 ⟨⟨⟨_, k7⟩, hTm, hmb⟩, hxj⟩ hT2 hD3
      obtain ⟨kw7, bl7, bg7, bs7, br7, bw7, _⟩ := after k7
      have hds : ∀ {W : World}, Kp no w7 W → ∀ D, D ∈ [wm.heap.size] → w.heap.size ≤ D ∧ W.heap[D]? = some (.deferred (some [])) := fun kW D hD => by
        rw [List.mem_singleton.1 hD]
        exact ⟨by omega, (kW.keep _ (heap_lt hD3) (fun f => f)).trans hD3⟩
      have nd : [wm.heap.size].Nodup := List.nodup_cons.2 ⟨by simp, List.nodup_nil⟩
      exact ⟨_, hmb.cell0 0, lw, bw7.cell0 0, br_y (by omega) (usek (live33 _) fun w9 k9 => ⟨true, rfl, fin (kw7.t k9) (br7.kp k9 id) nd (hds k9)⟩)⟩
    · rintro T2 w7 ⟨⟨m, hh, _⟩, _⟩
      cases hh
    · rintro T2 w7 ⟨⟨m, _, g0, g1, hxm⟩, ⟨_, k7⟩, hTm, hmb⟩ hT2 hD3
      obtain ⟨kw7, bl7, bg7, bs7, br7, bw7, _⟩ := after k7
      have hds : ∀ {W : World}, Kp no w7 W → ∀ D, D ∈ [wm.heap.size] → w.heap.size ≤ D ∧ W.heap[D]? = some (.deferred (some [])) := fun kW D hD => by
        rw [List.mem_singleton.1 hD]
        exact ⟨by omega, (kW.keep _ (heap_lt hD3) (fun f => f)).trans hD3⟩
      have nd : [wm.heap.size].Nodup := List.nodup_cons.2 ⟨by simp, List.nodup_nil⟩
      have last := fun (w9 : World) (k9 : Kp no w7 w9) => fin (kw7.t k9) (br7.kp k9 id) nd (hds k9)
      exact ⟨_, hmb.cell0 0, lw, bw7.cell0 0, br_dec (fun _ => usek (live33 _) fun w9 k9 => ⟨true, rfl, last w9 k9⟩)
        (fun _ => ⟨_, hmb.cell0 0, _, bs7.cell0 0, br_y rfl (usek (live33 _) fun w9 k9 => ⟨true, rfl, last w9 k9⟩)⟩)⟩
  · obtain ⟨lw, ns, hw0', hnz, hns⟩ := nowant (by omega)
    have hns := hns.symm
    have hnb := grpZ_le gs g
    rw [hns] at hnb
    have hnl := hnz.len
    rw [zl_len] at hnl
    refine ⟨_, (b23.kp kb id).cell0 0, use (wAll w4 r g) ?_⟩
    rintro _ w5 ⟨b, c, rfl, hb, hc, k5, hbs, hcs⟩
    have k35 := kb.t k5
    have k15 := k13.t k35
    have s5 := k35.size
    have s55 := k5.size
    have hit := wIter hb hc (hr3.kpo k35) (show w1.heap.size ≤ b by omega) (by omega)
    rw [hns] at hit
    refine ⟨_, rfl, .inr ⟨_, _, _, rfl⟩, ?_⟩
    have hn0 := Blk.new w5 [.int .i64 0] 3
    have kn : Kp no w5 (w5.alloc (.cells #[.int .i64 0] 3)) := (Kp.refl _ _).alloc _ _
    obtain ⟨e1, e2, hn1, e4⟩ := setc (v := .int .i64 0) hn0
    have kn1 : Kp no w5 ((w5.alloc (.cells #[.int .i64 0] 3)).setCell ⟨w5.heap.size, 0, none⟩ (.int .i64 0)) := kn.trans (e4 (fun k => k = w5.heap.size) rfl) (fun k h1 h2 => by omega)
    have sn1 : ((w5.alloc (.cells #[.int .i64 0] 3)).setCell ⟨w5.heap.size, 0, none⟩ (.int .i64 0)).heap.size = w5.heap.size + 1 := by simp
    refine ⟨e1, e2, _, #[], #[.pointer (some ⟨b, 0, none⟩), .pointer (some ⟨c, 0, none⟩)], rfl, by decide +kernel, ns.length, fun j => spA (cnts gs) g + (j : Int), fun j => (wg ns j : Nat), fun k => w1.heap.size ≤ k ∧ k < w5.heap.size, ?_⟩
    clear e1 e2 e4
    generalize (w5.alloc (.cells #[.int .i64 0] 3)).setCell ⟨w5.heap.size, 0, none⟩ (.int .i64 0) = wm at *
    have k5m : Kp no w5 wm := kn1
    have k1m : Kp no w1 wm := k15.t k5m
    have kwm : Kp no w wm := k0.t k1m
    have sk0 := k0.size
    have after : ∀ {W : World}, Kp (fun k => k = w5.heap.size) wm W → Kp no w W ∧ Blk W w.heap.size [.slice l.a l.len l.cap] 42 ∧ Blk W wx.heap.size [.int .i64 g] 3 ∧ Blk W wy.heap.size [.int .i64 x] 3 ∧ Blk W wz.heap.size [.bool false] 4 ∧ Blk W w3.heap.size [.slice lw.a lw.len lw.cap] 22 ∧ RdZ W lw (zl ns) := fun {W} kW =>
      ⟨kwm.trans kW (fun k h1 h2 => by omega), (b1.kp k1m id).kp kW (by omega), (b2.kp k1m id).kp kW (by omega), (b3.kp k1m id).kp kW (by omega), (a4.kp k1m id).kp kW (by omega), ((hw0'.kp k5 id).kp k5m id).kp kW (by omega), kplZ (hnz.kpo k5) (S := fun k => k = w5.heap.size) ((k5m.mono (fun _ _ f => f.elim)).trans kW (fun _ _ h => h)) (fun k h1 h2 => by have h2 : k = w5.heap.size := h2; omega)⟩
    refine ⟨fun j T W => (((∀ k, T k → wm.heap.size ≤ k) ∧ Kp (fun k => k = w5.heap.size) wm W) ∧ (¬ T w5.heap.size ∧ Blk W w5.heap.size [.int .i64 (j : Int)] 3)) ∧ (x ≤ 0 ∨ (j : Int) < x),
      fun o T W => (∃ m : Nat, o = some 0 ∧ 1 ≤ m ∧ m ≤ ns.length ∧ x = m) ∧ (((∀ k, T k → wm.heap.size ≤ k) ∧ Kp (fun k => k = w5.heap.size) wm W) ∧ (¬ T w5.heap.size ∧ Blk W w5.heap.size [.int .i64 x] 3)),
      (hit.later k5m), fun k hk => by omega, fun j => stab_and (stab_and stab_kp stab_blk) (stab_const _), fun o => stab_and (stab_const _) (stab_and stab_kp stab_blk), ⟨⟨⟨fun k hk => hk.elim, Kp.refl _ _⟩, fun hk => hk.elim, hn1⟩, by omega⟩, ?_, ?_, ?_, ?_⟩
    · rintro j T2 w7 hj hJ hT2 hT0 hT1 hTb
      refine ⟨Kp.refl _ _, fun w8 k8 => ?_⟩
      obtain ⟨⟨⟨_, k8n⟩, hTm, hmb⟩, hxj⟩ := (stab_and (stab_and stab_kp stab_blk) (stab_const _)) T2 T2 w7 w8 hJ ⟨k8.mono (fun k _ e => by subst e; exact hT1), fun _ h => h, fun _ h => .inl h⟩
      obtain ⟨kw8, bl8, bg8, bs8, _, bw8, zw8⟩ := after k8n
      have kd : Kp no w8 w8.drew := (Kp.refl no w8).drew
      rw [← hns] at hj
      obtain ⟨m, hm, rfl, hgr⟩ := grpZ_ex (show 0 < (grpZ gs g).length by omega)
      rw [hns] at hj
      obtain ⟨aN, haN, hcN⟩ := zw8.at (i := (j : Int)) (by omega) (by omega)
      rw [wz_zl, Int.toNat_natCast] at hcN
      have hS := S0_succ (l := cnts gs) (m := m) (by omega)
      have hle : S0 (cnts gs) (m + 1) ≤ (cnts gs).sum := S0_le
      refine ⟨_, hmb.drew.cell0 0, lw, bw8.drew.cell0 0, br_n (by omega) ⟨l, bl8.drew.cell0 0, _, bg8.drew.cell0 0, _, hmb.drew.cell0 0, usei (rFirst33 (h.kpo (kw8.t kd)) (by omega) (g := m) (by omega) (by omega) rfl) ⟨_, rfl, hmb.drew.cell0 0, br_not (br_dec (fun _ => ?_) (fun hh => absurd ?_ hh))⟩⟩⟩
      · refine ⟨lw, bw8.drew.cell0 0, _, hmb.drew.cell0 0, by omega, by omega, aN, haN, _, by rw [Int.toNat_natCast]; exact hcN, br_not (br_y rfl ⟨_, hmb.drew.cell0 0, ?_⟩)⟩
        rw [w64 (x := (j : Int) + 1) ⟨by omega, by omega⟩]
        obtain ⟨e1, e2, hm2, e4⟩ := setc (v := .int .i64 ((j : Int) + 1)) hmb.drew
        have bs9 := bs8.drew.kp (e4 (fun k => k = w5.heap.size) rfl) (by omega)
        have kfin := (k8n.drew).trans (e4 (fun k => k = w5.heap.size) rfl) (fun _ _ h => h)
        have kst : Kp (fun k => ¬ T2 k ∧ ¬ (w1.heap.size ≤ k ∧ k < w5.heap.size)) w8 (w8.drew.setCell ⟨w5.heap.size, 0, none⟩ (.int .i64 ((j : Int) + 1))) := (kd.mono (fun _ _ f => f.elim)).trans (e4 (fun k => ¬ T2 k ∧ ¬ (w1.heap.size ≤ k ∧ k < w5.heap.size)) ⟨hTm, by omega⟩) (fun _ _ h => h)
        refine ⟨e1, e2, _, hm2.cell0 0, _, bs9.cell0 0, br_dec (fun hh => ?_) (fun hh => ?_)⟩
        · exact ⟨kst, ⟨j + 1, rfl, by omega, by omega, by omega⟩, ⟨hT2, kfin⟩, hTm, by rw [← hh]; exact hm2⟩
        · exact ⟨kst, ⟨⟨hT2, kfin⟩, hTm, by rw [Int.natCast_add]; exact hm2⟩, by omega⟩
      · show spA (cnts gs) (m : Int) + (j : Int) = _
        rw [spA_in (by omega), w64 ⟨by omega, by omega⟩]
    · rintro T2 w7 ⟨⟨⟨_, k7⟩, hTm, hmb⟩, hxj⟩ hT2 hD3
      obtain ⟨kw7, bl7, bg7, bs7, br7, bw7, _⟩ := after k7
      have hds : ∀ {W : World}, Kp no w7 W → ∀ D, D ∈ [wm.heap.size] → w.heap.size ≤ D ∧ W.heap[D]? = some (.deferred (some [])) := fun kW D hD => by
        rw [List.mem_singleton.1 hD]
        exact ⟨by omega, (kW.keep _ (heap_lt hD3) (fun f => f)).trans hD3⟩
      have nd : [wm.heap.size].Nodup := List.nodup_cons.2 ⟨by simp, List.nodup_nil⟩
      exact ⟨_, hmb.cell0 0, lw, bw7.cell0 0, br_y (by omega) (usek (live33 _) fun w9 k9 => ⟨true, rfl, fin (kw7.t k9) (br7.kp k9 id) nd (hds k9)⟩)⟩
    · rintro T2 w7 ⟨⟨m, hh, _⟩, _⟩
      cases hh
    · rintro T2 w7 ⟨⟨m, _, g0, g1, hxm⟩, ⟨_, k7⟩, hTm, hmb⟩ hT2 hD3
      obtain ⟨kw7, bl7, bg7, bs7, br7, bw7, _⟩ := after k7
      have hds : ∀ {W : World}, Kp no w7 W → ∀ D, D ∈ [wm.heap.size] → w.heap.size ≤ D ∧ W.heap[D]? = some (.deferred (some [])) := fun kW D hD => by
        rw [List.mem_singleton.1 hD]
        exact ⟨by omega, (kW.keep _ (heap_lt hD3) (fun f => f)).trans hD3⟩
      have nd : [wm.heap.size].Nodup := List.nodup_cons.2 ⟨by simp, List.nodup_nil⟩
      have last := fun (w9 : World) (k9 : Kp no w7 w9) => fin (kw7.t k9) (br7.kp k9 id) nd (hds k9)
      exact ⟨_, hmb.cell0 0, lw, bw7.cell0 0, br_dec (fun _ => usek (live33 _) fun w9 k9 => ⟨true, rfl, last w9 k9⟩)
        (fun _ => ⟨_, hmb.cell0 0, _, bs7.cell0 0, br_y rfl (usek (live33 _) fun w9 k9 => ⟨true, rfl, last w9 k9⟩)⟩)⟩
  · obtain ⟨lw, ns, hw0', hnz, hns⟩ := nowant (by omega)
    have hns := hns.symm
    have hnb := grpZ_le gs g
    rw [hns] at hnb
    have hnl := hnz.len
    rw [zl_len] at hnl
    refine ⟨_, (b23.kp kb id).cell0 0, use (wAll w4 r g) ?_⟩
    rintro _ w5 ⟨b, c, rfl, hb, hc, k5, hbs, hcs⟩
    have k35 := kb.t k5
    have k15 := k13.t k35
    have s5 := k35.size
    have s55 := k5.size
    have hit := wIter hb hc (hr3.kpo k35) (show w1.heap.size ≤ b by omega) (by omega)
    rw [hns] at hit
    refine ⟨_, rfl, .inr ⟨_, _, _, rfl⟩, ?_⟩
    have hn0 := Blk.new w5 [.int .i64 0] 3
    have kn : Kp no w5 (w5.alloc (.cells #[.int .i64 0] 3)) := (Kp.refl _ _).alloc _ _
    obtain ⟨e1, e2, hn1, e4⟩ := setc (v := .int .i64 0) hn0
    have kn1 : Kp no w5 ((w5.alloc (.cells #[.int .i64 0] 3)).setCell ⟨w5.heap.size, 0, none⟩ (.int .i64 0)) := kn.trans (e4 (fun k => k = w5.heap.size) rfl) (fun k h1 h2 => by omega)
    have sn1 : ((w5.alloc (.cells #[.int .i64 0] 3)).setCell ⟨w5.heap.size, 0, none⟩ (.int .i64 0)).heap.size = w5.heap.size + 1 := by simp
    refine ⟨e1, e2, _, #[], #[.pointer (some ⟨b, 0, none⟩), .pointer (some ⟨c, 0, none⟩)], rfl, by decide +kernel, ns.length, fun j => spA (cnts gs) g + (j : Int), fun j => (wg ns j : Nat), fun k => w1.heap.size ≤ k ∧ k < w5.heap.size, ?_⟩
    clear e1 e2 e4
    generalize (w5.alloc (.cells #[.int .i64 0] 3)).setCell ⟨w5.heap.size, 0, none⟩ (.int .i64 0) = wm at *
    have k5m : Kp no w5 wm := kn1
    have k1m : Kp no w1 wm := k15.t k5m
    have kwm : Kp no w wm := k0.t k1m
    have sk0 := k0.size
    have after : ∀ {W : World}, Kp (fun k => k = w5.heap.size) wm W → Kp no w W ∧ Blk W w.heap.size [.slice l.a l.len l.cap] 42 ∧ Blk W wx.heap.size [.int .i64 g] 3 ∧ Blk W wy.heap.size [.int .i64 x] 3 ∧ Blk W wz.heap.size [.bool false] 4 ∧ Blk W w3.heap.size [.slice lw.a lw.len lw.cap] 22 ∧ RdZ W lw (zl ns) := fun {W} kW =>
      ⟨kwm.trans kW (fun k h1 h2 => by omega), (b1.kp k1m id).kp kW (by omega), (b2.kp k1m id).kp kW (by omega), (b3.kp k1m id).kp kW (by omega), (a4.kp k1m id).kp kW (by omega), ((hw0'.kp k5 id).kp k5m id).kp kW (by omega), kplZ (hnz.kpo k5) (S := fun k => k = w5.heap.size) ((k5m.mono (fun _ _ f => f.elim)).trans kW (fun _ _ h => h)) (fun k h1 h2 => by have h2 : k = w5.heap.size := h2; omega)⟩
    refine ⟨fun j T W => (((∀ k, T k → wm.heap.size ≤ k) ∧ Kp (fun k => k = w5.heap.size) wm W) ∧ (¬ T w5.heap.size ∧ Blk W w5.heap.size [.int .i64 (j : Int)] 3)) ∧ (x ≤ 0 ∨ (j : Int) < x),
      fun o T W => (∃ m : Nat, o = some 0 ∧ 1 ≤ m ∧ m ≤ ns.length ∧ x = m) ∧ (((∀ k, T k → wm.heap.size ≤ k) ∧ Kp (fun k => k = w5.heap.size) wm W) ∧ (¬ T w5.heap.size ∧ Blk W w5.heap.size [.int .i64 x] 3)),
      (hit.later k5m), fun k hk => by omega, fun j => stab_and (stab_and stab_kp stab_blk) (stab_const _), fun o => stab_and (stab_const _) (stab_and stab_kp stab_blk), ⟨⟨⟨fun k hk => hk.elim, Kp.refl _ _⟩, fun hk => hk.elim, hn1⟩, by omega⟩, ?_, ?_, ?_, ?_⟩
    · rintro j T2 w7 hj hJ hT2 hT0 hT1 hTb
      refine ⟨Kp.refl _ _, fun w8 k8 => ?_⟩
      obtain ⟨⟨⟨_, k8n⟩, hTm, hmb⟩, hxj⟩ := (stab_and (stab_and stab_kp stab_blk) (stab_const _)) T2 T2 w7 w8 hJ ⟨k8.mono (fun k _ e => by subst e; exact hT1), fun _ h => h, fun _ h => .inl h⟩
      obtain ⟨kw8, bl8, bg8, bs8, _, bw8, zw8⟩ := after k8n
      have kd : Kp no w8 w8.drew := (Kp.refl no w8).drew
      rw [← hns] at hj
      obtain ⟨m, hm, rfl, hgr⟩ := grpZ_ex (show 0 < (grpZ gs g).length by omega)
      rw [hns] at hj
      obtain ⟨aN, haN, hcN⟩ := zw8.at (i := (j : Int)) (by omega) (by omega)
      rw [wz_zl, Int.toNat_natCast] at hcN
      have hS := S0_succ (l := cnts gs) (m := m) (by omega)
      have hle : S0 (cnts gs) (m + 1) ≤ (cnts gs).sum := S0_le
      refine ⟨_, hmb.drew.cell0 0, lw, bw8.drew.cell0 0, br_n (by omega) ⟨l, bl8.drew.cell0 0, _, bg8.drew.cell0 0, _, hmb.drew.cell0 0, usei (rFirst33 (h.kpo (kw8.t kd)) (by omega) (g := m) (by omega) (by omega) rfl) ⟨_, rfl, hmb.drew.cell0 0, br_not (br_dec (fun _ => ?_) (fun hh => absurd ?_ hh))⟩⟩⟩
      · refine ⟨lw, bw8.drew.cell0 0, _, hmb.drew.cell0 0, by omega, by omega, aN, haN, _, by rw [Int.toNat_natCast]; exact hcN, br_not (br_y rfl ⟨_, hmb.drew.cell0 0, ?_⟩)⟩
        rw [w64 (x := (j : Int) + 1) ⟨by omega, by omega⟩]
        obtain ⟨e1, e2, hm2, e4⟩ := setc (v := .int .i64 ((j : Int) + 1)) hmb.drew
        have bs9 := bs8.drew.kp (e4 (fun k => k = w5.heap.size) rfl) (by omega)
        have kfin := (k8n.drew).trans (e4 (fun k => k = w5.heap.size) rfl) (fun _ _ h => h)
        have kst : Kp (fun k => ¬ T2 k ∧ ¬ (w1.heap.size ≤ k ∧ k < w5.heap.size)) w8 (w8.drew.setCell ⟨w5.heap.size, 0, none⟩ (.int .i64 ((j : Int) + 1))) := (kd.mono (fun _ _ f => f.elim)).trans (e4 (fun k => ¬ T2 k ∧ ¬ (w1.heap.size ≤ k ∧ k < w5.heap.size)) ⟨hTm, by omega⟩) (fun _ _ h => h)
        refine ⟨e1, e2, _, hm2.cell0 0, _, bs9.cell0 0, br_dec (fun hh => ?_) (fun hh => ?_)⟩
        · exact ⟨kst, ⟨j + 1, rfl, by omega, by omega, by omega⟩, ⟨hT2, kfin⟩, hTm, by rw [← hh]; exact hm2⟩
        · exact ⟨kst, ⟨⟨hT2, kfin⟩, hTm, by rw [Int.natCast_add]; exact hm2⟩, by omega⟩
      · show spA (cnts gs) (m : Int) + (j : Int) = _
        rw [spA_in (by omega), w64 ⟨by omega, by omega⟩]
    · rintro T2 w7 ⟨⟨⟨_, k7⟩, hTm, hmb⟩, hxj⟩ hT2 hD3
      obtain ⟨kw7, bl7, bg7, bs7, br7, bw7, _⟩ := after k7
      have hds : ∀ {W : World}, Kp no w7 W → ∀ D, D ∈ [wm.heap.size] → w.heap.size ≤ D ∧ W.heap[D]? = some (.deferred (some [])) := fun kW D hD => by
        rw [List.mem_singleton.1 hD]
        exact ⟨by omega, (kW.keep _ (heap_lt hD3) (fun f => f)).trans hD3⟩
      have nd : [wm.heap.size].Nodup := List.nodup_cons.2 ⟨by simp, List.nodup_nil⟩
      exact ⟨_, hmb.cell0 0, lw, bw7.cell0 0, br_y (by omega) (usek (live33 _) fun w9 k9 => ⟨true, rfl, fin (kw7.t k9) (br7.kp k9 id) nd (hds k9)⟩)⟩
    · rintro T2 w7 ⟨⟨m, hh, _⟩, _⟩
      cases hh
    · rintro T2 w7 ⟨⟨m, _, g0, g1, hxm⟩, ⟨_, k7⟩, hTm, hmb⟩ hT2 hD3
      obtain ⟨kw7, bl7, bg7, bs7, br7, bw7, _⟩ := after k7
      have hds : ∀ {W : World}, Kp no w7 W → ∀ D, D ∈ [wm.heap.size] → w.heap.size ≤ D ∧ W.heap[D]? = some (.deferred (some [])) := fun kW D hD => by
        rw [List.mem_singleton.1 hD]
        exact ⟨by omega, (kW.keep _ (heap_lt hD3) (fun f => f)).trans hD3⟩
      have nd : [wm.heap.size].Nodup := List.nodup_cons.2 ⟨by simp, List.nodup_nil⟩
      have last := fun (w9 : World) (k9 : Kp no w7 w9) => fin (kw7.t k9) (br7.kp k9 id) nd (hds k9)
      exact ⟨_, hmb.cell0 0, lw, bw7.cell0 0, br_dec (fun _ => usek (live33 _) fun w9 k9 => ⟨true, rfl, last w9 k9⟩)
        (fun _ => ⟨_, hmb.cell0 0, _, bs7.cell0 0, br_y rfl (usek (live33 _) fun w9 k9 => ⟨true, rfl, last w9 k9⟩)⟩)⟩
end Go.Proofs.Ytmpgklgjmkcpdaa.V
