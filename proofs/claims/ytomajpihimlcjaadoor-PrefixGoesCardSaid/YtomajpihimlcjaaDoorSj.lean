/- The law on the ones of a row, iterated over from any one on. -/
import Derived.Test.YtomajpihimlcjaaDoorSi
namespace Go.Proofs.YtomajpihimlcjaaDoor.V
open Go Go.VC
variable {w w' w0 : World} {l : Slc} {bits : List Bool} {ws : List Nat} {s r B t m n : Nat}

theorem sOneN (w : World) : IsK 25 #[.pointer none, .int .i64 0] w (.int .i64 (-1)) := by
  refine c25n _ _ _ ?_
  unfold B25n
  have hb := Blk.new w [.pointer none] 35
  have kA : Kp no w (w.alloc (.cells #[.pointer none] 35)) := (Kp.refl _ _).alloc _ _
  refine br_dec (fun _ => ⟨rfl, kA⟩) (fun _ => ⟨_, hb.cell0 0, ?_⟩)
  refine c24n _ _ ?_
  unfold B24n
  exact ⟨_, rfl, br_dec (fun _ => ⟨rfl, kA⟩) (fun h => absurd (Int.le_refl 0) h)⟩
theorem sOnesN (w : World) : Is 24 #[.pointer none] w (.int .i64 0) := by
  refine c24n _ _ ?_
  unfold B24n
  exact ⟨rfl, rfl⟩
theorem sZeroN (w : World) : IsK 26 #[.pointer none, .int .i64 0] w (.int .i64 (-1)) := by
  refine c26n _ _ _ ?_
  unfold B26n
  have hb := (Blk.new w [.pointer none] 35).drew
  have kA : Kp no w (World.drew (w.alloc (.cells #[.pointer none] 35))) := ((Kp.refl _ _).alloc _ _).drew
  exact ⟨_, hb.cell0 0, rfl, kA⟩

theorem dirGoes (ht : Tab w) (h : CaseR w l ws t m n) (k stop : Int) (hk : -9223372036854775808 ≤ k ∧ k ≤ 9223372036854775807) : IsK 4 #[caseV l t m n, .int .i64 k, .int .i64 stop] w (.bool true) := by
  refine c4 l t m n k stop _ _ ?_
  unfold B4
  have hpos := ht.pos
  -- the boxes
  have a1 := Blk.new w [.slice l.a l.len l.cap, .int .u8 (t : Int), .int .u64 (m : Int), .int .u8 (n : Int)] 31
  have z1 : (w.alloc (.cells #[.slice l.a l.len l.cap, .int .u8 (t : Int), .int .u64 (m : Int), .int .u8 (n : Int)] 31)).heap.size = w.heap.size + 1 := World.size_alloc _ _
  have kx : Kp no w (w.alloc (.cells #[.slice l.a l.len l.cap, .int .u8 (t : Int), .int .u64 (m : Int), .int .u8 (n : Int)] 31)) := (Kp.refl _ _).alloc _ _
  generalize (w.alloc (.cells #[.slice l.a l.len l.cap, .int .u8 (t : Int), .int .u64 (m : Int), .int .u8 (n : Int)] 31)) = wx at *
  have a2 := Blk.new wx [.int .i64 stop] 3
  have z2 : (wx.alloc (.cells #[.int .i64 stop] 3)).heap.size = wx.heap.size + 1 := World.size_alloc _ _
  have ky : Kp no wx (wx.alloc (.cells #[.int .i64 stop] 3)) := (Kp.refl _ _).alloc _ _
  generalize (wx.alloc (.cells #[.int .i64 stop] 3)) = wy at *
  have a3 := Blk.new wy [.bool false] 4
  have z3 : (wy.alloc (.cells #[.bool false] 4)).heap.size = wy.heap.size + 1 := World.size_alloc _ _
  have kz : Kp no wy (wy.alloc (.cells #[.bool false] 4)) := (Kp.refl _ _).alloc _ _
  generalize (wy.alloc (.cells #[.bool false] 4)) = w1 at *
  have b1 := (a1.kp ky id).kp kz id
  have b2 := a2.kp kz id
  have k0 := kx.t (ky.t kz)
  have h1 := h.kp k0
  clear a1 a2 kx ky kz
  -- handing back
  have fin : ∀ {W : World} {DS : List Nat} {y : Value} , Kp no w W → Blk W wy.heap.size [y] 4 → DS.Nodup → (∀ D, D ∈ DS → w.heap.size ≤ D ∧ W.heap[D]? = some (.deferred (some []))) → _ := fun {W DS y} kW hb hn hd =>
    retc (b := true) (R := fun u w' => u = Value.bool true ∧ Kp no w w') hb hn (fun D hD => (hd D hD).2) (fun w' k' => ⟨rfl, kW.trans k' (fun k h1 h2 => by
      rcases h2 with rfl | h2
      · omega
      · have := (hd k h2).1; omega)⟩)
  refine ⟨l, _, _, _, b1.cell 0, b1.cell 1, b1.cell 2, b1.cell 3, usek (small4 h1) fun w2 k2 => ⟨_, rfl, br_not (br_dec (fun hs => ?_) (fun hs => ?_))⟩⟩
  rotate_left
  · exact usek (live5 _) fun w3 k3 => ⟨_, rfl, fin (k0.t (k2.t k3)) (a3.kp (k2.t k3) id) List.nodup_nil (fun D hD => by cases hD)⟩
  have bb := b1.kp k2 id
  refine ⟨_, bb.cell 1, br_dec (fun _ => usek (live5 _) fun w3 k3 => ⟨_, rfl, fin (k0.t (k2.t k3)) (a3.kp (k2.t k3) id) List.nodup_nil (fun D hD => by cases hD)⟩) (fun _ => ?_)⟩
  refine ⟨l, _, _, _, bb.cell 0, bb.cell 1, bb.cell 2, bb.cell 3, use (row4 (h1.kp k2) hs.1 hs.2.1 hs.2.2) ?_⟩
  rintro _ w3 ⟨r, rfl, hr, k3⟩
  have hbl := caseBits_le (m := m) hs.1 hs.2.1 hs.2.2
  refine ⟨_, rfl, use (sNew hr (by omega)) ?_⟩
  rintro _ w4 ⟨d, rfl, hd, k4⟩
  have k24 := (k2.t k3).t k4
  have b4 := b1.kp k24 id
  refine ⟨_, rfl, l, _, _, _, b4.cell 0, b4.cell 1, b4.cell 2, b4.cell 3, use (bits4 (h1.kp k24) hs.1 hs.2.1 hs.2.2) ?_⟩
  rintro _ w5 ⟨o, rfl, ho, k5, f5⟩
  have hol := ho.rdB.len
  generalize caseBits ws t m n = bits at *
  refine ⟨o, rfl, use (places5 ho.rdB (by omega) true) ?_⟩
  rintro _ w6 ⟨q1, rfl, hq1, k6, f6⟩
  rw [plc_true] at hq1
  refine ⟨q1, rfl, ?_⟩
  -- the box of the ones
  have p0 := Blk.new w6 [.slice none 0 0] 37
  obtain ⟨e1, e2, p1, e4⟩ := setc (v := .slice q1.a q1.len q1.cap) p0
  have k67 : Kp no w6 ((w6.alloc (.cells #[.slice none 0 0] 37)).setCell ⟨w6.heap.size, 0, none⟩ (.slice q1.a q1.len q1.cap)) := ((Kp.refl _ _).alloc _ _).trans (e4 (fun k => k = w6.heap.size) rfl) (fun k h1 h2 => by omega)
  have s7 : ((w6.alloc (.cells #[.slice none 0 0] 37)).setCell ⟨w6.heap.size, 0, none⟩ (.slice q1.a q1.len q1.cap)).heap.size = w6.heap.size + 1 := by simp
  refine ⟨e1, e2, ?_⟩
  clear e1 e2 e4 p0
  generalize ((w6.alloc (.cells #[.slice none 0 0] 37)).setCell ⟨w6.heap.size, 0, none⟩ (.slice q1.a q1.len q1.cap)) = w7 at *
  have k37 : Kp no w3 w7 := (k4.t k5).t (k6.t k67)
  have s37 := k37.size
  have s02 := k0.size
  have s12 := k2.size
  have s23 := k3.size
  have s46 := (k5.t k6).size
  have s34 := k4.size
  have s56 := k6.size
  have s45 := k5.size
  obtain ⟨lr, hrow, hrb⟩ := hr
  have hrlt : ∀ k, RF r lr k → w2.heap.size ≤ k ∧ k < w3.heap.size := fun k hk => ⟨hrb k hk, hrow.lt hk⟩
  refine use (add1 (hrow.kp k37 (fun _ _ f => f)) (by omega) 5 (by omega) 3) ?_
  rintro _ w8 ⟨o9, rfl, hrow8, k78, f8⟩
  have hS : addS bits 5 3 = _ := addS_ok (n := 3) (by omega) (by omega) (by omega)
  rw [hS]
  have k08 : Kp no w w8 := (k0.t (k2.t (k3.t k37))).trans k78 (fun k h1 h2 => by have := (hrlt k h2).1; omega)
  have c8 := (b2.kp (k2.t (k3.t k37)) id).kp k78 (fun h2 => by have := (hrlt _ h2).1; omega)
  have r8 := (a3.kp (k2.t (k3.t k37)) id).kp k78 (fun h2 => by have := (hrlt _ h2).1; omega)
  have p8 := p1.kp k78 (fun h2 => by have := (hrlt _ h2).2; omega)
  have d8 := (hd.kpo ((k5.t k6).t k67)).kp k78 (fun k h1 h2 => by have := (hrlt k h2).2; omega)
  have q8 : RdI w8 q1 (plc (bg bits) bits.length) := (hq1.rdI.kp k67 (fun _ _ f => f)).kp k78 (fun k h1 h2 => by have := (hrlt k h2).2; have := f6 k h1; omega)
  have q6 : ∀ k, On q1 k → k < w6.heap.size := fun k hk => hq1.on hk
  have hql := q8.len
  rw [plc_len] at hql
  have hcl := cnt_le (bg bits) bits.length
  clear hrow8 f8 hrow hrlt hrb p1 hq1 ho hd
  refine ⟨_, rfl, br_not (br_dec (fun _ => ?_) (fun hh => absurd rfl hh))⟩
  refine use (sFrom w8 d k) ?_
  rintro _ w9 ⟨bk, bq, rfl, hbk, hbq, k89, fbk, fbq⟩
  refine ⟨_, rfl, .inr ⟨_, _, _, rfl⟩, ?_⟩
  refine usei (sOnesN w9) ⟨_, rfl, br_not (br_dec (fun _ => usek (sOneN w9) fun wB kB => ⟨_, rfl, br_not (br_dec (fun _ => usek (sZeroN wB) fun wC kC => ⟨_, rfl, br_not (br_dec (fun _ => ?_) (fun hh => absurd rfl hh))⟩) (fun hh => absurd rfl hh))⟩) (fun hh => absurd rfl hh))⟩
  have k9C := kB.t kC
  have k8C := k89.t k9C
  have s8C := k8C.size
  have s78 := k78.size
  -- the box of the first
  have g0 := Blk.new wC [.int .i64 0] 3
  obtain ⟨e1, e2, g1, e4⟩ := setc (v := .int .i64 (max k 0)) g0
  have kCD : Kp no wC ((wC.alloc (.cells #[.int .i64 0] 3)).setCell ⟨wC.heap.size, 0, none⟩ (.int .i64 (max k 0))) := ((Kp.refl _ _).alloc _ _).trans (e4 (fun k => k = wC.heap.size) rfl) (fun k h1 h2 => by omega)
  have sD : ((wC.alloc (.cells #[.int .i64 0] 3)).setCell ⟨wC.heap.size, 0, none⟩ (.int .i64 (max k 0))).heap.size = wC.heap.size + 1 := by simp
  refine ⟨e1, e2, ?_⟩
  clear e1 e2 e4 g0
  generalize ((wC.alloc (.cells #[.int .i64 0] 3)).setCell ⟨wC.heap.size, 0, none⟩ (.int .i64 (max k 0))) = wD at *
  have hn0 := Blk.new wD [.int .i64 0] 3
  obtain ⟨e1, e2, hn1, e4⟩ := setc (v := .int .i64 0) hn0
  have kDn : Kp no wD ((wD.alloc (.cells #[.int .i64 0] 3)).setCell ⟨wD.heap.size, 0, none⟩ (.int .i64 0)) := ((Kp.refl _ _).alloc _ _).trans (e4 (fun k => k = wD.heap.size) rfl) (fun k h1 h2 => by omega)
  have sn : ((wD.alloc (.cells #[.int .i64 0] 3)).setCell ⟨wD.heap.size, 0, none⟩ (.int .i64 0)).heap.size = wD.heap.size + 1 := by simp
  have hbkl := hbk.lt
  have hbql := hbq.lt
  have s9 := k89.size
  have s9C := k9C.size
  have hit := selIter d8 k89 (by omega) hk.2 hbk hbq (ht.kpo (k08.t k89))
  refine ⟨e1, e2, _, #[], #[.pointer (some ⟨bk, 0, none⟩), .pointer (some ⟨bq, 0, none⟩)], rfl, by decide +kernel, cnt (bg bits) bits.length - k.toNat, fun j => ((k.toNat + j : Nat) : Int), fun j => (oneAt bits (k.toNat + j) : Nat), fun x => x = 0 ∨ x = bk ∨ x = bq ∨ (w3.heap.size ≤ x ∧ x < w8.heap.size), ?_⟩
  clear e1 e2 e4 hn0
  generalize ((wD.alloc (.cells #[.int .i64 0] 3)).setCell ⟨wD.heap.size, 0, none⟩ (.int .i64 0)) = wn at *
  have k8n : Kp no w8 wn := k8C.t (kCD.t kDn)
  have k9n : Kp no w9 wn := k9C.t (kCD.t kDn)
  obtain ⟨N, hN⟩ : ∃ N, N = cnt (bg bits) bits.length - k.toNat := ⟨_, rfl⟩
  rw [← hN] at hit ⊢
  -- what stands at any time of the loops
  have look : ∀ {b : Nat} {W : World}, w8.heap.size ≤ b → wD.heap.size ≤ b → Kp (fun k => k = b) wn W → Kp no w W ∧ Blk W wx.heap.size [.int .i64 stop] 3 ∧ Blk W wy.heap.size [.bool false] 4 ∧ Blk W w6.heap.size [.slice q1.a q1.len q1.cap] 37 ∧ Blk W wC.heap.size [.int .i64 (max k 0)] 3 ∧ RdI W q1 (plc (bg bits) bits.length) := fun {b W} hb1 hb2 g =>
    ⟨(k08.t k8n).trans g (fun k h1 h2 => by omega), (c8.kp k8n id).kp g (by omega), (r8.kp k8n id).kp g (by omega), (p8.kp k8n id).kp g (by omega), (g1.kp kDn id).kp g (by omega), (q8.kp k8n (fun _ _ f => f)).kp g (fun k h1 h2 => by have := q6 k h1; omega)⟩
  refine ⟨fun j T W => ((∀ k, T k → wn.heap.size ≤ k) ∧ Kp (fun k => k = wD.heap.size) wn W) ∧ (¬ T wD.heap.size ∧ Blk W wD.heap.size [.int .i64 (j : Int)] 3), fun _ _ _ => False,
    hit.later k9n, fun k hk => by omega, fun j => stab_and stab_kp stab_blk, fun _ => stab_const _, ⟨⟨fun k hk => hk.elim, Kp.refl _ _⟩, fun hk => hk.elim, hn1⟩, ?_, ?_, ?_, trivial⟩
  · rintro j T wE hj hJ hT hT0 hT1 hTb
    refine ⟨Kp.refl _ _, fun wF kF => ?_⟩
    obtain ⟨⟨_, kFn⟩, hTn, hnb⟩ := (stab_and stab_kp stab_blk) T T wE wF hJ ⟨kF.mono (fun k _ e => by subst e; exact hT1), fun _ h => h, fun _ h => .inl h⟩
    obtain ⟨_, _, _, pF, gF, qF⟩ := look (by omega) (Nat.le_refl _) kFn
    have ew : IntKind.i64.wrap ((q1.len : Int) - max k 0) = (N : Int) := by rw [w64 ⟨by omega, by omega⟩]; omega
    have ei : IntKind.i64.wrap (max k 0 + (j : Int)) = ((k.toNat + j : Nat) : Int) := by rw [w64 ⟨by omega, by omega⟩]; omega
    refine ⟨_, gF.cell0 0, q1, pF.cell0 0, br_dec (fun hh => absurd hh (by omega)) (fun _ => ⟨_, hnb.cell0 0, q1, pF.cell0 0, _, gF.cell0 0, ?_⟩)⟩
    rw [ew]
    refine br_dec (fun hh => absurd hh (by omega)) (fun _ => ⟨_, gF.cell0 0, _, hnb.cell0 0, ?_⟩)
    rw [ei]
    obtain ⟨a, ha, hc⟩ := qF.at (i := ((k.toNat + j : Nat) : Int)) (by omega) (by omega)
    refine br_not (br_dec (fun _ => ⟨q1, pF.cell0 0, _, gF.cell0 0, _, hnb.cell0 0, ?_⟩) (fun hh => absurd rfl hh))
    rw [ei]
    refine ⟨by omega, by omega, a, ha, _, hc, br_not (br_dec (fun _ => ?_) (fun hh => absurd rfl hh))⟩
    refine ⟨_, hnb.cell0 0, ?_⟩
    rw [w64 (x := (j : Int) + 1) ⟨by omega, by omega⟩]
    obtain ⟨e1, e2, hn2, e4⟩ := setc (v := .int .i64 ((j : Int) + 1)) hnb
    exact ⟨e1, e2, e4 _ ⟨hTn, by omega⟩, ⟨hT, kFn.trans (e4 (fun k => k = wD.heap.size) rfl) (fun _ _ h => h)⟩, hTn, by rw [Int.natCast_add]; exact hn2⟩
  · rintro T wE ⟨⟨_, kE⟩, hTn, hnb⟩ hT hD1
    -- the second loop
    have sE := kE.size
    have k9E : Kp no w9 wE := k9n.trans kE (fun k h1 h2 => by omega)
    have hm0 := Blk.new wE [.int .i64 0] 3
    obtain ⟨e1, e2, hm1, e4⟩ := setc (v := .int .i64 0) hm0
    have kEm : Kp no wE ((wE.alloc (.cells #[.int .i64 0] 3)).setCell ⟨wE.heap.size, 0, none⟩ (.int .i64 0)) := ((Kp.refl _ _).alloc _ _).trans (e4 (fun k => k = wE.heap.size) rfl) (fun k h1 h2 => by omega)
    have sm : ((wE.alloc (.cells #[.int .i64 0] 3)).setCell ⟨wE.heap.size, 0, none⟩ (.int .i64 0)).heap.size = wE.heap.size + 1 := by simp
    refine ⟨e1, e2, _, #[], #[.pointer (some ⟨bk, 0, none⟩), .pointer (some ⟨bq, 0, none⟩)], rfl, by decide +kernel, N, fun j => ((k.toNat + j : Nat) : Int), fun j => (oneAt bits (k.toNat + j) : Nat), fun x => x = 0 ∨ x = bk ∨ x = bq ∨ (w3.heap.size ≤ x ∧ x < w8.heap.size), ?_⟩
    clear e1 e2 e4 hm0
    generalize (wE.alloc (.cells #[.int .i64 0] 3)).setCell ⟨wE.heap.size, 0, none⟩ (.int .i64 0) = wm at *
    have k9m : Kp no w9 wm := k9E.t kEm
    have hD2 := (kEm.keep _ (heap_lt hD1) (fun f => f)).trans hD1
    have nbm := hnb.kp kEm id
    have hDl := heap_lt hD1
    obtain ⟨xE, cE, rE, pE, gE, qE⟩ := look (by omega) (Nat.le_refl _) kE
    have after : ∀ {W : World}, Kp (fun k => k = wE.heap.size) wm W → Kp no w W ∧ Blk W wx.heap.size [.int .i64 stop] 3 ∧ Blk W wy.heap.size [.bool false] 4 ∧ Blk W w6.heap.size [.slice q1.a q1.len q1.cap] 37 ∧ Blk W wC.heap.size [.int .i64 (max k 0)] 3 ∧ RdI W q1 (plc (bg bits) bits.length) ∧
        Blk W wD.heap.size [.int .i64 (N : Int)] 3 ∧ W.heap[wn.heap.size]? = some (.deferred (some [])) := fun {W} kW =>
      ⟨(xE.t kEm).trans kW (fun k h1 h2 => by omega), (cE.kp kEm id).kp kW (by omega), (rE.kp kEm id).kp kW (by omega), (pE.kp kEm id).kp kW (by omega), (gE.kp kEm id).kp kW (by omega), (qE.kp kEm (fun _ _ f => f)).kp kW (fun k h1 h2 => by have := q6 k h1; omega), nbm.kp kW (by omega), (kW.keep _ (heap_lt hD2) (by omega)).trans hD2⟩
    refine ⟨fun j T W => (((∀ k, T k → wm.heap.size ≤ k) ∧ Kp (fun k => k = wE.heap.size) wm W) ∧ (¬ T wE.heap.size ∧ Blk W wE.heap.size [.int .i64 (j : Int)] 3)),
      fun o T W => (∃ m : Nat, o = some 2 ∧ 1 ≤ m ∧ m ≤ N ∧ stop = m) ∧ (((∀ k, T k → wm.heap.size ≤ k) ∧ Kp (fun k => k = wE.heap.size) wm W) ∧ (¬ T wE.heap.size ∧ Blk W wE.heap.size [.int .i64 stop] 3)),
      (hit.later k9m), fun k hk => by omega, fun j => stab_and stab_kp stab_blk, fun o => stab_and (stab_const _) (stab_and stab_kp stab_blk), ⟨⟨fun k hk => hk.elim, Kp.refl _ _⟩, fun hk => hk.elim, hm1⟩, ?_, ?_, ?_, ?_⟩
    · rintro j T2 wG hj hJ hT2 hT0 hT1 hTb
      refine ⟨Kp.refl _ _, fun wF kF => ?_⟩
      obtain ⟨⟨_, kFm⟩, hTm, hmb⟩ := (stab_and stab_kp stab_blk) T2 T2 wG wF hJ ⟨kF.mono (fun k _ e => by subst e; exact hT1), fun _ h => h, fun _ h => .inl h⟩
      obtain ⟨_, cF, _, pF, gF, qF, nF, _⟩ := after kFm
      have ei : IntKind.i64.wrap (max k 0 + (j : Int)) = ((k.toNat + j : Nat) : Int) := by rw [w64 ⟨by omega, by omega⟩]; omega
      refine ⟨_, hmb.cell0 0, _, nF.cell0 0, br_dec (fun hh => absurd hh (by omega)) (fun _ => ⟨_, gF.cell0 0, _, hmb.cell0 0, ?_⟩)⟩
      rw [ei]
      obtain ⟨a, ha, hc⟩ := qF.at (i := ((k.toNat + j : Nat) : Int)) (by omega) (by omega)
      refine br_not (br_dec (fun _ => ⟨q1, pF.cell0 0, _, gF.cell0 0, _, hmb.cell0 0, ?_⟩) (fun hh => absurd rfl hh))
      rw [ei]
      refine ⟨by omega, by omega, a, ha, _, hc, br_not (br_dec (fun _ => ?_) (fun hh => absurd rfl hh))⟩
      refine ⟨_, hmb.cell0 0, ?_⟩
      rw [w64 (x := (j : Int) + 1) ⟨by omega, by omega⟩]
      obtain ⟨e1, e2, hm2, e4⟩ := setc (v := .int .i64 ((j : Int) + 1)) hmb
      have cG := cF.kp (e4 (fun k => k = wE.heap.size) rfl) (by omega)
      have kfin := kFm.trans (e4 (fun k => k = wE.heap.size) rfl) (fun _ _ h => h)
      refine ⟨e1, e2, _, hm2.cell0 0, _, cG.cell0 0, br_dec (fun hh => ?_) (fun hh => ?_)⟩
      · exact ⟨e4 _ ⟨hTm, by omega⟩, ⟨j + 1, rfl, by omega, by omega, by omega⟩, ⟨hT2, kfin⟩, hTm, by rw [← hh]; exact hm2⟩
      · exact ⟨e4 _ ⟨hTm, by omega⟩, ⟨hT2, kfin⟩, hTm, by rw [Int.natCast_add]; exact hm2⟩
    · rintro T2 wG ⟨⟨_, kG⟩, hTm, hmb⟩ hT2 hD3
      obtain ⟨xG, cG, rG, pG, gG, qG, nG, hDG⟩ := after kG
      have nd : [wm.heap.size, wn.heap.size].Nodup := by simp; omega
      have hds : ∀ {W : World}, Kp no wG W → ∀ D, D ∈ [wm.heap.size, wn.heap.size] → w.heap.size ≤ D ∧ W.heap[D]? = some (.deferred (some [])) := fun kW D hD => by
        rcases List.mem_cons.1 hD with rfl | hD
        · exact ⟨by omega, (kW.keep _ (heap_lt hD3) (fun f => f)).trans hD3⟩
        · rw [List.mem_singleton.1 hD]
          exact ⟨by omega, (kW.keep _ (heap_lt hDG) (fun f => f)).trans hDG⟩
      refine ⟨_, gG.cell0 0, q1, pG.cell0 0, br_dec (fun g2 => ?_) (fun g2 => ?_)⟩
      · refine ⟨q1, pG.cell0 0, _, gG.cell0 0, _, nG.cell0 0, ?_⟩
        rw [show IntKind.i64.wrap ((q1.len : Int) - max k 0) = (N : Int) by rw [w64 ⟨by omega, by omega⟩]; omega]
        exact br_dec (fun _ => ⟨_, hmb.cell0 0, _, nG.cell0 0, br_dec (fun _ => usek (live5 _) fun w9 k9 => ⟨true, rfl, fin (xG.t k9) (rG.kp k9 id) nd (hds k9)⟩) (fun hh => absurd rfl hh)⟩) (fun hh => absurd rfl hh)
      · exact ⟨_, nG.cell0 0, br_dec (fun _ => ⟨_, hmb.cell0 0, _, nG.cell0 0, br_dec (fun _ => usek (live5 _) fun w9 k9 => ⟨true, rfl, fin (xG.t k9) (rG.kp k9 id) nd (hds k9)⟩) (fun hh => absurd rfl hh)⟩) (fun hh => absurd (by omega) hh)⟩
    · rintro T2 wG ⟨⟨m, hh, _⟩, _⟩
      cases hh
    · rintro T2 wG ⟨⟨m, _, g0, g1, rfl⟩, ⟨_, kG⟩, hTm, hmb⟩ hT2 hD3
      obtain ⟨xG, cG, rG, pG, gG, qG, nG, hDG⟩ := after kG
      have nd : [wm.heap.size, wn.heap.size].Nodup := by simp; omega
      have hds : ∀ {W : World}, Kp no wG W → ∀ D, D ∈ [wm.heap.size, wn.heap.size] → w.heap.size ≤ D ∧ W.heap[D]? = some (.deferred (some [])) := fun kW D hD => by
        rcases List.mem_cons.1 hD with rfl | hD
        · exact ⟨by omega, (kW.keep _ (heap_lt hD3) (fun f => f)).trans hD3⟩
        · rw [List.mem_singleton.1 hD]
          exact ⟨by omega, (kW.keep _ (heap_lt hDG) (fun f => f)).trans hDG⟩
      have eend := fun {W : World} (kW : Kp no wG W) => fin (xG.t kW) (rG.kp kW id) nd (hds kW)
      refine ⟨_, gG.cell0 0, q1, pG.cell0 0, br_dec (fun g2 => ?_) (fun g2 => absurd (by omega) g2)⟩
      refine ⟨q1, pG.cell0 0, _, gG.cell0 0, _, nG.cell0 0, ?_⟩
      rw [show IntKind.i64.wrap ((q1.len : Int) - max k 0) = (N : Int) by rw [w64 ⟨by omega, by omega⟩]; omega]
      exact br_dec (fun _ => ⟨_, hmb.cell0 0, _, nG.cell0 0, br_dec (fun _ => usek (live5 _) fun w9 k9 => ⟨true, rfl, fin (xG.t k9) (rG.kp k9 id) nd (hds k9)⟩) (fun hh => ⟨_, hmb.cell0 0, _, cG.cell0 0, br_dec (fun _ => usek (live5 _) fun w9 k9 => ⟨true, rfl, fin (xG.t k9) (rG.kp k9 id) nd (hds k9)⟩) (fun hh => absurd rfl hh)⟩)⟩) (fun hh => absurd rfl hh)
  · rintro T wE hh
    exact hh.elim
end Go.Proofs.YtomajpihimlcjaaDoor.V
