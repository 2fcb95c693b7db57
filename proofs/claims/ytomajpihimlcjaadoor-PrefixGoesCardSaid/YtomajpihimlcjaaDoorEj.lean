/- Sequences as Elias and Fano told: gone over; the law on that (doors only). -/
import Derived.Test.YtomajpihimlcjaaDoorSj
import Derived.Test.YtomajpihimlcjaaDoorEo
import Derived.Test.YtomajpihimlcjaaDoorBE
namespace Go.Proofs.YtomajpihimlcjaaDoor.V
open Go Go.VC
variable {w w' w0 wC : World} {l : Slc} {bits : List Bool} {ls : List Nat} {zs : List Int} {s B p q : Nat}

theorem brSome {a : Addr} {x y : Prop} (k : y) : br (some a).isNone x y := k
theorem eAll (w : World) (s : Nat) : Calls Tryd.prog 30 #[.pointer (some ⟨s, 0, none⟩)] w (Rv fun v w' => ∃ q, v = .func (.func 101) #[] #[.pointer (some ⟨q, 0, none⟩)] ∧ Blk w' q [.pointer (some ⟨s, 0, none⟩)] 48 ∧ Kp no w w' ∧ w.heap.size ≤ q) := by
  refine c30 _ _ _ ?_
  unfold B30
  exact ⟨_, rfl, Blk.new _ _ _, (Kp.refl _ _).alloc _ _, Nat.le_refl _⟩

theorem eIter (h0 : SeqB wC s ls B) (kC : Kp no wC w) (hsz : ls.length ≤ 100000000) (bd : Blk w q [.pointer (some ⟨s, 0, none⟩)] 48) (ht : Tab w) :
    Iter Tryd.prog 101 [] [.pointer (some ⟨q, 0, none⟩)] w ls.length (fun j => [.int .i64 (j : Int), .int .i64 (wg ls j : Nat)]) (fun x => x = 0 ∨ x = q ∨ (B ≤ x ∧ x < wC.heap.size)) := by
  intro lp J X w1 k1 hJ hX hr hz
  have hpos := ht.pos
  have sz1 := k1.size
  have szC := kC.size
  have hql0 := bd.lt
  obtain ⟨lo, hi, rk, pl, hb, hp, _, _, hs, hg, hB⟩ := h0
  have hW := eW_le hg
  have hlen := hiB_len hg
  have hu := upl_mono hg (eW ls)
  refine c101 (.func (.yield lp) #[] #[]) ⟨q, 0, none⟩ _ _ ?_
  unfold B101
  -- the block of its own
  have ecs : (⟨cellsL (Value.func (.yield lp) #[] #[])⟩ : Array Value) = #[.func (.yield lp) #[] #[]] := rfl
  rw [ecs]
  have y0 := Blk.new w1 [.func (.yield lp) #[] #[]] 100
  have kA : Kp no w1 (w1.alloc (.cells #[.func (.yield lp) #[] #[]] 100)) := (Kp.refl _ _).alloc _ _
  have sA : (w1.alloc (.cells #[.func (.yield lp) #[] #[]] 100)).heap.size = w1.heap.size + 1 := World.size_alloc _ _
  generalize (w1.alloc (.cells #[.func (.yield lp) #[] #[]] 100)) = wa at *
  have bda := bd.kp (k1.t kA) id
  have hba := hb.kp (kC.t (k1.t kA)) id
  refine ⟨_, bda.cell0 0, brSome ⟨_, bda.cell0 0, _, hba.cell 6, use (sFrom wa pl 0) ?_⟩⟩
  rintro _ W2 ⟨bk, bq, rfl, hbk, hbq, k2, fbk, fbq⟩
  have hbkl := hbk.lt
  have hbql := hbq.lt
  have kC2 := (kC.t (k1.t kA)).t k2
  have s2 := k2.size
  have hit := selIter hs kC2 (by omega) (by omega) hbk hbq (ht.kpo ((k1.t kA).t k2))
  have hno : cnt (bg (hiB ls)) (hiB ls).length - (0 : Int).toNat = ls.length := by
    have := hb_ones hu
    show cnt (bg (hiB ls)) (hiB ls).length - 0 = ls.length
    exact this
  have hf : (fun j => [Value.int .i64 (((0 : Int).toNat + j : Nat) : Int), .int .i64 (oneAt (hiB ls) ((0 : Int).toNat + j) : Nat)]) = fun j : Nat => [Value.int .i64 (j : Int), .int .i64 (oneAt (hiB ls) j : Nat)] := by
    funext j; simp
  rw [hno, hf] at hit
  obtain ⟨A, hA⟩ : ∃ A : Nat → Prop, A = fun k => k = w1.heap.size ∨ k = bk ∨ k = bq := ⟨_, rfl⟩
  have Alo : ∀ k, A k → w1.heap.size ≤ k ∧ k < W2.heap.size := fun k h => by rw [hA] at h; rcases h with rfl | rfl | rfl <;> omega
  have Ay : A w1.heap.size := by rw [hA]; exact .inl rfl
  obtain ⟨S2, hS2⟩ : ∃ S2 : Nat → Prop, S2 = fun k => ¬ A k ∧ ¬ (k = 0 ∨ k = q ∨ (B ≤ k ∧ k < wC.heap.size)) := ⟨_, rfl⟩
  have j0 : J 0 (fun k => A k ∨ False) W2 := (hJ 0) _ _ _ _ hz ⟨(kA.t k2).mono (fun _ _ f => f.elim), fun k h => h.elim, fun k h => h.elim (fun h => .inr (Alo k h).1) (fun h => h.elim)⟩
  have y2 := y0.kp k2 id
  -- what holds at any time
  have after : ∀ {W' : World}, Kp S2 W2 W' → Blk W' w1.heap.size [.func (.yield lp) #[] #[]] 100 ∧ Blk W' q [.pointer (some ⟨s, 0, none⟩)] 48 ∧
      Blk W' s [.int .i64 (ls.length : Int), .int .i64 (lastZ ls), .int .i64 (eW ls : Int), .pointer (some ⟨lo, 0, none⟩), .pointer (some ⟨hi, 0, none⟩), .pointer (some ⟨rk, 0, none⟩), .pointer (some ⟨pl, 0, none⟩)] 121 ∧ PackB W' lo (eW ls) (ls.map (· % 2 ^ eW ls)) B := fun {W'} kk => by
    have kCW : Kp (fun k => k < B) wC W' := ((kC2.mono (S' := S2) (fun _ _ f => f.elim)).trans kk (fun _ _ h => h)).mono (fun k h1 h2 => by rw [hS2] at h2; exact Nat.lt_of_not_le fun h => h2.2 (.inr (.inr ⟨h, h1⟩)))
    refine ⟨y2.kp kk (fun h => by rw [hS2] at h; exact h.1 Ay), (bda.kp k2 id).kp kk (fun h => by rw [hS2] at h; exact h.2 (.inr (.inl rfl))), hb.kp kCW (by omega), hp.kp kCW (fun k h1 h2 => by omega)⟩
  refine ⟨_, rfl, _, #[], #[.pointer (some ⟨bk, 0, none⟩), .pointer (some ⟨bq, 0, none⟩)], rfl, by decide +kernel, ls.length, fun j => (j : Int), fun j => (oneAt (hiB ls) j : Nat), fun x => x = 0 ∨ x = bk ∨ x = bq ∨ (B ≤ x ∧ x < wC.heap.size),
    fun m T' W' => J m (fun k => A k ∨ T' k) W' ∧ ((∀ k, T' k → W2.heap.size ≤ k) ∧ Kp S2 W2 W'),
    fun o T' W' => X (fun k => A k ∨ T' k) W' ∧ ((∀ k, T' k → W2.heap.size ≤ k) ∧ Kp S2 W2 W'),
    hit, fun k hk => by omega, fun m => stab_and (stab_or A (hJ _)) stab_kp, fun o => stab_and (stab_or A hX) stab_kp,
    ⟨j0, ⟨fun _ f => f.elim, Kp.refl _ _⟩⟩, ?_, ?_, ?_, trivial⟩
  · -- a round
    rintro m T' w34 hm hJ30 hT' hTH hTH1 hTb
    refine ⟨Kp.refl _ _, fun w35 k35 => ?_⟩
    obtain ⟨hj35, ⟨_, k235⟩⟩ := (stab_and (stab_or A (hJ _)) stab_kp) T' T' w34 w35 hJ30 ⟨k35.mono (fun k _ e => by subst e; exact hTH1), fun _ h => h, fun _ h => .inl h⟩
    have s35 := k35.size
    have s235 := k235.size
    have kd : Kp no w35 w35.drew := (Kp.refl _ _).drew
    have k2d := k235.trans kd (fun _ _ f => f.elim)
    obtain ⟨y35, q35, s35', p35⟩ := after k2d
    have hu1 := upl_lt hg hm
    have hv := wg_le hg m
    have hcp : IntKind.u64.wrap (eW ls : Int) = ((eW ls : Nat) : Int) := wu64 ⟨by omega, by omega⟩
    have hone : oneAt (hiB ls) m = upl ls (eW ls) m + m := by
      have h1 : oneAt (hiB ls) (cnt (bg (hiB ls)) (upl ls (eW ls) m + m)) = upl ls (eW ls) m + m := oneAt_eq (hb_lt hu hm) (hb_one hu hm)
      have h2 : cnt (bg (hiB ls)) (upl ls (eW ls) m + m) = m := hb_cntAt hu hm (by have := prv_le hu hm; omega) (by omega)
      rwa [h2] at h1
    dsimp only
    rw [hone]
    refine ⟨_, y35.cell0 0, _, q35.cell0 0, _, s35'.cell 2, by rw [hcp]; omega, _, q35.cell0 0, _, s35'.cell 3, usek (pAt p35 (by rw [List.length_map]; omega) _) fun w30 k30 => ?_⟩
    have hat : atU (ls.map (· % 2 ^ eW ls)) (m : Int) = wg ls m % 2 ^ eW ls := by
      unfold atU; rw [if_pos (by rw [List.length_map]; omega), Int.toNat_natCast, wg_map hm]
    rw [hat]
    have kd30 := kd.t k30
    have k230 := k235.trans kd30 (fun _ _ f => f.elim)
    obtain ⟨y30, q30, s30, p30⟩ := after k230
    have hj30 := (stab_or A (hJ _)) T' T' w35 w30 hj35 ⟨kd30.mono (fun _ _ f => f.elim), fun _ h => h, fun _ h => .inl h⟩
    have hlt : wg ls m % 2 ^ eW ls ≤ wg ls m := Nat.mod_le _ _
    have hmul : upl ls (eW ls) m * 2 ^ eW ls ≤ wg ls m := Nat.div_mul_le_self _ _
    have ev : bOr .i64 (shL .i64 (IntKind.i64.wrap (((upl ls (eW ls) m + m : Nat) : Int) - (m : Int))) (IntKind.u64.wrap (eW ls : Int))) (IntKind.i64.wrap ((wg ls m % 2 ^ eW ls : Nat) : Int)) = ((wg ls m : Nat) : Int) := by
      rw [hcp, w64 (x := (((upl ls (eW ls) m + m : Nat) : Int) - (m : Int))) ⟨by omega, by omega⟩]
      have e1 : (((upl ls (eW ls) m + m : Nat) : Int) - (m : Int)) = ((upl ls (eW ls) m : Nat) : Int) := by omega
      rw [e1, shl_i64 hW (by omega), w64 (x := ((wg ls m % 2 ^ eW ls : Nat) : Int)) ⟨by omega, by omega⟩, or_i64 (by omega) (by omega)]
      have := parts_or (wg ls m) (eW ls)
      rw [Nat.shiftLeft_eq] at this
      exact congrArg (fun n : Nat => (n : Int)) this
    refine ⟨_, rfl, s30.cell 2, q30.cell0 0, y30.cell0 0, ?_⟩
    rw [ev]
    have s30' := kd30.size
    refine yuse (hr m _ w30 hm hj30 (fun k hk => ?_) (fun k hk => ?_)) ?_
    · rcases hk with hk | hk
      · exact (Alo k hk).1
      · have := hT' k hk; omega
    · rcases hk with hk | hk
      · have := Alo k hk; omega
      · have := hTb k hk; omega
    rintro v w42 ⟨k42, hv2⟩
    have k42' : Kp (fun k => ¬ T' k ∧ ¬ (k = 0 ∨ k = bk ∨ k = bq ∨ (B ≤ k ∧ k < wC.heap.size))) w35 w42 := (kd30.mono (S' := fun k => ¬ T' k ∧ ¬ (k = 0 ∨ k = bk ∨ k = bq ∨ (B ≤ k ∧ k < wC.heap.size))) (fun _ _ f => f.elim)).trans k42 (fun k _ h => ⟨fun g => h.1 (.inr g), fun g => by
      rcases g with g | g | g | g
      · exact h.2 (.inl g)
      · exact h.1 (.inl (by rw [hA]; exact .inr (.inl g)))
      · exact h.1 (.inl (by rw [hA]; exact .inr (.inr g)))
      · exact h.2 (.inr (.inr g))⟩)
    have k242 : Kp S2 W2 w42 := k230.trans k42 (fun k _ h => by rw [hS2]; exact ⟨fun g => h.1 (.inl g), h.2⟩)
    rcases hv2 with ⟨rfl, hj42⟩ | ⟨rfl, hx42⟩
    · exact ⟨true, rfl, brF ⟨k42', hj42, hT', k242⟩⟩
    · exact ⟨false, rfl, brT ⟨k42', hx42, hT', k242⟩⟩
  · rintro T' w46 ⟨hj46, hTl, k46⟩ ⟨hT', hTH⟩ hDef
    have s46 := k46.size
    refine ⟨List.nodup_cons.2 ⟨by simp, List.nodup_nil⟩, fun D hD => by rw [List.mem_singleton.1 hD]; exact hDef, fun w52 k52 => ⟨fun k => A k ∨ T' k, fun k hk => ?_, .inl ?_⟩⟩
    · have s52 := k52.size
      rcases hk with hk | hk
      · have := Alo k hk; omega
      · have := hT' k hk; omega
    · exact (hJ _) _ _ _ _ hj46 ⟨k52.mono (fun k _ h => by rw [List.mem_singleton.1 h]; exact .inr hTH), fun _ h => h, fun _ h => .inl h⟩
  · rintro T' w46 ⟨hj46, hTl, k46⟩ ⟨hT', hTH⟩ hDef
    have s46 := k46.size
    refine ⟨List.nodup_cons.2 ⟨by simp, List.nodup_nil⟩, fun D hD => by rw [List.mem_singleton.1 hD]; exact hDef, fun w52 k52 => ⟨fun k => A k ∨ T' k, fun k hk => ?_, .inr ?_⟩⟩
    · have s52 := k52.size
      rcases hk with hk | hk
      · have := Alo k hk; omega
      · have := hT' k hk; omega
    · exact hX _ _ _ _ hj46 ⟨k52.mono (fun k _ h => by rw [List.mem_singleton.1 h]; exact .inr hTH), fun _ h => h, fun _ h => .inl h⟩

theorem seqGoes (ht : Tab w) (h : RdZ w l zs) (stop : Int) : IsK 5 #[.slice l.a l.len l.cap, .int .i64 stop] w (.bool true) := by
  refine c5 _ _ _ _ ?_
  unfold B5
  have hpos := ht.pos
  have hl := h.len
  -- the boxes
  have a1 := Blk.new w [.slice l.a l.len l.cap] 37
  have z1 : (w.alloc (.cells #[.slice l.a l.len l.cap] 37)).heap.size = w.heap.size + 1 := World.size_alloc _ _
  have kx : Kp no w (w.alloc (.cells #[.slice l.a l.len l.cap] 37)) := (Kp.refl _ _).alloc _ _
  generalize (w.alloc (.cells #[.slice l.a l.len l.cap] 37)) = wx at *
  have a2 := Blk.new wx [.int .i64 stop] 3
  have z2 : (wx.alloc (.cells #[.int .i64 stop] 3)).heap.size = wx.heap.size + 1 := World.size_alloc _ _
  have ky : Kp no wx (wx.alloc (.cells #[.int .i64 stop] 3)) := (Kp.refl _ _).alloc _ _
  generalize (wx.alloc (.cells #[.int .i64 stop] 3)) = wy at *
  have a3 := Blk.new wy [.bool false] 4
  have z3 : (wy.alloc (.cells #[.bool false] 4)).heap.size = wy.heap.size + 1 := World.size_alloc _ _
  have kz : Kp no wy (wy.alloc (.cells #[.bool false] 4)) := (Kp.refl _ _).alloc _ _
  generalize (wy.alloc (.cells #[.bool false] 4)) = w1 at *
  have b1 := (a1.kp ky id).kp kz id
  have b2 := a2.kp kz id
  have k0 := kx.t (ky.t kz)
  clear a1 a2 kx ky kz
  have fin : ∀ {W : World} {DS : List Nat} {y : Value} , Kp no w W → Blk W wy.heap.size [y] 4 → DS.Nodup → (∀ D, D ∈ DS → w.heap.size ≤ D ∧ W.heap[D]? = some (.deferred (some []))) → _ := fun {W DS y} kW hb hn hd =>
    retc (b := true) (R := fun u w' => u = Value.bool true ∧ Kp no w w') hb hn (fun D hD => (hd D hD).2) (fun w' k' => ⟨rfl, kW.trans k' (fun k h1 h2 => by
      rcases h2 with rfl | h2
      · omega
      · have := (hd k h2).1; omega)⟩)
  refine ⟨l, b1.cell0 0, br_dec (fun _ => usek (live7 _) fun w3 k3 => ⟨_, rfl, fin (k0.t k3) (a3.kp k3 id) List.nodup_nil (fun D hD => by cases hD)⟩) (fun h80 => ⟨l, b1.cell0 0, use (rWrong7 (h.kpo k0) (by omega)) ?_⟩)⟩
  rintro _ w2 ⟨k2, e, rfl, he⟩
  refine ⟨_, rfl, br_not (br_dec (fun he0 => ?_) (fun he0 => usek (live7 _) fun w3 k3 => ⟨_, rfl, fin (k0.t (k2.t k3)) (a3.kp (k2.t k3) id) List.nodup_nil (fun D hD => by cases hD)⟩))⟩
  subst he0
  refine ⟨l, (b1.kp k2 id).cell0 0, use (eNew0 (h.kpo (k0.t k2)) (by omega) he) ?_⟩
  rintro _ w8 ⟨k28, s, ls, rfl, rfl, hs⟩
  rw [zl_len] at hl
  have k18 := k2.t k28
  have k08 := k0.t k18
  have s02 := k0.size
  have s12 := k2.size
  have s28 := k28.size
  refine ⟨_, _, rfl, use (eAll w8 s) ?_⟩
  rintro _ w9 ⟨bq, rfl, hbq, k89, fbq⟩
  refine ⟨_, rfl, .inr ⟨_, _, _, rfl⟩, ?_⟩
  have hn0 := Blk.new w9 [.int .i64 0] 3
  obtain ⟨e1, e2, hn1, e4⟩ := setc (v := .int .i64 0) hn0
  have k9n : Kp no w9 ((w9.alloc (.cells #[.int .i64 0] 3)).setCell ⟨w9.heap.size, 0, none⟩ (.int .i64 0)) := ((Kp.refl _ _).alloc _ _).trans (e4 (fun k => k = w9.heap.size) rfl) (fun k h1 h2 => by omega)
  have sn : ((w9.alloc (.cells #[.int .i64 0] 3)).setCell ⟨w9.heap.size, 0, none⟩ (.int .i64 0)).heap.size = w9.heap.size + 1 := by simp
  have hbql := hbq.lt
  have s9 := k89.size
  have hit := eIter hs k89 (by omega) hbq (ht.kpo (k08.t k89))
  refine ⟨e1, e2, _, #[], #[.pointer (some ⟨bq, 0, none⟩)], rfl, by decide +kernel, ls.length, fun j => (j : Int), fun j => (wg ls j : Nat), fun x => x = 0 ∨ x = bq ∨ (w2.heap.size ≤ x ∧ x < w8.heap.size), ?_⟩
  clear e1 e2 e4 hn0
  generalize ((w9.alloc (.cells #[.int .i64 0] 3)).setCell ⟨w9.heap.size, 0, none⟩ (.int .i64 0)) = wn at *
  have k1n : Kp no w1 wn := k18.t (k89.t k9n)
  -- what stands at any time of the loops
  have look : ∀ {b : Nat} {W : World}, w9.heap.size ≤ b → Kp (fun k => k = b) wn W → Kp no w W ∧ Blk W wx.heap.size [.int .i64 stop] 3 ∧ Blk W wy.heap.size [.bool false] 4 ∧ Blk W w.heap.size [.slice l.a l.len l.cap] 37 := fun {b W} hb1 g =>
    ⟨(k0.t k1n).trans g (fun k h1 h2 => by omega), (b2.kp k1n id).kp g (by omega), (a3.kp k1n id).kp g (by omega), (b1.kp k1n id).kp g (by omega)⟩
  refine ⟨fun j T W => ((∀ k, T k → wn.heap.size ≤ k) ∧ Kp (fun k => k = w9.heap.size) wn W) ∧ (¬ T w9.heap.size ∧ Blk W w9.heap.size [.int .i64 (j : Int)] 3), fun _ _ _ => False,
    hit.later k9n, fun k hk => by omega, fun j => stab_and stab_kp stab_blk, fun _ => stab_const _, ⟨⟨fun k hk => hk.elim, Kp.refl _ _⟩, fun hk => hk.elim, hn1⟩, ?_, ?_, ?_, trivial⟩
  · rintro j T wE hj hJ hT hT0 hT1 hTb
    refine ⟨Kp.refl _ _, fun wF kF => ?_⟩
    obtain ⟨⟨_, kFn⟩, hTn, hnb⟩ := (stab_and stab_kp stab_blk) T T wE wF hJ ⟨kF.mono (fun k _ e => by subst e; exact hT1), fun _ h => h, fun _ h => .inl h⟩
    obtain ⟨xF, _, _, pF⟩ := look (Nat.le_refl _) kFn
    refine ⟨_, hnb.cell0 0, br_not (br_y rfl ⟨l, pF.cell0 0, usei (rAt7 (h.kpo xF) j) ⟨_, rfl, ?_⟩⟩)⟩
    rw [atZ_in hj]
    refine br_not (br_y rfl ⟨_, hnb.cell0 0, ?_⟩)
    rw [w64 (x := (j : Int) + 1) ⟨by omega, by omega⟩]
    obtain ⟨e1, e2, hn2, e4⟩ := setc (v := .int .i64 ((j : Int) + 1)) hnb
    exact ⟨e1, e2, e4 _ ⟨hTn, by omega⟩, ⟨hT, kFn.trans (e4 (fun k => k = w9.heap.size) rfl) (fun _ _ h => h)⟩, hTn, by rw [Int.natCast_add]; exact hn2⟩
  · rintro T wE ⟨⟨_, kE⟩, hTn, hnb⟩ hT hD1
    -- the second loop
    have sE := kE.size
    have k9E : Kp no w9 wE := k9n.trans kE (fun k h1 h2 => by omega)
    have hm0 := Blk.new wE [.int .i64 0] 3
    obtain ⟨e1, e2, hm1, e4⟩ := setc (v := .int .i64 0) hm0
    have kEm : Kp no wE ((wE.alloc (.cells #[.int .i64 0] 3)).setCell ⟨wE.heap.size, 0, none⟩ (.int .i64 0)) := ((Kp.refl _ _).alloc _ _).trans (e4 (fun k => k = wE.heap.size) rfl) (fun k h1 h2 => by omega)
    have sm : ((wE.alloc (.cells #[.int .i64 0] 3)).setCell ⟨wE.heap.size, 0, none⟩ (.int .i64 0)).heap.size = wE.heap.size + 1 := by simp
    refine ⟨e1, e2, _, #[], #[.pointer (some ⟨bq, 0, none⟩)], rfl, by decide +kernel, ls.length, fun j => (j : Int), fun j => (wg ls j : Nat), fun x => x = 0 ∨ x = bq ∨ (w2.heap.size ≤ x ∧ x < w8.heap.size), ?_⟩
    clear e1 e2 e4 hm0
    generalize (wE.alloc (.cells #[.int .i64 0] 3)).setCell ⟨wE.heap.size, 0, none⟩ (.int .i64 0) = wm at *
    have k9m : Kp no w9 wm := k9E.t kEm
    have hD2 := (kEm.keep _ (heap_lt hD1) (fun f => f)).trans hD1
    have nbm := hnb.kp kEm id
    have hDl := heap_lt hD1
    obtain ⟨xE, cE, rE, pE⟩ := look (Nat.le_refl _) kE
    have after : ∀ {W : World}, Kp (fun k => k = wE.heap.size) wm W → Kp no w W ∧ Blk W wx.heap.size [.int .i64 stop] 3 ∧ Blk W wy.heap.size [.bool false] 4 ∧ Blk W w.heap.size [.slice l.a l.len l.cap] 37 ∧
        Blk W w9.heap.size [.int .i64 (ls.length : Int)] 3 ∧ W.heap[wn.heap.size]? = some (.deferred (some [])) := fun {W} kW =>
      ⟨(xE.t kEm).trans kW (fun k h1 h2 => by omega), (cE.kp kEm id).kp kW (by omega), (rE.kp kEm id).kp kW (by omega), (pE.kp kEm id).kp kW (by omega), nbm.kp kW (by omega), (kW.keep _ (heap_lt hD2) (by omega)).trans hD2⟩
    refine ⟨fun j T W => (((∀ k, T k → wm.heap.size ≤ k) ∧ Kp (fun k => k = wE.heap.size) wm W) ∧ (¬ T wE.heap.size ∧ Blk W wE.heap.size [.int .i64 (j : Int)] 3)),
      fun o T W => (∃ m : Nat, o = some 2 ∧ 1 ≤ m ∧ m ≤ ls.length ∧ stop = m) ∧ (((∀ k, T k → wm.heap.size ≤ k) ∧ Kp (fun k => k = wE.heap.size) wm W) ∧ (¬ T wE.heap.size ∧ Blk W wE.heap.size [.int .i64 stop] 3)),
      (hit.later k9m), fun k hk => by omega, fun j => stab_and stab_kp stab_blk, fun o => stab_and (stab_const _) (stab_and stab_kp stab_blk), ⟨⟨fun k hk => hk.elim, Kp.refl _ _⟩, fun hk => hk.elim, hm1⟩, ?_, ?_, ?_, ?_⟩
    · rintro j T2 wG hj hJ hT2 hT0 hT1 hTb
      refine ⟨Kp.refl _ _, fun wF kF => ?_⟩
      obtain ⟨⟨_, kFm⟩, hTm, hmb⟩ := (stab_and stab_kp stab_blk) T2 T2 wG wF hJ ⟨kF.mono (fun k _ e => by subst e; exact hT1), fun _ h => h, fun _ h => .inl h⟩
      obtain ⟨xF, cF, _, pF, nF, _⟩ := after kFm
      refine ⟨_, hmb.cell0 0, br_not (br_y rfl ⟨l, pF.cell0 0, usei (rAt7 (h.kpo xF) j) ⟨_, rfl, ?_⟩⟩)⟩
      rw [atZ_in hj]
      refine br_not (br_y rfl ⟨_, hmb.cell0 0, ?_⟩)
      rw [w64 (x := (j : Int) + 1) ⟨by omega, by omega⟩]
      obtain ⟨e1, e2, hm2, e4⟩ := setc (v := .int .i64 ((j : Int) + 1)) hmb
      have cG := cF.kp (e4 (fun k => k = wE.heap.size) rfl) (by omega)
      have kfin := kFm.trans (e4 (fun k => k = wE.heap.size) rfl) (fun _ _ h => h)
      refine ⟨e1, e2, _, hm2.cell0 0, _, cG.cell0 0, br_dec (fun hh => ?_) (fun hh => ?_)⟩
      · exact ⟨e4 _ ⟨hTm, by omega⟩, ⟨j + 1, rfl, by omega, by omega, by omega⟩, ⟨hT2, kfin⟩, hTm, by rw [← hh]; exact hm2⟩
      · exact ⟨e4 _ ⟨hTm, by omega⟩, ⟨hT2, kfin⟩, hTm, by rw [Int.natCast_add]; exact hm2⟩
    · rintro T2 wG ⟨⟨_, kG⟩, hTm, hmb⟩ hT2 hD3
      obtain ⟨xG, cG, rG, pG, nG, hDG⟩ := after kG
      have nd : [wm.heap.size, wn.heap.size].Nodup := by simp; omega
      have hds : ∀ {W : World}, Kp no wG W → ∀ D, D ∈ [wm.heap.size, wn.heap.size] → w.heap.size ≤ D ∧ W.heap[D]? = some (.deferred (some [])) := fun kW D hD => by
        rcases List.mem_cons.1 hD with rfl | hD
        · exact ⟨by omega, (kW.keep _ (heap_lt hD3) (fun f => f)).trans hD3⟩
        · rw [List.mem_singleton.1 hD]
          exact ⟨by omega, (kW.keep _ (heap_lt hDG) (fun f => f)).trans hDG⟩
      exact ⟨_, nG.cell0 0, l, pG.cell0 0, br_y (by omega) ⟨_, hmb.cell0 0, _, nG.cell0 0, br_y rfl (usek (live7 _) fun w9 k9 => ⟨true, rfl, fin (xG.t k9) (rG.kp k9 id) nd (hds k9)⟩)⟩⟩
    · rintro T2 wG ⟨⟨m, hh, _⟩, _⟩
      cases hh
    · rintro T2 wG ⟨⟨m, _, g0, g1, rfl⟩, ⟨_, kG⟩, hTm, hmb⟩ hT2 hD3
      obtain ⟨xG, cG, rG, pG, nG, hDG⟩ := after kG
      have nd : [wm.heap.size, wn.heap.size].Nodup := by simp; omega
      have hds : ∀ {W : World}, Kp no wG W → ∀ D, D ∈ [wm.heap.size, wn.heap.size] → w.heap.size ≤ D ∧ W.heap[D]? = some (.deferred (some [])) := fun kW D hD => by
        rcases List.mem_cons.1 hD with rfl | hD
        · exact ⟨by omega, (kW.keep _ (heap_lt hD3) (fun f => f)).trans hD3⟩
        · rw [List.mem_singleton.1 hD]
          exact ⟨by omega, (kW.keep _ (heap_lt hDG) (fun f => f)).trans hDG⟩
      exact ⟨_, nG.cell0 0, l, pG.cell0 0, br_y (by omega) ⟨_, hmb.cell0 0, _, nG.cell0 0, br_dec (fun _ => usek (live7 _) fun w9 k9 => ⟨true, rfl, fin (xG.t k9) (rG.kp k9 id) nd (hds k9)⟩) (fun hh => ⟨_, hmb.cell0 0, _, cG.cell0 0, br_y rfl (usek (live7 _) fun w9 k9 => ⟨true, rfl, fin (xG.t k9) (rG.kp k9 id) nd (hds k9)⟩)⟩)⟩⟩
  · rintro T wE hh
    exact hh.elim
end Go.Proofs.YtomajpihimlcjaaDoor.V
