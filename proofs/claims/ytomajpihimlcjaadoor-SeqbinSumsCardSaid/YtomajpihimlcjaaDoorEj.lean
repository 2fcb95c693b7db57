/- Sequences as Elias and Fano told: gone over; the law on that (doors only). -/
import Derived.Test.YtomajpihimlcjaaDoorSj
import Derived.Test.YtomajpihimlcjaaDoorEo
import Derived.Test.YtomajpihimlcjaaDoorBE
namespace Go.Proofs.YtomajpihimlcjaaDoor.V
open Go Go.VC
variable {w w' w0 wC : World} {l : Slc} {bits : List Bool} {ls : List Nat} {zs : List Int} {s B p q : Nat}

theorem brSome {a : Addr} {x y : Prop} (k : y) : br (some a).isNone x y := k
theorem eAll (w : World) (s : Nat) : Calls Tryd.prog 30 #[.pointer (some ⟨s, 0, none⟩)] w (Rv fun v w' => ∃ q, v = .func (.func 101) #[] #[.pointer (some ⟨q, 0, none⟩)] ∧ Blk w' q [.pointer (some ⟨s, 0, none⟩)] 48 ∧ Kp no w w' ∧ w.heap.size ≤ q) := by
  refine c30 _ _ _ ?_
  unfold B30
  exact ⟨_, rfl, Blk.new _ _ _, (Kp.refl _ _).alloc _ _, Nat.le_refl _⟩

theorem eIter (h0 : SeqB wC s ls B) (kC : Kp no wC w) (hsz : ls.length ≤ 100000000) (bd : Blk w q [.pointer (some ⟨s, 0, none⟩)] 48) (ht : Tab w) :
    Iter Tryd.prog 101 [] [.pointer (some ⟨q, 0, none⟩)] w ls.length (fun j => [.int .i64 (j : Int), .int .i64 (wg ls j : Nat)]) (fun x => x = 0 ∨ x = q ∨ (B ≤ x ∧ x < wC.heap.size)) := by
  intro lp J X w1 k1 hJ hX hr hz
  have hpos := ht.pos
  have sz1 := k1.size
  have szC := kC.size
  have hql0 := bd.lt
  obtain ⟨lo, hi, rk, pl, hb, hp, _, _, hs, hg, hB⟩ := h0
  have hW := eW_le hg
  have hlen := hiB_len hg
  have hu := upl_mono hg (eW ls)
  refine c101 (.func (.yield lp) #[] #[]) ⟨q, 0, none⟩ _ _ ?_
  unfold B101
  -- the block of its own
  have ecs : (⟨cellsL (Value.func (.yield lp) #[] #[])⟩ : Array Value) = #[.func (.yield lp) #[] #[]] := rfl
  rw [ecs]
  have y0 := Blk.new w1 [.func (.yield lp) #[] #[]] 100
  have kA : Kp no w1 (w1.alloc (.cells #[.func (.yield lp) #[] #[]] 100)) := (Kp.refl _ _).alloc _ _
  have sA : (w1.alloc (.cells #[.func (.yield lp) #[] #[]] 100)).heap.size = w1.heap.size + 1 := World.size_alloc _ _
  generalize (w1.alloc (.cells #[.func (.yield lp) #[] #[]] 100)) = wa at *
  have bda := bd.kp (k1.t kA) id
  have hba := hb.kp (kC.t (k1.t kA)) id
  refine ⟨_, bda.cell0 0, brSome ⟨_, bda.cell0 0, _, hba.cell 6, use (sFrom wa pl 0) ?_⟩⟩
  rintro _ W2 ⟨bk, bq, rfl, hbk, hbq, k2, fbk, fbq⟩
  have hbkl := hbk.lt
  have hbql := hbq.lt
  have kC2 := (kC.t (k1.t kA)).t k2
  have s2 := k2.size
  have hit := selIter hs kC2 (by omega) (by omega) hbk hbq (ht.kpo ((k1.t kA).t k2))
  have hno : cnt (bg (hiB ls)) (hiB ls).length - (0 : Int).toNat = ls.length := by
    have := hb_ones hu
    show cnt (bg (hiB ls)) (hiB ls).length - 0 = ls.length
    exact this
  have hf : (fun j => [Value.int .i64 (((0 : Int).toNat + j : Nat) : Int), .int .i64 (oneAt (hiB ls) ((0 : Int).toNat + j) : Nat)]) = fun j : Nat => [Value.int .i64 (j : Int), .int .i64 (oneAt (hiB ls) j : Nat)] := by
    funext j; simp
  rw [hno, hf] at hit
  obtain ⟨A, hA⟩ : ∃ A : Nat → Prop, A = fun k => k = w1.heap.size ∨ k = bk ∨ k = bq := ⟨_, rfl⟩
  have Alo : ∀ k, A k → w1.heap.size ≤ k ∧ k < W2.heap.size := fun k h => by rw [hA] at h; rcases h with rfl | rfl | rfl <;> omega
  have Ay : A w1.heap.size := by rw [hA]; exact .inl rfl
  obtain ⟨S2, hS2⟩ : ∃ S2 : Nat → Prop, S2 = fun k => ¬ A k ∧ ¬ (k = 0 ∨ k = q ∨ (B ≤ k ∧ k < wC.heap.size)) := ⟨_, rfl⟩
  have j0 : J 0 (fun k => A k ∨ False) W2 := (hJ 0) _ _ _ _ hz ⟨(kA.t k2).mono (fun _ _ f => f.elim), fun k h => h.elim, fun k h => h.elim (fun h => .inr (Alo k h).1) (fun h => h.elim)⟩
  have y2 := y0.kp k2 id
  -- what holds at any time
  have after : ∀ {W' : World}, Kp S2 W2 W' → Blk W' w1.heap.size [.func (.yield lp) #[] #[]] 100 ∧ Blk W' q [.pointer (some ⟨s, 0, none⟩)] 48 ∧
      Blk W' s [.int .i64 (ls.length : Int), .int .i64 (lastZ ls), .int .i64 (eW ls : Int), .pointer (some ⟨lo, 0, none⟩), .pointer (some ⟨hi, 0, none⟩), .pointer (some ⟨rk, 0, none⟩), .pointer (some ⟨pl, 0, none⟩)] 121 ∧ PackB W' lo (eW ls) (ls.map (· % 2 ^ eW ls)) B := fun {W'} kk => by
    have kCW : Kp (fun k => k < B) wC W' := ((kC2.mono (S' := S2) (fun _ _ f => f.elim)).trans kk (fun _ _ h => h)).mono (fun k h1 h2 => by rw [hS2] at h2; exact Nat.lt_of_not_le fun h => h2.2 (.inr (.inr ⟨h, h1⟩)))
    refine ⟨y2.kp kk (fun h => by rw [hS2] at h; exact h.1 Ay), (bda.kp k2 id).kp kk (fun h => by rw [hS2] at h; exact h.2 (.inr (.inl rfl))), hb.kp kCW (by omega), hp.kp kCW (fun k h1 h2 => by omega)⟩
  refine ⟨_, rfl, _, #[], #[.pointer (some ⟨bk, 0, none⟩), .pointer (some ⟨bq, 0, none⟩)], rfl, by decide +kernel, ls.length, fun j => (j : Int), fun j => (oneAt (hiB ls) j : Nat), fun x => x = 0 ∨ x = bk ∨ x = bq ∨ (B ≤ x ∧ x < wC.heap.size),
    fun m T' W' => J m (fun k => A k ∨ T' k) W' ∧ ((∀ k, T' k → W2.heap.size ≤ k) ∧ Kp S2 W2 W'),
    fun o T' W' => X (fun k => A k ∨ T' k) W' ∧ ((∀ k, T' k → W2.heap.size ≤ k) ∧ Kp S2 W2 W'),
    hit, fun k hk => by omega, fun m => stab_and (stab_or A (hJ _)) stab_kp, fun o => stab_and (stab_or A hX) stab_kp,
    ⟨j0, ⟨fun _ f => f.elim, Kp.refl _ _⟩⟩, ?_, ?_, ?_, trivial⟩
  · -- a round
    rintro m T' w34 hm hJ30 hT' hTH hTH1 hTb
    refine ⟨Kp.refl _ _, fun w35 k35 => ?_⟩
    obtain ⟨hj35, ⟨_, k235⟩⟩ := (stab_and (stab_or A (hJ _)) stab_kp) T' T' w34 w35 hJ30 ⟨k35.mono (fun k _ e => by subst e; exact hTH1), fun _ h => h, fun _ h => .inl h⟩
    have s35 := k35.size
    have s235 := k235.size
    have kd : Kp no w35 w35.drew := (Kp.refl _ _).drew
    have k2d := k235.trans kd (fun _ _ f => f.elim)
    obtain ⟨y35, q35, s35', p35⟩ := after k2d
    have hu1 := upl_lt hg hm
    have hv := wg_le hg m
    have hcp : IntKind.u64.wrap (eW ls : Int) = ((eW ls : Nat) : Int) := wu64 ⟨by omega, by omega⟩
    have hone : oneAt (hiB ls) m = upl ls (eW ls) m + m := by
      have h1 : oneAt (hiB ls) (cnt (bg (hiB ls)) (upl ls (eW ls) m + m)) = upl ls (eW ls) m + m := oneAt_eq (hb_lt hu hm) (hb_one hu hm)
      have h2 : cnt (bg (hiB ls)) (upl ls (eW ls) m + m) = m := hb_cntAt hu hm (by have := prv_le hu hm; omega) (by omega)
      rwa [h2] at h1
    dsimp only
    rw [hone]
    refine ⟨_, y35.cell0 0, _, q35.cell0 0, _, s35'.cell 2, by rw [hcp]; omega, _, q35.cell0 0, _, s35'.cell 3, usek (pAt p35 (by rw [List.length_map]; omega) _) fun w30 k30 => ?_⟩
    have hat : atU (ls.map (· % 2 ^ eW ls)) (m : Int) = wg ls m % 2 ^ eW ls := by
      unfold atU; rw [if_pos (by rw [List.length_map]; omega), Int.toNat_natCast, wg_map hm]
    rw [hat]
    have kd30 := kd.t k30
    have k230 := k235.trans kd30 (fun _ _ f => f.elim)
    obtain ⟨y30, q30, s30, p30⟩ := after k230
    have hj30 := (stab_or A (hJ _)) T' T' w35 w30 hj35 ⟨kd30.mono (fun _ _ f => f.elim), fun _ h => h, fun _ h => .inl h⟩
    have hlt : wg ls m % 2 ^ eW ls ≤ wg ls m := Nat.mod_le _ _
    have hmul : upl ls (eW ls) m * 2 ^ eW ls ≤ wg ls m := Nat.div_mul_le_self _ _
    have ev : bOr .i64 (shL .i64 (IntKind.i64.wrap (((upl ls (eW ls) m + m : Nat) : Int) - (m : Int))) (IntKind.u64.wrap (eW ls : Int))) (IntKind.i64.wrap ((wg ls m % 2 ^ eW ls : Nat) : Int)) = ((wg ls m : Nat) : Int) := by
      rw [hcp, w64 (x := (((upl ls (eW ls) m + m : Nat) : Int) - (m : Int))) ⟨by omega, by omega⟩]
      have e1 : (((upl ls (eW ls) m + m : Nat) : Int) - (m : Int)) = ((upl ls (eW ls) m : Nat) : Int) := by omega
      rw [e1, shl_i64 hW (by omega), w64 (x := ((wg ls m % 2 ^ eW ls : Nat) : Int)) ⟨by omega, by omega⟩, or_i64 (by omega) (by omega)]
      have := parts_or (wg ls m) (eW ls)
      rw [Nat.shiftLeft_eq] at this
      exact congrArg (fun n : Nat => (n : Int)) this
    refine ⟨_, rfl, s30.cell 2, q30.cell0 0, y30.cell0 0, ?_⟩
    rw [ev]
    have s30' := kd30.size
    refine yuse (hr m _ w30 hm hj30 (fun k hk => ?_) (fun k hk => ?_)) ?_
    · rcases hk with hk | hk
      · exact (Alo k hk).1
      · have := hT' k hk; omega
    · rcases hk with hk | hk
      · have := Alo k hk; omega
      · have := hTb k hk; omega
    rintro v w42 ⟨k42, hv2⟩
    have k42' : Kp (fun k => ¬ T' k ∧ ¬ (k = 0 ∨ k = bk ∨ k = bq ∨ (B ≤ k ∧ k < wC.heap.size))) w35 w42 := (kd30.mono (S' := fun k => ¬ T' k ∧ ¬ (k = 0 ∨ k = bk ∨ k = bq ∨ (B ≤ k ∧ k < wC.heap.size))) (fun _ _ f => f.elim)).trans k42 (fun k _ h => ⟨fun g => h.1 (.inr g), fun g => by
      rcases g with g | g | g | g
      · exact h.2 (.inl g)
      · exact h.1 (.inl (by rw [hA]; exact .inr (.inl g)))
      · exact h.1 (.inl (by rw [hA]; exact .inr (.inr g)))
      · exact h.2 (.inr (.inr g))⟩)
    have k242 : Kp S2 W2 w42 := k230.trans k42 (fun k _ h => by rw [hS2]; exact ⟨fun g => h.1 (.inl g), h.2⟩)
    rcases hv2 with ⟨rfl, hj42⟩ | ⟨rfl, hx42⟩
    · exact ⟨true, rfl, brF ⟨k42', hj42, hT', k242⟩⟩
    · exact ⟨false, rfl, brT ⟨k42', hx42, hT', k242⟩⟩
  · rintro T' w46 ⟨hj46, hTl, k46⟩ ⟨hT', hTH⟩ hDef
    have s46 := k46.size
    refine ⟨List.nodup_cons.2 ⟨by simp, List.nodup_nil⟩, fun D hD => by rw [List.mem_singleton.1 hD]; exact hDef, fun w52 k52 => ⟨fun k => A k ∨ T' k, fun k hk => ?_, .inl ?_⟩⟩
    · have s52 := k52.size
      rcases hk with hk | hk
      · have := Alo k hk; omega
      · have := hT' k hk; omega
    · exact (hJ _) _ _ _ _ hj46 ⟨k52.mono (fun k _ h => by rw [List.mem_singleton.1 h]; exact .inr hTH), fun _ h => h, fun _ h => .inl h⟩
  · rintro T' w46 ⟨hj46, hTl, k46⟩ ⟨hT', hTH⟩ hDef
    have s46 := k46.size
    refine ⟨List.nodup_cons.2 ⟨by simp, List.nodup_nil⟩, fun D hD => by rw [List.mem_singleton.1 hD]; exact hDef, fun w52 k52 => ⟨fun k => A k ∨ T' k, fun k hk => ?_, .inr ?_⟩⟩
    · have s52 := k52.size
      rcases hk with hk | hk
      · have := Alo k hk; omega
      · have := hT' k hk; omega
    · exact hX _ _ _ _ hj46 ⟨k52.mono (fun k _ h => by rw [List.mem_singleton.1 h]; exact .inr hTH), fun _ h => h, fun _ h => .inl h⟩

end Go.Proofs.YtomajpihimlcjaaDoor.V
