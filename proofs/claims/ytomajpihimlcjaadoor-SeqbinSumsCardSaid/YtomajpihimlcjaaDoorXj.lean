/- Sequences by their sums: gone over; the law on that (doors only). -/
import Derived.Test.YtomajpihimlcjaaDoorEj
import Derived.Test.YtomajpihimlcjaaDoorPg
import Derived.Test.YtomajpihimlcjaaDoorBX
namespace Go.Proofs.YtomajpihimlcjaaDoor.V
open Go Go.VC
variable {w w' w0 wC : World} {l : Slc} {bits : List Bool} {ls : List Nat} {zs : List Int} {s B p q : Nat}

theorem xAll (w : World) (s : Nat) : Calls Tryd.prog 35 #[.pointer (some ⟨s, 0, none⟩)] w (Rv fun v w' => ∃ q, v = .func (.func 106) #[] #[.pointer (some ⟨q, 0, none⟩)] ∧ Blk w' q [.pointer (some ⟨s, 0, none⟩)] 56 ∧ Kp no w w' ∧ w.heap.size ≤ q) := by
  refine c35 _ _ _ ?_
  unfold B35
  exact ⟨_, rfl, Blk.new _ _ _, (Kp.refl _ _).alloc _ _, Nat.le_refl _⟩

theorem xIter (h0 : PreB wC p ls B) (kC : Kp no wC w) (hsz : ls.length ≤ 10000000) (bd : Blk w q [.pointer (some ⟨p, 0, none⟩)] 56) (ht : Tab w) :
    Iter Tryd.prog 106 [] [.pointer (some ⟨q, 0, none⟩)] w ls.length (fun j => [.int .i64 (j : Int), .int .i64 (wg ls j : Nat)]) (fun x => x = 0 ∨ x = q ∨ (B ≤ x ∧ x < wC.heap.size)) := by
  intro lp J X w1 k1 hJ hX hr hz
  have hpos := ht.pos
  have sz1 := k1.size
  have szC := kC.size
  have hql0 := bd.lt
  obtain ⟨s, hb, hS, hsum, hB⟩ := h0
  have hsl := sumsOf_len ls
  refine c106 (.func (.yield lp) #[] #[]) ⟨q, 0, none⟩ _ _ ?_
  unfold B106
  -- the blocks of its own
  have ecs : (⟨cellsL (Value.func (.yield lp) #[] #[])⟩ : Array Value) = #[.func (.yield lp) #[] #[]] := rfl
  rw [ecs]
  have y0 := Blk.new w1 [.func (.yield lp) #[] #[]] 100
  have kA : Kp no w1 (w1.alloc (.cells #[.func (.yield lp) #[] #[]] 100)) := (Kp.refl _ _).alloc _ _
  have sA : (w1.alloc (.cells #[.func (.yield lp) #[] #[]] 100)).heap.size = w1.heap.size + 1 := World.size_alloc _ _
  generalize (w1.alloc (.cells #[.func (.yield lp) #[] #[]] 100)) = wa at *
  refine ⟨_, (bd.kp (k1.t kA) id).cell0 0, brSome ?_⟩
  have c0 := Blk.new wa [.int .i64 0] 3
  have kB0 : Kp no wa (wa.alloc (.cells #[.int .i64 0] 3)) := (Kp.refl _ _).alloc _ _
  obtain ⟨e1, e2, c1, e4⟩ := setc (v := .int .i64 0) c0
  have kB : Kp no wa ((wa.alloc (.cells #[.int .i64 0] 3)).setCell ⟨wa.heap.size, 0, none⟩ (.int .i64 0)) := kB0.trans (e4 (fun k => k = wa.heap.size) rfl) (fun k h1 h2 => by omega)
  have sB : ((wa.alloc (.cells #[.int .i64 0] 3)).setCell ⟨wa.heap.size, 0, none⟩ (.int .i64 0)).heap.size = wa.heap.size + 1 := by simp
  refine ⟨e1, e2, ?_⟩
  clear e1 e2 e4 kB0 c0
  generalize ((wa.alloc (.cells #[.int .i64 0] 3)).setCell ⟨wa.heap.size, 0, none⟩ (.int .i64 0)) = wb at *
  have k1b := k1.t (kA.t kB)
  refine ⟨_, (bd.kp k1b id).cell0 0, _, (hb.kp (kC.t k1b) id).cell0 0, use (eAll wb s) ?_⟩
  rintro _ W2 ⟨bq, rfl, hbq, k2, fbq⟩
  have hbql := hbq.lt
  have kC2 := (kC.t k1b).t k2
  have s2 := k2.size
  have hit := eIter hS kC2 (by omega) hbq (ht.kpo (k1b.t k2))
  obtain ⟨A, hA⟩ : ∃ A : Nat → Prop, A = fun k => k = w1.heap.size ∨ k = wa.heap.size ∨ k = bq := ⟨_, rfl⟩
  have Alo : ∀ k, A k → w1.heap.size ≤ k ∧ k < W2.heap.size := fun k h => by rw [hA] at h; rcases h with rfl | rfl | rfl <;> omega
  have Ay : A w1.heap.size := by rw [hA]; exact .inl rfl
  have Ac : A wa.heap.size := by rw [hA]; exact .inr (.inl rfl)
  obtain ⟨S2, hS2⟩ : ∃ S2 : Nat → Prop, S2 = fun k => k = wa.heap.size ∨ (¬ A k ∧ ¬ (k = 0 ∨ k = q ∨ (B ≤ k ∧ k < wC.heap.size))) := ⟨_, rfl⟩
  have j0 : J 0 (fun k => A k ∨ False) W2 := (hJ 0) _ _ _ _ hz ⟨((kA.t kB).t k2).mono (fun _ _ f => f.elim), fun k h => h.elim, fun k h => h.elim (fun h => .inr (Alo k h).1) (fun h => h.elim)⟩
  have y2 := (y0.kp kB id).kp k2 id
  have c2 := c1.kp k2 id
  have after : ∀ {W' : World}, Kp S2 W2 W' → Blk W' w1.heap.size [.func (.yield lp) #[] #[]] 100 := fun {W'} kk =>
    y2.kp kk (fun h => by rw [hS2] at h; rcases h with h | h; · omega
                          · exact h.1 Ay)
  refine ⟨_, rfl, _, #[], #[.pointer (some ⟨bq, 0, none⟩)], rfl, by decide +kernel, (sumsOf ls).length, fun j => (j : Int), fun j => (wg (sumsOf ls) j : Nat), fun x => x = 0 ∨ x = bq ∨ (B ≤ x ∧ x < wC.heap.size),
    fun m T' W' => J (m - 1) (fun k => A k ∨ T' k) W' ∧ (((∀ k, T' k → W2.heap.size ≤ k) ∧ Kp S2 W2 W') ∧ (¬ T' wa.heap.size ∧ Blk W' wa.heap.size [.int .i64 ((S0 ls (m - 1) : Nat) : Int)] 3)),
    fun o T' W' => X (fun k => A k ∨ T' k) W' ∧ ((∀ k, T' k → W2.heap.size ≤ k) ∧ Kp S2 W2 W'),
    hit, fun k hk => by omega, fun m => stab_and (stab_or A (hJ _)) (stab_and stab_kp stab_blk), fun o => stab_and (stab_or A hX) stab_kp,
    ⟨j0, ⟨fun _ f => f.elim, Kp.refl _ _⟩, fun f => f.elim, c2⟩, ?_, ?_, ?_, trivial⟩
  · -- a round
    rintro m T' w34 hm hJ30 hT' hTH hTH1 hTb
    refine ⟨Kp.refl _ _, fun w35 k35 => ?_⟩
    obtain ⟨hj35, ⟨_, k235⟩, hTc, c35⟩ := (stab_and (stab_or A (hJ _)) (stab_and stab_kp stab_blk)) T' T' w34 w35 hJ30 ⟨k35.mono (fun k _ e => by subst e; exact hTH1), fun _ h => h, fun _ h => .inl h⟩
    have s35 := k35.size
    have s235 := k235.size
    have y35 := after k235
    have hms : wg (sumsOf ls) m = S0 ls m := sumsOf_at (by omega)
    dsimp only
    rw [hms]
    have cnA : ∀ k, k = wa.heap.size → ¬ T' k ∧ ¬ (k = 0 ∨ k = bq ∨ (B ≤ k ∧ k < wC.heap.size)) := fun k h => by subst h; exact ⟨hTc, by omega⟩
    refine br_dec (fun hm0 => ?_) (fun hm0 => ?_)
    · have hm1 : m - 1 < ls.length := by omega
      have hsu := S0_succ hm1
      rw [show m - 1 + 1 = m by omega] at hsu
      have hle := S0_le (l := ls) (m := m)
      have ev1 : IntKind.i64.wrap ((m : Int) - 1) = ((m - 1 : Nat) : Int) := by rw [w64 ⟨by omega, by omega⟩]; omega
      have ev2 : IntKind.i64.wrap (((S0 ls m : Nat) : Int) - ((S0 ls (m - 1) : Nat) : Int)) = ((wg ls (m - 1) : Nat) : Int) := by rw [w64 ⟨by omega, by omega⟩]; omega
      refine ⟨_, y35.cell0 0, _, c35.cell0 0, ?_⟩
      rw [ev1, ev2]
      refine yuse (hr (m - 1) _ w35 hm1 hj35 (fun k hk => ?_) (fun k hk => ?_)) ?_
      · rcases hk with hk | hk
        · exact (Alo k hk).1
        · have := hT' k hk; omega
      · rcases hk with hk | hk
        · have := Alo k hk; omega
        · have := hTb k hk; omega
      rintro v w42 ⟨k42, hv2⟩
      have k42' : Kp (fun k => ¬ T' k ∧ ¬ (k = 0 ∨ k = bq ∨ (B ≤ k ∧ k < wC.heap.size))) w35 w42 := k42.mono (fun k _ h => ⟨fun g => h.1 (.inr g), fun g => by
        rcases g with g | g | g
        · exact h.2 (.inl g)
        · exact h.1 (.inl (by rw [hA]; exact .inr (.inr g)))
        · exact h.2 (.inr (.inr g))⟩)
      have k242 : Kp S2 W2 w42 := k235.trans k42 (fun k _ h => by rw [hS2]; exact .inr ⟨fun g => h.1 (.inl g), h.2⟩)
      rcases hv2 with ⟨rfl, hj42⟩ | ⟨rfl, hx42⟩
      · have c42 := c35.kp k42 (fun h => h.1 (.inl Ac))
        obtain ⟨e1, e2, c43, e4⟩ := setc (v := .int .i64 ((S0 ls m : Nat) : Int)) c42
        refine ⟨true, rfl, brF ⟨e1, e2, k42'.trans (e4 (fun k => k = wa.heap.size) rfl) (fun k _ h => cnA k h), ?_, ⟨hT', k242.trans (e4 (fun k => k = wa.heap.size) rfl) (fun k _ h => by rw [hS2]; exact .inl h)⟩, hTc, c43⟩⟩
        rw [show m - 1 + 1 = m by omega] at hj42
        exact (hJ _) _ _ _ _ hj42 ⟨e4 _ (.inl Ac), fun _ h => h, fun _ h => .inl h⟩
      · exact ⟨false, rfl, brT ⟨k42', hx42, hT', k242⟩⟩
    · obtain rfl : m = 0 := by omega
      obtain ⟨e1, e2, c43, e4⟩ := setc (v := .int .i64 ((S0 ls 0 : Nat) : Int)) c35
      exact ⟨e1, e2, e4 _ (cnA _ rfl), (hJ _) _ _ _ _ hj35 ⟨e4 _ (.inl Ac), fun _ h => h, fun _ h => .inl h⟩, ⟨hT', k235.trans (e4 (fun k => k = wa.heap.size) rfl) (fun k _ h => by rw [hS2]; exact .inl h)⟩, hTc, c43⟩
  · rintro T' w46 ⟨hj46, ⟨hTl, k46⟩, _, _⟩ ⟨hT', hTH⟩ hDef
    have s46 := k46.size
    refine ⟨List.nodup_cons.2 ⟨by simp, List.nodup_nil⟩, fun D hD => by rw [List.mem_singleton.1 hD]; exact hDef, fun w52 k52 => ⟨fun k => A k ∨ T' k, fun k hk => ?_, .inl ?_⟩⟩
    · have s52 := k52.size
      rcases hk with hk | hk
      · have := Alo k hk; omega
      · have := hT' k hk; omega
    · rw [show (sumsOf ls).length - 1 = ls.length by omega] at hj46
      exact (hJ _) _ _ _ _ hj46 ⟨k52.mono (fun k _ h => by rw [List.mem_singleton.1 h]; exact .inr hTH), fun _ h => h, fun _ h => .inl h⟩
  · rintro T' w46 ⟨hj46, hTl, k46⟩ ⟨hT', hTH⟩ hDef
    have s46 := k46.size
    refine ⟨List.nodup_cons.2 ⟨by simp, List.nodup_nil⟩, fun D hD => by rw [List.mem_singleton.1 hD]; exact hDef, fun w52 k52 => ⟨fun k => A k ∨ T' k, fun k hk => ?_, .inr ?_⟩⟩
    · have s52 := k52.size
      rcases hk with hk | hk
      · have := Alo k hk; omega
      · have := hT' k hk; omega
    · exact hX _ _ _ _ hj46 ⟨k52.mono (fun k _ h => by rw [List.mem_singleton.1 h]; exact .inr hTH), fun _ h => h, fun _ h => .inl h⟩

end Go.Proofs.YtomajpihimlcjaaDoor.V
