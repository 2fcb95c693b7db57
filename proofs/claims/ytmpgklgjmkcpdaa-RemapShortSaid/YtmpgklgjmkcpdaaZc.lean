/- Words behind words: ranks and words in a row. -/
import Derived.Test.YtmpgklgjmkcpdaaZb
namespace Go.VC
open Go
/-- A word stands behind the one ahead of it. -/
def FitA (ps : List (Nat × Nat)) (zs : List Int) (j : Nat) : Prop := ∃ i, i < (bhZ ps (wz zs j)).length ∧ (wg (bhZ ps (wz zs j)) i : Int) = wz zs (j + 1)
theorem fit_yes {ps : List (Nat × Nat)} {zs : List Int} {j : Nat} {x : Int} (h : RankP (bhZ ps (wz zs j)) (wz zs (j + 1)) x) (hx : 0 ≤ x) : FitA ps zs j := by
  rcases h with ⟨rfl, _⟩ | ⟨i, rfl, h1, h2⟩
  · omega
  · exact ⟨i, h1, h2⟩
theorem fit_no {ps : List (Nat × Nat)} {zs : List Int} {j : Nat} {x : Int} (h : RankP (bhZ ps (wz zs j)) (wz zs (j + 1)) x) (hx : x < 0) : ¬ FitA ps zs j := by
  rcases h with ⟨rfl, h⟩ | ⟨i, rfl, h1, h2⟩
  · rintro ⟨i, h1, h2⟩; exact h i h1 h2
  · omega
/-- The ranks of words in a row. -/
def RanksP (ps : List (Nat × Nat)) (zs : List Int) (rs : List Nat) (m : Nat) : Prop := rs.length = m ∧ ∀ j, j < m → RankP (bhZ ps (wz zs j)) (wz zs (j + 1)) (wg rs j)
theorem list_eq {a b : List Nat} (h : a.length = b.length) (g : ∀ i, i < a.length → wg a i = wg b i) : a = b := by
  apply List.ext_getElem h
  intro i h1 h2
  have := g i h1
  unfold wg at this
  rwa [List.getElem?_eq_getElem h1, List.getElem?_eq_getElem h2] at this
theorem RanksP.one {n : Nat} {ps : List (Nat × Nat)} (hp : PairsOk n ps) {zs : List Int} {rs ts : List Nat} {m : Nat} (h : RanksP ps zs rs m) (g : RanksP ps zs ts m) : rs = ts := by
  refine list_eq (by rw [h.1, g.1]) (fun i hi => ?_)
  rw [h.1] at hi
  have := (h.2 i hi).one (bh_inc hp _).2 (g.2 i hi)
  omega
theorem RanksP.snoc {ps : List (Nat × Nat)} {zs : List Int} {rs : List Nat} {m x : Nat} (h : RanksP ps zs rs m) (g : RankP (bhZ ps (wz zs m)) (wz zs (m + 1)) x) : RanksP ps zs (rs ++ [x]) (m + 1) := by
  refine ⟨by simp [h.1], fun j hj => ?_⟩
  rw [wg_snoc, h.1]
  by_cases e : j = m
  · subst e; rw [if_pos rfl]; exact g
  · rw [if_neg e]; exact h.2 j (by omega)
/-- Words by ranks. -/
def LngP (ps : List (Nat × Nat)) (a : Int) (ks : List Int) (out : List Nat) (j : Nat) : Prop := out.length = j + 1 ∧ (wg out 0 : Int) = a ∧ ∀ i, i < j → (wg out (i + 1) : Int) = atZ (zl (bhZ ps (wg out i : Int))) (wz ks i)
theorem LngP.pre {ps : List (Nat × Nat)} {a : Int} {ks : List Int} {o p : List Nat} {j k : Nat} (h : LngP ps a ks o j) (g : LngP ps a ks p k) (hjk : j ≤ k) : ∀ i, i ≤ j → wg o i = wg p i := by
  intro i
  induction i with
  | zero => intro _; have := h.2.1; have := g.2.1; omega
  | succ i ih =>
    intro hi
    have e := ih (by omega)
    have h1 := h.2.2 i (by omega)
    have g1 := g.2.2 i (by omega)
    rw [e] at h1
    omega
theorem LngP.one {ps : List (Nat × Nat)} {a : Int} {ks : List Int} {o p : List Nat} {j : Nat} (h : LngP ps a ks o j) (g : LngP ps a ks p j) : o = p :=
  list_eq (by rw [h.1, g.1]) (fun i hi => h.pre g (Nat.le_refl _) i (by have := h.1; omega))
theorem LngP.snoc {ps : List (Nat × Nat)} {a : Int} {ks : List Int} {o : List Nat} {j x : Nat} (h : LngP ps a ks o j) (g : (x : Int) = atZ (zl (bhZ ps (wg o j : Int))) (wz ks j)) : LngP ps a ks (o ++ [x]) (j + 1) := by
  refine ⟨by simp [h.1], ?_, fun i hi => ?_⟩
  · rw [wg_snoc, if_neg (by have := h.1; omega)]; exact h.2.1
  · by_cases e : i < j
    · rw [wg_snoc, wg_snoc, if_neg (by have := h.1; omega), if_neg (by have := h.1; omega)]; exact h.2.2 i e
    · have : i = j := by omega
      subst this
      rw [wg_snoc, wg_snoc, if_pos (by have := h.1; omega), if_neg (by have := h.1; omega)]; exact g
/-- Words by ranks, or that there are none. -/
def LongR (ps : List (Nat × Nat)) (n a : Int) (ks : List Int) (r : Option (List Nat)) : Prop :=
  (r = none ∧ (a < 0 ∨ n ≤ a ∨ ∃ j o, j < ks.length ∧ LngP ps a ks o j ∧ atZ (zl (bhZ ps (wg o j : Int))) (wz ks j) < 0)) ∨ (∃ o, r = some o ∧ 0 ≤ a ∧ a < n ∧ LngP ps a ks o ks.length)
theorem LongR.one {ps : List (Nat × Nat)} {n a : Int} {ks : List Int} {r s : Option (List Nat)} (h : LongR ps n a ks r) (g : LongR ps n a ks s) : r = s := by
  have bad : ∀ {o}, 0 ≤ a → a < n → LngP ps a ks o ks.length → ¬ (a < 0 ∨ n ≤ a ∨ ∃ j o, j < ks.length ∧ LngP ps a ks o j ∧ atZ (zl (bhZ ps (wg o j : Int))) (wz ks j) < 0) := fun {o} h1 h2 h3 hh => by
    rcases hh with hh | hh | ⟨j, p, hj, hp, hn⟩
    · omega
    · omega
    · have e := hp.pre h3 (by omega) j (Nat.le_refl _)
      have := h3.2.2 j hj
      rw [e] at hn
      omega
  rcases h with ⟨rfl, h⟩ | ⟨o, rfl, h1, h2, h3⟩ <;> rcases g with ⟨rfl, g⟩ | ⟨p, rfl, g1, g2, g3⟩
  · rfl
  · exact absurd h (bad g1 g2 g3)
  · exact absurd g (bad h1 h2 h3)
  · rw [h3.one g3]
end Go.VC
namespace Go.Proofs.Ytmpgklgjmkcpdaa.V
open Go Go.VC
variable {w w' w0 : World} {l la lb : Slc} {zs ks : List Int} {ps : List (Nat × Nat)} {n m r B b : Nat} {v : Value}
theorem kplO {S : Nat → Prop} {xs : List Int} (h : RdZ w l xs) (g : Kp S w w') (hn : ∀ k, On l k → k < w.heap.size → ¬ S k) : RdZ w' l xs := by
  refine ⟨h.len, fun i hi => ?_, h.lo⟩
  obtain ⟨a, ha, hc⟩ := h.rd i hi
  rw [List.getElem?_eq_getElem hi] at hc ⊢
  have hlt := cell_lt hc
  rw [add_block] at hlt
  refine ⟨a, ha, ?_⟩
  rw [World.cell?_of_block (w := w) (g.keep _ (by rw [add_block]; exact hlt) (by rw [add_block]; exact hn _ ⟨a, ha, rfl⟩ hlt)), hc]

/-- What the iterator of neighbours rests on. -/
abbrev nbD (w0 : World) (l : Slc) (b k : Nat) : Prop := (On l k ∧ k < w0.heap.size) ∨ k = b
theorem nIter (hb : Blk w b [.slice l.a l.len l.cap] 22) (hz : RdZ w0 l zs) (k0 : Kp no w0 w) (hsz : zs.length ≤ 1000000) :
    Iter Try.prog 123 [] [.pointer (some ⟨b, 0, none⟩)] w (zs.length - 1) (fun j => [.int .i64 (wz zs j), .int .i64 (wz zs (j + 1))]) (nbD w0 l b) := by
  intro lp J X w1 k1 hJ hX hr h0
  refine c123 (.func (.yield lp) #[] #[]) ⟨b, 0, none⟩ _ _ ?_
  unfold B123
  have hl := hz.len
  have hbw := hb.lt
  refine ⟨fun i w' => ∃ j : Nat, i = ((j + 1 : Nat) : Int) ∧ j ≤ zs.length - 1 ∧ Kp (fun k => ¬ nbD w0 l b k) w w' ∧ w1.heap.size ≤ w'.heap.size ∧ J j no w', fun i _ => ((zs.length : Int) + 1 - i).toNat, ⟨0, rfl, by omega, k1.mono (fun _ _ f => f.elim), Nat.le_refl _, h0⟩, ?_⟩
  rintro i w2 ⟨j, rfl, hj, k2, s2, hj2⟩
  have b2 := hb.kp k2 (fun h => h (.inr rfl))
  have z2 : RdZ w2 l zs := kplO hz ((k0.mono (S' := fun k => ¬ nbD w0 l b k) (fun _ _ f => f.elim)).trans k2 (fun _ _ h => h)) (fun k hk hlt h => h (.inl ⟨hk, hlt⟩))
  refine ⟨l, b2.cell0 0, br_dec (fun hlt => ?_) (fun hlt => ?_)⟩
  · have kd : Kp no w2 w2.drew := (Kp.refl no w2).drew
    have zd := z2.kpo kd
    have e1 : IntKind.i64.wrap (((j + 1 : Nat) : Int) - 1) = (j : Int) := by rw [w64 ⟨by omega, by omega⟩]; omega
    rw [e1]
    obtain ⟨a, ha, hc⟩ := zd.at (i := (j : Int)) (by omega) (by omega)
    obtain ⟨a2, ha2, hc2⟩ := zd.at (i := ((j + 1 : Nat) : Int)) (by omega) hlt
    refine ⟨l, b2.drew.cell0 0, by omega, by omega, a, ha, _, hc, l, b2.drew.cell0 0, by omega, hlt, a2, ha2, _, hc2, ?_⟩
    rw [Int.toNat_natCast, Int.toNat_natCast]
    refine yuse (hr j no w2.drew (by omega) ((hJ j).no hj2 kd) (fun k hk => hk.elim) (fun k hk => hk.elim)) ?_
    rintro v w4 ⟨k4, hv⟩
    have hs4 := k4.size
    have hs2 := k2.size
    have hsd : w2.drew.heap.size = w2.heap.size := rfl
    have k24 : Kp (fun k => ¬ nbD w0 l b k) w w4 := (k2.trans (kd.mono (S' := fun k => ¬ nbD w0 l b k) (fun _ _ f => f.elim)) (fun _ _ h => h)).trans k4 (fun k h1 h2 => h2.2)
    rcases hv with ⟨rfl, hj4⟩ | ⟨rfl, hx⟩
    · refine ⟨true, rfl, brF ⟨⟨j + 1, ?_, by omega, k24, by omega, hj4⟩, ?_⟩⟩
      · rw [w64 ⟨by omega, by omega⟩]; omega
      · rw [w64 ⟨by omega, by omega⟩]; dsimp only; omega
    · exact ⟨false, rfl, brT ⟨no, fun _ f => f.elim, .inr hx⟩⟩
  · obtain rfl : j = zs.length - 1 := by omega
    exact ⟨no, fun _ f => f.elim, .inl hj2⟩

theorem nNew (w : World) (l : Slc) : Calls Try.prog 103 #[.slice l.a l.len l.cap] w (Rv fun v w' => v = .func (.func 123) #[] #[.pointer (some ⟨w.heap.size, 0, none⟩)] ∧ Blk w' w.heap.size [.slice l.a l.len l.cap] 22 ∧ Kp no w w') := by
  refine c103 _ _ _ ?_
  unfold B103
  exact ⟨rfl, Blk.new _ _ _, (Kp.refl _ _).alloc _ _⟩

theorem mFits (h : MapB w m n ps B) (hz : RdZ w l zs) (hsz : zs.length ≤ 1000) : Calls Try.prog 70 #[.pointer (some ⟨m, 0, none⟩), .slice l.a l.len l.cap] w (Rv fun v w' => Kp no w w' ∧
    ((v = .bool true ∧ ∀ j, j + 1 < zs.length → FitA ps zs j) ∨ (v = .bool false ∧ ∃ j, j + 1 < zs.length ∧ ¬ FitA ps zs j))) := by
  refine c70 _ _ _ _ ?_
  unfold B70
  have a1 := Blk.new w [.pointer (some ⟨m, 0, none⟩)] 72
  have a2 := Blk.new (w.alloc (.cells #[.pointer (some ⟨m, 0, none⟩)] 72)) [.bool false] 4
  have b1 := a1.alloc (.cells #[.bool false] 4)
  have z1 : (w.alloc (.cells #[.pointer (some ⟨m, 0, none⟩)] 72)).heap.size = w.heap.size + 1 := World.size_alloc _ _
  have z2 : ((w.alloc (.cells #[.pointer (some ⟨m, 0, none⟩)] 72)).alloc (.cells #[.bool false] 4)).heap.size = w.heap.size + 2 := by rw [World.size_alloc, z1]
  have k0 : Kp no w ((w.alloc (.cells #[.pointer (some ⟨m, 0, none⟩)] 72)).alloc (.cells #[.bool false] 4)) := ((Kp.refl _ _).alloc _ _).alloc _ _
  clear a1
  rw [z1] at a2 ⊢
  generalize (w.alloc (.cells #[.pointer (some ⟨m, 0, none⟩)] 72)).alloc (.cells #[.bool false] 4) = w1 at *
  refine use (nNew w1 l) ?_
  rintro _ w2 ⟨rfl, hb, k2⟩
  have s2 := k2.size
  have hit := nIter hb hz (k0.t k2) (by omega)
  refine ⟨_, rfl, _, #[], #[.pointer (some ⟨w1.heap.size, 0, none⟩)], rfl, by decide +kernel, zs.length - 1, fun j => wz zs j, fun j => wz zs (j + 1), nbD w l w1.heap.size, ?_⟩
  refine ⟨fun j T W => ((∀ k, T k → w2.heap.size ≤ k) ∧ Kp no w2 W) ∧ ∀ i, i < j → FitA ps zs i,
    fun o T W => (o = none ∧ ∃ j, j + 1 < zs.length ∧ ¬ FitA ps zs j) ∧ (((∀ k, T k → w2.heap.size ≤ k) ∧ Kp (fun k => k = w.heap.size + 1) w2 W) ∧ (¬ T (w.heap.size + 1) ∧ Blk W (w.heap.size + 1) [.bool false] 4)),
    hit, fun k hk => ?_, fun j => stab_and stab_kp (stab_const _), fun o => stab_and (stab_const _) (stab_and stab_kp stab_blk), ⟨⟨fun k hk => hk.elim, Kp.refl _ _⟩, fun i hi => by omega⟩, ?_, ?_, ?_, trivial⟩
  · rcases hk with ⟨_, hk⟩ | rfl
    · omega
    · exact hb.lt
  · rintro j T w7 hj hJ hT hT0 hT1 hTb
    refine ⟨Kp.refl _ _, fun w8 k8 => ?_⟩
    obtain ⟨⟨_, k8n⟩, hfit⟩ := (stab_and stab_kp (stab_const (∀ i, i < j → FitA ps zs i))) T T w7 w8 hJ ⟨k8.mono (fun k _ e => by subst e; exact hT1), fun _ h => h, fun _ h => .inl h⟩
    have k28 : Kp no w w8 := k0.t (k2.t k8n)
    refine ⟨_, (b1.kp (k2.t k8n) id).cell0 0, use (mRank (h.kpo k28) _ _) ?_⟩
    rintro _ w9 ⟨k9, x, rfl, hx⟩
    refine ⟨_, rfl, br_dec (fun g => ?_) (fun g => ?_)⟩
    · obtain ⟨e1, e2, hb9, e4⟩ := setc (v := .bool false) (((a2.kp k2 id).kp k8n id).kp k9 id)
      have hTn : ¬ T (w.heap.size + 1) := fun hh => by have := hT _ hh; omega
      have hDn : ¬ nbD w l w1.heap.size (w.heap.size + 1) := by rintro (⟨_, hh⟩ | hh) <;> omega
      refine ⟨e1, e2, (k9.mono (fun _ _ f => f.elim)).trans (e4 (fun k => ¬ T k ∧ ¬ nbD w l w1.heap.size k) ⟨hTn, hDn⟩) (fun _ _ h => h), ⟨rfl, j, by omega, fit_no hx g⟩, ⟨hT, ?_⟩, hTn, hb9⟩
      exact ((k8n.t k9).mono (fun _ _ f => f.elim)).trans (e4 (fun k => k = w.heap.size + 1) rfl) (fun _ _ h => h)
    · refine ⟨k9.mono (fun _ _ f => f.elim), ⟨hT, k8n.t k9⟩, fun i hi => ?_⟩
      by_cases e : i = j
      · subst e; exact fit_yes hx (by omega)
      · exact hfit i (by omega)
  · rintro T w7 ⟨⟨_, k7⟩, hfit⟩ hT hD
    have a7 := (a2.kp k2 id).kp k7 id
    refine ⟨_, (b1.kp (k2.t k7) id).cell0 0, ?_⟩
    exact retc (b := true) (R := fun u w' => Kp no w w' ∧ ((u = Value.bool true ∧ ∀ j, j + 1 < zs.length → FitA ps zs j) ∨ (u = Value.bool false ∧ ∃ j, j + 1 < zs.length ∧ ¬ FitA ps zs j))) a7 (List.nodup_cons.2 ⟨by simp, List.nodup_nil⟩) (fun D hD' => by rw [List.mem_singleton.1 hD']; exact hD)
      (fun w' k' => ⟨(k0.t (k2.t k7)).trans k' (fun k h1 h2 => by
        rcases h2 with rfl | h2
        · omega
        · have := List.mem_singleton.1 h2; omega), .inl ⟨rfl, fun j hj => hfit j (by omega)⟩⟩)
  · rintro T w7 ⟨⟨_, hno⟩, ⟨_, k7⟩, hTn, hb7⟩ hT hD
    refine ⟨List.nodup_cons.2 ⟨by simp, List.nodup_nil⟩, fun D hD' => by rw [List.mem_singleton.1 hD']; exact hD, fun w8 k8 => ⟨false, (hb7.kp k8 (fun hh => by have := List.mem_singleton.1 hh; omega)).cell0 0, ?_, .inr ⟨rfl, hno⟩⟩⟩
    exact ((k0.t k2).trans k7 (fun k h1 h2 => by have h2 : k = w.heap.size + 1 := h2; omega)).trans k8 (fun k h1 h2 => by have := List.mem_singleton.1 h2; omega)

theorem mFitsN (hz : RdZ w l zs) (hsz : zs.length ≤ 1000) : IsK 70 #[.pointer none, .slice l.a l.len l.cap] w (.bool false) := by
  refine c70n _ _ _ ?_
  unfold B70n
  have a1 := Blk.new w [.pointer none] 72
  have a2 := Blk.new (w.alloc (.cells #[.pointer none] 72)) [.bool false] 4
  have b1 := a1.alloc (.cells #[.bool false] 4)
  have z1 : (w.alloc (.cells #[.pointer none] 72)).heap.size = w.heap.size + 1 := World.size_alloc _ _
  have z2 : ((w.alloc (.cells #[.pointer none] 72)).alloc (.cells #[.bool false] 4)).heap.size = w.heap.size + 2 := by rw [World.size_alloc, z1]
  have k0 : Kp no w ((w.alloc (.cells #[.pointer none] 72)).alloc (.cells #[.bool false] 4)) := ((Kp.refl _ _).alloc _ _).alloc _ _
  clear a1
  rw [z1] at a2 ⊢
  generalize (w.alloc (.cells #[.pointer none] 72)).alloc (.cells #[.bool false] 4) = w1 at *
  refine use (nNew w1 l) ?_
  rintro _ w2 ⟨rfl, hb, k2⟩
  have s2 := k2.size
  have hit := nIter hb hz (k0.t k2) (by omega)
  refine ⟨_, rfl, _, #[], #[.pointer (some ⟨w1.heap.size, 0, none⟩)], rfl, by decide +kernel, zs.length - 1, fun j => wz zs j, fun j => wz zs (j + 1), nbD w l w1.heap.size, ?_⟩
  refine ⟨fun j T W => ((∀ k, T k → w2.heap.size ≤ k) ∧ Kp no w2 W),
    fun o T W => (o = none) ∧ (((∀ k, T k → w2.heap.size ≤ k) ∧ Kp (fun k => k = w.heap.size + 1) w2 W) ∧ (¬ T (w.heap.size + 1) ∧ Blk W (w.heap.size + 1) [.bool false] 4)),
    hit, fun k hk => ?_, fun j => stab_kp, fun o => stab_and (stab_const _) (stab_and stab_kp stab_blk), ⟨fun k hk => hk.elim, Kp.refl _ _⟩, ?_, ?_, ?_, trivial⟩
  · rcases hk with ⟨_, hk⟩ | rfl
    · omega
    · exact hb.lt
  · rintro j T w7 hj hJ hT hT0 hT1 hTb
    refine ⟨Kp.refl _ _, fun w8 k8 => ?_⟩
    obtain ⟨_, k8n⟩ := stab_kp T T w7 w8 hJ ⟨k8.mono (fun k _ e => by subst e; exact hT1), fun _ h => h, fun _ h => .inl h⟩
    refine ⟨_, (b1.kp (k2.t k8n) id).cell0 0, usei (mRankN _ _ _) ⟨_, rfl, br_y (by omega) ?_⟩⟩
    obtain ⟨e1, e2, hb9, e4⟩ := setc (v := .bool false) ((a2.kp k2 id).kp k8n id)
    have hTn : ¬ T (w.heap.size + 1) := fun hh => by have := hT _ hh; omega
    have hDn : ¬ nbD w l w1.heap.size (w.heap.size + 1) := by rintro (⟨_, hh⟩ | hh) <;> omega
    refine ⟨e1, e2, e4 (fun k => ¬ T k ∧ ¬ nbD w l w1.heap.size k) ⟨hTn, hDn⟩, rfl, ⟨hT, ?_⟩, hTn, hb9⟩
    exact (k8n.mono (fun _ _ f => f.elim)).trans (e4 (fun k => k = w.heap.size + 1) rfl) (fun _ _ h => h)
  · rintro T w7 ⟨_, k7⟩ hT hD
    have a7 := (a2.kp k2 id).kp k7 id
    refine ⟨_, (b1.kp (k2.t k7) id).cell0 0, ?_⟩
    exact retc (b := false) (R := fun u w' => u = Value.bool false ∧ Kp no w w') a7 (List.nodup_cons.2 ⟨by simp, List.nodup_nil⟩) (fun D hD' => by rw [List.mem_singleton.1 hD']; exact hD)
      (fun w' k' => ⟨rfl, (k0.t (k2.t k7)).trans k' (fun k h1 h2 => by
        rcases h2 with rfl | h2
        · omega
        · have := List.mem_singleton.1 h2; omega)⟩)
  · rintro T w7 ⟨_, ⟨_, k7⟩, hTn, hb7⟩ hT hD
    refine ⟨List.nodup_cons.2 ⟨by simp, List.nodup_nil⟩, fun D hD' => by rw [List.mem_singleton.1 hD']; exact hD, fun w8 k8 => ⟨false, (hb7.kp k8 (fun hh => by have := List.mem_singleton.1 hh; omega)).cell0 0, rfl, ?_⟩⟩
    exact ((k0.t k2).trans k7 (fun k h1 h2 => by have h2 : k = w.heap.size + 1 := h2; omega)).trans k8 (fun k h1 h2 => by have := List.mem_singleton.1 h2; omega)
end Go.Proofs.Ytmpgklgjmkcpdaa.V
