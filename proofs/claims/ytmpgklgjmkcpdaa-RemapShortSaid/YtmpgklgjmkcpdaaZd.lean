/- Words behind words: ranks of words, words of ranks. -/
import Derived.Test.YtmpgklgjmkcpdaaZc
namespace Go.VC
open Go
theorem stab_ex {α : Type} {J : α → (Nat → Prop) → World → Prop} (h : ∀ x, Stab (J x)) : Stab (fun T w => ∃ x, J x T w) := fun T T' w w' ⟨x, hj⟩ hg => ⟨x, h x _ _ _ _ hj hg⟩
theorem stab_own {o : Slc} {e : TypeId} {sz : Nat} {xs : List Value} : Stab (fun T w => (∀ k, On o k → ¬ T k) ∧ Ownd w o e sz xs) := fun T T' w w' hj hg => ⟨fun k hk h => by
  rcases hg.fr k h with g | g
  · exact hj.1 k hk g
  · have := hj.2.on hk; omega, hj.2.kp hg.kp hj.1⟩
end Go.VC
namespace Go.Proofs.Ytmpgklgjmkcpdaa.V
open Go Go.VC
variable {w w' w0 : World} {l la lb : Slc} {zs ks : List Int} {ps : List (Nat × Nat)} {n m r B b : Nat} {v : Value}
theorem own_def {o : Slc} {e : TypeId} {sz D : Nat} {xs : List Value} (h : Ownd w o e sz xs) (hD : w.heap[D]? = some (.deferred (some []))) : ¬ On o D := by
  rintro ⟨a, ha, rfl⟩
  rcases h.cases with ⟨rfl, _⟩ | ⟨g, cur, hg, hb, _⟩
  · cases ha
  · rw [hg] at ha
    obtain rfl := Option.some.inj ha
    rw [show w.heap[g]? = _ from hb] at hD
    cases hD

set_option maxHeartbeats 1000000 in
theorem mShort (h : MapB w m n ps B) (hps : ps.length ≤ 100000000) (hz : RdZ w l zs) (hsz : zs.length ≤ 1000) : Calls Try.prog 67 #[.pointer (some ⟨m, 0, none⟩), .slice l.a l.len l.cap] w (Rv fun v w' => Kp no w w' ∧
    ((v = .tuple #[.slice none 0 0, .int .i64 7] ∧ ∃ j, j + 1 < zs.length ∧ ¬ FitA ps zs j) ∨ (∃ (o : Slc) (rs : List Nat), v = .tuple #[.slice o.a o.len o.cap, .int .i64 0] ∧ RdZ w' o (zl rs) ∧ RanksP ps zs rs (zs.length - 1) ∧ ∀ j, j + 1 < zs.length → FitA ps zs j))) := by
  refine c67 _ _ _ _ ?_
  unfold B67
  have b1 := Blk.new w [.pointer (some ⟨m, 0, none⟩)] 72
  have k1 : Kp no w (w.alloc (.cells #[.pointer (some ⟨m, 0, none⟩)] 72)) := (Kp.refl _ _).alloc _ _
  have z1 : (w.alloc (.cells #[.pointer (some ⟨m, 0, none⟩)] 72)).heap.size = w.heap.size + 1 := World.size_alloc _ _
  generalize w.alloc (.cells #[.pointer (some ⟨m, 0, none⟩)] 72) = w1 at *
  refine ⟨_, b1.cell0 0, use (mFits (h.kpo k1) (hz.kpo k1) hsz) ?_⟩
  rintro _ w3 ⟨k3, ⟨rfl, hfit⟩ | ⟨rfl, hno⟩⟩
  · refine ⟨_, rfl, brF ?_⟩
    have k13 := k1.t k3
    have s3 := k3.size
    have bO := Blk.new w3 [.slice none 0 0] 22
    have k4 : Kp no w3 (w3.alloc (.cells #[.slice none 0 0] 22)) := (Kp.refl _ _).alloc _ _
    have z4 : (w3.alloc (.cells #[.slice none 0 0] 22)).heap.size = w3.heap.size + 1 := World.size_alloc _ _
    generalize w3.alloc (.cells #[.slice none 0 0] 22) = w4 at *
    refine use (nNew w4 l) ?_
    rintro _ w7 ⟨rfl, hb, k7⟩
    have hbl := hb.lt
    have s7 := k7.size
    have k07 : Kp no w w7 := k13.t (k4.t k7)
    have hit := nIter hb hz k07 (by omega)
    refine ⟨_, rfl, _, #[], #[.pointer (some ⟨w4.heap.size, 0, none⟩)], rfl, by decide +kernel, zs.length - 1, fun j => wz zs j, fun j => wz zs (j + 1), nbD w l w4.heap.size, ?_⟩
    refine ⟨fun j T W => ((∀ k, T k → w7.heap.size ≤ k) ∧ Kp (fun k => k = w3.heap.size) w7 W) ∧ ∃ (o : Slc) (rs : List Nat), (¬ T w3.heap.size ∧ Blk W w3.heap.size [.slice o.a o.len o.cap] 22) ∧ ((∀ k, On o k → ¬ T k) ∧ Ownd W o 3 1 ((zl rs).map (Value.int .i64))) ∧ (RanksP ps zs rs j ∧ o.len = j ∧ ∀ k, On o k → w7.heap.size ≤ k),
      fun o T W => False, hit, fun k hk => ?_, fun j => stab_and stab_kp (stab_ex fun o => stab_ex fun rs => stab_and stab_blk (stab_and stab_own (stab_const _))), fun o => stab_const _,
      ⟨⟨fun k hk => hk.elim, Kp.refl _ _⟩, ⟨none, 0, 0⟩, [], ⟨fun hk => hk.elim, bO.kp k7 id⟩, ⟨fun k hk => absurd hk On.nil, Ownd.nil _ _ _⟩, ⟨rfl, fun j hj => by omega⟩, rfl, fun k hk => absurd hk On.nil⟩, ?_, ?_, ?_, trivial⟩
    · rcases hk with ⟨_, hk⟩ | rfl
      · omega
      · exact hbl
    · rintro j T w8 hj hJ hT hT0 hT1 hTb
      refine ⟨Kp.refl _ _, fun w9 k9 => ?_⟩
      obtain ⟨⟨_, k79⟩, o, rs, ⟨hTO, hbO⟩, ⟨hTo, hO⟩, hrs, hol, hof⟩ := (stab_and stab_kp (stab_ex fun o : Slc => stab_ex fun rs : List Nat => stab_and stab_blk (stab_and stab_own (stab_const (RanksP ps zs rs j ∧ o.len = j ∧ ∀ k, On o k → w7.heap.size ≤ k))))) T T w8 w9 hJ ⟨k9.mono (fun k _ e => by subst e; exact hT1), fun _ h => h, fun _ h => .inl h⟩
      have kd : Kp no w9 w9.drew := (Kp.refl no w9).drew
      have k09 : Kp no w w9 := k07.trans k79 (fun k h1 h2 => by have h2 : k = w3.heap.size := h2; omega)
      have b19 := (b1.kp (k3.t (k4.t k7)) id).kp k79 (fun hh => by have hh : w.heap.size = w3.heap.size := hh; omega)
      refine ⟨o, hbO.drew.cell0 0, _, b19.drew.cell0 0, use (mRank (h.kpo (k09.t kd)) _ _) ?_⟩
      rintro _ w10 ⟨k10, x, rfl, hx⟩
      obtain ⟨i, hi, hv⟩ := hfit j (by omega)
      have hx0 : 0 ≤ x := by
        rcases hx with ⟨_, hx⟩ | ⟨i, rfl, _⟩
        · exact absurd hv (hx i hi)
        · omega
      obtain ⟨x, rfl⟩ : ∃ y : Nat, x = y := ⟨x.toNat, by omega⟩
      have k910 : Kp no w9 w10 := kd.t k10
      have hb10 := hbO.kp k910 id
      have hO10 := hO.kp k910 (fun _ _ f => f)
      have hnO : ¬ On o w3.heap.size := fun hh => by have := hof _ hh; omega
      obtain ⟨w11, o2, hr11, hu11, hf11, hb11, hO11, hn11, hl11, k11, f11⟩ := fapp (c := 0) (ty := 22) elI hb10 (by simp) hO10 hnO (.int .i64 (x : Int)) rfl (by simp only [maxLen]; omega) (by omega)
      rw [add0] at hu11 hf11 hb11 hO11 k11
      refine ⟨_, rfl, hb10.cell0 0, (hb10.alloc _).cell0 0, w11, o2, hr11, hu11, hf11, ?_⟩
      have ke : Kp (fun k => k = w3.heap.size ∨ On o k) w9 (w11.setCell ⟨w3.heap.size, 0, none⟩ (.slice o2.a o2.len o2.cap)) := (k910.mono (fun _ _ f => f.elim)).trans k11 (fun _ _ h => h)
      have s9 := k79.size
      have s910 := k910.size
      generalize w11.setCell ⟨w3.heap.size, 0, none⟩ (.slice o2.a o2.len o2.cap) = w12 at *
      have e : (zl rs).map (Value.int .i64) ++ [.int .i64 (x : Int)] = (zl (rs ++ [x])).map (Value.int .i64) := by simp
      rw [e] at hO11
      refine ⟨ke.mono (fun k h1 h2 => ?_), ⟨hT, k79.trans ke (fun k h1 h2 => ?_)⟩, o2, rs ++ [x], ⟨hTO, hb11⟩, ⟨fun k hk hh => ?_, hO11⟩, hrs.snoc hx, by omega, fun k hk => ?_⟩
      · rcases h2 with rfl | h2
        · exact ⟨hTO, by rintro (⟨_, hh⟩ | hh) <;> omega⟩
        · exact ⟨hTo k h2, by
            have := hof k h2
            rintro (⟨_, hh⟩ | hh) <;> omega⟩
      · rcases h2 with rfl | h2
        · rfl
        · have := hof k h2; omega
      · rcases f11 k hk with g | g
        · exact hTo k g hh
        · have := hTb k hh; have := k9.size; omega
      · rcases f11 k hk with g | g
        · exact hof k g
        · omega
    · rintro T w8 ⟨⟨_, k78⟩, o, rs, ⟨hTO, hbO⟩, ⟨hTo, hO⟩, hrs, hol, hof⟩ hT hD
      refine ⟨o, hbO.cell0 0, List.nodup_cons.2 ⟨by simp, List.nodup_nil⟩, fun D hD' => by rw [List.mem_singleton.1 hD']; exact hD, fun w9 k9 => ⟨?_, .inr ⟨o, rs, rfl, ?_, hrs, hfit⟩⟩⟩
      · exact (k07.trans k78 (fun k h1 h2 => by have h2 : k = w3.heap.size := h2; omega)).trans k9 (fun k h1 h2 => by have := List.mem_singleton.1 h2; omega)
      · have hO9 := hO.kp k9 (fun k h1 h2 => by have := List.mem_singleton.1 h2; subst this; exact own_def hO hD h1)
        refine ownZ hO9 (fun z hz2 => ?_)
        obtain ⟨y, hy, rfl⟩ := List.mem_map.1 hz2
        obtain ⟨i, hi, rfl⟩ := List.getElem_of_mem hy
        have hri := hrs.2 i (by rw [← hrs.1]; exact hi)
        have e : wg rs i = rs[i] := by unfold wg; rw [List.getElem?_eq_getElem hi]; rfl
        have hbl2 := bhZ_len ps (wz zs i)
        have hpl : ps.length ≤ 100000000 := hps
        rcases hri with ⟨q, _⟩ | ⟨k, q, hk, _⟩ <;> omega
    · rintro T w8 hh
      exact hh.elim
  · refine ⟨_, rfl, brT ⟨List.nodup_nil, (fun D hD => by cases hD), fun w5 k5 => ⟨(k1.t k3).trans k5 (fun k h1 h2 => by cases h2), .inl ⟨rfl, hno⟩⟩⟩⟩
end Go.Proofs.Ytmpgklgjmkcpdaa.V
