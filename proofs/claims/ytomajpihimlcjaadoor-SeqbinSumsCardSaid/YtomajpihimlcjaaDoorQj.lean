/- Sums as bytes; the law on them (doors only). -/
import Derived.Test.YtomajpihimlcjaaDoorQi
namespace Go.Proofs.YtomajpihimlcjaaDoor.V
open Go Go.VC
variable {w w' w0 W W' wC : World} {l o lr l1 l2 : Slc} {b1 b2 bits : List Bool} {ls xs ws ds : List Nat} {zs : List Int} {bs rest t : List UInt8} {s r x b p q wd N B m n bad : Nat}

/-- A writer, some steps and a step of its own later. -/
theorem Ws.over {o' : Slc} {bs' : List UInt8} {w1 w2 : World} (h : Ws w b o w1 o bs) (k : Kp no w w1) (g : Ws w1 b o w2 o' bs') : Ws w b o w2 o' bs' :=
  ⟨g.blk, g.own, g.ne, (k.mono (S' := RF b o) (fun _ _ f => f.elim)).trans g.kp (fun _ _ h => h), fun j hj => (g.fr j hj).elim .inl (fun e => .inr (Nat.le_trans k.size e))⟩
theorem Ws.mark {w1 w2 : World} {D : Nat} {o' : Slc} {bs' : List UInt8} (g : Ws w b o w1 o' bs') (hb : b ≠ D) (ho : ∀ k, On o' k → k ≠ D) (hD : w.heap.size ≤ D) (k : Kp (fun k => k ∈ [D]) w1 w2) : Ws w b o w2 o' bs' :=
  ⟨g.blk.kp k (fun h => hb (List.mem_singleton.1 h)), g.own.kp k (fun j hj h => ho j hj (List.mem_singleton.1 h)), g.ne, g.kp.trans k (fun j h1 h2 => by rw [List.mem_singleton.1 h2] at h1; omega), g.fr⟩

theorem pre_succ (ds : List Nat) (m : Nat) : (List.range (m + 1 + 1)).map (S0 ds) = (List.range (m + 1)).map (S0 ds) ++ [S0 ds (m + 1)] := by
  rw [List.range_succ, List.map_append]; rfl
theorem pre_at (ds : List Nat) {m i : Nat} (h : i < m) : wg ((List.range m).map (S0 ds)) i = S0 ds i := by unfold wg; simp [h]

theorem putSums (h0 : PreB wC p ds B) (kC : Kp (fun k => k < B) wC w) (hW : Ws w b o w o bs) (hb0 : ∀ k, RF b o k → 0 < k) (ht : Tab w) (hsz : ds.length ≤ 1000) (hbs : bs.length ≤ 100000000) :
    Calls Tryd.prog 70 #[.pointer (some ⟨b, 0, none⟩), .pointer (some ⟨p, 0, none⟩)] w (Rv fun u w' => u = .tuple #[] ∧ ∃ o', Ws w b o w' o' (bs ++ seqBytes (sumsOf ds))) := by
  have hp : PreB w p ds B := h0.kp kC (fun k h1 h2 => by omega)
  have hsum : ds.sum ≤ 1099511627776 := by obtain ⟨_, _, _, h3, _⟩ := hp; exact h3
  have hpos := ht.pos
  have hRl : ∀ k, RF b o k → k < w.heap.size := fun k hk => by
    rcases hk with rfl | hk
    · exact hW.blk.lt
    · exact hW.own.on hk
  refine c70 _ _ _ _ ?_
  unfold B70
  have ho0 : Ownd (w.alloc (.cells #[.int .i64 0] 3)) ⟨some ⟨w.heap.size, 0, none⟩, 1, 1⟩ 3 1 (((List.range (0 + 1)).map (S0 ds)).map IV) := Ownd.mk' (cur := [IV 0]) rfl (Blk.new _ _ _) (Nat.le_refl _) (by simp [maxLen]) rfl rfl
  have ka : Kp no w (w.alloc (.cells #[.int .i64 0] 3)) := (Kp.refl _ _).alloc _ _
  have sa : (w.alloc (.cells #[.int .i64 0] 3)).heap.size = w.heap.size + 1 := World.size_alloc _ _
  generalize (w.alloc (.cells #[.int .i64 0] 3)) = wa at *
  have x0 := Blk.new wa [.slice none 0 0] 37
  obtain ⟨e1, e2, x1, e4⟩ := setc (v := .slice (some ⟨w.heap.size, 0, none⟩) 1 1) x0
  have kb : Kp no wa ((wa.alloc (.cells #[.slice none 0 0] 37)).setCell ⟨wa.heap.size, 0, none⟩ (.slice (some ⟨w.heap.size, 0, none⟩) 1 1)) := ((Kp.refl _ _).alloc _ _).trans (e4 (fun k => k = wa.heap.size) rfl) (fun k h1 h2 => by omega)
  have sb : ((wa.alloc (.cells #[.slice none 0 0] 37)).setCell ⟨wa.heap.size, 0, none⟩ (.slice (some ⟨w.heap.size, 0, none⟩) 1 1)).heap.size = wa.heap.size + 1 := by simp
  refine ⟨e1, e2, ?_⟩
  clear e1 e2 e4 x0
  generalize ((wa.alloc (.cells #[.slice none 0 0] 37)).setCell ⟨wa.heap.size, 0, none⟩ (.slice (some ⟨w.heap.size, 0, none⟩) 1 1)) = wb at *
  have k0b := ka.t kb
  refine use (xAll wb p) ?_
  rintro _ w2 ⟨bq, rfl, hbq, k2, fbq⟩
  have hbql := hbq.lt
  have k02 := k0b.t k2
  have s2 := k2.size
  have hit := xIter hp k02 (by omega) hbq (ht.kpo k02)
  have x2 := x1.kp k2 id
  have o2 := ho0.kp (kb.t k2) (fun _ _ f => f)
  have stabQ : ∀ m, Stab (fun T W => ∃ q : Slc, ((∀ k, On q k → w.heap.size ≤ k ∧ ¬ T k) ∧ Ownd W q 3 1 (((List.range (m + 1)).map (S0 ds)).map IV)) ∧ (¬ T wa.heap.size ∧ Blk W wa.heap.size [.slice q.a q.len q.cap] 37) ∧ ∀ k, On q k → k ≠ wa.heap.size ∧ k ≠ bq) := fun m T T' W W' hj hg2 => by
    obtain ⟨q, h1, h2, h3⟩ := hj
    exact ⟨q, stab_own T T' W W' h1 hg2, stab_blk T T' W W' h2 hg2, h3⟩
  refine ⟨_, rfl, _, #[], #[.pointer (some ⟨bq, 0, none⟩)], rfl, by decide +kernel, ds.length, fun j => (j : Int), fun j => (wg ds j : Nat), fun x => x = 0 ∨ x = bq ∨ (B ≤ x ∧ x < w.heap.size),
    fun m T W => ((∀ k, T k → w2.heap.size ≤ k) ∧ Kp (fun k => w.heap.size ≤ k) w2 W) ∧ ∃ q : Slc, ((∀ k, On q k → w.heap.size ≤ k ∧ ¬ T k) ∧ Ownd W q 3 1 (((List.range (m + 1)).map (S0 ds)).map IV)) ∧ (¬ T wa.heap.size ∧ Blk W wa.heap.size [.slice q.a q.len q.cap] 37) ∧ ∀ k, On q k → k ≠ wa.heap.size ∧ k ≠ bq,
    fun _ _ _ => False, hit, fun k hk => by omega, fun m => stab_and stab_kp (stabQ m), fun _ => stab_const _,
    ⟨⟨fun _ f => f.elim, Kp.refl _ _⟩, ⟨some ⟨w.heap.size, 0, none⟩, 1, 1⟩, ⟨fun k hk => by obtain ⟨a, ha, rfl⟩ := hk; cases ha; exact ⟨Nat.le_refl _, id⟩, o2⟩, ⟨fun f => f.elim, x2⟩, fun k hk => by obtain ⟨a, ha, rfl⟩ := hk; cases ha; exact ⟨by simp only; omega, by simp only; omega⟩⟩, ?_, ?_, ?_, trivial⟩
  · rintro m T w13 hm hJ hT hTH hTH1 hTb
    refine ⟨Kp.refl _ _, fun w14 k14 => ?_⟩
    obtain ⟨⟨_, kw⟩, q, ⟨fq, hq⟩, ⟨nT, pq⟩, fne⟩ := (stab_and stab_kp (stabQ m)) T T w13 w14 hJ ⟨k14.mono (fun k _ e => by subst e; exact hTH1), fun _ h => h, fun _ h => .inl h⟩
    have s14 := k14.size
    have skw := kw.size
    have hql := hq.len
    rw [List.length_map, List.length_map, List.length_range] at hql
    have kd : Kp no w14 w14.drew := (Kp.refl _ _).drew
    have pd := pq.kp kd id
    have hqd := hq.kp kd (fun _ _ f => f)
    obtain ⟨a, ha, hc⟩ := hqd.rdI.at (i := (m : Int)) (by omega) (by omega)
    rw [Int.toNat_natCast, pre_at _ (by omega)] at hc
    have hsu := S0_succ hm
    have hle := S0_le (l := ds) (m := m + 1)
    have e2 : IntKind.i64.wrap (((S0 ds m : Nat) : Int) + ((wg ds m : Nat) : Int)) = ((S0 ds (m + 1) : Nat) : Int) := by rw [w64 ⟨by omega, by omega⟩]; omega
    dsimp only
    refine ⟨q, pd.cell0 0, q, pd.cell0 0, by omega, by omega, a, ha, _, by rw [Int.toNat_natCast]; exact hc, ?_⟩
    rw [e2]
    obtain ⟨w21, q', hr21, hq21, hl21, k21, f21⟩ := append_one (ty := 37) elI hqd (IV (S0 ds (m + 1))) rfl (by simp only [maxLen]; omega) (by omega)
    have p21 := pd.kp k21 (fun hk => (fne _ hk).1 rfl)
    obtain ⟨e3, e4, p22, e5⟩ := setc (v := .slice q'.a q'.len q'.cap) p21
    have fq' : ∀ k, On q' k → On q k ∨ w14.heap.size ≤ k := f21
    have k1421 : Kp (On q) w14 w21 := (kd.mono (S' := On q) (fun _ _ f => f.elim)).trans k21 (fun _ _ h => h)
    refine ⟨(pd.alloc _).cell0 0, w21, q', hr21, e3, e4, ?_, ⟨hT, ?_⟩, q', ⟨fun k hk => ?_, ?_⟩, ⟨nT, p22⟩, fun k hk => ?_⟩
    · refine (k1421.mono (fun k h1 hk => ⟨(fq k hk).2, fun h => by have := (fq k hk).1; have := (fne k hk).2; omega⟩)).trans (e5 (fun k => k = wa.heap.size) rfl) (fun k _ h => by subst h; exact ⟨nT, by omega⟩)
    · exact (kw.trans k1421 (fun k h1 h2 => (fq k h2).1)).trans (e5 (fun k => k = wa.heap.size) rfl) (fun k h1 h2 => by subst h2; omega)
    · rcases fq' k hk with g | g
      · exact fq k g
      · exact ⟨by omega, fun h => by have := hTb k h; omega⟩
    · rw [pre_succ, List.map_append]
      exact hq21.set_other _ _ (fun hk => by
        rcases fq' _ hk with g | g
        · exact (fne _ g).1 rfl
        · simp only at g; omega)
    · rcases fq' k hk with g | g
      · exact fne k g
      · exact ⟨by omega, by omega⟩
  · rintro T w24 ⟨⟨_, kw⟩, q, ⟨fq, hq⟩, ⟨nT, pq⟩, fne⟩ ⟨hT, hTH⟩ hDef
    have s24 := kw.size
    have hql := hq.len
    rw [List.length_map, List.length_map, List.length_range] at hql
    have hgs := sumsOf_good hsum
    have hrz : RdZ w24 q (zl (sumsOf ds)) := ownZ (by rw [show (zl (sumsOf ds)).map (Value.int .i64) = (sumsOf ds).map IV by rw [List.map_map]; rfl]; exact hq) (sumsOf_bnd hsum)
    refine ⟨q, pq.cell0 0, use (eNew0 hrz (by rw [zl_len, sumsOf_len]; omega) (.inl ⟨rfl, okE_of hgs⟩)) ?_⟩
    rintro _ w27 ⟨k27, s, ls, rfl, hz, hs⟩
    have hz := zl_inj hz
    subst hz
    have hDl := heap_lt hDef
    have k024 : Kp no w w24 := k02.trans kw (fun k h1 h2 => by omega)
    have k027 := k024.t k27
    have s27 := k27.size
    have hW27 := hW.kpo k027
    refine ⟨_, _, rfl, use (putSeq hs (Kp.refl _ _) hW27.here (fun k hk => ⟨hb0 k hk, .inl (by have := hRl k hk; have := k024.size; omega)⟩) (ht.kpo k027) (by rw [sumsOf_len]; omega) hbs) ?_⟩
    rintro _ w31 ⟨rfl, o', hW31⟩
    have hWw := Ws.over hW27 k027 hW31
    have hD31 : w31.heap[w2.heap.size]? = some (.deferred (some [])) := by
      have h27 := (k27.keep _ hDl (fun f => f)).trans hDef
      exact (hW31.kp.keep _ (heap_lt h27) (fun h => by have := hRl _ h; omega)).trans h27
    refine ⟨rfl, List.nodup_cons.2 ⟨by simp, List.nodup_nil⟩, fun D hD => by rw [List.mem_singleton.1 hD]; exact hD31, fun w32 k32 => ⟨rfl, o', hWw.mark (by have := hRl b (.inl rfl); omega) (fun k hk => ?_) (by omega) k32⟩⟩
    rcases hW31.fr k hk with g | g
    · have := hRl k (.inr g); omega
    · omega
  · rintro T w34 hh
    exact hh.elim

/-! ### nothing -/
theorem eLenN' (w : World) : Is 43 #[.pointer none] w (.int .i64 0) := c43n _ _ ⟨rfl, rfl⟩
theorem putRowN (hW : Ws w0 b l w o bs) (hbs : bs.length ≤ 1000000000) :
    Calls Tryd.prog 49 #[.pointer (some ⟨b, 0, none⟩), .pointer none] w (Rv fun u w' => u = .tuple #[] ∧ ∃ o', Ws w0 b l w' o' (bs ++ [])) := by
  refine c49n1 _ _ _ ?_
  unfold B49n1
  have e1 : IntKind.i64.wrap (IntKind.i64.wrap (Int.tdiv (0 : Int) 8) + 1) = ((1 : Nat) : Int) := by decide
  refine usei (nLen w) ⟨_, rfl, by omega, ?_⟩
  rw [e1]
  obtain ⟨w1, o1, hm1, _, ho1, k1, f1⟩ := make_own2 (P := Tryd.prog) (z := .int .u8 0) (bytes := 1) und8s (by kernel_rfl) (by kernel_rfl) rfl w 0 1 (by omega) (by omega) (by omega)
  refine ⟨w1, o1, hm1, usei (nLen w1) ⟨_, rfl, ?_⟩⟩
  refine ⟨fun q i w' => i = 0 ∧ Ownd w' q 5 1 (([] : List UInt8).map V8) ∧ Kp no w w', fun _ i _ => 0, ⟨rfl, ho1, k1⟩, ?_⟩
  rintro q i w2 ⟨rfl, hq, k2⟩
  refine br_dec (fun hlt => absurd hlt (by omega)) (fun hlt => ?_)
  refine ⟨w2, _, to_str und8s und8 undS hq, use (wRaw (hW.kpo k2) (by omega) [] (by simp)) ?_⟩
  rintro _ w3 ⟨rfl, o', h3⟩
  exact ⟨rfl, rfl, o', h3⟩
theorem putSeqN (hW : Ws w b o w o bs) (hbs : bs.length ≤ 100000000) :
    Calls Tryd.prog 37 #[.pointer (some ⟨b, 0, none⟩), .pointer none] w (Rv fun u w' => u = .tuple #[] ∧ ∃ o', Ws w b o w' o' (bs ++ enc 0)) := by
  refine c37n1 _ _ _ ?_
  unfold B37n1
  refine usei (eLenN' w) ⟨_, rfl, use (wNum hW (by omega) 0 (by omega)) ?_⟩
  rintro _ w2 ⟨rfl, o2, hV⟩
  exact ⟨rfl, usei (eLenN' w2) ⟨_, rfl, br_n (by omega) ⟨rfl, o2, hV⟩⟩⟩
theorem putPackN (hW : Ws w b o w o bs) (hbs : bs.length ≤ 100000000) :
    Calls Tryd.prog 58 #[.pointer (some ⟨b, 0, none⟩), .pointer none] w (Rv fun u w' => u = .tuple #[] ∧ ∃ o', Ws w b o w' o' (bs ++ enc 0 ++ enc 0)) := by
  refine c58n1 _ _ _ ?_
  unfold B58n1
  have el := enc_len 0
  refine usei (pWidthN w) ⟨_, rfl, use (wNum hW (by omega) 0 (by omega)) ?_⟩
  rintro _ w2 ⟨rfl, o2, hV⟩
  refine ⟨rfl, usei (pLenN w2) ⟨_, rfl, use (wNum hV (by rw [List.length_append]; omega) 0 (by omega)) ?_⟩⟩
  rintro _ w3 ⟨rfl, o3, hV3⟩
  refine ⟨rfl, usei (pWordsN w3) ⟨⟨none, 0, 0⟩, rfl, usei (pWidthN w3) ⟨_, rfl, usei (pLenN w3) ⟨_, rfl, ?_⟩⟩⟩⟩
  have hrw : RdW w3 ⟨none, 0, 0⟩ [] := ⟨rfl, (fun i hi => by simp at hi), fun x hx => by cases hx⟩
  have e1 : IntKind.i64.wrap ((0 : Int) * 0) = ((0 : Nat) : Int) := by decide
  rw [e1]
  refine use (of1 hrw (by simp) _ ⟨by omega, by omega⟩) ?_
  rintro _ w5 ⟨k5, hof⟩
  rcases hof with ⟨_, hx⟩ | ⟨_, _, _, hx⟩ | ⟨r, lr, rfl, _, _, _, hr, fr⟩
  · rcases hx with g | g
    · omega
    · exact absurd rfl g
  · exact absurd rfl hx
  refine ⟨_, _, rfl, use (putRow (hV3.kpo k5) ⟨r, rfl, lr, hr⟩ (by simp [bitsW]) (by rw [List.length_append, List.length_append]; omega)) ?_⟩
  rintro _ w6 ⟨rfl, o6, hV6⟩
  have e2 : rowBytes (bitsW [] ((0 : Nat) : Int).toNat) = [] := rfl
  rw [e2, List.append_nil] at hV6
  exact ⟨rfl, rfl, o6, hV6⟩
theorem xIterN (bd : Blk w q [.pointer none] 56) : Iter Tryd.prog 106 [] [.pointer (some ⟨q, 0, none⟩)] w 0 (fun j => [.int .i64 (j : Int), .int .i64 ((0 : Nat) : Int)]) (fun x => x = q) := by
  intro lp J X w1 k1 hJ hX hr hz
  refine c106 (.func (.yield lp) #[] #[]) ⟨q, 0, none⟩ _ _ ?_
  unfold B106
  have ecs : (⟨cellsL (Value.func (.yield lp) #[] #[])⟩ : Array Value) = #[.func (.yield lp) #[] #[]] := rfl
  rw [ecs]
  have kA : Kp no w1 (w1.alloc (.cells #[.func (.yield lp) #[] #[]] 100)) := (Kp.refl _ _).alloc _ _
  generalize (w1.alloc (.cells #[.func (.yield lp) #[] #[]] 100)) = wa at *
  exact ⟨_, (bd.kp (k1.t kA) id).cell0 0, List.nodup_nil, (fun D hD => by cases hD), fun w7 k7 => ⟨no, fun _ f => f.elim, .inl ((hJ 0).no hz (kA.t (k7.mono (fun _ _ h => by cases h))))⟩⟩
theorem xAllN (w : World) : Calls Tryd.prog 35 #[.pointer none] w (Rv fun v w' => ∃ q, v = .func (.func 106) #[] #[.pointer (some ⟨q, 0, none⟩)] ∧ Blk w' q [.pointer none] 56 ∧ Kp no w w' ∧ w.heap.size ≤ q) := by
  refine c35n _ _ ?_
  unfold B35n
  exact ⟨_, rfl, Blk.new _ _ _, (Kp.refl _ _).alloc _ _, Nat.le_refl _⟩
theorem putSumsN (hW : Ws w b o w o bs) (hb0 : ∀ k, RF b o k → 0 < k) (ht : Tab w) (hbs : bs.length ≤ 100000000) :
    Calls Tryd.prog 70 #[.pointer (some ⟨b, 0, none⟩), .pointer none] w (Rv fun u w' => u = .tuple #[] ∧ ∃ o', Ws w b o w' o' (bs ++ seqBytes [0])) := by
  have hpos := ht.pos
  have hRl : ∀ k, RF b o k → k < w.heap.size := fun k hk => by
    rcases hk with rfl | hk
    · exact hW.blk.lt
    · exact hW.own.on hk
  refine c70n1 _ _ _ ?_
  unfold B70n1
  have ho0 : Ownd (w.alloc (.cells #[.int .i64 0] 3)) ⟨some ⟨w.heap.size, 0, none⟩, 1, 1⟩ 3 1 (([0] : List Nat).map IV) := Ownd.mk' (cur := [IV 0]) rfl (Blk.new _ _ _) (Nat.le_refl _) (by simp [maxLen]) rfl rfl
  have ka : Kp no w (w.alloc (.cells #[.int .i64 0] 3)) := (Kp.refl _ _).alloc _ _
  have sa : (w.alloc (.cells #[.int .i64 0] 3)).heap.size = w.heap.size + 1 := World.size_alloc _ _
  generalize (w.alloc (.cells #[.int .i64 0] 3)) = wa at *
  have x0 := Blk.new wa [.slice none 0 0] 37
  obtain ⟨e1, e2, x1, e4⟩ := setc (v := .slice (some ⟨w.heap.size, 0, none⟩) 1 1) x0
  have kb : Kp no wa ((wa.alloc (.cells #[.slice none 0 0] 37)).setCell ⟨wa.heap.size, 0, none⟩ (.slice (some ⟨w.heap.size, 0, none⟩) 1 1)) := ((Kp.refl _ _).alloc _ _).trans (e4 (fun k => k = wa.heap.size) rfl) (fun k h1 h2 => by omega)
  have sb : ((wa.alloc (.cells #[.slice none 0 0] 37)).setCell ⟨wa.heap.size, 0, none⟩ (.slice (some ⟨w.heap.size, 0, none⟩) 1 1)).heap.size = wa.heap.size + 1 := by simp
  refine ⟨e1, e2, ?_⟩
  clear e1 e2 e4 x0
  generalize ((wa.alloc (.cells #[.slice none 0 0] 37)).setCell ⟨wa.heap.size, 0, none⟩ (.slice (some ⟨w.heap.size, 0, none⟩) 1 1)) = wb at *
  have k0b := ka.t kb
  refine use (xAllN wb) ?_
  rintro _ w2 ⟨bq, rfl, hbq, k2, fbq⟩
  have hbql := hbq.lt
  have k02 := k0b.t k2
  have s2 := k2.size
  have x2 := x1.kp k2 id
  have o2 := ho0.kp (kb.t k2) (fun _ _ f => f)
  refine ⟨_, rfl, _, #[], #[.pointer (some ⟨bq, 0, none⟩)], rfl, by decide +kernel, 0, fun j => (j : Int), fun j => ((0 : Nat) : Int), fun x => x = bq,
    fun m T W => ((∀ k, T k → w2.heap.size ≤ k) ∧ Kp (fun _ => False) w2 W), fun _ _ _ => False, xIterN hbq, fun k hk => by omega, fun m => stab_kp, fun _ => stab_const _, ⟨fun _ f => f.elim, Kp.refl _ _⟩, ?_, ?_, ?_, trivial⟩
  · rintro m T w13 hm
    omega
  · rintro T w24 ⟨_, kw⟩ ⟨hT, hTH⟩ hDef
    have s24 := kw.size
    have x24 := x2.kp kw (fun f => f)
    have o24 := o2.kp kw (fun _ _ f => f)
    have hg0 : GoodL [0] := ⟨fun i j h1 h2 => by
      have : i = 0 ∧ j = 0 := by simp at h2; omega
      rw [this.1, this.2]; exact Nat.le_refl _, fun x hx => by rw [List.mem_singleton.1 hx]; omega⟩
    have hrz : RdZ w24 ⟨some ⟨w.heap.size, 0, none⟩, 1, 1⟩ (zl [0]) := ownZ o24 (fun z hz => by
      have : z = 0 := by simpa using hz
      omega)
    refine ⟨⟨some ⟨w.heap.size, 0, none⟩, 1, 1⟩, x24.cell0 0, use (eNew0 hrz (by simp) (.inl ⟨rfl, okE_of hg0⟩)) ?_⟩
    rintro _ w27 ⟨k27, s, ls, rfl, hz, hs⟩
    have hz := zl_inj hz
    subst hz
    have hDl := heap_lt hDef
    have k024 : Kp no w w24 := k02.trans kw (fun k h1 h2 => h2)
    have k027 := k024.t k27
    have s27 := k27.size
    have hW27 := hW.kpo k027
    refine ⟨_, _, rfl, use (putSeq hs (Kp.refl _ _) hW27.here (fun k hk => ⟨hb0 k hk, .inl (by have := hRl k hk; have := k024.size; omega)⟩) (ht.kpo k027) (by simp) hbs) ?_⟩
    rintro _ w31 ⟨rfl, o', hW31⟩
    have hWw := Ws.over hW27 k027 hW31
    have hD31 : w31.heap[w2.heap.size]? = some (.deferred (some [])) := by
      have h27 := (k27.keep _ hDl (fun f => f)).trans hDef
      exact (hW31.kp.keep _ (heap_lt h27) (fun h => by have := hRl _ h; omega)).trans h27
    refine ⟨rfl, List.nodup_cons.2 ⟨by simp, List.nodup_nil⟩, fun D hD => by rw [List.mem_singleton.1 hD]; exact hD31, fun w32 k32 => ⟨rfl, o', hWw.mark (by have := hRl b (.inl rfl); omega) (fun k hk => ?_) (by omega) k32⟩⟩
    rcases hW31.fr k hk with g | g
    · have := hRl k (.inr g); omega
    · omega
  · rintro T w34 hh
    exact hh.elim
end Go.Proofs.YtomajpihimlcjaaDoor.V
