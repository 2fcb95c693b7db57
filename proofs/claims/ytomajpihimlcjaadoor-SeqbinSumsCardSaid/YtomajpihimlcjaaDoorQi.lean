/- Sums out of bytes; the law on any bytes (doors only). -/
import Derived.Test.YtomajpihimlcjaaDoorQh
namespace Go.VC
open Go Go.RowKit
/-- The differences of numbers. -/
def difs (ls : List Nat) (m : Nat) : List Nat := (List.range m).map fun i => wg ls (i + 1) - wg ls i
theorem difs_len (ls : List Nat) (m : Nat) : (difs ls m).length = m := by simp [difs]
theorem difs_succ (ls : List Nat) (m : Nat) : difs ls (m + 1) = difs ls m ++ [wg ls (m + 1) - wg ls m] := by simp [difs, List.range_succ]
theorem difs_sum {ls : List Nat} (hg : GoodL ls) (h0 : wg ls 0 = 0) : ∀ {m : Nat}, m < ls.length → (difs ls m).sum = wg ls m
  | 0, _ => by rw [h0]; rfl
  | m + 1, h => by
    rw [difs_succ, List.sum_append, difs_sum hg h0 (show m < ls.length by omega)]
    have := hg.1 m (m + 1) (by omega) h
    simp; omega
theorem difs_take (ls : List Nat) {m k : Nat} (h : m ≤ k) : (difs ls k).take m = difs ls m := by
  unfold difs; rw [← List.map_take, List.take_range, Nat.min_eq_left h]
theorem sumsOf_difs {ls : List Nat} (hg : GoodL ls) (hn : 0 < ls.length) (h0 : wg ls 0 = 0) : sumsOf (difs ls (ls.length - 1)) = ls := by
  apply List.ext_getElem
  · rw [sumsOf_len, difs_len]; omega
  · intro i h1 h2
    have e := sumsOf_at (l := difs ls (ls.length - 1)) (i := i) (by rw [difs_len]; omega)
    unfold S0 at e
    rw [difs_take _ (by omega), difs_sum hg h0 h2] at e
    unfold wg at e
    rwa [List.getElem?_eq_getElem h1, List.getElem?_eq_getElem h2] at e
theorem SeqG.le {rest rest' : List UInt8} {bad bad' : Nat} {ls : List Nat} (h : SeqG rest bad rest' bad' ls) : ls.length ≤ 1048576 := by
  rcases h with ⟨_, _, _, rfl⟩ | ⟨_, n, _, _, _, hn, ⟨_, _, _, rfl⟩ | ⟨_, _, _, _, rfl⟩ | ⟨_, _, last, _, _, _, _, _, _, bits, _, _, ⟨_, _, rfl⟩ | ⟨_, _, h⟩ | ⟨_, _, rfl, _⟩⟩⟩
  · simp
  · simp
  · simp
  · simp
  · rw [h.2.1]; exact hn
  · simp
theorem SeqG.len8 {rest rest' : List UInt8} {bad bad' : Nat} {ls : List Nat} (h : SeqG rest bad rest' bad' ls) : ls.length ≤ 8 * rest.length ∧ rest'.length ≤ rest.length := by
  have hu : ∀ (r r1 : List UInt8) (a : Int) (b : Nat) (most : Nat), uptoS r 0 (most : Int) = (a, r1, b) → r1.length ≤ r.length := fun r r1 a b most h => by
    obtain ⟨n, r2, b2, h1, _, h3, _⟩ := upto_ex r most
    rw [h1] at h; simp only [Prod.mk.injEq] at h; obtain ⟨_, rfl, _⟩ := h; exact h3
  have hr : ∀ (r r1 : List UInt8) (b b1 m : Nat) (x : List Bool), rowGet r b m = (r1, b1, x) → r1.length ≤ r.length := fun r r1 b b1 m x h => by
    unfold rowGet rowFin at h
    split at h
    · simp only [Prod.mk.injEq] at h; obtain ⟨rfl, _⟩ := h; omega
    · split at h
      · simp only [Prod.mk.injEq] at h; obtain ⟨rfl, _⟩ := h; omega
      · split at h <;> (simp only [Prod.mk.injEq] at h; obtain ⟨rfl, _⟩ := h; rw [List.length_drop]; omega)
  rcases h with ⟨_, rfl, _, rfl⟩ | ⟨_, n, r1, b1, u1, hn, ⟨_, rfl, _, rfl⟩ | ⟨_, _, rfl, _, rfl⟩ | ⟨_, _, last, r2, b2, u2, hl, r3, b3, bits, u3, rfl, h⟩⟩
  · simp
  · exact ⟨by simp, hu _ _ _ _ 1048576 u1⟩
  · exact ⟨by simp, hu _ _ _ _ 1048576 u1⟩
  · have e1 := hu _ _ _ _ 1048576 u1
    have e2 := hu _ _ _ _ 1099511627776 u2
    have e3 := hr _ _ _ _ _ _ u3
    rcases h with ⟨_, _, rfl⟩ | ⟨hb, _, h⟩ | ⟨_, _, rfl, _⟩
    · exact ⟨by simp, by omega⟩
    · refine ⟨?_, by omega⟩
      have := rowGet_le (rest := r2) (bad := b2) (m := n * lowW n last + n + last / 2 ^ lowW (n : Int) (last : Int)) (by rw [u3]; exact hb)
      rw [h.2.1]
      generalize last / 2 ^ lowW (n : Int) (last : Int) = z at *
      omega
    · exact ⟨by simp, by omega⟩
end Go.VC
namespace Go.Proofs.YtomajpihimlcjaaDoor.V
open Go Go.VC
variable {w w' w0 W W' wC : World} {l o lr l1 l2 : Slc} {b1 b2 bits : List Bool} {ls xs ws : List Nat} {zs : List Int} {bs rest t : List UInt8} {s r x b p wd N B m n bad : Nat}

theorem stab_own {q : Slc} {xs : List Value} {lo : Nat} {e : TypeId} : Stab (fun T w => (∀ k, On q k → lo ≤ k ∧ ¬ T k) ∧ Ownd w q e 1 xs) := fun T T' w w' hj hg =>
  ⟨fun k hk => ⟨(hj.1 k hk).1, fun h => by
    rcases hg.fr k h with g | g
    · exact (hj.1 k hk).2 g
    · have := hj.2.on hk; omega⟩, hj.2.kp hg.kp (fun k hk => (hj.1 k hk).2)⟩

theorem getSums (h : RdS w r rest bad) (hr0 : r ≠ 0) (ht : Tab w) (hsz : rest.length ≤ 1000000) :
    Calls Tryd.prog 69 #[.pointer (some ⟨r, 0, none⟩)] w (Rv fun u w' => Kp (fun k => k = r) w w' ∧ ∃ (rest' : List UInt8) (bad' : Nat) (ls : List Nat), SeqG rest bad rest' bad' ls ∧
      ((bad' ≠ 0 ∧ u = .pointer none ∧ RdS w' r rest' bad') ∨ (bad' = 0 ∧ (ls.length = 0 ∨ wg ls 0 ≠ 0) ∧ u = .pointer none ∧ RdS w' r rest' 3) ∨
       (bad' = 0 ∧ 0 < ls.length ∧ wg ls 0 = 0 ∧ RdS w' r rest' 0 ∧ ∃ p B ds, u = .pointer (some ⟨p, 0, none⟩) ∧ PreB w' p ds B ∧ sumsOf ds = ls ∧ w.heap.size ≤ B))) := by
  refine c69 _ _ _ ?_
  unfold B69
  have hrl := h.lt
  refine use (getSeq h hsz) ?_
  rintro u w2 ⟨k2, rest', bad', ls, hG, h2, hu⟩
  have s2 := k2.size
  have hle := hG.le
  obtain ⟨pv, hpv⟩ : ∃ pv : Option Addr, u = .pointer pv := by
    rcases hu with ⟨h, _⟩ | ⟨_, _, _, h, _⟩
    · exact ⟨_, h⟩
    · exact ⟨_, h⟩
  subst hpv
  refine ⟨pv, rfl, ?_⟩
  have x0 := Blk.new w2 [.pointer none] 48
  obtain ⟨e1, e2, x1, e4⟩ := setc (v := .pointer pv) x0
  have k23 : Kp no w2 ((w2.alloc (.cells #[.pointer none] 48)).setCell ⟨w2.heap.size, 0, none⟩ (.pointer pv)) := ((Kp.refl _ _).alloc _ _).trans (e4 (fun k => k = w2.heap.size) rfl) (fun k h1 h2 => by omega)
  have s3 : ((w2.alloc (.cells #[.pointer none] 48)).setCell ⟨w2.heap.size, 0, none⟩ (.pointer pv)).heap.size = w2.heap.size + 1 := by simp
  refine ⟨e1, e2, ?_⟩
  clear e1 e2 e4 x0
  generalize ((w2.alloc (.cells #[.pointer none] 48)).setCell ⟨w2.heap.size, 0, none⟩ (.pointer pv)) = w3 at *
  have h3 := h2.kp k23 (fun f => f)
  have k03 : Kp (fun k => k = r) w w3 := k2.trans k23 (fun _ _ f => f.elim)
  refine usei (qErr h3) ⟨_, rfl, ?_⟩
  rcases hu with ⟨h', hb⟩ | ⟨hb, s, B, h', hs, hB⟩
  · simp only [Value.pointer.injEq] at h'
    subst h'
    exact br_not (br_n (by omega) ⟨List.nodup_nil, (fun D hD => by cases hD), fun w7 k7 => ⟨k03.trans (k7.mono (S' := no) (fun _ _ h => by cases h)) (fun _ _ f => f.elim), rest', bad', ls, hG, .inl ⟨hb, rfl, h3.kp k7 (fun h => by cases h)⟩⟩⟩)
  simp only [Value.pointer.injEq] at h'
  subst h'
  subst hb
  have hg := hs.good
  refine br_not (br_y rfl ⟨_, x1.cell0 0, usek (eAt (hs.kpo k23) (by omega) 0) fun w10 k10 => ⟨_, rfl, ?_⟩⟩)
  have k0A : Kp (fun k => k = r) w w10 := k03.trans k10 (fun _ _ f => f.elim)
  have hA := h3.kp k10 (fun f => f)
  have s10 := k10.size
  refine br_not (br_dec (fun hz => ?_) (fun hz => ?_))
  rotate_left
  · refine use (qFail hA 3 (by decide)) ?_
    rintro _ w13 ⟨rfl, h13, k13⟩
    rw [if_pos rfl] at h13
    refine ⟨rfl, List.nodup_nil, (fun D hD => by cases hD), fun w14 k14 => ⟨(k0A.trans k13 (fun _ _ h => h)).trans (k14.mono (S' := no) (fun _ _ h => by cases h)) (fun _ _ f => f.elim), rest', 0, ls, hG, .inr (.inl ⟨rfl, ?_, rfl, h13.kp k14 (fun h => by cases h)⟩)⟩⟩
    by_cases hn : ls.length = 0
    · exact .inl hn
    · refine .inr fun h0 => hz ?_
      have := atZ_in (l := ls) (i := 0) (by omega)
      rw [show ((0 : Nat) : Int) = 0 from rfl] at this
      rw [this, h0]; rfl
  have hn : 0 < ls.length := by
    rcases Nat.eq_zero_or_pos ls.length with e | e
    · rw [atZ_out (by rw [zl_len]; omega)] at hz; cases hz
    · exact e
  have hz0 : wg ls 0 = 0 := by
    have := atZ_in (l := ls) (i := 0) hn
    rw [show ((0 : Nat) : Int) = 0 from rfl] at this
    omega
  -- the box of the numbers
  have y0 := Blk.new w10 [.slice none 0 0] 37
  have kB : Kp no w10 (w10.alloc (.cells #[.slice none 0 0] 37)) := (Kp.refl _ _).alloc _ _
  have sB : (w10.alloc (.cells #[.slice none 0 0] 37)).heap.size = w10.heap.size + 1 := World.size_alloc _ _
  generalize (w10.alloc (.cells #[.slice none 0 0] 37)) = wb at *
  have k2b : Kp no w2 wb := k23.t (k10.t kB)
  refine ⟨_, (x1.kp (k10.t kB) id).cell0 0, use (eAll wb s) ?_⟩
  rintro _ w17 ⟨bq, rfl, hbq, k17, fbq⟩
  have hbql := hbq.lt
  have k217 := k2b.t k17
  have s17 := k17.size
  have t17 : Tab w17 := (ht.kp k2 (fun e => hr0 e.symm)).kpo k217
  have hit := eIter hs k217 (by omega) hbq t17
  have x17 := x1.kp (k10.t (kB.t k17)) id
  have y17 := y0.kp k17 id
  have h17 := hA.kp (kB.t k17) (fun f => f)
  have stabQ : ∀ m, Stab (fun T W => ∃ q : Slc, ((∀ k, On q k → w17.heap.size ≤ k ∧ ¬ T k) ∧ Ownd W q 3 1 ((difs ls (m - 1)).map IV)) ∧ (¬ T w10.heap.size ∧ Blk W w10.heap.size [.slice q.a q.len q.cap] 37)) := fun m T T' W W' hj hg2 => by
    obtain ⟨q, h1, h2⟩ := hj
    exact ⟨q, stab_own T T' W W' h1 hg2, stab_blk T T' W W' h2 hg2⟩
  refine ⟨_, rfl, _, #[], #[.pointer (some ⟨bq, 0, none⟩)], rfl, by decide +kernel, ls.length, fun j => (j : Int), fun j => (wg ls j : Nat), fun x => x = 0 ∨ x = bq ∨ (B ≤ x ∧ x < w2.heap.size),
    fun m T W => ((∀ k, T k → w17.heap.size ≤ k) ∧ Kp (fun k => k = w10.heap.size) w17 W) ∧ ∃ q : Slc, ((∀ k, On q k → w17.heap.size ≤ k ∧ ¬ T k) ∧ Ownd W q 3 1 ((difs ls (m - 1)).map IV)) ∧ (¬ T w10.heap.size ∧ Blk W w10.heap.size [.slice q.a q.len q.cap] 37),
    fun _ _ _ => False, hit, fun k hk => by omega, fun m => stab_and stab_kp (stabQ m), fun _ => stab_const _,
    ⟨⟨fun _ f => f.elim, Kp.refl _ _⟩, ⟨none, 0, 0⟩, ⟨fun k hk => absurd hk On.nil, Ownd.nil _ _ _⟩, fun f => f.elim, y17⟩, ?_, ?_, ?_, trivial⟩
  · rintro m T w28 hm hJ hT hTH hTH1 hTb
    refine ⟨Kp.refl _ _, fun w29 k29 => ?_⟩
    obtain ⟨⟨_, kw⟩, q, ⟨fq, hq⟩, nT, pq⟩ := (stab_and stab_kp (stabQ m)) T T w28 w29 hJ ⟨k29.mono (fun k _ e => by subst e; exact hTH1), fun _ h => h, fun _ h => .inl h⟩
    have s29 := k29.size
    have skw := kw.size
    have hql := hq.len
    rw [List.length_map, difs_len] at hql
    refine br_dec (fun hm0 => ?_) (fun hm0 => ⟨Kp.refl _ _, ⟨hT, kw⟩, q, ⟨fq, ?_⟩, nT, pq⟩)
    · have hm0 : (0 : Int) < (m : Int) := hm0
      have kd : Kp no w29 w29.drew := (Kp.refl _ _).drew
      have xd := (x17.kp kw (by omega)).kp kd id
      have pd := pq.kp kd id
      have hs29 : SeqB w29.drew s ls B := hs.kpC (((k217.mono (S' := fun k => k = w10.heap.size) (fun _ _ f => f.elim)).trans kw (fun _ _ h => h)).trans kd (fun _ _ f => f.elim)) (fun k h1 h2 => by omega)
      have e1 : IntKind.i64.wrap ((m : Int) - 1) = ((m - 1 : Nat) : Int) := by rw [w64 ⟨by omega, by omega⟩]; omega
      refine ⟨q, pd.cell0 0, _, xd.cell0 0, ?_⟩
      rw [e1]
      refine usek (eAt hs29 (by omega) _) fun w35 k35 => ⟨_, rfl, (pd.kp k35 id).cell0 0, ?_⟩
      rw [atZ_in (by omega)]
      have hmono := hg.1 (m - 1) m (by omega) hm
      have hwm := wg_le hg m
      have e2 : IntKind.i64.wrap (((wg ls m : Nat) : Int) - ((wg ls (m - 1) : Nat) : Int)) = ((wg ls m - wg ls (m - 1) : Nat) : Int) := by rw [w64 ⟨by omega, by omega⟩]; omega
      dsimp only
      rw [e2]
      have kdd := kd.t k35
      have hq35 := hq.kp kdd (fun _ _ f => f)
      obtain ⟨w37, q', hr37, hq37, hl37, k37, f37⟩ := append_one (ty := 37) elI hq35 (IV (wg ls m - wg ls (m - 1))) rfl (by simp only [maxLen]; omega) (by omega)
      have s35 := kdd.size
      have p35 := pq.kp kdd id
      have p37 := p35.kp k37 (fun hk => by have := (fq _ hk).1; omega)
      obtain ⟨e3, e4, p38, e5⟩ := setc (v := .slice q'.a q'.len q'.cap) p37
      have fq' : ∀ k, On q' k → On q k ∨ w35.heap.size ≤ k := f37
      have k3537 : Kp (On q) w29 w37 := (kdd.mono (S' := On q) (fun _ _ f => f.elim)).trans k37 (fun _ _ h => h)
      refine ⟨(p35.alloc _).cell0 0, w37, q', hr37, e3, e4, ?_, ⟨hT, ?_⟩, q', ⟨fun k hk => ?_, ?_⟩, nT, p38⟩
      · refine (k3537.mono (fun k h1 hk => ⟨(fq k hk).2, fun h => by have := (fq k hk).1; omega⟩)).trans (e5 (fun k => k = w10.heap.size) rfl) (fun k _ h => by subst h; exact ⟨nT, by omega⟩)
      · exact (kw.trans k3537 (fun k h1 h2 => by have := (fq k h2).1; omega)).trans (e5 (fun k => k = w10.heap.size) rfl) (fun _ _ h => h)
      · rcases fq' k hk with g | g
        · exact fq k g
        · exact ⟨by omega, fun h => by have := hTb k h; omega⟩
      · have e6 : (difs ls (m + 1 - 1)).map IV = (difs ls (m - 1)).map IV ++ [IV (wg ls m - wg ls (m - 1))] := by
          obtain ⟨j, rfl⟩ : ∃ j, m = j + 1 := ⟨m - 1, by omega⟩
          show (difs ls (j + 1)).map IV = _
          rw [difs_succ, List.map_append]; rfl
        rw [e6]
        exact hq37.set_other _ _ (fun hk => by
          rcases fq' _ hk with g | g
          · have := (fq _ g).1; simp only at this; omega
          · simp only at g; omega)
    · have hm0 : ¬ (0 : Int) < (m : Int) := hm0
      have : m = 0 := by omega
      subst this; exact hq
  · rintro T w40 ⟨⟨_, kw⟩, q, ⟨fq, hq⟩, nT, pq⟩ ⟨hT, hTH⟩ hDef
    have s40 := kw.size
    have hql := hq.len
    rw [List.length_map, difs_len] at hql
    have hsum := difs_sum hg hz0 (m := ls.length - 1) (by omega)
    have hlast := wg_le hg (ls.length - 1)
    have hrz : RdZ w40 q (zl (difs ls (ls.length - 1))) := ownZ (by rw [show (zl (difs ls (ls.length - 1))).map (Value.int .i64) = (difs ls (ls.length - 1)).map IV by rw [List.map_map]; rfl]; exact hq) (fun z hz => by
      obtain ⟨x, hx, rfl⟩ := List.mem_map.1 hz
      obtain ⟨i, hi, rfl⟩ := List.mem_map.1 hx
      have := wg_le hg (i + 1); omega)
    refine ⟨q, pq.cell0 0, use (xNew0 hrz (by rw [difs_len]; omega) (by omega)) ?_⟩
    rintro _ w43 ⟨k43, p, rfl, hp⟩
    have hD43 := (k43.keep _ (heap_lt hDef) (fun f => f)).trans hDef
    have hDl := heap_lt hDef
    refine ⟨_, _, rfl, List.nodup_cons.2 ⟨by simp, List.nodup_nil⟩, fun D hD => by rw [List.mem_singleton.1 hD]; exact hD43, fun w46 k46 => ?_⟩
    have k1743 : Kp (fun k => k = w10.heap.size) w17 w43 := kw.trans k43 (fun _ _ f => f.elim)
    refine ⟨?_, rest', 0, ls, hG, .inr (.inr ⟨rfl, hn, hz0, ?_, p, w40.heap.size, _, rfl, hp.kp k46 (fun k h1 h2 => by rw [List.mem_singleton.1 h2] at h1; omega), sumsOf_difs hg hn hz0, ?_⟩)⟩
    · refine ((k0A.trans (kB.t k17) (fun _ _ f => f.elim)).trans k1743 (fun k h1 h2 => by omega)).trans k46 (fun k h1 h2 => by rw [List.mem_singleton.1 h2] at h1; omega)
    · exact (h17.kp k1743 (by omega)).kp k46 (fun h => by have := List.mem_singleton.1 h; omega)
    · omega
  · rintro T w48 hh
    exact hh.elim

/-- What is read is what was written. -/
theorem rowGet_take {rest rest' : List UInt8} {m : Nat} {bits : List Bool} (h : rowGet rest 0 m = (rest', 0, bits)) : rowBytes bits ++ rest' = rest := by
  unfold rowGet at h
  rw [if_neg (by simp)] at h
  split at h
  · simp at h
  · rename_i hl
    unfold rowFin at h
    split at h
    · rename_i hp
      simp only [Prod.mk.injEq, true_and] at h
      obtain ⟨rfl, rfl⟩ := h
      rw [rowBytes_bitsS (by rw [List.length_take]; omega) hp, List.take_append_drop]
    · simp at h
theorem upto_take {rest rest' : List UInt8} {v most : Nat} (h : uptoS rest 0 (most : Int) = ((v : Int), rest', 0)) : enc v ++ rest' = rest := by
  unfold uptoS at h
  rw [if_neg (by simp)] at h
  split at h
  · rename_i h1; simp only [Prod.mk.injEq] at h; exact absurd h.2.2 h1
  · rename_i h1
    split at h
    · simp at h
    · simp only [Prod.mk.injEq, and_true, Int.natCast_inj] at h
      obtain ⟨rfl, rfl⟩ := h
      have := enc_dec (s := rest) (v := (dec rest).1) (n := (dec rest).2.1) (by
        have : (dec rest).2.2 = 0 := by omega
        rw [← this])
      rw [this.1, List.take_append_drop]
theorem seqG_take {rest rest' : List UInt8} {ls : List Nat} (h : SeqG rest 0 rest' 0 ls) : seqBytes ls ++ rest' = rest := by
  rcases h with ⟨h, _⟩ | ⟨_, n, r1, b1, u1, hn, ⟨h, _, hb, _⟩ | ⟨hb1, hn0, rfl, _, rfl⟩ | ⟨hb1, hnp, last, r2, b2, u2, hl, r3, b3, bits, u3, rfl, h⟩⟩
  · exact absurd rfl h
  · exact absurd hb.symm h
  · subst hb1; subst hn0
    exact upto_take (most := 1048576) u1
  · subst hb1
    rcases h with ⟨h, hb, _⟩ | ⟨hb3, _, h⟩ | ⟨_, hb, _⟩
    · exact absurd hb.symm h
    · subst hb3
      have hb2 : b2 = 0 := by
        by_cases e : b2 = 0
        · exact e
        · unfold rowGet at u3
          rw [if_pos e] at u3
          simp only [Prod.mk.injEq] at u3
          omega
      subst hb2
      have e1 := upto_take (most := 1048576) u1
      have e2 := upto_take (most := 1099511627776) u2
      have e3 := rowGet_take u3
      obtain ⟨_, hlen, hlast, hbits⟩ := h
      unfold seqBytes
      rw [if_neg (by omega), hbits, hlen, hlast, List.append_assoc, List.append_assoc, e3, e2, e1]
    · cases hb

theorem seqbinGets (ht : Tab w) (t : List UInt8) : IsK 10 #[.string (bs8 t)] w (.bool true) := by
  refine c10 _ _ _ ?_
  unfold B10
  have hpos := ht.pos
  rw [bs8_size]
  have lv : ∀ {V : World}, Kp no w V → Calls Tryd.prog 36 #[] V (Rv fun v1 w2 => ∃ b3 : Bool, v1 = .bool b3 ∧ (fun v w' => v = Value.bool true ∧ Kp no w w') (.bool b3) w2) := fun kV => usek (live11 (ht.kpo kV)) fun w3 k3 => ⟨true, rfl, rfl, kV.t k3⟩
  refine br_dec (fun _ => lv (Kp.refl _ _)) (fun h300 => ?_)
  have xb := Blk.new w [.string (bs8 t), .int .i64 0] 80
  have k1 : Kp no w (w.alloc (.cells #[.string (bs8 t), .int .i64 0] 80)) := (Kp.refl _ _).alloc _ _
  have hx : RfS (w.alloc (.cells #[.string (bs8 t), .int .i64 0] 80)) w.heap.size t 0 := ⟨xb, by omega⟩
  generalize w.alloc (.cells #[.string (bs8 t), .int .i64 0] 80) = w1 at *
  refine use (refGetSeq hx (by omega)) ?_
  rintro _ w2 ⟨k2, rest', bad', ls, hG, h2, o, rfl, ho, fo⟩
  have k02 : Kp no w w2 := k1.trans k2 (fun k h1 h2 => by omega)
  have s02 := k02.size
  have hxl := h2.1.lt
  refine ⟨o, rfl, use (openR w2 t (by omega)) ?_⟩
  rintro _ w3 ⟨rfl, h3, k3⟩
  refine ⟨_, rfl, use (getSeq h3 (by omega)) ?_⟩
  rintro u w4 ⟨k4, rest2, bad2, ms, hG2, h4, hu⟩
  obtain ⟨rfl, rfl, rfl⟩ := hG2.one hG
  obtain ⟨hl8, hrl⟩ := hG.len8
  have k24 : Kp no w2 w4 := k3.trans k4 (fun k h1 h2 => by omega)
  have k04 := k02.t k24
  have kd : Kp no w4 w4.drew := (Kp.refl _ _).drew
  have h24 := (h2.kp k24 (fun f => f)).kp kd (fun f => f)
  have h4d := h4.kp kd (fun f => f)
  have k0d := k04.t kd
  have s04 := k04.size
  rcases hu with ⟨rfl, hb⟩ | ⟨hb, s, B, rfl, hs, hB⟩
  · refine ⟨_, rfl, _, h24.1.cell 1, usei (qErr h4d) ⟨_, rfl, h24.1.cell 1, br_not (br_y rfl ⟨_, h24.1.cell 1, br_not (br_n (by omega) ?_)⟩)⟩⟩
    refine use (getSeq h4d (by omega)) ?_
    rintro u5 w5 ⟨k5, r5, b5, l5, hG5, h5, hu5⟩
    obtain ⟨rfl, rfl, rfl⟩ := hG5.one (.inl ⟨hb, rfl, rfl, rfl⟩)
    rcases hu5 with ⟨rfl, _⟩ | ⟨h, _⟩
    rotate_left
    · exact absurd h hb
    have k25 : Kp (fun k => k = w2.heap.size) w4.drew w5 := k5
    have hp5 : pkGet r5 b5 = (r5, b5, 0, []) := by
      have e1 : uptoS r5 b5 64 = (((0 : Nat) : Int), r5, b5) := uptoS_bad hb _
      have e2 : uptoS r5 b5 1048576 = (((0 : Nat) : Int), r5, b5) := uptoS_bad hb _
      have e3 : rowGet r5 b5 (0 * 0) = (r5, b5, []) := by unfold rowGet; rw [if_pos hb]
      rw [pkGet_of e1 e2 e3]; rfl
    refine ⟨_, rfl, ?_⟩
    refine use (getPack h5 (by omega)) ?_
    rintro u6 w6 ⟨k6, h6, hu6⟩
    rw [hp5] at h6 hu6
    dsimp only at h6 hu6
    rcases hu6 with ⟨rfl, _⟩ | ⟨h, _⟩
    rotate_left
    · exact absurd h hb
    refine ⟨_, rfl, ?_⟩
    have k46 : Kp (fun k => k = w2.heap.size) w4.drew w6 := k5.trans k6 (fun _ _ h => h)
    have k06 : Kp no w w6 := k0d.trans k46 (fun k h1 h2 => by omega)
    refine use (getSums h6 (by omega) (ht.kpo k06) (by omega)) ?_
    rintro u7 w7 ⟨k7, r7, b7, l7, hG7, hu7⟩
    obtain ⟨rfl, rfl, rfl⟩ := hG7.one (.inl ⟨hb, rfl, rfl, rfl⟩)
    rcases hu7 with ⟨_, rfl, _⟩ | ⟨h, _⟩ | ⟨h, _⟩
    · exact ⟨_, rfl, lv (k06.trans k7 (fun k h1 h2 => by omega))⟩
    · exact absurd h hb
    · exact absurd h hb
  · subst hb
    have htk := seqG_take hG
    have hg := hs.good
    refine ⟨_, rfl, _, h24.1.cell 1, usei (qErr h4d) ⟨_, rfl, h24.1.cell 1, br_not (br_y rfl ⟨_, h24.1.cell 1, br_not (br_y rfl ?_)⟩)⟩⟩
    have hsd := hs.kpo kd
    have kB : Kp no w4.drew (w4.drew.alloc (.cells #[.slice none 0 0] 62)) := (Kp.refl _ _).alloc _ _
    have hW := Ws.new w4.drew
    have tB := ht.kpo (k0d.t kB)
    have sd : w4.drew.heap.size = w4.heap.size := rfl
    generalize w4.drew.alloc (.cells #[.slice none 0 0] 62) = w5 at *
    refine use (putSeq hsd (kB.mono (fun _ _ f => f.elim)) hW (fun k hk => by have := RF0 hk; omega) tB (by omega) (by simp)) ?_
    rintro _ w6 ⟨rfl, o6, hW6⟩
    rw [List.nil_append] at hW6
    have k46 : Kp no w4.drew w6 := kB.trans hW6.kp (fun k h1 h2 => by have := RF0 h2; omega)
    have k26 := k24.t (kd.t k46)
    have hr := ho.rdI.kp k26 (fun _ _ f => f)
    have hol := ho.rdI.len
    have k06 := k0d.t k46
    have hmsl : ms.length ≤ 2400 := by omega
    refine ⟨rfl, fun i V => ∃ j : Nat, i = j ∧ j ≤ ms.length ∧ Kp no w6 V, fun i _ => (ms.length - i).toNat, ⟨0, rfl, by omega, Kp.refl _ _⟩, ?_⟩
    rintro i V ⟨j, rfl, hj, kV⟩
    have kVd := kV.drew
    refine br_dec (fun hlt => ?_) (fun hlt => ?_)
    · obtain ⟨a, ha, hc⟩ := (hr.kp kVd (fun _ _ f => f)).at (i := (j : Int)) (by omega) (by omega)
      rw [Int.toNat_natCast] at hc
      refine ⟨by omega, by omega, a, ha, _, by rw [Int.toNat_natCast]; exact hc, usek (eAt (hsd.kpo (k46.t kVd)) (by omega) _) fun w8 k8 => ⟨_, rfl, ?_⟩⟩
      rw [atZ_in (by omega)]
      obtain ⟨a2, ha2, hc2⟩ := ((hr.kp kVd (fun _ _ f => f)).kp k8 (fun _ _ f => f)).at (i := (j : Int)) (by omega) (by omega)
      rw [ha] at ha2; cases ha2
      rw [Int.toNat_natCast] at hc2
      exact ⟨by rw [Int.toNat_natCast]; exact hc2, br_not (br_y rfl ⟨⟨j + 1, by rw [w64 ⟨by omega, by omega⟩]; omega, by omega, kVd.t k8⟩, by rw [w64 ⟨by omega, by omega⟩]; dsimp only; omega⟩)⟩
    · have h2V := h24.kp (k46.t kVd) (fun f => f)
      have h4V := h4d.kp (k46.t kVd) (fun f => f)
      have k0V := k06.t kVd
      refine usei (eLen (hsd.kpo (k46.t kVd))) ⟨_, rfl, br_y (by omega) ⟨_, h2V.1.cell 0, usek (qLeft h4V) fun w9 k9 => ⟨_, rfl, (h2V.kp k9 (fun f => f)).1.cell 0, ?_⟩⟩⟩
      rw [bs8_size]
      refine br_y rfl ⟨_, (h2V.kp k9 (fun f => f)).1.cell 0, ?_⟩
      rw [bs8_size]
      have htl : t.length = (seqBytes ms).length + rest2.length := by rw [← htk, List.length_append]
      have e1 : IntKind.i64.wrap ((t.length : Int) - (rest2.length : Int)) = (((seqBytes ms).length : Nat) : Int) := by rw [w64 ⟨by omega, by omega⟩]; omega
      rw [e1]
      refine ⟨by omega, by omega, by omega, usei (wBytes (hW6.kpo (kVd.t k9))) ⟨_, rfl, (h2V.kp k9 (fun f => f)).1.cell 0, ?_⟩⟩
      have e2 : (bs8 t).extract (Int.toNat 0) (Int.toNat (((seqBytes ms).length : Nat) : Int)) = bs8 (seqBytes ms) := by
        rw [Int.toNat_natCast]
        show (bs8 t).extract 0 (seqBytes ms).length = _
        rw [take_extract, ← htk, List.take_left']
        rfl
      rw [e2, beq_bs]
      exact lv (k0V.t k9)
end Go.Proofs.YtomajpihimlcjaaDoor.V
