/- Words behind words: made and asked. -/
import Derived.Test.YtmpgklgjmkcpdaaZa
namespace Go.VC
open Go
theorem range_set {α : Type} {n a : Nat} (f g : Nat → α) (h : ∀ b, b ≠ a → g b = f b) : ((List.range n).map f).set a (g a) = (List.range n).map g := by
  apply List.ext_getElem
  · simp
  · intro i h1 h2
    rw [List.getElem_set]
    simp only [List.getElem_map, List.getElem_range]
    by_cases e : a = i
    · rw [if_pos e, e]
    · rw [if_neg e, h i (fun q => e q.symm)]
theorem bhZ_snoc (ps : List (Nat × Nat)) (p : Nat × Nat) (a : Int) : bhZ (ps ++ [p]) a = bhZ ps a ++ (if (p.1 : Int) = a then [p.2] else []) := by
  unfold bhZ
  by_cases g : 0 ≤ a
  · rw [if_pos g, if_pos g, behind_snoc]
    by_cases e : p.1 = a.toNat
    · rw [if_pos e, if_pos (by omega)]
    · rw [if_neg e, if_neg (by omega)]
  · rw [if_neg g, if_neg g, if_neg (by omega)]; rfl
theorem take_pair {ps : List (Nat × Nat)} {m : Nat} (h : m < ps.length) : ps.take (m + 1) = ps.take m ++ [ps[m]] := by
  rw [List.take_add_one, List.getElem?_eq_getElem h]; rfl
end Go.VC
namespace Go.Proofs.Ytmpgklgjmkcpdaa.V
open Go Go.VC
variable {w w' w0 : World} {l la lb : Slc} {zs : List (List Int)} {za zb : List Int} {ps : List (Nat × Nat)} {gs : List (List Nat)} {n m r B : Nat} {v : Value}
theorem RowsR.low {cs ls : List Nat} {B' : Nat} (h : RowsR w r cs ls B) (hB : B' ≤ B) : RowsR w r cs ls B' := by
  obtain ⟨p, s, h1, h2, h3, h4, h5, h6⟩ := h
  exact ⟨p, s, h1, h2.low hB, h3.low hB, h4, h5, by omega⟩
theorem rdp_at (h : RdG w l (ps.map prZ)) {i : Nat} (hi : i < ps.length) : ∃ (a : Addr) (s : Slc), l.a = some a ∧ w.cell? (Addr.add a ((i : Int).toNat * 1)) = some (.slice s.a s.len s.cap) ∧ RdZ w s (prZ ps[i]) ∧ s.len = 2 := by
  obtain ⟨a, s, ha, hc, hz⟩ := h.at (m := i) (by rw [List.length_map]; exact hi)
  rw [List.getElem_map] at hz
  exact ⟨a, s, ha, hc, hz, hz.len.symm⟩
theorem rdp_0 {s : Slc} {p : Nat × Nat} (h : RdZ w s (prZ p)) : ∃ a, s.a = some a ∧ w.cell? (Addr.add a ((0 : Int).toNat * 1)) = some (.int .i64 (p.1 : Int)) ∧ w.cell? (Addr.add a ((1 : Int).toNat * 1)) = some (.int .i64 (p.2 : Int)) := by
  have hl : 2 = s.len := h.len
  obtain ⟨a, ha, hc⟩ := h.at (i := 0) (by omega) (by omega)
  obtain ⟨a2, ha2, hc2⟩ := h.at (i := 1) (by omega) (by omega)
  rw [ha] at ha2
  obtain rfl := Option.some.inj ha2
  exact ⟨a, ha, hc, hc2⟩

/-- A map, its blocks from B on. -/
def MapB (w : World) (m n : Nat) (ps : List (Nat × Nat)) (B : Nat) : Prop := ∃ r : Nat, Blk w m [.pointer (some ⟨r, 0, none⟩)] 117 ∧ RowsB w r (grpsOf n ps) B ∧ PairsOk n ps ∧ n ≤ 65536 ∧ B ≤ m
theorem MapB.kp {S : Nat → Prop} (h : MapB w m n ps B) (g : Kp S w w') (hn : ∀ k, B ≤ k → ¬ S k) : MapB w' m n ps B := by
  obtain ⟨r, h1, h2, h3, h4, h5⟩ := h
  exact ⟨r, h1.kp g (hn _ h5), h2.kp g hn, h3, h4, h5⟩
theorem MapB.kpo (h : MapB w m n ps B) (g : Kp no w w') : MapB w' m n ps B := h.kp g (fun _ _ f => f)
abbrev slV (s : Slc) : Value := .slice s.a s.len s.cap

/-- A map under way. -/
structure Mst (w0 : World) (n : Nat) (ps : List (Nat × Nat)) (l5 : Slc) (k : Nat) (w : World) (sf : Nat → Slc) : Prop where
  own : Ownd w l5 22 1 ((List.range n).map fun a => slV (sf a))
  each : ∀ a, a < n → Ownd w (sf a) 3 1 ((zl (behind (ps.take k) a)).map (Value.int .i64))
  dis : ∀ a b, a < n → b < n → a ≠ b → ∀ k, On (sf a) k → ¬ On (sf b) k
  d5 : ∀ a, a < n → ∀ k, On (sf a) k → ¬ On l5 k
  f5 : ∀ k, On l5 k → w0.heap.size ≤ k
  fs : ∀ a, a < n → ∀ k, On (sf a) k → w0.heap.size ≤ k
  kp : Kp no w0 w

set_option maxHeartbeats 1000000 in
theorem mNew (h : RdG w l zs) (hsz : zs.length ≤ 1000) (nn : Int) : Calls Try.prog 58 #[.int .i64 nn, .slice l.a l.len l.cap] w (Rv fun v w' => Kp no w w' ∧
    ((∃ e : Int, v = .tuple #[.pointer none, .int .i64 e] ∧ e ≠ 0 ∧ WrR nn zs e) ∨ (∃ (m n : Nat) (ps : List (Nat × Nat)), v = .tuple #[.pointer (some ⟨m, 0, none⟩), .int .i64 0] ∧ nn = (n : Int) ∧ 1 ≤ n ∧ zs = ps.map prZ ∧ WrR nn zs 0 ∧ MapB w' m n ps w.heap.size))) := by
  refine c58 _ _ _ _ ?_
  unfold B58
  have hl := h.len
  refine use (mCheck h (by omega) nn) ?_
  rintro _ wq ⟨hwq, e, rfl, he⟩
  obtain rfl : w = wq := hwq.symm
  refine ⟨_, rfl, br_not (br_dec (fun h0 => ?_) (fun h0 => ⟨Kp.refl _ _, .inl ⟨e, rfl, h0, he⟩⟩))⟩
  subst h0
  have hok : ¬ (nn < 1 ∨ 65536 < nn) ∧ ∀ i, i < zs.length → okR nn zs i := by
    rcases he with ⟨q, _⟩ | ⟨hn, ⟨_, hh⟩ | ⟨a, _, _, ⟨q, _⟩ | ⟨q, _⟩ | ⟨q, _⟩⟩⟩
    · omega
    · exact ⟨hn, hh⟩
    · omega
    · omega
    · omega
  obtain ⟨hn, hoks⟩ := hok
  obtain ⟨n, rfl⟩ : ∃ n : Nat, nn = n := ⟨nn.toNat, by omega⟩
  obtain ⟨ps, rfl, hps⟩ := pairs_of hoks
  rw [Int.toNat_natCast] at hps
  rw [List.length_map] at hl hsz
  obtain ⟨w1, l5, hr1, hl5, hO1, k1, f1⟩ := make_own (z := .slice none 0 0) (bytes := 24) (show Try.prog.underlying 42 = some (.slice 22) by kernel_rfl) (by kernel_rfl) (by kernel_rfl) rfl w n (by omega) (by omega)
  have hs1 := k1.size
  have M0 : Mst w n ps l5 0 w1 (fun _ => ⟨none, 0, 0⟩) := ⟨by
    have : (List.range n).map (fun _ => slV ⟨none, 0, 0⟩) = List.replicate n (.slice none 0 0) := by apply List.ext_getElem <;> simp [slV]
    rw [this]; exact hO1, fun a _ => Ownd.nil _ _ _, fun _ _ _ _ _ k hk => absurd hk On.nil, fun _ _ k hk => absurd hk On.nil, fun k hk => by have := f1 k hk; omega, fun _ _ k hk => absurd hk On.nil, k1⟩
  refine ⟨w1, l5, hr1, fun i w' => ∃ (k : Nat) (sf : Nat → Slc), i = k ∧ k ≤ ps.length ∧ Mst w n ps l5 k w' sf, fun i _ => (l.len - i).toNat, ⟨0, _, rfl, by omega, M0⟩, ?_⟩
  rintro i w2 ⟨k, sf, rfl, hk, M⟩
  refine br_dec (fun hlt => ?_) (fun hlt => ?_)
  · have hk' : k < ps.length := by omega
    have hpn := hps.1 ps[k] (List.getElem_mem hk')
    have kd : Kp no w2 (World.drew w2) := (Kp.refl no w2).drew
    obtain ⟨a, s, ha, hc, hz0, hs2⟩ := rdp_at (h.kpo M.kp) hk'
    have hzw : RdZ w s (prZ ps[k]) := by
      obtain ⟨a', s', ha', hc', hz', _⟩ := rdp_at h hk'
      have q1 := kp_cell hc' M.kp
      rw [ha] at ha'
      obtain rfl := Option.some.inj ha'
      rw [hc] at q1
      have q2 := Option.some.inj q1
      injection q2 with e1 e2 e3
      have es : s' = s := by cases s; cases s'; simp_all
      subst es; exact hz'
    have hz := hz0.kpo kd
    obtain ⟨ap, hap, hc0, hc1⟩ := rdp_0 hz
    have hO := M.own.drew
    have hlen5 : l5.len = n := by have := M.own.len; simp at this; omega
    obtain ⟨a5, ha5, hc5, hf5, hset5⟩ := hO.at (i := ps[k].1) (by rw [List.length_map, List.length_range]; exact hpn.1)
    rw [List.getElem_map, List.getElem_range] at hc5
    generalize hp1 : ps[k].1 = p1 at *
    generalize hp2 : ps[k].2 = p2 at *
    have hE := (M.each p1 hpn.1).drew
    have hEl : (sf p1).len ≤ 1000 := by
      have e1 := hE.len
      have e2 := behind_len (ps.take k) p1
      rw [List.length_map, zl_len, Nat.mul_one] at e1
      rw [List.length_take] at e2
      omega
    have kal : Kp no (World.drew w2) ((World.drew w2).alloc (.cells #[.int .i64 (p2 : Int)] 3)) := (Kp.refl _ _).alloc _ _
    obtain ⟨w3, l3, hr3, hO3, hl3, k3, f3⟩ := append_one (ty := 22) elI hE (.int .i64 (p2 : Int)) rfl (by simp only [maxLen]; omega) (by omega)
    have hsf := fun b (hb : b < n) k (hk : On (sf b) k) => (M.each b hb).on hk
    have h5o := fun k (hk : On l5 k) => M.own.on hk
    have hsd : (World.drew w2).heap.size = w2.heap.size := rfl
    rw [hsd] at f3
    have kw3 : Kp no w w3 := (M.kp.t kd).trans k3 (fun k h1 h2 => by have := M.fs p1 hpn.1 k h2; omega)
    have hz3 := hzw.kpo kw3
    obtain ⟨ap', hap', hc0', _⟩ := rdp_0 hz3
    rw [hap] at hap'
    obtain rfl := Option.some.inj hap'
    rw [hp1] at hc0'
    have hO5 := hO.kp k3 (fun k h1 h2 => M.d5 p1 hpn.1 k h2 h1)
    obtain ⟨a6, ha6, hc6, hf6, hset6⟩ := hO5.at (i := p1) (by rw [List.length_map, List.length_range]; exact hpn.1)
    rw [ha5] at ha6
    obtain rfl := Option.some.inj ha6
    have h00 : (0 : Int) ≤ (0 : Int) := by omega
    have hs0 : (0 : Int) < (s.len : Int) := by omega
    have hs1' : (1 : Int) < (s.len : Int) := by omega
    have hp0 : (0 : Int) ≤ (p1 : Int) := by omega
    have hpl : (p1 : Int) < (l5.len : Int) := by omega
    have hc5' : (World.drew w2).cell? (Addr.add a5 ((p1 : Int).toNat * 1)) = some (.slice (sf p1).a (sf p1).len (sf p1).cap) := by rw [Int.toNat_natCast, Nat.mul_one]; exact hc5
    refine ⟨by omega, hlt, a, ha, s, hc, h00, hs0, ap, hap, _, hc0, h00, hs0, ap, hap, _, hc0, hp0, hpl, a5, ha5, sf p1, hc5', by decide, hs1', ap, hap, _, hc1, kp_cell hc5' kal, kp_cell hc0 kal, kp_cell hc0 kal, w3, l3, hr3, hc0', hp0, hpl, a5, ha5, ?_⟩
    rw [Int.toNat_natCast, Nat.mul_one]
    refine ⟨⟨_, hc6⟩, hf6, ?_⟩
    have hset := hset6 (slV l3)
    have hon5 : On l5 a5.block := ⟨a5, ha5, rfl⟩
    have hset' : Ownd (w3.setCell (Addr.add a5 p1) (slV l3)) l5 22 1 ((List.range n).map fun b => slV (if b = p1 then l3 else sf b)) := by
      have := range_set (n := n) (a := p1) (fun b => slV (sf b)) (fun b => slV (if b = p1 then l3 else sf b)) (fun b hb => by rw [if_neg hb])
      simp only [if_true] at this
      rw [← this]; exact hset
    have k34 : Kp (fun k => k = a5.block) w3 (w3.setCell (Addr.add a5 p1) (slV l3)) := (Kp.refl _ _).set _ _ (fun _ => by rw [add_block])
    have h3no : ¬ On l3 a5.block := fun hh => by
      rcases f3 _ hh with g | g
      · exact M.d5 p1 hpn.1 _ g hon5
      · have := h5o _ hon5; omega
    generalize w3.setCell (Addr.add a5 p1) (slV l3) = w4 at *
    rw [w64 (x := (k : Int) + 1) ⟨by omega, by omega⟩]
    refine ⟨⟨k + 1, fun b => if b = p1 then l3 else sf b, by omega, by omega, hset', fun b hb => ?_, fun b c hb hc' hbc j hj => ?_, fun b hb j hj => ?_, M.f5, fun b hb j hj => ?_, ?_⟩, by dsimp only; omega⟩
    · have eb : behind (ps.take (k + 1)) b = behind (ps.take k) b ++ (if p1 = b then [p2] else []) := by rw [take_pair hk', behind_snoc, hp1, hp2]
      by_cases e : b = p1
      · subst e
        rw [if_pos rfl, eb, if_pos rfl]
        have := hO3.kp k34 (fun j h1 h2 => by have h2 : j = a5.block := h2; subst h2; exact h3no h1)
        simpa using this
      · rw [if_neg e, eb, if_neg (fun q => e q.symm), List.append_nil]
        exact ((M.each b hb).drew.kp k3 (fun j h1 h2 => M.dis b p1 hb hpn.1 e j h1 h2)).kp k34 (fun j h1 h2 => by have h2 : j = a5.block := h2; subst h2; exact M.d5 b hb _ h1 hon5)
    · by_cases e : b = p1
      · rw [if_pos e] at hj
        rw [if_neg (fun q => hbc (e.trans q.symm))]
        intro hh
        rcases f3 j hj with g | g
        · exact M.dis p1 c hpn.1 hc' (fun q => hbc (e.trans q)) j g hh
        · have := hsf c hc' j hh; omega
      · rw [if_neg e] at hj
        by_cases e2 : c = p1
        · rw [if_pos e2]
          intro hh
          rcases f3 j hh with g | g
          · exact M.dis b p1 hb hpn.1 e j hj g
          · have := hsf b hb j hj; omega
        · rw [if_neg e2]; exact M.dis b c hb hc' hbc j hj
    · by_cases e : b = p1
      · rw [if_pos e] at hj
        intro hh
        rcases f3 j hj with g | g
        · exact M.d5 p1 hpn.1 j g hh
        · have := h5o j hh; omega
      · rw [if_neg e] at hj; exact M.d5 b hb j hj
    · by_cases e : b = p1
      · rw [if_pos e] at hj
        rcases f3 j hj with g | g
        · exact M.fs p1 hpn.1 j g
        · have := M.kp.size; omega
      · rw [if_neg e] at hj; exact M.fs b hb j hj
    · exact kw3.trans k34 (fun j h1 h2 => by have h2 : j = a5.block := h2; have := M.f5 _ hon5; omega)
  · obtain rfl : k = ps.length := by omega
    have hgl := grpsOf_len n ps
    have hG : RdG w2 l5 ((grpsOf n ps).map zl) := by
      have hlen5 : l5.len = n := by have := M.own.len; simp at this; omega
      refine ⟨by rw [List.length_map, hgl, hlen5], fun i hi => ?_⟩
      rw [List.length_map, hgl] at hi
      obtain ⟨a5, ha5, hc5, _⟩ := M.own.at (i := i) (by rw [List.length_map, List.length_range]; exact hi)
      rw [List.getElem_map, List.getElem_range] at hc5
      refine ⟨a5, sf i, ha5, by rw [Nat.mul_one]; exact hc5, ?_⟩
      have hE := M.each i hi
      rw [List.take_length] at hE
      rw [List.getElem_map, grpsOf_at]
      refine ownZ hE (fun z hz => ?_)
      obtain ⟨x, hx, rfl⟩ := List.mem_map.1 hz
      have := (behind_inc hps i).1 x hx
      omega
    have hgood := grps_good hps (by omega)
    have hmem : ∀ g ∈ (grpsOf n ps).map zl, g.length ≤ 1000 := fun g hg => by
      obtain ⟨x, hx, rfl⟩ := List.mem_map.1 hg
      obtain ⟨a, _, rfl⟩ := List.mem_map.1 hx
      rw [zl_len]
      have := behind_len ps a
      omega
    have hsum : (((grpsOf n ps).map zl).map List.length).sum ≤ 100000000 := by
      have := sum_leN (l := ((grpsOf n ps).map zl).map List.length) (c := 1000) (fun x hx => by
        obtain ⟨g, hg, rfl⟩ := List.mem_map.1 hx
        exact hmem g hg)
      rw [List.length_map, List.length_map, hgl] at this
      omega
    refine use (wNew hG (fun j hj => by have := hmem _ (List.getElem_mem hj); omega) hsum) ?_
    rintro _ w3 ⟨k3, ⟨e, rfl, he, hwr⟩ | ⟨r, gs, rfl, hz, _, hr⟩⟩
    · rw [List.length_map, hgl, if_neg (by omega), good_wrG hgood] at hwr
      exact absurd hwr he
    · obtain rfl := zzl_inj hz
      have hk2 := M.kp.size
      have hk3 := k3.size
      have kal : Kp no w3 (w3.alloc (.cells #[.pointer (some ⟨r, 0, none⟩)] 117)) := (Kp.refl _ _).alloc _ _
      exact ⟨_, _, rfl, br_not (br_y rfl ⟨(M.kp.t k3).t kal, .inr ⟨_, n, ps, rfl, rfl, by omega, rfl, he, r, Blk.new _ _ _, ⟨(hr.kpo kal).1.low hk2, (hr.kpo kal).2⟩, hps, by omega, by omega⟩⟩)⟩

theorem sp_bnd (h : RowsB w r gs B) (g : Int) : 0 ≤ spA (cnts gs) g ∧ spA (cnts gs) g + ((grpZ gs g).length : Int) ≤ 100000000 := by
  obtain ⟨p, s, hb0, hpp, hss, b1, b2, hBB⟩ := h.1
  have hchl := chain_len gs
  have hcl := cnts_len gs
  by_cases h : 0 ≤ g ∧ g < gs.length
  · obtain ⟨m, rfl⟩ : ∃ m : Nat, g = m := ⟨g.toNat, by omega⟩
    have hm : m < gs.length := by omega
    have h1 := S0_succ (l := cnts gs) (m := m) (by omega)
    have h2 : S0 (cnts gs) (m + 1) ≤ (cnts gs).sum := S0_le
    rw [spA_in (by omega), grpZ_in hm]
    rw [cnts_at hm] at h1
    omega
  · rw [spA_out (by rw [hcl]; exact h), grpZ_out h]; simp

theorem mWords (h : MapB w m n ps B) : Is 60 #[.pointer (some ⟨m, 0, none⟩)] w (.int .i64 n) := by
  obtain ⟨r, hb, hr, hps, hn, hB⟩ := h
  refine c60 _ _ _ ?_
  unfold B60
  refine ⟨_, hb.cell 0, usei (wGroups hr.1) ⟨_, rfl, ?_, rfl⟩⟩
  rw [cnts_len, grpsOf_len]
theorem mBehind (h : MapB w m n ps B) (a : Int) : IsK 61 #[.pointer (some ⟨m, 0, none⟩), .int .i64 a] w (.int .i64 (bhZ ps a).length) := by
  obtain ⟨r, hb, hr, hps, hn, hB⟩ := h
  refine c61 _ _ _ _ ?_
  unfold B61
  have hsb := sp_bnd hr a
  refine ⟨_, hb.cell 0, usek (wSpan hr.1 a) fun w1 k1 => ⟨_, _, rfl, ?_, k1⟩⟩
  rw [sp_len, w64 ⟨by omega, by omega⟩, ← grp_bh hps]
  congr 1
  omega
theorem mRank (h : MapB w m n ps B) (a b : Int) : Calls Try.prog 63 #[.pointer (some ⟨m, 0, none⟩), .int .i64 a, .int .i64 b] w (Rv fun v w' => Kp no w w' ∧ ∃ x : Int, v = .int .i64 x ∧ RankP (bhZ ps a) b x) := by
  obtain ⟨r, hb, hr, hps, hn, hB⟩ := h
  refine c63 _ _ _ _ _ ?_
  unfold B63
  have hsb := sp_bnd hr a
  refine ⟨_, hb.cell 0, use (wWhere hr a b) ?_⟩
  rintro _ w1 ⟨k1, y, rfl, hy⟩
  refine ⟨_, rfl, br_dec (fun h1 => ⟨k1, _, rfl, ?_⟩) (fun h1 => ⟨_, (hb.kp k1 id).cell 0, usek (wSpan (hr.kpo k1).1 a) fun w2 k2 => ⟨_, _, rfl, k1.t k2, _, rfl, ?_⟩⟩)⟩
  · rw [← grp_bh hps]
    rcases hy with ⟨_, hy⟩ | ⟨k, rfl, hk, ⟨_, hy⟩ | ⟨i, _, _, hy⟩⟩
    · rw [grpZ_out hy]; exact .inl ⟨rfl, fun i hi => by simp at hi⟩
    · rw [grpZ_in hk]; exact .inl ⟨rfl, hy⟩
    · omega
  · rcases hy with ⟨hy, _⟩ | ⟨k, rfl, hk, ⟨hy, _⟩ | ⟨i, hi, hv, hy⟩⟩
    · omega
    · omega
    · rw [← grp_bh hps, grpZ_in hk]
      refine .inr ⟨i, ?_, hi, hv⟩
      rw [grpZ_in hk] at hsb
      rw [spA_in (by rw [cnts_len]; exact hk)] at hsb ⊢
      rw [w64 ⟨by omega, by omega⟩]
      omega
theorem mWord (h : MapB w m n ps B) (a k : Int) : IsK 65 #[.pointer (some ⟨m, 0, none⟩), .int .i64 a, .int .i64 k] w (.int .i64 (atZ (zl (bhZ ps a)) k)) := by
  have h0 := h
  obtain ⟨r, hb, hr, hps, hn, hB⟩ := h
  refine c65 _ _ _ _ _ ?_
  unfold B65
  have hsb := sp_bnd hr a
  refine br_dec (fun h1 => ⟨by rw [atZ_out (by omega)], Kp.refl _ _⟩) (fun h1 => usek (mBehind h0 a) fun w1 k1 => ⟨_, rfl, br_dec (fun h2 => ⟨by rw [atZ_out (by rw [zl_len]; omega)], k1⟩) (fun h2 => ⟨_, (hb.kp k1 id).cell 0, usek (wSpan (hr.kpo k1).1 a) fun w2 k2 => ⟨_, _, rfl, _, (hb.kp (k1.t k2) id).cell 0, ?_⟩⟩)⟩)
  obtain ⟨i, rfl⟩ : ∃ i : Nat, k = i := ⟨k.toNat, by omega⟩
  have hil : i < (bhZ ps a).length := by omega
  rw [← grp_bh hps] at hil
  obtain ⟨c, hc, rfl, hgc⟩ := grpZ_ex (show 0 < (grpZ (grpsOf n ps) a).length by omega)
  have hcc : c < (cnts (grpsOf n ps)).length := by rw [cnts_len]; exact hc
  have hS := S0_succ hcc
  rw [cnts_at hc] at hS
  rw [hgc] at hil hsb
  rw [spA_in hcc] at hsb ⊢
  rw [w64 (x := (S0 (cnts (grpsOf n ps)) c : Int) + (i : Int)) ⟨by omega, by omega⟩]
  refine use (wAt (hr.kpo (k1.t k2)) _) ?_
  rintro _ w3 ⟨k3, g, x, rfl, hp⟩
  obtain ⟨_, rfl⟩ := hp.one (.inr ⟨c, hc, rfl, by omega, by omega, rfl⟩)
  refine ⟨_, rfl, ?_, k1.t (k2.t k3)⟩
  rw [atZ_in (by rw [← grp_bh hps, hgc]; exact hil), ← grp_bh hps, hgc]
  congr 3
  omega

theorem mWordsN (w : World) : Is 60 #[.pointer none] w (.int .i64 0) := c60n _ _ ⟨rfl, rfl⟩
theorem mBehindN (w : World) (a : Int) : Is 61 #[.pointer none, .int .i64 a] w (.int .i64 0) := c61n _ _ _ ⟨rfl, rfl⟩
theorem mRankN (w : World) (a b : Int) : Is 63 #[.pointer none, .int .i64 a, .int .i64 b] w (.int .i64 (-1)) := c63n _ _ _ _ ⟨rfl, rfl⟩
theorem mWordN (w : World) (a k : Int) : Is 65 #[.pointer none, .int .i64 a, .int .i64 k] w (.int .i64 (-1)) := c65n _ _ _ _ (by
  unfold B65n
  exact br_dec (fun _ => ⟨rfl, rfl⟩) (fun h => usei (mBehindN w a) ⟨_, rfl, br_y (by omega) ⟨rfl, rfl⟩⟩))

theorem rBehind34 (h : RdG w l (ps.map prZ)) (hsz : ps.length ≤ 1000) (hv : ∀ p ∈ ps, p.2 ≤ 65536) (a : Int) : Calls Try.prog 62 #[.slice l.a l.len l.cap, .int .i64 a] w (Rv fun v w' => Kp no w w' ∧ ∃ o : Slc, v = .slice o.a o.len o.cap ∧ RdZ w' o (zl (bhZ ps a))) := by
  refine c62 _ _ _ _ ?_
  unfold B62
  have hl := h.len
  rw [List.length_map] at hl
  refine ⟨fun x i w' => ∃ m : Nat, i = m ∧ m ≤ ps.length ∧ Ownd w' x 3 1 ((zl (bhZ (ps.take m) a)).map (Value.int .i64)) ∧ x.len ≤ m ∧ (∀ k, On x k → w.heap.size ≤ k) ∧ Kp no w w', fun _ i _ => (l.len - i).toNat,
    ⟨0, rfl, by omega, by
      have : bhZ (ps.take 0) a = [] := by unfold bhZ; split <;> rfl
      rw [this]; exact Ownd.nil _ _ _, Nat.le_refl _, fun _ h => absurd h On.nil, Kp.refl _ _⟩, ?_⟩
  rintro x i w1 ⟨m, rfl, hm, hO, hxl, hf, k1⟩
  refine br_dec (fun hlt => ?_) (fun hlt => ?_)
  · have hm' : m < ps.length := by omega
    obtain ⟨a1, s, ha, hc, hz, hs2⟩ := rdp_at (h.kpo k1) hm'
    obtain ⟨ap, hap, hc0, hc1⟩ := rdp_0 hz
    have hsn := bhZ_snoc (ps.take m) ps[m] a
    rw [← take_pair hm'] at hsn
    have h00 : (0 : Int) ≤ (m : Int) := by omega
    rw [w64 (x := (m : Int) + 1) ⟨by omega, by omega⟩]
    refine ⟨h00, hlt, a1, ha, s, hc, by decide, by omega, ap, hap, _, hc0, br_dec (fun g => ?_) (fun g => ?_)⟩
    · rw [if_pos g] at hsn
      obtain ⟨w2, x2, hr2, hO2, hl2, k2, f2⟩ := append_one (ty := 22) elI hO (.int .i64 (ps[m].2 : Int)) rfl (by simp only [maxLen]; omega) (by omega)
      have e : (zl (bhZ (ps.take (m + 1)) a)).map (Value.int .i64) = (zl (bhZ (ps.take m) a)).map (Value.int .i64) ++ [.int .i64 (ps[m].2 : Int)] := by rw [hsn]; simp
      rw [← e] at hO2
      refine ⟨h00, hlt, a1, ha, s, hc, by decide, by omega, ap, hap, _, hc1, w2, x2, hr2, ⟨m + 1, by omega, by omega, hO2, by omega, fun k hk => ?_, k1.trans k2 (fun k h1 h2 => by have := hf k h2; omega)⟩, by dsimp only; omega⟩
      rcases f2 k hk with g | g
      · exact hf k g
      · have := k1.size; omega
    · rw [if_neg g, List.append_nil] at hsn
      exact ⟨⟨m + 1, by omega, by omega, by rw [hsn]; exact hO, by omega, hf, k1⟩, by dsimp only; omega⟩
  · obtain rfl : m = ps.length := by omega
    rw [List.take_length] at hO
    refine ⟨k1, x, rfl, ownZ hO (fun z hz => ?_)⟩
    obtain ⟨y, hy, rfl⟩ := List.mem_map.1 hz
    unfold bhZ at hy
    split at hy
    · obtain ⟨p, hp, rfl⟩ := List.mem_map.1 hy
      have := hv p (List.mem_filter.1 hp).1
      omega
    · simp at hy

theorem rRank34 (h : RdG w l (ps.map prZ)) (hsz : ps.length ≤ 1000) (hv : ∀ p ∈ ps, p.2 ≤ 65536) (a b : Int) : Calls Try.prog 64 #[.slice l.a l.len l.cap, .int .i64 a, .int .i64 b] w (Rv fun v w' => Kp no w w' ∧ ∃ x : Int, v = .int .i64 x ∧ RankP (bhZ ps a) b x) := by
  refine c64 _ _ _ _ _ ?_
  unfold B64
  refine use (rBehind34 h hsz hv a) ?_
  rintro _ w1 ⟨k1, o, rfl, ho⟩
  have hol := ho.len
  rw [zl_len] at hol
  have hle := bhZ_len ps a
  refine ⟨o, rfl, fun i w' => w' = w1 ∧ ∃ m : Nat, i = m ∧ m ≤ (bhZ ps a).length ∧ ∀ j, j < m → (wg (bhZ ps a) j : Int) ≠ b, fun i _ => (o.len - i).toNat, ⟨rfl, 0, rfl, by omega, fun j hj => by omega⟩, ?_⟩
  rintro i w2 ⟨hw, m, rfl, hm, hno⟩
  obtain rfl : w1 = w2 := hw.symm
  refine br_dec (fun hlt => ?_) (fun hlt => ⟨k1, _, rfl, .inl ⟨rfl, fun j hj => hno j (by omega)⟩⟩)
  obtain ⟨a1, ha, hc⟩ := ho.at (i := (m : Int)) (by omega) hlt
  rw [wz_zl, Int.toNat_natCast] at hc
  refine ⟨by omega, hlt, a1, ha, _, by rw [Int.toNat_natCast]; exact hc, br_dec (fun g => ⟨k1, _, rfl, .inr ⟨m, rfl, by omega, g⟩⟩) (fun g => ?_)⟩
  rw [w64 (x := (m : Int) + 1) ⟨by omega, by omega⟩]
  refine ⟨⟨rfl, m + 1, by omega, by omega, fun j hj => ?_⟩, by dsimp only; omega⟩
  by_cases e : j = m
  · subst e; exact g
  · exact hno j (by omega)

theorem rWord34 (h : RdG w l (ps.map prZ)) (hsz : ps.length ≤ 1000) (hv : ∀ p ∈ ps, p.2 ≤ 65536) (a k : Int) : IsK 66 #[.slice l.a l.len l.cap, .int .i64 a, .int .i64 k] w (.int .i64 (atZ (zl (bhZ ps a)) k)) := by
  refine c66 _ _ _ _ _ ?_
  unfold B66
  refine use (rBehind34 h hsz hv a) ?_
  rintro _ w1 ⟨k1, o, rfl, ho⟩
  have hol := ho.len
  rw [zl_len] at hol
  refine ⟨o, rfl, br_dec (fun h1 => ⟨by rw [atZ_out (by omega)], k1⟩) (fun h1 => br_dec (fun h2 => ⟨by rw [atZ_out (by rw [zl_len]; omega)], k1⟩) (fun h2 => ?_))⟩
  obtain ⟨a1, ha, hc⟩ := ho.at (i := k) (by omega) (by omega)
  refine ⟨by omega, by omega, a1, ha, _, hc, ?_, k1⟩
  unfold atZ
  rw [if_pos (by rw [zl_len]; omega)]
end Go.Proofs.Ytmpgklgjmkcpdaa.V
