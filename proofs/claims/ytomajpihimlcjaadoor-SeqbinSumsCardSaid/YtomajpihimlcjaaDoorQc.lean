/- All bits of a sequence, as a row (doors only). -/
import Derived.Test.YtomajpihimlcjaaDoorQb
import Derived.Test.YtomajpihimlcjaaDoorXj
namespace Go.VC
open Go
/-- All bits of a sequence. -/
def seqBits (ls : List Nat) : List Bool := pkBits (eW ls) (ls.map (· % 2 ^ eW ls)) ++ hiB ls
theorem seqBits_len {ls : List Nat} (h : GoodL ls) : (seqBits ls).length = eW ls * ls.length + (hiB ls).length := by unfold seqBits; rw [List.length_append, pk_len, List.length_map]
end Go.VC
namespace Go.Proofs.YtomajpihimlcjaaDoor.V
open Go Go.VC
variable {w w' w0 W W' wC : World} {l o lr l1 l2 : Slc} {b1 b2 bits : List Bool} {ls : List Nat} {s r1 r2 N B m n : Nat} {Bx T T' : Nat → Prop}

/-- Two rows that grow, apart from boxes and from what is another's. -/
structure R2 (N : Nat) (Bx T : Nat → Prop) (W : World) (r1 : Nat) (l1 : Slc) (b1 : List Bool) (r2 : Nat) (l2 : Slc) (b2 : List Bool) : Prop where
  row1 : Row W r1 l1 b1
  row2 : Row W r2 l2 b2
  f1 : ∀ k, RF r1 l1 k → N ≤ k ∧ ¬ Bx k ∧ ¬ T k
  f2 : ∀ k, RF r2 l2 k → N ≤ k ∧ ¬ Bx k ∧ ¬ T k
  ap : ∀ k, RF r1 l1 k → ¬ RF r2 l2 k
theorem R2.kp {S : Nat → Prop} (h : R2 N Bx T W r1 l1 b1 r2 l2 b2) (g : Kp S W W') (hS : ∀ k, N ≤ k → ¬ Bx k → ¬ T k → ¬ S k) : R2 N Bx T W' r1 l1 b1 r2 l2 b2 :=
  ⟨h.row1.kp g (fun k hk => hS k (h.f1 k hk).1 (h.f1 k hk).2.1 (h.f1 k hk).2.2), h.row2.kp g (fun k hk => hS k (h.f2 k hk).1 (h.f2 k hk).2.1 (h.f2 k hk).2.2), h.f1, h.f2, h.ap⟩
theorem R2.kpo (h : R2 N Bx T W r1 l1 b1 r2 l2 b2) (g : Kp no W W') : R2 N Bx T W' r1 l1 b1 r2 l2 b2 := h.kp g (fun _ _ _ _ f => f)
theorem R2.swap (h : R2 N Bx T W r1 l1 b1 r2 l2 b2) : R2 N Bx T W r2 l2 b2 r1 l1 b1 := ⟨h.row2, h.row1, h.f2, h.f1, fun k h1 h2 => h.ap k h2 h1⟩
theorem R2.grow (h : R2 N Bx T W r1 l1 b1 r2 l2 b2) (hg : Gr T T' W W') : R2 N Bx T' W' r1 l1 b1 r2 l2 b2 := by
  have h' := h.kp hg.kp (fun k _ _ h1 h2 => h1 h2)
  refine ⟨h'.row1, h'.row2, fun k hk => ⟨(h.f1 k hk).1, (h.f1 k hk).2.1, fun ht => ?_⟩, fun k hk => ⟨(h.f2 k hk).1, (h.f2 k hk).2.1, fun ht => ?_⟩, h.ap⟩
  · rcases hg.fr k ht with g | g
    · exact (h.f1 k hk).2.2 g
    · have := h.row1.lt hk; omega
  · rcases hg.fr k ht with g | g
    · exact (h.f2 k hk).2.2 g
    · have := h.row2.lt hk; omega
/-- Bits are added to the first. -/
theorem R2.add (h : R2 N Bx T W r1 l1 b1 r2 l2 b2) (hN : N ≤ W.heap.size) (hT : ∀ k, T k → k < W.heap.size) (hB : ∀ k, Bx k → k < W.heap.size) (hsz : b1.length ≤ 500000000) {x k : Nat} (hk : k ≤ 64) (hx : x < 2 ^ k) (h64 : x < 18446744073709551616) {xi ki : Int} (exi : xi = x) (eki : ki = k) :
    Calls Tryd.prog 22 #[.pointer (some ⟨r1, 0, none⟩), .int .u64 xi, .int .i64 ki] W (Rv fun v W' => v = .int .i64 0 ∧ ∃ l', R2 N Bx T W' r1 l' (b1 ++ lowb x k) r2 l2 b2 ∧ Kp (fun k => N ≤ k ∧ ¬ Bx k ∧ ¬ T k) W W') := by
  subst exi; subst eki
  refine use (add1 h.row1 (by omega) x h64 k) ?_
  rintro _ W' ⟨o, rfl, hr, k1, f1⟩
  rw [addS_ok hk hx h64] at hr ⊢
  have fo : ∀ k, RF r1 o k → RF r1 l1 k ∨ W.heap.size ≤ k := fun k hk => by
    rcases hk with rfl | hk
    · exact .inl (.inl rfl)
    · rcases f1 k hk with g | g
      · exact .inl (.inr g)
      · exact .inr g
  refine ⟨rfl, o, ⟨hr, h.row2.kp k1 (fun k h1 h2 => h.ap k h2 h1), fun k hk => ?_, h.f2, fun k hk h2 => ?_⟩, k1.mono (fun k _ hk => h.f1 k hk)⟩
  · rcases fo k hk with g | g
    · exact h.f1 k g
    · exact ⟨by omega, fun hb => by have := hB k hb; omega, fun ht => by have := hT k ht; omega⟩
  · rcases fo k hk with g | g
    · exact h.ap k g h2
    · have := h.row2.lt h2; omega

theorem lowb_zero1 : lowb 0 1 = [false] := by decide
theorem rep_snoc (a : Nat) : List.replicate a false ++ [false] = List.replicate (a + 1) false := by rw [List.replicate_succ']
theorem seqBitsR (h0 : SeqB w s ls B) (hsz : ls.length ≤ 1000000) (ht : Tab w) :
    Calls Tryd.prog 109 #[.pointer (some ⟨s, 0, none⟩)] w (Rv fun v w' => ∃ p, v = .pointer (some ⟨p, 0, none⟩) ∧ RowB w' p (seqBits ls) w.heap.size ∧ Kp no w w') := by
  have hg := h0.good
  have hW := eW_le hg
  have hu := upl_mono hg (eW ls)
  have hlen := hiB_len hg
  have hpos := ht.pos
  have ehi : (hiB ls).length = (hb (upl ls (eW ls)) ls.length).length := rfl
  refine c109 _ _ _ ?_
  unfold B109
  refine use (new w) ?_
  rintro _ w2 ⟨rfl, hlo, k2⟩
  have s2 := k2.size
  have hlol := hlo.lt (.inl rfl)
  refine ⟨_, rfl, use (new w2) ?_⟩
  rintro _ w5 ⟨rfl, hhi, k25⟩
  have s25 := k25.size
  have hhil := hhi.lt (.inl rfl)
  refine ⟨_, rfl, ?_⟩
  -- the boxes of the two rows
  have x1 := Blk.new w5 [.pointer none] 33
  have z1 : (w5.alloc (.cells #[.pointer none] 33)).heap.size = w5.heap.size + 1 := World.size_alloc _ _
  have ka : Kp no w5 (w5.alloc (.cells #[.pointer none] 33)) := (Kp.refl _ _).alloc _ _
  generalize (w5.alloc (.cells #[.pointer none] 33)) = wa at *
  have x2 := Blk.new wa [.pointer none] 33
  have z2 : (wa.alloc (.cells #[.pointer none] 33)).heap.size = wa.heap.size + 1 := World.size_alloc _ _
  have kb : Kp no wa (wa.alloc (.cells #[.pointer none] 33)) := (Kp.refl _ _).alloc _ _
  have x1 := x1.kp kb id
  generalize (wa.alloc (.cells #[.pointer none] 33)) = wb at *
  obtain ⟨e1, e2, x1, e4⟩ := setc (v := .pointer (some ⟨w.heap.size, 0, none⟩)) x1
  have kc := e4 (fun k => k = w5.heap.size) rfl
  have x2 := x2.kp kc (by omega)
  have z3 : (wb.setCell ⟨w5.heap.size, 0, none⟩ (.pointer (some ⟨w.heap.size, 0, none⟩))).heap.size = wb.heap.size := by simp
  refine ⟨e1, e2, ?_⟩
  clear e1 e2 e4
  generalize (wb.setCell ⟨w5.heap.size, 0, none⟩ (.pointer (some ⟨w.heap.size, 0, none⟩))) = wc at *
  obtain ⟨e1, e2, x2, e4⟩ := setc (v := .pointer (some ⟨w2.heap.size, 0, none⟩)) x2
  have kd := e4 (fun k => k = wa.heap.size) rfl
  have x1 := x1.kp kd (by omega)
  have z4 : (wc.setCell ⟨wa.heap.size, 0, none⟩ (.pointer (some ⟨w2.heap.size, 0, none⟩))).heap.size = wc.heap.size := by simp
  refine ⟨e1, e2, ?_⟩
  clear e1 e2 e4
  generalize (wc.setCell ⟨wa.heap.size, 0, none⟩ (.pointer (some ⟨w2.heap.size, 0, none⟩))) = wd at *
  have k5d : Kp no w5 wd := ((ka.t kb).trans kc (fun k h1 h2 => by omega)).trans kd (fun k h1 h2 => by omega)
  have k0d : Kp no w wd := k2.t (k25.t k5d)
  have hd := h0.kpo k0d
  refine usei (eLen hd) ⟨_, rfl, usei (eLast hd) ⟨_, rfl, ?_⟩⟩
  have hLow := eLow wd (ls.length : Int) (lastZ ls) (by omega) (by
    unfold lastZ; split
    · omega
    · have := wg_le hg (ls.length - 1); omega)
  refine usei hLow ⟨_, rfl, ?_⟩
  have eWd : lowW (ls.length : Int) (lastZ ls) = eW ls := rfl
  rw [eWd]
  -- the boxes of the width and of the upper part
  have y0 := Blk.new wd [.int .i64 0] 3
  obtain ⟨e1, e2, y1, e4⟩ := setc (v := .int .i64 ((eW ls : Nat) : Int)) y0
  have ke : Kp no wd ((wd.alloc (.cells #[.int .i64 0] 3)).setCell ⟨wd.heap.size, 0, none⟩ (.int .i64 ((eW ls : Nat) : Int))) := ((Kp.refl _ _).alloc _ _).trans (e4 (fun k => k = wd.heap.size) rfl) (fun k h1 h2 => by omega)
  have z5 : ((wd.alloc (.cells #[.int .i64 0] 3)).setCell ⟨wd.heap.size, 0, none⟩ (.int .i64 ((eW ls : Nat) : Int))).heap.size = wd.heap.size + 1 := by simp
  refine ⟨e1, e2, ?_⟩
  clear e1 e2 e4 y0
  generalize ((wd.alloc (.cells #[.int .i64 0] 3)).setCell ⟨wd.heap.size, 0, none⟩ (.int .i64 ((eW ls : Nat) : Int))) = we at *
  have v0 := Blk.new we [.int .i64 0] 3
  obtain ⟨e1, e2, v1, e4⟩ := setc (v := .int .i64 0) v0
  have kf : Kp no we ((we.alloc (.cells #[.int .i64 0] 3)).setCell ⟨we.heap.size, 0, none⟩ (.int .i64 0)) := ((Kp.refl _ _).alloc _ _).trans (e4 (fun k => k = we.heap.size) rfl) (fun k h1 h2 => by omega)
  have z6 : ((we.alloc (.cells #[.int .i64 0] 3)).setCell ⟨we.heap.size, 0, none⟩ (.int .i64 0)).heap.size = we.heap.size + 1 := by simp
  refine ⟨e1, e2, ?_⟩
  clear e1 e2 e4 v0
  generalize ((we.alloc (.cells #[.int .i64 0] 3)).setCell ⟨we.heap.size, 0, none⟩ (.int .i64 0)) = wf at *
  have k0f : Kp no w wf := k0d.t (ke.t kf)
  refine use (eAll wf s) ?_
  rintro _ wg_ ⟨bq, rfl, hbq, kg, fbq⟩
  have sg := kg.size
  have hbql := hbq.lt
  have hit := eIter h0 (k0f.t kg) (by omega) hbq (ht.kpo (k0f.t kg))
  -- what is known when the numbers are gone over
  obtain ⟨Bx, hBx⟩ : ∃ Bx : Nat → Prop, Bx = fun k => k = w5.heap.size ∨ k = wa.heap.size ∨ k = wd.heap.size ∨ k = we.heap.size ∨ k = bq := ⟨_, rfl⟩
  have Bxl : ∀ k, Bx k → w5.heap.size ≤ k ∧ k < wg_.heap.size := fun k h => by rw [hBx] at h; omega
  have kfg : Kp no w5 wg_ := k5d.t (ke.t (kf.t kg))
  have q1 : Blk wg_ w5.heap.size [.pointer (some ⟨w.heap.size, 0, none⟩)] 33 := x1.kp (ke.t (kf.t kg)) id
  have q2 : Blk wg_ wa.heap.size [.pointer (some ⟨w2.heap.size, 0, none⟩)] 33 := x2.kp (ke.t (kf.t kg)) id
  have q3 : Blk wg_ wd.heap.size [.int .i64 ((eW ls : Nat) : Int)] 3 := y1.kp (kf.t kg) id
  have q4 : Blk wg_ we.heap.size [.int .i64 0] 3 := v1.kp kg id
  have on0 : ∀ k, ¬ On ⟨none, 0, 0⟩ k := fun k => On.nil
  have hR : R2 w.heap.size Bx (fun _ => False) wg_ w.heap.size ⟨none, 0, 0⟩ [] w2.heap.size ⟨none, 0, 0⟩ [] :=
    ⟨(hlo.kp k25 (fun _ _ f => f)).kp kfg (fun _ _ f => f), hhi.kp kfg (fun _ _ f => f), fun k hk => by
      rcases hk with rfl | hk
      · exact ⟨Nat.le_refl _, fun h => by have := Bxl _ h; omega, id⟩
      · exact absurd hk (on0 k), fun k hk => by
      rcases hk with rfl | hk
      · exact ⟨by omega, fun h => by have := Bxl _ h; omega, id⟩
      · exact absurd hk (on0 k), fun k h1 h2 => by
      rcases h1 with rfl | h1
      · rcases h2 with h2 | h2
        · omega
        · exact absurd h2 (on0 _)
      · exact absurd h1 (on0 k)⟩
  obtain ⟨Sx, hSx⟩ : ∃ Sx : (Nat → Prop) → Nat → Prop, Sx = fun T k => w.heap.size ≤ k ∧ ¬ T k ∧ (¬ Bx k ∨ k = we.heap.size) := ⟨_, rfl⟩
  have stabR : ∀ (m : Nat), Stab (fun T W => ∃ l1 l2, R2 w.heap.size Bx T W w.heap.size l1 (pkBits (eW ls) ((ls.map (· % 2 ^ eW ls)).take m)) w2.heap.size l2 (hb (upl ls (eW ls)) m)) := fun m T T' W W' h hg => by
    obtain ⟨l1, l2, h⟩ := h
    exact ⟨l1, l2, h.grow hg⟩
  refine ⟨_, rfl, _, #[], #[.pointer (some ⟨bq, 0, none⟩)], rfl, by decide +kernel, ls.length, fun j => (j : Int), fun j => (wg ls j : Nat), fun x => x = 0 ∨ x = bq ∨ (B ≤ x ∧ x < w.heap.size),
    fun m T W => ((∀ k, T k → wg_.heap.size ≤ k) ∧ Kp (fun k => w.heap.size ≤ k) wg_ W) ∧ (∃ l1 l2, R2 w.heap.size Bx T W w.heap.size l1 (pkBits (eW ls) ((ls.map (· % 2 ^ eW ls)).take m)) w2.heap.size l2 (hb (upl ls (eW ls)) m)) ∧
      (¬ T w5.heap.size ∧ Blk W w5.heap.size [.pointer (some ⟨w.heap.size, 0, none⟩)] 33) ∧ (¬ T wa.heap.size ∧ Blk W wa.heap.size [.pointer (some ⟨w2.heap.size, 0, none⟩)] 33) ∧
      (¬ T wd.heap.size ∧ Blk W wd.heap.size [.int .i64 ((eW ls : Nat) : Int)] 3) ∧ (¬ T we.heap.size ∧ Blk W we.heap.size [.int .i64 ((prv (upl ls (eW ls)) m : Nat) : Int)] 3),
    fun _ _ _ => False, hit, fun k hk => by omega, fun m => stab_and stab_kp (stab_and (stabR m) (stab_and stab_blk (stab_and stab_blk (stab_and stab_blk stab_blk)))), fun _ => stab_const _,
    ⟨⟨fun _ f => f.elim, Kp.refl _ _⟩, ⟨_, _, hR⟩, ⟨fun f => f.elim, q1⟩, ⟨fun f => f.elim, q2⟩, ⟨fun f => f.elim, q3⟩, ⟨fun f => f.elim, q4⟩⟩, ?_, ?_, ?_, trivial⟩
  · -- a number
    rintro m T w28 hm hJ hT hTH hTH1 hTb
    refine ⟨Kp.refl _ _, fun w29 k29 => ?_⟩
    obtain ⟨⟨_, kg29⟩, ⟨l1, l2, r29⟩, ⟨nT1, p1⟩, ⟨nT2, p2⟩, ⟨nT3, p3⟩, ⟨nT4, p4⟩⟩ := (stab_and stab_kp (stab_and (stabR m) (stab_and stab_blk (stab_and stab_blk (stab_and stab_blk stab_blk))))) T T w28 w29 hJ ⟨k29.mono (fun k _ e => by subst e; exact hTH1), fun _ h => h, fun _ h => .inl h⟩
    have s29 := k29.size
    have sg29 := kg29.size
    have kdr : Kp no w29 w29.drew := (Kp.refl _ _).drew
    have hv := wg_le hg m
    have hmb : clampW ((eW ls : Nat) : Int) = eW ls := by unfold clampW; omega
    have hmask := mask w29.drew ((eW ls : Nat) : Int)
    rw [hmb] at hmask
    have d1 := p1.kp kdr id
    have d3 := p3.kp kdr id
    refine ⟨_, d1.cell0 0, _, d3.cell0 0, _, d3.cell0 0, usei hmask ⟨_, rfl, d3.cell0 0, d1.cell0 0, ?_⟩⟩
    have ev : bAnd .u64 (IntKind.u64.wrap ((wg ls m : Nat) : Int)) ((2 ^ eW ls - 1 : Nat) : Int) = ((wg ls m % 2 ^ eW ls : Nat) : Int) := by
      rw [wu64 (x := ((wg ls m : Nat) : Int)) ⟨by omega, by omega⟩, low _ _ (by omega) (by omega)]
    have hTl : ∀ k, T k → k < w29.heap.size := fun k hk => by have := hTb k hk; omega
    have hBl : ∀ k, Bx k → k < w29.heap.size := fun k hk => by have := Bxl k hk; omega
    have hpkl : (pkBits (eW ls) ((ls.map (· % 2 ^ eW ls)).take m)).length ≤ 64000000 := by
      rw [pk_len, List.length_take]
      have : eW ls * min m (ls.map (· % 2 ^ eW ls)).length ≤ 64 * 1000000 := Nat.mul_le_mul (by omega) (by rw [List.length_map]; omega)
      omega
    have hmd : wg ls m % 2 ^ eW ls < 2 ^ eW ls := Nat.mod_lt _ (Nat.two_pow_pos _)
    have hmd2 : wg ls m % 2 ^ eW ls ≤ wg ls m := Nat.mod_le _ _
    refine use ((r29.kpo kdr).add (by show _ ≤ w29.heap.size; omega) hTl hBl (by omega) (by omega) hmd (by omega) ev rfl) ?_
    rintro _ w39 ⟨rfl, l1', r39, k39⟩
    have epk : pkBits (eW ls) ((ls.map (· % 2 ^ eW ls)).take m) ++ lowb (wg ls m % 2 ^ eW ls) (eW ls) = pkBits (eW ls) ((ls.map (· % 2 ^ eW ls)).take (m + 1)) := by
      have hm' : m < (ls.map (· % 2 ^ eW ls)).length := by rw [List.length_map]; exact hm
      rw [List.take_add_one, List.getElem?_eq_getElem hm']
      show _ = pkBits (eW ls) ((ls.map (· % 2 ^ eW ls)).take m ++ [(ls.map (· % 2 ^ eW ls))[m]])
      rw [pk_snoc, List.getElem_map]
      congr 2
      unfold wg; rw [List.getElem?_eq_getElem hm]; rfl
    rw [epk] at r39
    have kS : ∀ {U V : World}, Kp (fun k => w.heap.size ≤ k ∧ ¬ Bx k ∧ ¬ T k) U V → Kp (Sx T) U V := fun g => g.mono (fun k _ h => by rw [hSx]; exact ⟨h.1, h.2.2, .inl h.2.1⟩)
    have k2939 : Kp (Sx T) w29 w39 := (kdr.mono (S' := Sx T) (fun _ _ f => f.elim)).trans (kS k39) (fun _ _ h => h)
    have bxn : ∀ k, Bx k → k ≠ we.heap.size → ¬ Sx T k := fun k h1 h2 h3 => by rw [hSx] at h3; exact h3.2.2.elim (fun g => g h1) h2
    have bx1 : Bx w5.heap.size := by rw [hBx]; exact .inl rfl
    have bx2 : Bx wa.heap.size := by rw [hBx]; exact .inr (.inl rfl)
    have bx3 : Bx wd.heap.size := by rw [hBx]; exact .inr (.inr (.inl rfl))
    have bx4 : Bx we.heap.size := by rw [hBx]; exact .inr (.inr (.inr (.inl rfl)))
    have bx5 : Bx bq := by rw [hBx]; exact .inr (.inr (.inr (.inr rfl)))
    have hprv := prv_le hu hm
    have hup := upl_lt hg hm
    have p439 : Blk w39 we.heap.size [.int .i64 ((prv (upl ls (eW ls)) m : Nat) : Int)] 3 := (p4.kp kdr id).kp k39 (fun h => h.2.1 bx4)
    refine ⟨_, rfl, fun V => ∃ (l1 l2 : Slc) (c : Nat), prv (upl ls (eW ls)) m ≤ c ∧ c ≤ upl ls (eW ls) m ∧ Kp (Sx T) w29 V ∧ Blk V we.heap.size [.int .i64 (c : Int)] 3 ∧
        R2 w.heap.size Bx T V w.heap.size l1 (pkBits (eW ls) ((ls.map (· % 2 ^ eW ls)).take (m + 1))) w2.heap.size l2 (hb (upl ls (eW ls)) m ++ List.replicate (c - prv (upl ls (eW ls)) m) false),
      fun V => match V.cell? ⟨we.heap.size, 0, none⟩ with | some (.int _ n) => ((upl ls (eW ls) m : Nat) - n).toNat | _ => 0,
      ⟨_, _, _, Nat.le_refl _, hprv, k2939, p439, by rw [Nat.sub_self]; simpa using r39⟩, ?_⟩
    rintro V ⟨l1, l2, c, hc1, hc2, kV, pV, rV⟩
    have sV := kV.size
    have p1V := p1.kp kV (bxn _ bx1 (by omega))
    have p2V := p2.kp kV (bxn _ bx2 (by omega))
    have p3V := p3.kp kV (bxn _ bx3 (by omega))
    have hcp : IntKind.u64.wrap (eW ls : Int) = ((eW ls : Nat) : Int) := wu64 ⟨by omega, by omega⟩
    refine ⟨_, pV.cell0 0, _, p3V.cell0 0, by rw [hcp]; omega, ?_⟩
    rw [hcp, shr_i64 hW]
    have hul : wg ls m / 2 ^ eW ls = upl ls (eW ls) m := rfl
    rw [hul]
    have hbl : (hb (upl ls (eW ls)) m ++ List.replicate (c - prv (upl ls (eW ls)) m) false).length ≤ 100000000 := by
      have := hb_len (hu.le (Nat.le_of_lt hm))
      rw [List.length_append, List.length_replicate, this]
      omega
    have hTlV : ∀ k, T k → k < V.heap.size := fun k hk => by have := hTl k hk; omega
    have hBlV : ∀ k, Bx k → k < V.heap.size := fun k hk => by have := hBl k hk; omega
    refine br_dec (fun hlt => ?_) (fun hlt => ?_)
    · refine ⟨_, p2V.cell0 0, use (rV.swap.add (x := 0) (k := 1) (by omega) hTlV hBlV (by omega) (by omega) (by omega) (by omega) rfl rfl) ?_⟩
      rintro _ w48 ⟨rfl, l2', r48, k48⟩
      have p48 := pV.kp k48 (fun h => h.2.1 bx4)
      obtain ⟨e1, e2, p49, e4⟩ := setc (v := .int .i64 ((c + 1 : Nat) : Int)) p48
      refine ⟨_, rfl, _, p48.cell0 0, e1, e2, ?_⟩
      rw [show IntKind.i64.wrap ((c : Int) + 1) = ((c + 1 : Nat) : Int) by rw [w64 ⟨by omega, by omega⟩]; omega]
      have ks := e4 (fun k => k = we.heap.size) rfl
      refine ⟨⟨l1, l2', c + 1, by omega, by omega, (kV.trans (kS k48) (fun _ _ h => h)).trans ks (fun k h1 h2 => by subst h2; rw [hSx]; exact ⟨by omega, nT4, .inr rfl⟩), p49, ?_⟩, ?_⟩
      · have r49 := r48.swap.kp ks (fun k _ hb _ h2 => by subst h2; exact hb bx4)
        rw [lowb_zero1, List.append_assoc, rep_snoc, show c - prv (upl ls (eW ls)) m + 1 = c + 1 - prv (upl ls (eW ls)) m by omega] at r49
        exact r49
      · show (match (w48.setCell ⟨we.heap.size, 0, none⟩ (.int .i64 ((c + 1 : Nat) : Int))).cell? ⟨we.heap.size, 0, none⟩ with | some (.int _ n) => ((upl ls (eW ls) m : Nat) - n).toNat | _ => 0) < (match V.cell? ⟨we.heap.size, 0, none⟩ with | some (.int _ n) => ((upl ls (eW ls) m : Nat) - n).toNat | _ => 0)
        rw [p49.cell0 0, pV.cell0 0]
        show ((upl ls (eW ls) m : Nat) - ((c + 1 : Nat) : Int)).toNat < ((upl ls (eW ls) m : Nat) - (c : Int)).toNat
        omega
    · obtain rfl : c = upl ls (eW ls) m := by omega
      refine ⟨_, p2V.cell0 0, use (rV.swap.add (x := 1) (k := 1) (by omega) hTlV hBlV (by omega) (by omega) (by omega) (by omega) rfl rfl) ?_⟩
      rintro _ w53 ⟨rfl, l2', r53, k53⟩
      have k2953 : Kp (Sx T) w29 w53 := kV.trans (kS k53) (fun _ _ h => h)
      refine ⟨_, rfl, k2953.mono (fun k h1 h2 => ?_), ⟨hT, kg29.trans k2953 (fun k h1 h2 => by rw [hSx] at h2; exact h2.1)⟩, ⟨l1, l2', ?_⟩, ⟨nT1, p1V.kp k53 (fun h => h.2.1 bx1)⟩, ⟨nT2, p2V.kp k53 (fun h => h.2.1 bx2)⟩, ⟨nT3, p3V.kp k53 (fun h => h.2.1 bx3)⟩, ⟨nT4, ?_⟩⟩
      · rw [hSx] at h2
        refine ⟨h2.2.1, fun h3 => ?_⟩
        rcases h3 with rfl | rfl | h3
        · omega
        · rcases h2.2.2 with g | g
          · exact g bx5
          · omega
        · omega
      · have := r53.swap
        rw [lowb_one, List.append_assoc] at this
        exact this
      · rw [prv_succ]; exact pV.kp k53 (fun h => h.2.1 bx4)
  · -- all numbers are done: the upper bits behind the lower ones
    rintro T w56 ⟨⟨_, kg56⟩, ⟨l1, l2, r56⟩, ⟨nT1, p1⟩, ⟨nT2, p2⟩, ⟨nT3, p3⟩, ⟨nT4, p4⟩⟩ ⟨hT, hTH⟩ hDef
    have s56 := kg56.size
    rw [List.take_of_length_le (by rw [List.length_map]; omega)] at r56
    have bx1 : Bx w5.heap.size := by rw [hBx]; exact .inl rfl
    have bx2 : Bx wa.heap.size := by rw [hBx]; exact .inr (.inl rfl)
    refine ⟨_, p2.cell0 0, usei (len1 r56.row2) ⟨_, rfl, ?_⟩⟩
    have hl2 : (pkBits (eW ls) (ls.map (· % 2 ^ eW ls))).length ≤ 64000000 := by
      rw [pk_len, List.length_map]
      have : eW ls * ls.length ≤ 64 * 1000000 := Nat.mul_le_mul (by omega) (by omega)
      omega
    refine ⟨fun i V => ∃ (l1 : Slc) (j : Nat), i = j ∧ j ≤ (hiB ls).length ∧ Kp (fun k => w.heap.size ≤ k ∧ ¬ Bx k ∧ ¬ T k) w56 V ∧ R2 w.heap.size Bx T V w.heap.size l1 (pkBits (eW ls) (ls.map (· % 2 ^ eW ls)) ++ (hiB ls).take j) w2.heap.size l2 (hiB ls),
      fun i _ => ((hiB ls).length - i).toNat, ⟨l1, 0, rfl, by omega, Kp.refl _ _, by rw [List.take_zero, List.append_nil]; exact r56⟩, ?_⟩
    rintro i V ⟨l1, j, rfl, hj, kV, rV⟩
    have sV := kV.size
    have p1V := p1.kp kV (fun h => h.2.1 bx1)
    have p2V := p2.kp kV (fun h => h.2.1 bx2)
    refine br_dec (fun hlt => ?_) (fun hlt => ?_)
    · have kdr : Kp no V V.drew := (Kp.refl _ _).drew
      have rd := rV.kpo kdr
      refine ⟨_, (p1V.kp kdr id).cell0 0, _, (p2V.kp kdr id).cell0 0, usei (cut1 rd.row2 (by omega) _ _ ⟨by omega, by omega⟩) ⟨_, rfl, (p1V.kp kdr id).cell0 0, ?_⟩⟩
      have hcl : clampW 1 = 1 := by decide
      have ecut : cutL (hiB ls) (j : Int) (clampW 1) = (if bg (hiB ls) j then 1 else 0) := by
        rw [hcl, cutL_nat]
        apply Nat.eq_of_testBit_eq
        intro i
        rw [testBit_cutN]
        cases hb : bg (hiB ls) j
        · by_cases g : i < 1
          · obtain rfl : i = 0 := by omega
            simp [hb]
          · simp [g]
        · by_cases g : i < 1
          · obtain rfl : i = 0 := by omega
            simp [hb]
          · simp only [g, decide_false, Bool.false_and, if_pos]
            exact (Nat.testBit_lt_two_pow (Nat.one_lt_two_pow (by omega))).symm
      have elow : lowb (if bg (hiB ls) j then 1 else 0) 1 = [bg (hiB ls) j] := by cases bg (hiB ls) j <;> decide
      have hxl : (if bg (hiB ls) j then 1 else 0 : Nat) < 2 ^ 1 := by split <;> omega
      refine use (rd.add (x := if bg (hiB ls) j then 1 else 0) (k := 1) (by show _ ≤ V.heap.size; omega) (fun k hk => by show k < V.heap.size; have := hT k hk; omega) (fun k hk => by show k < V.heap.size; have := Bxl k hk; omega) (by rw [List.length_append, List.length_take]; omega) (by omega) hxl (by omega) (by rw [ecut]) rfl) ?_
      rintro _ w71 ⟨rfl, l1', r71, k71⟩
      refine ⟨_, rfl, ⟨l1', j + 1, by rw [w64 ⟨by omega, by omega⟩]; omega, by omega, (kV.trans kdr (fun _ _ f => f.elim)).trans k71 (fun _ _ h => h), ?_⟩, by rw [w64 ⟨by omega, by omega⟩]; dsimp only; omega⟩
      rw [elow, List.append_assoc] at r71
      have et : (hiB ls).take j ++ [bg (hiB ls) j] = (hiB ls).take (j + 1) := by
        rw [List.take_add_one, List.getElem?_eq_getElem (by omega)]
        unfold bg; rw [List.getElem?_eq_getElem (by omega)]; rfl
      rw [et] at r71
      exact r71
    · obtain rfl : j = (hiB ls).length := by omega
      rw [List.take_length] at rV
      have hDV : V.heap[wg_.heap.size]? = some (.deferred (some [])) := (kV.keep _ (heap_lt hDef) (fun h => h.2.2 hTH)).trans hDef
      refine ⟨_, p1V.cell0 0, List.nodup_cons.2 ⟨by simp, List.nodup_nil⟩, fun D hD => by rw [List.mem_singleton.1 hD]; exact hDV, fun w74 k74 => ⟨_, rfl, ?_, ?_⟩⟩
      · have r74 := rV.kp k74 (fun k _ _ hn h2 => by rw [List.mem_singleton.1 h2] at hn; exact hn hTH)
        exact ⟨l1, r74.row1, fun k hk => (r74.f1 k hk).1⟩
      · have kwV : Kp no w V := ((k0f.t kg).trans kg56 (fun k h1 h2 => by omega)).trans kV (fun k h1 h2 => by omega)
        exact kwV.trans k74 (fun k h1 h2 => by rw [List.mem_singleton.1 h2] at h1; omega)
  · rintro T w56 hh
    exact hh.elim
end Go.Proofs.YtomajpihimlcjaaDoor.V
