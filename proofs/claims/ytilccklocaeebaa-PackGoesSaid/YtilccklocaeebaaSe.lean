/- The directory that selects: asked. -/
import Derived.Test.YtilccklocaeebaaSd
namespace Go.VC
open Go
theorem comp_u64 {x : Nat} (hx : x < 18446744073709551616) : bXor .u64 (if IntKind.u64.signed then -1 else IntKind.u64.max) (x : Int) = ((18446744073709551615 ^^^ x : Nat) : Int) := by
  rw [show (if IntKind.u64.signed then (-1 : Int) else IntKind.u64.max) = ((18446744073709551615 : Nat) : Int) by decide]
  exact xor_u64 (by omega) hx
theorem comp_lt {x : Nat} (hx : x < 18446744073709551616) : 18446744073709551615 ^^^ x < 18446744073709551616 := Nat.xor_lt_two_pow (n := 64) (by omega) hx
theorem comp_bit {x i : Nat} (hi : i < 64) : (18446744073709551615 ^^^ x).testBit i = !x.testBit i := by
  have : (18446744073709551615 : Nat).testBit i = true := by
    rw [show (18446744073709551615 : Nat) = 2 ^ 64 - 1 by decide, Nat.testBit_two_pow_sub_one]; simp [hi]
  rw [Nat.testBit_xor, this]; simp
theorem cnt_comp {x n : Nat} (hn : n ≤ 64) : cnt (18446744073709551615 ^^^ x).testBit n + cnt x.testBit n = n := by
  rw [cnt_congr (q := fun i => !x.testBit i) (fun i hi => comp_bit (by omega)), cnt_not]
theorem cnt_word (bits : List Bool) (k a : Nat) (ha : a ≤ 64) : cnt (bg bits) (64 * k + a) = cnt (bg bits) (64 * k) + cnt (wordOf bits k).testBit a := by
  rw [cnt_add, cnt_congr (p := (wordOf bits k).testBit) (fun i hi => testBit_wordOf bits k i (by omega))]
end Go.VC
namespace Go.Proofs.Ytilccklocaeebaa.V
open Go Go.VC
variable {w w' w0 : World} {l lw lo lz lS : Slc} {bits : List Bool} {so sz ss : List Nat} {d r s B k : Nat}

theorem sspan (hb : ∃ cs, Blk w s (.slice lw.a lw.len lw.cap :: cs) 97) (h : RdS w lS ss) (hx : ∀ x ∈ ss, x < 100000000) (hk : k / 64 < ss.length) (h64 : k ≤ 1000000000) :
    IsK 66 #[.pointer (some ⟨s, 0, none⟩), .slice lS.a lS.len lS.cap, .int .i64 k] w
      (.tuple #[.int .i64 (wg ss (k / 64) : Nat), .int .i64 ((if k / 64 + 1 < ss.length then wg ss (k / 64 + 1) + 1 else lw.len : Nat) : Int)]) := by
  refine c66 _ _ _ _ _ ?_
  unfold B66
  obtain ⟨cs, hb⟩ := hb
  have hl := h.len
  have kd : Kp no w w.drew := (Kp.refl _ _).drew
  have hd := h.kp kd (fun _ _ f => f)
  have e1 : IntKind.i64.wrap (Int.tdiv (k : Int) 64) = ((k / 64 : Nat) : Int) := by rw [Int.tdiv_eq_ediv_of_nonneg (by omega), w64 ⟨by omega, by omega⟩]; omega
  have e2 : IntKind.i64.wrap (((k / 64 : Nat) : Int) + 1) = ((k / 64 + 1 : Nat) : Int) := by rw [w64 ⟨by omega, by omega⟩]; omega
  have hw : ∀ j, j < ss.length → wg ss j < 100000000 := fun j hj => by
    unfold wg; rw [List.getElem?_eq_getElem hj]; exact hx _ (List.getElem_mem _)
  rw [e1]
  obtain ⟨a, ha, hc⟩ := hd.at (i := ((k / 64 : Nat) : Int)) (by omega) (by omega)
  rw [Int.toNat_natCast] at hc
  have h1 := hw _ hk
  refine ⟨by omega, by omega, by omega, a, ha, _, by rw [Int.toNat_natCast]; exact hc, lw, (hb.kp kd id).cell 0, by omega, ?_⟩
  rw [e2, w64 (x := ((wg ss (k / 64) : Nat) : Int)) ⟨by omega, by omega⟩]
  refine br_dec (fun h5 => ?_) (fun h5 => ⟨?_, kd⟩)
  · obtain ⟨b, hb2, hc2⟩ := hd.at (i := ((k / 64 + 1 : Nat) : Int)) (by omega) h5
    rw [Int.toNat_natCast] at hc2
    have h2 := hw (k / 64 + 1) (by omega)
    refine ⟨by omega, by omega, h5, b, hb2, _, by rw [Int.toNat_natCast]; exact hc2, ?_, kd⟩
    rw [if_pos (by omega), w64 (x := ((wg ss (k / 64 + 1) : Nat) : Int)) ⟨by omega, by omega⟩, w64 ⟨by omega, by omega⟩]
    rfl
  · rw [if_neg (by omega)]

theorem srch {g : Nat} (hg : G g = true) {a : Addr} (F : Nat → Nat) {lo hi : Nat} {kk : Int} (hlt : lo < hi) (hhi : hi ≤ 100000000) (h1 : (F (64 * lo) : Int) ≤ kk) (h2 : kk < (F (64 * hi) : Int))
    (H : ∀ w' j, Kp no w w' → j < hi → Calls Try.prog g #[.int .i64 ((64 * j : Nat) : Int), .pointer (some a)] w' (Rv fun v u => v = .int .i64 (F (64 * j) : Nat) ∧ Kp no w' u)) :
    Calls Try.prog 67 #[.int .i64 lo, .int .i64 hi, .int .i64 kk, .func (.func g) #[] #[.pointer (some a)]] w (Rv fun v w' => Kp no w w' ∧ ∃ j : Nat, v = .int .i64 j ∧ lo ≤ j ∧ j < hi ∧ (F (64 * j) : Int) ≤ kk ∧ kk < (F (64 * (j + 1)) : Int)) := by
  refine c67 _ _ _ _ _ _ ?_
  unfold B67
  refine ⟨fun x y w' => Kp no w w' ∧ ∃ a b : Nat, x = a ∧ y = b ∧ lo ≤ a ∧ a < b ∧ b ≤ hi ∧ (F (64 * a) : Int) ≤ kk ∧ kk < (F (64 * b) : Int), fun x y _ => (y - x).toNat, ⟨Kp.refl _ _, lo, hi, rfl, rfl, Nat.le_refl _, hlt, Nat.le_refl _, h1, h2⟩, ?_⟩
  rintro x y w1 ⟨k1, p, q, rfl, rfl, hp, hpq, hq, f1, f2⟩
  rw [w64 (x := (q : Int) - (p : Int)) ⟨by omega, by omega⟩]
  refine br_dec (fun h5 => ⟨by omega, ?_⟩) (fun h5 => ?_)
  · have e1 : IntKind.i64.wrap ((p : Int) + IntKind.i64.wrap (Int.tdiv ((q : Int) - (p : Int)) 2)) = ((p + (q - p) / 2 : Nat) : Int) := by
      rw [Int.tdiv_eq_ediv_of_nonneg (by omega), w64 (x := ((q : Int) - (p : Int)) / 2) ⟨by omega, by omega⟩, w64 ⟨by omega, by omega⟩]; omega
    rw [e1]
    have e2 : IntKind.i64.wrap (((p + (q - p) / 2 : Nat) : Int) * 64) = ((64 * (p + (q - p) / 2) : Nat) : Int) := by rw [w64 ⟨by omega, by omega⟩]; omega
    rw [e2]
    unfold CallFV
    simp only [hg]
    refine use (H w1 (p + (q - p) / 2) k1 (by omega)) ?_
    rintro _ w2 ⟨rfl, k2⟩
    refine ⟨_, rfl, br_dec (fun h6 => ⟨⟨k1.t k2, _, _, rfl, rfl, by omega, by omega, hq, h6, f2⟩, by omega⟩) (fun h6 => ⟨⟨k1.t k2, _, _, rfl, rfl, hp, by omega, by omega, f1, by omega⟩, by omega⟩)⟩
  · obtain rfl : q = p + 1 := by omega
    exact ⟨k1, p, rfl, hp, by omega, f1, f2⟩

/-- What the samples say of the words that are searched. -/
theorem SI_span {p : Nat → Bool} {K k : Nat} {ss : List Nat} (h : SI p K ss) (hk : k < cnt p (64 * K)) :
    k / 64 < ss.length ∧ wg ss (k / 64) < K ∧ cnt p (64 * wg ss (k / 64)) ≤ k ∧ wg ss (k / 64) < (if k / 64 + 1 < ss.length then wg ss (k / 64 + 1) + 1 else K) ∧ (if k / 64 + 1 < ss.length then wg ss (k / 64 + 1) + 1 else K) ≤ K ∧ k < cnt p (64 * (if k / 64 + 1 < ss.length then wg ss (k / 64 + 1) + 1 else K)) := by
  obtain ⟨h1, h2, h3, h4⟩ := h
  have hl : k / 64 < ss.length := by omega
  have hw : ∀ j, j < ss.length → wg ss j < K := fun j hj => by
    unfold wg; rw [List.getElem?_eq_getElem hj]; exact h2 _ (List.getElem_mem _)
  have s1 := h1 (k / 64) hl
  have c1 := hw _ hl
  refine ⟨hl, c1, by omega, ?_⟩
  split
  · rename_i g
    have s2 := h1 _ g
    have c2 := hw _ g
    refine ⟨?_, by omega, by omega⟩
    by_cases e : wg ss (k / 64) < wg ss (k / 64 + 1) + 1
    · exact e
    · have := cnt_mono p (m := 64 * (wg ss (k / 64 + 1) + 1)) (n := 64 * wg ss (k / 64)) (by omega)
      omega
  · exact ⟨c1, Nat.le_refl _, hk⟩

theorem SelB.len (h : SelB w s bits B) : Is 40 #[.pointer none] w (.int .i64 0) := by
  refine c40n _ _ ?_
  unfold B40n
  exact ⟨rfl, rfl⟩
theorem clampL_all (bits : List Bool) : clampL bits (bits.length : Int) = bits.length := by unfold clampL; omega

theorem sOnes (h : SelB w s bits B) (hsz : bits.length ≤ 1000000000) : IsK 40 #[.pointer (some ⟨s, 0, none⟩)] w (.int .i64 (cnt (bg bits) bits.length)) := by
  refine c40 _ _ _ ?_
  unfold B40
  obtain ⟨d, lw, lo, lz, so, sz, h⟩ := h
  have kd : Kp no w w.drew := (Kp.refl _ _).drew
  have hd := h.kp kd (fun _ _ f => f)
  refine ⟨_, hd.blk.cell 1, _, hd.blk.cell 4, usek (rankB hd.dir (by omega) _) fun w1 k1 => ⟨_, rfl, ?_, kd.t k1⟩⟩
  rw [clampL_all]

theorem sOne (h : SelB w s bits B) (hsz : bits.length ≤ 1000000000) (k : Int) : IsK 41 #[.pointer (some ⟨s, 0, none⟩), .int .i64 k] w (.int .i64 (atL (plc (bg bits) bits.length) k)) := by
  refine c41 _ _ _ _ ?_
  unfold B41
  have hb0 := Blk.new w [.pointer (some ⟨s, 0, none⟩)] 63
  have kA : Kp no w (w.alloc (.cells #[.pointer (some ⟨s, 0, none⟩)] 63)) := (Kp.refl _ _).alloc _ _
  have h1 := h.kpo kA
  generalize w.alloc (.cells #[.pointer (some ⟨s, 0, none⟩)] 63) = w1 at *
  have none_ : k < 0 ∨ (cnt (bg bits) bits.length : Int) ≤ k → atL (plc (bg bits) bits.length) k = -1 := fun hh => ((PlaceP.eq (.inl ⟨rfl, hh⟩))).symm
  refine br_dec (fun h5 => ⟨by rw [none_ (.inl h5)], kA⟩) (fun h5 => ⟨_, hb0.cell0 0, usek (sOnes h1 hsz) fun w2 k2 => ⟨_, rfl, br_dec (fun h6 => ⟨by rw [none_ (.inr h6)], kA.t k2⟩) (fun h6 => ?_)⟩⟩)
  obtain ⟨k, rfl⟩ : ∃ j : Nat, k = j := ⟨k.toNat, by omega⟩
  obtain ⟨d, lw, lo, lz, so, sz, h1⟩ := h1
  have kd : Kp no w1 w2.drew := k2.drew
  have hb2 := hb0.kp kd id
  have h2 := h1.kp kd (fun _ _ f => f)
  generalize World.drew w2 = w3 at *
  have hlw := h1.words.len
  rw [length_wordsOf] at hlw
  have hce : cnt (bg bits) bits.length = cnt (bg bits) (64 * ((bits.length + 63) / 64)) := (cnt_end (by omega)).symm
  have hsp := SI_span h1.io (k := k) (by omega)
  obtain ⟨s1, s2, s3, s4, s5, s6⟩ := hsp
  refine ⟨_, hb2.cell0 0, _, hb2.cell0 0, lo, h2.blk.cell 2, usek (sspan ⟨_, h2.blk⟩ h2.ro (fun x hx => by have := h1.io.2.1 x hx; omega) s1 (by have := cnt_le (bg bits) bits.length; omega)) fun w4 k4 => ⟨_, _, rfl, ?_⟩⟩
  rw [hlw] at s2 s4 s5 s6
  have hF := srch (w := w4) (g := 68) (by decide +kernel) (a := ⟨w.heap.size, 0, none⟩) (cnt (bg bits)) (kk := k) s4 (by omega) (by omega) (by omega) (fun w' j kw hj => by
    refine c68 _ _ _ _ ?_
    unfold B68
    have kk := k4.t kw
    have h3 := h2.kp kk (fun _ _ f => f)
    refine ⟨_, (hb2.kp kk id).cell0 0, _, h3.blk.cell 1, usek (rankB h3.dir (by omega) _) fun w5 k5 => ⟨_, rfl, ?_, k5⟩⟩
    have : clampL bits ((64 * j : Nat) : Int) = 64 * j := by unfold clampL; omega
    rw [this])
  refine use hF ?_
  rintro _ w5 ⟨k5, at_, rfl, a1, a2, a3, a4⟩
  have kd5 : Kp no w3 w5.drew := (k4.t k5).drew
  have hb5 := hb2.kp kd5 id
  have h5' := h2.kp kd5 (fun _ _ f => f)
  have kall : Kp no w w5.drew := kA.t (kd.t kd5)
  generalize World.drew w5 = w6 at *
  obtain ⟨aw, ha, hc⟩ := h5'.words.at (i := (at_ : Int)) (by omega) (by omega)
  rw [Int.toNat_natCast, wg_wordsOf] at hc
  refine ⟨_, rfl, _, hb5.cell0 0, lw, h5'.blk.cell 0, by omega, by omega, aw, ha, _, by rw [Int.toNat_natCast]; exact hc, _, hb5.cell0 0, _, h5'.blk.cell 1, ?_⟩
  have e1 : IntKind.i64.wrap ((at_ : Int) * 64) = ((64 * at_ : Nat) : Int) := by rw [w64 ⟨by omega, by omega⟩]; omega
  rw [e1]
  refine usek (rankB h5'.dir (by omega) _) fun w7 k7 => ⟨_, rfl, ?_⟩
  have hcl : clampL bits ((64 * at_ : Nat) : Int) = 64 * at_ := by unfold clampL; omega
  have h7 := h5'.kp k7 (fun _ _ f => f)
  obtain ⟨aw2, ha2, hc2⟩ := h7.words.at (i := (at_ : Int)) (by omega) (by omega)
  rw [ha] at ha2; cases ha2
  rw [Int.toNat_natCast, wg_wordsOf] at hc2
  rw [hcl]
  refine ⟨by rw [Int.toNat_natCast]; exact hc2, h7.blk.cell 0, (hb5.kp k7 id).cell0 0, use (select w7 _ (wordOf_lt bits at_) _) ?_⟩
  rintro _ w8 ⟨rfl, q, rfl, hq⟩
  have hp := pc_word bits at_
  have hcc := cnt_le (bg bits) (64 * at_)
  have hcd := cnt_le (bg bits) (64 * (at_ + 1))
  rw [w64 (x := (k : Int) - _) ⟨by omega, by omega⟩] at hq
  rcases hq with ⟨rfl, hq | hq⟩ | ⟨b, rfl, hb, hbit, hcb⟩
  · omega
  · omega
  · rw [testBit_wordOf _ _ _ hb] at hbit
    have hlen : 64 * at_ + b < bits.length := by
      by_cases g : 64 * at_ + b < bits.length
      · exact g
      · rw [bg_out (by omega)] at hbit; cases hbit
    refine ⟨_, rfl, ?_, kall.t k7⟩
    rw [w64 ⟨by omega, by omega⟩]
    have hP : PlaceP (bg bits) bits.length (k : Int) ((64 * at_ + b : Nat) : Int) := .inr ⟨_, rfl, hlen, hbit, by rw [cnt_word bits at_ b (by omega)]; omega⟩
    rw [← hP.eq]
    congr 1

theorem sZero (h : SelB w s bits B) (hsz : bits.length ≤ 1000000000) (k : Int) : IsK 43 #[.pointer (some ⟨s, 0, none⟩), .int .i64 k] w (.int .i64 (atL (plc (nz bits) bits.length) k)) := by
  refine c43 _ _ _ _ ?_
  unfold B43
  have hb0 := (Blk.new w [.pointer (some ⟨s, 0, none⟩)] 63).drew
  have kA : Kp no w (World.drew (w.alloc (.cells #[.pointer (some ⟨s, 0, none⟩)] 63))) := ((Kp.refl _ _).alloc _ _).drew
  have h1 := h.kpo kA
  generalize World.drew (w.alloc (.cells #[.pointer (some ⟨s, 0, none⟩)] 63)) = w1 at *
  have none_ : k < 0 ∨ (cnt (nz bits) bits.length : Int) ≤ k → atL (plc (nz bits) bits.length) k = -1 := fun hh => ((PlaceP.eq (.inl ⟨rfl, hh⟩))).symm
  obtain ⟨d, lw, lo, lz, so, sz, h1⟩ := h1
  have hcn := cnt_nz (bits := bits) (Nat.le_refl _)
  refine ⟨_, hb0.cell0 0, br_of (fun hh => by cases hh) (fun _ => br_dec (fun h5 => ⟨by rw [none_ (.inl h5)], kA⟩) (fun h5 => ⟨_, hb0.cell0 0, _, h1.blk.cell 1, _, hb0.cell0 0, _, h1.blk.cell 4, usek (zerosB h1.dir (by omega) _) fun w2 k2 => ⟨_, rfl, ?_⟩⟩))⟩
  rw [clampL_all]
  refine br_dec (fun h6 => ⟨by rw [none_ (.inr (by omega))], kA.t k2⟩) (fun h6 => ?_)
  obtain ⟨k, rfl⟩ : ∃ j : Nat, k = j := ⟨k.toNat, by omega⟩
  have kd : Kp no w1 w2.drew := k2.drew
  have hb2 := hb0.kp kd id
  have h2 := h1.kp kd (fun _ _ f => f)
  generalize World.drew w2 = w3 at *
  have hlw := h1.words.len
  rw [length_wordsOf] at hlw
  have hce : cnt (nz bits) (64 * ((bits.length + 63) / 64)) = cnt (nz bits) bits.length := cnt_stop (p := nz bits) (fun i hi => nz_out hi) (by omega)
  have hsp := SI_span h1.iz (k := k) (by omega)
  obtain ⟨s1, s2, s3, s4, s5, s6⟩ := hsp
  refine ⟨_, hb2.cell0 0, _, hb2.cell0 0, lz, h2.blk.cell 3, usek (sspan ⟨_, h2.blk⟩ h2.rz (fun x hx => by have := h1.iz.2.1 x hx; omega) s1 (by have := cnt_le (nz bits) bits.length; omega)) fun w4 k4 => ⟨_, _, rfl, ?_⟩⟩
  rw [hlw] at s2 s4 s5 s6
  have hz64 : ∀ j, 64 * j ≤ bits.length → ((clampL bits ((64 * j : Nat) : Int) : Nat) : Int) - (cnt (bg bits) (clampL bits ((64 * j : Nat) : Int)) : Nat) = (cnt (nz bits) (64 * j) : Nat) := fun j hj => by
    have : clampL bits ((64 * j : Nat) : Int) = 64 * j := by unfold clampL; omega
    rw [this]
    have := cnt_nz hj
    omega
  have hF := srch (w := w4) (g := 70) (by decide +kernel) (a := ⟨w.heap.size, 0, none⟩) (cnt (nz bits)) (kk := k) s4 (by omega) (by omega) (by omega) (fun w' j kw hj => by
    refine c70 _ _ _ _ ?_
    unfold B70
    have kk := k4.t kw
    have h3 := h2.kp kk (fun _ _ f => f)
    refine ⟨_, (hb2.kp kk id).cell0 0, _, h3.blk.cell 1, usek (zerosB h3.dir (by omega) _) fun w5 k5 => ⟨_, rfl, ?_, k5⟩⟩
    rw [hz64 j (by omega)])
  refine use hF ?_
  rintro _ w5 ⟨k5, at_, rfl, a1, a2, a3, a4⟩
  have kd5 : Kp no w3 w5.drew := (k4.t k5).drew
  have hb5 := hb2.kp kd5 id
  have h5' := h2.kp kd5 (fun _ _ f => f)
  have kall : Kp no w w5.drew := kA.t (kd.t kd5)
  generalize World.drew w5 = w6 at *
  obtain ⟨aw, ha, hc⟩ := h5'.words.at (i := (at_ : Int)) (by omega) (by omega)
  rw [Int.toNat_natCast, wg_wordsOf] at hc
  refine ⟨_, rfl, _, hb5.cell0 0, lw, h5'.blk.cell 0, by omega, by omega, aw, ha, _, by rw [Int.toNat_natCast]; exact hc, _, hb5.cell0 0, _, h5'.blk.cell 1, ?_⟩
  have e1 : IntKind.i64.wrap ((at_ : Int) * 64) = ((64 * at_ : Nat) : Int) := by rw [w64 ⟨by omega, by omega⟩]; omega
  rw [e1]
  refine usek (zerosB h5'.dir (by omega) _) fun w7 k7 => ⟨_, rfl, ?_⟩
  have h7 := h5'.kp k7 (fun _ _ f => f)
  obtain ⟨aw2, ha2, hc2⟩ := h7.words.at (i := (at_ : Int)) (by omega) (by omega)
  rw [ha] at ha2; cases ha2
  rw [Int.toNat_natCast, wg_wordsOf] at hc2
  rw [hz64 at_ (by omega), comp_u64 (wordOf_lt bits at_)]
  refine ⟨by rw [Int.toNat_natCast]; exact hc2, h7.blk.cell 0, (hb5.kp k7 id).cell0 0, use (select w7 _ (comp_lt (wordOf_lt bits at_)) _) ?_⟩
  rintro _ w8 ⟨rfl, q, rfl, hq⟩
  have hp := pc_word bits at_
  have hcc := cnt_le (nz bits) (64 * at_)
  have hcd := cnt_le (nz bits) (64 * (at_ + 1))
  have hpp : pc (18446744073709551615 ^^^ wordOf bits at_) + pc (wordOf bits at_) = 64 := cnt_comp (x := wordOf bits at_) (n := 64) (Nat.le_refl _)
  have hnw := nz_word (bits := bits) (k := at_) (by omega)
  rw [w64 (x := (k : Int) - _) ⟨by omega, by omega⟩] at hq
  rcases hq with ⟨rfl, hq | hq⟩ | ⟨b, rfl, hb, hbit, hcb⟩
  · omega
  · omega
  · rw [comp_bit hb, testBit_wordOf _ _ _ hb] at hbit
    have hcx := cnt_comp (x := wordOf bits at_) (n := b) (by omega)
    have hcw := cnt_word bits at_ b (by omega)
    have hn0 := cnt_nz (bits := bits) (n := 64 * at_) (by omega)
    have hlen : 64 * at_ + b < bits.length := by
      by_cases g : 64 * at_ + b < bits.length
      · exact g
      · have g1 : cnt (bg bits) (64 * at_ + b) = cnt (bg bits) bits.length := cnt_end (by omega)
        have g2 : cnt (bg bits) (64 * (at_ + 1)) = cnt (bg bits) bits.length := cnt_end (by omega)
        omega
    refine ⟨_, rfl, ?_, kall.t k7⟩
    rw [w64 ⟨by omega, by omega⟩]
    have hnb := cnt_nz (bits := bits) (n := 64 * at_ + b) (by omega)
    have hP : PlaceP (nz bits) bits.length (k : Int) ((64 * at_ + b : Nat) : Int) := .inr ⟨_, rfl, hlen, by unfold nz; simp [hlen]; simpa using hbit, by omega⟩
    rw [← hP.eq]
    congr 1
end Go.Proofs.Ytilccklocaeebaa.V
