/- The directory that selects: gone over from any one on (doors only). -/
import Derived.Test.YtomajpihimlcjaaDoorLt
import Derived.Test.YtomajpihimlcjaaDoorSa
import Derived.Test.YtomajpihimlcjaaDoorBS
namespace Go.VC
open Go Go.RowKit
theorem andnot_u64 {m n : Nat} (hm : m < 18446744073709551616) (hn : n < 18446744073709551616) : ∃ y : Nat, bAndNot .u64 (m : Int) (n : Int) = (y : Int) ∧ y < 18446744073709551616 ∧ ∀ a, y.testBit a = (m.testBit a && !n.testBit a) := by
  have e1 : (BitVec.ofInt 64 (m : Int)).toNat = m := (bits_of .u64 m).trans (Nat.mod_eq_of_lt hm)
  have e2 : (BitVec.ofInt 64 (n : Int)).toNat = n := (bits_of .u64 n).trans (Nat.mod_eq_of_lt hn)
  refine ⟨(BitVec.ofInt 64 (m : Int) &&& ~~~BitVec.ofInt 64 (n : Int)).toNat, ?_, BitVec.isLt _, fun a => ?_⟩
  · unfold bAndNot
    have h : (BitVec.ofInt 64 (m : Int) &&& ~~~BitVec.ofInt 64 (n : Int)).toNat < 18446744073709551616 := BitVec.isLt _
    exact wu64 ⟨by omega, by show ((BitVec.ofInt 64 (m : Int) &&& ~~~BitVec.ofInt 64 (n : Int)).toNat : Int) ≤ _; omega⟩
  · rw [BitVec.testBit_toNat, BitVec.getLsbD_and, BitVec.getLsbD_not, ← BitVec.testBit_toNat, ← BitVec.testBit_toNat, e1, e2]
    by_cases g : a < 64
    · simp [g]
    · have : m.testBit a = false := Nat.testBit_lt_two_pow (Nat.lt_of_lt_of_le hm (by have : 2 ^ 64 ≤ 2 ^ a := Nat.pow_le_pow_right (by omega) (by omega); simpa using this))
      simp [this]
theorem cnt_onesFrom (x k : Nat) : ∀ a, cnt (onesFrom x k) a = cnt x.testBit a - k
  | 0 => by simp [cnt]
  | a + 1 => by
    have ih := cnt_onesFrom x k a
    simp only [cnt]
    rw [ih]
    by_cases h : x.testBit a = true
    · by_cases g : k ≤ cnt x.testBit a
      · have : onesFrom x k a = true := by unfold onesFrom; simp [h, g]
        rw [if_pos this, if_pos h]; omega
      · have : ¬ onesFrom x k a = true := by unfold onesFrom; simp [h]; omega
        rw [if_neg this, if_pos h]; omega
    · have : ¬ onesFrom x k a = true := by unfold onesFrom; simp [h]
      rw [if_neg this, if_neg h]; omega
theorem pc_from {x k l : Nat} (h : ∀ a, l.testBit a = onesFrom x k a) : pc l = pc x - k := by
  unfold pc; rw [cnt_congr (q := onesFrom x k) (fun a _ => h a), cnt_onesFrom]
theorem selN_from {x k l j : Nat} (h : ∀ a, l.testBit a = onesFrom x k a) (hj : k + j < pc x) : selN l j = selN x (k + j) := by
  obtain ⟨h1, h2, h3⟩ := selN_spec hj
  refine selN_eq h1 ?_ ?_
  · rw [h]; unfold onesFrom; rw [h2, h3]; simp
  · rw [cnt_congr (q := onesFrom x k) (fun a _ => h a), cnt_onesFrom, h3]; omega
/-- Where the i-th one of a row stands. -/
def oneAt (bits : List Bool) (i : Nat) : Nat := wg (plc (bg bits) bits.length) i
theorem oneAt_eq {bits : List Bool} {a : Nat} (h : a < bits.length) (hb : bg bits a = true) : oneAt bits (cnt (bg bits) a) = a := by
  unfold oneAt wg; rw [plc_at h hb]; rfl
theorem oneAt_word {bits : List Bool} {q m : Nat} (h : m < pc (wordOf bits q)) : oneAt bits (cnt (bg bits) (64 * q) + m) = 64 * q + selN (wordOf bits q) m := by
  obtain ⟨h1, h2, h3⟩ := selN_spec h
  rw [testBit_wordOf _ _ _ h1] at h2
  have hl : 64 * q + selN (wordOf bits q) m < bits.length := by
    by_cases g : 64 * q + selN (wordOf bits q) m < bits.length
    · exact g
    · rw [bg_out (by omega)] at h2; cases h2
  have := oneAt_eq hl h2
  rwa [cnt_word _ _ _ (by omega), h3] at this
theorem stab_or {J : (Nat → Prop) → World → Prop} (A : Nat → Prop) (h : Stab J) : Stab (fun T w => J (fun k => A k ∨ T k) w) := fun T T' w w' hj hg => h _ _ _ _ hj ⟨hg.kp.mono (fun _ _ h => .inr h), fun k hk => hk.elim .inl (fun h => .inr (hg.up k h)), fun k hk => hk.elim (fun h => .inl (.inl h)) (fun h => (hg.fr k h).elim (fun g => .inl (.inr g)) .inr)⟩
end Go.VC
namespace Go.Proofs.YtomajpihimlcjaaDoor.V
open Go Go.VC
variable {w w' w0 : World} {bits : List Bool} {s B p q : Nat}

theorem sFrom (w : World) (s : Nat) (k : Int) : Calls Tryd.prog 23 #[.pointer (some ⟨s, 0, none⟩), .int .i64 k] w (Rv fun v w' => ∃ p q, v = .func (.func 87) #[] #[.pointer (some ⟨p, 0, none⟩), .pointer (some ⟨q, 0, none⟩)] ∧
    Blk w' p [.int .i64 k] 3 ∧ Blk w' q [.pointer (some ⟨s, 0, none⟩)] 35 ∧ Kp no w w' ∧ w.heap.size ≤ p ∧ w.heap.size ≤ q) := by
  refine c23 _ _ _ _ ?_
  unfold B23
  exact ⟨_, _, rfl, Blk.new _ _ _, (Blk.new _ _ _).alloc _, ((Kp.refl _ _).alloc _ _).alloc _ _, by simp, Nat.le_refl _⟩

theorem selIter {wC : World} (hs0 : SelB wC s bits B) (kC : Kp no wC w) (hsz : bits.length ≤ 1000000000) {k : Int} (hk : k ≤ 9223372036854775807) (bk : Blk w p [.int .i64 k] 3) (bd : Blk w q [.pointer (some ⟨s, 0, none⟩)] 35) (ht : Tab w) :
    Iter Tryd.prog 87 [] [.pointer (some ⟨p, 0, none⟩), .pointer (some ⟨q, 0, none⟩)] w (cnt (bg bits) bits.length - k.toNat) (fun j => [.int .i64 ((k.toNat + j : Nat) : Int), .int .i64 (oneAt bits (k.toNat + j) : Nat)]) (fun x => x = 0 ∨ x = p ∨ x = q ∨ (B ≤ x ∧ x < wC.heap.size)) := by
  intro lp J X w1 k1 hJ hX hr h0
  have hpos := ht.pos
  have sz1 := k1.size
  have szC := kC.size
  have hs := hs0.kpo kC
  have hpl0 := bk.lt
  have hql0 := bd.lt
  have hall := cnt_le (bg bits) bits.length
  refine c87 (.func (.yield lp) #[] #[]) ⟨p, 0, none⟩ ⟨q, 0, none⟩ _ _ ?_
  unfold B87
  -- the blocks of its own
  have ecs : (⟨cellsL (Value.func (.yield lp) #[] #[])⟩ : Array Value) = #[.func (.yield lp) #[] #[]] := rfl
  rw [ecs]
  have y0 := Blk.new w1 [.func (.yield lp) #[] #[]] 100
  have kA : Kp no w1 (w1.alloc (.cells #[.func (.yield lp) #[] #[]] 100)) := (Kp.refl _ _).alloc _ _
  have sA : (w1.alloc (.cells #[.func (.yield lp) #[] #[]] 100)).heap.size = w1.heap.size + 1 := World.size_alloc _ _
  generalize (w1.alloc (.cells #[.func (.yield lp) #[] #[]] 100)) = wa at *
  have c0 := Blk.new wa [.int .i64 0] 3
  have kB0 : Kp no wa (wa.alloc (.cells #[.int .i64 0] 3)) := (Kp.refl _ _).alloc _ _
  obtain ⟨e1, e2, c1, e4⟩ := setc (v := .int .i64 (max k 0)) c0
  have kB : Kp no wa ((wa.alloc (.cells #[.int .i64 0] 3)).setCell ⟨wa.heap.size, 0, none⟩ (.int .i64 (max k 0))) := kB0.trans (e4 (fun k => k = wa.heap.size) rfl) (fun k h1 h2 => by omega)
  have sB : ((wa.alloc (.cells #[.int .i64 0] 3)).setCell ⟨wa.heap.size, 0, none⟩ (.int .i64 (max k 0))).heap.size = wa.heap.size + 1 := by simp
  refine ⟨_, (bk.kp (k1.t kA) id).cell0 0, e1, e2, ?_⟩
  clear e1 e2 e4 kB0 c0
  generalize ((wa.alloc (.cells #[.int .i64 0] 3)).setCell ⟨wa.heap.size, 0, none⟩ (.int .i64 (max k 0))) = wb at *
  have k0b : Kp no w wb := k1.t (kA.t kB)
  refine ⟨_, (bd.kp k0b id).cell0 0, _, c1.cell0 0, usek (sOne (hs.kpo k0b) hsz _) fun w5 k5 => ⟨_, rfl, ?_⟩⟩
  have k05 := k0b.t k5
  have k15 := (kA.t kB).t k5
  have sz5 := k5.size
  have y5 := (y0.kp kB id).kp k5 id
  have c5 := c1.kp k5 id
  have hpl := atL_place (bg bits) bits.length (max k 0)
  refine br_dec (fun hneg => ?_) (fun hge => ?_)
  · refine ⟨List.nodup_nil, (fun D hD => by cases hD), fun w7 k7 => ⟨no, fun _ f => f.elim, .inl ?_⟩⟩
    have hn : cnt (bg bits) bits.length - k.toNat = 0 := by
      rcases hpl with ⟨_, h⟩ | ⟨a, h, _⟩
      · omega
      · omega
    rw [hn]
    exact (hJ 0).no h0 (k15.t (k7.mono (fun _ _ h => by cases h)))
  obtain ⟨a, hae, hal, hab, hac⟩ : ∃ a : Nat, atL (plc (bg bits) bits.length) (max k 0) = a ∧ a < bits.length ∧ bg bits a = true ∧ (cnt (bg bits) a : Int) = max k 0 := by
    rcases hpl with ⟨h, _⟩ | h
    · omega
    · exact h
  rw [hae]
  have hi0 : cnt (bg bits) a = k.toNat := by omega
  have ediv : IntKind.i64.wrap (Int.tdiv (a : Int) 64) = ((a / 64 : Nat) : Int) := by rw [Int.tdiv_eq_ediv_of_nonneg (by omega), w64 ⟨by omega, by omega⟩]; omega
  have emod : Int.tmod (a : Int) 64 = ((a % 64 : Nat) : Int) := by rw [Int.tmod_eq_emod_of_nonneg (by omega)]; omega
  rw [ediv, emod]
  have x0 := Blk.new w5 [.int .i64 0] 3
  obtain ⟨e1, e2, x1, e4⟩ := setc (v := .int .i64 ((a / 64 : Nat) : Int)) x0
  have k56 : Kp no w5 (World.drew ((w5.alloc (.cells #[.int .i64 0] 3)).setCell ⟨w5.heap.size, 0, none⟩ (.int .i64 ((a / 64 : Nat) : Int)))) := (((Kp.refl _ _).alloc _ _).trans (e4 (fun k => k = w5.heap.size) rfl) (fun k h1 h2 => by omega)).drew
  have s6 : (World.drew ((w5.alloc (.cells #[.int .i64 0] 3)).setCell ⟨w5.heap.size, 0, none⟩ (.int .i64 ((a / 64 : Nat) : Int)))).heap.size = w5.heap.size + 1 := by show ((w5.alloc (.cells #[.int .i64 0] 3)).setCell ⟨w5.heap.size, 0, none⟩ (.int .i64 ((a / 64 : Nat) : Int))).heap.size = _; simp
  have x6 := x1.drew
  refine ⟨by omega, e1, e2, ?_⟩
  clear e1 e2 e4 x0 x1
  generalize (World.drew ((w5.alloc (.cells #[.int .i64 0] 3)).setCell ⟨w5.heap.size, 0, none⟩ (.int .i64 ((a / 64 : Nat) : Int)))) = w6 at *
  have k06 := k05.t k56
  have y6 := y5.kp k56 id
  have c6 := c5.kp k56 id
  obtain ⟨dd, lw, lo, lz, so, sz, hat0⟩ := hs0
  have hat := hat0.kp kC (fun _ _ f => f)
  have hat6 := hat.kp k06 (fun _ _ f => f)
  have hlw := hat.words.len
  rw [length_wordsOf] at hlw
  obtain ⟨aw, haw, hcw⟩ := hat6.words.at (i := ((a / 64 : Nat) : Int)) (by omega) (by omega)
  rw [Int.toNat_natCast, wg_wordsOf] at hcw
  obtain ⟨l', hl'e, hl'b, hl't⟩ := andnot_u64 (wordOf_lt bits (a / 64)) (mask_lt (a % 64) (by omega))
  have hcl : clampW ((a % 64 : Nat) : Int) = a % 64 := by unfold clampW; omega
  have hmask := mask w6 ((a % 64 : Nat) : Int)
  rw [hcl] at hmask
  have d6 := bd.kp k06 id
  refine ⟨_, d6.cell0 0, lw, hat6.blk.cell 0, _, x6.cell0 0, by omega, by omega, aw, haw, _, by rw [Int.toNat_natCast]; exact hcw, by omega, usei hmask ⟨_, rfl, by rw [Int.toNat_natCast]; exact hcw, x6.cell0 0, hat6.blk.cell 0, d6.cell0 0, ?_⟩⟩
  rw [hl'e]
  -- the loop over the words
  obtain ⟨i0, hi0'⟩ : ∃ i0, i0 = k.toNat := ⟨_, rfl⟩
  rw [← hi0'] at hi0 hr ⊢
  have ha64 : a = 64 * (a / 64) + a % 64 := by omega
  have hca : cnt (bg bits) (64 * (a / 64)) + cnt (wordOf bits (a / 64)).testBit (a % 64) = i0 := by rw [← hi0, ← cnt_word bits (a / 64) (a % 64) (by omega)]; congr 1; omega
  have hna := cnt_lt hab hal
  refine ⟨fun d left W => ∃ (T : Nat → Prop) (qw j l' : Nat), left = (l' : Int) ∧ (qw < (bits.length + 63) / 64 ∧ l' < 18446744073709551616 ∧ cnt (bg bits) (64 * qw) ≤ i0 + j ∧ i0 + j ≤ cnt (bg bits) (64 * (qw + 1)) ∧ ∀ a, l'.testBit a = onesFrom (wordOf bits qw) (i0 + j - cnt (bg bits) (64 * qw)) a) ∧
      J j T W ∧ (∀ k, T k → w1.heap.size ≤ k ∧ k < W.heap.size) ∧ (T w1.heap.size ∧ T wa.heap.size ∧ T w5.heap.size) ∧ Kp (fun k => ¬ (k = 0 ∨ k = p ∨ k = q ∨ (B ≤ k ∧ k < wC.heap.size))) w W ∧
      (Blk W w1.heap.size [.func (.yield lp) #[] #[]] 100 ∧ Blk W wa.heap.size [.int .i64 ((i0 + j : Nat) : Int)] 3 ∧ Blk W w5.heap.size [.int .i64 (qw : Int)] 3) ∧
      d.Nodup ∧ ∀ D, D ∈ d → T D ∧ W.heap[D]? = some (.deferred (some [])),
    fun _ W => match W.cell? ⟨w5.heap.size, 0, none⟩ with | some (.int _ n) => (((bits.length + 63) / 64 : Nat) - n).toNat | _ => 0,
    ⟨fun k => k = w1.heap.size ∨ k = wa.heap.size ∨ k = w5.heap.size, a / 64, 0, l', rfl, ⟨by omega, hl'b, by omega, ?_, ?_⟩, ?_, ?_, ⟨.inl rfl, .inr (.inl rfl), .inr (.inr rfl)⟩, k06.mono (fun _ _ f => f.elim), ⟨y6, ?_, x6⟩, List.nodup_nil, fun D hD => by cases hD⟩, ?_⟩
  · have := cnt_mono (bg bits) (m := a) (n := 64 * (a / 64 + 1)) (by omega); omega
  · intro c
    rw [hl't]
    have e : i0 + 0 - cnt (bg bits) (64 * (a / 64)) = cnt (wordOf bits (a / 64)).testBit (a % 64) := by omega
    rw [e]
    unfold onesFrom
    cases hb : (wordOf bits (a / 64)).testBit c
    · rfl
    · rw [Bool.true_and, Bool.true_and, Nat.testBit_two_pow_sub_one]
      by_cases g : c < a % 64
      · have hab' : (wordOf bits (a / 64)).testBit (a % 64) = true := by rw [testBit_wordOf _ _ _ (by omega), ← ha64]; exact hab
        have := cnt_lt hb g
        simp [g]; omega
      · have := cnt_mono (wordOf bits (a / 64)).testBit (m := a % 64) (n := c) (by omega)
        simp [g]; exact this
  · exact (hJ 0) _ _ _ _ h0 ⟨(k15.t k56), fun _ f => f.elim, fun k hk => .inr (by rcases hk with rfl | rfl | rfl <;> omega)⟩
  · rintro k (rfl | rfl | rfl) <;> omega
  · have e : ((i0 + 0 : Nat) : Int) = max k 0 := by omega
    rw [e]; exact c6
  rintro d left W ⟨T, q', j, l', rfl, ⟨hq, hlb, hb1, hb2, hlt⟩, hjW, hT, ⟨Ty, Tc, Tx⟩, kW, ⟨yW, cW, xW⟩, hdn, hdd⟩
  clear hl'e hl'b hl't hmask hcw haw
  refine use (pairs W l') ?_
  rintro _ W2 ⟨b, rfl, hb, k2, hbs⟩
  have s2 := k2.size
  have sW := kW.size
  have hbl := hb.lt
  have yl := yW.lt
  have cl := cW.lt
  have xl := xW.lt
  have hpW := pc_word bits q'
  have hpl' := pc_from hlt
  have hpc := pc_le l'
  obtain ⟨A, hA⟩ : ∃ A : Nat → Prop, A = fun k => T k ∨ k = b := ⟨_, rfl⟩
  have AT : ∀ k, T k → A k := fun k h => by rw [hA]; exact .inl h
  have Ab : A b := by rw [hA]; exact .inr rfl
  have Alo : ∀ k, A k → w1.heap.size ≤ k ∧ k < W2.heap.size := fun k h => by
    rw [hA] at h
    rcases h with h | rfl
    · have := hT k h; omega
    · omega
  obtain ⟨S2, hS2⟩ : ∃ S2 : Nat → Prop, S2 = fun k => k = wa.heap.size ∨ (¬ A k ∧ ¬ (k = 0 ∨ k = p ∨ k = q ∨ (B ≤ k ∧ k < wC.heap.size))) := ⟨_, rfl⟩
  have nS2 : ∀ k, A k → k ≠ wa.heap.size → ¬ S2 k := fun k h1 h2 h3 => by rw [hS2] at h3; exact h3.elim h2 (fun g => g.1 h1)
  have j0 : J (j + 0) (fun k => A k ∨ False) W2 := (hJ j) _ _ _ _ hjW ⟨k2.mono (fun _ _ f => f.elim), fun k h => .inl (AT k h), fun k h => by
    rcases h with h | h
    · rw [hA] at h
      rcases h with h | rfl
      · exact .inl h
      · exact .inr hbs
    · exact h.elim⟩
  have tab2 : Tab W2 := (ht.kp kW (fun h => h (.inl rfl))).kpo k2
  -- what holds behind the inner loop
  have after : ∀ {T' : Nat → Prop} {W' : World}, Kp S2 W2 W' → Kp (fun k => ¬ (k = 0 ∨ k = p ∨ k = q ∨ (B ≤ k ∧ k < wC.heap.size))) w W' ∧ Blk W' w1.heap.size [.func (.yield lp) #[] #[]] 100 ∧ Blk W' w5.heap.size [.int .i64 (q' : Int)] 3 ∧ ∀ D, D ∈ d → W'.heap[D]? = some (.deferred (some [])) := fun {T' W'} kk => by
    refine ⟨(kW.trans k2 (fun _ _ f => f.elim)).trans kk (fun k h1 h2 => ?_), (yW.kp k2 id).kp kk (nS2 _ (AT _ Ty) (by omega)), (xW.kp k2 id).kp kk (nS2 _ (AT _ Tx) (by omega)), fun D hD => ?_⟩
    · rw [hS2] at h2
      rcases h2 with rfl | h2
      · omega
      · exact h2.2
    · obtain ⟨d1, d2⟩ := hdd D hD
      have d3 := (k2.keep _ (heap_lt d2) (fun f => f)).trans d2
      refine (kk.keep _ (heap_lt d3) (nS2 _ (AT _ d1) (fun e => ?_))).trans d3
      subst e; rw [show W.heap[wa.heap.size]? = _ from cW] at d2; cases d2
  refine ⟨_, rfl, _, #[], #[.pointer (some ⟨b, 0, none⟩)], rfl, by decide +kernel, pc l', fun m => (m : Int), fun m => (selN l' m : Nat), fun k => k = 0 ∨ k = b,
    fun m T' W' => J (j + m) (fun k => A k ∨ T' k) W' ∧ (((∀ k, T' k → W2.heap.size ≤ k) ∧ Kp S2 W2 W') ∧ (¬ T' wa.heap.size ∧ Blk W' wa.heap.size [.int .i64 ((i0 + j + m : Nat) : Int)] 3)),
    fun o T' W' => X (fun k => A k ∨ T' k) W' ∧ ((∀ k, T' k → W2.heap.size ≤ k) ∧ Kp S2 W2 W'),
    pairsIter hb hlb tab2, fun k hk => by rcases hk with rfl | rfl <;> omega, fun m => stab_and (stab_or A (hJ _)) (stab_and stab_kp stab_blk), fun o => stab_and (stab_or A hX) stab_kp,
    ⟨j0, ⟨fun _ f => f.elim, Kp.refl _ _⟩, fun f => f.elim, cW.kp k2 id⟩, ?_, ?_, ?_, trivial⟩
  · -- a round
    rintro m T' w34 hm hJ30 hT' hTH hTH1 hTb
    refine ⟨Kp.refl _ _, fun w35 k35 => ?_⟩
    obtain ⟨hj35, ⟨_, k235⟩, hTc, c35⟩ := (stab_and (stab_or A (hJ _)) (stab_and stab_kp stab_blk)) T' T' w34 w35 hJ30 ⟨k35.mono (fun k _ e => by subst e; exact hTH1), fun _ h => h, fun _ h => .inl h⟩
    obtain ⟨kw35, y35, x35, _⟩ := after (T' := T') k235
    have s35 := k35.size
    have s235 := k235.size
    have hkm : i0 + j - cnt (bg bits) (64 * q') + m < pc (wordOf bits q') := by omega
    have hsel := selN_from hlt hkm
    have hone := oneAt_word hkm
    have hct : cnt (bg bits) (64 * (q' + 1)) ≤ cnt (bg bits) bits.length := by
      by_cases g : 64 * (q' + 1) ≤ bits.length
      · exact cnt_mono _ g
      · rw [cnt_end (by omega)]; exact Nat.le_refl _
    have hsl := (selN_spec hkm).1
    refine ⟨_, y35.cell0 0, _, c35.cell0 0, _, x35.cell0 0, ?_⟩
    have ev : IntKind.i64.wrap (IntKind.i64.wrap ((q' : Int) * 64) + ((selN l' m : Nat) : Int)) = (oneAt bits (i0 + (j + m)) : Nat) := by
      rw [show i0 + (j + m) = cnt (bg bits) (64 * q') + (i0 + j - cnt (bg bits) (64 * q') + m) by omega, hone, hsel, w64 (x := (q' : Int) * 64) ⟨by omega, by omega⟩, w64 ⟨by omega, by omega⟩]; omega
    rw [ev, show ((i0 + j + m : Nat) : Int) = ((i0 + (j + m) : Nat) : Int) by omega]
    refine yuse (hr (j + m) _ w35 (by omega) hj35 (fun k hk => ?_) (fun k hk => ?_)) ?_
    · rcases hk with hk | hk
      · exact (Alo k hk).1
      · have := hT' k hk; omega
    · rcases hk with hk | hk
      · have := Alo k hk; omega
      · have := hTb k hk; omega
    rintro v w42 ⟨k42, hv⟩
    have k42' : Kp (fun k => ¬ T' k ∧ ¬ (k = 0 ∨ k = b)) w35 w42 := k42.mono (fun k _ h => ⟨fun g => h.1 (.inr g), fun g => g.elim (fun e => h.2 (.inl e)) (fun e => h.1 (.inl (by rw [e]; exact Ab)))⟩)
    have k42s : Kp S2 w35 w42 := k42.mono (fun k _ h => by rw [hS2]; exact .inr ⟨fun g => h.1 (.inl g), h.2⟩)
    have k242 := k235.trans k42s (fun _ _ h => h)
    rcases hv with ⟨rfl, hj42⟩ | ⟨rfl, hx42⟩
    · have c42 := c35.kp k42 (fun h => h.1 (.inl (AT _ Tc)))
      obtain ⟨e1, e2, c43, e4⟩ := setc (v := .int .i64 ((i0 + j + (m + 1) : Nat) : Int)) c42
      refine ⟨true, rfl, brF ⟨_, c42.cell0 0, ?_⟩⟩
      rw [show IntKind.i64.wrap (((i0 + j + m : Nat) : Int) + 1) = ((i0 + j + (m + 1) : Nat) : Int) by rw [w64 ⟨by omega, by omega⟩]; omega]
      refine ⟨e1, e2, k42'.trans (e4 (fun k => k = wa.heap.size) rfl) (fun k _ h => by subst h; exact ⟨hTc, by omega⟩), ?_, ⟨hT', k242.trans (e4 (fun k => k = wa.heap.size) rfl) (fun k _ h => by rw [hS2]; exact .inl h)⟩, hTc, c43⟩
      exact (hJ _) _ _ _ _ hj42 ⟨e4 _ (.inl (AT _ Tc)), fun _ h => h, fun _ h => .inl h⟩
    · exact ⟨false, rfl, brT ⟨k42', hx42, hT', k242⟩⟩
  · -- the word is done
    rintro T' w46 ⟨hj46, ⟨hTl, k46⟩, hTc, c46⟩ ⟨hT', hTH⟩ hDef
    obtain ⟨kw46, y46, x46, d46⟩ := after (T' := T') k46
    have s46 := k46.size
    have hi1 : i0 + j + pc l' = cnt (bg bits) (64 * (q' + 1)) := by omega
    refine ⟨_, x46.cell0 0, ?_⟩
    rw [show IntKind.i64.wrap ((q' : Int) + 1) = ((q' + 1 : Nat) : Int) by rw [w64 ⟨by omega, by omega⟩]; omega]
    obtain ⟨e1, e2, x47, e4⟩ := setc (v := .int .i64 ((q' + 1 : Nat) : Int)) x46
    have k47 : Kp (fun k => k = w5.heap.size) w46 (World.drew (w46.setCell ⟨w5.heap.size, 0, none⟩ (.int .i64 ((q' + 1 : Nat) : Int)))) := (e4 (fun k => k = w5.heap.size) rfl).drew
    have x47 : Blk (World.drew (w46.setCell ⟨w5.heap.size, 0, none⟩ (.int .i64 ((q' + 1 : Nat) : Int)))) w5.heap.size [.int .i64 ((q' + 1 : Nat) : Int)] 3 := x47
    refine ⟨e1, e2, ?_⟩
    clear e1 e2 e4
    generalize World.drew (w46.setCell ⟨w5.heap.size, 0, none⟩ (.int .i64 ((q' + 1 : Nat) : Int))) = w47 at *
    have kw47 : Kp (fun k => ¬ (k = 0 ∨ k = p ∨ k = q ∨ (B ≤ k ∧ k < wC.heap.size))) w w47 := kw46.trans k47 (fun k h1 h2 => by omega)
    have hat47 := hat0.kp (((kC.mono (S' := fun k => ¬ (k = 0 ∨ k = p ∨ k = q ∨ (B ≤ k ∧ k < wC.heap.size))) (fun _ _ f => f.elim)).trans kw47 (fun _ _ h => h)).mono (S' := fun k => k < B) (fun k h1 h2 => Nat.lt_of_not_le fun h => h2 (.inr (.inr (.inr ⟨h, h1⟩))))) (fun k h1 h2 => by omega)
    have bd47 := bd.kp kw47 (fun h => h (.inr (.inr (.inl rfl))))
    have s47 := k47.size
    have j47 : J (j + pc l') (fun k => A k ∨ T' k) w47 := (hJ _) _ _ _ _ hj46 ⟨k47.mono (fun k _ e => by subst e; exact .inl (AT _ Tx)), fun _ h => h, fun _ h => .inl h⟩
    have y47 := y46.kp k47 (by omega)
    have c47 := c46.kp k47 (by omega)
    have hnx : ∀ {D : Nat} {W' : World} {o}, Blk W' w5.heap.size [.int .i64 o] 3 → W'.heap[D]? = some (.deferred (some [])) → D ≠ w5.heap.size := fun hB hD e => by subst e; rw [show _ = _ from hB] at hD; cases hD
    have nd : (W2.heap.size :: d).Nodup := List.nodup_cons.2 ⟨fun h => by have := hT _ (hdd _ h).1; omega, hdn⟩
    have dd47 : ∀ D, D ∈ W2.heap.size :: d → (A D ∨ T' D) ∧ w47.heap[D]? = some (.deferred (some [])) := fun D hD => by
      rcases List.mem_cons.1 hD with rfl | hD
      · exact ⟨.inr hTH, (k47.keep _ (heap_lt hDef) (hnx x46 hDef)).trans hDef⟩
      · exact ⟨.inl (AT _ (hdd D hD).1), (k47.keep _ (heap_lt (d46 D hD)) (hnx x46 (d46 D hD))).trans (d46 D hD)⟩
    have b47 : ∀ k, (A k ∨ T' k) → w1.heap.size ≤ k ∧ k < w47.heap.size := fun k hk => by
      rcases hk with hk | hk
      · have := Alo k hk; omega
      · have := hT' k hk; omega
    refine ⟨_, x47.cell0 0, _, bd47.cell0 0, lw, hat47.blk.cell 0, br_dec (fun he => ?_) (fun hne => ?_)⟩
    · rw [List.append_nil]
      refine ⟨nd, fun D hD => (dd47 D hD).2, fun w52 k52 => ⟨fun k => A k ∨ T' k, fun k hk => ⟨(b47 k hk).1, Nat.lt_of_lt_of_le (b47 k hk).2 k52.size⟩, .inl ?_⟩⟩
      have hce : cnt (bg bits) (64 * (q' + 1)) = cnt (bg bits) bits.length := cnt_end (by omega)
      rw [show cnt (bg bits) bits.length - i0 = j + pc l' by omega]
      exact (hJ _) _ _ _ _ j47 ⟨k52.mono (fun k _ h => (dd47 k h).1), fun _ h => h, fun _ h => .inl h⟩
    · have kd : Kp no w47 w47.drew := (Kp.refl _ _).drew
      have hq1 : q' + 1 < (bits.length + 63) / 64 := by omega
      obtain ⟨aw, haw, hcw⟩ := (hat47.kp kd (fun _ _ f => f)).words.at (i := ((q' + 1 : Nat) : Int)) (by omega) (by omega)
      rw [Int.toNat_natCast, wg_wordsOf] at hcw
      have hm1 := cnt_mono (bg bits) (m := 64 * (q' + 1)) (n := 64 * (q' + 1 + 1)) (by omega)
      refine ⟨_, (bd47.kp kd id).cell0 0, lw, (hat47.kp kd (fun _ _ f => f)).blk.cell 0, _, (x47.kp kd id).cell0 0, by omega, by omega, aw, haw, _, by rw [Int.toNat_natCast]; exact hcw, ?_, ?_⟩
      · refine ⟨fun k => A k ∨ T' k, q' + 1, j + pc l', wordOf bits (q' + 1), rfl, ⟨hq1, wordOf_lt _ _, by omega, by omega, fun a => ?_⟩, (hJ _).no j47 kd, b47, ⟨.inl (AT _ Ty), .inl (AT _ Tc), .inl (AT _ Tx)⟩, kw47.trans kd (fun _ _ f => f.elim), ⟨y47.kp kd id, ?_, x47.kp kd id⟩, nd, fun D hD => ⟨(dd47 D hD).1, (kd.keep _ (heap_lt (dd47 D hD).2) (fun f => f)).trans (dd47 D hD).2⟩⟩
        · rw [show i0 + (j + pc l') - cnt (bg bits) (64 * (q' + 1)) = 0 by omega]; unfold onesFrom; simp
        · rw [← Nat.add_assoc]; exact c47.kp kd id
      · show (match w47.drew.cell? ⟨w5.heap.size, 0, none⟩ with | some (.int _ n) => (((bits.length + 63) / 64 : Nat) - n).toNat | _ => 0) < (match W.cell? ⟨w5.heap.size, 0, none⟩ with | some (.int _ n) => (((bits.length + 63) / 64 : Nat) - n).toNat | _ => 0)
        rw [(x47.kp kd id).cell0 0, xW.cell0 0]; show (((bits.length + 63) / 64 : Nat) - ((q' + 1 : Nat) : Int)).toNat < (((bits.length + 63) / 64 : Nat) - (q' : Int)).toNat; omega
  · -- the loop has enough
    rintro T' w60 ⟨hx60, hTl, k60⟩ ⟨hT', hTH⟩ hDef
    obtain ⟨kw60, y60, x60, d60⟩ := after (T' := T') k60
    have nd : (W2.heap.size :: d).Nodup := List.nodup_cons.2 ⟨fun h => by have := hT _ (hdd _ h).1; omega, hdn⟩
    have dd60 : ∀ D, D ∈ W2.heap.size :: d → (A D ∨ T' D) ∧ w60.heap[D]? = some (.deferred (some [])) := fun D hD => by
      rcases List.mem_cons.1 hD with rfl | hD
      · exact ⟨.inr hTH, hDef⟩
      · exact ⟨.inl (AT _ (hdd D hD).1), d60 D hD⟩
    have s60 := k60.size
    refine ⟨nd, fun D hD => (dd60 D hD).2, fun w52 k52 => ⟨fun k => A k ∨ T' k, fun k hk => ?_, .inr ?_⟩⟩
    · have s52 := k52.size
      rcases hk with hk | hk
      · have := Alo k hk; omega
      · have := hT' k hk; omega
    · exact hX _ _ _ _ hx60 ⟨k52.mono (fun k _ h => (dd60 k h).1), fun _ h => h, fun _ h => .inl h⟩
end Go.Proofs.YtomajpihimlcjaaDoor.V
