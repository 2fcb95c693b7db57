/- The lowest one of a word, by the library's table (doors only). -/
import Derived.Test.YtomajpihimlcjaaDoorTz
import Derived.Test.YtomajpihimlcjaaDoorBL
import Derived.Test.YtomajpihimlcjaaDoorPa
namespace Go.VC
open Go
/-- The table lies where the program's text lays it. -/
def Tab (w : World) : Prop := ∀ i, i < 64 → w.cell? (Addr.add ⟨0, 0, none⟩ i) = some (.int .u8 ((dbTab[i]?).getD 0 : Nat))
theorem Tab.kp {S : Nat → Prop} {w w' : World} (h : Tab w) (g : Kp S w w') (h0 : ¬ S 0) : Tab w' := fun i hi => by
  have hc := h i hi
  have e : w'.heap[0]? = w.heap[0]? := g.keep _ (by have := cell_lt hc; simpa [add_block] using this) h0
  rw [World.cell?_of_block (w := w) (by simpa [add_block] using e), hc]
theorem Tab.kpo {w w' : World} (h : Tab w) (g : Kp no w w') : Tab w' := h.kp g id
theorem Tab.pos {w : World} (h : Tab w) : 0 < w.heap.size := by
  have := cell_lt (h 0 (by omega)); simpa [add_block] using this
/-- Where the j-th one of a word stands. -/
noncomputable def selN (x j : Nat) : Nat := Classical.epsilon fun a => a < 64 ∧ x.testBit a = true ∧ cnt x.testBit a = j
theorem selN_spec {x j : Nat} (h : j < pc x) : selN x j < 64 ∧ x.testBit (selN x j) = true ∧ cnt x.testBit (selN x j) = j := by
  obtain ⟨a, h1, h2, h3⟩ := cnt_find x.testBit 64 j h
  exact Classical.epsilon_spec (p := fun a => a < 64 ∧ x.testBit a = true ∧ cnt x.testBit a = j) ⟨a, h1, h2, h3⟩
theorem selN_sel {x j : Nat} (h : j < pc x) : SelP x j (selN x j : Nat) := by
  obtain ⟨h1, h2, h3⟩ := selN_spec h
  exact .inr ⟨_, rfl, h1, h2, by rw [h3]⟩
theorem selN_eq {x j a : Nat} (h0 : a < 64) (h1 : x.testBit a = true) (h2 : cnt x.testBit a = j) : selN x j = a := by
  have h3 : j < pc x := by subst h2; exact cnt_lt h1 h0
  have := (selN_sel h3).one (.inr ⟨a, rfl, h0, h1, by rw [h2]⟩)
  omega
theorem tb_64 {x i : Nat} (hx : x < 18446744073709551616) (h : x.testBit i = true) : i < 64 := by
  by_cases g : i < 64
  · exact g
  · rw [Nat.testBit_lt_two_pow (Nat.lt_of_lt_of_le hx (by have : 2 ^ 64 ≤ 2 ^ i := Nat.pow_le_pow_right (by omega) (by omega); simpa using this))] at h; cases h
theorem pc_le (x : Nat) : pc x ≤ 64 := cnt_le _ _
end Go.VC
namespace Go.Proofs.YtomajpihimlcjaaDoor.V
open Go Go.VC
variable {w w' w0 : World} {x b i : Nat}
theorem tz64 (ht : Tab w) (hx : x < 18446744073709551616) (h : LowAt x i) : Is 75 #[.int .u64 x] w (.int .i64 i) := by
  have h64 := tb_64 hx h.1
  have hx0 : x ≠ 0 := fun e => by have := h.1; rw [e, Nat.zero_testBit] at this; cases this
  refine c75 _ _ _ ?_
  unfold B75
  have e1 : IntKind.u64.wrap (0 - (x : Int)) = ((18446744073709551616 - x : Nat) : Int) := by rw [wu64']; omega
  have e2 : bAnd .u64 (x : Int) ((18446744073709551616 - x : Nat) : Int) = ((2 ^ i : Nat) : Int) := by rw [and_u64 hx (by omega), low_and h hx h64]
  have e3 : IntKind.u64.wrap (((2 ^ i : Nat) : Int) * 285870213051353865) = ((2 ^ i * 285870213051353865 % 18446744073709551616 : Nat) : Int) := by rw [wu64']; omega
  have e4 : shR .u64 ((2 ^ i * 285870213051353865 % 18446744073709551616 : Nat) : Int) 58 = ((2 ^ i * 285870213051353865 % 18446744073709551616 / 288230376151711744 : Nat) : Int) := by
    have := shr_u64 (m := 2 ^ i * 285870213051353865 % 18446744073709551616) (by omega) 58
    rw [Nat.shiftRight_eq_div_pow] at this
    exact this
  have hd := db_at i h64
  rw [e1, e2, e3, e4]
  have hk : 2 ^ i * 285870213051353865 % 18446744073709551616 / 288230376151711744 < 64 := by omega
  generalize 2 ^ i * 285870213051353865 % 18446744073709551616 / 288230376151711744 = k at *
  refine br_dec (fun hh => by omega) (fun _ => ⟨by omega, by omega, by omega, _, rfl, (i : Int), ?_, ?_, rfl⟩)
  · rw [Int.toNat_natCast, Nat.mul_one, ht k hk, hd]; rfl
  · rw [w64 ⟨by omega, by omega⟩]

theorem pairsIter (hb : Blk w b [.int .u64 x] 22) (hx : x < 18446744073709551616) (ht : Tab w) :
    Iter Tryd.prog 74 [] [.pointer (some ⟨b, 0, none⟩)] w (pc x) (fun j => [.int .i64 (j : Int), .int .i64 (selN x j : Nat)]) (fun k => k = 0 ∨ k = b) := by
  intro lp J X w1 k1 hJ hX hr h0
  refine c74 (.func (.yield lp) #[] #[]) ⟨b, 0, none⟩ _ _ ?_
  unfold B74
  refine ⟨_, (hb.kp k1 id).cell0 0, fun i y w' => ∃ j left : Nat, i = j ∧ y = left ∧ j ≤ pc x ∧ left < 18446744073709551616 ∧ (∀ a, left.testBit a = onesFrom x j a) ∧ Kp (fun k => k ≠ 0 ∧ k ≠ b) w w' ∧ w1.heap.size ≤ w'.heap.size ∧ J j no w',
    fun i _ _ => (65 - i).toNat, ⟨0, x, rfl, rfl, by omega, hx, fun a => by unfold onesFrom; simp, k1.mono (fun _ _ f => f.elim), Nat.le_refl _, h0⟩, ?_⟩
  have hpc := pc_le x
  rintro i y w2 ⟨j, left, rfl, rfl, hj, hl, hof, k2, s2, hj2⟩
  have t2 := ht.kp k2 (fun h => h.1 rfl)
  refine br_not (br_dec (fun hz => ?_) (fun hz => ?_))
  · obtain rfl : left = 0 := by omega
    obtain rfl : j = pc x := by have := onesFrom_done hx hof; omega
    exact ⟨no, fun _ f => f.elim, .inl hj2⟩
  · obtain ⟨i, hi⟩ := lowAt_ex (x := left) (by omega)
    obtain ⟨q1, q2⟩ := onesFrom_low hof hi
    have q0 := tb_64 hx q1
    have hjp : j < pc x := by subst q2; exact cnt_lt q1 q0
    refine usei (tz64 t2 hl hi) ⟨_, rfl, ?_⟩
    rw [← selN_eq q0 q1 q2]
    refine yuse (hr j no w2 hjp hj2 (fun k hk => hk.elim) (fun k hk => hk.elim)) ?_
    rintro v w4 ⟨k4, hv⟩
    have hs4 := k4.size
    have hs2 := k2.size
    have k24 : Kp (fun k => k ≠ 0 ∧ k ≠ b) w w4 := k2.trans (k4.mono (S' := fun k => k ≠ 0 ∧ k ≠ b) (fun k _ h => ⟨fun e => h.2 (.inl e), fun e => h.2 (.inr e)⟩)) (fun _ _ f => f)
    rcases hv with ⟨rfl, hj4⟩ | ⟨rfl, hxx⟩
    · refine ⟨true, rfl, brF ⟨⟨j + 1, left &&& (left - 1), ?_, ?_, by omega, Nat.lt_of_le_of_lt Nat.and_le_left hl, onesFrom_next hof hi, k24, by omega, hj4⟩, ?_⟩⟩
      · rw [w64 ⟨by omega, by omega⟩]; omega
      · rw [show (left : Int) - 1 = ((left - 1 : Nat) : Int) by omega, wu64 ⟨by omega, by omega⟩, and_u64 hl (by omega)]
      · rw [w64 ⟨by omega, by omega⟩]; dsimp only; omega
    · exact ⟨false, rfl, brT ⟨no, fun _ f => f.elim, .inr hxx⟩⟩

theorem pairs (w : World) (x : Nat) : Calls Tryd.prog 12 #[.int .u64 x] w (Rv fun v w' => ∃ b, v = .func (.func 74) #[] #[.pointer (some ⟨b, 0, none⟩)] ∧ Blk w' b [.int .u64 x] 22 ∧ Kp no w w' ∧ w.heap.size ≤ b) := by
  refine c12 _ _ _ ?_
  unfold B12
  exact ⟨_, rfl, Blk.new _ _ _, (Kp.refl _ _).alloc _ _, Nat.le_refl _⟩
end Go.Proofs.YtomajpihimlcjaaDoor.V
