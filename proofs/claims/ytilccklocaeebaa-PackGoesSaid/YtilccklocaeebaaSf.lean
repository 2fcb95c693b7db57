/- The laws of the chapter on directories that select (but the one that iterates). -/
import Derived.Test.YtilccklocaeebaaSe
namespace Go.VC
open Go
/-- The bits that are as told. -/
def isB (bits : List Bool) (b : Bool) (i : Nat) : Bool := decide (i < bits.length) && (bg bits i == b)
theorem plc_congr {p q : Nat → Bool} {n : Nat} (h : ∀ i, i < n → p i = q i) : plc p n = plc q n := by
  unfold plc
  apply List.filter_congr
  intro i hi
  exact h i (List.mem_range.1 hi)
theorem plc_true (bits : List Bool) : plc (isB bits true) bits.length = plc (bg bits) bits.length := plc_congr fun i hi => by unfold isB; simp [hi]
theorem plc_false (bits : List Bool) : plc (isB bits false) bits.length = plc (nz bits) bits.length := plc_congr fun i hi => by unfold isB nz; cases bg bits i <;> simp [hi]
end Go.VC
namespace Go.Proofs.Ytilccklocaeebaa.V
open Go Go.VC
variable {w w' w0 : World} {l : Slc} {bits : List Bool} {ws : List Nat} {s r B t m n : Nat}

theorem places5 (h : RdB w l bits) (hsz : l.len ≤ 1000000000) (b : Bool) : Calls Try.prog 39 #[.slice l.a l.len l.cap, .bool b] w (Rv fun v w' => ∃ o : Slc, v = .slice o.a o.len o.cap ∧
    Ownd w' o 3 1 ((plc (isB bits b) bits.length).map IV) ∧ Kp no w w' ∧ ∀ k, On o k → w.heap.size ≤ k) := by
  refine c39 _ _ _ _ ?_
  unfold B39
  have hl := h.len
  refine ⟨fun o i w' => ∃ m : Nat, i = m ∧ m ≤ bits.length ∧ Ownd w' o 3 1 ((plc (isB bits b) m).map IV) ∧ Kp no w w' ∧ ∀ k, On o k → w.heap.size ≤ k,
    fun _ i _ => (l.len - i).toNat, ⟨0, rfl, by omega, Ownd.nil _ _ _, Kp.refl _ _, fun k hk => absurd hk On.nil⟩, ?_⟩
  rintro o i w1 ⟨m, rfl, hm, ho, k1, f1⟩
  have hol := ho.rdI.len
  have hpl := plc_len (isB bits b) m
  have hcl := cnt_le (isB bits b) m
  refine br_dec (fun hlt => ?_) (fun hlt => ?_)
  · obtain ⟨a, ha, hc⟩ := (h.kp k1 (fun _ _ f => f)).at (i := (m : Int)) (by omega) hlt
    rw [Int.toNat_natCast] at hc
    refine ⟨by omega, hlt, a, ha, _, by rw [Int.toNat_natCast]; exact hc, ?_⟩
    have hps := plc_succ (isB bits b) m
    have hib : isB bits b m = (bg bits m == b) := by unfold isB; simp [show m < bits.length by omega]
    rw [w64 (x := (m : Int) + 1) ⟨by omega, by omega⟩]
    refine br_of (fun hb => ?_) (fun hb => ?_)
    · obtain ⟨w2, o2, hr2, ho2, hl2, hk2, hf2⟩ := append_one (ty := 38) elI ho (IV m) rfl (by simp only [maxLen]; omega) (by omega)
      refine ⟨w2, o2, hr2, ⟨m + 1, by omega, by omega, ?_, k1.trans hk2 (fun k h1 h2 => by have := f1 k h2; omega), fun k hk => ?_⟩, by dsimp only; omega⟩
      · rw [hps, hib, hb, if_pos rfl]
        rw [map_snocI] at ho2; exact ho2
      · have := k1.size
        rcases hf2 k hk with g | g
        · exact f1 k g
        · omega
    · refine ⟨⟨m + 1, by omega, by omega, ?_, k1, f1⟩, by dsimp only; omega⟩
      rw [hps, hib, hb]; simpa using ho
  · obtain rfl : m = bits.length := by omega
    exact ⟨o, rfl, ho, k1, f1⟩

theorem at5 {xs : List Nat} (h : RdI w l xs) (k : Int) : Is 42 #[.slice l.a l.len l.cap, .int .i64 k] w (.int .i64 (atL xs k)) := by
  refine c42 _ _ _ _ ?_
  unfold B42
  have hl := h.len
  refine br_dec (fun h1 => ⟨?_, rfl⟩) (fun h1 => br_dec (fun h2 => ⟨?_, rfl⟩) (fun h2 => ⟨by omega, by omega, ?_⟩))
  · unfold atL; rw [if_neg (by omega)]
  · unfold atL; rw [if_neg (by omega)]
  · obtain ⟨a, ha, hc⟩ := h.at (i := k) (by omega) (by omega)
    refine ⟨a, ha, _, hc, ?_, rfl⟩
    unfold atL; rw [if_pos (by omega)]

theorem live5 (w : World) : IsK 37 #[] w (.bool true) := by
  refine c37 _ _ ?_
  unfold B37
  have hbits : caseBits [] 0 13 5 = [true, false, true, true, false] := by decide +kernel
  have h14 := row4 (caseR0 w 13 5 (by omega) (by omega)) (by simp) (by omega) (by omega)
  rw [hbits] at h14
  refine use h14 ?_
  rintro _ w1 ⟨r, rfl, hr, k1⟩
  refine ⟨_, rfl, use (sNew hr (by simp)) ?_⟩
  rintro _ w2 ⟨d, rfl, hd, k2⟩
  have e1 : atL (plc (bg [true, false, true, true, false]) [true, false, true, true, false].length) 1 = 2 := by decide +kernel
  have e2 : atL (plc (nz [true, false, true, true, false]) [true, false, true, true, false].length) 1 = 4 := by decide +kernel
  have e3 : atL (plc (bg [true, false, true, true, false]) [true, false, true, true, false].length) 3 = -1 := by decide +kernel
  have e4 : cnt (bg [true, false, true, true, false]) [true, false, true, true, false].length = 3 := by decide +kernel
  refine ⟨_, rfl, usek (sOne hd (by simp) 1) fun w3 k3 => ⟨_, rfl, ?_⟩⟩
  rw [e1]
  refine br_dec (fun _ => usek (sZero (hd.kpo k3) (by simp) 1) fun w4 k4 => ⟨_, rfl, ?_⟩) (fun h => absurd rfl h)
  rw [e2]
  refine br_dec (fun _ => usek (sOne (hd.kpo (k3.t k4)) (by simp) 3) fun w5 k5 => ⟨_, rfl, ?_⟩) (fun h => absurd rfl h)
  rw [e3]
  refine br_dec (fun _ => usek (sOnes (hd.kpo ((k3.t k4).t k5)) (by simp)) fun w6 k6 => ⟨_, rfl, ?_⟩) (fun h => absurd rfl h)
  rw [e4]
  exact ⟨rfl, (k1.t k2).t (((k3.t k4).t k5).t k6)⟩

theorem dirOnes (h : CaseR w l ws t m n) (i : Int) : IsK 9 #[caseV l t m n, .int .i64 i] w (.bool true) := by
  refine c9 l t m n i _ _ ?_
  unfold B9
  have hb0 := Blk.new w [.slice l.a l.len l.cap, .int .u8 (t : Int), .int .u64 (m : Int), .int .u8 (n : Int)] 25
  have hk0 : Kp no w (w.alloc (.cells #[.slice l.a l.len l.cap, .int .u8 (t : Int), .int .u64 (m : Int), .int .u8 (n : Int)] 25)) := (Kp.refl _ _).alloc _ _
  have h1 := h.kp hk0
  generalize w.alloc (.cells #[.slice l.a l.len l.cap, .int .u8 (t : Int), .int .u64 (m : Int), .int .u8 (n : Int)] 25) = w1 at *
  refine ⟨l, _, _, _, hb0.cell 0, hb0.cell 1, hb0.cell 2, hb0.cell 3, usek (small4 h1) fun w2 k2 => ⟨_, rfl, br_not (br_dec (fun hs => ?_) (fun hs => ?_))⟩⟩
  rotate_left
  · exact usek (live5 _) fun w3 k3 => ⟨_, rfl, rfl, hk0.t (k2.t k3)⟩
  have b2 := hb0.kp k2 id
  refine ⟨l, _, _, _, b2.cell 0, b2.cell 1, b2.cell 2, b2.cell 3, use (row4 (h1.kp k2) hs.1 hs.2.1 hs.2.2) ?_⟩
  rintro _ w3 ⟨r, rfl, hr, k3⟩
  have hbl := caseBits_le (m := m) hs.1 hs.2.1 hs.2.2
  refine ⟨_, rfl, use (sNew hr (by omega)) ?_⟩
  rintro _ w4 ⟨d, rfl, hd, k4⟩
  have k24 := (k2.t k3).t k4
  have b4 := hb0.kp k24 id
  refine ⟨_, rfl, l, _, _, _, b4.cell 0, b4.cell 1, b4.cell 2, b4.cell 3, use (bits4 (h1.kp k24) hs.1 hs.2.1 hs.2.2) ?_⟩
  rintro _ w5 ⟨o, rfl, ho, k5, f5⟩
  have hol := ho.rdB.len
  generalize caseBits ws t m n = bits at *
  refine ⟨o, rfl, use (places5 ho.rdB (by omega) true) ?_⟩
  rintro _ w6 ⟨q1, rfl, hq1, k6, f6⟩
  rw [plc_true] at hq1
  refine ⟨q1, rfl, use (places5 (ho.rdB.kp k6 (fun _ _ f => f)) (by omega) false) ?_⟩
  rintro _ w7 ⟨q2, rfl, hq2, k7, f7⟩
  rw [plc_false] at hq2
  have k57 := k5.t (k6.t k7)
  have hl1 := hq1.rdI.len
  rw [plc_len] at hl1
  refine ⟨q2, rfl, usek (sOnes (hd.kpo k57) (by omega)) fun w8 k8 => ⟨_, rfl, br_dec (fun _ => ?_) (fun hh => absurd (by omega) hh)⟩⟩
  have k58 := k57.t k8
  refine usek (sOne (hd.kpo k58) (by omega) i) fun w9 k9 => ⟨_, rfl, usei (at5 (hq1.rdI.kp (k7.t (k8.t k9)) (fun _ _ f => f)) i) ⟨_, rfl, br_dec (fun _ => ?_) (fun hh => absurd rfl hh)⟩⟩
  refine usek (sZero (hd.kpo (k58.t k9)) (by omega) i) fun wa ka => ⟨_, rfl, usei (at5 (hq2.rdI.kp (k8.t (k9.t ka)) (fun _ _ f => f)) i) ⟨_, rfl, br_dec (fun _ => ?_) (fun hh => absurd rfl hh)⟩⟩
  exact usek (live5 _) fun wb kb => ⟨_, rfl, rfl, hk0.t (k24.t (k58.t (k9.t (ka.t kb))))⟩

theorem dirAll (h : CaseR w l ws t m n) : IsK 10 #[caseV l t m n] w (.bool true) := by
  refine c10 l t m n _ _ ?_
  unfold B10
  have hb0 := Blk.new w [.slice l.a l.len l.cap, .int .u8 (t : Int), .int .u64 (m : Int), .int .u8 (n : Int)] 25
  have hk0 : Kp no w (w.alloc (.cells #[.slice l.a l.len l.cap, .int .u8 (t : Int), .int .u64 (m : Int), .int .u8 (n : Int)] 25)) := (Kp.refl _ _).alloc _ _
  have h1 := h.kp hk0
  generalize w.alloc (.cells #[.slice l.a l.len l.cap, .int .u8 (t : Int), .int .u64 (m : Int), .int .u8 (n : Int)] 25) = w1 at *
  refine ⟨l, _, _, _, hb0.cell 0, hb0.cell 1, hb0.cell 2, hb0.cell 3, usek (small4 h1) fun w2 k2 => ⟨_, rfl, br_not (br_dec (fun hs => ?_) (fun hs => ?_))⟩⟩
  rotate_left
  · exact usek (live5 _) fun w3 k3 => ⟨_, rfl, rfl, hk0.t (k2.t k3)⟩
  have b2 := hb0.kp k2 id
  refine ⟨_, b2.cell 1, br_dec (fun _ => usek (live5 _) fun w3 k3 => ⟨_, rfl, rfl, hk0.t (k2.t k3)⟩) (fun _ => ?_)⟩
  refine ⟨l, _, _, _, b2.cell 0, b2.cell 1, b2.cell 2, b2.cell 3, use (row4 (h1.kp k2) hs.1 hs.2.1 hs.2.2) ?_⟩
  rintro _ w3 ⟨r, rfl, hr, k3⟩
  have hbl := caseBits_le (m := m) hs.1 hs.2.1 hs.2.2
  refine ⟨_, rfl, use (sNew hr (by omega)) ?_⟩
  rintro _ w4 ⟨d, rfl, hd, k4⟩
  have k24 := (k2.t k3).t k4
  have b4 := hb0.kp k24 id
  refine ⟨_, rfl, l, _, _, _, b4.cell 0, b4.cell 1, b4.cell 2, b4.cell 3, use (bits4 (h1.kp k24) hs.1 hs.2.1 hs.2.2) ?_⟩
  rintro _ w5 ⟨o, rfl, ho, k5, f5⟩
  have hol := ho.rdB.len
  generalize caseBits ws t m n = bits at *
  refine ⟨o, rfl, use (places5 ho.rdB (by omega) true) ?_⟩
  rintro _ w6 ⟨q1, rfl, hq1, k6, f6⟩
  rw [plc_true] at hq1
  refine ⟨q1, rfl, use (places5 (ho.rdB.kp k6 (fun _ _ f => f)) (by omega) false) ?_⟩
  rintro _ w7 ⟨q2, rfl, hq2, k7, f7⟩
  rw [plc_false] at hq2
  have hd7 := hd.kpo (k5.t (k6.t k7))
  have hr1 := hq1.rdI.kp k7 (fun _ _ f => f)
  have hr2 := hq2.rdI
  have hl1 := hr1.len
  have hl2 := hr2.len
  have hc1 := cnt_le (bg bits) bits.length
  have hc2 := cnt_le (nz bits) bits.length
  have kA : Kp no w w7 := hk0.t (k24.t (k5.t (k6.t k7)))
  have at_in : ∀ {xs : List Nat} {j : Nat}, j < xs.length → atL xs (j : Int) = (wg xs j : Nat) := fun {xs j} hj => by unfold atL; rw [if_pos (by omega)]; rfl
  have at_out : ∀ {xs : List Nat}, atL xs (xs.length : Int) = -1 := fun {xs} => by unfold atL; rw [if_neg (by omega)]
  have pl1 := plc_len (bg bits) bits.length
  have pl2 := plc_len (nz bits) bits.length
  refine ⟨q2, rfl, fun i w' => Kp no w7 w' ∧ ∃ j : Nat, i = j ∧ j ≤ q1.len, fun i _ => (q1.len - i).toNat, ⟨Kp.refl _ _, 0, rfl, by omega⟩, ?_⟩
  rintro i w8 ⟨k8, j, rfl, hj⟩
  refine br_dec (fun hlt => ?_) (fun hlt => ?_)
  · have kd := k8.drew
    obtain ⟨a, ha, hc⟩ := (hr1.kp kd (fun _ _ f => f)).at (i := (j : Int)) (by omega) hlt
    refine ⟨by omega, hlt, a, ha, _, hc, usek (sOne (hd7.kpo kd) (by omega) _) fun w9 k9 => ⟨_, rfl, ?_⟩⟩
    obtain ⟨a2, ha2, hc2⟩ := (hr1.kp (kd.t k9) (fun _ _ f => f)).at (i := (j : Int)) (by omega) hlt
    rw [ha] at ha2; cases ha2
    refine ⟨hc2, br_not (br_dec (fun _ => ?_) (fun hh => absurd (at_in (by omega)) hh))⟩
    rw [w64 ⟨by omega, by omega⟩]
    exact ⟨⟨kd.t k9, j + 1, by omega, by omega⟩, by dsimp only; omega⟩
  · obtain rfl : j = q1.len := by omega
    refine ⟨fun i w' => Kp no w7 w' ∧ ∃ j : Nat, i = j ∧ j ≤ q2.len, fun i _ => (q2.len - i).toNat, ⟨k8, 0, rfl, by omega⟩, ?_⟩
    rintro i w8 ⟨k8, j, rfl, hj⟩
    refine br_dec (fun hlt => ?_) (fun hlt => ?_)
    · have kd := k8.drew
      obtain ⟨a, ha, hc⟩ := (hr2.kp kd (fun _ _ f => f)).at (i := (j : Int)) (by omega) hlt
      refine ⟨by omega, hlt, a, ha, _, hc, usek (sZero (hd7.kpo kd) (by omega) _) fun w9 k9 => ⟨_, rfl, ?_⟩⟩
      obtain ⟨a2, ha2, hc2⟩ := (hr2.kp (kd.t k9) (fun _ _ f => f)).at (i := (j : Int)) (by omega) hlt
      rw [ha] at ha2; cases ha2
      refine ⟨hc2, br_not (br_dec (fun _ => ?_) (fun hh => absurd (at_in (by omega)) hh))⟩
      rw [w64 ⟨by omega, by omega⟩]
      exact ⟨⟨kd.t k9, j + 1, by omega, by omega⟩, by dsimp only; omega⟩
    · obtain rfl : j = q2.len := by omega
      refine usek (sOne (hd7.kpo k8) (by omega) _) fun w9 k9 => ⟨_, rfl, ?_⟩
      rw [show (q1.len : Int) = ((plc (bg bits) bits.length).length : Nat) by omega, at_out]
      refine br_dec (fun _ => ?_) (fun hh => absurd rfl hh)
      refine usek (sZero (hd7.kpo (k8.t k9)) (by omega) _) fun wa ka => ⟨_, rfl, ?_⟩
      rw [show (q2.len : Int) = ((plc (nz bits) bits.length).length : Nat) by omega, at_out]
      refine br_dec (fun _ => ?_) (fun hh => absurd rfl hh)
      exact usek (live5 _) fun wb kb => ⟨_, rfl, rfl, kA.t ((k8.t k9).t (ka.t kb))⟩
end Go.Proofs.Ytilccklocaeebaa.V
