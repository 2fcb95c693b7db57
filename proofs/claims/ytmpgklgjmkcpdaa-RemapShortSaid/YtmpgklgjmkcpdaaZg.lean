/- Words behind words: the law on words as ranks. -/
import Derived.Test.YtmpgklgjmkcpdaaZf
import Derived.Test.YtmpgklgjmkcpdaaOh
namespace Go.VC
open Go
/-- All words of a row that fits are numbers, and its ranks lead back to it. -/
theorem back_long {n : Nat} {ps : List (Nat × Nat)} {zs : List Int} {rs : List Nat} (hl : 0 < zs.length) (h0 : 0 ≤ wz zs 0) (hn : wz zs 0 < n) (hR : RanksP ps zs rs (zs.length - 1)) (hfit : ∀ j, j + 1 < zs.length → FitA ps zs j) :
    ∃ out : List Nat, zs = zl out ∧ LongR ps n (wz zs 0) (zl rs) (some out) := by
  have hpos : ∀ i, i < zs.length → 0 ≤ wz zs i := fun i hi => by
    cases i with
    | zero => exact h0
    | succ i =>
      obtain ⟨k, _, hk⟩ := hfit i hi
      omega
  have e : zs = zl (zs.map Int.toNat) := by
    unfold zl
    rw [List.map_map]
    symm
    rw [List.map_congr_left (g := id) (fun z hz => ?_), List.map_id]
    obtain ⟨i, hi, rfl⟩ := List.getElem_of_mem hz
    have := hpos i hi
    unfold wz at this
    rw [List.getElem?_eq_getElem hi] at this
    simp only [Option.getD_some] at this
    simp only [Function.comp, id]
    omega
  generalize zs.map Int.toNat = out at e
  subst e
  rw [zl_len] at hl hR
  refine ⟨out, rfl, .inr ⟨out, rfl, h0, hn, ?_, ?_, fun i hi => ?_⟩⟩
  · rw [zl_len, hR.1]; omega
  · rw [wz_zl]
  · rw [zl_len, hR.1] at hi
    have := hR.2 i hi
    rw [wz_zl, wz_zl] at this
    rw [wz_zl]
    rcases this with ⟨q, _⟩ | ⟨k, q, hk, hv⟩
    · omega
    · rw [q, atZ_in hk, hv]
end Go.VC
namespace Go.Proofs.Ytmpgklgjmkcpdaa.V
open Go Go.VC
variable {w w' w0 : World} {l la lb lg : Slc} {zs ks zg : List Int} {zp : List (List Int)} {ps : List (Nat × Nat)} {n m r B b : Nat} {v : Value}
theorem rdDrop1 (h : RdZ w l zs) (hc : l.len ≤ l.cap) (hl : 0 < l.len) : RdZ w ⟨if l.cap = 1 then l.a else l.a.map (·.add (1 * 1)), l.len - 1, l.cap - 1⟩ (zs.drop 1) := by
  have hz := h.len
  refine ⟨by simp only [List.length_drop]; omega, fun i hi => ?_, fun z hz2 => h.lo z (List.mem_of_mem_drop hz2)⟩
  rw [List.length_map, List.length_drop] at hi
  obtain ⟨a, ha, hcell⟩ := h.rd (1 + i) (by rw [List.length_map]; omega)
  refine ⟨a.add (1 * 1), ?_, ?_⟩
  · show (if l.cap = 1 then l.a else l.a.map (·.add (1 * 1))) = _
    rw [if_neg (by omega), ha]; rfl
  · rw [Nat.mul_one, Deep.add_add, hcell, List.map_drop, List.getElem?_drop]

set_option maxHeartbeats 2000000 in
theorem remapShort (h : RdG w l zp) (hz : RdZc w lg zg) (nn : Int) : IsK 13 #[.int .i64 nn, .slice l.a l.len l.cap, .slice lg.a lg.len lg.cap] w (.bool true) := by
  obtain ⟨hz, hcap⟩ := hz
  refine c13 _ _ _ _ _ ?_
  unfold B13
  have hgl := hz.len
  refine use (rSmall34 h nn) ?_
  rintro _ w1 ⟨hw, bb, rfl, hbb⟩
  obtain rfl : w = w1 := hw.symm
  refine ⟨_, rfl, ?_⟩
  cases bb
  · exact brT (usek (live34 _) fun w1 k1 => ⟨_, rfl, rfl, k1⟩)
  have hsm := hbb rfl
  refine brF (use (rWrong34 h (by omega) nn) ?_)
  rintro _ w1 ⟨k1, e1, rfl, hw1⟩
  refine ⟨_, rfl, br_not (br_dec (fun h0 => ?_) (fun h0 => usek (live34 _) fun w2 k2 => ⟨_, rfl, rfl, k1.t k2⟩))⟩
  subst h0
  refine br_dec (fun h20 => usek (live34 _) fun w2 k2 => ⟨_, rfl, rfl, k1.t k2⟩) (fun h20 => ?_)
  refine use (mNew (h.kpo k1) (by omega) nn) ?_
  rintro _ w2 ⟨k2, ⟨e, rfl, he, hwr⟩ | ⟨m, n, ps, rfl, rfl, hn1, rfl, hw0, hm⟩⟩
  · exact absurd (hwr.one hw1) he
  have hl := h.len
  rw [List.length_map] at hsm hl
  obtain ⟨_, _, _, hps, hn, _⟩ := id hm
  have hpv : ∀ p ∈ ps, p.2 ≤ 65536 := fun p hp => by have := (hps.1 p hp).2; omega
  have k12 := k1.t k2
  refine ⟨_, _, rfl, use (mShort hm (by omega) (hz.kpo k12) (by omega)) ?_⟩
  rintro _ w3 ⟨k3, ⟨rfl, hno⟩ | ⟨o, rs, rfl, ho, hR, hfit⟩⟩
  · refine ⟨⟨none, 0, 0⟩, _, rfl, use (rShort34 (h.kpo (k12.t k3)) hpv (by omega) (hz.kpo (k12.t k3)) (by omega)) ?_⟩
    rintro _ w4 ⟨k4, ⟨rfl, _⟩ | ⟨_, _, _, _, _, hf2⟩⟩
    rotate_left
    · obtain ⟨j, hj, hn2⟩ := hno
      exact absurd (hf2 j hj) hn2
    refine ⟨⟨none, 0, 0⟩, _, rfl, usek (mShortN (hz.kpo (k12.t (k3.t k4))) (by omega)) fun w5 k5 => ⟨⟨none, 0, 0⟩, _, rfl, usei (mLongN w5 lg 0 (by omega)) ⟨⟨none, 0, 0⟩, _, rfl, br_not (br_y rfl (br_not (br_y rfl (usei (mWordsN _) ⟨_, rfl, br_not (br_y rfl (usei (mBehindN _ _) ⟨_, rfl, br_not (br_y rfl (usei (mRankN _ _ _) ⟨_, rfl, br_not (br_y rfl (usei (mWordN _ _ _) ⟨_, rfl, br_not (br_y rfl ?_)⟩))⟩))⟩))⟩))))⟩⟩⟩
    have hNil : RdZ w5 ⟨none, 0, 0⟩ ([] : List Int) := ⟨rfl, Rd.nil _ _, by simp⟩
    have hFN := mFitsN hNil (by simp)
    refine usek hFN fun w6 k6 => ⟨_, rfl, brFf ?_⟩
    have k26 := k3.t (k4.t (k5.t k6))
    have k16 := k12.t k26
    refine use (mFits (hm.kpo k26) (hz.kpo k16) (by omega)) ?_
    rintro _ w7 ⟨k7, ⟨_, hf2⟩ | ⟨rfl, _⟩⟩
    · obtain ⟨j, hj, hn2⟩ := hno
      exact absurd (hf2 j hj) hn2
    refine ⟨_, rfl, brFf (brFf (brYy (br_not (br_y rfl ?_))))⟩
    have hE : RdZ w7 ⟨none, 0, 0⟩ (zl []) := ⟨rfl, Rd.nil _ _, by simp⟩
    have k17 := k16.t k7
    refine usek (rInts hE hE (by simp)) fun w8 k8 => ⟨_, rfl, ?_⟩
    rw [show decide (([] : List Nat) = []) = true from decide_eq_true rfl]
    refine brF (br_dec (fun _ => usek (live34 _) fun w9 k9 => ⟨_, rfl, rfl, k17.t (k8.t k9)⟩) (fun hl0 => ?_))
    have hg0 : 0 < zg.length := by omega
    have kd : Kp no w8 (World.drew w8) := (Kp.refl no w8).drew
    have k18 := k17.t (k8.t kd)
    obtain ⟨a0, ha0, hc0⟩ := (hz.kpo k18).at (i := 0) (by omega) (by omega)
    have h0l : (0 : Int) < (lg.len : Int) := by omega
    have h1l : (1 : Int) ≤ (lg.len : Int) := by omega
    have hlc : (lg.len : Int) ≤ (lg.cap : Int) := by omega
    refine ⟨by decide, h0l, a0, ha0, _, hc0, by decide, h1l, hlc, ?_⟩
    rw [show (1 : Int).toNat = 1 from rfl, Int.toNat_natCast]
    have k28 := k26.t (k7.t (k8.t kd))
    have hD := rdDrop1 hz hcap (by omega)
    have hDl : (zg.drop 1).length ≤ 1000 := by rw [List.length_drop]; omega
    have hLong := mLong (hm.kpo k28) (hD.kpo k18) hDl (wz zg (0 : Int).toNat)
    refine use hLong ?_
    clear hLong
    have rest : ∀ w10, Kp no (World.drew w8) w10 → ∀ (ol or : Slc) (e65 : Int) (b71 : Bool), ∀ (X : Prop), X = X := fun _ _ _ _ _ _ _ => rfl
    clear rest
    rintro _ w9 ⟨k9, hv9⟩
    have k9d : Kp no w9 (World.drew w9) := (Kp.refl no w9).drew
    have k19 := k18.t (k9.t k9d)
    obtain ⟨a9, ha9, hc9⟩ := (hz.kpo k19).at (i := 0) (by omega) (by omega)
    have hRL := rLong34 (h.kpo k19) hps hn (by omega) (hD.kpo k19) hDl (wz zg (0 : Int).toNat)
    rcases hv9 with ⟨rfl, hL⟩ | ⟨o9, out9, rfl, ho9, hL⟩
    · refine ⟨⟨none, 0, 0⟩, _, rfl, by decide, h0l, a9, ha9, _, hc9, by decide, h1l, hlc, use hRL ?_⟩
      clear hRL
      rintro _ w10 ⟨k10, ⟨rfl, _⟩ | ⟨_, _, _, _, hL2⟩⟩
      · refine ⟨⟨none, 0, 0⟩, _, rfl, brFf (brYy (br_not (br_y rfl ?_)))⟩
        have hN1 : RdZ w10 ⟨none, 0, 0⟩ (zl []) := ⟨rfl, Rd.nil _ _, by simp⟩
        have hI2 := rInts hN1 hN1 (by simp)
        refine usek hI2 fun w11 k11 => ⟨_, rfl, brF ?_⟩
        have k111 := k19.t (k10.t k11)
        have s11 : Kp no w3 w11 := (k4.t (k5.t (k6.t (k7.t (k8.t kd))))).t ((k9.t k9d).t (k10.t k11))
        exact brFf (usek (live34 _) fun w12 k12' => ⟨_, rfl, rfl, k111.t k12'⟩)
      · exact absurd (hL.one hL2) (by simp)
    · refine ⟨o9, _, rfl, by decide, h0l, a9, ha9, _, hc9, by decide, h1l, hlc, use hRL ?_⟩
      clear hRL
      rintro _ w10 ⟨k10, ⟨_, hL2⟩ | ⟨o10, out10, rfl, ho10, hL2⟩⟩
      · exact absurd (hL.one hL2) (by simp)
      · have eo := hL.one hL2
        simp only [Option.some.injEq] at eo
        subst eo
        have hob : out9.length ≤ 1000000 := by
          rcases hL with ⟨q, _⟩ | ⟨o', q, _, _, hlp⟩
          · cases q
          · simp only [Option.some.injEq] at q
            subst q
            rw [hlp.1]; omega
        refine ⟨o10, _, rfl, brFf (brFf ?_)⟩
        have hI2 := rInts (ho9.kpo (k9d.t k10)) ho10 hob
        refine usek hI2 fun w11 k11 => ⟨_, rfl, ?_⟩
        rw [show decide (out9 = out9) = true from decide_eq_true rfl]
        refine brF ?_
        have k111 := k19.t (k10.t k11)
        have s11 : Kp no w3 w11 := (k4.t (k5.t (k6.t (k7.t (k8.t kd))))).t ((k9.t k9d).t (k10.t k11))
        exact brFf (usek (live34 _) fun w12 k12' => ⟨_, rfl, rfl, k111.t k12'⟩)
  · refine ⟨o, _, rfl, use (rShort34 (h.kpo (k12.t k3)) hpv (by omega) (hz.kpo (k12.t k3)) (by omega)) ?_⟩
    rintro _ w4 ⟨k4, ⟨_, hno⟩ | ⟨o4, rs4, rfl, ho4, hR4, _⟩⟩
    · obtain ⟨j, hj, hn2⟩ := hno
      exact absurd (hfit j hj) hn2
    obtain rfl := hR.one hps hR4
    refine ⟨o4, _, rfl, usek (mShortN (hz.kpo (k12.t (k3.t k4))) (by omega)) fun w5 k5 => ⟨⟨none, 0, 0⟩, _, rfl, usei (mLongN w5 lg 0 (by omega)) ⟨⟨none, 0, 0⟩, _, rfl, br_not (br_y rfl (br_not (br_y rfl (usei (mWordsN _) ⟨_, rfl, br_not (br_y rfl (usei (mBehindN _ _) ⟨_, rfl, br_not (br_y rfl (usei (mRankN _ _ _) ⟨_, rfl, br_not (br_y rfl (usei (mWordN _ _ _) ⟨_, rfl, br_not (br_y rfl ?_)⟩))⟩))⟩))⟩))))⟩⟩⟩
    have hNil : RdZ w5 ⟨none, 0, 0⟩ ([] : List Int) := ⟨rfl, Rd.nil _ _, by simp⟩
    have hFN := mFitsN hNil (by simp)
    refine usek hFN fun w6 k6 => ⟨_, rfl, brFf ?_⟩
    have k26 := k3.t (k4.t (k5.t k6))
    have k16 := k12.t k26
    refine use (mFits (hm.kpo k26) (hz.kpo k16) (by omega)) ?_
    rintro _ w7 ⟨k7, ⟨rfl, _⟩ | ⟨_, hno⟩⟩
    rotate_left
    · obtain ⟨j, hj, hn2⟩ := hno
      exact absurd (hfit j hj) hn2
    refine ⟨_, rfl, brFf (brFf (brFf ?_))⟩
    have hrl0 : rs.length ≤ 1000000 := by rw [hR.1]; omega
    have k17 := k16.t k7
    refine usek (rInts (ho.kpo (k4.t (k5.t (k6.t k7)))) (ho4.kpo (k5.t (k6.t k7))) hrl0) fun w8 k8 => ⟨_, rfl, ?_⟩
    rw [show decide (rs = rs) = true from decide_eq_true rfl]
    refine brF (br_dec (fun _ => usek (live34 _) fun w9 k9 => ⟨_, rfl, rfl, k17.t (k8.t k9)⟩) (fun hl0 => ?_))
    have hg0 : 0 < zg.length := by omega
    have kd : Kp no w8 (World.drew w8) := (Kp.refl no w8).drew
    have k18 := k17.t (k8.t kd)
    obtain ⟨a0, ha0, hc0⟩ := (hz.kpo k18).at (i := 0) (by omega) (by omega)
    have h0l : (0 : Int) < (lg.len : Int) := by omega
    have h1l : (1 : Int) ≤ (lg.len : Int) := by omega
    have hlc : (lg.len : Int) ≤ (lg.cap : Int) := by omega
    refine ⟨by decide, h0l, a0, ha0, _, hc0, by decide, h1l, hlc, ?_⟩
    rw [show (1 : Int).toNat = 1 from rfl, Int.toNat_natCast]
    have k28 := k26.t (k7.t (k8.t kd))
    have hD := rdDrop1 hz hcap (by omega)
    have hDl : (zg.drop 1).length ≤ 1000 := by rw [List.length_drop]; omega
    have hLong := mLong (hm.kpo k28) (hD.kpo k18) hDl (wz zg (0 : Int).toNat)
    refine use hLong ?_
    clear hLong
    have rest : ∀ w10, Kp no (World.drew w8) w10 → ∀ (ol or : Slc) (e65 : Int) (b71 : Bool), ∀ (X : Prop), X = X := fun _ _ _ _ _ _ _ => rfl
    clear rest
    rintro _ w9 ⟨k9, hv9⟩
    have k9d : Kp no w9 (World.drew w9) := (Kp.refl no w9).drew
    have k19 := k18.t (k9.t k9d)
    obtain ⟨a9, ha9, hc9⟩ := (hz.kpo k19).at (i := 0) (by omega) (by omega)
    have hRL := rLong34 (h.kpo k19) hps hn (by omega) (hD.kpo k19) hDl (wz zg (0 : Int).toNat)
    rcases hv9 with ⟨rfl, hL⟩ | ⟨o9, out9, rfl, ho9, hL⟩
    · refine ⟨⟨none, 0, 0⟩, _, rfl, by decide, h0l, a9, ha9, _, hc9, by decide, h1l, hlc, use hRL ?_⟩
      clear hRL
      rintro _ w10 ⟨k10, ⟨rfl, _⟩ | ⟨_, _, _, _, hL2⟩⟩
      · refine ⟨⟨none, 0, 0⟩, _, rfl, brFf (brYy (br_not (br_y rfl ?_)))⟩
        have hN1 : RdZ w10 ⟨none, 0, 0⟩ (zl []) := ⟨rfl, Rd.nil _ _, by simp⟩
        have hI2 := rInts hN1 hN1 (by simp)
        refine usek hI2 fun w11 k11 => ⟨_, rfl, brF ?_⟩
        have k111 := k19.t (k10.t k11)
        have s11 : Kp no w3 w11 := (k4.t (k5.t (k6.t (k7.t (k8.t kd))))).t ((k9.t k9d).t (k10.t k11))
        have hc11 := kp_cell hc9 (k10.t k11)
        refine brYy ⟨by decide, h0l, a9, ha9, _, hc11, br_dec (fun hp0 => ⟨by decide, h0l, a9, ha9, _, hc11, br_dec (fun hp1 => ⟨by decide, h0l, a9, ha9, _, hc11, ?_⟩) (fun _ => usek (live34 _) fun w12 k12' => ⟨_, rfl, rfl, k111.t k12'⟩)⟩) (fun _ => usek (live34 _) fun w12 k12' => ⟨_, rfl, rfl, k111.t k12'⟩)⟩
        obtain ⟨gN, egN, hback⟩ := back_long hg0 hp0 hp1 hR hfit
        have hrl : (zl rs).length ≤ 1000 := by rw [zl_len, hR.1]; omega
        have hLb := mLong (hm.kpo (k3.t s11)) (ho.kpo s11) hrl (wz zg (0 : Int).toNat)
        refine use hLb ?_
        clear hLb
        rintro _ w12 ⟨k12', ⟨_, hLx⟩ | ⟨o12, out12, rfl, ho12, hLx⟩⟩
        · exact absurd (hLx.one hback) (by simp)
        · have eo2 := hLx.one hback
          simp only [Option.some.injEq] at eo2
          subst eo2
          have hzN : RdZ w12 lg (zl out12) := by rw [← egN]; exact hz.kpo (k111.t k12')
          have hob2 : out12.length ≤ 1000000 := by
            have := congrArg List.length egN
            rw [zl_len] at this; omega
          refine ⟨o12, _, rfl, br_y rfl (usek (rInts ho12 hzN hob2) fun w13 k13 => ⟨_, rfl, ?_⟩)⟩
          rw [show decide (out12 = out12) = true from decide_eq_true rfl]
          exact brYy (usek (live34 _) fun w14 k14 => ⟨_, rfl, rfl, k111.t (k12'.t (k13.t k14))⟩)
      · exact absurd (hL.one hL2) (by simp)
    · refine ⟨o9, _, rfl, by decide, h0l, a9, ha9, _, hc9, by decide, h1l, hlc, use hRL ?_⟩
      clear hRL
      rintro _ w10 ⟨k10, ⟨_, hL2⟩ | ⟨o10, out10, rfl, ho10, hL2⟩⟩
      · exact absurd (hL.one hL2) (by simp)
      · have eo := hL.one hL2
        simp only [Option.some.injEq] at eo
        subst eo
        have hob : out9.length ≤ 1000000 := by
          rcases hL with ⟨q, _⟩ | ⟨o', q, _, _, hlp⟩
          · cases q
          · simp only [Option.some.injEq] at q
            subst q
            rw [hlp.1]; omega
        refine ⟨o10, _, rfl, brFf (brFf ?_)⟩
        have hI2 := rInts (ho9.kpo (k9d.t k10)) ho10 hob
        refine usek hI2 fun w11 k11 => ⟨_, rfl, ?_⟩
        rw [show decide (out9 = out9) = true from decide_eq_true rfl]
        refine brF ?_
        have k111 := k19.t (k10.t k11)
        have s11 : Kp no w3 w11 := (k4.t (k5.t (k6.t (k7.t (k8.t kd))))).t ((k9.t k9d).t (k10.t k11))
        have hc11 := kp_cell hc9 (k10.t k11)
        refine brYy ⟨by decide, h0l, a9, ha9, _, hc11, br_dec (fun hp0 => ⟨by decide, h0l, a9, ha9, _, hc11, br_dec (fun hp1 => ⟨by decide, h0l, a9, ha9, _, hc11, ?_⟩) (fun _ => usek (live34 _) fun w12 k12' => ⟨_, rfl, rfl, k111.t k12'⟩)⟩) (fun _ => usek (live34 _) fun w12 k12' => ⟨_, rfl, rfl, k111.t k12'⟩)⟩
        obtain ⟨gN, egN, hback⟩ := back_long hg0 hp0 hp1 hR hfit
        have hrl : (zl rs).length ≤ 1000 := by rw [zl_len, hR.1]; omega
        have hLb := mLong (hm.kpo (k3.t s11)) (ho.kpo s11) hrl (wz zg (0 : Int).toNat)
        refine use hLb ?_
        clear hLb
        rintro _ w12 ⟨k12', ⟨_, hLx⟩ | ⟨o12, out12, rfl, ho12, hLx⟩⟩
        · exact absurd (hLx.one hback) (by simp)
        · have eo2 := hLx.one hback
          simp only [Option.some.injEq] at eo2
          subst eo2
          have hzN : RdZ w12 lg (zl out12) := by rw [← egN]; exact hz.kpo (k111.t k12')
          have hob2 : out12.length ≤ 1000000 := by
            have := congrArg List.length egN
            rw [zl_len] at this; omega
          refine ⟨o12, _, rfl, br_y rfl (usek (rInts ho12 hzN hob2) fun w13 k13 => ⟨_, rfl, ?_⟩)⟩
          rw [show decide (out12 = out12) = true from decide_eq_true rfl]
          exact brYy (usek (live34 _) fun w14 k14 => ⟨_, rfl, rfl, k111.t (k12'.t (k13.t k14))⟩)
end Go.Proofs.Ytmpgklgjmkcpdaa.V
