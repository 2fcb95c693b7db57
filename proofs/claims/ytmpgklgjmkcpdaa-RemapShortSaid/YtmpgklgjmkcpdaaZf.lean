/- Words behind words: the example; the laws. -/
import Derived.Test.YtmpgklgjmkcpdaaZe
namespace Go.Proofs.Ytmpgklgjmkcpdaa.V
open Go Go.VC
variable {w w' w0 : World} {l la lb lg : Slc} {zs ks zg : List Int} {zp : List (List Int)} {ps : List (Nat × Nat)} {n m r B b : Nat} {v : Value}

set_option maxHeartbeats 1000000 in
theorem live34 (w : World) : IsK 57 #[] w (.bool true) := by
  refine c57 _ _ ?_
  unfold B57
  have z1 : (w.alloc (.cells #[.int .i64 0, .int .i64 1] 3)).heap.size = w.heap.size + 1 := World.size_alloc _ _
  have z2 : ((w.alloc (.cells #[.int .i64 0, .int .i64 1] 3)).alloc (.cells #[.int .i64 0, .int .i64 3] 3)).heap.size = w.heap.size + 2 := by rw [World.size_alloc, z1]
  have z3 : (((w.alloc (.cells #[.int .i64 0, .int .i64 1] 3)).alloc (.cells #[.int .i64 0, .int .i64 3] 3)).alloc (.cells #[.int .i64 3, .int .i64 2] 3)).heap.size = w.heap.size + 3 := by rw [World.size_alloc, z2]
  rw [z1, z2, z3]
  have rA0 := rdZ_lit w [0, 1] (by simp) 3
  have rB0 := rdZ_lit (w.alloc (.cells #[.int .i64 0, .int .i64 1] 3)) [0, 3] (by simp) 3
  have rC0 := rdZ_lit ((w.alloc (.cells #[.int .i64 0, .int .i64 1] 3)).alloc (.cells #[.int .i64 0, .int .i64 3] 3)) [3, 2] (by simp) 3
  have bO := Blk.new (((w.alloc (.cells #[.int .i64 0, .int .i64 1] 3)).alloc (.cells #[.int .i64 0, .int .i64 3] 3)).alloc (.cells #[.int .i64 3, .int .i64 2] 3)) [.slice (some ⟨w.heap.size, 0, none⟩) 2 2, .slice (some ⟨w.heap.size + 1, 0, none⟩) 2 2, .slice (some ⟨w.heap.size + 2, 0, none⟩) 2 2] 22
  have kw : Kp no w ((((w.alloc (.cells #[.int .i64 0, .int .i64 1] 3)).alloc (.cells #[.int .i64 0, .int .i64 3] 3)).alloc (.cells #[.int .i64 3, .int .i64 2] 3)).alloc (.cells #[.slice (some ⟨w.heap.size, 0, none⟩) 2 2, .slice (some ⟨w.heap.size + 1, 0, none⟩) 2 2, .slice (some ⟨w.heap.size + 2, 0, none⟩) 2 2] 22)) := ((((Kp.refl _ _).alloc _ _).alloc _ _).alloc _ _).alloc _ _
  have kA : Kp no (w.alloc (.cells #[.int .i64 0, .int .i64 1] 3)) ((((w.alloc (.cells #[.int .i64 0, .int .i64 1] 3)).alloc (.cells #[.int .i64 0, .int .i64 3] 3)).alloc (.cells #[.int .i64 3, .int .i64 2] 3)).alloc (.cells #[.slice (some ⟨w.heap.size, 0, none⟩) 2 2, .slice (some ⟨w.heap.size + 1, 0, none⟩) 2 2, .slice (some ⟨w.heap.size + 2, 0, none⟩) 2 2] 22)) := (((Kp.refl _ _).alloc _ _).alloc _ _).alloc _ _
  have kB : Kp no ((w.alloc (.cells #[.int .i64 0, .int .i64 1] 3)).alloc (.cells #[.int .i64 0, .int .i64 3] 3)) ((((w.alloc (.cells #[.int .i64 0, .int .i64 1] 3)).alloc (.cells #[.int .i64 0, .int .i64 3] 3)).alloc (.cells #[.int .i64 3, .int .i64 2] 3)).alloc (.cells #[.slice (some ⟨w.heap.size, 0, none⟩) 2 2, .slice (some ⟨w.heap.size + 1, 0, none⟩) 2 2, .slice (some ⟨w.heap.size + 2, 0, none⟩) 2 2] 22)) := ((Kp.refl _ _).alloc _ _).alloc _ _
  have kC : Kp no (((w.alloc (.cells #[.int .i64 0, .int .i64 1] 3)).alloc (.cells #[.int .i64 0, .int .i64 3] 3)).alloc (.cells #[.int .i64 3, .int .i64 2] 3)) ((((w.alloc (.cells #[.int .i64 0, .int .i64 1] 3)).alloc (.cells #[.int .i64 0, .int .i64 3] 3)).alloc (.cells #[.int .i64 3, .int .i64 2] 3)).alloc (.cells #[.slice (some ⟨w.heap.size, 0, none⟩) 2 2, .slice (some ⟨w.heap.size + 1, 0, none⟩) 2 2, .slice (some ⟨w.heap.size + 2, 0, none⟩) 2 2] 22)) := (Kp.refl _ _).alloc _ _
  rw [z1] at rB0
  rw [z2] at rC0
  rw [z3] at bO
  have rA := rA0.kpo kA
  have rB := rB0.kpo kB
  have rC := rC0.kpo kC
  clear rA0 rB0 rC0 kA kB kC
  generalize (((w.alloc (.cells #[.int .i64 0, .int .i64 1] 3)).alloc (.cells #[.int .i64 0, .int .i64 3] 3)).alloc (.cells #[.int .i64 3, .int .i64 2] 3)).alloc (.cells #[.slice (some ⟨w.heap.size, 0, none⟩) 2 2, .slice (some ⟨w.heap.size + 1, 0, none⟩) 2 2, .slice (some ⟨w.heap.size + 2, 0, none⟩) 2 2] 22) = w1 at *
  have rG : RdG w1 ⟨some ⟨w.heap.size + 3, 0, none⟩, 3, 3⟩ [[0, 1], [0, 3], [3, 2]] := ⟨rfl, fun i hi => by
    have hi3 : i = 0 ∨ i = 1 ∨ i = 2 := by simp at hi; omega
    rcases hi3 with rfl | rfl | rfl
    · exact ⟨_, ⟨some ⟨w.heap.size, 0, none⟩, 2, 2⟩, rfl, bO.cell 0, rA⟩
    · exact ⟨_, ⟨some ⟨w.heap.size + 1, 0, none⟩, 2, 2⟩, rfl, bO.cell 1, rB⟩
    · exact ⟨_, ⟨some ⟨w.heap.size + 2, 0, none⟩, 2, 2⟩, rfl, bO.cell 2, rC⟩⟩
  have hgood : WrR 4 [[0, 1], [0, 3], [3, 2]] 0 := .inr ⟨by decide, .inl ⟨rfl, fun i hi => by
    have hi3 : i = 0 ∨ i = 1 ∨ i = 2 := by simp at hi; omega
    unfold okR outR lexZ
    rcases hi3 with rfl | rfl | rfl <;> decide⟩⟩
  have hN := mNew rG (by decide) 4
  refine use hN ?_
  rintro _ w2 ⟨k2, ⟨e, rfl, he, hw⟩ | ⟨m, n, ps, rfl, hn, _, hz, _, hm⟩⟩
  · exact absurd (hw.one hgood) he
  obtain rfl : n = 4 := by omega
  obtain rfl : ps = [(0, 1), (0, 3), (3, 2)] := prZ_inj (a := ps) (b := [(0, 1), (0, 3), (3, 2)]) (by rw [← hz]; rfl)
  clear hz hN hgood
  have hps : PairsOk 4 [(0, 1), (0, 3), (3, 2)] := by obtain ⟨_, _, _, h, _⟩ := hm; exact h
  have hb0 : bhZ [(0, 1), (0, 3), (3, 2)] 0 = [1, 3] := by decide
  have hb3 : bhZ [(0, 1), (0, 3), (3, 2)] 3 = [2] := by decide
  have k3 : Kp no w2 (w2.alloc (.cells #[.int .i64 0, .int .i64 3, .int .i64 2] 3)) := (Kp.refl _ _).alloc _ _
  have r3 := rdZ_lit w2 [0, 3, 2] (by simp) 3
  refine ⟨_, _, rfl, ?_⟩
  have hS := mShort (hm.kpo k3) (by decide) r3 (by decide)
  refine use hS ?_
  clear hS
  have hfit : ∀ j, j + 1 < [(0 : Int), 3, 2].length → FitA [(0, 1), (0, 3), (3, 2)] [0, 3, 2] j := fun j hj => by
    have : j = 0 ∨ j = 1 := by simp at hj; omega
    rcases this with rfl | rfl
    · exact ⟨1, by decide, by decide⟩
    · exact ⟨0, by decide, by decide⟩
  rintro _ w4 ⟨k4, ⟨_, j, hj, hno⟩ | ⟨o, rs, rfl, ho, hR, _⟩⟩
  · exact absurd (hfit j hj) hno
  have hR0 : RanksP [(0, 1), (0, 3), (3, 2)] [0, 3, 2] [1, 0] 2 := ⟨rfl, fun j hj => by
    have : j = 0 ∨ j = 1 := by omega
    rcases this with rfl | rfl
    · exact .inr ⟨1, by decide, by decide, by decide⟩
    · exact .inr ⟨0, by decide, by decide, by decide⟩⟩
  obtain rfl : rs = [1, 0] := hR.one hps hR0
  have k5 : Kp no w4 (w4.alloc (.cells #[.int .i64 1, .int .i64 0] 3)) := (Kp.refl _ _).alloc _ _
  have r5 := rdZ_lit w4 [1, 0] (by simp) 3
  refine ⟨o, _, rfl, ?_⟩
  have hL := mLong (hm.kpo (k3.t (k4.t k5))) r5 (by decide) 0
  refine use hL ?_
  clear hL
  have hL0 : LongR [(0, 1), (0, 3), (3, 2)] 4 0 [1, 0] (some [0, 3, 2]) := .inr ⟨[0, 3, 2], rfl, by decide, by decide, rfl, rfl, fun i hi => by
    have : i = 0 ∨ i = 1 := by simp at hi; omega
    rcases this with rfl | rfl <;> decide⟩
  rintro _ w6 ⟨k6, ⟨_, hL⟩ | ⟨o2, out, rfl, ho2, hL⟩⟩
  · exact absurd (hL.one hL0) (by simp)
  obtain rfl : out = [0, 3, 2] := Option.some.inj (hL.one hL0)
  have k26 := k3.t (k4.t (k5.t k6))
  refine ⟨o2, _, rfl, br_y rfl (br_y rfl (br_y rfl (use (mRank (hm.kpo k26) 0 3) ?_)))⟩
  rintro _ w7 ⟨k7, x, rfl, hx⟩
  obtain rfl : x = 1 := hx.one (bh_inc hps _).2 (.inr ⟨1, by decide, by decide, by decide⟩)
  have k8 : Kp no w7 (w7.alloc (.cells #[.int .i64 1, .int .i64 0] 3)) := (Kp.refl _ _).alloc _ _
  have r8 := rdZ_lit w7 [1, 0] (by simp) 3
  have hI := rInts (xs := [1, 0]) (ys := [1, 0]) (ho.kpo (k5.t (k6.t (k7.t k8)))) r8 (by decide)
  refine ⟨_, rfl, br_y rfl (usek hI fun w9 k9 => ⟨_, rfl, brYy ?_⟩)⟩
  have k10 : Kp no w9 (w9.alloc (.cells #[.int .i64 0, .int .i64 3, .int .i64 2] 3)) := (Kp.refl _ _).alloc _ _
  have r10 := rdZ_lit w9 [0, 3, 2] (by simp) 3
  have hI2 := rInts (xs := [0, 3, 2]) (ys := [0, 3, 2]) (ho2.kpo (k7.t (k8.t (k9.t k10)))) r10 (by decide)
  exact usek hI2 fun w11 k11 => ⟨_, rfl, rfl, kw.t (k2.t (k26.t (k7.t (k8.t (k9.t (k10.t k11))))))⟩

theorem remapMakes (h : RdG w l zp) (nn q0 q1 q2 : Int) : IsK 11 #[.int .i64 nn, .slice l.a l.len l.cap, .agg #[.int .i64 q0, .int .i64 q1, .int .i64 q2]] w (.bool true) := by
  refine c11 _ _ _ _ _ _ _ ?_
  unfold B11
  have hb := Blk.new w [.int .i64 q0, .int .i64 q1, .int .i64 q2] 38
  have k0 : Kp no w (w.alloc (.cells #[.int .i64 q0, .int .i64 q1, .int .i64 q2] 38)) := (Kp.refl _ _).alloc _ _
  have h' := h.kpo k0
  generalize w.alloc (.cells #[.int .i64 q0, .int .i64 q1, .int .i64 q2] 38) = wa at *
  generalize w.heap.size = b at *
  refine use (rSmall34 h' nn) ?_
  rintro _ w1 ⟨hw, bb, rfl, hbb⟩
  obtain rfl : wa = w1 := hw.symm
  refine ⟨_, rfl, ?_⟩
  cases bb
  · exact brT (usek (live34 _) fun w1 k1 => ⟨_, rfl, rfl, k0.t k1⟩)
  have hsm := hbb rfl
  refine brF (use (mNew h' (by omega) nn) ?_)
  rintro _ w2 ⟨k2, ⟨e, rfl, he, hwr⟩ | ⟨m, n, ps, rfl, rfl, hn1, rfl, hw0, hm⟩⟩
  · refine ⟨_, _, rfl, use (rWrong34 (h'.kpo k2) (by omega) nn) ?_⟩
    rintro _ w3 ⟨k3, e3, rfl, hw3⟩
    obtain rfl := hwr.one hw3
    exact ⟨_, rfl, br_not (br_y rfl (br_not (br_n he (brN (usek (live34 _) fun w4 k4 => ⟨_, rfl, rfl, k0.t (k2.t (k3.t k4))⟩)))))⟩
  · refine ⟨_, _, rfl, use (rWrong34 (h'.kpo k2) (by omega) n) ?_⟩
    rintro _ w3 ⟨k3, e3, rfl, hw3⟩
    obtain rfl := hw3.one hw0
    rw [List.length_map] at hsm
    obtain ⟨_, _, _, hps, hn, _⟩ := id hm
    have hpv : ∀ p ∈ ps, p.2 ≤ 65536 := fun p hp => by have := (hps.1 p hp).2; omega
    have kd : Kp no w3 (World.drew w3) := (Kp.refl no w3).drew
    have k3d := k3.t kd
    have b3 := hb.kp (k2.t k3d) id
    have m3 := hm.kpo k3d
    refine ⟨_, rfl, br_not (br_y rfl (br_not (br_y rfl (usei (mWords m3) ⟨_, rfl, br_y rfl ?_⟩))))⟩
    refine ⟨by decide, by decide, _, rfl, _, b3.cell 0, by decide, by decide, _, rfl, _, b3.cell 0, usek (mBehind m3 q0) fun w4 k4 => ⟨_, rfl, (b3.kp k4 id).cell 0, use (rBehind34 (h'.kpo (k2.t (k3d.t k4))) (by omega) hpv q0) ?_⟩⟩
    rintro _ w5 ⟨k5, o, rfl, ho⟩
    have hol := ho.len
    rw [zl_len] at hol
    have k35 := k3d.t (k4.t k5)
    have b5 := hb.kp (k2.t k35) id
    refine ⟨o, rfl, br_y (by omega) ⟨by decide, by decide, _, rfl, _, b5.cell 0, by decide, by decide, _, rfl, _, b5.cell 1, by decide, by decide, _, rfl, _, b5.cell 0, by decide, by decide, _, rfl, _, b5.cell 1, use (mRank (hm.kpo k35) q0 q1) ?_⟩⟩
    rintro _ w6 ⟨k6, x, rfl, hx⟩
    have b6 := b5.kp k6 id
    refine ⟨_, rfl, b6.cell 1, b6.cell 0, use (rRank34 (h'.kpo (k2.t (k35.t k6))) (by omega) hpv q0 q1) ?_⟩
    rintro _ w7 ⟨k7, y, rfl, hy⟩
    obtain rfl := hx.one (bh_inc hps q0).2 hy
    have k37 := k35.t (k6.t k7)
    have b7 := b6.kp k7 id
    refine ⟨_, rfl, br_y rfl ⟨by decide, by decide, _, rfl, _, b7.cell 0, by decide, by decide, _, rfl, _, b7.cell 2, by decide, by decide, _, rfl, _, b7.cell 0, by decide, by decide, _, rfl, _, b7.cell 2, usek (mWord (hm.kpo k37) q0 q2) fun w8 k8 => ?_⟩⟩
    have b8 := b7.kp k8 id
    exact ⟨_, rfl, b8.cell 2, b8.cell 0, usek (rWord34 (h'.kpo (k2.t (k37.t k8))) (by omega) hpv q0 q2) fun w9 k9 => ⟨_, rfl, br_y rfl (usek (live34 _) fun w10 k10 => ⟨_, rfl, rfl, k0.t (k2.t ((k37.t k8).t (k9.t k10)))⟩)⟩⟩

/-- The rank of a pair. -/
def rkOf (ps : List (Nat × Nat)) (i : Nat) : Nat := (behind (ps.take i) (match ps[i]? with | some p => p.1 | none => 0)).length

set_option maxHeartbeats 1000000 in
theorem remapAll (h : RdG w l zp) (nn : Int) : IsK 12 #[.int .i64 nn, .slice l.a l.len l.cap] w (.bool true) := by
  refine c12 _ _ _ _ ?_
  unfold B12
  refine use (rSmall34 h nn) ?_
  rintro _ w1 ⟨hw, bb, rfl, hbb⟩
  obtain rfl : w = w1 := hw.symm
  refine ⟨_, rfl, ?_⟩
  cases bb
  · exact brT (usek (live34 _) fun w1 k1 => ⟨_, rfl, rfl, k1⟩)
  have hsm := hbb rfl
  refine brF (use (rWrong34 h (by omega) nn) ?_)
  rintro _ w1 ⟨k1, e1, rfl, hw1⟩
  refine ⟨_, rfl, br_not (br_dec (fun h0 => ?_) (fun h0 => usek (live34 _) fun w2 k2 => ⟨_, rfl, rfl, k1.t k2⟩))⟩
  subst h0
  refine use (mNew (h.kpo k1) (by omega) nn) ?_
  rintro _ w2 ⟨k2, ⟨e, rfl, he, hwr⟩ | ⟨m, n, ps, rfl, rfl, hn1, rfl, hw0, hm⟩⟩
  · exact absurd (hwr.one hw1) he
  have hl := h.len
  rw [List.length_map] at hsm hl
  obtain ⟨_, _, _, hps, hn, _⟩ := id hm
  refine ⟨_, _, rfl, fun i w' => Kp no w2 w' ∧ ∃ k : Nat, i = k ∧ k ≤ ps.length, fun i _ => (l.len - i).toNat, ⟨Kp.refl _ _, 0, rfl, by omega⟩, ?_⟩
  rintro i w3 ⟨k3, k, rfl, hk⟩
  have k13 := k1.t (k2.t k3)
  refine br_dec (fun hlt => ?_) (fun hlt => ?_)
  · have hk' : k < ps.length := by omega
    have kd : Kp no w3 (World.drew w3) := (Kp.refl no w3).drew
    obtain ⟨a, s, ha, hc, hz, hs2⟩ := rdp_at (h.kpo (k13.t kd)) hk'
    obtain ⟨ap, hap, hc0, hc1⟩ := rdp_0 hz
    have h00 : (0 : Int) ≤ (k : Int) := by omega
    refine ⟨h00, hlt, a, ha, s, hc, by decide, by omega, ap, hap, _, hc0, h00, hlt, a, ha, s, hc, by decide, by omega, ap, hap, _, hc1, use (mRank (hm.kpo (k3.t kd)) _ _) ?_⟩
    rintro _ w4 ⟨k4, x, rfl, hx⟩
    -- the pair's own rank
    obtain ⟨p, q, hpq⟩ : ∃ p q, ps[k] = (p, q) := ⟨_, _, rfl⟩
    rw [hpq] at hx ⊢
    dsimp only at hx ⊢
    rw [bhZ_nat] at hx
    have hbt : ∀ j (hj : j < ps.length), ∀ a b : Nat, ps[j] = (a, b) → (behind (ps.take j) a).length < (behind ps a).length ∧ wg (behind ps a) (behind (ps.take j) a).length = b := fun j hj a b e => by
      have e2 : ps = ps.take j ++ ps[j] :: ps.drop (j + 1) := by rw [← List.drop_eq_getElem_cons hj, List.take_append_drop]
      have e3 : behind ps a = behind (ps.take j) a ++ b :: behind (ps.drop (j + 1)) a := by
        conv => lhs; rw [e2]
        unfold behind
        rw [List.filter_append, List.map_append, e]
        simp
      rw [e3]
      refine ⟨by simp, ?_⟩
      unfold wg
      rw [List.getElem?_append_right (Nat.le_refl _)]; simp
    obtain ⟨hb1, hb2⟩ := hbt k hk' p q hpq
    have hx0 : x = ((behind (ps.take k) p).length : Int) := by
      have hinc := (bh_inc hps (p : Int)).2
      rw [bhZ_nat] at hinc
      exact hx.one hinc (.inr ⟨_, rfl, hb1, by rw [hb2]⟩)
    subst hx0
    refine ⟨_, rfl, br_n (by omega) (usek (mBehind (hm.kpo ((k3.t kd).t k4)) _) fun w5 k5 => ⟨_, rfl, ?_⟩)⟩
    rw [bhZ_nat]
    refine br_n (by omega) (usek (mWord (hm.kpo ((k3.t kd).t (k4.t k5))) _ _) fun w6 k6 => ⟨_, rfl, ?_⟩)
    rw [bhZ_nat, atZ_in hb1, hb2]
    have k36 := (k3.t kd).t (k4.t (k5.t k6))
    have k16 := (k13.t kd).t (k4.t (k5.t k6))
    have stp : ∀ W, Kp no w2 W → (Kp no w2 W ∧ ∃ j : Nat, IntKind.i64.wrap ((k : Int) + 1) = j ∧ j ≤ ps.length) ∧ (l.len - IntKind.i64.wrap ((k : Int) + 1)).toNat < (l.len - (k : Int)).toNat := fun W kW => by
      rw [w64 (x := (k : Int) + 1) ⟨by omega, by omega⟩]
      exact ⟨⟨kW, k + 1, by omega, by omega⟩, by omega⟩
    refine br_not (br_y rfl (br_dec (fun g => ?_) (fun g => stp _ k36)))
    have e9 : IntKind.i64.wrap ((k : Int) - 1) = ((k - 1 : Nat) : Int) := by rw [w64 ⟨by omega, by omega⟩]; omega
    rw [e9]
    obtain ⟨a7, s7, ha7, hc7, hz7, hs7⟩ := rdp_at (h.kpo k16) (show k - 1 < ps.length by omega)
    obtain ⟨ap7, hap7, hc70, hc71⟩ := rdp_0 hz7
    refine ⟨by omega, by omega, a7, ha7, s7, hc7, by decide, by omega, ap7, hap7, _, hc70, br_dec (fun g2 => ⟨by omega, by omega, a7, ha7, s7, hc7, by decide, by omega, ap7, hap7, _, hc71, use (mRank (hm.kpo k36) _ _) ?_⟩) (fun g2 => stp _ k36)⟩
    rintro _ w8 ⟨k8, y, rfl, hy⟩
    rw [bhZ_nat] at hy
    obtain ⟨p2, q2, hpq2⟩ : ∃ p q, ps[k - 1] = (p, q) := ⟨_, _, rfl⟩
    rw [hpq2] at hy g2
    dsimp only at hy g2
    have hpp : p2 = p := by omega
    subst hpp
    obtain ⟨hc1', hc2'⟩ := hbt (k - 1) (by omega) p2 q2 hpq2
    have hy0 : y = ((behind (ps.take (k - 1)) p2).length : Int) := by
      have hinc := (bh_inc hps (p2 : Int)).2
      rw [bhZ_nat] at hinc
      exact hy.one hinc (.inr ⟨_, rfl, hc1', by rw [hc2']⟩)
    subst hy0
    have hlen : (behind (ps.take k) p2).length = (behind (ps.take (k - 1)) p2).length + 1 := by
      have e5 : ps.take k = ps.take (k - 1) ++ [ps[k - 1]] := by
        have := take_pair (ps := ps) (m := k - 1) (by omega)
        rwa [show k - 1 + 1 = k by omega] at this
      rw [e5, behind_snoc, hpq2]; simp
    have hle := behind_len (ps.take k) p2
    rw [List.length_take] at hle
    refine ⟨_, rfl, ?_⟩
    rw [w64 (x := ((behind (ps.take k) p2).length : Int) - 1) ⟨by omega, by omega⟩]
    exact br_not (br_y (by omega) (stp _ (k36.t k8)))
  · refine usei (mWords (hm.kpo k3)) ⟨_, rfl, br_y rfl (usek (live34 _) fun w4 k4 => ⟨_, rfl, rfl, k13.t k4⟩)⟩
end Go.Proofs.Ytmpgklgjmkcpdaa.V
