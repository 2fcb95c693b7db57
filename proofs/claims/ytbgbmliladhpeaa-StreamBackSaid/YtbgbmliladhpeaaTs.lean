/- Streams: the laws. -/
import Derived.Test.YtbgbmliladhpeaaTl
namespace Go.VC
open Go
theorem brTt {x y : Prop} (h : x) : br true x y := h
theorem RdC.cells {w : World} {l : Slc} {cs : List Cd} (h : RdC w l cs) {m : Nat} (hm : m < cs.length) {a : Addr} (ha : l.a = some a) : w.cell? (Addr.add (Addr.add a ((m : Int).toNat * 3)) 0) = some (.int .i64 cs[m].kind) ∧ w.cell? (Addr.add (Addr.add a ((m : Int).toNat * 3)) 1) = some (.int .u64 (cs[m].v : Int)) ∧ w.cell? (Addr.add (Addr.add a ((m : Int).toNat * 3)) 2) = some (.int .i64 cs[m].n) := by
  obtain ⟨b, hb, h2⟩ := h.at hm
  rw [ha] at hb
  cases hb
  exact h2
/-- The bits of codes. -/
def codesB (cs : List Cd) : List Bool := cs.flatMap fun c => cdB (kindN c.kind) c.v c.n
theorem codesB_split (cs : List Cd) (m : Nat) : codesB cs = codesB (cs.take m) ++ codesB (cs.drop m) := by
  unfold codesB; rw [← List.flatMap_append, List.take_append_drop]
theorem codesB_drop {cs : List Cd} {m : Nat} (hm : m < cs.length) : (codesB cs).drop (codesB (cs.take m)).length = cdB (kindN cs[m].kind) cs[m].v cs[m].n ++ codesB (cs.drop (m + 1)) := by
  rw [codesB_split cs m, List.drop_left, List.drop_eq_getElem_cons hm]
  rfl
theorem codesB_succ {cs : List Cd} {m : Nat} (hm : m < cs.length) : codesB (cs.take (m + 1)) = codesB (cs.take m) ++ cdB (kindN cs[m].kind) cs[m].v cs[m].n := by
  rw [List.take_add_one, List.getElem?_eq_getElem hm]
  unfold codesB
  rw [List.flatMap_append]
  simp
theorem wantF_ne {kd v : Nat} {n : Int} (h : kd ≠ 1) : wantF kd v n = v := by
  unfold wantF
  split
  · exact absurd rfl h
  · rfl
theorem kindN_one {k : Int} : kindN k = 1 ↔ k = 1 := by unfold kindN; split <;> omega
end Go.VC

namespace Go.Proofs.Ytbgbmliladhpeaa.V
open Go Go.VC
variable {w w' w0 : World} {l l2 rl : Slc} {bits L : List Bool} {s r n p bad : Nat} {F : Nat → Prop} {cs : List Cd}

theorem live6 (w : World) : IsK 14 #[] w (.bool true) := by
  refine c14 _ _ ?_
  unfold B14
  have hb0 := Blk.new w [.pointer none] 27
  have k0 : Kp no w (w.alloc (.cells #[.pointer none] 27)) := (Kp.refl _ _).alloc _ _
  have hs0 := hb0.lt
  generalize w.alloc (.cells #[.pointer none] 27) = wa at *
  have W0 : Wst wa w.heap.size [] (fun k => k = w.heap.size) := .inl ⟨hb0, rfl, rfl, fun k hk => by omega⟩
  have e1 : wcF [] 2 5 0 = (0, [false, false, true, true, false]) := by decide +kernel
  have e2 : wcF [false, false, true, true, false] 3 9 2 = (0, [false, false, true, true, false, false, false, true, true, false]) := by decide +kernel
  have hg := wGamma W0 (by simp) 5 (by omega) 0
  rw [e1] at hg
  refine use hg ?_
  rintro _ w1 ⟨rfl, F1, W1, g1⟩
  have hR := wRice W1 (by simp) 9 (by omega) 2
  rw [e2] at hR
  refine ⟨_, rfl, br_not (yes rfl (use hR ?_))⟩
  rintro _ w2 ⟨rfl, F2, W2, g2⟩
  have g12 := g1.trans g2
  have hF2 : ∀ k, F2 k → w.heap.size ≤ k := fun k hk => by
    rcases g12.2 k hk with q | q
    · omega
    · have := k0.size; omega
  have K2 : Kp no w w2 := k0.trans g12.1 (fun k h1 h2 => by omega)
  refine ⟨_, rfl, br_not (yes rfl (use (wRow W2 (by simp)) ?_))⟩
  rintro _ w3 ⟨r3, l3, rfl, hr3, k3, f3⟩
  refine ⟨_, rfl, use (rOpen hr3 (by simp)) ?_⟩
  rintro _ w4 ⟨s4, r4, l4, rfl, S4, k4, f4, f4'⟩
  refine ⟨_, rfl, use (wRow (W2.kp (k3.t k4) (fun _ _ f => f)) (by simp)) ?_⟩
  rintro _ w5 ⟨r5, l5, rfl, hr5, k5, f5⟩
  have hC := cut1 hr5 (by simp) 0 10 ⟨by omega, by omega⟩
  have eC : cutL [false, false, true, true, false, false, false, true, true, false] 0 (clampW 10) = 396 := by decide +kernel
  rw [eC] at hC
  have hGm := rGamma (S4.kpo k5) (by simp) 0
  have e3 : rdS [false, false, true, true, false, false, false, true, true, false] 0 0 2 0 = (5, 5, 0) := by decide +kernel
  rw [e3] at hGm
  refine ⟨_, rfl, usei hC ⟨_, rfl, yes rfl (use hGm ?_)⟩⟩
  rintro _ w6 ⟨k6, rfl, S6⟩
  have e4 : rdS [false, false, true, true, false, false, false, true, true, false] (0 + 5) 0 3 2 = (9, 5, 0) := by decide +kernel
  refine ⟨_, rfl, yes rfl (usek (rLeft S6 (by simp)) fun w7 k7 => ⟨_, rfl, yes (by decide) ?_⟩)⟩
  have hRc := rRice (S6.kpo k7) (by simp) 2
  rw [e4] at hRc
  refine use hRc ?_
  rintro _ w8 ⟨k8, rfl, S8⟩
  have h1 := k3.size
  have h2 := K2.size
  have K5 : Kp no w w5 := K2.t (k3.t (k4.t k5))
  have K8 : Kp no w w8 := (K5.trans k6 (fun k h1 h2 => by omega)).t k7 |>.trans k8 (fun k h1 h2 => by omega)
  refine ⟨_, rfl, yes rfl (usek (rEnd S8 (by simp)) fun w9 k9 => ⟨_, rfl, congrArg Value.bool (by decide), K8.t k9⟩)⟩

theorem streamNone (c : Cd) (hv : c.v < 18446744073709551616) : IsK 5 #[cdV c] w (.bool true) := by
  refine c5 _ _ _ _ _ ?_
  unfold B5
  have hb0 := Blk.new w [.int .i64 c.kind, .int .u64 (c.v : Int), .int .i64 c.n] 34
  have k0 : Kp no w (w.alloc (.cells #[.int .i64 c.kind, .int .u64 (c.v : Int), .int .i64 c.n] 34)) := (Kp.refl _ _).alloc _ _
  generalize w.alloc (.cells #[.int .i64 c.kind, .int .u64 (c.v : Int), .int .i64 c.n] 34) = wa at *
  refine ⟨_, _, _, hb0.cell 0, hb0.cell 1, hb0.cell 2, usek (read6N wa c) fun w1 k1 => ⟨_, rfl, br_not (yes rfl (usei (leftN _) ⟨_, rfl, br_not (yes rfl (usei (errN _) ⟨_, rfl, br_not (yes rfl (usei (endN _) ⟨_, rfl, br_not (yes rfl (use (rOpenN w1) ?_))⟩))⟩))⟩))⟩⟩
  rintro _ w2 ⟨s, r2, l2, rfl, S2, k2, f2, _⟩
  have kd : Kp no wa w2.drew := (k1.t k2).drew
  have b2 := hb0.kp kd id
  refine ⟨_, rfl, _, _, _, b2.cell 0, b2.cell 1, b2.cell 2, _, b2.cell 2, usek (kind6 _ c) fun w3 k3 => ⟨_, rfl, (b2.kp k3 id).cell 2, ?_⟩⟩
  have kd3 : Kp no w2 w3 := ((Kp.refl no w2).drew).t k3
  have hbb : RdB w3 ⟨none, 0, 0⟩ [] := ⟨rfl, Rd.nil _ _⟩
  have hRd := rRead hbb (by simp) (kindN_le c.kind) c.n
  have b3 := b2.kp k3 id
  have S3 := S2.kpo kd3
  have hws : w.heap.size < w2.heap.size := by have := hb0.lt; have := (k1.t k2).size; omega
  refine usei hRd ⟨_, _, _, rfl, usek (rLeft S3 (by simp)) fun w4 k4 => ⟨_, rfl, yes (by simp) ?_⟩⟩
  have b4 := b3.kp k4 id
  refine ⟨_, _, _, b4.cell 0, b4.cell 1, b4.cell 2, use (read6 (S3.kpo k4) (by simp) c) ?_⟩
  rintro _ w5 ⟨k5, rfl, S5⟩
  have er : rdS [] 0 0 (kindN c.kind) c.n = rdF [] (kindN c.kind) c.n := by unfold rdS; rw [if_pos rfl, List.drop_nil]
  rw [er] at S5 ⊢
  have K4 : Kp no w w4 := k0.t ((k1.t k2).t (kd3.t k4))
  have hs1 := k1.size
  have hs0 := k0.size
  have K5 : Kp no w w5 := K4.trans k5 (fun k h1 h2 => by omega)
  refine ⟨_, rfl, yes rfl (usei (rErr S5) ⟨_, rfl, yes rfl (usek (rEnd S5 (by simp)) fun w6 k6 => ⟨_, rfl, yes ?_ (usek (live6 _) fun w7 k7 => ⟨_, rfl, rfl, K5.t (k6.t k7)⟩)⟩)⟩)⟩
  rw [if_neg (by simp)]

theorem streamWrites (h : RdC w l cs) : IsK 3 #[.slice l.a l.len l.cap] w (.bool true) := by
  refine c3 _ _ _ ?_
  unfold B3
  have hl := h.len
  refine br_dec (fun _ => usek (live6 _) fun w1 k1 => ⟨_, rfl, rfl, k1⟩) (fun hsm => ?_)
  have hb0 := Blk.new w [.pointer none] 27
  have k0 : Kp no w (w.alloc (.cells #[.pointer none] 27)) := (Kp.refl _ _).alloc _ _
  have hs0 := hb0.lt
  generalize w.alloc (.cells #[.pointer none] 27) = wa at *
  refine ⟨fun o i w' => ∃ (m : Nat) (bs : List Bool) (F : Nat → Prop), i = m ∧ m ≤ cs.length ∧ Wst w' w.heap.size bs F ∧ RdB w' o bs ∧ (∀ k, On o k → k < w'.heap.size ∧ ¬ F k) ∧ Kp no w w' ∧ (∀ k, F k → w.heap.size ≤ k) ∧ bs.length ≤ 5000 * m, fun _ i _ => (l.len - i).toNat,
    ⟨0, [], fun k => k = w.heap.size, rfl, by omega, .inl ⟨hb0, rfl, rfl, fun k hk => by omega⟩, ⟨rfl, Rd.nil _ _⟩, fun k hk => absurd hk On.nil, k0, fun k hk => by omega, by simp⟩, ?_⟩
  rintro o i w1 ⟨m, bs, F, rfl, hm, hW, hO, hof, k1, hF, hbl⟩
  have hol := hO.len
  refine br_dec (fun hlt => ?_) (fun hlt => ?_)
  · have hm' : m < cs.length := by omega
    have h00 : (0 : Int) ≤ (m : Int) := by omega
    have hv : cs[m].v < 18446744073709551616 := h.lt _ (List.getElem_mem hm')
    rw [w64 (x := (m : Int) + 1) ⟨by omega, by omega⟩]
    obtain ⟨a, ha, _⟩ := h.at hm'
    have cell : ∀ {W : World}, Kp no w W → _ := fun {W} k => (h.kpo k).cells hm' ha
    obtain ⟨c0, c1, c2⟩ := cell k1.drew
    refine ⟨h00, hlt, a, ha, _, _, _, c0, c1, c2, h00, hlt, a, ha, _, c1, h00, hlt, a, ha, _, c2, usek (kind6 _ cs[m]) fun w2 k2 => ?_⟩
    have K2 : Kp no w1 w2 := ((Kp.refl no w1).drew).t k2
    have hz2 := K2.size
    obtain ⟨d0, d1, d2⟩ := cell (k1.t K2)
    refine ⟨_, rfl, d2, d1, use (rWrite (hO.kp K2 (fun _ _ f => f)) (fun k hk => by have := (hof k hk).1; omega) (by omega) (kindN_le cs[m].kind) hv) ?_⟩
    rintro _ w3 ⟨o3, rfl, ho3, k3, f3⟩
    have K3 := K2.t k3
    have hz3 := k3.size
    obtain ⟨d0, d1, d2⟩ := cell (k1.t K3)
    refine ⟨o3, _, rfl, h00, hlt, a, ha, _, _, _, d0, d1, d2, use (write6 (hW.kp K3 (fun _ _ f => f)) (by omega) cs[m] hv) ?_⟩
    rintro _ w4 ⟨rfl, F4, hW4, g4⟩
    have K4 : Kp no w w4 := (k1.t K3).trans g4.1 (fun k h1 h2 => by have := hF k h2; omega)
    have hz4 := g4.1.size
    have hnF : ∀ k, On o3 k → ¬ F k := fun k hk hf => by
      rcases (f3 k hk).1 with q | q
      · exact (hof k q).2 hf
      · have hfl : k < w1.heap.size := by
          rcases hW with ⟨_, _, _, g⟩ | ⟨_, _, g⟩
          · exact g k hf
          · exact g.lt k hf
        omega
    obtain ⟨d0, d1, d2⟩ := cell K4
    refine ⟨_, rfl, br_not (yes rfl ⟨h00, hlt, a, ha, _, _, _, d0, d1, d2, usek (write6N w4 cs[m]) fun w5 k5 => ⟨_, rfl, br_not (yes rfl ⟨⟨m + 1, _, F4, by omega, by omega, hW4.kp k5 (fun _ _ f => f), (ho3.kp g4.1 hnF).kp k5 (fun _ _ f => f), fun k hk => ?_, K4.t k5, fun k hk => ?_, ?_⟩, by dsimp only; omega⟩)⟩⟩)⟩
    · have := k5.size
      have hk3 := (f3 k hk).2
      refine ⟨by omega, fun hf => ?_⟩
      rcases g4.2 k hf with q | q
      · exact hnF k hk q
      · omega
    · rcases g4.2 k hk with q | q
      · exact hF k q
      · have := k1.size; omega
    · have := wcF_len bs (kindN cs[m].kind) cs[m].v cs[m].n hv
      omega
  · refine use (wRow hW (by omega)) ?_
    rintro _ w2 ⟨r2, l2, rfl, hr, k2, f2⟩
    refine ⟨_, rfl, usei (len1 hr) ⟨_, rfl, yes (by omega) (use (words1 hr (by omega)) ?_)⟩⟩
    rintro _ w3 ⟨q, rfl, hq, k3, f3⟩
    refine ⟨q, rfl, use (words2 (hO.kp (k2.t k3) (fun _ _ f => f)) (by omega)) ?_⟩
    rintro _ w4 ⟨q2, rfl, hq2, k4, f4⟩
    have hqr := (hq.kp k4 (fun _ _ f => f)).rdW (fun _ hx => wordsOf_lt hx)
    have hq2r := hq2.rdW (fun _ hx => wordsOf_lt hx)
    have hql := hqr.len
    have hlw := length_wordsOf bs
    have h56 := same2 hqr hq2r (by omega)
    rw [decide_eq_true rfl] at h56
    refine ⟨q2, rfl, usek h56 fun w5 k5 => ⟨_, rfl, brTt (use (wRowN _) ?_)⟩⟩
    rintro _ w6 ⟨r6, rfl, hr6, k6⟩
    exact ⟨_, rfl, usei (len1 hr6) ⟨_, rfl, yes rfl (usek (live6 _) fun w7 k7 => ⟨_, rfl, rfl, k1.t ((k2.t (k3.t k4)).t (k5.t (k6.t k7)))⟩)⟩⟩

theorem streamReads {ps : List (Nat × Int)} (hp : RdP w l ps) (h : RdC w l2 cs) : IsK 4 #[.slice l.a l.len l.cap, .slice l2.a l2.len l2.cap] w (.bool true) := by
  refine c4 _ _ _ _ ?_
  unfold B4
  have hl := hp.len
  have hl2 := h.len
  refine br_dec (fun _ => usek (live6 _) fun w1 k1 => ⟨_, rfl, rfl, k1⟩) (fun hs1 => br_dec (fun _ => usek (live6 _) fun w1 k1 => ⟨_, rfl, rfl, k1⟩) (fun hs2 => ?_))
  have hbl := bitsOf_len ps []
  simp only [List.length_nil, Nat.zero_add] at hbl
  refine use (built hp (by omega)) ?_
  rintro _ w1 ⟨r, rl, o, rfl, hr, ho, k1, f1, f1'⟩
  generalize bitsOf ps [] = bits at *
  refine ⟨_, o, _, rfl, brF (use (rOpen hr (by omega)) ?_)⟩
  rintro _ w2 ⟨s, r2, l2', rfl, S2, k2, f2, f2'⟩
  have hz1 := k1.size
  have hoc : o.len ≤ o.cap := by
    rcases ho.cases with ⟨rfl, _⟩ | ⟨_, _, _, _, g, _⟩
    · exact Nat.le_refl _
    · exact g
  refine ⟨_, rfl, fun left bad i w' => ∃ (m p b : Nat), i = m ∧ m ≤ cs.length ∧ bad = b ∧ RdB w' left (bits.drop p) ∧ left.len ≤ left.cap ∧ (∀ k, On left k → k ≠ s) ∧ Rst w' s r2 l2' bits p b ∧ Kp no w w', fun _ _ i _ => (l2.len - i).toNat,
    ⟨0, 0, 0, rfl, by omega, rfl, ho.rdB.kp k2 (fun _ _ f => f), hoc, fun k hk => by have := ho.on hk; omega, S2, k1.t k2⟩, ?_⟩
  rintro left _ i w3 ⟨m, p, b, rfl, hm, rfl, hL, hLc, hLs, S3, K3⟩
  have hLl := hL.len
  have hdl : (bits.drop p).length = bits.length - p := List.length_drop ..
  refine br_dec (fun hlt => ?_) (fun hlt => ?_)
  · have hm' : m < cs.length := by omega
    have h00 : (0 : Int) ≤ (m : Int) := by omega
    rw [w64 (x := (m : Int) + 1) ⟨by omega, by omega⟩]
    obtain ⟨a, ha, _⟩ := h.at hm'
    have cell : ∀ {W : World}, Kp no w W → _ := fun {W} k => (h.kpo k).cells hm' ha
    refine br_dec (fun hb => ?_) (fun hb => ?_)
    · obtain rfl : b = 0 := by omega
      obtain ⟨c0, c1, c2⟩ := cell K3.drew
      refine ⟨h00, hlt, a, ha, _, _, _, c0, c1, c2, h00, hlt, a, ha, _, c2, usek (kind6 _ cs[m]) fun w4 k4 => ?_⟩
      have K4 : Kp no w3 w4 := ((Kp.refl no w3).drew).t k4
      obtain ⟨d0, d1, d2⟩ := cell (K3.t K4)
      refine ⟨_, rfl, d2, usei (rRead (hL.kp K4 (fun _ _ f => f)) (by omega) (kindN_le cs[m].kind) cs[m].n) ?_⟩
      have hle := rdF_le (bits.drop p) (kindN cs[m].kind) cs[m].n
      refine ⟨_, _, _, rfl, by omega, by omega, by omega, h00, hlt, a, ha, _, _, _, d0, d1, d2, use (read6 (S3.kpo K4) (by omega) cs[m]) ?_⟩
      rintro _ w5 ⟨k5, rfl, S5⟩
      have er : rdS bits p 0 (kindN cs[m].kind) cs[m].n = rdF (bits.drop p) (kindN cs[m].kind) cs[m].n := if_pos rfl
      rw [er] at S5 ⊢
      generalize rdF (bits.drop p) (kindN cs[m].kind) cs[m].n = res at *
      obtain ⟨V, mv, e⟩ := res
      dsimp only at *
      have K5 : Kp no w w5 := (K3.t K4).trans k5 (fun k h1 h2 => by omega)
      have hL5 := (hL.kp K4 (fun _ _ f => f)).kp k5 hLs
      have hnew := RdB.dropB hL5 hLc (m := mv) (by omega)
      rw [List.drop_drop] at hnew
      simp only [Int.toNat_natCast]
      refine ⟨_, rfl, br_not (yes rfl (usek (rLeft S5 (by omega)) fun w6 k6 => ⟨_, rfl, br_not (yes ?_ (usei (rErr (S5.kpo k6)) ⟨_, rfl, br_not (yes rfl ⟨⟨m + 1, p + mv, e, by omega, by omega, rfl, hnew.kp k6 (fun _ _ f => f), ?_, fun k hk => hLs k hk.drop, S5.kpo k6, K5.t k6⟩, by omega⟩)⟩))⟩))⟩
      · rw [List.length_drop]; omega
      · show left.len - mv ≤ left.cap - mv
        omega
    · obtain ⟨c0, c1, c2⟩ := cell K3
      refine ⟨h00, hlt, a, ha, _, _, _, c0, c1, c2, use (read6 S3 (by omega) cs[m]) ?_⟩
      rintro _ w5 ⟨k5, rfl, S5⟩
      have er : rdS bits p b (kindN cs[m].kind) cs[m].n = (0, 0, b) := if_neg (by omega)
      rw [er] at S5 ⊢
      have K5 : Kp no w w5 := K3.trans k5 (fun k h1 h2 => by omega)
      exact ⟨_, rfl, br_not (yes rfl (usek (rLeft S5 (by omega)) fun w6 k6 => ⟨_, rfl, br_not (yes (by rw [Nat.add_zero]; omega) (usei (rErr (S5.kpo k6)) ⟨_, rfl, br_not (yes rfl ⟨⟨m + 1, p, b, by omega, by omega, rfl, (hL.kp k5 hLs).kp k6 (fun _ _ f => f), hLc, hLs, S5.kpo k6, K5.t k6⟩, by dsimp only; omega⟩)⟩))⟩))⟩
  · have fin : ∀ {x : Int}, (((if b = 0 ∧ 0 < (bits.drop p).length then 3 else b : Nat) : Int) = x) → Calls Try.prog 29 #[.pointer (some ⟨s, 0, none⟩)] w3 (Rv fun v w62 => ∃ n63 : Int, v = .int .i64 n63 ∧ br (decide (n63 = x)) (Calls Try.prog 14 #[] w62 (Rv fun v64 w65 => ∃ b66 : Bool, v64 = .bool b66 ∧ ((fun v w' => v = Value.bool true ∧ Kp no w w') (.bool b66) w65))) ((fun v w' => v = Value.bool true ∧ Kp no w w') (.bool false) w62)) := fun hx =>
      usek (rEnd S3 (by omega)) fun w4 k4 => ⟨_, rfl, yes hx (usek (live6 _) fun w5 k5 => ⟨_, rfl, rfl, K3.t (k4.t k5)⟩)⟩
    refine br_dec (fun hb => br_dec (fun hL0 => fin ?_) (fun hL0 => fin ?_)) (fun hb => fin ?_)
    · rw [if_pos ⟨by omega, by omega⟩]; rfl
    · rw [if_neg (by omega)]
    · rw [if_neg (by omega)]

theorem streamBack (h : RdC w l cs) : IsK 6 #[.slice l.a l.len l.cap] w (.bool true) := by
  refine c6 _ _ _ ?_
  unfold B6
  have hl := h.len
  refine br_dec (fun _ => usek (live6 _) fun w1 k1 => ⟨_, rfl, rfl, k1⟩) (fun hsm => ?_)
  have hb0 := Blk.new w [.pointer none] 27
  have k0 : Kp no w (w.alloc (.cells #[.pointer none] 27)) := (Kp.refl _ _).alloc _ _
  have hs0 := hb0.lt
  generalize w.alloc (.cells #[.pointer none] 27) = wa at *
  refine ⟨fun i w' => ∃ (m : Nat) (F : Nat → Prop), i = m ∧ m ≤ cs.length ∧ Wst w' w.heap.size (codesB (cs.take m)) F ∧ Kp no w w' ∧ (∀ k, F k → w.heap.size ≤ k) ∧ (codesB (cs.take m)).length ≤ 5000 * m ∧ (∀ j (hj : j < cs.length), j < m → (wcF [] (kindN cs[j].kind) cs[j].v cs[j].n).1 = 0), fun i _ => (l.len - i).toNat,
    ⟨0, fun k => k = w.heap.size, rfl, by omega, .inl ⟨hb0, rfl, rfl, fun k hk => by omega⟩, k0, fun k hk => by omega, by simp [codesB], fun j _ hj => by omega⟩, ?_⟩
  rintro i w1 ⟨m, F, rfl, hm, hW, k1, hF, hbl, hok⟩
  refine br_dec (fun hlt => ?_) (fun hlt => ?_)
  · have hm' : m < cs.length := by omega
    have h00 : (0 : Int) ≤ (m : Int) := by omega
    have hv : cs[m].v < 18446744073709551616 := h.lt _ (List.getElem_mem hm')
    rw [w64 (x := (m : Int) + 1) ⟨by omega, by omega⟩]
    obtain ⟨a, ha, _⟩ := h.at hm'
    have cell : ∀ {W : World}, Kp no w W → _ := fun {W} k => (h.kpo k).cells hm' ha
    obtain ⟨c0, c1, c2⟩ := cell k1.drew
    refine ⟨h00, hlt, a, ha, _, _, _, c0, c1, c2, h00, hlt, a, ha, _, c1, h00, hlt, a, ha, _, c2, usek (kind6 _ cs[m]) fun w2 k2 => ?_⟩
    have K2 : Kp no w1 w2 := ((Kp.refl no w1).drew).t k2
    obtain ⟨d0, d1, d2⟩ := cell (k1.t K2)
    have hbb : RdB w2 ⟨none, 0, 0⟩ [] := ⟨rfl, Rd.nil _ _⟩
    have hWr := rWrite hbb (fun k hk => absurd hk On.nil) (by simp) (n := cs[m].n) (kindN_le cs[m].kind) hv
    refine ⟨_, rfl, d2, d1, use hWr ?_⟩
    rintro _ w3 ⟨o3, rfl, ho3, k3, f3⟩
    have K3 := K2.t k3
    refine ⟨o3, _, rfl, br_not (br_dec (fun h0 => ?_) (fun h0 => usek (live6 _) fun w4 k4 => ⟨_, rfl, rfl, k1.t (K3.t k4)⟩))⟩
    obtain ⟨d0, d1, d2⟩ := cell (k1.t K3)
    refine ⟨h00, hlt, a, ha, _, _, _, d0, d1, d2, use (write6 (hW.kp K3 (fun _ _ f => f)) (by omega) cs[m] hv) ?_⟩
    rintro _ w4 ⟨rfl, F4, hW4, g4⟩
    have K4 : Kp no w w4 := (k1.t K3).trans g4.1 (fun k h1 h2 => by have := hF k h2; omega)
    have hlen := wcF_len (codesB (cs.take m)) (kindN cs[m].kind) cs[m].v cs[m].n hv
    rw [wcF_app] at hW4 hlen
    dsimp only at hW4 hlen
    rw [← codesB_succ hm'] at hW4 hlen
    refine ⟨_, rfl, ⟨m + 1, F4, by omega, by omega, hW4, K4, fun k hk => ?_, by omega, fun j hj1 hj2 => ?_⟩, by dsimp only; omega⟩
    · rcases g4.2 k hk with q | q
      · exact hF k q
      · have := (k1.t K3).size; omega
    · by_cases e : j = m
      · subst e; exact h0
      · exact hok j hj1 (by omega)
  · obtain rfl : m = cs.length := by omega
    rw [List.take_length] at hW hbl
    generalize hbits : codesB cs = bits at hW hbl
    refine use (wRow hW (by omega)) ?_
    rintro _ w2 ⟨r2, l2, rfl, hr, k2, f2⟩
    refine ⟨_, rfl, usei (len1 hr) ⟨_, rfl, use (rOpen hr (by omega)) ?_⟩⟩
    rintro _ w3 ⟨s, r3, l3, rfl, S3, k3, f3, f3'⟩
    have hr3 := hr.kp k3 (fun _ _ f => f)
    refine ⟨_, rfl, use (add1 hr3 (by omega) 1 (by omega) 1) ?_⟩
    rintro _ w4 ⟨o4, rfl, _, k4, _⟩
    have ea : addS bits 1 1 = (0, bits ++ lowb 1 1) := addS_ok (n := 1) (by omega) (by omega) (by omega)
    rw [ea]
    have hz1 := k1.size
    have hz2 := k2.size
    have hz3 := k3.size
    have hFl : ∀ k, F k → k < w1.heap.size := fun k hf => by
      rcases hW with ⟨_, _, _, g⟩ | ⟨_, _, g⟩
      · exact g k hf
      · exact g.lt k hf
    have K4 : Kp no w w4 := (k1.t (k2.t k3)).trans k4 (fun k h1 h2 => by have := f2 k h2; omega)
    have W4 := (hW.kp (k2.t k3) (fun _ _ f => f)).kp k4 (fun k hf h2 => by have := f2 k h2; have := hFl k hf; omega)
    have S4 := S3.kp k4 (fun h2 => by have := hr.lt h2; omega) (fun k hk h2 => by have := f3' k hk; have := hr.lt h2; omega)
    refine ⟨_, rfl, br_not (yes rfl (use (wRow W4 (by omega)) ?_))⟩
    rintro _ w5 ⟨r5, l5, rfl, hr5, k5, f5⟩
    refine ⟨_, rfl, usei (len1 hr5) ⟨_, rfl, br_not (yes rfl ?_)⟩⟩
    refine ⟨fun i w' => ∃ m : Nat, i = m ∧ m ≤ cs.length ∧ Rst w' s r3 l3 bits (codesB (cs.take m)).length 0 ∧ Kp no w w', fun i _ => (l.len - i).toNat, ⟨0, rfl, by omega, S4.kpo k5, K4.t k5⟩, ?_⟩
    rintro i w6 ⟨m, rfl, hm, S6, K6⟩
    refine br_dec (fun hlt => ?_) (fun hlt => ?_)
    · have hm' : m < cs.length := by omega
      have h00 : (0 : Int) ≤ (m : Int) := by omega
      have hv : cs[m].v < 18446744073709551616 := h.lt _ (List.getElem_mem hm')
      rw [w64 (x := (m : Int) + 1) ⟨by omega, by omega⟩]
      obtain ⟨a, ha, _⟩ := h.at hm'
      obtain ⟨d0, d1, d2⟩ := (h.kpo K6).cells hm' ha
      have hdrop := codesB_drop hm'
      rw [hbits] at hdrop
      have er : rdS bits (codesB (cs.take m)).length 0 (kindN cs[m].kind) cs[m].n = (wantF (kindN cs[m].kind) cs[m].v cs[m].n, (cdB (kindN cs[m].kind) cs[m].v cs[m].n).length, 0) := by
        unfold rdS; rw [if_pos rfl, hdrop]; exact rd_wr hv (hok m hm' (by omega)) _
      have rest : ∀ {W : World}, Rdd w6 s r3 l3 bits (codesB (cs.take m)).length (rdS bits (codesB (cs.take m)).length 0 (kindN cs[m].kind) cs[m].n) (.int .u64 (wantF (kindN cs[m].kind) cs[m].v cs[m].n)) .u64 W → Rst W s r3 l3 bits (codesB (cs.take (m + 1))).length 0 ∧ Kp no w W := fun {W} hd => by
        obtain ⟨g1, _, g3⟩ := hd
        rw [er] at g3
        refine ⟨?_, K6.trans g1 (fun k h1 h2 => by omega)⟩
        rw [codesB_succ hm', List.length_append]
        exact g3
      have hread := read6 S6 (by omega) cs[m]
      have hval : ∀ {v : Value} {W : World}, Rdd w6 s r3 l3 bits (codesB (cs.take m)).length (rdS bits (codesB (cs.take m)).length 0 (kindN cs[m].kind) cs[m].n) v .u64 W → v = .int .u64 (wantF (kindN cs[m].kind) cs[m].v cs[m].n : Nat) := fun hd => by
        have := hd.2.1
        rw [er] at this
        exact this
      refine ⟨h00, hlt, a, ha, _, d1, h00, hlt, a, ha, _, d0, br_dec (fun hk1 => ?_) (fun hk1 => ?_)⟩
      · refine ⟨h00, hlt, a, ha, _, d2, h00, hlt, a, ha, _, _, _, d0, d1, d2, use hread fun v w7 hd => ?_⟩
        have hv' := hval hd
        subst hv'
        obtain ⟨S7, K7⟩ := rest hd
        have hkn : kindN cs[m].kind = 1 := kindN_one.2 hk1
        refine ⟨_, rfl, br_not (yes ?_ ⟨⟨m + 1, by omega, by omega, S7, K7⟩, by dsimp only; omega⟩)⟩
        have h1 := hok m hm' (by omega)
        rw [hkn] at h1 ⊢
        show ((cs[m].n.toNat : Nat) : Int) = _
        have hn : ¬ (cs[m].n < 0 ∨ 4096 < cs[m].n) := fun hh => by
          simp only [wcF] at h1; rw [if_pos hh] at h1; simp at h1
        rw [wu64 ⟨by omega, by omega⟩]
        omega
      · refine ⟨h00, hlt, a, ha, _, _, _, d0, d1, d2, use hread fun v w7 hd => ?_⟩
        have hv' := hval hd
        subst hv'
        obtain ⟨S7, K7⟩ := rest hd
        refine ⟨_, rfl, br_not (yes ?_ ⟨⟨m + 1, by omega, by omega, S7, K7⟩, by dsimp only; omega⟩)⟩
        rw [wantF_ne (fun hh => hk1 (kindN_one.1 hh))]
    · obtain rfl : m = cs.length := by omega
      rw [List.take_length, hbits] at S6
      have hd0 : (bits.drop bits.length).length = 0 := by rw [List.length_drop]; omega
      refine usek (rEnd S6 (by omega)) fun w7 k7 => ⟨_, rfl, yes (by rw [if_neg (by omega)]; rfl) (usek (rLeft (S6.kpo k7) (by omega)) fun w8 k8 => ⟨_, rfl, yes (by rw [hd0]; rfl) (usek (live6 _) fun w9 k9 => ⟨_, rfl, rfl, K6.t (k7.t (k8.t k9))⟩)⟩)⟩
end Go.Proofs.Ytbgbmliladhpeaa.V
