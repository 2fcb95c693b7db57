/- The laws of the chapter on directories of ranks. -/
import Derived.Test.YtilccklocaeebaaDq
namespace Go.VC
open Go
theorem Kp.t {a b c : World} (h : Kp no a b) (g : Kp no b c) : Kp no a c := h.trans g (fun _ _ f => f)
end Go.VC
namespace Go.Proofs.Ytilccklocaeebaa.V
open Go Go.VC
variable {w w' w0 : World} {l : Slc} {bits : List Bool} {ws : List Nat} {d r B t m n : Nat}

theorem rrow4 (h : RdW w l ws) (h1 : ws.length ≤ 6) (h2 : t ≤ 40) {x : Nat} (hx : x < 18446744073709551616) (h3 : n ≤ 64) :
    Calls Try.prog 49 #[.slice l.a l.len l.cap, .int .i64 t, .int .u64 x, .int .i64 n] w (Rv fun v w' => ∃ o : Slc, v = .slice o.a o.len o.cap ∧ Ownd w' o 4 1 ((cwBits ws t ++ lowb x n).map Value.bool) ∧ Kp no w w' ∧ ∀ k, On o k → w.heap.size ≤ k) := by
  refine c49 l t x n _ _ ?_
  unfold B49
  have hl := h.len
  have hcw : ∀ j, j ≤ 40 → (cwBits ws j).length ≤ 15360 := fun j hj => by
    rw [cwBits_len]
    have := Nat.mul_le_mul hj (Nat.mul_le_mul_left 64 h1)
    omega
  refine ⟨fun o k w' => Kp no w w' ∧ (∀ k, On o k → w.heap.size ≤ k) ∧ ∃ j : Nat, k = j ∧ j ≤ t ∧ Ownd w' o 4 1 ((cwBits ws j).map Value.bool), fun _ k _ => (t - k).toNat, ⟨Kp.refl _ _, fun k hk => absurd hk On.nil, 0, rfl, by omega, Ownd.nil _ _ _⟩, ?_⟩
  rintro o k w3 ⟨k3, f3, j, rfl, hj, hr⟩
  refine br_dec (fun hlt => ?_) (fun hlt => ?_)
  · refine ⟨fun o i w' => Kp no w w' ∧ (∀ k, On o k → w.heap.size ≤ k) ∧ ∃ p : Nat, i = p ∧ p ≤ ws.length ∧ Ownd w' o 4 1 ((cwBits ws j ++ (ws.take p).flatMap fun x => lowb x 64).map Value.bool), fun _ i _ => (l.len - i).toNat, ⟨k3, f3, 0, rfl, by omega, by simpa using hr⟩, ?_⟩
    rintro o i w4 ⟨k4, f4, p, rfl, hp, hr4⟩
    refine br_dec (fun hlt2 => ?_) (fun hlt2 => ?_)
    · have hrd := (h.kp k4 (fun _ _ f => f))
      obtain ⟨a, ha, hc⟩ := hrd.at (i := (p : Int)) (by omega) hlt2
      refine ⟨by omega, hlt2, a, ha, _, hc, ?_⟩
      rw [Int.toNat_natCast]
      have hx := wg_lt h.lt p
      have hq := hcw j (by omega)
      have hq2 : ((ws.take p).flatMap fun x => lowb x 64).length ≤ 384 := by rw [flat_len, List.length_take]; omega
      have hlo := hr4.rdB.len
      rw [List.length_append] at hlo
      refine use (add2 hr4.rdB (by omega) _ hx 64 (by omega)) ?_
      rintro _ w5 ⟨o5, rfl, hr5, k5, f5⟩
      refine ⟨_, rfl, ?_⟩
      rw [w64 ⟨by omega, by omega⟩]
      refine ⟨⟨k4.t k5, fun k hk => by have := f5 k hk; have := k4.size; omega, p + 1, by omega, by omega, ?_⟩, by dsimp only; omega⟩
      rw [flat_take (by omega), ← List.append_assoc]
      exact hr5
    · have hpe : p = ws.length := by omega
      subst hpe
      rw [w64 ⟨by omega, by omega⟩]
      refine ⟨⟨k4, f4, j + 1, by omega, by omega, ?_⟩, by dsimp only; omega⟩
      rw [cwBits_succ]
      rwa [List.take_length] at hr4
  · have hje : j = t := by omega
    subst hje
    have hq := hcw j h2
    have hlo := hr.rdB.len
    refine use (add2 hr.rdB (by omega) _ hx n h3) ?_
    rintro _ w5 ⟨o5, rfl, hr5, k5, f5⟩
    exact ⟨o5, rfl, o5, rfl, hr5, k3.t k5, fun k hk => by have := f5 k hk; have := k3.size; omega⟩

theorem bits4 (h : CaseR w l ws t m n) (h1 : ws.length ≤ 6) (h2 : t ≤ 40) (h3 : n ≤ 64) :
    Calls Try.prog 15 #[caseV l t m n] w (Rv fun v w' => ∃ o : Slc, v = .slice o.a o.len o.cap ∧ Ownd w' o 4 1 ((caseBits ws t m n).map Value.bool) ∧ Kp no w w' ∧ ∀ k, On o k → w.heap.size ≤ k) := by
  refine c15 l t m n _ _ ?_
  unfold B15
  have hb0 := (Blk.new w [.slice l.a l.len l.cap, .int .u8 (t : Int), .int .u64 (m : Int), .int .u8 (n : Int)] 25).drew
  have hk0 : Kp no w (World.drew (w.alloc (.cells #[.slice l.a l.len l.cap, .int .u8 (t : Int), .int .u64 (m : Int), .int .u8 (n : Int)] 25))) := ((Kp.refl _ _).alloc _ _).drew
  have h4 := h.kp hk0
  generalize World.drew (w.alloc (.cells #[.slice l.a l.len l.cap, .int .u8 (t : Int), .int .u64 (m : Int), .int .u8 (n : Int)] 25)) = w1 at *
  refine ⟨l, hb0.cell 0, _, hb0.cell 1, _, hb0.cell 2, _, hb0.cell 3, _, hb0.cell 3, ?_⟩
  rw [w64 (x := (n : Int)) ⟨by omega, by omega⟩, w64 (x := (t : Int)) ⟨by omega, by omega⟩]
  refine usei (rcut _ m h.hm 0 n ⟨by omega, by omega⟩) ⟨_, rfl, hb0.cell 3, hb0.cell 1, hb0.cell 0, ?_⟩
  rw [cutW_zero m n h3]
  refine use (rrow4 h4.rd h1 h2 (Nat.lt_of_le_of_lt (Nat.mod_le _ _) h.hm) h3) ?_
  rintro _ w2 ⟨o, rfl, ho, k2, f2⟩
  rw [lowb_mod] at ho
  exact ⟨o, rfl, o, rfl, ho, hk0.t k2, fun k hk => by have := f2 k hk; have := hk0.size; omega⟩

theorem blk2 (w : World) (cs : List Value) (T : TypeId) : Rd (w.alloc (.cells cs.toArray T)) ⟨some ⟨w.heap.size, 0, none⟩, cs.length, cs.length⟩ cs := fun i hi => ⟨_, rfl, by rw [(Blk.new w cs T).cell]⟩

theorem caseR0 (w : World) (m n : Nat) (hm : m < 18446744073709551616) (hn : n ≤ 255) : CaseR w ⟨none, 0, 0⟩ [] 0 m n := ⟨⟨rfl, Rd.nil _ _, by simp⟩, by omega, hm, hn⟩

theorem live4 (w : World) : IsK 12 #[] w (.bool true) := by
  refine c12 _ _ ?_
  unfold B12
  have hbits : caseBits [] 0 13 5 = [true, false, true, true, false] := by decide +kernel
  have h14 := row4 (caseR0 w 13 5 (by omega) (by omega)) (by simp) (by omega) (by omega)
  rw [hbits] at h14
  refine use h14 ?_
  rintro _ w1 ⟨r, rfl, hr, k1⟩
  refine ⟨_, rfl, use (rNewB hr (by simp)) ?_⟩
  rintro _ w2 ⟨d, rfl, hd, k2⟩
  have e3 : cnt (bg [true, false, true, true, false]) (clampL [true, false, true, true, false] 3) = 2 := by decide +kernel
  have e9 : cnt (bg [true, false, true, true, false]) (clampL [true, false, true, true, false] 9) = 3 := by decide +kernel
  have e33 : clampL [true, false, true, true, false] 3 = 3 := by decide +kernel
  refine ⟨_, rfl, usek (rankB hd (by simp) 3) fun w3 k3 => ⟨_, rfl, ?_⟩⟩
  rw [e3]
  refine br_dec (fun _ => usek (zerosB (hd.kpo k3) (by simp) 3) fun w4 k4 => ⟨_, rfl, ?_⟩) (fun h => absurd rfl h)
  rw [e3, e33]
  refine br_dec (fun _ => usek (rankB (hd.kpo (k3.t k4)) (by simp) 9) fun w5 k5 => ⟨_, rfl, ?_⟩) (fun h => absurd rfl h)
  rw [e9]
  refine br_dec (fun _ => use (marksB (hd.kpo ((k3.t k4).t k5)) (by simp)) ?_) (fun h => absurd rfl h)
  rintro _ w6 ⟨o, rfl, ho, k6, f6⟩
  have hm : marksOf [true, false, true, true, false] = [0, 3] := by decide +kernel
  rw [hm] at ho
  have ka : Kp no w6 (w6.alloc (.cells #[.int .i64 0, .int .i64 3] 3)) := (Kp.refl _ _).alloc _ _
  have hi : RdI (w6.alloc (.cells #[.int .i64 0, .int .i64 3] 3)) ⟨some ⟨w6.heap.size, 0, none⟩, 2, 2⟩ [0, 3] := ⟨rfl, blk2 w6 [IV 0, IV 3] 3⟩
  have hol : o.len ≤ 1099511627776 := by have := ho.len; simp at this; omega
  have h22 := ints4 (ho.rdI.kp ka (fun _ _ f => f)) hi hol
  rw [decide_eq_true rfl] at h22
  refine ⟨o, rfl, usek h22 fun w7 k7 => ⟨_, rfl, rfl, ?_⟩⟩
  exact (k1.t k2).t (((k3.t k4).t k5).t ((k6.t ka).t k7))

theorem dirRanks (h : CaseR w l ws t m n) (i : Int) : IsK 3 #[caseV l t m n, .int .i64 i] w (.bool true) := by
  refine c3 l t m n i _ _ ?_
  unfold B3
  have hb0 := Blk.new w [.slice l.a l.len l.cap, .int .u8 (t : Int), .int .u64 (m : Int), .int .u8 (n : Int)] 25
  have hk0 : Kp no w (w.alloc (.cells #[.slice l.a l.len l.cap, .int .u8 (t : Int), .int .u64 (m : Int), .int .u8 (n : Int)] 25)) := (Kp.refl _ _).alloc _ _
  have h1 := h.kp hk0
  generalize w.alloc (.cells #[.slice l.a l.len l.cap, .int .u8 (t : Int), .int .u64 (m : Int), .int .u8 (n : Int)] 25) = w1 at *
  refine ⟨l, _, _, _, hb0.cell 0, hb0.cell 1, hb0.cell 2, hb0.cell 3, usek (small4 h1) fun w2 k2 => ⟨_, rfl, br_not (br_dec (fun hs => ?_) (fun hs => ?_))⟩⟩
  · have b2 := hb0.kp k2 id
    refine ⟨l, _, _, _, b2.cell 0, b2.cell 1, b2.cell 2, b2.cell 3, use (row4 (h1.kp k2) hs.1 hs.2.1 hs.2.2) ?_⟩
    rintro _ w3 ⟨r, rfl, hr, k3⟩
    have hbl := caseBits_le (m := m) hs.1 hs.2.1 hs.2.2
    refine ⟨_, rfl, use (rNewB hr (by omega)) ?_⟩
    rintro _ w4 ⟨d, rfl, hd, k4⟩
    have k24 := (k2.t k3).t k4
    have b4 := hb0.kp k24 id
    refine ⟨_, rfl, l, _, _, _, b4.cell 0, b4.cell 1, b4.cell 2, b4.cell 3, use (bits4 (h1.kp k24) hs.1 hs.2.1 hs.2.2) ?_⟩
    rintro _ w5 ⟨o, rfl, ho, k5, f5⟩
    have hol := ho.rdB.len
    generalize caseBits ws t m n = bits at *
    refine ⟨o, rfl, usei (lenB (hd.kpo k5)) ⟨_, rfl, br_dec (fun _ => ?_) (fun hh => absurd (by rw [hol]) hh)⟩⟩
    refine usek (rankB (hd.kpo k5) (by omega) i) fun w6 k6 => ⟨_, rfl, usei (rank4 (ho.rdB.kp k6 (fun _ _ f => f)) (by omega) i) ⟨_, rfl, br_dec (fun _ => ?_) (fun hh => absurd rfl hh)⟩⟩
    refine usek (zerosB (hd.kpo (k5.t k6)) (by omega) i) fun w7 k7 => ⟨_, rfl, usei (rank4 (ho.rdB.kp (k6.t k7) (fun _ _ f => f)) (by omega) i) ⟨_, rfl, br_dec (fun _ => ?_) (fun hh => absurd ?_ hh)⟩⟩
    · exact usek (live4 _) fun w8 k8 => ⟨_, rfl, rfl, hk0.t (k24.t ((k5.t k6).t (k7.t k8)))⟩
    · have hc := cnt_le (bg bits) (clampL bits i)
      have hcl : ((clampL bits i : Nat) : Int) = min (max i 0) (o.len : Int) := by unfold clampL; omega
      rw [← hcl, w64 ⟨by omega, by unfold clampL at *; omega⟩]
  · exact usek (live4 _) fun w3 k3 => ⟨_, rfl, rfl, hk0.t (k2.t k3)⟩

theorem dirSteps (h : CaseR w l ws t m n) : IsK 5 #[caseV l t m n] w (.bool true) := by
  refine c5 l t m n _ _ ?_
  unfold B5
  have hb0 := Blk.new w [.slice l.a l.len l.cap, .int .u8 (t : Int), .int .u64 (m : Int), .int .u8 (n : Int)] 25
  have hk0 : Kp no w (w.alloc (.cells #[.slice l.a l.len l.cap, .int .u8 (t : Int), .int .u64 (m : Int), .int .u8 (n : Int)] 25)) := (Kp.refl _ _).alloc _ _
  have h1 := h.kp hk0
  generalize w.alloc (.cells #[.slice l.a l.len l.cap, .int .u8 (t : Int), .int .u64 (m : Int), .int .u8 (n : Int)] 25) = w1 at *
  refine ⟨l, _, _, _, hb0.cell 0, hb0.cell 1, hb0.cell 2, hb0.cell 3, usek (small4 h1) fun w2 k2 => ⟨_, rfl, br_not (br_dec (fun hs => ?_) (fun hs => ?_))⟩⟩
  · have b2 := hb0.kp k2 id
    refine ⟨_, b2.cell 1, br_dec (fun _ => usek (live4 _) fun w3 k3 => ⟨_, rfl, rfl, hk0.t (k2.t k3)⟩) (fun _ => ?_)⟩
    refine ⟨l, _, _, _, b2.cell 0, b2.cell 1, b2.cell 2, b2.cell 3, use (row4 (h1.kp k2) hs.1 hs.2.1 hs.2.2) ?_⟩
    rintro _ w3 ⟨r, rfl, hr, k3⟩
    have hbl := caseBits_le (m := m) hs.1 hs.2.1 hs.2.2
    refine ⟨_, rfl, use (rNewB hr (by omega)) ?_⟩
    rintro _ w4 ⟨d, rfl, hd, k4⟩
    have k24 := (k2.t k3).t k4
    have b4 := hb0.kp k24 id
    refine ⟨_, rfl, l, _, _, _, b4.cell 0, b4.cell 1, b4.cell 2, b4.cell 3, use (bits4 (h1.kp k24) hs.1 hs.2.1 hs.2.2) ?_⟩
    rintro _ w5 ⟨o, rfl, ho, k5, f5⟩
    have hol := ho.rdB.len
    generalize caseBits ws t m n = bits at *
    have hd5 := hd.kpo k5
    refine ⟨o, rfl, fun i w' => Kp no w5 w' ∧ ∃ j : Nat, i = j ∧ j ≤ bits.length, fun i _ => (o.len - i).toNat, ⟨Kp.refl _ _, 0, rfl, by omega⟩, ?_⟩
    rintro i w6 ⟨k6, j, rfl, hj⟩
    refine br_dec (fun hlt => ?_) (fun hlt => ?_)
    · rw [w64 (x := (j : Int) + 1) ⟨by omega, by omega⟩]
      have c1 : clampL bits ((j : Int) + 1) = j + 1 := by unfold clampL; omega
      have c0 : clampL bits (j : Int) = j := by unfold clampL; omega
      have hcn : cnt (bg bits) (j + 1) = cnt (bg bits) j + (if bg bits j then 1 else 0) := rfl
      have hcl := cnt_le (bg bits) j
      refine usek (rankB (hd5.kpo k6) (by omega) _) fun w7 k7 => ⟨_, rfl, usek (rankB (hd5.kpo (k6.t k7)) (by omega) _) fun w8 k8 => ⟨_, rfl, by omega, hlt, ?_⟩⟩
      have k68 := (k6.t k7).t k8
      obtain ⟨a, ha, hc⟩ := (ho.rdB.kp k68 (fun _ _ f => f)).at (i := (j : Int)) (by omega) hlt
      rw [Int.toNat_natCast] at hc
      refine ⟨a, ha, _, by rw [Int.toNat_natCast]; exact hc, br_not (br_of (fun _ => ⟨by omega, hlt, a, ha, _, by rw [Int.toNat_natCast]; exact hc, br_not (br_of (fun _ => ?_) (fun hh => absurd hh ?_))⟩) (fun hh => absurd hh ?_))⟩
      · refine usek (rankB (hd5.kpo k68) (by omega) _) fun w9 k9 => ⟨_, rfl, usek (zerosB (hd5.kpo (k68.t k9)) (by omega) _) fun wa ka => ⟨_, rfl, br_not (br_dec (fun _ => ?_) (fun hh => absurd ?_ hh))⟩⟩
        · exact ⟨⟨(k68.t k9).t ka, j + 1, by omega, by omega⟩, by dsimp only; omega⟩
        · rw [c0, w64 ⟨by omega, by omega⟩]; omega
      · rw [c1, c0, hcn, w64 ⟨by split <;> omega, by split <;> omega⟩]
        cases hbj : bg bits j
        · simp
        · simp; omega
      · rw [c1, c0, hcn, w64 ⟨by split <;> omega, by split <;> omega⟩]
        cases hbj : bg bits j
        · simp
        · simp; omega
    · refine usei (lenB (hd5.kpo k6)) ⟨_, rfl, br_dec (fun _ => ?_) (fun hh => absurd (by rw [hol]) hh)⟩
      exact usek (live4 _) fun w8 k8 => ⟨_, rfl, rfl, hk0.t (k24.t ((k5.t k6).t k8))⟩
  · exact usek (live4 _) fun w3 k3 => ⟨_, rfl, rfl, hk0.t (k2.t k3)⟩
end Go.Proofs.Ytilccklocaeebaa.V
