/- Each number has one encoding; the reader that is nil. -/
import Derived.Test.YtlobkadfmgnlmaaWb
import Derived.Test.YtlobkadfmgnlmaaOp5
namespace Go.Proofs.Ytlobkadfmgnlmaa.V
open Go Go.VC
variable {w w' w0 : World} {r x b : Nat} {l o : Slc} {rest s bs : List UInt8} {bad : Nat}

theorem nStep (w : World) (fv : Value) : Is 69 #[.pointer none, fv] w (.bool false) := c69n _ _ _ ⟨rfl, rfl⟩
theorem nLeft (w : World) : Is 36 #[.pointer none] w (.int .i64 0) := c36n _ _ ⟨rfl, rfl⟩
theorem nErr (w : World) : Is 37 #[.pointer none] w (.int .i64 11) := c37n _ _ ⟨rfl, rfl⟩
theorem nEnd (w : World) : Is 39 #[.pointer none] w (.int .i64 11) := by
  refine c39n _ _ ?_
  unfold B39n
  exact usei (nErr w) ⟨_, rfl, br_dec (fun h => absurd h (by omega)) (fun _ => usei (nErr w) ⟨_, rfl, rfl, rfl⟩)⟩
theorem nNum (w : World) : IsK 32 #[.pointer none] w (.int .u64 0) := by
  refine c32n _ _ ?_
  unfold B32n
  exact usei (nStep _ _) ⟨_, rfl, rfl, (Kp.refl _ _).alloc _ _⟩
theorem nInt (w : World) : IsK 33 #[.pointer none] w (.int .i64 0) := by
  refine c33n _ _ ?_
  unfold B33n
  refine usek (nNum w) fun w2 k2 => ⟨_, rfl, by omega, ?_, k2⟩
  have := unzig_eq (v := 0) (by omega)
  exact congrArg _ this
theorem nText (w : World) (n : Int) : IsK 34 #[.pointer none, .int .i64 n] w (.string (bs8 [])) := by
  refine c34n _ _ _ ?_
  unfold B34n
  obtain ⟨p1, p2, k1, hc0, hc1, hsz⟩ := two_cells w (.int .i64 n) (.string ByteArray.empty) (.string (⟨#[]⟩ : ByteArray)) 3 9
  exact ⟨p1, p2, usei (nStep _ _) ⟨_, rfl, _, hc1.cell0 0, rfl, k1⟩⟩
theorem nRaw (w : World) (n : Int) : IsK 35 #[.pointer none, .int .i64 n] w (.string (bs8 [])) := by
  refine c35n _ _ _ ?_
  unfold B35n
  obtain ⟨p1, p2, k1, hc0, hc1, hsz⟩ := two_cells w (.int .i64 n) (.string ByteArray.empty) (.string (⟨#[]⟩ : ByteArray)) 3 9
  exact ⟨p1, p2, usei (nStep _ _) ⟨_, rfl, _, hc1.cell0 0, rfl, k1⟩⟩
theorem nUpto (w : World) (n : Int) : IsK 78 #[.pointer none, .int .i64 n] w (.int .i64 0) := by
  refine c78n _ _ _ ?_
  unfold B78n
  obtain ⟨p1, p2, k1, hc0, hc1, hsz⟩ := two_cells w (.int .i64 n) (.int .i64 0) (.int .i64 0) 3 3
  exact ⟨p1, p2, usei (nStep _ _) ⟨_, rfl, _, hc1.cell0 0, rfl, k1⟩⟩
theorem nFail (w : World) (e : Int) : IsK 80 #[.pointer none, .int .i64 e] w (.tuple #[]) := by
  refine c80n _ _ _ ?_
  unfold B80n
  exact usei (nStep _ _) ⟨_, rfl, rfl, (Kp.refl _ _).alloc _ _⟩

/-- The reader that is nil reads as one with an error. -/
theorem nread10 (hs : RfS w x [] 11) (p : Pt) (hn : -9223372036854775808 ≤ p.n ∧ p.n ≤ 9223372036854775807) :
    Calls Try.prog 38 #[.pointer none, .pointer (some ⟨x, 0, none⟩), .agg #[.int .i64 p.kind, .int .u64 p.v, .int .i64 p.n, .string (bs8 p.s)]] w (Rv fun v w' => v = .bool true ∧ Kp (fun k => k = x) w w') := by
  refine c38n _ _ _ _ _ _ _ ?_
  unfold B38n
  have hb1 : Blk (w.alloc (.cells #[.int .i64 p.kind, .int .u64 p.v, .int .i64 p.n, .string (bs8 p.s)] 38)) w.heap.size [.int .i64 p.kind, .int .u64 p.v, .int .i64 p.n, .string (bs8 p.s)] 38 := Blk.new _ _ _
  have k1 := (Kp.refl no w).alloc #[.int .i64 p.kind, .int .u64 p.v, .int .i64 p.n, .string (bs8 p.s)] 38
  have g1 := hs.kp k1 id
  generalize w.alloc (.cells #[.int .i64 p.kind, .int .u64 p.v, .int .i64 p.n, .string (bs8 p.s)] 38) = w1 at *
  have two : ∀ {w2 w3 : World}, Kp no w1 w2 → Kp (fun k => k = x) w2 w3 → Kp (fun k => k = x) w w3 := fun q1 q2 => ((k1.trans q1 (fun _ _ f => f)).mono (fun _ _ f => f.elim)).trans q2 (fun _ _ f => f)
  have en : numS [] 11 = (0, [], 11) := rfl
  have kd : Kp no w1 w1.drew := (Kp.refl _ _).drew
  refine ⟨_, hb1.cell 0, br_dec (fun e0 => ?_) (fun e0 => br_dec (fun e1 => ?_) (fun e1 => br_dec (fun e2 => ?_) (fun e2 => br_dec (fun e3 => ?_) (fun e3 => br_dec (fun e4 => ?_) (fun e4 => ?_)))))⟩
  · refine usek (nNum w1) fun w2 q2 => ⟨_, rfl, use (xNum (g1.kp q2 id)) ?_⟩
    rintro _ w3 ⟨rfl, g3, q3⟩
    rw [en]
    exact ⟨_, rfl, rfl, two q2 q3⟩
  · refine usek (nInt w1) fun w2 q2 => ⟨_, rfl, use (xInt (g1.kp q2 id)) ?_⟩
    rintro _ w3 ⟨rfl, g3, q3⟩
    rw [en]
    exact ⟨_, rfl, rfl, two q2 q3⟩
  · refine ⟨_, hb1.drew.cell 2, _, hb1.drew.cell 2, usek (nText _ _) fun w2 q2 => ⟨_, rfl, (hb1.drew.kp q2 id).cell 2, use (xText (g1.kp (kd.trans q2 (fun _ _ f => f)) id) p.n hn.2) ?_⟩⟩
    rintro _ w3 ⟨rfl, g3, q3⟩
    have et : textS [] 11 p.n = ([], [], 11) := rfl
    rw [et]
    exact ⟨_, rfl, by simp, two (kd.trans q2 (fun _ _ f => f)) q3⟩
  · refine ⟨_, hb1.drew.cell 2, _, hb1.drew.cell 2, usek (nRaw _ _) fun w2 q2 => ⟨_, rfl, (hb1.drew.kp q2 id).cell 2, use (xRaw (g1.kp (kd.trans q2 (fun _ _ f => f)) id) p.n hn.2) ?_⟩⟩
    rintro _ w3 ⟨rfl, g3, q3⟩
    have et : rawS [] 11 p.n = ([], [], 11) := rfl
    rw [et]
    exact ⟨_, rfl, by simp, two (kd.trans q2 (fun _ _ f => f)) q3⟩
  · refine ⟨_, hb1.drew.cell 2, _, hb1.drew.cell 2, usek (nUpto _ _) fun w2 q2 => ⟨_, rfl, (hb1.drew.kp q2 id).cell 2, use (xUpto (g1.kp (kd.trans q2 (fun _ _ f => f)) id) p.n hn.2) ?_⟩⟩
    rintro _ w3 ⟨rfl, g3, q3⟩
    have et : uptoS [] 11 p.n = (0, [], 11) := rfl
    rw [et]
    exact ⟨_, rfl, rfl, two (kd.trans q2 (fun _ _ f => f)) q3⟩
  · have keep : Value.bool true = .bool true ∧ Kp (fun k => k = x) w w1 := ⟨rfl, k1.mono (fun _ _ f => f.elim)⟩
    refine ⟨_, hb1.cell 2, br_dec (fun q1 => ⟨_, hb1.cell 2, br_dec (fun q2 => ⟨_, hb1.cell 2, ?_⟩) (fun q2 => keep)⟩) (fun q1 => keep)⟩
    refine usek (nFail w1 _) fun w2 k2 => ⟨rfl, _, (g1.kp k2 id).1.cell 1, br_dec (fun h => absurd h (by omega)) (fun _ => ⟨rfl, two k2 (Kp.refl _ _)⟩)⟩

theorem wireOnce (s : List UInt8) (p : Pt) (hn : -9223372036854775808 ≤ p.n ∧ p.n ≤ 9223372036854775807) : IsK 9 #[.string (bs8 s), .agg #[.int .i64 p.kind, .int .u64 p.v, .int .i64 p.n, .string (bs8 p.s)]] w (.bool true) := by
  refine c9 _ _ _ _ _ _ _ ?_
  unfold B9
  rw [bs8_size]
  have hb1 : Blk (w.alloc (.cells #[.int .i64 p.kind, .int .u64 p.v, .int .i64 p.n, .string (bs8 p.s)] 38)) w.heap.size [.int .i64 p.kind, .int .u64 p.v, .int .i64 p.n, .string (bs8 p.s)] 38 := Blk.new _ _ _
  have k1 := (Kp.refl no w).alloc #[.int .i64 p.kind, .int .u64 p.v, .int .i64 p.n, .string (bs8 p.s)] 38
  generalize w.alloc (.cells #[.int .i64 p.kind, .int .u64 p.v, .int .i64 p.n, .string (bs8 p.s)] 38) = w1 at *
  refine br_dec (fun _ => usek (live10 w1) fun w2 k2 => ⟨_, rfl, rfl, k1.trans k2 (fun _ _ f => f)⟩) (fun h6 => ?_)
  have kx : Kp no w1 (w1.alloc (.cells #[.string ByteArray.empty, .int .i64 11] 50)) := (Kp.refl _ _).alloc _ _
  have gx : RfS (w1.alloc (.cells #[.string ByteArray.empty, .int .i64 11] 50)) w1.heap.size [] 11 := ⟨Blk.new _ _ _, by simp⟩
  have hb2 := hb1.kp kx id
  generalize w1.alloc (.cells #[.string ByteArray.empty, .int .i64 11] 50) = w2 at *
  have hk1 := k1.size
  refine ⟨_, _, _, _, hb2.cell 0, hb2.cell 1, hb2.cell 2, hb2.cell 3, use (nread10 gx p hn) ?_⟩
  rintro _ w3 ⟨rfl, k3⟩
  have kk : Kp no w w3 := (k1.trans kx (fun _ _ f => f)).trans k3 (fun k hk e => by omega)
  refine ⟨_, rfl, ?_⟩
  show Calls _ _ _ _ _
  refine usei (nLeft w3) ⟨_, rfl, br_not (br_dec (fun _ => ?_) (fun h => absurd rfl h))⟩
  refine usei (nErr w3) ⟨_, rfl, br_not (br_dec (fun _ => ?_) (fun h => absurd rfl h))⟩
  refine usei (nEnd w3) ⟨_, rfl, br_not (br_dec (fun _ => ?_) (fun h => absurd rfl h))⟩
  refine use (openR w3 s (by omega)) ?_
  rintro _ w4 ⟨rfl, h4, k4⟩
  refine ⟨_, rfl, use (qNum h4) ?_⟩
  rintro _ w5 ⟨rfl, h5, k5⟩
  have hw3 := kk.size
  have k35 : Kp no w3 w5 := k4.trans k5 (fun k hk e => by omega)
  have kk5 := kk.trans k35 (fun _ _ f => f)
  have hfit := dec_fit s
  have e1 : (numS s 0).1 = (dec s).1 := by simp [numS]
  have e2 : (numS s 0).2.1 = s.drop (dec s).2.1 := by simp [numS]
  have e3 : (numS s 0).2.2 = (dec s).2.2 := by simp [numS]
  rw [e1]
  rw [e2, e3] at h5
  refine ⟨_, rfl, usei (qErr h5) ⟨_, rfl, br_not (br_dec (fun he => ?_) (fun he => ?_))⟩⟩
  · obtain ⟨hen, hnl⟩ := enc_dec (s := s) (v := (dec s).1) (n := (dec s).2.1) (by
      have : (dec s).2.2 = 0 := by omega
      rw [← this])
    refine use (wNum (Ws.start w5) (by simp) (dec s).1 hfit.1) ?_
    rintro _ w6 ⟨rfl, o6, h6⟩
    rw [List.nil_append, hen] at h6
    refine ⟨rfl, usei (wBytes h6) ⟨_, rfl, ?_⟩⟩
    have h56 := h5.kp h6.out id
    refine usek (qLeft h56) fun w7 k7 => ⟨_, rfl, ?_⟩
    have hln : (s.take (dec s).2.1).length = (dec s).2.1 := by simp; omega
    rw [bs8_size, hln, List.length_drop, w64 ⟨by omega, by omega⟩]
    refine br_dec (fun _ => ⟨by omega, by omega, by omega, ?_⟩) (fun h => absurd (by omega) h)
    have hmin : Int.toNat (min ((dec s).2.1 : Int) (s.length : Int)) = (dec s).2.1 := by omega
    rw [hmin, show Int.toNat (0 : Int) = 0 from rfl, take_extract, str_beq, decide_eq_true rfl]
    show Calls _ _ _ _ _
    exact usek (live10 w7) fun w8 k8 => ⟨_, rfl, rfl, ((kk5.trans h6.out (fun _ _ f => f)).trans k7 (fun _ _ f => f)).trans k8 (fun _ _ f => f)⟩
  · have hz := hfit.2.2.2.2 (by omega)
    rw [hz.1]
    refine br_dec (fun _ => ?_) (fun h => absurd rfl h)
    refine usek (qLeft h5) fun w6 k6 => ⟨_, rfl, br_dec (fun _ => ?_) (fun h => absurd (by rw [hz.2, List.drop_zero]) h)⟩
    exact usek (live10 w6) fun w7 k7 => ⟨_, rfl, rfl, (kk5.trans k6 (fun _ _ f => f)).trans k7 (fun _ _ f => f)⟩
end Go.Proofs.Ytlobkadfmgnlmaa.V
