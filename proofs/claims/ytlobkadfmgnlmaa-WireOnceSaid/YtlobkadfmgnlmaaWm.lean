/- The plain reader's texts, raw bytes and bounded numbers; both readers side by side; the laws of reading. -/
import Derived.Test.YtlobkadfmgnlmaaWl
namespace Go.Proofs.Ytlobkadfmgnlmaa.V
open Go Go.VC
variable {w w' w0 : World} {r x b : Nat} {l o : Slc} {rest s bs : List UInt8} {bad : Nat}

/-- What an operation of the plain reader leaves. -/
abbrev AfterX (w : World) (x : Nat) (rest : List UInt8) (bad : Nat) (w' : World) : Prop := RfS w' x rest bad ∧ Kp (fun k => k = x) w w'
theorem xBad (h : RfS w x rest bad) (e : Nat) : AfterX w x rest e (w.setCell (Addr.add ⟨x, 0, none⟩ 1) (.int .i64 (e : Int))) :=
  ⟨⟨h.1.set 1 _, h.2⟩, (Kp.refl _ _).set _ _ (fun _ => by rw [add_block])⟩
theorem xTake (h : RfS w x rest bad) {s2 : ByteArray} {rest2 : List UInt8} (hs : s2 = bs8 rest2) (hl : rest2.length ≤ 1099511627776) : AfterX w x rest2 bad (w.setCell (Addr.add ⟨x, 0, none⟩ 0) (.string s2)) := by
  subst hs
  exact ⟨⟨h.1.set 0 _, hl⟩, (Kp.refl _ _).set _ _ (fun _ => by rw [add_block])⟩

theorem xText (h : RfS w x rest bad) (most : Int) (hm : most ≤ 9223372036854775807) :
    Calls Try.prog 76 #[.pointer (some ⟨x, 0, none⟩), .int .i64 most] w (Rv fun v w' => v = .string (bs8 (textS rest bad most).1) ∧ AfterX w x (textS rest bad most).2.1 (textS rest bad most).2.2 w') := by
  refine c76 _ _ _ _ ?_
  unfold B76
  refine ⟨_, h.1.cell 1, br_not (br_dec (fun hb => ⟨_, h.1.cell 0, usei (first w rest) ⟨_, _, _, rfl, ?_⟩⟩) (fun hb => ?_))⟩
  · have hbad : bad = 0 := by omega
    subst hbad
    have hfit := dec_fit rest
    have hl := h.2
    have setBad : ∀ (e : Nat), textS rest 0 most = ([], rest, e) → (Value.string (⟨#[]⟩ : ByteArray)) = .string (bs8 (textS rest 0 most).1) ∧ AfterX w x (textS rest 0 most).2.1 (textS rest 0 most).2.2 (w.setCell (Addr.add ⟨x, 0, none⟩ 1) (.int .i64 (e : Int))) := fun e ht => by
      rw [ht]; exact ⟨rfl, xBad h e⟩
    refine br_dec (fun he => br_dec (fun h2 => ?_) (fun h2 => br_dec (fun h4 => ?_) (fun h4 => br_dec (fun _ => ?_) (fun h => absurd he h)))) (fun he => br_dec (fun h => absurd h he) (fun _ => ?_))
    · exact ⟨⟨_, h.1.cell 1⟩, h.1.frozen 1, setBad 5 (by unfold textS; rw [if_neg (by simp), if_neg (by omega), if_pos (.inl h2)])⟩
    · rw [wu64 ⟨by omega, by omega⟩] at h4
      exact ⟨⟨_, h.1.cell 1⟩, h.1.frozen 1, setBad 5 (by unfold textS; rw [if_neg (by simp), if_neg (by omega), if_pos (.inr h4)])⟩
    · rw [wu64 ⟨by omega, by omega⟩] at h4
      refine ⟨_, h.1.cell 0, ?_⟩
      rw [bs8_size, w64 (x := (rest.length : Int) - ((dec rest).2.1 : Nat)) ⟨by omega, by omega⟩, wu64 ⟨by omega, by omega⟩]
      refine br_dec (fun h5 => ?_) (fun h5 => ?_)
      · exact ⟨⟨_, h.1.cell 1⟩, h.1.frozen 1, setBad 2 (by unfold textS; rw [if_neg (by simp), if_neg (by omega), if_neg (by omega), if_pos (by omega)])⟩
      · have ht : textS rest 0 most = ((rest.drop (dec rest).2.1).take (dec rest).1, rest.drop ((dec rest).2.1 + (dec rest).1), 0) := by unfold textS; rw [if_neg (by simp), if_neg (by omega), if_neg (by omega), if_neg (by omega)]
        rw [ht]
        have he0 : (dec rest).2.2 = 0 := by omega
        rw [he0]
        have hx := xBad h 0
        refine ⟨⟨_, h.1.cell 1⟩, h.1.frozen 1, ?_⟩
        generalize w.setCell (Addr.add ⟨x, 0, none⟩ 1) (.int .i64 ((0 : Nat) : Int)) = w2 at *
        rw [w64 (x := ((dec rest).1 : Nat)) ⟨by omega, by omega⟩, w64 ⟨by omega, by omega⟩]
        refine br_not (br_dec (fun _ => ?_) (fun h => absurd rfl h))
        have hb0 := hx.1.1
        refine ⟨_, hb0.cell 0, by omega, by omega, by rw [bs8_size]; omega, _, hb0.cell 0, by omega, by rw [bs8_size]; omega, by omega, ⟨_, hb0.cell 0⟩, hb0.frozen 0, ?_, ?_⟩
        · rw [bs8_extract, Int.toNat_natCast, show (((dec rest).2.1 : Int) + ((dec rest).1 : Int)).toNat - (dec rest).2.1 = (dec rest).1 by omega]
        · have hq := xTake hx.1 (s2 := (bs8 rest).extract (Int.toNat (((dec rest).2.1 : Int) + ((dec rest).1 : Int))) (Int.toNat ((bs8 rest).size : Int))) (rest2 := rest.drop ((dec rest).2.1 + (dec rest).1)) (by
            rw [Int.toNat_natCast, drop_extract, show (((dec rest).2.1 : Int) + ((dec rest).1 : Int)).toNat = (dec rest).2.1 + (dec rest).1 by omega]) (by rw [List.length_drop]; omega)
          exact ⟨hq.1, hx.2.trans hq.2 (fun _ _ f => f)⟩
    · refine ⟨⟨_, h.1.cell 1⟩, h.1.frozen 1, br_not (br_dec (fun h => absurd h he) (fun _ => setBad _ (by unfold textS; rw [if_neg (by simp), if_pos (by omega)])))⟩
  · have hbad : bad ≠ 0 := by omega
    have ht : textS rest bad most = ([], rest, bad) := by unfold textS; rw [if_pos hbad]
    rw [ht]
    exact ⟨rfl, h, Kp.refl _ _⟩

theorem xRaw (h : RfS w x rest bad) (n : Int) (hn : n ≤ 9223372036854775807) :
    Calls Try.prog 77 #[.pointer (some ⟨x, 0, none⟩), .int .i64 n] w (Rv fun v w' => v = .string (bs8 (rawS rest bad n).1) ∧ AfterX w x (rawS rest bad n).2.1 (rawS rest bad n).2.2 w') := by
  refine c77 _ _ _ _ ?_
  unfold B77
  refine ⟨_, h.1.cell 1, br_not (br_dec (fun hb => br_dec (fun h2 => ?_) (fun h2 => ⟨_, h.1.cell 0, br_dec (fun h4 => ?_) (fun h4 => ?_)⟩)) (fun hb => ?_))⟩
  · have hbad : bad = 0 := by omega
    subst hbad
    have ht : rawS rest 0 n = ([], rest, 1) := by unfold rawS; rw [if_neg (by simp), if_pos h2]
    rw [ht]
    exact ⟨⟨_, h.1.cell 1⟩, h.1.frozen 1, rfl, xBad h 1⟩
  · have hbad : bad = 0 := by omega
    subst hbad
    rw [bs8_size] at h4
    have ht : rawS rest 0 n = ([], rest, 2) := by unfold rawS; rw [if_neg (by simp), if_neg h2, if_pos h4]
    rw [ht]
    exact ⟨⟨_, h.1.cell 1⟩, h.1.frozen 1, rfl, xBad h 2⟩
  · have hbad : bad = 0 := by omega
    subst hbad
    have hl := h.2
    rw [bs8_size] at h4
    have ht : rawS rest 0 n = (rest.take n.toNat, rest.drop n.toNat, 0) := by unfold rawS; rw [if_neg (by simp), if_neg h2, if_neg h4]
    rw [ht]
    refine ⟨_, h.1.cell 0, by omega, by omega, by rw [bs8_size]; omega, _, h.1.cell 0, by omega, by rw [bs8_size]; omega, by omega, ⟨_, h.1.cell 0⟩, h.1.frozen 0, ?_, ?_⟩
    · rw [show Int.toNat (0 : Int) = 0 from rfl, take_extract]
    · exact xTake h (by rw [Int.toNat_natCast, drop_extract]) (by rw [List.length_drop]; omega)
  · have hbad : bad ≠ 0 := by omega
    have ht : rawS rest bad n = ([], rest, bad) := by unfold rawS; rw [if_pos hbad]
    rw [ht]
    exact ⟨rfl, h, Kp.refl _ _⟩

theorem xUpto (h : RfS w x rest bad) (most : Int) (hm : most ≤ 9223372036854775807) :
    Calls Try.prog 79 #[.pointer (some ⟨x, 0, none⟩), .int .i64 most] w (Rv fun v w' => v = .int .i64 (uptoS rest bad most).1 ∧ AfterX w x (uptoS rest bad most).2.1 (uptoS rest bad most).2.2 w') := by
  refine c79 _ _ _ _ ?_
  unfold B79
  refine ⟨_, h.1.cell 1, br_not (br_dec (fun hb => ⟨_, h.1.cell 0, usei (first w rest) ⟨_, _, _, rfl, ?_⟩⟩) (fun hb => ?_))⟩
  · have hbad : bad = 0 := by omega
    subst hbad
    have hfit := dec_fit rest
    have hl := h.2
    have setBad : ∀ (e : Nat), uptoS rest 0 most = (0, rest, e) → (Value.int .i64 0) = .int .i64 (uptoS rest 0 most).1 ∧ AfterX w x (uptoS rest 0 most).2.1 (uptoS rest 0 most).2.2 (w.setCell (Addr.add ⟨x, 0, none⟩ 1) (.int .i64 (e : Int))) := fun e ht => by
      rw [ht]; exact ⟨rfl, xBad h e⟩
    refine br_dec (fun he => br_dec (fun h2 => ?_) (fun h2 => br_dec (fun h4 => ?_) (fun h4 => ?_))) (fun he => ?_)
    · exact ⟨⟨_, h.1.cell 1⟩, h.1.frozen 1, setBad 8 (by unfold uptoS; rw [if_neg (by simp), if_neg (by omega), if_pos (.inl h2)])⟩
    · rw [wu64 ⟨by omega, by omega⟩] at h4
      exact ⟨⟨_, h.1.cell 1⟩, h.1.frozen 1, setBad 8 (by unfold uptoS; rw [if_neg (by simp), if_neg (by omega), if_pos (.inr h4)])⟩
    · rw [wu64 ⟨by omega, by omega⟩] at h4
      have ht : uptoS rest 0 most = (((dec rest).1 : Int), rest.drop (dec rest).2.1, 0) := by unfold uptoS; rw [if_neg (by simp), if_neg (by omega), if_neg (by omega)]
      rw [ht]
      have he0 : (dec rest).2.2 = 0 := by omega
      rw [he0]
      have hx := xBad h 0
      refine ⟨⟨_, h.1.cell 1⟩, h.1.frozen 1, ?_⟩
      generalize w.setCell (Addr.add ⟨x, 0, none⟩ 1) (.int .i64 ((0 : Nat) : Int)) = w2 at *
      refine br_not (br_dec (fun _ => ?_) (fun h => absurd rfl h))
      have hb0 := hx.1.1
      have hq := xTake hx.1 (s2 := (bs8 rest).extract (Int.toNat ((dec rest).2.1 : Nat)) (Int.toNat ((bs8 rest).size : Int))) (rest2 := rest.drop (dec rest).2.1) (by rw [Int.toNat_natCast, Int.toNat_natCast, drop_extract]) (by rw [List.length_drop]; omega)
      exact ⟨_, hb0.cell 0, by omega, by rw [bs8_size]; omega, by omega, ⟨_, hb0.cell 0⟩, hb0.frozen 0, by rw [w64 ⟨by omega, by omega⟩], hq.1, hx.2.trans hq.2 (fun _ _ f => f)⟩
    · exact ⟨⟨_, h.1.cell 1⟩, h.1.frozen 1, br_not (br_dec (fun h => absurd h he) (fun _ => setBad _ (by unfold uptoS; rw [if_neg (by simp), if_pos (by omega)])))⟩
  · have hbad : bad ≠ 0 := by omega
    have ht : uptoS rest bad most = (0, rest, bad) := by unfold uptoS; rw [if_pos hbad]
    rw [ht]
    exact ⟨rfl, h, Kp.refl _ _⟩

/-- What a part's read leaves: what is left and the error. -/
def readS (rest : List UInt8) (bad : Nat) (p : Pt) : List UInt8 × Nat :=
  if p.kind = 0 then (numS rest bad).2 else if p.kind = 1 then (numS rest bad).2 else if p.kind = 2 then (textS rest bad p.n).2 else if p.kind = 3 then (rawS rest bad p.n).2
  else if p.kind = 4 then (uptoS rest bad p.n).2 else if 1 ≤ p.n ∧ p.n ≤ 12 then (rest, if bad = 0 then p.n.toNat else bad) else (rest, bad)

theorem read10 (h : RdS w r rest bad) (g : RfS w x rest bad) (hrx : r ≠ x) (p : Pt) (hn : -9223372036854775808 ≤ p.n ∧ p.n ≤ 9223372036854775807) :
    Calls Try.prog 38 #[.pointer (some ⟨r, 0, none⟩), .pointer (some ⟨x, 0, none⟩), .agg #[.int .i64 p.kind, .int .u64 p.v, .int .i64 p.n, .string (bs8 p.s)]] w (Rv fun v w' => v = .bool true ∧
      RdS w' r (readS rest bad p).1 (readS rest bad p).2 ∧ RfS w' x (readS rest bad p).1 (readS rest bad p).2 ∧ Kp (fun k => k = r ∨ k = x) w w') := by
  refine c38 _ _ _ _ _ _ _ _ ?_
  unfold B38
  have hb1 : Blk (w.alloc (.cells #[.int .i64 p.kind, .int .u64 p.v, .int .i64 p.n, .string (bs8 p.s)] 38)) w.heap.size [.int .i64 p.kind, .int .u64 p.v, .int .i64 p.n, .string (bs8 p.s)] 38 := Blk.new _ _ _
  have k1 := (Kp.refl no w).alloc #[.int .i64 p.kind, .int .u64 p.v, .int .i64 p.n, .string (bs8 p.s)] 38
  have h1 := h.kp k1 id
  have g1 := g.kp k1 id
  have hr := h.lt
  have hx := g.1.lt
  generalize w.alloc (.cells #[.int .i64 p.kind, .int .u64 p.v, .int .i64 p.n, .string (bs8 p.s)] 38) = w1 at *
  have two : ∀ {w2 w3 : World}, Kp (fun k => k = r) w1 w2 → Kp (fun k => k = x) w2 w3 → Kp (fun k => k = r ∨ k = x) w w3 := fun q1 q2 =>
    ((k1.mono (fun _ _ f => f.elim)).trans q1 (fun k _ e => .inl e)).trans q2 (fun k _ e => .inr e)
  refine ⟨_, hb1.cell 0, br_dec (fun e0 => ?_) (fun e0 => br_dec (fun e1 => ?_) (fun e1 => br_dec (fun e2 => ?_) (fun e2 => br_dec (fun e3 => ?_) (fun e3 => br_dec (fun e4 => ?_) (fun e4 => ?_)))))⟩
  · have hp : readS rest bad p = (numS rest bad).2 := by unfold readS; rw [if_pos e0]
    rw [hp]
    refine use (qNum h1) ?_
    rintro _ w2 ⟨rfl, h2, q2⟩
    refine ⟨_, rfl, use (xNum (g1.kp q2 (fun e => hrx e.symm))) ?_⟩
    rintro _ w3 ⟨rfl, g3, q3⟩
    exact ⟨_, rfl, by rw [decide_eq_true rfl], h2.kp q3 hrx, g3, two q2 q3⟩
  · have hp : readS rest bad p = (numS rest bad).2 := by unfold readS; rw [if_neg e0, if_pos e1]
    rw [hp]
    refine use (qInt h1) ?_
    rintro _ w2 ⟨rfl, h2, q2⟩
    refine ⟨_, rfl, use (xInt (g1.kp q2 (fun e => hrx e.symm))) ?_⟩
    rintro _ w3 ⟨rfl, g3, q3⟩
    exact ⟨_, rfl, by rw [decide_eq_true rfl], h2.kp q3 hrx, g3, two q2 q3⟩
  · have hp : readS rest bad p = (textS rest bad p.n).2 := by unfold readS; rw [if_neg e0, if_neg e1, if_pos e2]
    rw [hp]
    have kd : Kp no w1 w1.drew := (Kp.refl _ _).drew
    refine ⟨_, hb1.drew.cell 2, _, hb1.drew.cell 2, use (qText (h1.kp kd id) p.n hn.2) ?_⟩
    rintro _ w2 ⟨rfl, h2, q2⟩
    refine ⟨_, rfl, (hb1.drew.kp q2 (by omega)).cell 2, use (xText (g1.kp ((kd.mono (fun _ _ f => f.elim)).trans q2 (fun _ _ f => f)) (fun e => hrx e.symm)) p.n hn.2) ?_⟩
    rintro _ w3 ⟨rfl, g3, q3⟩
    refine ⟨_, rfl, by rw [str_beq, decide_eq_true rfl], h2.kp q3 hrx, g3, two ((kd.mono (fun _ _ f => f.elim)).trans q2 (fun _ _ f => f)) q3⟩
  · have hp : readS rest bad p = (rawS rest bad p.n).2 := by unfold readS; rw [if_neg e0, if_neg e1, if_neg e2, if_pos e3]
    rw [hp]
    have kd : Kp no w1 w1.drew := (Kp.refl _ _).drew
    refine ⟨_, hb1.drew.cell 2, _, hb1.drew.cell 2, use (qRaw (h1.kp kd id) p.n hn.2) ?_⟩
    rintro _ w2 ⟨rfl, h2, q2⟩
    refine ⟨_, rfl, (hb1.drew.kp q2 (by omega)).cell 2, use (xRaw (g1.kp ((kd.mono (fun _ _ f => f.elim)).trans q2 (fun _ _ f => f)) (fun e => hrx e.symm)) p.n hn.2) ?_⟩
    rintro _ w3 ⟨rfl, g3, q3⟩
    refine ⟨_, rfl, by rw [str_beq, decide_eq_true rfl], h2.kp q3 hrx, g3, two ((kd.mono (fun _ _ f => f.elim)).trans q2 (fun _ _ f => f)) q3⟩
  · have hp : readS rest bad p = (uptoS rest bad p.n).2 := by unfold readS; rw [if_neg e0, if_neg e1, if_neg e2, if_neg e3, if_pos e4]
    rw [hp]
    have kd : Kp no w1 w1.drew := (Kp.refl _ _).drew
    refine ⟨_, hb1.drew.cell 2, _, hb1.drew.cell 2, use (qUpto (h1.kp kd id) p.n hn.2) ?_⟩
    rintro _ w2 ⟨rfl, h2, q2⟩
    refine ⟨_, rfl, (hb1.drew.kp q2 (by omega)).cell 2, use (xUpto (g1.kp ((kd.mono (fun _ _ f => f.elim)).trans q2 (fun _ _ f => f)) (fun e => hrx e.symm)) p.n hn.2) ?_⟩
    rintro _ w3 ⟨rfl, g3, q3⟩
    refine ⟨_, rfl, by rw [decide_eq_true rfl], h2.kp q3 hrx, g3, two ((kd.mono (fun _ _ f => f.elim)).trans q2 (fun _ _ f => f)) q3⟩
  · have keep : ¬ (1 ≤ p.n ∧ p.n ≤ 12) → (Value.bool true = .bool true ∧ RdS w1 r (readS rest bad p).1 (readS rest bad p).2 ∧ RfS w1 x (readS rest bad p).1 (readS rest bad p).2 ∧ Kp (fun k => k = r ∨ k = x) w w1) := fun hq => by
      have hp : readS rest bad p = (rest, bad) := by unfold readS; rw [if_neg e0, if_neg e1, if_neg e2, if_neg e3, if_neg e4, if_neg hq]
      rw [hp]
      exact ⟨rfl, h1, g1, k1.mono (fun _ _ f => f.elim)⟩
    refine ⟨_, hb1.cell 2, br_dec (fun q1 => ⟨_, hb1.cell 2, br_dec (fun q2 => ⟨_, hb1.cell 2, ?_⟩) (fun q2 => keep (by omega))⟩) (fun q1 => keep (by omega))⟩
    have hp : readS rest bad p = (rest, if bad = 0 then p.n.toNat else bad) := by unfold readS; rw [if_neg e0, if_neg e1, if_neg e2, if_neg e3, if_neg e4, if_pos ⟨q1, q2⟩]
    rw [hp]
    obtain ⟨e, he⟩ : ∃ e : Nat, p.n = e := ⟨p.n.toNat, by omega⟩
    rw [he] at hb1 ⊢
    refine use (qFail h1 e (by omega)) ?_
    rintro _ w2 ⟨rfl, h2, k2⟩
    have g2 := g1.kp k2 (fun e => hrx e.symm)
    refine ⟨rfl, _, g2.1.cell 1, br_dec (fun hb => ?_) (fun hb => ?_)⟩
    · have hbad : bad = 0 := by omega
      subst hbad
      rw [if_pos rfl] at h2 ⊢
      have hx2 := xBad g2 e
      exact ⟨_, (hb1.kp k2 (by omega)).cell 2, ⟨_, g2.1.cell 1⟩, g2.1.frozen 1, rfl, h2.kp hx2.2 hrx, hx2.1, two k2 hx2.2⟩
    · rw [if_neg (by omega)] at h2 ⊢
      exact ⟨rfl, h2, g2, two k2 (Kp.refl _ _)⟩

theorem wireReads {ps : List Pt} (h : Rd4 w l ps) (s : List UInt8) : IsK 8 #[.string (bs8 s), .slice l.a l.len l.cap] w (.bool true) := by
  refine c8 _ _ _ _ ?_
  unfold B8
  rw [bs8_size]
  have hl := h.len
  refine br_dec (fun _ => usek (live10 _) fun w' hk => ⟨_, rfl, rfl, hk⟩) (fun hs6 => use (long10 h) ?_)
  rintro _ _ ⟨rfl, bb, rfl, hb⟩
  refine ⟨_, rfl, br_of (fun _ => usek (live10 _) fun w' hk => ⟨_, rfl, rfl, hk⟩) (fun hbf => ?_)⟩
  rename_i w1
  have hsh := hb hbf
  refine use (openR w1 s (by omega)) ?_
  rintro _ w2 ⟨rfl, h2, k2⟩
  have h40 := hsh.1
  have k3 : Kp no w2 (w2.alloc (.cells #[.string (bs8 s), .int .i64 0] 50)) := (Kp.refl _ _).alloc _ _
  have g3 : RfS (w2.alloc (.cells #[.string (bs8 s), .int .i64 0] 50)) w2.heap.size s 0 := ⟨Blk.new _ _ _, by omega⟩
  have h3 := h2.kp k3 id
  have hlt := h2.lt
  have hk2 := k2.size
  refine ⟨_, rfl, fun i w' => ∃ (m : Nat) (rest : List UInt8) (bad : Nat), i = m ∧ m ≤ ps.length ∧ RdS w' w1.heap.size rest bad ∧ RfS w' w2.heap.size rest bad ∧ Kp no w1 w', fun i _ => (ps.length - i).toNat,
    ⟨0, s, 0, rfl, by omega, h3, g3, k2.trans k3 (fun _ _ f => f)⟩, ?_⟩
  rintro i w4 ⟨m, rest, bad, rfl, hm, h4, g4, k4⟩
  have hrx : w1.heap.size ≠ w2.heap.size := by omega
  refine br_dec (fun hi => ⟨by omega, hi, ?_⟩) (fun hi => ?_)
  · have hmp : m < ps.length := by omega
    obtain ⟨c, hc, q0, q1, q2, q3⟩ := (h.kp k4.drew).cel m hmp
    have hfit := h.fit _ (List.getElem_mem hmp)
    have kd : Kp no w4 w4.drew := (Kp.refl _ _).drew
    refine ⟨c, hc, _, _, _, _, q0, q1, q2, q3, use (read10 (h4.kp kd id) (g4.kp kd id) hrx ps[m] hfit.2) ?_⟩
    rintro _ w5 ⟨rfl, h5, g5, k5⟩
    have kk : Kp no w1 w5 := (k4.trans kd (fun _ _ f => f)).trans k5 (fun k hk e => by omega)
    refine ⟨_, rfl, ?_⟩
    show ∃ s25 : ByteArray, _
    refine ⟨_, g5.1.cell 0, usek (qLeft h5) fun w6 k6 => ⟨_, rfl, (g5.kp k6 id).1.cell 0, ?_⟩⟩
    rw [bs8_size]
    refine br_not (br_dec (fun _ => ?_) (fun h => absurd rfl h))
    have h6 := h5.kp k6 id
    have g6 := g5.kp k6 id
    refine ⟨_, g6.1.cell 1, usei (qErr h6) ⟨_, rfl, g6.1.cell 1, br_not (br_dec (fun _ => ?_) (fun h => absurd rfl h))⟩⟩
    rw [w64 ⟨by omega, by omega⟩]
    exact ⟨⟨m + 1, _, _, by omega, hmp, h6, g6, kk.trans k6 (fun _ _ f => f)⟩, by dsimp only; omega⟩
  · refine usek (qEnd h4) fun w5 k5 => ⟨_, rfl, usei (xEnd (g4.kp k5 id)) ⟨_, rfl, br_dec (fun _ => ?_) (fun h => absurd rfl h)⟩⟩
    exact usek (live10 w5) fun w6 k6 => ⟨_, rfl, rfl, (k4.trans k5 (fun _ _ f => f)).trans k6 (fun _ _ f => f)⟩
end Go.Proofs.Ytlobkadfmgnlmaa.V
