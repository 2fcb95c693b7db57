/- The readers: texts, raw bytes, bounded numbers, the error that is set; the reader that is nil. -/
import Derived.Test.YtlobkadfmgnlmaaWr
namespace Go.Proofs.Ytlobkadfmgnlmaa.V
open Go Go.VC
variable {w w' w0 : World} {r x : Nat} {rest s : List UInt8} {bad : Nat}

/-- Two new cells, the second one written once more. -/
theorem two_cells (w : World) (u v v2 : Value) (t1 t2 : TypeId) :
    (∃ q, ((w.alloc (.cells #[u] t1)).alloc (.cells #[v] t2)).cell? ⟨(w.alloc (.cells #[u] t1)).heap.size, 0, none⟩ = some q) ∧
    ((w.alloc (.cells #[u] t1)).alloc (.cells #[v] t2)).frozen? ⟨(w.alloc (.cells #[u] t1)).heap.size, 0, none⟩ = false ∧
    Kp no w (((w.alloc (.cells #[u] t1)).alloc (.cells #[v] t2)).setCell ⟨(w.alloc (.cells #[u] t1)).heap.size, 0, none⟩ v2) ∧
    Blk (((w.alloc (.cells #[u] t1)).alloc (.cells #[v] t2)).setCell ⟨(w.alloc (.cells #[u] t1)).heap.size, 0, none⟩ v2) w.heap.size [u] t1 ∧
    Blk (((w.alloc (.cells #[u] t1)).alloc (.cells #[v] t2)).setCell ⟨(w.alloc (.cells #[u] t1)).heap.size, 0, none⟩ v2) (w.alloc (.cells #[u] t1)).heap.size [v2] t2 ∧
    (w.alloc (.cells #[u] t1)).heap.size = w.heap.size + 1 := by
  have h1 : Blk ((w.alloc (.cells #[u] t1)).alloc (.cells #[v] t2)) (w.alloc (.cells #[u] t1)).heap.size [v] t2 := Blk.new _ _ _
  have h0 : Blk ((w.alloc (.cells #[u] t1)).alloc (.cells #[v] t2)) w.heap.size [u] t1 := (Blk.new w [u] t1).alloc _
  have hs : (w.alloc (.cells #[u] t1)).heap.size = w.heap.size + 1 := World.size_alloc _ _
  refine ⟨⟨_, h1.cell0 0⟩, h1.frozen 0, (((Kp.refl _ _).alloc _ _).alloc _ _).set _ _ (fun h => by rw [hs] at h; simp only at h; omega), h0.set_other _ _ (by rw [hs]; simp only; omega), h1.set 0 _, hs⟩

theorem qText (h : RdS w r rest bad) (most : Int) (hm : most ≤ 9223372036854775807) :
    Calls Try.prog 34 #[.pointer (some ⟨r, 0, none⟩), .int .i64 most] w (Rv fun v w' => v = .string (bs8 (textS rest bad most).1) ∧ After w r (textS rest bad most).2.1 (textS rest bad most).2.2 w') := by
  refine c34 _ _ _ _ ?_
  unfold B34
  obtain ⟨p1, p2, k1, hc0, hc1, hsz⟩ := two_cells w (.int .i64 most) (.string ByteArray.empty) (.string (⟨#[]⟩ : ByteArray)) 3 9
  refine ⟨p1, p2, ?_⟩
  have hr := h.lt
  generalize ((w.alloc (.cells #[.int .i64 most] 3)).alloc (.cells #[.string ByteArray.empty] 9)).setCell ⟨(w.alloc (.cells #[.int .i64 most] 3)).heap.size, 0, none⟩ (.string (⟨#[]⟩ : ByteArray)) = w1 at *
  rw [hsz] at hc1 ⊢
  clear p1 p2
  by_cases hbad : bad = 0
  · subst hbad
    obtain ⟨s, a, hb, h1, rfl, h3⟩ := h
    have hb1 : Blk w1 r [.string (bs8 s), .int .i64 (a : Int), .int .i64 0] 87 := hb.kp k1 id
    have hfit := dec_fit (s.drop a)
    have hdl : (s.drop a).length ≤ 1099511627776 := by rw [List.length_drop]; omega
    generalize hrest : s.drop a = rest at *
    have hal : s.length = a + rest.length := by rw [← hrest, List.length_drop]; omega
    refine use (step1 hb1 h1 h3 g_Text (Q := fun n e w' => (e = 0 → rest.drop n = (textS rest 0 most).2.1 ∧ n ≤ rest.length ∧ (textS rest 0 most).2.2 = 0) ∧ (e ≠ 0 → rest = (textS rest 0 most).2.1 ∧ (textS rest 0 most).2.2 = e) ∧ Blk w' (w.heap.size + 1) [.string (bs8 (textS rest 0 most).1)] 9 ∧ Kp (fun k => k = w.heap.size + 1) w1 w') ?_) ?_
    · rw [hrest]
      refine c72 _ _ _ _ _ ?_
      unfold B72
      have kd : Kp (fun k => k = w.heap.size + 1) w1 w1.drew := (Kp.refl _ _).drew
      refine usei (number w1.drew rest hdl) ⟨_, _, _, rfl, br_not (br_dec (fun he => ⟨_, hc0.drew.cell0 0, br_dec (fun h2 => ?_) (fun h2 => ⟨_, hc0.drew.cell0 0, br_dec (fun h4 => ?_) (fun h4 => br_dec (fun h5 => ?_) (fun h5 => ?_))⟩)⟩) (fun he => ?_))⟩
      · have ht : textS rest 0 most = ([], rest, 5) := by unfold textS; rw [if_neg (by simp), if_neg (by omega), if_pos (.inl h2)]
        rw [ht]
        exact ⟨0, 5, rfl, ⟨fun h => absurd h (by omega), fun _ => ⟨rfl, rfl⟩, hc1.drew, kd⟩, hb1.drew, fun h => absurd h (by omega)⟩
      · rw [wu64 ⟨by omega, by omega⟩] at h4
        have ht : textS rest 0 most = ([], rest, 5) := by unfold textS; rw [if_neg (by simp), if_neg (by omega), if_pos (.inr h4)]
        rw [ht]
        exact ⟨0, 5, rfl, ⟨fun h => absurd h (by omega), fun _ => ⟨rfl, rfl⟩, hc1.drew, kd⟩, hb1.drew, fun h => absurd h (by omega)⟩
      · rw [wu64 ⟨by omega, by omega⟩] at h4
        rw [bs8_size, w64 ⟨by omega, by omega⟩, wu64 ⟨by omega, by omega⟩] at h5
        have ht : textS rest 0 most = ([], rest, 2) := by unfold textS; rw [if_neg (by simp), if_neg (by omega), if_neg (by omega), if_pos (by omega)]
        rw [ht]
        exact ⟨0, 2, rfl, ⟨fun h => absurd h (by omega), fun _ => ⟨rfl, rfl⟩, hc1.drew, kd⟩, hb1.drew, fun h => absurd h (by omega)⟩
      · rw [wu64 ⟨by omega, by omega⟩] at h4
        rw [bs8_size, w64 ⟨by omega, by omega⟩, wu64 ⟨by omega, by omega⟩] at h5
        have ht : textS rest 0 most = ((rest.drop (dec rest).2.1).take (dec rest).1, rest.drop ((dec rest).2.1 + (dec rest).1), 0) := by unfold textS; rw [if_neg (by simp), if_neg (by omega), if_neg (by omega), if_neg (by omega)]
        rw [ht]
        rw [w64 (x := ((dec rest).1 : Nat)) ⟨by omega, by omega⟩, w64 ⟨by omega, by omega⟩, bs8_size]
        refine ⟨by omega, by omega, by omega, ⟨_, hc1.drew.cell0 0⟩, hc1.drew.frozen 0, (dec rest).2.1 + (dec rest).1, 0, by rw [Int.natCast_add]; rfl, ⟨fun _ => ⟨rfl, by omega, rfl⟩, fun h => absurd rfl h, ?_, kd.set _ _ (fun _ => rfl)⟩, hb1.drew.set_other _ _ (by simp only; omega), fun _ => by omega⟩
        have := hc1.drew.set 0 (.string ((bs8 rest).extract (Int.toNat ((dec rest).2.1 : Nat)) (Int.toNat (((dec rest).2.1 : Int) + ((dec rest).1 : Int)))))
        rw [bs8_extract, Int.toNat_natCast, show (((dec rest).2.1 : Int) + ((dec rest).1 : Int)).toNat - (dec rest).2.1 = (dec rest).1 by omega] at this
        rw [bs8_extract, Int.toNat_natCast, show (((dec rest).2.1 : Int) + ((dec rest).1 : Int)).toNat - (dec rest).2.1 = (dec rest).1 by omega]
        exact this
      · have ht : textS rest 0 most = ([], rest, (dec rest).2.2) := by unfold textS; rw [if_neg (by simp), if_pos (by omega)]
        rw [ht]
        exact ⟨0, (dec rest).2.2, rfl, ⟨fun h => absurd h (by omega), fun _ => ⟨rfl, rfl⟩, hc1.drew, kd⟩, hb1.drew, fun h => absurd h (by omega)⟩
    · rintro _ _ ⟨n, e, w2, i, u, ⟨q1, q2, hc2, k2⟩, rfl, rfl, hb3⟩
      refine ⟨_, rfl, _, (hc2.set_other _ _ (by rw [add_block]; simp only; omega)).cell0 0, rfl, ?_, ((k1.mono (fun _ _ f => f.elim)).trans k2 (fun k hk e => by omega)).set _ _ (fun _ => by rw [add_block])⟩
      by_cases he : e = 0
      · rw [if_pos he] at hb3
        obtain ⟨q3, q4, q5⟩ := q1 he
        rw [q5]
        refine ⟨s, a + n, ?_, by omega, ?_, h3⟩
        · subst he; exact hb3
        · rw [← q3, ← hrest, List.drop_drop]
      · rw [if_neg he] at hb3
        obtain ⟨q3, q4⟩ := q2 he
        rw [q4, ← q3]
        exact ⟨s, a, hb3, h1, hrest, h3⟩
  · refine usei (stepBad (h.kp k1 id) hbad _) ⟨_, rfl, _, hc1.cell0 0, ?_⟩
    have ht : textS rest bad most = ([], rest, bad) := by unfold textS; rw [if_pos hbad]
    rw [ht]
    exact ⟨rfl, h.kp k1 id, k1.mono (fun _ _ f => f.elim)⟩

theorem qRaw (h : RdS w r rest bad) (most : Int) (hm : most ≤ 9223372036854775807) :
    Calls Try.prog 35 #[.pointer (some ⟨r, 0, none⟩), .int .i64 most] w (Rv fun v w' => v = .string (bs8 (rawS rest bad most).1) ∧ After w r (rawS rest bad most).2.1 (rawS rest bad most).2.2 w') := by
  refine c35 _ _ _ _ ?_
  unfold B35
  obtain ⟨p1, p2, k1, hc0, hc1, hsz⟩ := two_cells w (.int .i64 most) (.string ByteArray.empty) (.string (⟨#[]⟩ : ByteArray)) 3 9
  refine ⟨p1, p2, ?_⟩
  have hr := h.lt
  generalize ((w.alloc (.cells #[.int .i64 most] 3)).alloc (.cells #[.string ByteArray.empty] 9)).setCell ⟨(w.alloc (.cells #[.int .i64 most] 3)).heap.size, 0, none⟩ (.string (⟨#[]⟩ : ByteArray)) = w1 at *
  rw [hsz] at hc1 ⊢
  clear p1 p2
  by_cases hbad : bad = 0
  · subst hbad
    obtain ⟨s, a, hb, h1, rfl, h3⟩ := h
    have hb1 : Blk w1 r [.string (bs8 s), .int .i64 (a : Int), .int .i64 0] 87 := hb.kp k1 id
    have hdl : (s.drop a).length ≤ 1099511627776 := by rw [List.length_drop]; omega
    generalize hrest : s.drop a = rest at *
    have hal : s.length = a + rest.length := by rw [← hrest, List.length_drop]; omega
    refine use (step1 hb1 h1 h3 g_Raw (Q := fun n e w' => (e = 0 → rest.drop n = (rawS rest 0 most).2.1 ∧ n ≤ rest.length ∧ (rawS rest 0 most).2.2 = 0) ∧ (e ≠ 0 → rest = (rawS rest 0 most).2.1 ∧ (rawS rest 0 most).2.2 = e) ∧ Blk w' (w.heap.size + 1) [.string (bs8 (rawS rest 0 most).1)] 9 ∧ Kp (fun k => k = w.heap.size + 1) w1 w') ?_) ?_
    · rw [hrest]
      refine c73 _ _ _ _ _ ?_
      unfold B73
      have kd : Kp (fun k => k = w.heap.size + 1) w1 w1.drew := (Kp.refl _ _).drew
      have hcd := hc0.drew
      refine ⟨_, hcd.cell0 0, br_dec (fun h2 => ?_) (fun h2 => ⟨_, hcd.cell0 0, br_dec (fun h4 => ?_) (fun h4 => ?_)⟩)⟩
      · have ht : rawS rest 0 most = ([], rest, 1) := by unfold rawS; rw [if_neg (by simp), if_pos h2]
        rw [ht]
        exact ⟨0, 1, rfl, ⟨fun h => absurd h (by omega), fun _ => ⟨rfl, rfl⟩, hc1.drew, kd⟩, hb1.drew, fun h => absurd h (by omega)⟩
      · rw [bs8_size] at h4
        have ht : rawS rest 0 most = ([], rest, 2) := by unfold rawS; rw [if_neg (by simp), if_neg h2, if_pos h4]
        rw [ht]
        exact ⟨0, 2, rfl, ⟨fun h => absurd h (by omega), fun _ => ⟨rfl, rfl⟩, hc1.drew, kd⟩, hb1.drew, fun h => absurd h (by omega)⟩
      · rw [bs8_size] at h4
        have ht : rawS rest 0 most = (rest.take most.toNat, rest.drop most.toNat, 0) := by unfold rawS; rw [if_neg (by simp), if_neg h2, if_neg h4]
        rw [ht]
        have e0 : Int.toNat (0 : Int) = 0 := rfl
        refine ⟨_, hcd.cell0 0, by omega, by omega, by rw [bs8_size]; omega, ⟨_, hc1.drew.cell0 0⟩, hc1.drew.frozen 0, _, (hcd.set_other _ _ (by simp only; omega)).cell0 0, most.toNat, 0, ?_, ⟨fun _ => ⟨rfl, by omega, rfl⟩, fun h => absurd rfl h, ?_, kd.set _ _ (fun _ => rfl)⟩, hb1.drew.set_other _ _ (by simp only; omega), fun _ => by omega⟩
        · rw [Int.toNat_of_nonneg (by omega)]; rfl
        · have := hc1.drew.set 0 (.string ((bs8 rest).extract (Int.toNat 0) (Int.toNat most)))
          rw [e0, take_extract] at this ⊢
          exact this
    · rintro _ _ ⟨n, e, w2, i, u, ⟨q1, q2, hc2, k2⟩, rfl, rfl, hb3⟩
      refine ⟨_, rfl, _, (hc2.set_other _ _ (by rw [add_block]; simp only; omega)).cell0 0, rfl, ?_, ((k1.mono (fun _ _ f => f.elim)).trans k2 (fun k hk e => by omega)).set _ _ (fun _ => by rw [add_block])⟩
      by_cases he : e = 0
      · rw [if_pos he] at hb3
        obtain ⟨q3, q4, q5⟩ := q1 he
        rw [q5]
        refine ⟨s, a + n, ?_, by omega, ?_, h3⟩
        · subst he; exact hb3
        · rw [← q3, ← hrest, List.drop_drop]
      · rw [if_neg he] at hb3
        obtain ⟨q3, q4⟩ := q2 he
        rw [q4, ← q3]
        exact ⟨s, a, hb3, h1, hrest, h3⟩
  · refine usei (stepBad (h.kp k1 id) hbad _) ⟨_, rfl, _, hc1.cell0 0, ?_⟩
    have ht : rawS rest bad most = ([], rest, bad) := by unfold rawS; rw [if_pos hbad]
    rw [ht]
    exact ⟨rfl, h.kp k1 id, k1.mono (fun _ _ f => f.elim)⟩

theorem qUpto (h : RdS w r rest bad) (most : Int) (hm : most ≤ 9223372036854775807) :
    Calls Try.prog 78 #[.pointer (some ⟨r, 0, none⟩), .int .i64 most] w (Rv fun v w' => v = .int .i64 (uptoS rest bad most).1 ∧ After w r (uptoS rest bad most).2.1 (uptoS rest bad most).2.2 w') := by
  refine c78 _ _ _ _ ?_
  unfold B78
  obtain ⟨p1, p2, k1, hc0, hc1, hsz⟩ := two_cells w (.int .i64 most) (.int .i64 0) (.int .i64 0) 3 3
  refine ⟨p1, p2, ?_⟩
  have hr := h.lt
  generalize ((w.alloc (.cells #[.int .i64 most] 3)).alloc (.cells #[.int .i64 0] 3)).setCell ⟨(w.alloc (.cells #[.int .i64 most] 3)).heap.size, 0, none⟩ (.int .i64 0) = w1 at *
  rw [hsz] at hc1 ⊢
  clear p1 p2
  by_cases hbad : bad = 0
  · subst hbad
    obtain ⟨s, a, hb, h1, rfl, h3⟩ := h
    have hb1 : Blk w1 r [.string (bs8 s), .int .i64 (a : Int), .int .i64 0] 87 := hb.kp k1 id
    have hfit := dec_fit (s.drop a)
    have hdl : (s.drop a).length ≤ 1099511627776 := by rw [List.length_drop]; omega
    generalize hrest : s.drop a = rest at *
    have hal : s.length = a + rest.length := by rw [← hrest, List.length_drop]; omega
    refine use (step1 hb1 h1 h3 g_Upto (Q := fun n e w' => (e = 0 → rest.drop n = (uptoS rest 0 most).2.1 ∧ n ≤ rest.length ∧ (uptoS rest 0 most).2.2 = 0) ∧ (e ≠ 0 → rest = (uptoS rest 0 most).2.1 ∧ (uptoS rest 0 most).2.2 = e) ∧ Blk w' (w.heap.size + 1) [.int .i64 (uptoS rest 0 most).1] 3 ∧ Kp (fun k => k = w.heap.size + 1) w1 w') ?_) ?_
    · rw [hrest]
      refine c89 _ _ _ _ _ ?_
      unfold B89
      have kd : Kp (fun k => k = w.heap.size + 1) w1 w1.drew := (Kp.refl _ _).drew
      have hcd := hc0.drew
      have hc1d := hc1.drew
      refine usei (number w1.drew rest hdl) ⟨_, _, _, rfl, br_dec (fun he => ⟨_, hcd.cell0 0, br_dec (fun h2 => ?_) (fun h2 => ⟨_, hcd.cell0 0, br_dec (fun h4 => ?_) (fun h4 => br_dec (fun _ => ?_) (fun h => absurd he h))⟩)⟩) (fun he => br_dec (fun h => absurd h he) (fun _ => ?_))⟩
      · have ht : uptoS rest 0 most = (0, rest, 8) := by unfold uptoS; rw [if_neg (by simp), if_neg (by omega), if_pos (.inl h2)]
        rw [ht]
        exact ⟨(dec rest).2.1, 8, rfl, ⟨fun h => absurd h (by omega), fun _ => ⟨rfl, rfl⟩, hc1d, kd⟩, hb1.drew, fun h => absurd h (by omega)⟩
      · rw [wu64 ⟨by omega, by omega⟩] at h4
        have ht : uptoS rest 0 most = (0, rest, 8) := by unfold uptoS; rw [if_neg (by simp), if_neg (by omega), if_pos (.inr h4)]
        rw [ht]
        exact ⟨(dec rest).2.1, 8, rfl, ⟨fun h => absurd h (by omega), fun _ => ⟨rfl, rfl⟩, hc1d, kd⟩, hb1.drew, fun h => absurd h (by omega)⟩
      · rw [wu64 ⟨by omega, by omega⟩] at h4
        have he0 : (dec rest).2.2 = 0 := by omega
        have ht : uptoS rest 0 most = (((dec rest).1 : Int), rest.drop (dec rest).2.1, 0) := by unfold uptoS; rw [if_neg (by simp), if_neg (by omega), if_neg (by omega)]
        rw [ht]
        rw [w64 (x := ((dec rest).1 : Nat)) ⟨by omega, by omega⟩, he0]
        exact ⟨⟨_, hc1d.cell0 0⟩, hc1d.frozen 0, (dec rest).2.1, 0, rfl, ⟨fun _ => ⟨rfl, by omega, rfl⟩, fun h => absurd rfl h, hc1d.set 0 _, kd.set _ _ (fun _ => rfl)⟩, hb1.drew.set_other _ _ (by simp only; omega), fun _ => by omega⟩
      · have ht : uptoS rest 0 most = (0, rest, (dec rest).2.2) := by unfold uptoS; rw [if_neg (by simp), if_pos (by omega)]
        rw [ht]
        exact ⟨(dec rest).2.1, (dec rest).2.2, rfl, ⟨fun h => absurd h (by omega), fun _ => ⟨rfl, rfl⟩, hc1d, kd⟩, hb1.drew, fun h => absurd h (by omega)⟩
    · rintro _ _ ⟨n, e, w2, i, u, ⟨q1, q2, hc2, k2⟩, rfl, rfl, hb3⟩
      refine ⟨_, rfl, _, (hc2.set_other _ _ (by rw [add_block]; simp only; omega)).cell0 0, rfl, ?_, ((k1.mono (fun _ _ f => f.elim)).trans k2 (fun k hk e => by omega)).set _ _ (fun _ => by rw [add_block])⟩
      by_cases he : e = 0
      · rw [if_pos he] at hb3
        obtain ⟨q3, q4, q5⟩ := q1 he
        rw [q5]
        refine ⟨s, a + n, ?_, by omega, ?_, h3⟩
        · subst he; exact hb3
        · rw [← q3, ← hrest, List.drop_drop]
      · rw [if_neg he] at hb3
        obtain ⟨q3, q4⟩ := q2 he
        rw [q4, ← q3]
        exact ⟨s, a, hb3, h1, hrest, h3⟩
  · refine usei (stepBad (h.kp k1 id) hbad _) ⟨_, rfl, _, hc1.cell0 0, ?_⟩
    have ht : uptoS rest bad most = (0, rest, bad) := by unfold uptoS; rw [if_pos hbad]
    rw [ht]
    exact ⟨rfl, h.kp k1 id, k1.mono (fun _ _ f => f.elim)⟩

theorem qFail (h : RdS w r rest bad) (e : Nat) (he : e ≠ 0) :
    Calls Try.prog 80 #[.pointer (some ⟨r, 0, none⟩), .int .i64 (e : Int)] w (Rv fun v w' => v = .tuple #[] ∧ After w r rest (if bad = 0 then e else bad) w') := by
  refine c80 _ _ _ _ ?_
  unfold B80
  have k1 : Kp no w (w.alloc (.cells #[.int .i64 (e : Int)] 45)) := (Kp.refl _ _).alloc _ _
  have hr := h.lt
  by_cases hbad : bad = 0
  · subst hbad
    obtain ⟨s, a, hb, h1, rfl, h3⟩ := h
    have hb1 : Blk (w.alloc (.cells #[.int .i64 (e : Int)] 45)) r [.string (bs8 s), .int .i64 (a : Int), .int .i64 0] 87 := hb.kp k1 id
    have hc1 : Blk (w.alloc (.cells #[.int .i64 (e : Int)] 45)) w.heap.size [.int .i64 (e : Int)] 45 := Blk.new _ _ _
    generalize w.alloc (.cells #[.int .i64 (e : Int)] 45) = w1 at *
    refine use (step1 hb1 h1 h3 g_Fail (Q := fun n e' w' => e' = e ∧ Kp no w1 w') ?_) ?_
    · refine c90 _ _ _ _ ?_
      unfold B90
      exact ⟨_, hc1.drew.drew.cell0 0, 0, e, rfl, ⟨rfl, (Kp.refl _ _).drew.drew⟩, hb1.drew.drew, fun h => absurd h he⟩
    · rintro _ _ ⟨n, _, w2, i, u, ⟨rfl, k2⟩, rfl, rfl, hb3⟩
      rw [if_neg he] at hb3
      exact ⟨_, rfl, rfl, ⟨s, a, by rw [if_pos rfl]; exact hb3, h1, rfl, h3⟩, ((k1.trans k2 (fun _ _ f => f)).mono (fun _ _ f => f.elim)).set _ _ (fun _ => by rw [add_block])⟩
  · refine usei (stepBad (h.kp k1 id) hbad _) ⟨_, rfl, rfl, ?_, k1.mono (fun _ _ f => f.elim)⟩
    rw [if_neg hbad]
    exact h.kp k1 id
end Go.Proofs.Ytlobkadfmgnlmaa.V
