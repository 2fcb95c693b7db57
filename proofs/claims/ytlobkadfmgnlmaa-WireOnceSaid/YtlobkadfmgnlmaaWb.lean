/- What is written is read unchanged. -/
import Derived.Test.YtlobkadfmgnlmaaWm
namespace Go.VC
open Go
theorem numS_enc (v : Nat) (hv : v < 18446744073709551616) (t : List UInt8) : numS (enc v ++ t) 0 = (v, t, 0) := by
  unfold numS
  rw [if_neg (by simp), dec_enc v hv t]
  simp
theorem textS_enc (s t : List UInt8) (hs : s.length < 9223372036854775808) : textS (enc s.length ++ s ++ t) 0 (s.length : Int) = (s, t, 0) := by
  unfold textS
  rw [if_neg (by simp), List.append_assoc, dec_enc s.length (by omega) (s ++ t)]
  simp only [List.length_append]
  rw [if_neg (by omega), if_neg (by omega), if_neg (by omega)]
  simp [← List.drop_drop]
theorem rawS_app (s t : List UInt8) : rawS (s ++ t) 0 (s.length : Int) = (s, t, 0) := by
  unfold rawS
  rw [if_neg (by simp), if_neg (by omega), if_neg (by simp; omega)]
  simp
end Go.VC
namespace Go.Proofs.Ytlobkadfmgnlmaa.V
open Go Go.VC
variable {w w' w0 : World} {r x b : Nat} {l o : Slc} {rest s bs : List UInt8} {bad : Nat}

theorem copy4 (w : World) (k v n s z0 z1 z2 z3 : Value) (T : TypeId) :
    Blk (w.alloc (.cells #[z0, z1, z2, z3] T)) w.heap.size [z0, z1, z2, z3] T ∧
    Blk ((w.alloc (.cells #[z0, z1, z2, z3] T)).setCell (Addr.add ⟨w.heap.size, 0, none⟩ 0) k) w.heap.size [k, z1, z2, z3] T ∧
    Blk (((w.alloc (.cells #[z0, z1, z2, z3] T)).setCell (Addr.add ⟨w.heap.size, 0, none⟩ 0) k).setCell (Addr.add ⟨w.heap.size, 0, none⟩ 1) v) w.heap.size [k, v, z2, z3] T ∧
    Blk ((((w.alloc (.cells #[z0, z1, z2, z3] T)).setCell (Addr.add ⟨w.heap.size, 0, none⟩ 0) k).setCell (Addr.add ⟨w.heap.size, 0, none⟩ 1) v).setCell (Addr.add ⟨w.heap.size, 0, none⟩ 2) n) w.heap.size [k, v, n, z3] T ∧
    Blk (((((w.alloc (.cells #[z0, z1, z2, z3] T)).setCell (Addr.add ⟨w.heap.size, 0, none⟩ 0) k).setCell (Addr.add ⟨w.heap.size, 0, none⟩ 1) v).setCell (Addr.add ⟨w.heap.size, 0, none⟩ 2) n).setCell (Addr.add ⟨w.heap.size, 0, none⟩ 3) s) w.heap.size [k, v, n, s] T ∧
    Kp no w (((((w.alloc (.cells #[z0, z1, z2, z3] T)).setCell (Addr.add ⟨w.heap.size, 0, none⟩ 0) k).setCell (Addr.add ⟨w.heap.size, 0, none⟩ 1) v).setCell (Addr.add ⟨w.heap.size, 0, none⟩ 2) n).setCell (Addr.add ⟨w.heap.size, 0, none⟩ 3) s) := by
  have b0 := Blk.new w [z0, z1, z2, z3] T
  have b1 := b0.set 0 k
  have b2 := b1.set 1 v
  have b3 := b2.set 2 n
  have b4 := b3.set 3 s
  refine ⟨b0, b1, b2, b3, b4, ?_⟩
  have hk : ∀ i, (Addr.add ⟨w.heap.size, 0, none⟩ i).block < w.heap.size → no (Addr.add ⟨w.heap.size, 0, none⟩ i).block := fun i h => by rw [add_block] at h; simp only at h; omega
  exact (((((Kp.refl _ _).alloc _ _).set _ _ (hk 0)).set _ _ (hk 1)).set _ _ (hk 2)).set _ _ (hk 3)

theorem bytesAll_cons (p : Pt) (ps : List Pt) : bytesAll (p :: ps) = bytesOf p ++ bytesAll ps := by simp [bytesAll]

theorem wireBack {ps : List Pt} (h : Rd4 w l ps) (more : List UInt8) : IsK 7 #[.slice l.a l.len l.cap, .string (bs8 more)] w (.bool true) := by
  refine c7 _ _ _ _ ?_
  unfold B7
  rw [bs8_size]
  have hl := h.len
  refine use (long10 h) ?_
  rintro _ _ ⟨rfl, bb, rfl, hb⟩
  refine ⟨_, rfl, br_of (fun _ => usek (live10 _) fun w' hk => ⟨_, rfl, rfl, hk⟩) (fun hbf => br_dec (fun _ => usek (live10 _) fun w' hk => ⟨_, rfl, rfl, hk⟩) (fun hmo => ?_))⟩
  rename_i w1
  have hsh := hb hbf
  have h40 := hsh.1
  refine ⟨fun i w' => ∃ m : Nat, i = m ∧ m ≤ ps.length ∧ ∃ o, Ws w1 w1.heap.size ⟨none, 0, 0⟩ w' o (bytesAll (ps.take m)), fun i _ => (ps.length - i).toNat, ⟨0, rfl, by omega, _, Ws.start w1⟩, ?_⟩
  rintro i w2 ⟨m, rfl, hm, o, hW⟩
  have hbl := bytesAll_len (ps.take m) (fun p hp => hsh.2 p (List.mem_of_mem_take hp))
  have htl : (ps.take m).length = m := by simp; omega
  rw [htl] at hbl
  refine br_dec (fun h1 => ⟨by omega, h1, ?_⟩) (fun h1 => ?_)
  · have hmp : m < ps.length := by omega
    obtain ⟨c, hc, q0, q1, q2, q3⟩ := (h.kp hW.out).cel m hmp
    have hfit := h.fit _ (List.getElem_mem hmp)
    have hs3 := hsh.2 _ (List.getElem_mem hmp)
    refine ⟨c, hc, _, _, _, _, q0, q1, q2, q3, use (write10 hW (by omega) ps[m] hfit.1 hfit.2 (by omega)) ?_⟩
    rintro _ w3 ⟨rfl, o3, h3⟩
    refine ⟨_, rfl, ?_⟩
    rw [w64 ⟨by omega, by omega⟩]
    rw [← bytesAll_snoc ps m hmp] at h3
    exact ⟨⟨m + 1, by omega, hmp, o3, h3⟩, by dsimp only; omega⟩
  have hme : m = ps.length := by omega
  subst hme
  rw [List.take_length] at hW hbl
  refine usei (wBytes hW) ⟨_, rfl, by rw [bs8_size]; omega, ?_⟩
  rw [bs8_append]
  refine use (openR w2 (bytesAll ps ++ more) (by rw [List.length_append]; omega)) ?_
  rintro _ w3 ⟨rfl, h3, k3⟩
  have k13 : Kp no w1 w3 := hW.out.trans k3 (fun _ _ f => f)
  have hr3 := h3.lt
  refine ⟨_, rfl, fun i w' => ∃ m : Nat, i = m ∧ m ≤ ps.length ∧ RdS w' w2.heap.size (bytesAll (ps.drop m) ++ more) 0 ∧ Kp no w1 w', fun i _ => (ps.length - i).toNat, ⟨0, rfl, by omega, by simpa using h3, k13⟩, ?_⟩
  rintro i w4 ⟨m, rfl, hm, h4, k4⟩
  have hsz2 := hW.out.size
  refine br_dec (fun h1 => ⟨by omega, h1, ?_⟩) (fun h1 => ?_)
  · have hmp : m < ps.length := by omega
    obtain ⟨c, hc, q0, q1, q2, q3⟩ := (h.kp k4).cel m hmp
    have hfit := h.fit _ (List.getElem_mem hmp)
    have hs3 := hsh.2 _ (List.getElem_mem hmp)
    refine ⟨c, hc, _, _, _, _, q0, q1, q2, q3, ?_⟩
    obtain ⟨b0, b1, b2, b3, b4, kc⟩ := copy4 w4 (.int .i64 ps[m].kind) (.int .u64 ps[m].v) (.int .i64 ps[m].n) (.string (bs8 ps[m].s)) (.int .i64 0) (.int .u64 0) (.int .i64 0) (.string ByteArray.empty) 38
    refine ⟨⟨_, b0.cell 0⟩, b0.frozen 0, ⟨_, b1.cell 1⟩, b1.frozen 1, ⟨_, b2.cell 2⟩, b2.frozen 2, ⟨_, b3.cell 3⟩, b3.frozen 3, ?_⟩
    have h5 := h4.kp (kc.drew) id
    have b5 := b4.drew
    have k5 := k4.trans kc.drew (fun _ _ f => f)
    clear b0 b1 b2 b3 b4
    have hr4 := h4.lt
    generalize World.drew (((((w4.alloc (.cells #[.int .i64 0, .int .u64 0, .int .i64 0, .string ByteArray.empty] 38)).setCell (Addr.add ⟨w4.heap.size, 0, none⟩ 0) (.int .i64 ps[m].kind)).setCell (Addr.add ⟨w4.heap.size, 0, none⟩ 1) (.int .u64 ps[m].v)).setCell (Addr.add ⟨w4.heap.size, 0, none⟩ 2) (.int .i64 ps[m].n)).setCell (Addr.add ⟨w4.heap.size, 0, none⟩ 3) (.string (bs8 ps[m].s))) = w5 at *
    have hdrop : ps.drop m = ps[m] :: ps.drop (m + 1) := List.drop_eq_getElem_cons hmp
    rw [hdrop, bytesAll_cons, List.append_assoc] at h5
    have hw : IntKind.i64.wrap ((m : Int) + 1) = (m : Int) + 1 := w64 ⟨by omega, by omega⟩
    rw [hw]
    have next : ∀ {w6 : World}, RdS w6 w2.heap.size (bytesAll (ps.drop (m + 1)) ++ more) 0 → Kp no w1 w6 → (∃ m' : Nat, ((m : Int) + 1) = m' ∧ m' ≤ ps.length ∧ RdS w6 w2.heap.size (bytesAll (ps.drop m') ++ more) 0 ∧ Kp no w1 w6) ∧ ((ps.length : Int) - ((m : Int) + 1)).toNat < ((ps.length : Int) - (m : Int)).toNat :=
      fun a c => ⟨⟨m + 1, by omega, hmp, a, c⟩, by omega⟩
    generalize bytesAll (ps.drop (m + 1)) ++ more = tl at *
    generalize hp : ps[m] = p at *
    have kr : ∀ {w6 : World}, Kp (fun k => k = w2.heap.size) w5 w6 → Kp no w1 w6 := fun q => k5.trans q (fun k hk e => by omega)
    have br6 : ∀ {w6 : World}, Kp (fun k => k = w2.heap.size) w5 w6 → Blk w6 w4.heap.size [.int .i64 p.kind, .int .u64 p.v, .int .i64 p.n, .string (bs8 p.s)] 38 := fun q => b5.kp q (by omega)
    refine ⟨_, b5.cell 0, br_dec (fun e0 => ?_) (fun e0 => ⟨_, b5.cell 0, br_dec (fun e1 => ?_) (fun e1 => ⟨_, b5.cell 0, br_dec (fun e2 => ?_) (fun e2 => ⟨_, b5.cell 0, br_dec (fun e3 => ?_) (fun e3 => ?_)⟩)⟩)⟩)⟩
    · have hby : bytesOf p = enc p.v := by unfold bytesOf; rw [if_pos e0]
      rw [hby] at h5
      refine ⟨_, b5.cell 1, use (qNum h5) ?_⟩
      rintro _ w6 ⟨rfl, h6, q6⟩
      rw [numS_enc p.v hfit.1] at h6 ⊢
      have b6 := br6 q6
      exact ⟨_, rfl, b6.cell 1, br_not (br_dec (fun _ => ⟨_, b6.cell 0, br_dec (fun e => absurd e (by omega)) (fun _ => ⟨_, b6.cell 0, br_dec (fun e => absurd e (by omega)) (fun _ => ⟨_, b6.cell 0, br_dec (fun e => absurd e (by omega)) (fun _ => next h6 (kr q6))⟩)⟩)⟩) (fun h => absurd rfl h))⟩
    · have hby : bytesOf p = enc (zig p.n) := by unfold bytesOf; rw [if_neg e0, if_pos e1]
      rw [hby] at h5
      refine ⟨_, b5.cell 2, use (qInt h5) ?_⟩
      rintro _ w6 ⟨rfl, h6, q6⟩
      rw [numS_enc _ (zig_lt hfit.2)] at h6 ⊢
      have b6 := br6 q6
      exact ⟨_, rfl, b6.cell 2, br_not (br_dec (fun _ => ⟨_, b6.cell 0, br_dec (fun e => absurd e (by omega)) (fun _ => ⟨_, b6.cell 0, br_dec (fun e => absurd e (by omega)) (fun _ => next h6 (kr q6))⟩)⟩) (fun h => absurd (unzig_zig p.n) h))⟩
    · have hby : bytesOf p = enc p.s.length ++ p.s := by unfold bytesOf; rw [if_neg e0, if_neg e1, if_pos e2]
      rw [hby] at h5
      refine ⟨_, b5.cell 3, _, b5.cell 3, ?_⟩
      rw [bs8_size]
      refine use (qText h5 (p.s.length : Int) (by omega)) ?_
      rintro _ w6 ⟨rfl, h6, q6⟩
      rw [textS_enc p.s _ (by omega)] at h6 ⊢
      have b6 := br6 q6
      refine ⟨_, rfl, b6.cell 3, ?_⟩
      rw [str_beq]
      exact br_not (br_dec (fun _ => ⟨_, b6.cell 0, br_dec (fun e => absurd e (by omega)) (fun _ => next h6 (kr q6))⟩) (fun h => absurd rfl h))
    · have hby : bytesOf p = p.s := by unfold bytesOf; rw [if_neg e0, if_neg e1, if_neg e2, if_pos e3]
      rw [hby] at h5
      refine ⟨_, b5.cell 3, _, b5.cell 3, ?_⟩
      rw [bs8_size]
      refine use (qRaw h5 (p.s.length : Int) (by omega)) ?_
      rintro _ w6 ⟨rfl, h6, q6⟩
      rw [rawS_app p.s] at h6 ⊢
      have b6 := br6 q6
      refine ⟨_, rfl, b6.cell 3, ?_⟩
      rw [str_beq]
      exact br_not (br_dec (fun _ => next h6 (kr q6)) (fun h => absurd rfl h))
    · have hby : bytesOf p = [] := by unfold bytesOf; rw [if_neg e0, if_neg e1, if_neg e2, if_neg e3]
      rw [hby, List.nil_append] at h5
      exact next h5 k5
  · have hme2 : m = ps.length := by omega
    subst hme2
    have hdn : bytesAll (ps.drop ps.length) ++ more = more := by simp [bytesAll]
    rw [hdn] at h4
    refine usek (qLeft h4) fun w5 k5 => ⟨_, rfl, br_dec (fun _ => ?_) (fun h => absurd rfl h)⟩
    refine usei (qErr (h4.kp k5 id)) ⟨_, rfl, br_dec (fun _ => ?_) (fun h => absurd rfl h)⟩
    exact usek (live10 w5) fun w6 k6 => ⟨_, rfl, rfl, (k4.trans k5 (fun _ _ f => f)).trans k6 (fun _ _ f => f)⟩
end Go.Proofs.Ytlobkadfmgnlmaa.V
