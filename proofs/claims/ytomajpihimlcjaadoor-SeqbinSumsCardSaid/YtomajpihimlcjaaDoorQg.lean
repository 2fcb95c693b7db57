/- The laws on sequences and on rows as bytes (doors only). -/
import Derived.Test.YtomajpihimlcjaaDoorQf
namespace Go.VC
open Go
theorem upto_enc {v most : Nat} (hv : v ≤ most) (h64 : v < 18446744073709551616) (t : List UInt8) : uptoS (enc v ++ t) 0 (most : Int) = ((v : Int), t, 0) := by
  unfold uptoS
  rw [dec_enc v h64 t, if_neg (by simp), if_neg (by simp), if_neg (by simp; omega)]
  simp
theorem seqBits_len2 {ls : List Nat} (hg : GoodL ls) (hn : 0 < ls.length) : (seqBits ls).length = ls.length * eW ls + ls.length + wg ls (ls.length - 1) / 2 ^ eW ls := by
  have h1 := hb_len (upl_mono hg (eW ls))
  have h2 : prv (upl ls (eW ls)) ls.length = wg ls (ls.length - 1) / 2 ^ eW ls := by unfold prv; rw [if_neg (by omega)]; rfl
  rw [seqBits_len hg, Nat.mul_comm]
  unfold hiB
  rw [h1, h2]; omega
/-- What was put is got. -/
theorem seqG_bytes {ls : List Nat} (hg : GoodL ls) (hsz : ls.length ≤ 1048576) (t : List UInt8) : SeqG (seqBytes ls ++ t) 0 t 0 ls := by
  refine .inr ⟨rfl, ls.length, if ls.length = 0 then t else enc (wg ls (ls.length - 1)) ++ rowBytes (seqBits ls) ++ t, 0, ?_, hsz, ?_⟩
  · unfold seqBytes
    split
    · rename_i h0
      rw [h0]
      exact upto_enc (v := 0) (most := 1048576) (by omega) (by omega) t
    · rw [List.append_assoc]
      exact upto_enc (v := ls.length) (most := 1048576) hsz (by omega) _
  · by_cases h0 : ls.length = 0
    · rw [if_pos h0]
      exact .inr (.inl ⟨rfl, h0, rfl, rfl, List.length_eq_zero_iff.1 h0⟩)
    · rw [if_neg h0]
      have hn : 0 < ls.length := by omega
      have hl := wg_le hg (ls.length - 1)
      have eW' : lowW (ls.length : Int) ((wg ls (ls.length - 1) : Nat) : Int) = eW ls := by unfold eW lastZ; rw [if_neg h0]
      refine .inr (.inr ⟨rfl, hn, wg ls (ls.length - 1), rowBytes (seqBits ls) ++ t, 0, ?_, hl, t, 0, seqBits ls, ?_, rfl, .inr (.inl ⟨rfl, rfl, hg, rfl, rfl, rfl⟩)⟩)
      · rw [List.append_assoc]
        exact upto_enc (v := wg ls (ls.length - 1)) (most := 1099511627776) hl (by omega) _
      · rw [eW', ← seqBits_len2 hg hn]
        exact rowGet_bytes _ _
end Go.VC
namespace Go.Proofs.YtomajpihimlcjaaDoor.V
open Go Go.VC
variable {w w' w0 W W' wC : World} {l o lr l1 l2 : Slc} {b1 b2 bits : List Bool} {ls : List Nat} {zs : List Int} {bs rest t : List UInt8} {s r x b N B m n bad : Nat}

theorem Ws.here (h : Ws w0 b l w o bs) : Ws w b o w o bs := ⟨h.blk, h.own, h.ne, Kp.refl _ _, fun _ hk => .inl hk⟩
theorem Ws.new (w : World) : Ws (w.alloc (.cells #[.slice none 0 0] 62)) w.heap.size ⟨none, 0, 0⟩ (w.alloc (.cells #[.slice none 0 0] 62)) ⟨none, 0, 0⟩ [] := (Ws.start w).here
theorem RF0 {b k : Nat} (h : RF b ⟨none, 0, 0⟩ k) : k = b := h.elim id (fun h => absurd h On.nil)
theorem beq_bs (a : List UInt8) : ((bs8 a).toList == (bs8 a).toList) = true := by rw [str_beq, decide_eq_true rfl]

theorem live11 (ht : Tab w) : IsK 36 #[] w (.bool true) := by
  refine c36 _ _ ?_
  unfold B36
  have hpos := ht.pos
  have kA : Kp no w (w.alloc (.cells #[.int .i64 3, .int .i64 4, .int .i64 7] 3)) := (Kp.refl _ _).alloc _ _
  have rA : RdZ (w.alloc (.cells #[.int .i64 3, .int .i64 4, .int .i64 7] 3)) ⟨some ⟨w.heap.size, 0, none⟩, 3, 3⟩ [3, 4, 7] := rdZ_lit w [3, 4, 7] (by simp) 3
  generalize w.alloc (.cells #[.int .i64 3, .int .i64 4, .int .i64 7] 3) = w1 at *
  have h1 := eNew0 rA (by simp) (.inl ⟨rfl, by unfold okE outE; decide⟩)
  refine use h1 ?_
  rintro _ w2 ⟨k2, s, ls, rfl, hz, hs⟩
  have hls : ls = [3, 4, 7] := by
    have := congrArg (List.map Int.toNat) hz
    rw [List.map_map] at this
    have e : (Int.toNat ∘ fun x : Nat => (x : Int)) = id := by funext x; simp
    rw [e, List.map_id] at this
    exact this.symm
  subst hls
  clear hz
  have hg := hs.good
  have s1 := kA.size
  have s2 := k2.size
  have kB : Kp no w2 (w2.alloc (.cells #[.slice none 0 0] 62)) := (Kp.refl _ _).alloc _ _
  have hW := Ws.new w2
  refine ⟨_, _, rfl, ?_⟩
  have t2 := ht.kpo (kA.t (k2.t kB))
  generalize w2.alloc (.cells #[.slice none 0 0] 62) = w3 at *
  refine use (putSeq hs (kB.mono (fun _ _ f => f.elim)) hW (fun k hk => by have := RF0 hk; omega) t2 (by simp) (by simp)) ?_
  rintro _ w4 ⟨rfl, o4, hW4⟩
  have hby : seqBytes [3, 4, 7] = [3, 7, 85, 1] := by decide +kernel
  rw [List.nil_append, hby] at hW4
  have k4 : Kp no w2 w4 := kB.trans hW4.kp (fun k h1 h2 => by have := RF0 h2; omega)
  refine ⟨rfl, use (openR w4 [3, 7, 85, 1] (by simp)) ?_⟩
  rintro _ w5 ⟨rfl, h5, k5⟩
  refine ⟨_, rfl, use (getSeq h5 (by simp)) ?_⟩
  rintro _ w6 ⟨k6, rest', bad', ms, hG, h6, hres⟩
  have hG2 := seqG_bytes hg (by simp) []
  rw [List.append_nil, hby] at hG2
  obtain ⟨rfl, rfl, rfl⟩ := hG.one hG2
  have s5 := k5.size
  have hW5 := hW4.kpo k5
  have hwl := hW5.blk.lt
  rcases hres with ⟨_, hb⟩ | ⟨_, s', B', rfl, hs', hB'⟩
  · exact absurd rfl hb
  have k46 : Kp no w4 w6 := k5.trans k6 (fun k h1 h2 => by omega)
  refine ⟨_, rfl, ?_⟩
  have hW6 := hW4.kpo k46
  refine usei (wBytes hW6) ⟨_, rfl, ?_⟩
  refine br_of (fun _ => ?_) (fun hh => ?_)
  · refine usei (eLen hs') ⟨_, rfl, br_y (by simp) (usek (eAt hs' (by simp) 1) fun w7 k7 => ⟨_, rfl, br_y (by decide) (usei (eLast (hs'.kpo k7)) ⟨_, rfl, by rw [show lastZ [3, 4, 7] = 7 by decide]; rfl, kA.t (k2.t (k4.t (k46.t k7)))⟩)⟩)⟩
  · have := beq_bs [3, 7, 85, 1]
    exact absurd (this.symm.trans hh) (by simp)

theorem seqbinSeqs (ht : Tab w) (h : RdZ w l zs) (t : List UInt8) : IsK 7 #[.slice l.a l.len l.cap, .string (bs8 t)] w (.bool true) := by
  refine c7 _ _ _ _ ?_
  unfold B7
  have hpos := ht.pos
  have hl := h.len
  rw [bs8_size]
  have lv : ∀ {V : World}, Kp no w V → Calls Tryd.prog 36 #[] V (Rv fun v1 w2 => ∃ b3 : Bool, v1 = .bool b3 ∧ (fun v w' => v = Value.bool true ∧ Kp no w w') (.bool b3) w2) := fun kV => usek (live11 (ht.kpo kV)) fun w3 k3 => ⟨true, rfl, rfl, kV.t k3⟩
  refine br_dec (fun _ => lv (Kp.refl _ _)) (fun h60 => br_dec (fun _ => lv (Kp.refl _ _)) (fun h200 => ?_))
  refine use (rWrong7 h (by omega)) ?_
  rintro _ w1 ⟨k1, e, rfl, he⟩
  refine ⟨_, rfl, br_not (br_dec (fun he0 => ?_) (fun _ => lv k1))⟩
  subst he0
  refine use (eNew0 (h.kpo k1) (by omega) he) ?_
  rintro _ w2 ⟨k2, s, ls, rfl, rfl, hs⟩
  rw [zl_len] at hl
  have hg := hs.good
  have s1 := k1.size
  have s2 := k2.size
  have kB : Kp no w2 (w2.alloc (.cells #[.slice none 0 0] 62)) := (Kp.refl _ _).alloc _ _
  have hW := Ws.new w2
  refine ⟨_, _, rfl, ?_⟩
  have t3 := ht.kpo (k1.t (k2.t kB))
  generalize w2.alloc (.cells #[.slice none 0 0] 62) = w3 at *
  refine use (putSeq hs (kB.mono (fun _ _ f => f.elim)) hW (fun k hk => by have := RF0 hk; omega) t3 (by omega) (by simp)) ?_
  rintro _ w4 ⟨rfl, o4, hW4⟩
  rw [List.nil_append] at hW4
  have k24 : Kp no w2 w4 := kB.trans hW4.kp (fun k h1 h2 => by have := RF0 h2; omega)
  have k04 := k1.t (k2.t k24)
  refine ⟨rfl, usei (wBytes hW4) ⟨_, rfl, usek (refSeq (h.kpo k04) hg (by omega)) fun w5 k5 => ⟨_, rfl, br_not ?_⟩⟩⟩
  rw [beq_bs]
  have hW5 := hW4.kpo k5
  have hwl := hW5.blk.lt
  have hbl : (seqBytes ls).length ≤ 100000 := by
    have e1 := enc_len ls.length
    have e2 := enc_len (wg ls (ls.length - 1))
    have e3 := rowBytes_len (seqBits ls)
    have e4 := seqBits_len hg
    have e5 := hiB_len hg
    have e6 : eW ls * ls.length ≤ 63 * 60 := Nat.mul_le_mul (eW_le hg) (by omega)
    have e7 := enc_len 0
    unfold seqBytes
    split
    · omega
    · rw [List.length_append, List.length_append]; omega
  refine usei (wBytes hW5) ⟨_, rfl, by rw [bs8_size]; omega, ?_⟩
  rw [bs8_append]
  refine use (openR w5 (seqBytes ls ++ t) (by rw [List.length_append]; omega)) ?_
  rintro _ w6 ⟨rfl, h6, k6⟩
  refine ⟨_, rfl, use (getSeq h6 (by rw [List.length_append]; omega)) ?_⟩
  rintro _ w7 ⟨k7, rest', bad', ms, hG, h7, hres⟩
  obtain ⟨rfl, rfl, rfl⟩ := hG.one (seqG_bytes hg (by omega) t)
  rcases hres with ⟨_, hb⟩ | ⟨_, s', B', rfl, hs', hB'⟩
  · exact absurd rfl hb
  have k57 : Kp no w5 w7 := k6.trans k7 (fun k h1 h2 => by omega)
  have k07 := k04.t (k5.t k57)
  refine ⟨_, rfl, fun i V => ∃ j : Nat, i = j ∧ j ≤ ms.length ∧ Kp no w7 V, fun i _ => (ms.length - i).toNat, ⟨0, rfl, by omega, Kp.refl _ _⟩, ?_⟩
  rintro i V ⟨j, rfl, hj, kV⟩
  refine br_dec (fun hlt => ?_) (fun hlt => ?_)
  · have kd := kV.drew
    obtain ⟨a, ha, hc⟩ := (h.kpo (k07.t kd)).at (i := (j : Int)) (by omega) (by omega)
    rw [Int.toNat_natCast, wz_zl] at hc
    refine ⟨by omega, by omega, a, ha, _, by rw [Int.toNat_natCast]; exact hc, usek (eAt (hs'.kpo kd) (by omega) _) fun w8 k8 => ⟨_, rfl, ?_⟩⟩
    rw [atZ_in (by omega)]
    obtain ⟨a2, ha2, hc2⟩ := (h.kpo (k07.t (kd.t k8))).at (i := (j : Int)) (by omega) (by omega)
    rw [ha] at ha2; cases ha2
    rw [Int.toNat_natCast, wz_zl] at hc2
    exact ⟨by rw [Int.toNat_natCast]; exact hc2, br_not (br_y rfl ⟨⟨j + 1, by rw [w64 ⟨by omega, by omega⟩]; omega, by omega, kd.t k8⟩, by rw [w64 ⟨by omega, by omega⟩]; dsimp only; omega⟩)⟩
  · have k0V := k07.t kV
    refine usei (eLen (hs'.kpo kV)) ⟨_, rfl, br_y (by omega) (usek (eSize (hs'.kpo kV) (by omega)) fun w8 k8 => ⟨_, rfl, ?_⟩)⟩
    refine usei (rSize7 (h.kpo (k0V.t k8)) hg (by omega)) ⟨_, rfl, br_y rfl (usek (qLeft (h7.kp (kV.t k8) (fun f => f))) fun w9 k9 => ⟨_, rfl, br_y rfl (usei (qErr (h7.kp (kV.t (k8.t k9)) (fun f => f))) ⟨_, rfl, br_y rfl (lv (k0V.t (k8.t k9)))⟩)⟩)⟩

theorem seqbinRows (ht : Tab w) {ps : List (Nat × Int)} (h : RdP w l ps) (t : List UInt8) (y : Int) (hy : -9223372036854775808 ≤ y ∧ y ≤ 9223372036854775807) : IsK 8 #[.slice l.a l.len l.cap, .string (bs8 t), .int .i64 y] w (.bool true) := by
  refine c8 _ _ _ _ _ ?_
  unfold B8
  have hpos := ht.pos
  rw [bs8_size]
  have lv : ∀ {V : World}, Kp no w V → Calls Tryd.prog 36 #[] V (Rv fun v1 w2 => ∃ b3 : Bool, v1 = .bool b3 ∧ (fun v w' => v = Value.bool true ∧ Kp no w w') (.bool b3) w2) := fun kV => usek (live11 (ht.kpo kV)) fun w3 k3 => ⟨true, rfl, rfl, kV.t k3⟩
  refine br_dec (fun _ => lv (Kp.refl _ _)) (fun h30 => br_dec (fun _ => lv (Kp.refl _ _)) (fun h300 => ?_))
  refine use (built h (by omega)) ?_
  rintro _ w1 ⟨r, lr, o, rfl, hr, ho, k1, fr, fo⟩
  have hbits := bitsOf_len ps []
  generalize bitsOf ps [] = bits at *
  have s1 := k1.size
  have hrb := ho.rdB
  have hol := hrb.len
  have hpl := h.len
  have hbl : bits.length ≤ 10000 := by simp only [List.length_nil] at hbits; omega
  refine ⟨_, o, _, rfl, brF ?_⟩
  have kB : Kp no w1 (w1.alloc (.cells #[.slice none 0 0] 62)) := (Kp.refl _ _).alloc _ _
  have hW := Ws.new w1
  generalize w1.alloc (.cells #[.slice none 0 0] 62) = w2 at *
  refine use (putRow hW ⟨r, rfl, lr, hr.kp kB (fun _ _ f => f)⟩ (by omega) (by simp)) ?_
  rintro _ w3 ⟨rfl, o3, hW3⟩
  rw [List.nil_append] at hW3
  have k13 : Kp no w1 w3 := kB.trans hW3.kp (fun k h1 h2 => by have := RF0 h2; omega)
  have hrl := rowBytes_len bits
  refine ⟨rfl, usei (wBytes hW3) ⟨_, rfl, by rw [bs8_size]; omega, ?_⟩⟩
  rw [bs8_append]
  refine use (openR w3 (rowBytes bits ++ t) (by rw [List.length_append]; omega)) ?_
  rintro _ w4 ⟨rfl, h4, k4⟩
  refine ⟨_, rfl, use (getRow h4 (o.len : Int) ⟨by omega, by omega⟩ (by rw [List.length_append]; omega)) ?_⟩
  have s3 := k13.size
  have hwl := (hW3.kpo k4).blk.lt
  have hwl3 := hW3.blk.lt
  rintro u w5 ⟨k5, h5, hu⟩
  have emx : (max (o.len : Int) 0).toNat = bits.length := by omega
  rw [emx, rowGet_bytes] at h5 hu
  dsimp only at h5 hu
  rcases hu with ⟨_, hb⟩ | ⟨p, rfl, ⟨lp, hp, fp⟩, _, _⟩
  · exact absurd rfl hb
  have k35 : Kp no w3 w5 := k4.trans k5 (fun k h1 h2 => by omega)
  have k15 := k13.t k35
  refine ⟨_, rfl, usei (wBytes (hW3.kpo k35)) ⟨_, rfl, usek (refRow (hrb.kp k15 (fun _ _ f => f)) (by omega)) fun w6 k6 => ⟨_, rfl, br_not ?_⟩⟩⟩
  rw [beq_bs]
  have hsame := same1 (hp.kp k6 (fun _ _ f => f)) (hr.kp (k15.t k6) (fun _ _ f => f)) (by omega)
  rw [decide_eq_true ⟨rfl, rfl⟩] at hsame
  refine usek hsame fun w7 k7 => ⟨_, rfl, brF (usek (qLeft (h5.kp (k6.t k7) (fun f => f))) fun w8 k8 => ⟨_, rfl, br_not (br_y rfl (usei (qErr (h5.kp (k6.t (k7.t k8)) (fun f => f))) ⟨_, rfl, br_not (br_y rfl ?_)⟩))⟩)⟩
  have k08 := k1.t (k15.t (k6.t (k7.t k8)))
  -- any bytes
  have xb := Blk.new w8 [.string (bs8 t), .int .i64 0] 80
  have kx : Kp no w8 (w8.alloc (.cells #[.string (bs8 t), .int .i64 0] 80)) := (Kp.refl _ _).alloc _ _
  have hx : RfS (w8.alloc (.cells #[.string (bs8 t), .int .i64 0] 80)) w8.heap.size t 0 := ⟨xb, by omega⟩
  generalize w8.alloc (.cells #[.string (bs8 t), .int .i64 0] 80) = w9 at *
  refine use (refGetRow hx y hy (by omega)) ?_
  rintro _ wA ⟨kA, hA, oA, rfl, hoA, foA⟩
  have k0A : Kp no w wA := (k08.t kx).trans kA (fun k h1 h2 => by have := k08.size; omega)
  refine ⟨oA, rfl, use (openR wA t (by omega)) ?_⟩
  rintro _ wB ⟨rfl, hB, kB2⟩
  refine ⟨_, rfl, use (getRow hB y hy (by omega)) ?_⟩
  rintro u wC ⟨kC, hC, hu⟩
  have sA := (k08.t kx).size
  have sA2 := k0A.size
  have hxl := hA.1.lt
  have kAC : Kp no wA wC := kB2.trans kC (fun k h1 h2 => by omega)
  have hAC := hA.kp kAC (fun f => f)
  have hrl2 := rowGet_le (rest := t) (bad := 0) (m := (max y 0).toNat)
  obtain ⟨rest3, bad3, bits3, hq⟩ : ∃ rest3 bad3 bits3, rowGet t 0 (max y 0).toNat = (rest3, bad3, bits3) := ⟨_, _, _, rfl⟩
  rw [hq] at hC hu hA hoA hAC hrl2
  dsimp only at hC hu hA hoA hAC hrl2
  have k0C := k0A.t kAC
  have kd : Kp no wC wC.drew := (Kp.refl _ _).drew
  rcases hu with ⟨rfl, hb⟩ | ⟨p2, rfl, ⟨lp2, hp2, fp2⟩, hb, hbl3⟩
  · refine ⟨_, rfl, _, hAC.1.cell 1, br_not (br_n (by omega) ?_)⟩
    have hAd := hAC.kp kd (fun f => f)
    exact ⟨_, hAd.1.cell 1, usei (qErr (hC.kp kd (fun f => f))) ⟨_, rfl, hAd.1.cell 1, br_y rfl (lv (k0C.t kd))⟩⟩
  · subst hb
    have ho3 := (hoA.kp kAC (fun _ _ f => f)).rdB
    have ho3l := ho3.len
    obtain ⟨hm8, _⟩ := hrl2 rfl
    refine ⟨_, rfl, _, hAC.1.cell 1, br_not (br_y rfl (usei (qErr (hC.kp kd (fun f => f))) ⟨_, rfl, br_y rfl (usei (len1 (hp2.kp kd (fun _ _ f => f))) ⟨_, rfl, br_y (by omega) (use (words1 (hp2.kp kd (fun _ _ f => f)) (by omega)) ?_)⟩)⟩))⟩
    rintro _ wD ⟨oD, rfl, hoD, kD, fD⟩
    refine ⟨oD, rfl, use (words2 (ho3.kp (kd.t kD) (fun _ _ f => f)) (by omega)) ?_⟩
    rintro _ wE ⟨oE, rfl, hoE, kE, fE⟩
    have hDl := (hoD.rdW (fun x hx => wordsOf_lt hx)).len
    rw [length_wordsOf] at hDl
    have hs2 := same2 ((hoD.rdW (fun x hx => wordsOf_lt hx)).kp kE (fun _ _ f => f)) (hoE.rdW (fun x hx => wordsOf_lt hx)) (by omega)
    rw [decide_eq_true rfl] at hs2
    refine ⟨oE, rfl, usek hs2 fun wF kF => ⟨true, rfl, ?_⟩⟩
    have kCF := kd.t (kD.t (kE.t kF))
    have hAF := hAC.kp kCF (fun f => f)
    refine ⟨_, hAF.1.cell 0, usek (qLeft (hC.kp kCF (fun f => f))) fun wG kG => ⟨_, rfl, (hAF.kp kG (fun f => f)).1.cell 0, ?_⟩⟩
    rw [bs8_size]
    exact br_y rfl (lv (k0C.t (kCF.t kG)))
end Go.Proofs.YtomajpihimlcjaaDoor.V
