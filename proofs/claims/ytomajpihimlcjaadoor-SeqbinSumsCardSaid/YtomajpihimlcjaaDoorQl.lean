/- The law on sums as bytes (doors only). -/
import Derived.Test.YtomajpihimlcjaaDoorQj
import Derived.Test.YtomajpihimlcjaaDoorBK
namespace Go.VC
open Go
theorem sumsOf_inj {a b : List Nat} (h : sumsOf a = sumsOf b) : a = b := by
  have hl : a.length = b.length := by have := congrArg List.length h; rw [sumsOf_len, sumsOf_len] at this; omega
  apply List.ext_getElem hl
  intro i h1 h2
  have e : ∀ j, j ≤ a.length → S0 a j = S0 b j := fun j hj => by
    have : wg (sumsOf a) j = wg (sumsOf b) j := by rw [h]
    rwa [sumsOf_at hj, sumsOf_at (by omega)] at this
  have e1 := e i (by omega)
  have e2 := e (i + 1) (by omega)
  rw [S0_succ h1, S0_succ h2] at e2
  have : wg a i = wg b i := by omega
  unfold wg at this
  rwa [List.getElem?_eq_getElem h1, List.getElem?_eq_getElem h2] at this
end Go.VC
namespace Go.Proofs.YtomajpihimlcjaaDoor.V
open Go Go.VC
variable {w w' w0 W W' wC : World} {l o lr l1 l2 : Slc} {b1 b2 bits : List Bool} {ls xs ws ds : List Nat} {zs : List Int} {bs rest t : List UInt8} {s r x b p q wd N B m n bad : Nat}

theorem seqbinSums (ht : Tab w) (h : RdZ w l zs) (t : List UInt8) : IsK 11 #[.slice l.a l.len l.cap, .string (bs8 t)] w (.bool true) := by
  refine c11 _ _ _ _ ?_
  unfold B11
  have hpos := ht.pos
  have hl := h.len
  rw [bs8_size]
  have lv : ∀ {V : World}, Kp no w V → Calls Tryd.prog 36 #[] V (Rv fun v1 w2 => ∃ b3 : Bool, v1 = .bool b3 ∧ (fun v w' => v = Value.bool true ∧ Kp no w w') (.bool b3) w2) := fun kV => usek (live11 (ht.kpo kV)) fun w3 k3 => ⟨true, rfl, rfl, kV.t k3⟩
  -- what nothing is put as
  have nn : ∀ {V : World}, Kp no w V → N11 V (fun v w' => v = Value.bool true ∧ Kp no w w') := fun {V} kV => by
    unfold N11
    have kB : Kp no V (V.alloc (.cells #[.slice none 0 0] 62)) := (Kp.refl _ _).alloc _ _
    have hW := Ws.new V
    have sV := kV.size
    have sB : (V.alloc (.cells #[.slice none 0 0] 62)).heap.size = V.heap.size + 1 := World.size_alloc _ _
    generalize V.alloc (.cells #[.slice none 0 0] 62) = w1 at *
    have f0 : ∀ k, RF V.heap.size ⟨none, 0, 0⟩ k → V.heap.size ≤ k := fun k hk => by have := RF0 hk; omega
    refine use (putRowN hW (by simp)) ?_
    rintro _ w2 ⟨rfl, o2, h2⟩
    have k2 : Kp no V w2 := kB.trans h2.kp (fun k h1 h2 => by have := f0 k h2; omega)
    have f2 : ∀ k, RF V.heap.size o2 k → V.heap.size ≤ k := fun k hk => by
      rcases hk with rfl | hk
      · omega
      · rcases h2.fr k hk with g | g
        · exact f0 k (.inr g)
        · omega
    refine ⟨rfl, use (putPackN h2.here (by simp)) ?_⟩
    rintro _ w3 ⟨rfl, o3, h3⟩
    have k3 : Kp no V w3 := k2.trans h3.kp (fun k h1 h2 => by have := f2 k h2; omega)
    have s2 := k2.size
    have f3 : ∀ k, RF V.heap.size o3 k → V.heap.size ≤ k := fun k hk => by
      rcases hk with rfl | hk
      · omega
      · rcases h3.fr k hk with g | g
        · exact f2 k (.inr g)
        · omega
    have el := enc_len 0
    refine ⟨rfl, use (putSeqN h3.here (by simp only [List.length_append, List.length_nil]; omega)) ?_⟩
    rintro _ w4 ⟨rfl, o4, h4⟩
    have k4 : Kp no V w4 := k3.trans h4.kp (fun k h1 h2 => by have := f3 k h2; omega)
    have s3 := k3.size
    have f4 : ∀ k, RF V.heap.size o4 k → V.heap.size ≤ k := fun k hk => by
      rcases hk with rfl | hk
      · omega
      · rcases h4.fr k hk with g | g
        · exact f3 k (.inr g)
        · omega
    refine ⟨rfl, use (putSumsN h4.here (fun k hk => by have := f4 k hk; omega) (ht.kpo (kV.t k4)) (by simp only [List.length_append, List.length_nil]; omega)) ?_⟩
    rintro _ w5 ⟨rfl, o5, h5⟩
    have k5 : Kp no V w5 := k4.trans h5.kp (fun k h1 h2 => by have := f4 k h2; omega)
    have hby : ([] ++ [] ++ enc 0 ++ enc 0 ++ enc 0 ++ seqBytes [0] : List UInt8) = [0, 0, 0, 1, 0, 1] := by decide +kernel
    have h5' := wBytes h5
    rw [hby] at h5'
    refine ⟨rfl, usei h5' ⟨_, rfl, ?_⟩⟩
    have hq := beq_bs [0, 0, 0, 1, 0, 1]
    refine br_of (fun _ => lv (kV.t k5)) (fun hh => ?_)
    exact absurd (hq.symm.trans hh) (by simp)
  refine br_dec (fun _ => lv (Kp.refl _ _)) (fun h40 => br_dec (fun _ => lv (Kp.refl _ _)) (fun h200 => ?_))
  -- any bytes
  have tail : ∀ {V : World} {X bad1 bad2 : Nat} {rest2 : List UInt8} {oS : Slc} {ms : List Nat}, Kp no w V → w.heap.size ≤ X → RfS V X rest2 bad2 → SeqG t 0 rest2 bad1 ms → Ownd V oS 3 1 (ms.map IV) →
      ((bad1 ≠ 0 ∧ bad2 = bad1) ∨ (bad1 = 0 ∧ (ms.length = 0 ∨ wg ms 0 ≠ 0) ∧ bad2 = 3) ∨ (bad1 = 0 ∧ 0 < ms.length ∧ wg ms 0 = 0 ∧ bad2 = 0)) →
      K11 (bs8 t) X oS V (fun v w' => v = Value.bool true ∧ Kp no w w') := fun {V X bad1 bad2 rest2 oS ms} kV hX hRf hG hoS hcase => by
    unfold K11
    have sV := kV.size
    have hXl := hRf.1.lt
    refine use (openR V t (by omega)) ?_
    rintro _ w1 ⟨rfl, h1, k1⟩
    refine ⟨_, rfl, use (getSums h1 (by omega) (ht.kpo (kV.t k1)) (by omega)) ?_⟩
    rintro u w2 ⟨k2, r2, b2, ls2, hG2, hu⟩
    obtain ⟨rfl, rfl, rfl⟩ := hG2.one hG
    have k12 : Kp no V w2 := k1.trans k2 (fun k h1 h2 => by omega)
    have k02 := kV.t k12
    have kd : Kp no w2 w2.drew := (Kp.refl _ _).drew
    have hRd := (hRf.kp k12 (fun f => f)).kp kd (fun f => f)
    have k0d := k02.t kd
    have hms := hG.len8.1
    rcases hu with ⟨hb, rfl, h2⟩ | ⟨hb, hz, rfl, h2⟩ | ⟨hb, hn, hz, h2, p, B, ds, rfl, hp, hds, hB⟩
    · have hb2 : bad2 = b2 := by
        rcases hcase with ⟨_, g⟩ | ⟨g, _⟩ | ⟨g, _⟩
        · exact g
        · exact absurd g hb
        · exact absurd g hb
      subst hb2
      exact ⟨_, rfl, _, hRd.1.cell 1, usei (qErr (h2.kp kd (fun f => f))) ⟨_, rfl, hRd.1.cell 1, br_not (br_y rfl ⟨_, hRd.1.cell 1, br_not (br_n (by omega) ⟨_, hRd.1.cell 1, br_n (by omega) (nn k0d)⟩)⟩)⟩⟩
    · subst hb
      have hb2 : bad2 = 3 := by
        rcases hcase with ⟨g, _⟩ | ⟨_, _, g⟩ | ⟨_, g1, g2, _⟩
        · exact absurd rfl g
        · exact g
        · rcases hz with e | e
          · omega
          · exact absurd g2 e
      subst hb2
      exact ⟨_, rfl, _, hRd.1.cell 1, usei (qErr (h2.kp kd (fun f => f))) ⟨_, rfl, hRd.1.cell 1, br_not (br_y rfl ⟨_, hRd.1.cell 1, br_not (br_n (by omega) ⟨_, hRd.1.cell 1, br_n (by omega) (nn k0d)⟩)⟩)⟩⟩
    · subst hb
      have hb2 : bad2 = 0 := by
        rcases hcase with ⟨g, _⟩ | ⟨_, g, _⟩ | ⟨_, _, _, g⟩
        · exact absurd rfl g
        · rcases g with e | e
          · omega
          · exact absurd hz e
        · exact g
      subst hb2
      have hpd := hp.kpo kd
      have hdl : ds.length + 1 = ls2.length := by rw [← hds, sumsOf_len]
      have hoV := (hoS.kp k12 (fun _ _ f => f)).kp kd (fun _ _ f => f)
      have hol := hoV.rdI.len
      have e1 : IntKind.i64.wrap ((oS.len : Int) - 1) = ((ds.length : Nat) : Int) := by rw [w64 ⟨by omega, by omega⟩]; omega
      refine ⟨_, rfl, _, hRd.1.cell 1, usei (qErr (h2.kp kd (fun f => f))) ⟨_, rfl, hRd.1.cell 1, br_not (br_y rfl ⟨_, hRd.1.cell 1, br_not (br_y rfl ⟨_, hRd.1.cell 1, br_y rfl (usei (xLen hpd (by omega)) ⟨_, rfl, ?_⟩)⟩)⟩)⟩⟩
      rw [e1]
      obtain ⟨a, ha, hc⟩ := hoV.rdI.at (i := ((ds.length : Nat) : Int)) (by omega) (by omega)
      rw [Int.toNat_natCast] at hc
      have hwl : wg ls2 ds.length = ds.sum := by rw [← hds, sumsOf_at (Nat.le_refl _), S0_all]
      refine br_not (br_y rfl ⟨by omega, by omega, a, ha, _, by rw [Int.toNat_natCast]; exact hc, usei (xTotal hpd) ⟨_, rfl, by rw [Int.toNat_natCast]; exact hc, br_not (br_y (by rw [hwl]) (nn k0d))⟩⟩)
  refine use (rSums9 h (by omega)) ?_
  rintro _ w1 ⟨k1, ⟨rfl, _⟩ | ⟨o, ls, rfl, rfl, hsum, ho⟩⟩
  · exact ⟨⟨none, 0, 0⟩, _, rfl, brT (lv k1)⟩
  rw [zl_len] at hl
  refine ⟨o, _, rfl, brF (use (xNew0 (h.kpo k1) (by omega) hsum) ?_)⟩
  rintro _ w2 ⟨k2, p, rfl, hp⟩
  refine ⟨_, _, rfl, ?_⟩
  have kB : Kp no w2 (w2.alloc (.cells #[.slice none 0 0] 62)) := (Kp.refl _ _).alloc _ _
  have hW := Ws.new w2
  have s1 := k1.size
  have s2 := k2.size
  have t3 := ht.kpo (k1.t (k2.t kB))
  generalize w2.alloc (.cells #[.slice none 0 0] 62) = w3 at *
  refine use (putSums hp (kB.mono (fun _ _ f => f.elim)) hW (fun k hk => by have := RF0 hk; omega) t3 (by omega) (by simp)) ?_
  rintro _ w4 ⟨rfl, o4, hW4⟩
  rw [List.nil_append] at hW4
  have k24 : Kp no w2 w4 := kB.trans hW4.kp (fun k h1 h2 => by have := RF0 h2; omega)
  have hgs := sumsOf_good hsum
  have hsl := sumsOf_len ls
  have hbl : (seqBytes (sumsOf ls)).length ≤ 100000 := by
    have e1 := enc_len (sumsOf ls).length
    have e2 := enc_len (wg (sumsOf ls) ((sumsOf ls).length - 1))
    have e3 := rowBytes_len (seqBits (sumsOf ls))
    have e4 := seqBits_len hgs
    have e5 := hiB_len hgs
    have e6 : eW (sumsOf ls) * (sumsOf ls).length ≤ 63 * 60 := Nat.mul_le_mul (eW_le hgs) (by omega)
    have e7 := enc_len 0
    unfold seqBytes
    split
    · omega
    · rw [List.length_append, List.length_append]; omega
  refine ⟨rfl, usei (wBytes hW4) ⟨_, rfl, use (openR w4 (seqBytes (sumsOf ls)) (by omega)) ?_⟩⟩
  rintro _ w5 ⟨rfl, h5, k5⟩
  have k05 := k1.t (k2.t (k24.t k5))
  have s24 := k24.size
  refine ⟨_, rfl, use (getSums h5 (by omega) (ht.kpo k05) (by omega)) ?_⟩
  rintro u w6 ⟨k6, r6, b6, ls6, hG6, hu⟩
  have hG7 := seqG_bytes hgs (by omega) []
  rw [List.append_nil] at hG7
  obtain ⟨rfl, rfl, rfl⟩ := hG6.one hG7
  have hwl := (hW4.kpo k5).blk.lt
  have hwl4 := hW4.blk.lt
  have k46 : Kp no w4 w6 := k5.trans k6 (fun k h1 h2 => by omega)
  have k06 := k1.t (k2.t (k24.t k46))
  have hz0 : wg (sumsOf ls) 0 = 0 := by rw [sumsOf_at (Nat.zero_le _)]; rfl
  rcases hu with ⟨hb, _⟩ | ⟨_, hz, _⟩ | ⟨_, hn, _, h6, q, B, ds, rfl, hq, hds, hB⟩
  · exact absurd rfl hb
  · rcases hz with e | e
    · omega
    · exact absurd hz0 e
  have hds := sumsOf_inj hds
  subst hds
  have kd : Kp no w6 w6.drew := (Kp.refl _ _).drew
  have k16 : Kp no w1 w6.drew := k2.t (k24.t (k46.t kd))
  refine ⟨_, rfl, usei (wBytes ((hW4.kpo k46).kpo kd)) ⟨_, rfl, usek (refSeq (ho.kpo k16) hgs (by omega)) fun w7 k7 => ⟨_, rfl, br_not ?_⟩⟩⟩
  rw [beq_bs]
  have hq7 := (hq.kpo kd).kpo k7
  have hol := ho.len
  rw [zl_len] at hol
  obtain ⟨a, ha, hc⟩ := (ho.kpo (k16.t k7)).at (i := (l.len : Int)) (by omega) (by omega)
  rw [Int.toNat_natCast, wz_zl, ← hl, sumsOf_at (Nat.le_refl _), S0_all] at hc
  refine usei (xLen hq7 (by omega)) ⟨_, rfl, br_not (br_y (by omega) ⟨by omega, by omega, a, ha, _, by rw [Int.toNat_natCast, ← hl]; exact hc, usei (xTotal hq7) ⟨_, rfl, by rw [Int.toNat_natCast, ← hl]; exact hc, br_not (br_y rfl ?_)⟩⟩)⟩
  have k07 := k06.t (kd.t k7)
  refine ⟨fun i V => ∃ j : Nat, i = j ∧ j ≤ ds.length ∧ Kp no w7 V, fun i _ => (ds.length - i).toNat, ⟨0, rfl, by omega, Kp.refl _ _⟩, ?_⟩
  rintro i V ⟨j, rfl, hj, kV⟩
  refine br_dec (fun hlt => ?_) (fun hlt => ?_)
  · have kVd := kV.drew
    obtain ⟨a, ha, hc⟩ := (h.kpo (k07.t kVd)).at (i := (j : Int)) (by omega) (by omega)
    rw [Int.toNat_natCast, wz_zl] at hc
    refine ⟨by omega, by omega, a, ha, _, by rw [Int.toNat_natCast]; exact hc, usek (xAt (hq7.kpo kVd) (by omega) _) fun w8 k8 => ⟨_, rfl, ?_⟩⟩
    rw [atZ_in (by omega)]
    obtain ⟨a2, ha2, hc2⟩ := (h.kpo (k07.t (kVd.t k8))).at (i := (j : Int)) (by omega) (by omega)
    rw [ha] at ha2; cases ha2
    rw [Int.toNat_natCast, wz_zl] at hc2
    exact ⟨by rw [Int.toNat_natCast]; exact hc2, br_not (br_y rfl ⟨⟨j + 1, by rw [w64 ⟨by omega, by omega⟩]; omega, by omega, kVd.t k8⟩, by rw [w64 ⟨by omega, by omega⟩]; dsimp only; omega⟩)⟩
  · have k0V := k07.t kV
    have sV := k0V.size
    have xb := Blk.new V [.string (bs8 t), .int .i64 0] 80
    have kx : Kp no V (V.alloc (.cells #[.string (bs8 t), .int .i64 0] 80)) := (Kp.refl _ _).alloc _ _
    have hx : RfS (V.alloc (.cells #[.string (bs8 t), .int .i64 0] 80)) V.heap.size t 0 := ⟨xb, by omega⟩
    generalize V.alloc (.cells #[.string (bs8 t), .int .i64 0] 80) = w8 at *
    refine use (refGetSeq hx (by omega)) ?_
    rintro _ w9 ⟨k9, r9, b9, ms, hG9, h9, o9, rfl, ho9, fo9⟩
    have k09 : Kp no w w9 := (k0V.t kx).trans k9 (fun k h1 h2 => by omega)
    have hml := ho9.rdI.len
    have hm8 := hG9.len8.1
    refine ⟨o9, rfl, _, h9.1.cell 1, br_dec (fun hb0 => ?_) (fun hb0 => tail k09 sV h9 hG9 ho9 (.inl ⟨by omega, rfl⟩))⟩
    have hb9 : b9 = 0 := by omega
    subst hb9
    have bads : (ms.length = 0 ∨ wg ms 0 ≠ 0) → K11 (bs8 t) V.heap.size o9 (w9.setCell (Addr.add ⟨V.heap.size, 0, none⟩ 1) (.int .i64 3)) (fun v w' => v = Value.bool true ∧ Kp no w w') := fun hz => by
      obtain ⟨hA, kA⟩ := xBad h9 3
      refine tail (k09.trans kA (fun k h1 h2 => by omega)) sV hA hG9 (ho9.kp kA (fun k hk he => ?_)) (.inr (.inl ⟨rfl, hz, rfl⟩))
      have := fo9 k hk
      have := hx.1.lt
      omega
    refine br_dec (fun hl0 => ⟨⟨_, h9.1.cell 1⟩, h9.1.frozen 1, bads (.inl (by omega))⟩) (fun hl0 => ?_)
    obtain ⟨a, ha, hc⟩ := ho9.rdI.at (i := 0) (by omega) (by omega)
    refine ⟨by omega, by omega, a, ha, _, hc, br_not (br_dec (fun hz => ?_) (fun hz => ⟨⟨_, h9.1.cell 1⟩, h9.1.frozen 1, bads (.inr fun e => hz (by show ((wg ms 0 : Nat) : Int) = 0; rw [e]; rfl))⟩))⟩
    have hz : ((wg ms 0 : Nat) : Int) = 0 := hz
    exact tail k09 sV h9 hG9 ho9 (.inr (.inr ⟨rfl, by omega, by omega, rfl⟩))
end Go.Proofs.YtomajpihimlcjaaDoor.V
