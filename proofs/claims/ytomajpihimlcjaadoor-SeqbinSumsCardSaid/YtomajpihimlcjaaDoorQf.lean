/- Sequences as bytes: the plain ones (doors only). -/
import Derived.Test.YtomajpihimlcjaaDoorQe
namespace Go.Proofs.YtomajpihimlcjaaDoor.V
open Go Go.VC
variable {w w' w0 W W' wC : World} {l o lr l1 l2 : Slc} {b1 b2 bits : List Bool} {ls : List Nat} {zs : List Int} {bs rest : List UInt8} {s r x b N B m n bad : Nat}

theorem refUpper (w : World) (v k : Nat) (hv : v ≤ 4611686018427387904) (hk : k ≤ 63) : Is 131 #[.int .i64 v, .int .i64 k] w (.int .i64 ((v / 2 ^ k : Nat) : Int)) := by
  refine c131 _ _ _ _ ?_
  unfold B131
  refine ⟨fun y i w' => w' = w ∧ ∃ j : Nat, i = j ∧ j ≤ k ∧ y = ((v / 2 ^ j : Nat) : Int), fun _ i _ => (k - i).toNat, ⟨rfl, 0, rfl, by omega, by simp⟩, ?_⟩
  rintro y i w1 ⟨rfl, j, rfl, hj, rfl⟩
  have hle : v / 2 ^ j ≤ v := Nat.div_le_self _ _
  refine br_dec (fun hlt => ⟨by omega, ⟨rfl, j + 1, by rw [w64 (x := (j : Int) + 1) ⟨by omega, by omega⟩]; omega, by omega, ?_⟩, by rw [w64 (x := (j : Int) + 1) ⟨by omega, by omega⟩]; dsimp only; omega⟩) (fun hlt => ?_)
  · rw [Nat.pow_succ, ← Nat.div_div_eq_div_mul]
    generalize v / 2 ^ j = z at *
    rw [Int.tdiv_eq_ediv_of_nonneg (by omega), w64 ⟨by omega, by omega⟩]; omega
  · obtain rfl : j = k := by omega
    exact ⟨rfl, rfl⟩

theorem refBits (h : RdZ w l (zl ls)) (hg : GoodL ls) (hsz : ls.length ≤ 1100000) : Calls Tryd.prog 111 #[.slice l.a l.len l.cap] w (Rv fun v w' => ∃ o : Slc, v = .slice o.a o.len o.cap ∧
    Ownd w' o 4 1 ((seqBits ls).map Value.bool) ∧ Kp no w w' ∧ ∀ k, On o k → w.heap.size ≤ k) := by
  refine c111 _ _ _ ?_
  unfold B111
  have hl := h.len
  rw [zl_len] at hl
  have hW := eW_le hg
  have hu := upl_mono hg (eW ls)
  have hhl := hiB_len hg
  refine br_dec (fun h0 => ?_) (fun h0 => ?_)
  · have : ls = [] := List.length_eq_zero_iff.1 (by omega)
    subst this
    exact ⟨⟨none, 0, 0⟩, rfl, Ownd.nil _ _ _, Kp.refl _ _, fun k hk => absurd hk On.nil⟩
  have hn : 0 < ls.length := by omega
  have e1 : IntKind.i64.wrap ((l.len : Int) - 1) = ((ls.length - 1 : Nat) : Int) := by rw [w64 ⟨by omega, by omega⟩]; omega
  rw [e1]
  obtain ⟨a, ha, hc⟩ := h.at (i := ((ls.length - 1 : Nat) : Int)) (by omega) (by omega)
  rw [Int.toNat_natCast, wz_zl] at hc
  have hlast := wg_le hg (ls.length - 1)
  refine ⟨by omega, by omega, a, ha, _, by rw [Int.toNat_natCast]; exact hc, ?_⟩
  have hLow := rLow7 w (l.len : Int) ((wg ls (ls.length - 1) : Nat) : Int) (by omega) (by omega)
  have eW' : lowW (l.len : Int) ((wg ls (ls.length - 1) : Nat) : Int) = eW ls := by unfold eW lastZ; rw [if_neg (by omega), hl]
  rw [eW'] at hLow
  refine usei hLow ⟨_, rfl, ?_⟩
  have hpk : ∀ m, (pkBits (eW ls) ((ls.map (· % 2 ^ eW ls)).take m)).length ≤ 70400000 := fun m => by
    rw [pk_len, List.length_take, List.length_map]
    have : eW ls * min m ls.length ≤ 64 * 1100000 := Nat.mul_le_mul (by omega) (by omega)
    omega
  refine ⟨fun q1 q2 u i w' => ∃ m : Nat, i = m ∧ m ≤ ls.length ∧ u = ((prv (upl ls (eW ls)) m : Nat) : Int) ∧ Ownd w' q1 4 1 ((pkBits (eW ls) ((ls.map (· % 2 ^ eW ls)).take m)).map Value.bool) ∧ Ownd w' q2 4 1 ((hb (upl ls (eW ls)) m).map Value.bool) ∧ Kp no w w',
    fun _ _ _ i _ => (ls.length - i).toNat, ⟨0, rfl, by omega, rfl, Ownd.nil _ _ _, Ownd.nil _ _ _, Kp.refl _ _⟩, ?_⟩
  rintro q1 q2 u i w1 ⟨m, rfl, hm, rfl, hq1, hq2, k1⟩
  have hl1 := hq1.rdB.len
  have hl2 := hq2.rdB.len
  refine br_dec (fun hlt => ?_) (fun hlt => ?_)
  · have hm' : m < ls.length := by omega
    obtain ⟨a, ha, hc⟩ := (h.kpo k1).at (i := (m : Int)) (by omega) (by omega)
    rw [Int.toNat_natCast, wz_zl] at hc
    have hwm := wg_le hg m
    have hpm := hpk m
    have hup := upl_lt hg hm'
    have hprv := prv_le hu hm'
    have hbl := hb_len (hu.le (Nat.le_of_lt hm'))
    refine ⟨by omega, by omega, a, ha, _, by rw [Int.toNat_natCast]; exact hc, ?_⟩
    rw [wu64 (x := ((wg ls m : Nat) : Int)) ⟨by omega, by omega⟩]
    refine use (add2 hq1.rdB (by omega) (wg ls m) (by omega) (eW ls) (by omega)) ?_
    rintro _ w2 ⟨o1, rfl, ho1, k2, f2⟩
    have epk : pkBits (eW ls) ((ls.map (· % 2 ^ eW ls)).take m) ++ lowb (wg ls m) (eW ls) = pkBits (eW ls) ((ls.map (· % 2 ^ eW ls)).take (m + 1)) := by
      have hmm : m < (ls.map (· % 2 ^ eW ls)).length := by rw [List.length_map]; exact hm'
      rw [List.take_add_one, List.getElem?_eq_getElem hmm]
      show _ = pkBits (eW ls) ((ls.map (· % 2 ^ eW ls)).take m ++ [(ls.map (· % 2 ^ eW ls))[m]])
      rw [pk_snoc, List.getElem_map, lowb_mod]
      congr 2
      unfold wg; rw [List.getElem?_eq_getElem hm']; rfl
    rw [epk] at ho1
    refine ⟨o1, rfl, fun q c V => ∃ d : Nat, c = d ∧ prv (upl ls (eW ls)) m ≤ d ∧ d ≤ upl ls (eW ls) m ∧ Ownd V q 4 1 ((hb (upl ls (eW ls)) m ++ List.replicate (d - prv (upl ls (eW ls)) m) false).map Value.bool) ∧ Kp no w2 V,
      fun _ c _ => ((upl ls (eW ls) m : Nat) - c).toNat, ⟨_, rfl, Nat.le_refl _, hprv, by rw [Nat.sub_self]; simpa using hq2.kp k2 (fun _ _ f => f), Kp.refl _ _⟩, ?_⟩
    rintro q c V ⟨d, rfl, hd1, hd2, hq, kV⟩
    have hql := hq.rdB.len
    rw [List.length_append, List.length_replicate] at hql
    obtain ⟨a2, ha2, hc2⟩ := ((h.kpo (k1.t k2)).kpo kV).at (i := (m : Int)) (by omega) (by omega)
    rw [Int.toNat_natCast, wz_zl] at hc2
    have hU := refUpper V (wg ls m) (eW ls) (by omega) (by omega)
    refine ⟨by omega, by omega, a2, ha2, _, by rw [Int.toNat_natCast]; exact hc2, usei hU ⟨_, rfl, ?_⟩⟩
    have hul : wg ls m / 2 ^ eW ls = upl ls (eW ls) m := rfl
    rw [hul]
    refine br_dec (fun hlt2 => ?_) (fun hlt2 => ?_)
    · refine use (add2 hq.rdB (by omega) 0 (by omega) 1 (by omega)) ?_
      rintro _ w3 ⟨o3, rfl, ho3, k3, f3⟩
      refine ⟨o3, rfl, ⟨d + 1, by rw [w64 ⟨by omega, by omega⟩]; omega, by omega, by omega, ?_, kV.t k3⟩, by rw [w64 ⟨by omega, by omega⟩]; dsimp only; omega⟩
      rw [lowb_zero1, List.append_assoc, rep_snoc, show d - prv (upl ls (eW ls)) m + 1 = d + 1 - prv (upl ls (eW ls)) m by omega] at ho3
      exact ho3
    · obtain rfl : d = upl ls (eW ls) m := by omega
      refine use (add2 hq.rdB (by omega) 1 (by omega) 1 (by omega)) ?_
      rintro _ w3 ⟨o3, rfl, ho3, k3, f3⟩
      refine ⟨o3, rfl, ⟨m + 1, by rw [w64 ⟨by omega, by omega⟩]; omega, by omega, by rw [prv_succ], ho1.kp (kV.t k3) (fun _ _ f => f), ?_, k1.t (k2.t (kV.t k3))⟩, by rw [w64 ⟨by omega, by omega⟩]; dsimp only; omega⟩
      rw [lowb_one, List.append_assoc] at ho3
      exact ho3
  · obtain rfl : m = ls.length := by omega
    rw [List.take_of_length_le (by rw [List.length_map]; omega)] at hq1 hl1
    have hp := hpk ls.length
    rw [List.take_of_length_le (by rw [List.length_map]; omega)] at hp
    have h1 := hq1.rdB
    have h2 := hq2.rdB
    have hbl : (hb (upl ls (eW ls)) ls.length).length ≤ 3 * ls.length := hhl
    obtain ⟨w2, o2, hr2, ho2, hlo2, k2, f2⟩ := append_rd (ty := 39) elB (by omega) (Ownd.empty w1 4 1) q1 (news := (pkBits (eW ls) (ls.map (· % 2 ^ eW ls))).map Value.bool) (by simp [hl1])
      (h1.rd.kp ((Kp.refl no w1).alloc #[] 4) (fun _ _ f => f)) (fun u hu => by obtain ⟨b, _, rfl⟩ := List.mem_map.1 hu; rfl) (by simp only [maxLen]; omega) (by simp only; omega)
    have k12 : Kp no w1 w2 := ((Kp.refl no w1).alloc _ _).trans k2 (fun k hlt hkk => by obtain ⟨a, ha, rfl⟩ := hkk; cases ha; exact absurd hlt (by simp))
    obtain ⟨w3, o3, hr3, ho3, hlo3, k3, f3⟩ := append_rd (ty := 39) elB (by omega) ho2 q2 (news := (hb (upl ls (eW ls)) ls.length).map Value.bool) (by simp [hl2])
      (h2.rd.kp k12 (fun _ _ f => f)) (fun u hu => by obtain ⟨b, _, rfl⟩ := List.mem_map.1 hu; rfl) (by simp only [maxLen]; simp only at hlo2; omega) (by simp only at hlo2 ⊢; omega)
    have s1 := k1.size
    have s12 := k12.size
    have fo2 : ∀ k, On o2 k → w1.heap.size ≤ k := fun k hk => by
      rcases f2 k hk with g | g
      · obtain ⟨a, ha, rfl⟩ := g; cases ha; exact Nat.le_refl _
      · have := World.size_alloc w1 (.cells #[] 4); omega
    refine ⟨w2, o2, hr2, w3, o3, hr3, o3, rfl, ?_, (k1.t k12).trans k3 (fun k h1 h2 => by have := fo2 k h2; omega), fun k hk => ?_⟩
    · have e : (seqBits ls).map Value.bool = [] ++ (pkBits (eW ls) (ls.map (· % 2 ^ eW ls))).map Value.bool ++ (hb (upl ls (eW ls)) ls.length).map Value.bool := by
        unfold seqBits; rw [List.map_append]; rfl
      rw [e]; exact ho3
    · rcases f3 k hk with g | g
      · have := fo2 k g; omega
      · omega

theorem refSeq (h : RdZ w l (zl ls)) (hg : GoodL ls) (hsz : ls.length ≤ 1000000) : IsK 39 #[.slice l.a l.len l.cap] w (.string (bs8 (seqBytes ls))) := by
  refine c39 _ _ _ ?_
  unfold B39
  have hl := h.len
  rw [zl_len] at hl
  unfold seqBytes
  refine br_dec (fun h0 => usek (rNum 0 0 (by omega) (by omega) w) fun w1 k1 => ⟨_, rfl, ?_, k1⟩) (fun h0 => ?_)
  · rw [if_pos (by omega)]
  rw [if_neg (by omega)]
  have e1 : IntKind.i64.wrap ((l.len : Int) - 1) = ((ls.length - 1 : Nat) : Int) := by rw [w64 ⟨by omega, by omega⟩]; omega
  rw [e1]
  have kd : Kp no w w.drew := (Kp.refl _ _).drew
  obtain ⟨a, ha, hc⟩ := (h.kpo kd).at (i := ((ls.length - 1 : Nat) : Int)) (by omega) (by omega)
  rw [Int.toNat_natCast, wz_zl] at hc
  have hlast := wg_le hg (ls.length - 1)
  refine ⟨by omega, by omega, a, ha, _, by rw [Int.toNat_natCast]; exact hc, ?_⟩
  rw [show (l.len : Int) = (ls.length : Int) by omega, wu64 (x := (ls.length : Int)) ⟨by omega, by omega⟩]
  refine usek (rNum ls.length ls.length (Nat.le_refl _) (by omega) _) fun w1 k1 => ⟨_, rfl, ?_⟩
  obtain ⟨a2, ha2, hc2⟩ := ((h.kpo kd).kpo k1).at (i := ((ls.length - 1 : Nat) : Int)) (by omega) (by omega)
  rw [ha] at ha2; cases ha2
  rw [Int.toNat_natCast, wz_zl] at hc2
  refine ⟨by rw [Int.toNat_natCast]; exact hc2, ?_⟩
  rw [wu64 (x := ((wg ls (ls.length - 1) : Nat) : Int)) ⟨by omega, by omega⟩]
  refine usek (rNum (wg ls (ls.length - 1)) (wg ls (ls.length - 1)) (Nat.le_refl _) (by omega) _) fun w2 k2 => ⟨_, rfl, ?_⟩
  have el1 := enc_len ls.length
  have el2 := enc_len (wg ls (ls.length - 1))
  refine ⟨by rw [bs8_size, bs8_size]; omega, ?_⟩
  refine use (refBits (((h.kpo kd).kpo k1).kpo k2) hg (by omega)) ?_
  rintro _ w3 ⟨o, rfl, ho, k3, f3⟩
  have hsl := seqBits_len hg
  have hW := eW_le hg
  have hhl := hiB_len hg
  have hm : eW ls * ls.length ≤ 63 * 1000000 := Nat.mul_le_mul hW hsz
  have hrb := rowBytes_len (seqBits ls)
  refine ⟨o, rfl, usek (refRow ho.rdB (by omega)) fun w4 k4 => ⟨_, rfl, ?_, ?_, kd.t (k1.t (k2.t (k3.t k4)))⟩⟩
  · rw [bs8_append, bs8_size, bs8_size, List.length_append]; omega
  · rw [bs8_append, bs8_append, List.append_assoc]

theorem refSame (h : RdB w l b1) (g : RdB w o b2) (hsz : l.len ≤ 1000000000) : IsK 132 #[.slice l.a l.len l.cap, .slice o.a o.len o.cap] w (.bool (decide (b1 = b2))) := by
  refine c132 _ _ _ _ ?_
  unfold B132
  have hl := h.len
  have gl := g.len
  refine br_not (br_dec (fun hll => ?_) (fun hll => ⟨?_, Kp.refl _ _⟩))
  rotate_left
  · rw [decide_eq_false (fun e => hll (by rw [← hl, ← gl, e]))]
  refine ⟨fun i w' => ∃ m : Nat, i = m ∧ m ≤ b1.length ∧ Kp no w w' ∧ ∀ j, j < m → bg b1 j = bg b2 j, fun i _ => (b1.length - i).toNat, ⟨0, rfl, by omega, Kp.refl _ _, fun j hj => by omega⟩, ?_⟩
  rintro i w1 ⟨m, rfl, hm, k1, hs⟩
  refine br_dec (fun hlt => ?_) (fun hlt => ?_)
  · have kd := k1.drew
    obtain ⟨a, ha, hc⟩ := (h.kp kd (fun _ _ f => f)).at (i := (m : Int)) (by omega) (by omega)
    obtain ⟨a2, ha2, hc2⟩ := (g.kp kd (fun _ _ f => f)).at (i := (m : Int)) (by omega) (by omega)
    refine ⟨by omega, by omega, a, ha, _, hc, by omega, by omega, a2, ha2, _, hc2, ?_⟩
    rw [Int.toNat_natCast]
    by_cases he : bg b1 m = bg b2 m
    · rw [he, beq_self_eq_true]
      refine brF ⟨⟨m + 1, by rw [w64 ⟨by omega, by omega⟩]; omega, by omega, kd, fun j hj => ?_⟩, by rw [w64 ⟨by omega, by omega⟩]; dsimp only; omega⟩
      by_cases e : j = m
      · subst e; exact he
      · exact hs j (by omega)
    · rw [show (bg b1 m == bg b2 m) = false by simpa using he]
      exact brT ⟨by rw [decide_eq_false (fun e => he (by rw [e]))], kd⟩
  · refine ⟨?_, k1⟩
    rw [decide_eq_true (bg_ext (by omega) (fun i hi => hs i (by omega)))]

theorem refGetSeq (h : RfS w x rest bad) (hsz : rest.length ≤ 1000000) :
    Calls Tryd.prog 68 #[.pointer (some ⟨x, 0, none⟩)] w (Rv fun u w' => Kp (fun k => k = x) w w' ∧ ∃ (rest' : List UInt8) (bad' : Nat) (ls : List Nat), SeqG rest bad rest' bad' ls ∧ RfS w' x rest' bad' ∧
      ∃ o : Slc, u = .slice o.a o.len o.cap ∧ Ownd w' o 3 1 (ls.map IV) ∧ ∀ k, On o k → w.heap.size ≤ k) := by
  refine c68 _ _ _ ?_
  unfold B68
  have hxl := h.1.lt
  have nilr : ∀ {V : World} {rest' : List UInt8} {bad' : Nat}, Kp (fun k => k = x) w V → SeqG rest bad rest' bad' [] → RfS V x rest' bad' → (fun (u : Value) w' => Kp (fun k => k = x) w w' ∧ ∃ (rest' : List UInt8) (bad' : Nat) (ls : List Nat), SeqG rest bad rest' bad' ls ∧ RfS w' x rest' bad' ∧
      ∃ o : Slc, u = .slice o.a o.len o.cap ∧ Ownd w' o 3 1 (ls.map IV) ∧ ∀ k, On o k → w.heap.size ≤ k) (.slice none 0 0) V := fun k1 k2 k3 => ⟨k1, _, _, [], k2, k3, ⟨none, 0, 0⟩, rfl, Ownd.nil _ _ _, fun k hk => absurd hk On.nil⟩
  refine use (xUpto h 1048576 (by omega)) ?_
  rintro _ w1 ⟨rfl, h1, k1⟩
  by_cases hb : bad ≠ 0
  · rw [uptoS_bad hb] at h1 ⊢
    exact ⟨_, rfl, br_y rfl (nilr k1 (.inl ⟨hb, rfl, rfl, rfl⟩) h1)⟩
  obtain rfl : bad = 0 := by omega
  obtain ⟨n, rest1, bad1, hu, hn, hl1, hz1⟩ := upto_ex rest 1048576
  have hu' : uptoS rest 0 1048576 = ((n : Int), rest1, bad1) := hu
  rw [hu'] at h1 ⊢
  dsimp only at h1 ⊢
  refine ⟨_, rfl, br_dec (fun hn0 => ?_) (fun hn0 => ?_)⟩
  · by_cases hb1 : bad1 ≠ 0
    · exact nilr k1 (.inr ⟨rfl, n, rest1, bad1, hu', hn, .inl ⟨hb1, rfl, rfl, rfl⟩⟩) h1
    · obtain rfl : bad1 = 0 := by omega
      exact nilr k1 (.inr ⟨rfl, n, rest1, 0, hu', hn, .inr (.inl ⟨rfl, by omega, rfl, rfl, rfl⟩)⟩) h1
  have hnp : 0 < n := by omega
  obtain rfl : bad1 = 0 := by
    by_cases e : bad1 = 0
    · exact e
    · have := hz1 e; omega
  refine ⟨_, h1.1.cell 1, br_not (br_y rfl ?_)⟩
  refine use (xUpto h1 1099511627776 (by omega)) ?_
  rintro _ w2 ⟨rfl, h2, k2⟩
  obtain ⟨last, rest2, bad2, hv, hlast, hl2, hz2⟩ := upto_ex rest1 1099511627776
  have hv' : uptoS rest1 0 1099511627776 = ((last : Int), rest2, bad2) := hv
  rw [hv'] at h2 ⊢
  dsimp only at h2 ⊢
  have hLow := rLow7 w2 (n : Int) (last : Int) (by omega) (by omega)
  refine ⟨_, rfl, usei hLow ⟨_, rfl, ?_⟩⟩
  have hmul := lowW_mul (n := n) (last := last) hnp (by omega)
  have hWle : lowW (n : Int) (last : Int) ≤ 63 := lowW_le (by omega)
  have seqg : ∀ {rest' : List UInt8} {bad' : Nat} {ls : List Nat} (rest3 : List UInt8) (bad3 : Nat) (bits : List Bool), rowGet rest2 bad2 (n * lowW n last + n + last / 2 ^ lowW (n : Int) (last : Int)) = (rest3, bad3, bits) → rest' = rest3 →
      ((bad3 ≠ 0 ∧ bad' = bad3 ∧ ls = []) ∨ (bad3 = 0 ∧ bad' = 0 ∧ SeqOk bits n last ls) ∨ (bad3 = 0 ∧ bad' = 3 ∧ ls = [] ∧ ¬ ∃ ms, SeqOk bits n last ms)) → SeqG rest 0 rest' bad' ls := fun rest3 bad3 bits e1 e2 e3 =>
    .inr ⟨rfl, n, rest1, 0, hu', hn, .inr (.inr ⟨rfl, hnp, last, rest2, bad2, hv', hlast, rest3, bad3, bits, e1, e2, e3⟩)⟩
  have sok : ∀ {bits : List Bool} {ms : List Nat}, SeqOk bits n last ms → _ := fun h => SeqOk.dec hnp h
  generalize hWv : lowW (n : Int) (last : Int) = W at *
  have hp := Nat.two_pow_pos W
  have hdv : last / 2 ^ W ≤ last := Nat.div_le_self _ _
  have hdm : last / 2 ^ W * 2 ^ W ≤ last := Nat.div_mul_le_self _ _
  have hnW : n * W ≤ 1048576 * 63 := Nat.mul_le_mul hn hWle
  refine usei (refUpper w2 last W (by omega) hWle) ⟨_, rfl, ?_⟩
  generalize last / 2 ^ W = z at *
  have enw : IntKind.i64.wrap ((n : Int) * (W : Int)) = ((n * W : Nat) : Int) := by rw [← Int.natCast_mul, w64 ⟨by omega, by omega⟩]
  rw [enw]
  have em : IntKind.i64.wrap (IntKind.i64.wrap (((n * W : Nat) : Int) + (n : Int)) + (z : Int)) = ((n * W + n + z : Nat) : Int) := by
    rw [w64 (x := ((n * W : Nat) : Int) + (n : Int)) ⟨by omega, by omega⟩, w64 ⟨by omega, by omega⟩]; omega
  rw [em]
  refine use (refGetRow h2 _ ⟨by omega, by omega⟩ (by omega)) ?_
  rintro _ w3 ⟨k3, h3, o, rfl, ho, fo⟩
  have emx : (max ((n * W + n + z : Nat) : Int) 0).toNat = n * W + n + z := by omega
  rw [emx] at h3 ho
  have k13 : Kp (fun k => k = x) w w3 := (k1.trans k2 (fun _ _ h => h)).trans k3 (fun _ _ h => h)
  have hrl' := rowGet_le (rest := rest2) (bad := bad2) (m := n * W + n + z)
  obtain ⟨rest3, bad3, bits, hq⟩ : ∃ rest3 bad3 bits, rowGet rest2 bad2 (n * W + n + z) = (rest3, bad3, bits) := ⟨_, _, _, rfl⟩
  rw [hq] at h3 ho hrl'
  dsimp only at h3 ho hrl'
  refine ⟨o, rfl, _, h3.1.cell 1, br_not (br_dec (fun hb3 => ?_) (fun hb3 => nilr k13 (seqg rest3 bad3 bits hq rfl (.inl ⟨by omega, rfl, rfl⟩)) h3))⟩
  obtain rfl : bad3 = 0 := by omega
  obtain ⟨hm8, hbl⟩ := hrl' rfl
  have hrb := ho.rdB
  have hol := hrb.len
  have s3 := k13.size
  -- the power
  refine ⟨fun y i V => Kp no w3 V ∧ ∃ j : Nat, i = j ∧ j ≤ W ∧ y = ((2 ^ j : Nat) : Int), fun _ i _ => (W - i).toNat, ⟨Kp.refl _ _, 0, rfl, by omega, rfl⟩, ?_⟩
  rintro y i V ⟨kV, j, rfl, hj, rfl⟩
  have hpj : 2 ^ j ≤ 2 ^ W := Nat.pow_le_pow_right (by omega) hj
  have hpn : 1 * 2 ^ W ≤ n * 2 ^ W := Nat.mul_le_mul_right _ hnp
  rw [Nat.one_mul] at hpn
  refine br_dec (fun hlt => ⟨⟨kV, j + 1, by rw [w64 ⟨by omega, by omega⟩]; omega, by omega, ?_⟩, by rw [w64 (x := (j : Int) + 1) ⟨by omega, by omega⟩]; dsimp only; omega⟩) (fun hlt => ?_)
  · rw [Nat.pow_succ]
    generalize 2 ^ j = pj at *
    rw [w64 ⟨by omega, by omega⟩]; omega
  obtain rfl : W = j := by omega
  obtain ⟨H, hH⟩ : ∃ H, H = bits.drop (n * W) := ⟨_, rfl⟩
  have hHl : H.length = bits.length - n * W := by rw [hH, List.length_drop]
  have hbg : ∀ t, bg H t = bg bits (n * W + t) := fun t => by rw [hH]; unfold bg; rw [List.getElem?_drop]
  have hHb : (H.length + 1) * 2 ^ W ≤ 4611686018427387904 := by
    rw [hHl, hbl]
    have e1 : n * W + n + z - n * W + 1 = n + (z + 1) := by omega
    rw [e1, Nat.add_mul, Nat.add_mul, Nat.one_mul]
    omega
  refine ⟨fun q u a V => ∃ t c : Nat, a = ((n * W + t : Nat) : Int) ∧ t ≤ H.length ∧ c = min (cnt (bg H) t) n ∧ u = ((t - cnt (bg H) t : Nat) : Int) ∧ Ownd V q 3 1 ((decN bits W n c).map IV) ∧ Kp no w3 V ∧ ∀ k, On q k → w3.heap.size ≤ k,
    fun _ _ a _ => (bits.length - a).toNat, ⟨0, 0, by omega, by omega, by simp [cnt], rfl, Ownd.nil _ _ _, kV, fun k hk => absurd hk On.nil⟩, ?_⟩
  rintro q u a V2 ⟨t, c, rfl, ht, hc, rfl, hq2, kV2, fq⟩
  have hct := cnt_le (bg H) t
  have hql := hq2.len
  rw [List.length_map, decN_len] at hql
  have hrb2 := hrb.kp kV2 (fun _ _ f => f)
  refine br_dec (fun hlt => ?_) (fun hlt => ?_)
  · obtain ⟨a, ha, hca⟩ := hrb2.at (i := ((n * W + t : Nat) : Int)) (by omega) (by omega)
    rw [Int.toNat_natCast, ← hbg] at hca
    refine ⟨by omega, by omega, a, ha, _, by rw [Int.toNat_natCast]; exact hca, ?_⟩
    rw [w64 (x := ((n * W + t : Nat) : Int) + 1) ⟨by omega, by omega⟩]
    cases hbt : bg H t
    · refine brT ⟨⟨t + 1, c, by omega, by omega, ?_, ?_, hq2, kV2, fq⟩, by dsimp only; omega⟩
      · rw [hc]; simp [cnt, hbt]
      · rw [w64 ⟨by omega, by omega⟩]; simp only [cnt, hbt]; simp; omega
    · have hcs : cnt (bg H) (t + 1) = cnt (bg H) t + 1 := by simp [cnt, hbt]
      refine brF (br_dec (fun hfull => ?_) (fun hfull => ⟨⟨t + 1, c, by omega, by omega, by omega, by omega, hq2, kV2, fq⟩, by dsimp only; omega⟩))
      have hcc : c = cnt (bg H) t := by omega
      have hcw : c * W ≤ n * W := Nat.mul_le_mul_right _ (by omega)
      have e1 : IntKind.i64.wrap ((q.len : Int) * (W : Int)) = ((c * W : Nat) : Int) := by
        rw [show (q.len : Int) = (c : Int) by omega, ← Int.natCast_mul, w64 ⟨by omega, by omega⟩]
      rw [e1]
      refine usei (cut2 hrb2 (by omega) _ _ ⟨by omega, by omega⟩) ⟨_, rfl, ?_⟩
      have hclw : clampW (W : Int) = W := by unfold clampW; omega
      have hcl := cutN_lt bits (c * W) W
      have htc : (t - cnt (bg H) t + 1) * 2 ^ W ≤ (H.length + 1) * 2 ^ W := Nat.mul_le_mul_right _ (by omega)
      rw [Nat.add_mul, Nat.one_mul] at htc
      have hone : oneAt H c = t := by have := oneAt_eq (show t < H.length by omega) hbt; rwa [← hcc] at this
      have ev : IntKind.i64.wrap (IntKind.i64.wrap (((t - cnt (bg H) t : Nat) : Int) * ((2 ^ W : Nat) : Int)) + IntKind.i64.wrap ((cutL bits ((c * W : Nat) : Int) (clampW (W : Int)) : Nat) : Int)) = ((decAt bits W n c : Nat) : Int) := by
        rw [hclw, cutL_nat, ← Int.natCast_mul, w64 (x := (((t - cnt (bg H) t) * 2 ^ W : Nat) : Int)) ⟨by omega, by omega⟩, w64 (x := ((cutN bits (c * W) W : Nat) : Int)) ⟨by omega, by omega⟩, w64 ⟨by omega, by omega⟩]
        unfold decAt; rw [← hH, hone, ← hcc]; omega
      rw [ev]
      obtain ⟨w4, q4, hr4, hq4, hl4, k4, f4⟩ := append_one (ty := 37) elI hq2 (IV (decAt bits W n c)) rfl (by simp only [maxLen]; omega) (by omega)
      refine ⟨w4, q4, hr4, ⟨t + 1, c + 1, by omega, by omega, by omega, by omega, ?_, kV2.trans k4 (fun k h1 h2 => by have := fq k h2; omega), fun k hk => ?_⟩, by dsimp only; omega⟩
      · rw [decN_succ, List.map_append]; exact hq4
      · have := kV2.size
        rcases f4 k hk with g | g
        · exact fq k g
        · omega
  obtain rfl : t = H.length := by omega
  have k1V : Kp (fun k => k = x) w V2 := k13.trans kV2 (fun _ _ f => f.elim)
  have hV := h3.kp kV2 (fun f => f)
  have fails : ∀ {U : World}, Kp no V2 U → (¬ ∃ ms, SeqOk bits n last ms) → (∃ u, U.cell? (Addr.add ⟨x, 0, none⟩ 1) = some u) ∧ U.frozen? (Addr.add ⟨x, 0, none⟩ 1) = false ∧ (fun (u : Value) w' => Kp (fun k => k = x) w w' ∧ ∃ (rest' : List UInt8) (bad' : Nat) (ls : List Nat), SeqG rest 0 rest' bad' ls ∧ RfS w' x rest' bad' ∧
      ∃ o : Slc, u = .slice o.a o.len o.cap ∧ Ownd w' o 3 1 (ls.map IV) ∧ ∀ k, On o k → w.heap.size ≤ k) (.slice none 0 0) (U.setCell (Addr.add ⟨x, 0, none⟩ 1) (.int .i64 3)) := fun {U} kU hno => by
    have hU := hV.kp kU (fun f => f)
    obtain ⟨h9, k9⟩ := xBad hU 3
    exact ⟨⟨_, hU.1.cell 1⟩, hU.1.frozen 1, nilr ((k1V.trans kU (fun _ _ f => f.elim)).trans k9 (fun _ _ h => h)) (seqg rest3 0 bits hq rfl (.inr (.inr ⟨rfl, rfl, rfl, hno⟩))) h9⟩
  refine br_not (br_dec (fun hcn => ?_) (fun hcn => fails (Kp.refl _ _) fun ⟨ms, hms⟩ => ?_))
  rotate_left
  · have := (sok hms).1
    rw [← hH] at this
    omega
  obtain rfl : c = n := by omega
  have e1 : IntKind.i64.wrap ((c : Int) - 1) = ((c - 1 : Nat) : Int) := by rw [w64 ⟨by omega, by omega⟩]; omega
  rw [e1]
  obtain ⟨a, ha, hca⟩ := hq2.rdI.at (i := ((c - 1 : Nat) : Int)) (by omega) (by omega)
  rw [Int.toNat_natCast] at hca
  refine ⟨by omega, by omega, a, ha, _, by rw [Int.toNat_natCast]; exact hca, br_not (br_dec (fun hla => ?_) (fun hla => fails (Kp.refl _ _) fun ⟨ms, hms⟩ => hla (by rw [(sok hms).2, hms.2.2.1])))⟩
  have hla' : wg (decN bits W c c) (c - 1) = last := by omega
  have hlo : ∀ z ∈ zl (decN bits W c c), -9223372036854775808 ≤ z ∧ z ≤ 9223372036854775807 := fun z hz => by
    obtain ⟨x, hx, rfl⟩ := List.mem_map.1 hz
    obtain ⟨k, hk, rfl⟩ := List.mem_map.1 hx
    have hk := List.mem_range.1 hk
    have h1 := cutN_lt bits (k * W) W
    have h2 := (oneAt_spec (H := H) (k := k) (by omega)).1
    have h3 : (oneAt H k - k + 1) * 2 ^ W ≤ (H.length + 1) * 2 ^ W := Nat.mul_le_mul_right _ (by omega)
    rw [Nat.add_mul, Nat.one_mul] at h3
    unfold decAt
    rw [← hH]
    omega
  have hrz : RdZ V2 q (zl (decN bits W c c)) := ownZ (by rw [show (zl (decN bits W c c)).map (Value.int .i64) = (decN bits W c c).map IV by rw [List.map_map]; rfl]; exact hq2) hlo
  refine use (rWrong7 hrz (by rw [zl_len, decN_len]; omega)) ?_
  rintro _ w5 ⟨k5, e, rfl, he⟩
  refine ⟨_, rfl, br_not (br_dec (fun he0 => ?_) (fun he0 => fails k5 fun ⟨ms, hms⟩ => ?_))⟩
  rotate_left
  · have hd := (sok hms).2
    rw [hd] at he
    exact he0 (he.one (.inl ⟨rfl, okE_of hms.1⟩))
  subst he0
  have hgd : GoodL (decN bits W c c) := by
    rcases he with ⟨_, he⟩ | ⟨a, _, _, ⟨he, _⟩ | ⟨he, _⟩⟩
    · obtain ⟨l', hl', hg'⟩ := good_of he
      rw [zl_inj hl']; exact hg'
    · cases he
    · cases he
  refine use (refBits (hrz.kpo k5) hgd (by rw [decN_len]; omega)) ?_
  rintro _ w6 ⟨o6, rfl, ho6, k6, f6⟩
  have hsl := seqBits_len hgd
  have h6l := ho6.rdB.len
  have hW6 := eW_le hgd
  have hh6 := hiB_len hgd
  rw [decN_len] at hsl hh6
  have hm6 : eW (decN bits W c c) * c ≤ 63 * 1048576 := Nat.mul_le_mul hW6 hn
  refine ⟨o6, rfl, usek (refSame ho6.rdB (hrb.kp (kV2.t (k5.t k6)) (fun _ _ f => f)) (by omega)) fun w7 k7 => ⟨_, rfl, br_not (br_dec (fun hs => ?_) (fun hs => fails (k5.t (k6.t k7)) fun ⟨ms, hms⟩ => hs (by rw [(sok hms).2, hms.2.2.2])))⟩⟩
  exact ⟨k1V.trans (k5.t (k6.t k7)) (fun _ _ f => f.elim), rest3, 0, decN bits W c c, seqg rest3 0 bits hq rfl (.inr (.inl ⟨rfl, rfl, hgd, decN_len _ _ _ _, hla', hs⟩)), hV.kp (k5.t (k6.t k7)) (fun f => f), q, rfl, hq2.kp (k5.t (k6.t k7)) (fun _ _ f => f), fun k hk => by have := fq k hk; omega⟩
end Go.Proofs.YtomajpihimlcjaaDoor.V
