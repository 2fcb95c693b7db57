/- Packs as bytes (doors only). -/
import Derived.Test.YtomajpihimlcjaaDoorQg
namespace Go.VC
open Go
/-- The bytes of a pack. -/
def pkBytes (wd : Nat) (xs : List Nat) : List UInt8 := enc wd ++ (enc xs.length ++ rowBytes (pkBits wd xs))
/-- What a pack that is read is: what is left, the error, the width, the numbers. -/
def pkGet (rest : List UInt8) (bad : Nat) : List UInt8 × Nat × Nat × List Nat :=
  ((rowGet (uptoS (uptoS rest bad 64).2.1 (uptoS rest bad 64).2.2 1048576).2.1 (uptoS (uptoS rest bad 64).2.1 (uptoS rest bad 64).2.2 1048576).2.2 ((uptoS rest bad 64).1.toNat * (uptoS (uptoS rest bad 64).2.1 (uptoS rest bad 64).2.2 1048576).1.toNat)).1,
   (rowGet (uptoS (uptoS rest bad 64).2.1 (uptoS rest bad 64).2.2 1048576).2.1 (uptoS (uptoS rest bad 64).2.1 (uptoS rest bad 64).2.2 1048576).2.2 ((uptoS rest bad 64).1.toNat * (uptoS (uptoS rest bad 64).2.1 (uptoS rest bad 64).2.2 1048576).1.toNat)).2.1,
   (uptoS rest bad 64).1.toNat,
   pkNums (uptoS rest bad 64).1.toNat (uptoS (uptoS rest bad 64).2.1 (uptoS rest bad 64).2.2 1048576).1.toNat (rowGet (uptoS (uptoS rest bad 64).2.1 (uptoS rest bad 64).2.2 1048576).2.1 (uptoS (uptoS rest bad 64).2.1 (uptoS rest bad 64).2.2 1048576).2.2 ((uptoS rest bad 64).1.toNat * (uptoS (uptoS rest bad 64).2.1 (uptoS rest bad 64).2.2 1048576).1.toNat)).2.2)
theorem upto_any (rest : List UInt8) (bad most : Nat) : ∃ (n : Nat) (r1 : List UInt8) (b1 : Nat), uptoS rest bad (most : Int) = ((n : Int), r1, b1) ∧ n ≤ most ∧ r1.length ≤ rest.length := by
  by_cases h : bad = 0
  · subst h
    obtain ⟨n, r1, b1, h1, h2, h3, _⟩ := upto_ex rest most
    exact ⟨n, r1, b1, h1, h2, h3⟩
  · exact ⟨0, rest, bad, uptoS_bad h _, Nat.zero_le _, Nat.le_refl _⟩
theorem pkGet_of {rest r1 r2 r3 : List UInt8} {bad b1 b2 b3 wd n : Nat} {bits : List Bool} (h1 : uptoS rest bad 64 = ((wd : Int), r1, b1)) (h2 : uptoS r1 b1 1048576 = ((n : Int), r2, b2)) (h3 : rowGet r2 b2 (wd * n) = (r3, b3, bits)) :
    pkGet rest bad = (r3, b3, wd, pkNums wd n bits) := by
  unfold pkGet
  simp only [h1, h2, Int.toNat_natCast, h3]
theorem pkNums_pk {wd : Nat} {xs : List Nat} (h : ∀ x ∈ xs, x < 2 ^ wd) : pkNums wd xs.length (pkBits wd xs) = xs := by
  apply List.ext_getElem
  · rw [pkNums_len]
  · intro i h1 h2
    have e1 := pkNums_at (wd := wd) (bits := pkBits wd xs) h2
    rw [pk_cut h h2] at e1
    unfold wg at e1
    rwa [List.getElem?_eq_getElem h1, List.getElem?_eq_getElem h2] at e1
theorem pkGet_bytes {wd : Nat} {xs : List Nat} (hw : wd ≤ 64) (hn : xs.length ≤ 1048576) (h : ∀ x ∈ xs, x < 2 ^ wd) (t : List UInt8) : pkGet (pkBytes wd xs ++ t) 0 = (t, 0, wd, xs) := by
  have h1 : uptoS (pkBytes wd xs ++ t) 0 64 = ((wd : Int), enc xs.length ++ rowBytes (pkBits wd xs) ++ t, 0) := by
    unfold pkBytes; rw [List.append_assoc]; exact upto_enc (v := wd) (most := 64) hw (by omega) _
  have h2 : uptoS (enc xs.length ++ rowBytes (pkBits wd xs) ++ t) 0 1048576 = ((xs.length : Int), rowBytes (pkBits wd xs) ++ t, 0) := by
    rw [List.append_assoc]; exact upto_enc (v := xs.length) (most := 1048576) hn (by omega) _
  have h3 := rowGet_bytes (pkBits wd xs) t
  rw [pk_len] at h3
  rw [pkGet_of h1 h2 h3, pkNums_pk h]
end Go.VC
namespace Go.Proofs.YtomajpihimlcjaaDoor.V
open Go Go.VC
variable {w w' w0 W W' wC : World} {l o lr l1 l2 : Slc} {b1 b2 bits : List Bool} {ls xs ws : List Nat} {zs : List Int} {bs rest t : List UInt8} {s r x b p wd N B m n bad : Nat}

theorem bits_back' (bits : List Bool) : bitsW (wordsOf bits) bits.length = bits := by
  apply bg_ext (bitsW_len _ _)
  intro i hi
  rw [bitsW_len] at hi
  rw [bg_bitsW _ _ _ hi, wbit_wordsOf]

theorem putPack (h : PackB wC p wd xs B) (kC : Kp (fun k => k < B) wC w) (hW : Ws w b o w o bs) (hd : ∀ k, RF b o k → k < B ∨ wC.heap.size ≤ k) (hsz : xs.length ≤ 15000) (hbs : bs.length ≤ 100000000) :
    Calls Tryd.prog 58 #[.pointer (some ⟨b, 0, none⟩), .pointer (some ⟨p, 0, none⟩)] w (Rv fun u w' => u = .tuple #[] ∧ ∃ o', Ws w b o w' o' (bs ++ pkBytes wd xs)) := by
  have hwd : wd ≤ 64 := by obtain ⟨_, _, _, h3, _⟩ := h; exact h3
  refine c58 _ _ _ _ ?_
  unfold B58
  have at_ : ∀ {V : World} {o' : Slc} {bs' : List UInt8}, Ws w b o V o' bs' → PackB V p wd xs B := fun hV =>
    h.kp (kC.trans hV.kp (fun k h1 h2 => by
      rcases hd k h2 with g | g
      · exact g
      · omega)) (fun k h1 h2 => by omega)
  have el1 := enc_len wd
  have el2 := enc_len xs.length
  have hpk := pk_len wd xs
  have hmul : wd * xs.length ≤ 64 * 15000 := Nat.mul_le_mul hwd hsz
  refine usei (pWidth (at_ hW)) ⟨_, rfl, ?_⟩
  rw [wu64 (x := (wd : Int)) ⟨by omega, by omega⟩]
  refine use (wNum hW (by omega) wd (by omega)) ?_
  rintro _ w2 ⟨rfl, o2, hV2⟩
  refine ⟨rfl, usei (pLen (at_ hV2)) ⟨_, rfl, ?_⟩⟩
  rw [wu64 (x := (xs.length : Int)) ⟨by omega, by omega⟩]
  refine use (wNum hV2 (by rw [List.length_append]; omega) xs.length (by omega)) ?_
  rintro _ w3 ⟨rfl, o3, hV3⟩
  have h3 := at_ hV3
  refine ⟨rfl, use (pWords h3 (by omega)) ?_⟩
  rintro _ w4 ⟨q, rfl, hq, k4, fq⟩
  refine ⟨q, rfl, usei (pWidth (h3.kpo k4)) ⟨_, rfl, usei (pLen (h3.kpo k4)) ⟨_, rfl, ?_⟩⟩⟩
  have hqw := hq.rdW (fun x hx => wordsOf_lt hx)
  have hql := hqw.len
  rw [length_wordsOf] at hql
  have e1 : IntKind.i64.wrap ((wd : Int) * (xs.length : Int)) = (((pkBits wd xs).length : Nat) : Int) := by rw [← Int.natCast_mul, hpk, w64 ⟨by omega, by omega⟩]
  rw [e1]
  refine use (of1 hqw (by omega) _ ⟨by omega, by omega⟩) ?_
  rintro _ w5 ⟨k5, hof⟩
  rw [Int.toNat_natCast, bits_back'] at hof
  rcases hof with ⟨_, hx⟩ | ⟨_, _, _, hx⟩ | ⟨r, lr, rfl, _, _, _, hr, fr⟩
  · rw [length_wordsOf] at hx
    rcases hx with g | g
    · omega
    · exact absurd rfl g
  · exact absurd rfl hx
  refine ⟨_, _, rfl, use (putRow (hV3.kpo (k4.t k5)) ⟨r, rfl, lr, hr⟩ (by omega) (by rw [List.length_append, List.length_append]; omega)) ?_⟩
  rintro _ w6 ⟨rfl, o6, hV6⟩
  refine ⟨rfl, rfl, o6, ?_⟩
  unfold pkBytes
  rw [← List.append_assoc, ← List.append_assoc]
  exact hV6

theorem getPack (h : RdS w r rest bad) (hsz : rest.length ≤ 100000) :
    Calls Tryd.prog 62 #[.pointer (some ⟨r, 0, none⟩)] w (Rv fun u w' => Kp (fun k => k = r) w w' ∧ RdS w' r (pkGet rest bad).1 (pkGet rest bad).2.1 ∧
      ((u = .pointer none ∧ (pkGet rest bad).2.1 ≠ 0) ∨ ((pkGet rest bad).2.1 = 0 ∧ ∃ p, u = .pointer (some ⟨p, 0, none⟩) ∧ PackB w' p (pkGet rest bad).2.2.1 (pkGet rest bad).2.2.2 0))) := by
  refine c62 _ _ _ ?_
  unfold B62
  have hrl := h.lt
  refine use (qUpto h 64 (by omega)) ?_
  rintro _ w1 ⟨rfl, h1, k1⟩
  obtain ⟨wd, r1, b1, hu1, hwd, hl1⟩ := upto_any rest bad 64
  have hu1 : uptoS rest bad 64 = ((wd : Int), r1, b1) := hu1
  rw [hu1] at h1 ⊢
  dsimp only at h1 ⊢
  refine ⟨_, rfl, use (qUpto h1 1048576 (by omega)) ?_⟩
  rintro _ w2 ⟨rfl, h2, k2⟩
  obtain ⟨n, r2, b2, hu2, hn, hl2⟩ := upto_any r1 b1 1048576
  have hu2 : uptoS r1 b1 1048576 = ((n : Int), r2, b2) := hu2
  rw [hu2] at h2 ⊢
  dsimp only at h2 ⊢
  have hmul : wd * n ≤ 64 * 1048576 := Nat.mul_le_mul hwd hn
  have e1 : IntKind.i64.wrap ((wd : Int) * (n : Int)) = ((wd * n : Nat) : Int) := by rw [← Int.natCast_mul, w64 ⟨by omega, by omega⟩]
  refine ⟨_, rfl, ?_⟩
  rw [e1]
  refine use (getRow h2 _ ⟨by omega, by omega⟩ (by omega)) ?_
  rintro u3 w3 ⟨k3, h3, hu3⟩
  have emx : (max ((wd * n : Nat) : Int) 0).toNat = wd * n := by omega
  rw [emx] at h3 hu3
  have hrl' := rowGet_le (rest := r2) (bad := b2) (m := wd * n)
  obtain ⟨r3, b3, bits, hq⟩ : ∃ r3 b3 bits, rowGet r2 b2 (wd * n) = (r3, b3, bits) := ⟨_, _, _, rfl⟩
  rw [hq] at h3 hu3 hrl'
  rw [pkGet_of hu1 hu2 hq]
  dsimp only at h3 hu3 hrl' ⊢
  have k13 : Kp (fun k => k = r) w w3 := (k1.trans k2 (fun _ _ h => h)).trans k3 (fun _ _ h => h)
  rcases hu3 with ⟨rfl, hb3⟩ | ⟨p, rfl, ⟨lp, hp3, fp3⟩, hb3, hbl⟩
  · exact ⟨_, rfl, usei (qErr h3) ⟨_, rfl, br_not (br_n (by omega) ⟨k13, h3, .inl ⟨rfl, hb3⟩⟩)⟩⟩
  subst hb3
  obtain ⟨hm8, _⟩ := hrl' rfl
  refine ⟨_, rfl, usei (qErr h3) ⟨_, rfl, br_not (br_y rfl (use (words1 hp3 (by omega)) ?_))⟩⟩
  rintro _ w4 ⟨q, rfl, hq4, k4, fq⟩
  have hqw := hq4.rdW (fun x hx => wordsOf_lt hx)
  have hql := hqw.len
  rw [length_wordsOf] at hql
  refine ⟨q, rfl, use (pOf hqw (by omega) (wd : Int) (n : Int) ⟨by omega, by omega⟩) ?_⟩
  rintro _ w5 ⟨k5, hof⟩
  have e2 : ((n : Int) * (wd : Int)).toNat = bits.length := by rw [← Int.natCast_mul, Int.toNat_natCast, hbl, Nat.mul_comm]
  rw [e2, bits_back', length_wordsOf] at hof
  simp only [Int.toNat_natCast] at hof
  rcases hof with ⟨_, hx⟩ | ⟨_, _, _, _, _, ⟨_, hx⟩ | ⟨p5, rfl, _, hp5⟩⟩
  · rcases hx with g | g | g | g | g
    · omega
    · omega
    · omega
    · omega
    · exact absurd rfl g
  · exact absurd rfl hx
  · exact ⟨_, _, rfl, (k13.trans k4 (fun _ _ f => f.elim)).trans k5 (fun _ _ f => f.elim), h3.kp (k4.t k5) (fun f => f), .inr ⟨rfl, p5, rfl, hp5⟩⟩

theorem refPack (h : RdW w l ws) (hsz : ws.length ≤ 15000) (hwd : wd ≤ 64) : IsK 60 #[.int .i64 wd, .slice l.a l.len l.cap] w (.string (bs8 (pkBytes wd ws))) := by
  refine c60 _ _ _ _ ?_
  unfold B60
  have hl := h.len
  refine ⟨fun q i w' => ∃ m : Nat, i = m ∧ m ≤ ws.length ∧ Ownd w' q 4 1 ((pkBits wd (ws.take m)).map Value.bool) ∧ Kp no w w', fun _ i _ => (ws.length - i).toNat, ⟨0, rfl, by omega, by rw [List.take_zero]; exact Ownd.nil _ _ _, Kp.refl _ _⟩, ?_⟩
  rintro q i w1 ⟨m, rfl, hm, hq, k1⟩
  have hql := hq.rdB.len
  rw [pk_len, List.length_take] at hql
  have hmul : wd * min m ws.length ≤ 64 * 15000 := Nat.mul_le_mul hwd (by omega)
  refine br_dec (fun hlt => ?_) (fun hlt => ?_)
  · obtain ⟨a, ha, hc⟩ := (h.kp k1 (fun _ _ f => f)).at (i := (m : Int)) (by omega) (by omega)
    rw [Int.toNat_natCast] at hc
    have hm' : m < ws.length := by omega
    have hwl : wg ws m < 18446744073709551616 := by unfold wg; rw [List.getElem?_eq_getElem hm']; exact h.lt _ (List.getElem_mem _)
    refine ⟨by omega, by omega, a, ha, _, by rw [Int.toNat_natCast]; exact hc, use (add2 hq.rdB (by omega) (wg ws m) hwl wd hwd) ?_⟩
    rintro _ w2 ⟨o2, rfl, ho2, k2, f2⟩
    refine ⟨o2, rfl, ⟨m + 1, by rw [w64 ⟨by omega, by omega⟩]; omega, by omega, ?_, k1.t k2⟩, by rw [w64 ⟨by omega, by omega⟩]; dsimp only; omega⟩
    rw [List.take_add_one, List.getElem?_eq_getElem hm']
    show Ownd w2 o2 4 1 ((pkBits wd (ws.take m ++ [ws[m]])).map Value.bool)
    rw [pk_snoc]
    have : wg ws m = ws[m] := by unfold wg; rw [List.getElem?_eq_getElem hm']; rfl
    rw [← this]
    exact ho2
  · obtain rfl : m = ws.length := by omega
    rw [List.take_length] at hq
    have hpk := pk_len wd ws
    have hmul2 : wd * ws.length ≤ 64 * 15000 := Nat.mul_le_mul hwd hsz
    rw [wu64 (x := (wd : Int)) ⟨by omega, by omega⟩]
    refine usek (rNum wd wd (Nat.le_refl _) (by omega) _) fun w2 k2 => ⟨_, rfl, ?_⟩
    rw [show (l.len : Int) = (ws.length : Int) by omega, wu64 (x := (ws.length : Int)) ⟨by omega, by omega⟩]
    refine usek (rNum ws.length ws.length (Nat.le_refl _) (by omega) _) fun w3 k3 => ⟨_, rfl, ?_⟩
    have el1 := enc_len wd
    have el2 := enc_len ws.length
    have hrb := rowBytes_len (pkBits wd ws)
    refine ⟨by rw [bs8_size, bs8_size]; omega, usek (refRow ((hq.kp (k2.t k3) (fun _ _ f => f)).rdB) (by omega)) fun w4 k4 => ⟨_, rfl, ?_, ?_, k1.t (k2.t (k3.t k4))⟩⟩
    · rw [bs8_append, bs8_size, bs8_size, List.length_append]; omega
    · rw [bs8_append, bs8_append]; unfold pkBytes; rw [List.append_assoc]

theorem refGetPack (h : RfS w x rest bad) (hsz : rest.length ≤ 100000) :
    Calls Tryd.prog 67 #[.pointer (some ⟨x, 0, none⟩)] w (Rv fun u w' => Kp (fun k => k = x) w w' ∧ RfS w' x (pkGet rest bad).1 (pkGet rest bad).2.1 ∧
      ∃ o : Slc, u = .tuple #[.int .i64 ((pkGet rest bad).2.2.1 : Nat), .slice o.a o.len o.cap] ∧ ((pkGet rest bad).2.1 = 0 → Ownd w' o 22 1 ((pkGet rest bad).2.2.2.map U))) := by
  refine c67 _ _ _ ?_
  unfold B67
  have hxl := h.1.lt
  refine use (xUpto h 64 (by omega)) ?_
  rintro _ w1 ⟨rfl, h1, k1⟩
  obtain ⟨wd, r1, b1, hu1, hwd, hl1⟩ := upto_any rest bad 64
  have hu1 : uptoS rest bad 64 = ((wd : Int), r1, b1) := hu1
  rw [hu1] at h1 ⊢
  dsimp only at h1 ⊢
  refine ⟨_, rfl, use (xUpto h1 1048576 (by omega)) ?_⟩
  rintro _ w2 ⟨rfl, h2, k2⟩
  obtain ⟨n, r2, b2, hu2, hn, hl2⟩ := upto_any r1 b1 1048576
  have hu2 : uptoS r1 b1 1048576 = ((n : Int), r2, b2) := hu2
  rw [hu2] at h2 ⊢
  dsimp only at h2 ⊢
  have hmul : wd * n ≤ 64 * 1048576 := Nat.mul_le_mul hwd hn
  have e1 : IntKind.i64.wrap ((wd : Int) * (n : Int)) = ((wd * n : Nat) : Int) := by rw [← Int.natCast_mul, w64 ⟨by omega, by omega⟩]
  refine ⟨_, rfl, ?_⟩
  rw [e1]
  refine use (refGetRow h2 _ ⟨by omega, by omega⟩ (by omega)) ?_
  rintro _ w3 ⟨k3, h3, o, rfl, ho, fo⟩
  have emx : (max ((wd * n : Nat) : Int) 0).toNat = wd * n := by omega
  rw [emx] at h3 ho
  have hrl' := rowGet_le (rest := r2) (bad := b2) (m := wd * n)
  obtain ⟨r3, b3, bits, hq⟩ : ∃ r3 b3 bits, rowGet r2 b2 (wd * n) = (r3, b3, bits) := ⟨_, _, _, rfl⟩
  rw [hq] at h3 ho hrl'
  rw [pkGet_of hu1 hu2 hq]
  dsimp only at h3 ho hrl' ⊢
  have k13 : Kp (fun k => k = x) w w3 := (k1.trans k2 (fun _ _ h => h)).trans k3 (fun _ _ h => h)
  refine ⟨o, rfl, fun q i V => ∃ j : Nat, i = j ∧ j ≤ n ∧ Ownd V q 22 1 ((pkNums wd j bits).map U) ∧ Kp no w3 V ∧ ∀ k, On q k → w3.heap.size ≤ k, fun _ i _ => (n - i).toNat, ⟨0, rfl, by omega, Ownd.nil _ _ _, Kp.refl _ _, fun k hk => absurd hk On.nil⟩, ?_⟩
  rintro q i V ⟨j, rfl, hj, hqo, kV, fq⟩
  have hql := hqo.len
  rw [List.length_map, pkNums_len] at hql
  have hV := h3.kp kV (fun f => f)
  have k1V : Kp (fun k => k = x) w V := k13.trans kV (fun _ _ f => f.elim)
  refine br_dec (fun hlt => ⟨_, hV.1.cell 1, br_dec (fun hb => ?_) (fun hb => ⟨k1V, hV, q, rfl, fun hb0 => absurd (by omega) hb⟩)⟩) (fun hlt => ?_)
  · have hb0 : b3 = 0 := by omega
    obtain ⟨hm8, hbl⟩ := hrl' hb0
    have hjw : j * wd ≤ n * wd := Nat.mul_le_mul_right _ (by omega)
    have hor := ho.rdB.kp kV (fun _ _ f => f)
    have hol := hor.len
    have e2 : IntKind.i64.wrap ((j : Int) * (wd : Int)) = ((j * wd : Nat) : Int) := by rw [← Int.natCast_mul, w64 ⟨by omega, by rw [Nat.mul_comm] at hmul; omega⟩]
    rw [e2]
    refine usei (cut2 hor (by omega) _ _ ⟨by omega, by rw [Nat.mul_comm] at hmul; omega⟩) ⟨_, rfl, ?_⟩
    have hcw : clampW (wd : Int) = wd := by unfold clampW; omega
    rw [hcw]
    obtain ⟨w4, q4, hr4, hq4, hl4, k4, f4⟩ := append_one (ty := 29) elU hqo (U (cutL bits ((j * wd : Nat) : Int) wd)) rfl (by simp only [maxLen]; omega) (by omega)
    refine ⟨w4, q4, hr4, ⟨j + 1, by rw [w64 ⟨by omega, by omega⟩]; omega, by omega, ?_, kV.trans k4 (fun k h1 h2 => by have := fq k h2; omega), fun k hk => ?_⟩, by rw [w64 ⟨by omega, by omega⟩]; dsimp only; omega⟩
    · have : pkNums wd (j + 1) bits = pkNums wd j bits ++ [cutL bits ((j * wd : Nat) : Int) wd] := by unfold pkNums; rw [List.range_succ, List.map_append]; rfl
      rw [this, List.map_append]; exact hq4
    · have := kV.size
      rcases f4 k hk with g | g
      · exact fq k g
      · omega
  · obtain rfl : j = n := by omega
    exact ⟨k1V, hV, q, rfl, fun _ => hqo⟩

theorem seqbinPacks (ht : Tab w) (h : RdW w l ws) (t : List UInt8) : IsK 9 #[.slice l.a l.len l.cap, .string (bs8 t)] w (.bool true) := by
  refine c9 _ _ _ _ ?_
  unfold B9
  have hpos := ht.pos
  have hl := h.len
  rw [bs8_size]
  have lv : ∀ {V : World}, Kp no w V → Calls Tryd.prog 36 #[] V (Rv fun v1 w2 => ∃ b3 : Bool, v1 = .bool b3 ∧ (fun v w' => v = Value.bool true ∧ Kp no w w') (.bool b3) w2) := fun kV => usek (live11 (ht.kpo kV)) fun w3 k3 => ⟨true, rfl, rfl, kV.t k3⟩
  refine br_dec (fun _ => lv (Kp.refl _ _)) (fun h40 => br_dec (fun _ => lv (Kp.refl _ _)) (fun h200 => ?_))
  have k1 : Kp no w (w.alloc (.cells #[.slice none 0 0] 62)) := (Kp.refl _ _).alloc _ _
  have hW := Ws.new w
  have z1 : (w.alloc (.cells #[.slice none 0 0] 62)).heap.size = w.heap.size + 1 := World.size_alloc _ _
  generalize w.alloc (.cells #[.slice none 0 0] 62) = w1 at *
  refine use (pFit (h.kp k1 (fun _ _ f => f)) (by omega)) ?_
  rintro _ w2 ⟨p, rfl, hp, k2⟩
  obtain ⟨wd, hwd⟩ : ∃ wd, wd = Lib.bitLen (maxN ws) := ⟨_, rfl⟩
  have hfit : ∀ x ∈ ws, x < 2 ^ wd := by obtain ⟨_, _, _, _, h4, _⟩ := hp; rw [hwd]; exact h4
  have hw64 : wd ≤ 64 := by obtain ⟨_, _, _, h3, _⟩ := hp; rw [hwd]; exact h3
  rw [← hwd] at hp
  refine ⟨_, rfl, use (putPack hp (Kp.refl _ _) (hW.kpo k2).here (fun k hk => by have := RF0 hk; omega) (by omega) (by simp)) ?_⟩
  rintro _ w3 ⟨rfl, o3, hW3⟩
  rw [List.nil_append] at hW3
  have k03 : Kp no w w3 := (k1.t k2).trans hW3.kp (fun k h1 h2 => by have := RF0 h2; omega)
  have hrw : ∀ {V : World}, Kp no w V → Is 61 #[.slice l.a l.len l.cap] V (.int .i64 wd) := fun kV => by
    have := pRWidth (h.kp kV (fun _ _ f => f)) (by omega)
    rwa [← hwd] at this
  refine ⟨rfl, usei (wBytes hW3) ⟨_, rfl, usei (hrw k03) ⟨_, rfl, usek (refPack (h.kp k03 (fun _ _ f => f)) (by omega) hw64) fun w4 k4 => ⟨_, rfl, br_not ?_⟩⟩⟩⟩
  rw [beq_bs]
  have hW4 := hW3.kpo k4
  have hwl := hW4.blk.lt
  have hpb : (pkBytes wd ws).length ≤ 10000 := by
    have e1 := enc_len wd
    have e2 := enc_len ws.length
    have e3 := rowBytes_len (pkBits wd ws)
    have e4 := pk_len wd ws
    have e5 : wd * ws.length ≤ 64 * 40 := Nat.mul_le_mul hw64 (by omega)
    unfold pkBytes; rw [List.length_append, List.length_append]; omega
  refine usei (wBytes hW4) ⟨_, rfl, by rw [bs8_size]; omega, ?_⟩
  rw [bs8_append]
  refine use (openR w4 (pkBytes wd ws ++ t) (by rw [List.length_append]; omega)) ?_
  rintro _ w5 ⟨rfl, h5, k5⟩
  refine ⟨_, rfl, use (getPack h5 (by rw [List.length_append]; omega)) ?_⟩
  rintro u w6 ⟨k6, h6, hu⟩
  rw [pkGet_bytes hw64 (by omega) hfit] at h6 hu
  dsimp only at h6 hu
  rcases hu with ⟨_, hb⟩ | ⟨_, q, rfl, hq⟩
  · exact absurd rfl hb
  have k46 : Kp no w4 w6 := k5.trans k6 (fun k h1 h2 => by omega)
  have k06 := k03.t (k4.t k46)
  refine ⟨_, rfl, usei (pLen hq) ⟨_, rfl, br_not (br_y (by omega) (usei (pWidth hq) ⟨_, rfl, usei (hrw k06) ⟨_, rfl, br_not (br_y rfl (usek (qLeft h6) fun w7 k7 => ⟨_, rfl, br_not (br_y rfl (use (pWords (hq.kpo k7) (by omega)) ?_))⟩))⟩⟩))⟩⟩
  rintro _ w8 ⟨o8, rfl, ho8, k8, f8⟩
  have k08 := k06.t (k7.t k8)
  refine ⟨o8, rfl, usei (hrw k08) ⟨_, rfl, use (pRWords (h.kp k08 (fun _ _ f => f)) (by omega) hw64) ?_⟩⟩
  rintro _ w9 ⟨o9, rfl, ho9, k9, f9⟩
  have ho8l := (ho8.rdW (fun x hx => wordsOf_lt hx)).len
  rw [length_wordsOf, pk_len] at ho8l
  have e5 : wd * ws.length ≤ 64 * 40 := Nat.mul_le_mul hw64 (by omega)
  have hs2 := same2 ((ho8.rdW (fun x hx => wordsOf_lt hx)).kp k9 (fun _ _ f => f)) (ho9.rdW (fun x hx => wordsOf_lt hx)) (by omega)
  rw [decide_eq_true rfl] at hs2
  refine ⟨o9, rfl, usek hs2 fun wA kA => ⟨true, rfl, brF ?_⟩⟩
  have k0A := k08.t (k9.t kA)
  -- any bytes
  have xb := Blk.new wA [.string (bs8 t), .int .i64 0] 80
  have kx : Kp no wA (wA.alloc (.cells #[.string (bs8 t), .int .i64 0] 80)) := (Kp.refl _ _).alloc _ _
  have hx : RfS (wA.alloc (.cells #[.string (bs8 t), .int .i64 0] 80)) wA.heap.size t 0 := ⟨xb, by omega⟩
  generalize wA.alloc (.cells #[.string (bs8 t), .int .i64 0] 80) = wB at *
  refine use (refGetPack hx (by omega)) ?_
  rintro _ wC ⟨kC, hC, oC, rfl, hoC⟩
  have s0A := k0A.size
  have k0C : Kp no w wC := (k0A.t kx).trans kC (fun k h1 h2 => by omega)
  refine ⟨_, oC, rfl, use (openR wC t (by omega)) ?_⟩
  rintro _ wD ⟨rfl, hD, kD⟩
  refine ⟨_, rfl, use (getPack hD (by omega)) ?_⟩
  rintro u wE ⟨kE, hE, hu⟩
  have s0C := k0C.size
  have hxl := hC.1.lt
  have kCE : Kp no wC wE := kD.trans kE (fun k h1 h2 => by omega)
  obtain ⟨wd1, r1, b1, hu1, hwd1, hl1⟩ := upto_any t 0 64
  have hu1 : uptoS t 0 64 = ((wd1 : Int), r1, b1) := hu1
  obtain ⟨n1, r2, b2, hu2, hn1, hl2⟩ := upto_any r1 b1 1048576
  have hu2 : uptoS r1 b1 1048576 = ((n1 : Int), r2, b2) := hu2
  obtain ⟨r3, b3, bits, hq3⟩ : ∃ r3 b3 bits, rowGet r2 b2 (wd1 * n1) = (r3, b3, bits) := ⟨_, _, _, rfl⟩
  have hrl' := rowGet_le (rest := r2) (bad := b2) (m := wd1 * n1)
  rw [hq3] at hrl'
  rw [pkGet_of hu1 hu2 hq3] at hC hoC hE hu ⊢
  dsimp only at hC hoC hE hu hrl' ⊢
  have k0E := k0C.t kCE
  have kd : Kp no wE wE.drew := (Kp.refl _ _).drew
  have kdd : Kp no wE wE.drew.drew := kd.drew
  have hCd := (hC.kp kCE (fun f => f)).kp kd (fun f => f)
  have hCdd := (hC.kp kCE (fun f => f)).kp kdd (fun f => f)
  have tail : ∀ {V : World} (p2 : Nat), Kp no wE V → PackB V p2 wd1 (pkNums wd1 n1 bits) 0 → b3 = 0 → Calls Tryd.prog 64 #[.pointer (some ⟨p2, 0, none⟩)] V (Rv fun v99 w100 => ∃ n101 : Int, v99 = .int .i64 n101 ∧ br (decide (n101 = (wd1 : Nat))) (Calls Tryd.prog 63 #[.pointer (some ⟨p2, 0, none⟩)] w100 (Rv fun v102 w103 => ∃ n104 : Int, v102 = .int .i64 n104 ∧ br (decide (n104 = (oC.len : Int))) (Calls Tryd.prog 65 #[.pointer (some ⟨p2, 0, none⟩)] w103 (Rv fun v105 w106 => ∃ l107 : Slc, v105 = .slice l107.a l107.len l107.cap ∧ Calls Tryd.prog 66 #[.int .i64 (wd1 : Nat), .slice oC.a oC.len oC.cap] w106 (Rv fun v108 w109 => ∃ l110 : Slc, v108 = .slice l110.a l110.len l110.cap ∧ Calls Tryd.prog 55 #[.slice l107.a l107.len l107.cap, .slice l110.a l110.len l110.cap] w109 (Rv fun v111 w112 => ∃ b113 : Bool, v111 = .bool b113 ∧ br b113 (∃ s114 : ByteArray, w112.cell? (Addr.add ⟨wA.heap.size, 0, none⟩ 0) = some (.string s114) ∧ Calls Tryd.prog 46 #[.pointer (some ⟨wC.heap.size, 0, none⟩)] w112 (Rv fun v115 w116 => ∃ n117 : Int, v115 = .int .i64 n117 ∧ w116.cell? (Addr.add ⟨wA.heap.size, 0, none⟩ 0) = some (.string s114) ∧ br (decide (n117 = (s114.size : Int))) (Calls Tryd.prog 36 #[] w116 (Rv fun v118 w119 => ∃ b120 : Bool, v118 = .bool b120 ∧ (fun v w' => v = Value.bool true ∧ Kp no w w') (.bool b120) w119)) ((fun v w' => v = Value.bool true ∧ Kp no w w') (.bool false) w116))) ((fun v w' => v = Value.bool true ∧ Kp no w w') (.bool false) w112))))) ((fun v w' => v = Value.bool true ∧ Kp no w w') (.bool false) w103))) ((fun v w' => v = Value.bool true ∧ Kp no w w') (.bool false) w100)) := fun {V} p2 kV hp2 hb0 => by
    have hoV := (hoC hb0).kp (kCE.t kV) (fun _ _ f => f)
    have hoR := hoV.rdW (fun x hx => Nat.lt_of_lt_of_le (pkNums_lt x hx) (by have : 2 ^ wd1 ≤ 2 ^ 64 := Nat.pow_le_pow_right (by omega) hwd1; simpa using this))
    have hol := hoR.len
    rw [pkNums_len] at hol
    obtain ⟨hm8, hbl⟩ := hrl' hb0
    refine usei (pWidth hp2) ⟨_, rfl, br_y rfl (usei (pLen hp2) ⟨_, rfl, br_y (by rw [pkNums_len]; omega) (use (pWords hp2 (by rw [pkNums_len]; omega)) ?_)⟩)⟩
    rintro _ wF ⟨oF, rfl, hoF, kF, fF⟩
    refine ⟨oF, rfl, use (pRWords (hoR.kp kF (fun _ _ f => f)) (by rw [pkNums_len]; omega) hwd1) ?_⟩
    rintro _ wG ⟨oG, rfl, hoG, kG, fG⟩
    have hoFl := (hoF.rdW (fun x hx => wordsOf_lt hx)).len
    rw [length_wordsOf, pk_len, pkNums_len] at hoFl
    have hs3 := same2 ((hoF.rdW (fun x hx => wordsOf_lt hx)).kp kG (fun _ _ f => f)) (hoG.rdW (fun x hx => wordsOf_lt hx)) (by omega)
    rw [decide_eq_true rfl] at hs3
    refine ⟨oG, rfl, usek hs3 fun wH kH => ⟨true, rfl, ?_⟩⟩
    have kEH := kV.t (kF.t (kG.t kH))
    have hCH := hC.kp (kCE.t kEH) (fun f => f)
    refine ⟨_, hCH.1.cell 0, usek (qLeft (hE.kp kEH (fun f => f))) fun wI kI => ⟨_, rfl, (hCH.kp kI (fun f => f)).1.cell 0, ?_⟩⟩
    rw [bs8_size]
    exact br_y rfl (lv (k0E.t (kEH.t kI)))
  rcases hu with ⟨rfl, hb⟩ | ⟨hb, p2, rfl, hp2⟩
  · refine ⟨_, rfl, _, hCd.1.cell 1, usei (qErr (hE.kp kd (fun f => f))) ⟨_, rfl, hCd.1.cell 1, br_not (br_y rfl ⟨_, hCd.1.cell 1, br_not (br_n (by omega) ?_)⟩)⟩⟩
    exact ⟨_, hCdd.1.cell 1, br_not (br_n (by omega) (lv (k0E.t kdd)))⟩
  · refine ⟨_, rfl, _, hCd.1.cell 1, usei (qErr (hE.kp kd (fun f => f))) ⟨_, rfl, hCd.1.cell 1, br_not (br_y rfl ⟨_, hCd.1.cell 1, br_not (br_y (by omega) ?_)⟩)⟩⟩
    exact ⟨_, hCdd.1.cell 1, br_not (br_y (by omega) (tail p2 kdd (hp2.kpo kdd) hb))⟩
end Go.Proofs.YtomajpihimlcjaaDoor.V
