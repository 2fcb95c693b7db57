/- Sequences as bytes: put, got (doors only). -/
import Derived.Test.YtomajpihimlcjaaDoorQd
namespace Go.VC
open Go
/-- The bytes of a sequence. -/
def seqBytes (ls : List Nat) : List UInt8 := if ls.length = 0 then enc 0 else enc ls.length ++ (enc (wg ls (ls.length - 1)) ++ rowBytes (seqBits ls))
theorem upto_ex (rest : List UInt8) (most : Nat) : ∃ (n : Nat) (r1 : List UInt8) (b1 : Nat), uptoS rest 0 (most : Int) = ((n : Int), r1, b1) ∧ n ≤ most ∧ r1.length ≤ rest.length ∧ (b1 ≠ 0 → n = 0) := by
  unfold uptoS
  rw [if_neg (by simp)]
  by_cases h1 : (dec rest).2.2 ≠ 0
  · rw [if_pos h1]; exact ⟨0, rest, _, rfl, by omega, Nat.le_refl _, fun _ => rfl⟩
  · rw [if_neg h1]
    by_cases h2 : (most : Int) < 0 ∨ (most : Int) < ((dec rest).1 : Int)
    · rw [if_pos h2]; exact ⟨0, rest, _, rfl, by omega, Nat.le_refl _, fun _ => rfl⟩
    · rw [if_neg h2]; exact ⟨(dec rest).1, _, 0, rfl, by omega, by rw [List.length_drop]; omega, fun h => absurd rfl h⟩
theorem uptoS_bad {rest : List UInt8} {bad : Nat} (h : bad ≠ 0) (most : Int) : uptoS rest bad most = (0, rest, bad) := by unfold uptoS; rw [if_pos h]
theorem rowGet_le {rest : List UInt8} {bad m : Nat} (h : (rowGet rest bad m).2.1 = 0) : m ≤ 8 * rest.length ∧ (rowGet rest bad m).2.2.length = m := by
  unfold rowGet at h ⊢
  by_cases h1 : bad ≠ 0
  · rw [if_pos h1] at h; exact absurd h h1
  rw [if_neg h1] at h ⊢
  by_cases h2 : rest.length < (m + 7) / 8
  · rw [if_pos h2] at h; cases h
  rw [if_neg h2] at h ⊢
  unfold rowFin at h ⊢
  split at h
  · rename_i h3; rw [if_pos h3]; exact ⟨by omega, bitsS_len _ _⟩
  · cases h
end Go.VC
namespace Go.Proofs.YtomajpihimlcjaaDoor.V
open Go Go.VC
variable {w w' w0 W W' wC : World} {l o lr l1 l2 : Slc} {b1 b2 bits : List Bool} {ls : List Nat} {bs rest : List UInt8} {s r b N B m n bad : Nat}

theorem SeqB.kpC (h : SeqB wC s ls B) {S : Nat → Prop} (g : Kp S wC w) (hS : ∀ k, k < wC.heap.size → S k → k < B) : SeqB w s ls B := h.kp (g.mono (S' := fun k => k < B) hS) (fun k h1 h2 => by omega)

theorem putSeq (h : SeqB wC s ls B) (kC : Kp (fun k => k < B) wC w) (hW : Ws w b o w o bs) (hd : ∀ k, RF b o k → 0 < k ∧ (k < B ∨ wC.heap.size ≤ k)) (ht : Tab w) (hsz : ls.length ≤ 1000000) (hbs : bs.length ≤ 100000000) :
    Calls Tryd.prog 37 #[.pointer (some ⟨b, 0, none⟩), .pointer (some ⟨s, 0, none⟩)] w (Rv fun u w' => u = .tuple #[] ∧ ∃ o', Ws w b o w' o' (bs ++ seqBytes ls)) := by
  have hg := h.good
  have hW2 := eW_le hg
  have hhl := hiB_len hg
  refine c37 _ _ _ _ ?_
  unfold B37
  have at_ : ∀ {V : World} {o' : Slc} {bs' : List UInt8}, Ws w b o V o' bs' → SeqB V s ls B ∧ Tab V := fun hV => by
    refine ⟨h.kpC (kC.trans hV.kp (fun k h1 h2 => by
      have := (hd k h2).2; rcases this with g | g
      · exact g
      · omega)) (fun _ _ g => g), ht.kp hV.kp (fun h2 => by have := (hd _ h2).1; omega)⟩
  obtain ⟨h1, _⟩ := at_ hW
  refine usei (eLen h1) ⟨_, rfl, ?_⟩
  rw [wu64 (x := (ls.length : Int)) ⟨by omega, by omega⟩]
  refine use (wNum hW (by omega) ls.length (by omega)) ?_
  rintro _ w2 ⟨rfl, o2, hV⟩
  obtain ⟨h2, _⟩ := at_ hV
  refine ⟨rfl, usei (eLen h2) ⟨_, rfl, br_dec (fun hpos => ?_) (fun hpos => ?_)⟩⟩
  · refine usei (eLast h2) ⟨_, rfl, ?_⟩
    have hn : 0 < ls.length := by omega
    have hlast := wg_le hg (ls.length - 1)
    rw [lastZ_pos hn, wu64 (x := ((wg ls (ls.length - 1) : Nat) : Int)) ⟨by omega, by omega⟩]
    have el1 := enc_len ls.length
    have el2 := enc_len (wg ls (ls.length - 1))
    refine use (wNum hV (by rw [List.length_append]; omega) (wg ls (ls.length - 1)) (by omega)) ?_
    rintro _ w3 ⟨rfl, o3, hV3⟩
    obtain ⟨h3, t3⟩ := at_ hV3
    refine ⟨rfl, use (seqBitsR h3 hsz t3) ?_⟩
    rintro _ w4 ⟨p, rfl, ⟨lp, hp, _⟩, k4⟩
    refine ⟨_, rfl, use (putRow (hV3.kpo k4) ⟨p, rfl, lp, hp⟩ (by
      rw [seqBits_len hg]
      have : eW ls * ls.length ≤ 63 * 1000000 := Nat.mul_le_mul hW2 hsz
      omega) (by rw [List.length_append, List.length_append]; omega)) ?_⟩
    rintro _ w5 ⟨rfl, o5, hV5⟩
    refine ⟨rfl, rfl, o5, ?_⟩
    unfold seqBytes
    rw [if_neg (by omega), ← List.append_assoc, ← List.append_assoc]
    exact hV5
  · refine ⟨rfl, o2, ?_⟩
    have e0 : ls.length = 0 := by omega
    unfold seqBytes
    rw [if_pos e0]
    rw [e0] at hV
    exact hV

theorem numbersR {W_ : Nat} (hr : Row w r lr bits) (hW : W_ ≤ 63) (hn : n ≤ 1048576) (hsz : bits.length ≤ 100000000) (hnw : n * W_ ≤ bits.length) (hb : (bits.length - n * W_ + 1) * 2 ^ W_ ≤ 4611686018427387904) :
    Calls Tryd.prog 113 #[.pointer (some ⟨r, 0, none⟩), .int .i64 n, .int .i64 W_] w (Rv fun v w' => Kp no w w' ∧
      ((cnt (bg (bits.drop (n * W_))) (bits.drop (n * W_)).length = n ∧ ∃ o : Slc, v = .tuple #[.slice o.a o.len o.cap, .bool true] ∧ Ownd w' o 3 1 ((decN bits W_ n n).map IV) ∧ ∀ k, On o k → w.heap.size ≤ k) ∨
       (cnt (bg (bits.drop (n * W_))) (bits.drop (n * W_)).length ≠ n ∧ ∃ o : Slc, v = .tuple #[.slice o.a o.len o.cap, .bool false]))) := by
  refine c113 _ _ _ _ _ ?_
  unfold B113
  obtain ⟨H, hH⟩ : ∃ H, H = bits.drop (n * W_) := ⟨_, rfl⟩
  have hHl : H.length = bits.length - n * W_ := by rw [hH, List.length_drop]
  rw [← hH]
  obtain ⟨w1, o1, hm1, _, ho1, k1, f1⟩ := make_own2 (P := Tryd.prog) (z := .int .i64 0) (bytes := 8) undI (by kernel_rfl) (by kernel_rfl) rfl w 0 n (by omega) (by omega) (by omega)
  have hbg : ∀ t, bg H t = bg bits (n * W_ + t) := fun t => by rw [hH]; unfold bg; rw [List.getElem?_drop]
  have hp := Nat.two_pow_pos W_
  refine ⟨w1, o1, hm1, fun q u a w' => ∃ t c : Nat, a = ((n * W_ + t : Nat) : Int) ∧ t ≤ H.length ∧ c = cnt (bg H) t ∧ c ≤ n ∧ u = ((t - c : Nat) : Int) ∧ Ownd w' q 3 1 ((decN bits W_ n c).map IV) ∧ Kp no w w' ∧ ∀ k, On q k → w.heap.size ≤ k,
    fun _ _ a _ => (bits.length - a).toNat, ⟨0, 0, ?_, by omega, rfl, by omega, rfl, ho1, k1, fun k hk => by have := f1 k hk; omega⟩, ?_⟩
  · rw [w64 ⟨by rw [← Int.natCast_mul]; omega, by rw [← Int.natCast_mul]; omega⟩, ← Int.natCast_mul]; omega
  rintro q u a w2 ⟨t, c, rfl, ht, hc, hcn, rfl, hq, k2, f2⟩
  have hr2 := hr.kp k2 (fun _ _ f => f)
  have hct := cnt_le (bg H) t
  have hql := hq.len
  rw [List.length_map, decN_len] at hql
  refine usei (len1 hr2) ⟨_, rfl, br_dec (fun hlt => ?_) (fun hlt => ?_)⟩
  · refine usei (bit1 hr2 (by omega) _) ⟨_, rfl, ?_⟩
    have hbz : bz bits ((n * W_ + t : Nat) : Int) = bg H t := by unfold bz; rw [Int.toNat_natCast, decide_eq_true (by omega), Bool.true_and, hbg]
    rw [hbz]
    cases hbt : bg H t
    · refine brT ⟨⟨t + 1, c, ?_, by omega, ?_, hcn, ?_, hq, k2, f2⟩, ?_⟩
      · rw [w64 ⟨by omega, by omega⟩]; omega
      · rw [hc]; simp [cnt, hbt]
      · rw [w64 ⟨by omega, by omega⟩]; omega
      · rw [w64 (x := ((n * W_ + t : Nat) : Int) + 1) ⟨by omega, by omega⟩]; dsimp only; omega
    · refine brF (br_dec (fun hfull => ?_) (fun hfull => ?_))
      · have := cnt_lt' hbt (show t < H.length by omega)
        exact ⟨k2, .inr ⟨by omega, ⟨none, 0, 0⟩, rfl⟩⟩
      · have hcp : IntKind.u64.wrap (W_ : Int) = ((W_ : Nat) : Int) := wu64 ⟨by omega, by omega⟩
        rw [hcp]
        have hcw : c * W_ ≤ n * W_ := Nat.mul_le_mul_right _ hcn
        have e1 : IntKind.i64.wrap ((q.len : Int) * (W_ : Int)) = ((c * W_ : Nat) : Int) := by
          rw [show (q.len : Int) = (c : Int) by omega, ← Int.natCast_mul, w64 ⟨by omega, by omega⟩]
        rw [e1]
        refine ⟨by omega, usei (cut1 hr2 (by omega) _ _ ⟨by omega, by omega⟩) ⟨_, rfl, ?_⟩⟩
        have hclw : clampW (W_ : Int) = W_ := by unfold clampW; omega
        have hcl := cutN_lt bits (c * W_) W_
        have htc : (t - c + 1) * 2 ^ W_ ≤ (bits.length - n * W_ + 1) * 2 ^ W_ := Nat.mul_le_mul_right _ (by omega)
        rw [Nat.add_mul, Nat.one_mul] at htc
        have hone : oneAt H c = t := by have := oneAt_eq (show t < H.length by omega) hbt; rwa [← hc] at this
        have ev : bOr .i64 (shL .i64 ((t - c : Nat) : Int) ((W_ : Nat) : Int)) (IntKind.i64.wrap ((cutL bits ((c * W_ : Nat) : Int) (clampW (W_ : Int)) : Nat) : Int)) = ((decAt bits W_ n c : Nat) : Int) := by
          rw [hclw, cutL_nat, shl_i64 hW (by omega), w64 (x := ((cutN bits (c * W_) W_ : Nat) : Int)) ⟨by omega, by omega⟩, or_i64 (by omega) (by omega), dec_or _ _ _ hcl]
          unfold decAt; rw [← hH, hone]
        rw [ev]
        obtain ⟨w3, q3, hr3, hq3, hl3, k3, f3⟩ := append_one (ty := 37) elI hq (IV (decAt bits W_ n c)) rfl (by simp only [maxLen]; omega) (by omega)
        refine ⟨w3, q3, hr3, ⟨t + 1, c + 1, ?_, by omega, ?_, by omega, by omega, ?_, k2.trans k3 (fun k h1 h2 => by have := f2 k h2; omega), fun k hk => ?_⟩, ?_⟩
        · rw [w64 ⟨by omega, by omega⟩]; omega
        · rw [hc]; simp [cnt, hbt]
        · rw [decN_succ, List.map_append]; exact hq3
        · have := k2.size
          rcases f3 k hk with g | g
          · exact f2 k g
          · omega
        · rw [w64 (x := ((n * W_ + t : Nat) : Int) + 1) ⟨by omega, by omega⟩]; dsimp only; omega
  · obtain rfl : t = H.length := by omega
    refine ⟨k2, ?_⟩
    by_cases hcc : c = n
    · subst hcc
      exact .inl ⟨hc.symm, q, by rw [decide_eq_true (by omega)], hq, f2⟩
    · exact .inr ⟨by omega, q, by rw [decide_eq_false (by omega)]⟩

theorem getSeq (h : RdS w r rest bad) (hsz : rest.length ≤ 1000000) :
    Calls Tryd.prog 41 #[.pointer (some ⟨r, 0, none⟩)] w (Rv fun u w' => Kp (fun k => k = r) w w' ∧ ∃ (rest' : List UInt8) (bad' : Nat) (ls : List Nat), SeqG rest bad rest' bad' ls ∧ RdS w' r rest' bad' ∧
      ((u = .pointer none ∧ bad' ≠ 0) ∨ (bad' = 0 ∧ ∃ s B, u = .pointer (some ⟨s, 0, none⟩) ∧ SeqB w' s ls B ∧ w.heap.size ≤ B))) := by
  refine c41 _ _ _ ?_
  unfold B41
  have hrl := h.lt
  refine use (qUpto h 1048576 (by omega)) ?_
  rintro _ w1 ⟨rfl, h1, k1⟩
  refine ⟨_, rfl, usei (qErr h1) ⟨_, rfl, ?_⟩⟩
  by_cases hb : bad ≠ 0
  · rw [uptoS_bad hb] at h1 ⊢
    exact br_not (br_n (by simpa using hb) ⟨k1, rest, bad, [], .inl ⟨hb, rfl, rfl, rfl⟩, h1, .inl ⟨rfl, hb⟩⟩)
  obtain rfl : bad = 0 := by omega
  obtain ⟨n, rest1, bad1, hu, hn, hl1, hz1⟩ := upto_ex rest 1048576
  have hu' : uptoS rest 0 1048576 = ((n : Int), rest1, bad1) := hu
  rw [hu'] at h1 ⊢
  dsimp only at h1 ⊢
  by_cases hb1 : bad1 ≠ 0
  · exact br_not (br_n (by simpa using hb1) ⟨k1, rest1, bad1, [], .inr ⟨rfl, n, rest1, bad1, hu', hn, .inl ⟨hb1, rfl, rfl, rfl⟩⟩, h1, .inl ⟨rfl, hb1⟩⟩)
  obtain rfl : bad1 = 0 := by omega
  refine br_not (br_y rfl (br_dec (fun hn0 => ?_) (fun hn0 => ?_)))
  · -- an empty sequence
    refine use (eNew0 (zs := []) (l := ⟨none, 0, 0⟩) ⟨rfl, (fun i hi => by simp at hi), fun z hz => by cases hz⟩ (by simp) (.inl ⟨rfl, fun i hi => by simp at hi⟩)) ?_
    rintro _ w2 ⟨k2, s, ls, rfl, hz, hs⟩
    have hls : ls = [] := by cases ls with
      | nil => rfl
      | cons a t => cases hz
    subst hls
    exact ⟨_, _, rfl, k1.trans k2 (fun _ _ f => f.elim), rest1, 0, [], .inr ⟨rfl, n, rest1, 0, hu', hn, .inr (.inl ⟨rfl, by omega, rfl, rfl, rfl⟩)⟩, h1.kp k2 (fun f => f), .inr ⟨rfl, s, _, rfl, hs, k1.size⟩⟩
  have hnp : 0 < n := by omega
  refine use (qUpto h1 1099511627776 (by omega)) ?_
  rintro _ w2 ⟨rfl, h2, k2⟩
  obtain ⟨last, rest2, bad2, hv, hlast, hl2, hz2⟩ := upto_ex rest1 1099511627776
  have hv' : uptoS rest1 0 1099511627776 = ((last : Int), rest2, bad2) := hv
  rw [hv'] at h2 ⊢
  dsimp only at h2 ⊢
  have hLow := eLow w2 (n : Int) (last : Int) (by omega) (by omega)
  refine ⟨_, rfl, usei hLow ⟨_, rfl, ?_⟩⟩
  have hmul := lowW_mul (n := n) (last := last) hnp (by omega)
  have hWle : lowW (n : Int) (last : Int) ≤ 63 := lowW_le (by omega)
  have seqg : ∀ {rest' : List UInt8} {bad' : Nat} {ls : List Nat} (rest3 : List UInt8) (bad3 : Nat) (bits : List Bool), rowGet rest2 bad2 (n * lowW n last + n + last / 2 ^ lowW (n : Int) (last : Int)) = (rest3, bad3, bits) → rest' = rest3 →
      ((bad3 ≠ 0 ∧ bad' = bad3 ∧ ls = []) ∨ (bad3 = 0 ∧ bad' = 0 ∧ SeqOk bits n last ls) ∨ (bad3 = 0 ∧ bad' = 3 ∧ ls = [] ∧ ¬ ∃ ms, SeqOk bits n last ms)) → SeqG rest 0 rest' bad' ls := fun rest3 bad3 bits e1 e2 e3 =>
    .inr ⟨rfl, n, rest1, 0, hu', hn, .inr (.inr ⟨rfl, hnp, last, rest2, bad2, hv', hlast, rest3, bad3, bits, e1, e2, e3⟩)⟩
  have sok : ∀ {bits : List Bool} {ms : List Nat}, SeqOk bits n last ms → _ := fun h => SeqOk.dec hnp h
  have sback := fun {bits : List Bool} => seqBits_back (bits := bits) (n := n) (last := last) hnp
  generalize hWv : lowW (n : Int) (last : Int) = W at *
  have hp := Nat.two_pow_pos W
  have hdv : last / 2 ^ W ≤ last := Nat.div_le_self _ _
  have hdm : last / 2 ^ W * 2 ^ W ≤ last := Nat.div_mul_le_self _ _
  have hnW : n * W ≤ 1048576 * 63 := Nat.mul_le_mul hn hWle
  have hcp : IntKind.u64.wrap (W : Int) = ((W : Nat) : Int) := wu64 ⟨by omega, by omega⟩
  rw [hcp, shr_i64 hWle]
  generalize last / 2 ^ W = z at *
  have em : IntKind.i64.wrap (IntKind.i64.wrap (IntKind.i64.wrap ((n : Int) * (W : Int)) + (n : Int)) + ((z : Nat) : Int)) = ((n * W + n + z : Nat) : Int) := by
    rw [← Int.natCast_mul, w64 (x := ((n * W : Nat) : Int)) ⟨by omega, by omega⟩, w64 (x := ((n * W : Nat) : Int) + (n : Int)) ⟨by omega, by omega⟩, w64 ⟨by omega, by omega⟩]; omega
  rw [em]
  refine ⟨by omega, use (getRow h2 _ ⟨by omega, by omega⟩ (by omega)) ?_⟩
  rintro u3 w3 ⟨k3, h3, hu3⟩
  have emx : (max ((n * W + n + z : Nat) : Int) 0).toNat = n * W + n + z := by omega
  rw [emx] at h3 hu3
  have k13 : Kp (fun k => k = r) w w3 := (k1.trans k2 (fun _ _ h => h)).trans k3 (fun _ _ h => h)
  have hrl' := rowGet_le (rest := rest2) (bad := bad2) (m := n * W + n + z)
  have s2 := (k1.trans k2 (fun _ _ h => h)).size
  have s3 := k13.size
  obtain ⟨rest3, bad3, bits, hq⟩ : ∃ rest3 bad3 bits, rowGet rest2 bad2 (n * W + n + z) = (rest3, bad3, bits) := ⟨_, _, _, rfl⟩
  rw [hq] at h3 hu3 hrl'
  dsimp only at h3 hu3 hrl'
  rcases hu3 with ⟨rfl, hb3⟩ | ⟨p, rfl, ⟨lp, hp3, fp3⟩, hb3, hbl⟩
  · exact ⟨_, rfl, usei (qErr h3) ⟨_, rfl, br_not (br_n (by omega) ⟨k13, rest3, bad3, [], seqg rest3 bad3 bits hq rfl (.inl ⟨hb3, rfl, rfl⟩), h3, .inl ⟨rfl, hb3⟩⟩)⟩⟩
  subst hb3
  obtain ⟨hm8, _⟩ := hrl' rfl
  refine ⟨_, rfl, usei (qErr h3) ⟨_, rfl, br_not (br_y rfl ?_)⟩⟩
  have hHb : (bits.length - n * W + 1) * 2 ^ W ≤ 4611686018427387904 := by
    rw [hbl]
    have e1 : n * W + n + z - n * W + 1 = n + (z + 1) := by omega
    rw [e1, Nat.add_mul, Nat.add_mul, Nat.one_mul]
    have e3 : 1 * 2 ^ W ≤ n * 2 ^ W := Nat.mul_le_mul_right _ hnp
    rw [Nat.one_mul] at e3
    omega
  refine use (numbersR hp3 hWle hn (by rw [hbl]; omega) (by rw [hbl]; omega) hHb) ?_
  rintro _ w4 ⟨k4, hnum⟩
  have k14 : Kp (fun k => k = r) w w4 := k13.trans k4 (fun _ _ f => f.elim)
  have h4 := h3.kp k4 (fun f => f)
  -- what is wrong
  have fails : ∀ {V : World}, Kp no w4 V → (¬ ∃ ms, SeqOk bits n last ms) → Calls Tryd.prog 114 #[.pointer (some ⟨r, 0, none⟩), .int .i64 3] V (Rv fun v33 w34 => v33 = .tuple #[] ∧ (Kp (fun k => k = r) w w34 ∧ ∃ (rest' : List UInt8) (bad' : Nat) (ls : List Nat), SeqG rest 0 rest' bad' ls ∧ RdS w34 r rest' bad' ∧
      ((Value.pointer none = .pointer none ∧ bad' ≠ 0) ∨ (bad' = 0 ∧ ∃ s B, Value.pointer none = .pointer (some ⟨s, 0, none⟩) ∧ SeqB w34 s ls B ∧ w.heap.size ≤ B)))) := fun {V} kV hno => by
    refine use (qFail (h4.kp kV (fun f => f)) 3 (by decide)) ?_
    rintro _ w9 ⟨rfl, h9, k9⟩
    rw [if_pos rfl] at h9
    exact ⟨rfl, (k14.trans kV (fun _ _ f => f.elim)).trans k9 (fun _ _ h => h), rest3, 3, [], seqg rest3 0 bits hq rfl (.inr (.inr ⟨rfl, rfl, rfl, hno⟩)), h9, .inl ⟨rfl, by decide⟩⟩
  rcases hnum with ⟨hc, o, rfl, ho, fo⟩ | ⟨hc, o, rfl⟩
  · have hol := ho.len
    rw [List.length_map, decN_len] at hol
    have e1 : IntKind.i64.wrap ((n : Int) - 1) = ((n - 1 : Nat) : Int) := by rw [w64 ⟨by omega, by omega⟩]; omega
    refine ⟨o, _, rfl, ?_⟩
    rw [e1]
    obtain ⟨a, ha, hca⟩ := ho.rdI.at (i := ((n - 1 : Nat) : Int)) (by omega) (by omega)
    rw [Int.toNat_natCast] at hca
    refine ⟨by omega, by omega, a, ha, _, by rw [Int.toNat_natCast]; exact hca, br_dec (fun hla => ?_) (fun hla => fails (Kp.refl _ _) fun ⟨ms, hms⟩ => ?_)⟩
    · have hla' : wg (decN bits W n n) (n - 1) = last := by omega
      have hlo : ∀ z ∈ zl (decN bits W n n), -9223372036854775808 ≤ z ∧ z ≤ 9223372036854775807 := fun z hz => by
        obtain ⟨x, hx, rfl⟩ := List.mem_map.1 hz
        obtain ⟨k, hk, rfl⟩ := List.mem_map.1 hx
        have hk := List.mem_range.1 hk
        have h1 := cutN_lt bits (k * W) W
        have h2 := (oneAt_spec (H := bits.drop (n * W)) (k := k) (by omega)).1
        rw [List.length_drop] at h2
        have h3 : (oneAt (bits.drop (n * W)) k - k + 1) * 2 ^ W ≤ (bits.length - n * W + 1) * 2 ^ W := Nat.mul_le_mul_right _ (by omega)
        rw [Nat.add_mul, Nat.one_mul] at h3
        unfold decAt
        omega
      have hrz : RdZ w4 o (zl (decN bits W n n)) := ownZ (by rw [show (zl (decN bits W n n)).map (Value.int .i64) = (decN bits W n n).map IV by rw [List.map_map]; rfl]; exact ho) hlo
      refine use (eNew hrz (by rw [zl_len, decN_len]; omega)) ?_
      rintro _ w5 ⟨k5, ⟨e, rfl, he0, he⟩ | ⟨s, ls, rfl, hz, hs⟩⟩
      · refine ⟨_, _, rfl, br_n he0 (fails k5 fun ⟨ms, hms⟩ => ?_)⟩
        have hd := (sok hms).2
        rw [hd] at he
        exact he0 (he.one (.inl ⟨rfl, okE_of hms.1⟩))
      · have hz := zl_inj hz
        subst hz
        refine ⟨_, _, rfl, br_y rfl ⟨k14.trans k5 (fun _ _ f => f.elim), rest3, 0, _, seqg rest3 0 bits hq rfl (.inr (.inl ⟨rfl, rfl, hs.good, decN_len _ _ _ _, hla', sback hbl hc hs.good hla'⟩)), h4.kp k5 (fun f => f), .inr ⟨rfl, s, _, rfl, hs, k14.size⟩⟩⟩
    · have hd := (sok hms).2
      apply hla
      rw [hd, hms.2.2.1]
  · exact ⟨o, _, rfl, fails (Kp.refl _ _) fun ⟨ms, hms⟩ => hc (sok hms).1⟩
end Go.Proofs.YtomajpihimlcjaaDoor.V
