/- Packs made of words; the law on them. -/
import Derived.Test.YtilccklocaeebaaPl
namespace Go.Proofs.Ytilccklocaeebaa.V
open Go Go.VC
variable {w w' w0 : World} {l : Slc} {bits : List Bool} {ws xs : List Nat} {p r B wd n : Nat}

theorem brT {x y : Prop} (h : x) : br (!false) x y := h
theorem brF {x y : Prop} (h : y) : br (!true) x y := h
theorem pOf (h : RdW w l ws) (hsz : l.len ≤ 1000000) (x y : Int) (_hx : -9223372036854775808 ≤ x ∧ x ≤ 9223372036854775807) : Calls Try.prog 35 #[.int .i64 x, .int .i64 y, .slice l.a l.len l.cap] w (Rv fun v w' => Kp no w w' ∧
    ((v = .tuple #[.pointer none, .int .i64 1] ∧ (x < 0 ∨ 64 < x ∨ y < 0 ∨ 67108864 < y ∨ ((y * x).toNat + 63) / 64 ≠ ws.length)) ∨
     (0 ≤ x ∧ x ≤ 64 ∧ 0 ≤ y ∧ y ≤ 67108864 ∧ ((y * x).toNat + 63) / 64 = ws.length ∧ (v = .tuple #[.pointer none, .int .i64 3] ∧ wordsOf (bitsW ws (y * x).toNat) ≠ ws ∨
       ∃ p, v = .tuple #[.pointer (some ⟨p, 0, none⟩), .int .i64 0] ∧ wordsOf (bitsW ws (y * x).toNat) = ws ∧ PackB w' p x.toNat (pkNums x.toNat y.toNat (bitsW ws (y * x).toNat)) 0)))) := by
  refine c35 _ _ _ _ _ ?_
  unfold B35
  refine br_dec (fun h1 => ⟨Kp.refl _ _, .inl ⟨rfl, .inl h1⟩⟩) (fun h1 => br_dec (fun h2 => ⟨Kp.refl _ _, .inl ⟨rfl, .inr (.inl h2)⟩⟩) (fun h2 => br_dec (fun h3 => ⟨Kp.refl _ _, .inl ⟨rfl, .inr (.inr (.inl h3))⟩⟩) (fun h3 => br_dec (fun h4 => ⟨Kp.refl _ _, .inl ⟨rfl, .inr (.inr (.inr (.inl h4)))⟩⟩) (fun h4 => ?_))))
  obtain ⟨x, rfl⟩ : ∃ j : Nat, x = j := ⟨x.toNat, by omega⟩
  obtain ⟨y, rfl⟩ : ∃ j : Nat, y = j := ⟨y.toNat, by omega⟩
  have hb : y * x ≤ 67108864 * 64 := Nat.mul_le_mul (by omega) (by omega)
  rw [show ((y : Int) * (x : Int)) = ((y * x : Nat) : Int) by rw [Int.natCast_mul]]
  rw [w64 (x := ((y * x : Nat) : Int)) ⟨by omega, by omega⟩]
  simp only [Int.toNat_natCast]
  refine use (of1 h hsz _ ⟨by omega, by omega⟩) ?_
  rintro _ w1 ⟨k1, hv⟩
  simp only [Int.toNat_natCast] at hv
  rcases hv with ⟨rfl, hh⟩ | ⟨rfl, hn, hh, hg⟩ | ⟨r, rl, rfl, hn, hh, hg, hr⟩
  · refine ⟨_, _, rfl, br_not (br_dec (fun hh => absurd hh (by decide)) (fun _ => ⟨k1, .inl ⟨rfl, ?_⟩⟩))⟩
    rcases hh with hh | hh
    · omega
    · exact .inr (.inr (.inr (.inr hh)))
  · exact ⟨_, _, rfl, br_not (br_dec (fun hh => absurd hh (by decide)) (fun _ => ⟨k1, .inr ⟨by omega, by omega, by omega, by omega, hh, .inl ⟨rfl, hg⟩⟩⟩))⟩
  · have kA : Kp no w1 (w1.alloc (.cells #[.pointer (some ⟨r, 0, none⟩), .int .i64 (x : Int), .int .i64 (y : Int)] 87)) := (Kp.refl _ _).alloc _ _
    refine ⟨_, _, rfl, br_not (br_dec (fun _ => ⟨k1.t kA, .inr ⟨by omega, by omega, by omega, by omega, hh, .inr ⟨_, rfl, hg, r, ?_, ⟨rl, ?_, fun _ _ => Nat.zero_le _⟩, by omega, pkNums_lt, Nat.zero_le _⟩⟩⟩) (fun hh => absurd rfl hh))⟩
    · rw [pkNums_len]; exact Blk.new _ _ _
    · rw [pk_of (by rw [bitsW_len])]
      exact hr.kp kA (fun _ _ f => f)

theorem pROf (h : RdW w l ws) (hsz : l.len ≤ 1000000) (hwd : wd ≤ 64) (hn : n ≤ 67108864) (hl : wd * n ≤ 64 * l.len) : Calls Try.prog 36 #[.int .i64 wd, .int .i64 n, .slice l.a l.len l.cap] w (Rv fun v w' => Kp no w w' ∧
    ((v = .tuple #[.slice none 0 0, .bool false] ∧ wordsOf (bitsW ws (wd * n)) ≠ ws) ∨ (∃ o : Slc, v = .tuple #[.slice o.a o.len o.cap, .bool true] ∧ wordsOf (bitsW ws (wd * n)) = ws ∧
      Ownd w' o 23 1 ((pkNums wd n (bitsW ws (wd * n))).map U)))) := by
  refine c36 _ _ _ _ _ ?_
  unfold B36
  rw [show ((wd : Int) * (n : Int)) = ((wd * n : Nat) : Int) by rw [Int.natCast_mul], w64 (x := ((wd * n : Nat) : Int)) ⟨by omega, by omega⟩]
  refine use (of2 h hsz _) ?_
  rintro _ w1 ⟨k1, hv⟩
  simp only [Int.toNat_natCast] at hv
  rcases hv with ⟨rfl, hh⟩ | ⟨o, rfl, h0, h1, ho⟩
  · omega
  · refine ⟨o, _, rfl, br_not (br_dec (fun hg => ?_) (fun hg => ⟨k1, .inl ⟨rfl, hg⟩⟩))⟩
    have hob := ho.rdB
    have hol := hob.len
    rw [bitsW_len] at hol
    have hnm : ∀ m, m ≤ n → m * wd ≤ wd * n := fun m hm => by rw [Nat.mul_comm wd n]; exact Nat.mul_le_mul_right _ hm
    refine ⟨fun q i w' => ∃ m : Nat, i = m ∧ m ≤ n ∧ Ownd w' q 23 1 ((pkNums wd m (bitsW ws (wd * n))).map U) ∧ Kp no w1 w' ∧ ∀ k, On q k → w1.heap.size ≤ k, fun _ i _ => (n - i).toNat, ⟨0, rfl, by omega, by simpa [pkNums] using Ownd.nil w1 23 1, Kp.refl _ _, fun k hk => absurd hk On.nil⟩, ?_⟩
    rintro q i w2 ⟨m, rfl, hm, hq, k2, f2⟩
    have hql := hq.len
    rw [List.length_map, pkNums_len] at hql
    refine br_dec (fun hlt => ?_) (fun hlt => ?_)
    · have hmw := hnm m hm
      rw [show ((m : Int) * (wd : Int)) = ((m * wd : Nat) : Int) by rw [Int.natCast_mul], w64 (x := ((m * wd : Nat) : Int)) ⟨by omega, by omega⟩]
      refine usei (cut2 (hob.kp k2 (fun _ _ f => f)) (by omega) _ _ ⟨by omega, by omega⟩) ⟨_, rfl, ?_⟩
      have hcl : clampW (wd : Int) = wd := by unfold clampW; omega
      rw [hcl]
      obtain ⟨w3, q3, hr3, hq3, hl3, k3, f3⟩ := append_one (ty := 22) elU hq (U (cutL (bitsW ws (wd * n)) ((m * wd : Nat) : Int) wd)) rfl (by simp only [maxLen]; omega) (by omega)
      refine ⟨w3, q3, hr3, ?_⟩
      rw [w64 ⟨by omega, by omega⟩]
      refine ⟨⟨m + 1, by omega, by omega, ?_, k2.trans k3 (fun k h1 h2 => by have := f2 k h2; omega), fun k hk => ?_⟩, by dsimp only; omega⟩
      · have : pkNums wd (m + 1) (bitsW ws (wd * n)) = pkNums wd m (bitsW ws (wd * n)) ++ [cutL (bitsW ws (wd * n)) ((m * wd : Nat) : Int) wd] := by
          unfold pkNums; rw [List.range_succ, List.map_append]; rfl
        rw [this, ← map_snoc]; exact hq3
      · have := k2.size
        rcases f3 k hk with g | g
        · exact f2 k g
        · omega
    · obtain rfl : m = n := by omega
      exact ⟨k1.t k2, .inr ⟨q, rfl, hg, hq⟩⟩

theorem packOf (x y : Int) (hx : -9223372036854775808 ≤ x ∧ x ≤ 9223372036854775807) (h : RdW w l ws) : IsK 8 #[.int .i64 x, .int .i64 y, .slice l.a l.len l.cap] w (.bool true) := by
  have hl := h.len
  refine c8 _ _ _ _ _ ?_
  unfold B8
  have lv : ∀ {wa : World}, Kp no w wa → Calls Try.prog 25 #[] wa (Rv fun v w2 => ∃ b, v = Value.bool b ∧ (Value.bool b = .bool true ∧ Kp no w w2)) := fun ka => usek (live3 _) fun w2 k2 => ⟨_, rfl, rfl, ka.t k2⟩
  refine br_dec (fun _ => lv (Kp.refl _ _)) (fun hs => use (pOf h (by omega) x y hx) ?_)
  rintro _ w1 ⟨k1, hv⟩
  have er : ∀ (c : Int) (F G : Prop), br (none : Option Addr).isNone (br (decide (c = c)) (Calls Try.prog 25 #[] w1 (Rv fun v w2 => ∃ b, v = Value.bool b ∧ (Value.bool b = .bool true ∧ Kp no w w2))) F) G := fun c F G => brN (br_dec (fun _ => lv k1) (fun hh => absurd rfl hh))
  rw [w64 (x := 64 * (l.len : Int)) ⟨by omega, by omega⟩, w64 (x := 64 * (l.len : Int) - 64) ⟨by omega, by omega⟩]
  rcases hv with ⟨rfl, hh⟩ | ⟨x0, x1, y0, y1, hne, hv⟩
  · refine ⟨_, _, rfl, br_dec (fun _ => er _ _ _) (fun h1 => br_dec (fun _ => er _ _ _) (fun h2 => br_dec (fun _ => er _ _ _) (fun h3 => br_dec (fun _ => er _ _ _) (fun h4 => ?_))))⟩
    have hne : ((y * x).toNat + 63) / 64 ≠ ws.length := by
      rcases hh with hh | hh | hh | hh | hh
      · omega
      · omega
      · omega
      · omega
      · exact hh
    obtain ⟨x, rfl⟩ : ∃ j : Nat, x = j := ⟨x.toNat, by omega⟩
    obtain ⟨y, rfl⟩ : ∃ j : Nat, y = j := ⟨y.toNat, by omega⟩
    have hb : y * x ≤ 67108864 * 64 := Nat.mul_le_mul (by omega) (by omega)
    rw [show ((y : Int) * (x : Int)) = ((y * x : Nat) : Int) by rw [Int.natCast_mul]] at hne ⊢
    rw [w64 (x := ((y * x : Nat) : Int)) ⟨by omega, by omega⟩]
    rw [Int.toNat_natCast] at hne
    refine br_dec (fun h5 => br_dec (fun _ => er _ _ _) (fun h6 => ?_)) (fun h5 => br_dec (fun h6 => br_dec (fun _ => er _ _ _) (fun h7 => ?_)) (fun h6 => br_dec (fun _ => er _ _ _) (fun h7 => br_dec (fun _ => er _ _ _) (fun h8 => br_dec (fun _ => er _ _ _) (fun h9 => ?_)))))
    · exfalso; have : x = 0 := by omega
      subst this; rw [Nat.mul_zero] at hne; omega
    · exfalso; have : y = 0 := by omega
      subst this; rw [Nat.zero_mul] at hne; omega
    · exfalso; omega
  · obtain ⟨x, rfl⟩ : ∃ j : Nat, x = j := ⟨x.toNat, by omega⟩
    obtain ⟨y, rfl⟩ : ∃ j : Nat, y = j := ⟨y.toNat, by omega⟩
    have hb : y * x ≤ 67108864 * 64 := Nat.mul_le_mul (by omega) (by omega)
    rw [show ((y : Int) * (x : Int)) = ((y * x : Nat) : Int) by rw [Int.natCast_mul]] at hne hv ⊢
    rw [w64 (x := ((y * x : Nat) : Int)) ⟨by omega, by omega⟩]
    rw [Int.toNat_natCast] at hne
    simp only [Int.toNat_natCast] at hv
    have hxy : y ≤ y * x ∨ x = 0 := by
      rcases Nat.eq_zero_or_pos x with e | e
      · exact .inr e
      · exact .inl (Nat.le_mul_of_pos_right y e)
    rcases hv with ⟨rfl, hg⟩ | ⟨p, rfl, hg, hp⟩
    · have hpos : 0 < ws.length := by
        rcases Nat.eq_zero_or_pos ws.length with e | e
        · exfalso
          have h0 : y * x = 0 := by omega
          rw [h0] at hg
          have : ws = [] := List.eq_nil_of_length_eq_zero e
          subst this
          exact hg rfl
        · exact e
      refine ⟨_, _, rfl, br_dec (fun _ => by omega) (fun h1 => br_dec (fun _ => by omega) (fun h2 => br_dec (fun _ => by omega) (fun h3 => br_dec (fun _ => by omega) (fun h4 => ?_))))⟩
      refine br_dec (fun h5 => ?_) (fun h5 => br_dec (fun h6 => ?_) (fun h6 => br_dec (fun h7 => ?_) (fun h7 => br_dec (fun h8 => ?_) (fun h8 => br_dec (fun h9 => ?_) (fun h9 => ?_)))))
      · exfalso; have : x = 0 := by omega
        subst this; rw [Nat.mul_zero] at hne; omega
      · exfalso; have : y = 0 := by omega
        subst this; rw [Nat.zero_mul] at hne; omega
      · exfalso; omega
      · exfalso; omega
      · exfalso; omega
      · refine use (pROf (h.kp k1 (fun _ _ f => f)) (by omega) (by omega) (by omega) (by rw [Nat.mul_comm]; omega)) ?_
        rintro _ w2 ⟨k2, hv2⟩
        rw [Nat.mul_comm x y] at hv2
        rcases hv2 with ⟨rfl, _⟩ | ⟨o, rfl, hg2, _⟩
        · exact ⟨⟨none, 0, 0⟩, _, rfl, brT (brN (br_dec (fun _ => lv (k1.t k2)) (fun hh => absurd rfl hh)))⟩
        · exact absurd hg2 hg
    · have hnl := pkNums_len x y (bitsW ws (y * x))
      refine ⟨_, _, rfl, br_dec (fun _ => by omega) (fun h1 => br_dec (fun _ => by omega) (fun h2 => br_dec (fun _ => by omega) (fun h3 => br_dec (fun _ => by omega) (fun h4 => ?_))))⟩
      have at0 : x = 0 ∨ y = 0 → atU (pkNums x y (bitsW ws (y * x))) 0 = 0 := by
        intro hh
        unfold atU
        split
        · rename_i g
          rcases hh with rfl | rfl
          · have hm := pkNums_lt (wd := 0) (n := y) (bits := bitsW ws (y * 0)) _ (wg_mem (i := 0) (by omega))
            simpa using hm
          · rw [hnl] at g; omega
        · rfl
      have asks : x = 0 ∨ y = 0 → br (decide ((0 : Int) = 0)) (Calls Try.prog 31 #[.pointer (some ⟨p, 0, none⟩)] w1 (Rv fun v38 w39 =>
          ∃ n40 : Int, v38 = .int .i64 n40 ∧ br (decide (n40 = (y : Int))) (Calls Try.prog 32 #[.pointer (some ⟨p, 0, none⟩)] w39 (Rv fun v41 w42 => ∃ n43 : Int, v41 = .int .i64 n43 ∧
          br (decide (n43 = (x : Int))) (Calls Try.prog 30 #[.pointer (some ⟨p, 0, none⟩), .int .i64 0] w42 (Rv fun v44 w45 => ∃ n46 : Int, v44 = .int .u64 n46 ∧
          br (decide (n46 = (0 : Int))) (Calls Try.prog 25 #[] w45 (Rv fun v47 w48 => ∃ b49 : Bool, v47 = .bool b49 ∧
          (Value.bool b49 = .bool true ∧ Kp no w w48))) (Value.bool false = .bool true ∧ Kp no w w45))) (Value.bool false = .bool true ∧ Kp no w w42))) (Value.bool false = .bool true ∧ Kp no w w39))) (Value.bool false = .bool true ∧ Kp no w w1) := by
        intro hh
        refine br_dec (fun _ => usei (pLen hp) ⟨_, rfl, br_dec (fun _ => usei (pWidth hp) ⟨_, rfl, br_dec (fun _ => usek (pAt hp (by omega) 0) fun w2 k2 => ⟨_, rfl, ?_⟩) (fun hh => absurd rfl hh)⟩) (fun hh => absurd (by rw [hnl]) hh)⟩) (fun hh => absurd rfl hh)
        rw [at0 hh]
        exact br_dec (fun _ => lv (k1.t k2)) (fun hh => absurd rfl hh)
      refine br_dec (fun h5 => ?_) (fun h5 => br_dec (fun h6 => ?_) (fun h6 => br_dec (fun h7 => ?_) (fun h7 => br_dec (fun h8 => ?_) (fun h8 => br_dec (fun h9 => ?_) (fun h9 => ?_)))))
      · have hx0 : x = 0 := by omega
        refine br_dec (fun h10 => ?_) (fun h10 => asks (.inl hx0))
        exfalso; rw [hx0, Nat.mul_zero] at hne; omega
      · have hy0 : y = 0 := by omega
        refine br_dec (fun h10 => ?_) (fun h10 => asks (.inr hy0))
        exfalso; rw [hy0, Nat.zero_mul] at hne; omega
      · exfalso; omega
      · exfalso; omega
      · exfalso; omega
      · refine use (pROf (h.kp k1 (fun _ _ f => f)) (by omega) (by omega) (by omega) (by rw [Nat.mul_comm]; omega)) ?_
        rintro _ w2 ⟨k2, hv2⟩
        rw [Nat.mul_comm x y] at hv2
        rcases hv2 with ⟨rfl, hg2⟩ | ⟨o, rfl, _, ho⟩
        · exact absurd hg hg2
        · refine ⟨o, _, rfl, brF (br_dec (fun _ => ?_) (fun hh => absurd rfl hh))⟩
          have hor : RdW w2 o (pkNums x y (bitsW ws (y * x))) := ho.rdW (fun z hz => by have := pkNums_lt z hz; exact Nat.lt_of_lt_of_le this (Nat.pow_le_pow_right (by omega) (show x ≤ 64 by omega)))
          exact usek (pIs (hp.kpo k2) hor (by omega)) fun w3 k3 => ⟨_, rfl, lv (k1.t (k2.t k3))⟩
end Go.Proofs.Ytilccklocaeebaa.V
