/- Rows as bytes: the program and the plain ones. -/
import Derived.Test.YtomajpihimlcjaaDoorQa
import Derived.Test.YtomajpihimlcjaaDoorWz
import Derived.Test.YtomajpihimlcjaaDoorPg
import Derived.Test.YtomajpihimlcjaaDoorBQ
namespace Go.Proofs.YtomajpihimlcjaaDoor.V
open Go Go.VC
variable {w w' w0 : World} {l o lr : Slc} {bits : List Bool} {ws : List Nat} {bs rest : List UInt8} {b r x p B bad : Nat}

theorem cutL8 (bits : List Bool) (i : Nat) : cutL bits (i : Int) (clampW 8) = cutN bits i 8 := cutL_nat bits i 8
theorem wu8c (bits : List Bool) (i : Nat) : Value.int .u8 (IntKind.u8.wrap ((cutN bits (8 * i) 8 : Nat) : Int)) = V8 (rowByte bits i) := by
  have := cut8_lt bits (8 * i)
  rw [wu8 ⟨by omega, by omega⟩]
  exact (V8_of this).symm

/-- A row's bytes are written. -/
theorem putRow (hW : Ws w0 b l w o bs) (hr : ∃ r, x = r ∧ ∃ lr, Row w r lr bits) (hsz : bits.length ≤ 100000000) (hbs : bs.length ≤ 1000000000) :
    Calls Tryd.prog 49 #[.pointer (some ⟨b, 0, none⟩), .pointer (some ⟨x, 0, none⟩)] w (Rv fun u w' => u = .tuple #[] ∧ ∃ o', Ws w0 b l w' o' (bs ++ rowBytes bits)) := by
  obtain ⟨_, rfl, lr, hr⟩ := hr
  refine c49 _ _ _ _ ?_
  unfold B49
  have e1 : IntKind.i64.wrap (IntKind.i64.wrap (Int.tdiv (bits.length : Int) 8) + 1) = ((bits.length / 8 + 1 : Nat) : Int) := by
    rw [Int.tdiv_eq_ediv_of_nonneg (by omega), w64 (x := (bits.length : Int) / 8) ⟨by omega, by omega⟩, w64 ⟨by omega, by omega⟩]; omega
  refine usei (len1 hr) ⟨_, rfl, by omega, ?_⟩
  rw [e1]
  obtain ⟨w1, o1, hm1, _, ho1, k1, f1⟩ := make_own2 (P := Tryd.prog) (z := .int .u8 0) (bytes := 1) und8s (by kernel_rfl) (by kernel_rfl) rfl w 0 (bits.length / 8 + 1) (by omega) (by omega) (by omega)
  refine ⟨w1, o1, hm1, usei (len1 (hr.kp k1 (fun _ _ f => f))) ⟨_, rfl, ?_⟩⟩
  have s1 := k1.size
  refine ⟨fun q i w' => ∃ m : Nat, i = m ∧ m ≤ bits.length ∧ Ownd w' q 5 1 ((rowPre bits ((m + 7) / 8)).map V8) ∧ Kp no w w' ∧ ∀ k, On q k → w.heap.size ≤ k,
    fun _ i _ => (bits.length - i).toNat, ⟨0, rfl, by omega, ho1, k1, fun k hk => by have := f1 k hk; omega⟩, ?_⟩
  rintro q i w2 ⟨m, rfl, hm, hq, k2, f2⟩
  have hql := hq.len
  rw [List.length_map, rowPre_len] at hql
  refine br_dec (fun hlt => ⟨by omega, br_dec (fun h8 => ?_) (fun h8 => ?_)⟩) (fun hlt => ?_)
  · rw [Int.tmod_eq_emod_of_nonneg (by omega)] at h8
    obtain ⟨n, rfl⟩ : ∃ n, m = 8 * n := ⟨m / 8, by omega⟩
    refine usei (cut1 (hr.kp k2 (fun _ _ f => f)) (by omega) _ _ ⟨by omega, by omega⟩) ⟨_, rfl, ?_⟩
    rw [cutL8, wu8c]
    obtain ⟨w3, q3, hr3, hq3, hl3, k3, f3⟩ := append_one (ty := 60) el8 hq (V8 (rowByte bits n)) rfl (by simp only [maxLen]; omega) (by omega)
    refine ⟨w3, q3, hr3, ⟨8 * n + 1, by rw [w64 ⟨by omega, by omega⟩]; omega, by omega, ?_, k2.trans k3 (fun k h1 h2 => by have := f2 k h2; omega), fun k hk => ?_⟩, by rw [w64 ⟨by omega, by omega⟩]; dsimp only; omega⟩
    · rw [show (8 * n + 1 + 7) / 8 = n + 1 by omega, rowPre_succ, List.map_append]
      rw [show (8 * n + 7) / 8 = n by omega] at hq3
      exact hq3
    · have := k2.size
      rcases f3 k hk with g | g
      · exact f2 k g
      · omega
  · rw [Int.tmod_eq_emod_of_nonneg (by omega)] at h8
    refine ⟨⟨m + 1, by rw [w64 ⟨by omega, by omega⟩]; omega, by omega, ?_, k2, f2⟩, by rw [w64 ⟨by omega, by omega⟩]; dsimp only; omega⟩
    rw [show (m + 1 + 7) / 8 = (m + 7) / 8 by omega]; exact hq
  · obtain rfl : m = bits.length := by omega
    have hb := rowBytes_len bits
    refine ⟨w2, _, to_str und8s und8 undS hq, use (wRaw (hW.kpo k2) (by omega) (rowBytes bits) (by omega)) ?_⟩
    rintro _ w3 ⟨rfl, o', h3⟩
    exact ⟨rfl, rfl, o', h3⟩

/-- The plain bytes of a row. -/
theorem refRow (h : RdB w l bits) (hsz : bits.length ≤ 100000000) : IsK 51 #[.slice l.a l.len l.cap] w (.string (bs8 (rowBytes bits))) := by
  refine c51 _ _ _ ?_
  unfold B51
  have hl := h.len
  refine ⟨fun s i w' => ∃ m : Nat, i = ((8 * m : Nat) : Int) ∧ m ≤ (bits.length + 7) / 8 ∧ s = bs8 (rowPre bits m) ∧ Kp no w w', fun _ i _ => (bits.length + 8 - i).toNat, ⟨0, rfl, by omega, rfl, Kp.refl _ _⟩, ?_⟩
  rintro s i w1 ⟨m, rfl, hm, rfl, k1⟩
  refine br_dec (fun hlt => ?_) (fun hlt => ?_)
  · refine usei (cut2 (h.kp k1 (fun _ _ f => f)) (by omega) _ _ ⟨by omega, by omega⟩) ⟨_, rfl, ?_⟩
    rw [cutL8, wu8c]
    have kA : Kp no w1 (w1.alloc (.cells #[V8 (rowByte bits m)] 5)) := (Kp.refl _ _).alloc _ _
    refine ⟨_, _, byte_str w1 _, ?_, ⟨m + 1, by rw [w64 ⟨by omega, by omega⟩]; omega, by omega, ?_, k1.t kA⟩, by rw [w64 ⟨by omega, by omega⟩]; dsimp only; omega⟩
    · rw [bs8_size, bs8_size, rowPre_len]; simp; omega
    · rw [bs8_append, rowPre_succ]
  · obtain rfl : m = (bits.length + 7) / 8 := by omega
    exact ⟨rfl, k1⟩

theorem lb_nil : (([] : List Bool).map Value.bool) = [] := rfl
theorem wrapU8 (c : UInt8) : IntKind.u64.wrap (UInt8.toNat c : Int) = ((c.toNat : Nat) : Int) := by have := UInt8.toNat_lt c; exact wu64 ⟨by omega, by omega⟩

/-- The bits of a row are read. -/
theorem getRow (h : RdS w r rest bad) (n : Int) (hn : -9223372036854775808 ≤ n ∧ n ≤ 9223372036854775807) (hsz : rest.length ≤ 1000000) :
    Calls Tryd.prog 50 #[.pointer (some ⟨r, 0, none⟩), .int .i64 n] w (Rv fun u w' => Kp (fun k => k = r) w w' ∧ RdS w' r (rowGet rest bad (max n 0).toNat).1 (rowGet rest bad (max n 0).toNat).2.1 ∧
      ((u = .pointer none ∧ (rowGet rest bad (max n 0).toNat).2.1 ≠ 0) ∨ ∃ p, u = .pointer (some ⟨p, 0, none⟩) ∧ RowB w' p (rowGet rest bad (max n 0).toNat).2.2 w.heap.size ∧ (rowGet rest bad (max n 0).toNat).2.1 = 0 ∧
        (rowGet rest bad (max n 0).toNat).2.2.length = (max n 0).toNat)) := by
  refine c50 _ _ _ _ ?_
  unfold B50
  have hrl := h.lt
  obtain ⟨m, hm⟩ : ∃ m : Nat, max n 0 = m := ⟨(max n 0).toNat, by omega⟩
  have hne := need_eq n
  rw [hm, Int.toNat_natCast] at hne
  rw [hm, Int.toNat_natCast]
  have e1 : IntKind.i64.wrap (IntKind.i64.wrap (Int.tdiv (m : Int) 8) + min (Int.tmod (m : Int) 8) 1) = (((m + 7) / 8 : Nat) : Int) := by
    rw [w64 (x := Int.tdiv (m : Int) 8) ⟨by rw [Int.tdiv_eq_ediv_of_nonneg (by omega)]; omega, by rw [Int.tdiv_eq_ediv_of_nonneg (by omega)]; omega⟩, hne, w64 ⟨by omega, by omega⟩]
  refine ⟨by omega, by omega, ?_⟩
  rw [e1]
  refine use (qRaw h _ (by omega)) ?_
  rintro _ w1 ⟨rfl, h1, k1⟩
  refine ⟨_, rfl, usei (qErr h1) ⟨_, rfl, ?_⟩⟩
  unfold rawS at h1 ⊢
  unfold rowGet
  by_cases hb : bad ≠ 0
  · rw [if_pos hb] at h1 ⊢
    rw [if_pos hb]
    exact br_not (br_n (by simpa using hb) (by exact ⟨k1, h1, .inl ⟨rfl, hb⟩⟩))
  rw [if_neg hb] at h1 ⊢
  rw [if_neg hb]
  rw [if_neg (by omega)] at h1 ⊢
  by_cases hlen : rest.length < (m + 7) / 8
  · rw [if_pos (by omega)] at h1 ⊢
    rw [if_pos hlen]
    exact br_not (br_n (by simp) (by exact ⟨k1, h1, .inl ⟨rfl, by simp⟩⟩))
  rw [if_neg (by omega)] at h1 ⊢
  rw [if_neg hlen]
  rw [Int.toNat_natCast] at h1 ⊢
  dsimp only at h1 ⊢
  refine br_not (br_y rfl ?_)
  have hsl : (rest.take ((m + 7) / 8)).length = (m + 7) / 8 := by rw [List.length_take]; omega
  generalize rest.take ((m + 7) / 8) = s at *
  generalize rest.drop ((m + 7) / 8) = rest' at *
  have s1 := k1.size
  refine use (newB w1) ?_
  rintro _ w2 ⟨p, rfl, hp, k2⟩
  have s2 := k2.size
  rw [bs8_size]
  -- the invariant's bits fit so far
  refine ⟨_, rfl, fun i w' => ∃ j : Nat, i = j ∧ j ≤ s.length ∧ RowB w' p (bitsS s (min (8 * j) m)) w1.heap.size ∧ (∀ i, m ≤ i → i < 8 * j → (bt s (i / 8)).testBit (i % 8) = false) ∧ Kp (fun k => w1.heap.size ≤ k) w1 w', fun i _ => (s.length - i).toNat,
    ⟨0, rfl, by omega, by rw [Nat.mul_zero, Nat.zero_min]; exact hp, fun i _ h2 => by omega, k2.mono (fun _ _ f => f.elim)⟩, ?_⟩
  rintro i w3 ⟨j, rfl, hj, hp3, hfit, k3⟩
  have hrd3 : RdS w3 r rest' 0 := h1.kp k3 (by omega)
  have k03 : Kp (fun k => k = r) w w3 := k1.trans k3 (fun k h1 h2 => by omega)
  refine br_dec (fun hlt => ?_) (fun hlt => ?_)
  · obtain ⟨c, hc, hcb⟩ := bs8_at (s := s) (i := j) (by omega)
    refine ⟨c, by omega, hc, ?_⟩
    rw [wrapU8, hcb]
    have e2 : min (8 : Int) (IntKind.i64.wrap ((m : Int) - IntKind.i64.wrap (8 * (j : Int)))) = ((min 8 (m - 8 * j) : Nat) : Int) := by
      rw [w64 (x := 8 * (j : Int)) ⟨by omega, by omega⟩, w64 ⟨by omega, by omega⟩]; omega
    rw [e2]
    have hlb := bt_lt s j
    refine use (addB hp3 (by have := k3.size; omega) (by rw [bitsS_len]; omega) (bt s j) (by omega) ((min 8 (m - 8 * j) : Nat) : Int)) ?_
    rintro _ w4 ⟨rfl, hp4, k4⟩
    have k14 : Kp (fun k => w1.heap.size ≤ k) w1 w4 := k3.trans k4 (fun _ _ h => h)
    have hbl : Lib.bitLen (bt s j) ≤ min 8 (m - 8 * j) ↔ bt s j < 2 ^ min 8 (m - 8 * j) := ⟨fun h => lt_of_bitLen _ _ (by omega) h, fun h => bitLen_le_of_lt h (by omega)⟩
    unfold addS at hp4 ⊢
    rw [if_neg (by omega)] at hp4 ⊢
    by_cases hfb : bt s j < 2 ^ min 8 (m - 8 * j)
    · have := hbl.2 hfb
      rw [if_neg (by omega)] at hp4 ⊢
      refine ⟨_, rfl, br_not (br_y rfl ⟨⟨j + 1, by rw [w64 ⟨by omega, by omega⟩]; omega, by omega, ?_, fun i h1 h2 => ?_, k14⟩, by rw [w64 ⟨by omega, by omega⟩]; dsimp only; omega⟩)⟩
      · rw [Int.toNat_natCast, Nat.min_eq_left (by omega), bitsS_add s j _ (by omega), show 8 * j + min 8 (m - 8 * j) = min (8 * (j + 1)) m by omega] at hp4
        exact hp4
      · by_cases g : i < 8 * j
        · exact hfit i h1 g
        · rw [show i / 8 = j by omega]
          exact Nat.testBit_lt_two_pow (Nat.lt_of_lt_of_le hfb (Nat.pow_le_pow_right (by omega) (by omega)))
    · have : ¬ Lib.bitLen (bt s j) ≤ min 8 (m - 8 * j) := fun h => hfb (hbl.1 h)
      rw [if_pos (by omega)] at hp4 ⊢
      have hnp : ¬ padOk s m := fun hpad => hfb (by
        apply Nat.lt_pow_two_of_testBit
        intro i hi
        by_cases g : i < 8
        · have := hpad (8 * j + i) (by omega) (by omega)
          rwa [show (8 * j + i) / 8 = j by omega, show (8 * j + i) % 8 = i by omega] at this
        · exact Nat.testBit_lt_two_pow (Nat.lt_of_lt_of_le hlb (by have : 2 ^ 8 ≤ 2 ^ i := Nat.pow_le_pow_right (by omega) (by omega); simpa using this)))
      have hrd4 : RdS w4 r rest' 0 := h1.kp k14 (by omega)
      refine ⟨_, rfl, br_not (br_n (by simp) (use (qFail hrd4 3 (by decide)) ?_))⟩
      rintro _ w5 ⟨rfl, h5, k5⟩
      rw [rowFin_n hnp]
      rw [if_pos rfl] at h5
      exact ⟨rfl, (k1.trans k14 (fun k h1 h2 => by omega)).trans k5 (fun _ _ h => h), h5, .inl ⟨rfl, by simp⟩⟩
  · obtain rfl : j = s.length := by omega
    have hpad : padOk s m := hfit
    rw [rowFin_y hpad]
    refine ⟨k03, hrd3, .inr ⟨p, rfl, ?_, rfl, bitsS_len _ _⟩⟩
    rw [Nat.min_eq_right (by omega)] at hp3
    obtain ⟨lp, hp3, hlo⟩ := hp3
    exact ⟨lp, hp3, fun k hk => Nat.le_trans s1 (hlo k hk)⟩

/-- The plain reader's bits. -/
theorem refGetRow (h : RfS w x rest bad) (n : Int) (hn : -9223372036854775808 ≤ n ∧ n ≤ 9223372036854775807) (hsz : rest.length ≤ 1000000) :
    Calls Tryd.prog 53 #[.pointer (some ⟨x, 0, none⟩), .int .i64 n] w (Rv fun u w' => Kp (fun k => k = x) w w' ∧ RfS w' x (rowGet rest bad (max n 0).toNat).1 (rowGet rest bad (max n 0).toNat).2.1 ∧
      ∃ o : Slc, u = .slice o.a o.len o.cap ∧ Ownd w' o 4 1 ((rowGet rest bad (max n 0).toNat).2.2.map Value.bool) ∧ ∀ k, On o k → w.heap.size ≤ k) := by
  refine c53 _ _ _ _ ?_
  unfold B53
  have hxl := h.1.lt
  obtain ⟨m, hm⟩ : ∃ m : Nat, max n 0 = m := ⟨(max n 0).toNat, by omega⟩
  have hne := need_eq n
  rw [hm, Int.toNat_natCast] at hne
  rw [hm, Int.toNat_natCast]
  have e1 : IntKind.i64.wrap (IntKind.i64.wrap (Int.tdiv (m : Int) 8) + min (Int.tmod (m : Int) 8) 1) = (((m + 7) / 8 : Nat) : Int) := by
    rw [w64 (x := Int.tdiv (m : Int) 8) ⟨by rw [Int.tdiv_eq_ediv_of_nonneg (by omega)]; omega, by rw [Int.tdiv_eq_ediv_of_nonneg (by omega)]; omega⟩, hne, w64 ⟨by omega, by omega⟩]
  refine ⟨by omega, by omega, ?_⟩
  rw [e1]
  refine use (xRaw h _ (by omega)) ?_
  rintro _ w1 ⟨rfl, h1, k1⟩
  refine ⟨_, rfl, _, h1.1.cell 1, ?_⟩
  unfold rawS at h1 ⊢
  unfold rowGet
  by_cases hb : bad ≠ 0
  · rw [if_pos hb] at h1 ⊢
    rw [if_pos hb]
    exact br_not (br_n (by simpa using hb) (by exact ⟨k1, h1, ⟨none, 0, 0⟩, rfl, Ownd.nil _ _ _, fun k hk => absurd hk On.nil⟩))
  rw [if_neg hb] at h1 ⊢
  rw [if_neg hb]
  rw [if_neg (by omega)] at h1 ⊢
  by_cases hlen : rest.length < (m + 7) / 8
  · rw [if_pos (by omega)] at h1 ⊢
    rw [if_pos hlen]
    exact br_not (br_n (by simp) (by exact ⟨k1, h1, ⟨none, 0, 0⟩, rfl, Ownd.nil _ _ _, fun k hk => absurd hk On.nil⟩))
  rw [if_neg (by omega)] at h1 ⊢
  rw [if_neg hlen]
  rw [Int.toNat_natCast] at h1 ⊢
  dsimp only at h1 ⊢
  refine br_not (br_y rfl ?_)
  have hsl : (rest.take ((m + 7) / 8)).length = (m + 7) / 8 := by rw [List.length_take]; omega
  generalize rest.take ((m + 7) / 8) = s at *
  generalize rest.drop ((m + 7) / 8) = rest' at *
  have s1 := k1.size
  rw [bs8_size]
  have e3 : IntKind.i64.wrap (8 * (s.length : Int)) = ((8 * s.length : Nat) : Int) := by rw [w64 ⟨by omega, by omega⟩]; omega
  rw [e3]
  refine ⟨fun q i w' => ∃ j : Nat, i = j ∧ j ≤ 8 * s.length ∧ Ownd w' q 4 1 ((bitsS s (min j m)).map Value.bool) ∧ (∀ k, On q k → w1.heap.size ≤ k) ∧ (∀ i, m ≤ i → i < j → (bt s (i / 8)).testBit (i % 8) = false) ∧ Kp no w1 w', fun _ i _ => (8 * s.length - i).toNat,
    ⟨0, rfl, by omega, by rw [Nat.zero_min]; exact Ownd.nil _ _ _, fun k hk => absurd hk On.nil, fun i _ h2 => by omega, Kp.refl _ _⟩, ?_⟩
  rintro q i w3 ⟨j, rfl, hj, hq, fq, hfit, k3⟩
  have hql := hq.len
  rw [List.length_map, bitsS_len] at hql
  have hx3 : RfS w3 x rest' 0 := h1.kp k3 (fun f => f)
  have k03 : Kp (fun k => k = x) w w3 := k1.trans k3 (fun k _ h2 => h2.elim)
  refine br_dec (fun hlt => ⟨by omega, ?_⟩) (fun hlt => ?_)
  · obtain ⟨c, hc, hcb⟩ := bs8_at (s := s) (i := j / 8) (by omega)
    have ed : IntKind.i64.wrap (Int.tdiv (j : Int) 8) = ((j / 8 : Nat) : Int) := by rw [Int.tdiv_eq_ediv_of_nonneg (by omega), w64 ⟨by omega, by omega⟩]; omega
    have em : Int.tmod (j : Int) 8 = ((j % 8 : Nat) : Int) := by rw [Int.tmod_eq_emod_of_nonneg (by omega)]; omega
    rw [ed, em]
    refine ⟨c, by omega, hc, by omega, ?_⟩
    rw [wrapU8, hcb]
    have hlb := bt_lt s (j / 8)
    refine usei (rbit w3 (bt s (j / 8)) (by omega) _) ⟨_, rfl, ?_⟩
    have eb : bitZ (bt s (j / 8)) ((j % 8 : Nat) : Int) = (bt s (j / 8)).testBit (j % 8) := by unfold bitZ; rw [Int.toNat_natCast, decide_eq_true (by omega), Bool.true_and]
    rw [eb, w64 (x := (j : Int) + 1) ⟨by omega, by omega⟩]
    refine br_dec (fun hjm => ?_) (fun hjm => br_of (fun hbit => ?_) (fun hbit => ?_))
    · obtain ⟨w4, q4, hr4, hq4, hl4, k4, f4⟩ := append_one (ty := 39) elB hq (.bool ((bt s (j / 8)).testBit (j % 8))) rfl (by simp only [maxLen]; omega) (by omega)
      refine ⟨w4, q4, hr4, ⟨j + 1, by omega, by omega, ?_, fun k hk => ?_, fun i h1 h2 => by omega, k3.trans k4 (fun k h1 h2 => by have := fq k h2; omega)⟩, by dsimp only; omega⟩
      · rw [Nat.min_eq_left (by omega)] at hq4 ⊢
        rw [bitsS_snoc, List.map_append]; exact hq4
      · have := k3.size
        rcases f4 k hk with g | g
        · exact fq k g
        · omega
    · have hnp : ¬ padOk s m := fun hpad => by
        have := hpad j (by omega) (by omega)
        rw [this] at hbit; cases hbit
      rw [rowFin_n hnp]
      refine ⟨⟨_, hx3.1.cell 1⟩, hx3.1.frozen 1, ?_⟩
      obtain ⟨h5, k5⟩ := xBad hx3 3
      exact ⟨k03.trans k5 (fun _ _ h => h), h5, ⟨none, 0, 0⟩, rfl, Ownd.nil _ _ _, fun k hk => absurd hk On.nil⟩
    · refine ⟨⟨j + 1, by omega, by omega, ?_, fq, fun i h1 h2 => ?_, k3⟩, by dsimp only; omega⟩
      · rw [show min (j + 1) m = min j m by omega]; exact hq
      · by_cases g : i < j
        · exact hfit i h1 g
        · obtain rfl : i = j := by omega
          exact hbit
  · obtain rfl : j = 8 * s.length := by omega
    rw [rowFin_y (show padOk s m from hfit)]
    refine ⟨k03, hx3, q, rfl, ?_, fun k hk => by have := fq k hk; omega⟩
    rw [Nat.min_eq_right (by omega)] at hq
    exact hq
end Go.Proofs.YtomajpihimlcjaaDoor.V
