/- Packs: found in, compared; the laws that make them. -/
import Derived.Test.YtilccklocaeebaaPk
namespace Go.VC
open Go
/-- The first place of some at which a number is not below another one. -/
def FindP (xs : List Nat) (lo hi : Int) (v : Nat) (r : Int) : Prop :=
  (r = -1 ∧ ∀ i : Nat, lo ≤ i → (i : Int) < hi → i < xs.length → wg xs i < v) ∨
  ∃ a : Nat, r = a ∧ lo ≤ a ∧ (a : Int) < hi ∧ a < xs.length ∧ v ≤ wg xs a ∧ ∀ i : Nat, lo ≤ i → i < a → wg xs i < v
end Go.VC
namespace Go.Proofs.Ytilccklocaeebaa.V
open Go Go.VC
variable {w w' w0 : World} {l : Slc} {bits : List Bool} {ws xs : List Nat} {p r B wd n : Nat}

theorem pFind (h : PackB w p wd xs B) (hsz : xs.length ≤ 1000000000) (lo hi : Int) (v : Nat)
    (hm : ∀ i j : Nat, lo ≤ i → i ≤ j → (j : Int) < hi → j < xs.length → wg xs i ≤ wg xs j) :
    Calls Try.prog 55 #[.pointer (some ⟨p, 0, none⟩), .int .i64 lo, .int .i64 hi, .int .u64 v] w (Rv fun u w' => Kp no w w' ∧ ∃ r : Int, u = .int .i64 r ∧ FindP xs lo hi v r) := by
  refine c55 _ _ _ _ _ _ ?_
  unfold B55
  refine usei (pLen h) ⟨_, rfl, fun x y w' => Kp no w w' ∧ ∃ a : Nat, x = a ∧ max lo 0 ≤ a ∧ y ≤ min hi (xs.length : Int) ∧ ((a : Int) ≤ y ∨ (y = min hi (xs.length : Int) ∧ (a : Int) = max lo 0)) ∧ (∀ i : Nat, lo ≤ i → i < a → (i : Int) < hi → i < xs.length → wg xs i < v) ∧
    (∀ i : Nat, y ≤ i → (i : Int) < min hi (xs.length : Int) → lo ≤ i → v ≤ wg xs i), fun x y _ => (y - x).toNat, ⟨Kp.refl _ _, (max lo 0).toNat, by omega, by omega, by omega, .inr ⟨rfl, by omega⟩, fun i h1 h2 => by omega, fun i h1 h2 => by omega⟩, ?_⟩
  rintro x y w1 ⟨k1, a, rfl, ha, hy, hay, h1, h2⟩
  refine br_dec (fun hlt => ⟨by omega, ?_⟩) (fun hlt => ?_)
  · obtain ⟨b, rfl⟩ : ∃ b : Nat, y = b := ⟨y.toNat, by omega⟩
    have e1 : IntKind.i64.wrap ((a : Int) + IntKind.i64.wrap (Int.tdiv (IntKind.i64.wrap ((b : Int) - (a : Int))) 2)) = ((a + (b - a) / 2 : Nat) : Int) := by
      rw [w64 (x := (b : Int) - (a : Int)) ⟨by omega, by omega⟩, Int.tdiv_eq_ediv_of_nonneg (by omega), w64 (x := ((b : Int) - (a : Int)) / 2) ⟨by omega, by omega⟩, w64 ⟨by omega, by omega⟩]; omega
    rw [e1]
    have hat : atU xs ((a + (b - a) / 2 : Nat) : Int) = wg xs (a + (b - a) / 2) := by unfold atU; rw [if_pos (by omega), Int.toNat_natCast]
    refine usek (pAt (h.kpo k1) hsz _) fun w2 k2 => ⟨_, rfl, ?_⟩
    rw [hat]
    refine br_dec (fun h3 => ?_) (fun h3 => ?_)
    · rw [w64 ⟨by omega, by omega⟩]
      refine ⟨⟨k1.t k2, a + (b - a) / 2 + 1, by omega, by omega, by omega, .inl (by omega), fun i g1 g2 g3 g4 => ?_, h2⟩, by dsimp only; omega⟩
      by_cases e : i < a
      · exact h1 i g1 e g3 g4
      · have := hm i (a + (b - a) / 2) g1 (by omega) (by omega) (by omega)
        omega
    · refine ⟨⟨k1.t k2, a, rfl, ha, by omega, .inl (by omega), h1, fun i g1 g2 g3 => ?_⟩, by dsimp only; omega⟩
      have := hm (a + (b - a) / 2) i (by omega) (by omega) (by omega) (by omega)
      omega
  · refine br_dec (fun h3 => ⟨k1, _, rfl, .inl ⟨rfl, fun i g1 g2 g3 => h1 i g1 (by omega) g2 g3⟩⟩) (fun h3 => ⟨k1, _, rfl, .inr ⟨a, rfl, by omega, by omega, by omega, h2 a (by omega) (by omega) (by omega), fun i g1 g2 => h1 i g1 g2 (by omega) (by omega)⟩⟩)

theorem pRWords (h : RdW w l ws) (hsz : ws.length ≤ 1000000000) (hwd : wd ≤ 64) : Calls Try.prog 60 #[.int .i64 wd, .slice l.a l.len l.cap] w (Rv fun v w' => ∃ o : Slc, v = .slice o.a o.len o.cap ∧
    Ownd w' o 23 1 ((wordsOf (pkBits wd ws)).map U) ∧ Kp no w w' ∧ ∀ k, On o k → w.heap.size ≤ k) := by
  refine c60 _ _ _ _ ?_
  unfold B60
  have hl := h.len
  have hb1 : ∀ m, m ≤ ws.length → wd * m ≤ 64 * 1000000000 := fun m hm => Nat.mul_le_mul hwd (by omega)
  refine ⟨fun o i w' => ∃ m : Nat, i = m ∧ m ≤ ws.length ∧ Ownd w' o 4 1 ((pkBits wd (ws.take m)).map Value.bool) ∧ Kp no w w' ∧ ∀ k, On o k → w.heap.size ≤ k, fun _ i _ => (l.len - i).toNat, ⟨0, rfl, by omega, Ownd.nil _ _ _, Kp.refl _ _, fun k hk => absurd hk On.nil⟩, ?_⟩
  rintro o i w1 ⟨m, rfl, hm, ho, k1, f1⟩
  have hol := ho.rdB.len
  have hpl := pk_len wd (ws.take m)
  have hb2 := hb1 m hm
  have htl : (ws.take m).length = m := by rw [List.length_take]; omega
  rw [htl] at hpl
  refine br_dec (fun hlt => ?_) (fun hlt => ?_)
  · obtain ⟨a, ha, hc⟩ := (h.kp k1 (fun _ _ f => f)).at (i := (m : Int)) (by omega) hlt
    refine ⟨by omega, hlt, a, ha, _, hc, ?_⟩
    rw [Int.toNat_natCast]
    refine use (add2 ho.rdB (by omega) _ (wg_lt h.lt m) wd hwd) ?_
    rintro _ w2 ⟨o2, rfl, ho2, k2, f2⟩
    refine ⟨o2, rfl, ?_⟩
    rw [w64 ⟨by omega, by omega⟩]
    refine ⟨⟨m + 1, by omega, by omega, ?_, k1.t k2, fun k hk => by have := f2 k hk; have := k1.size; omega⟩, by dsimp only; omega⟩
    rw [take_succ_wg (by omega), pk_snoc]; exact ho2
  · obtain rfl : m = ws.length := by omega
    rw [List.take_length] at ho
    refine use (words2 ho.rdB (by omega)) ?_
    rintro _ w2 ⟨o2, rfl, ho2, k2, f2⟩
    exact ⟨o2, rfl, o2, rfl, ho2, k1.t k2, fun k hk => by have := f2 k hk; have := k1.size; omega⟩

theorem pIs (hp : PackB w p wd ws B) (h : RdW w l ws) (hsz : ws.length ≤ 1000000000) : IsK 28 #[.pointer (some ⟨p, 0, none⟩), .int .i64 wd, .slice l.a l.len l.cap] w (.bool true) := by
  refine c28 _ _ _ _ _ ?_
  unfold B28
  have hl := h.len
  have hwd : wd ≤ 64 := hp.choose_spec.2.2.1
  have hpl := pk_len wd ws
  have hb1 : wd * ws.length ≤ 64 * 1000000000 := Nat.mul_le_mul hwd hsz
  refine usei (pLen hp) ⟨_, rfl, br_not (br_dec (fun _ => ?_) (fun hh => absurd (by omega) hh))⟩
  refine usei (pWidth hp) ⟨_, rfl, br_not (br_dec (fun _ => ?_) (fun hh => absurd rfl hh))⟩
  refine use (pWords hp hsz) ?_
  rintro _ w1 ⟨o1, rfl, ho1, k1, f1⟩
  refine ⟨o1, rfl, use (pRWords (h.kp k1 (fun _ _ f => f)) hsz hwd) ?_⟩
  rintro _ w2 ⟨o2, rfl, ho2, k2, f2⟩
  have r1 := (ho1.kp k2 (fun _ _ f => f)).rdW (fun _ hx => wordsOf_lt hx)
  have r2 := ho2.rdW (fun _ hx => wordsOf_lt hx)
  have hl1 := r1.len
  rw [length_wordsOf] at hl1
  have h56 := same2 r1 r2 (by omega)
  rw [decide_eq_true rfl] at h56
  refine ⟨o2, rfl, usek h56 fun w3 k3 => ⟨_, rfl, ?_⟩⟩
  refine ⟨fun i w' => Kp no w w' ∧ ∃ m : Nat, i = m ∧ m ≤ ws.length, fun i _ => (l.len - i).toNat, ⟨(k1.t k2).t k3, 0, rfl, by omega⟩, ?_⟩
  rintro i w4 ⟨k4, m, rfl, hm⟩
  refine br_dec (fun hlt => ?_) (fun hlt => ⟨rfl, k4⟩)
  have kd := k4.drew
  obtain ⟨a, ha, hc⟩ := (h.kp kd (fun _ _ f => f)).at (i := (m : Int)) (by omega) hlt
  refine ⟨by omega, hlt, a, ha, _, hc, usek (pAt (hp.kpo kd) hsz _) fun w5 k5 => ⟨_, rfl, ?_⟩⟩
  obtain ⟨a2, ha2, hc2⟩ := (h.kp (kd.t k5) (fun _ _ f => f)).at (i := (m : Int)) (by omega) hlt
  rw [ha] at ha2; cases ha2
  refine ⟨hc2, br_not (br_dec (fun _ => ?_) (fun hh => absurd ?_ hh))⟩
  · rw [w64 ⟨by omega, by omega⟩]
    exact ⟨⟨kd.t k5, m + 1, by omega, by omega⟩, by dsimp only; omega⟩
  · unfold atU; rw [if_pos (by omega)]

theorem rdW_lit (w : World) (xs : List Nat) (h : ∀ x ∈ xs, x < 18446744073709551616) (T : TypeId) : RdW (w.alloc (.cells (xs.map U).toArray T)) ⟨some ⟨w.heap.size, 0, none⟩, xs.length, xs.length⟩ xs :=
  ⟨rfl, by have := blk2 w (xs.map U) T; rwa [List.length_map] at this, h⟩

theorem live3 (w : World) : IsK 25 #[] w (.bool true) := by
  refine c25 _ _ ?_
  unfold B25
  have kA : Kp no w (w.alloc (.cells #[.int .u64 1, .int .u64 5, .int .u64 6] 23)) := (Kp.refl _ _).alloc _ _
  have rA : RdW (w.alloc (.cells #[.int .u64 1, .int .u64 5, .int .u64 6] 23)) ⟨some ⟨w.heap.size, 0, none⟩, 3, 3⟩ [1, 5, 6] := rdW_lit w [1, 5, 6] (by simp) 23
  generalize w.alloc (.cells #[.int .u64 1, .int .u64 5, .int .u64 6] 23) = w1 at *
  have h29 := pFit rA (by simp)
  have eb : Lib.bitLen (maxN [1, 5, 6]) = 3 := by decide +kernel
  rw [eb] at h29
  refine use h29 ?_
  rintro _ w2 ⟨p, rfl, hp, k2⟩
  refine ⟨_, rfl, usei (pWidth hp) ⟨_, rfl, br_dec (fun _ => ?_) (fun h => absurd rfl h)⟩⟩
  refine usei (pLen hp) ⟨_, rfl, br_dec (fun _ => ?_) (fun h => absurd rfl h)⟩
  refine usek (pAt hp (by simp) 2) fun w3 k3 => ⟨_, rfl, br_dec (fun _ => ?_) (fun h => absurd (by decide) h)⟩
  refine use (pFind (hp.kpo k3) (by simp) 0 3 2 (by
    intro i j h1 h2 h3 h4
    have hj : j = 0 ∨ j = 1 ∨ j = 2 := by omega
    have hi : i = 0 ∨ i = 1 ∨ i = 2 := by omega
    rcases hj with rfl | rfl | rfl <;> rcases hi with rfl | rfl | rfl <;> first | decide | omega)) ?_
  rintro _ w4 ⟨k4, r, rfl, hr⟩
  have hr1 : r = 1 := by
    rcases hr with ⟨rfl, hr⟩ | ⟨a, rfl, h1, h2, h3, h4, h5⟩
    · have := hr 1 (by omega) (by omega) (by simp); revert this; decide
    · have : a = 0 ∨ a = 1 ∨ a = 2 := by omega
      rcases this with rfl | rfl | rfl
      · revert h4; decide
      · rfl
      · have := h5 1 (by omega) (by omega); revert this; decide
  subst hr1
  refine ⟨_, rfl, br_dec (fun _ => ?_) (fun h => absurd rfl h)⟩
  refine use (pWords (hp.kpo (k3.t k4)) (by simp)) ?_
  rintro _ w5 ⟨o, rfl, ho, k5, f5⟩
  have ew : wordsOf (pkBits 3 [1, 5, 6]) = [425] := by decide +kernel
  rw [ew] at ho
  have kB : Kp no w5 (w5.alloc (.cells #[.int .u64 425] 23)) := (Kp.refl _ _).alloc _ _
  have rB : RdW (w5.alloc (.cells #[.int .u64 425] 23)) ⟨some ⟨w5.heap.size, 0, none⟩, 1, 1⟩ [425] := rdW_lit w5 [425] (by simp) 23
  have hoR := (ho.kp kB (fun _ _ f => f)).rdW (by simp)
  have hol := hoR.len
  have h56 := same2 hoR rB (by simp at hol; omega)
  rw [decide_eq_true rfl] at h56
  exact ⟨o, rfl, usek h56 fun w6 k6 => ⟨_, rfl, rfl, kA.t (k2.t ((k3.t k4).t (k5.t (kB.t k6))))⟩⟩

theorem brN {x y : Prop} (h : x) : br (none : Option Addr).isNone x y := h
theorem packMakes (x : Int) (h : RdW w l ws) (i : Int) : IsK 6 #[.int .i64 x, .slice l.a l.len l.cap, .int .i64 i] w (.bool true) := by
  have hl := h.len
  have atIn : 0 ≤ i → i < (l.len : Int) → True := fun _ _ => trivial
  by_cases hs : 60 < l.len
  · refine c6 _ _ _ _ _ ?_
    unfold B6
    exact br_dec (fun _ => usek (live3 _) fun w1 k1 => ⟨_, rfl, rfl, k1⟩) (fun hh => absurd (by omega) hh)
  · refine c6 _ _ _ _ _ ?_
    unfold B6
    refine br_dec (fun hh => absurd hh (by omega)) (fun _ => use (pNew h (by omega) x) ?_)
    rintro _ w1 ⟨k1, hv⟩
    have hm : maxN ws < 18446744073709551616 := (maxN_lt (by omega)).2 h.lt
    have h1 := h.kp k1 (fun _ _ f => f)
    have lv : ∀ {wa : World}, Kp no w wa → Calls Try.prog 25 #[] wa (Rv fun v w2 => ∃ b, v = Value.bool b ∧ (Value.bool b = .bool true ∧ Kp no w w2)) := fun ka => usek (live3 _) fun w2 k2 => ⟨_, rfl, rfl, ka.t k2⟩
    rcases hv with ⟨rfl, hx⟩ | ⟨rfl, x0, x1, hx⟩ | ⟨p, rfl, x0, x1, hx, hp⟩
    · refine ⟨_, _, rfl, usei (pRWidth h1 (by omega)) ⟨_, rfl, br_dec (fun _ => ?_) (fun h5 => br_dec (fun _ => ?_) (fun h6 => absurd hx (by omega)))⟩⟩
      · exact brN (br_dec (fun _ => lv k1) (fun hh => absurd rfl hh))
      · exact brN (br_dec (fun _ => lv k1) (fun hh => absurd rfl hh))
    · refine ⟨_, _, rfl, usei (pRWidth h1 (by omega)) ⟨_, rfl, br_dec (fun h5 => by omega) (fun h5 => br_dec (fun h6 => by omega) (fun h6 => br_dec (fun _ => ?_) (fun hh => absurd hx hh)))⟩⟩
      exact brN (br_dec (fun _ => lv k1) (fun hh => absurd rfl hh))
    · obtain ⟨x, rfl⟩ : ∃ j : Nat, x = j := ⟨x.toNat, by omega⟩
      rw [Int.toNat_natCast] at hp
      refine ⟨_, _, rfl, usei (pRWidth h1 (by omega)) ⟨_, rfl, br_dec (fun h5 => by omega) (fun h5 => br_dec (fun h6 => by omega) (fun h6 => br_dec (fun hh => by omega) (fun _ => br_not (br_dec (fun _ => ?_) (fun hh => absurd rfl hh)))))⟩⟩
      refine usek (pIs hp h1 (by omega)) fun w2 k2 => ⟨_, rfl, ?_⟩
      refine use (pFit (h1.kp k2 (fun _ _ f => f)) (by omega)) ?_
      rintro _ w3 ⟨p2, rfl, hp2, k3⟩
      refine ⟨_, rfl, usek (pIs hp2 (h1.kp (k2.t k3) (fun _ _ f => f)) (by omega)) fun w4 k4 => ⟨_, rfl, ?_⟩⟩
      have k14 := k2.t (k3.t k4)
      have out : ¬ (0 ≤ i ∧ i < (l.len : Int)) → atU ws i = 0 := fun hh => by unfold atU; rw [if_neg (by omega)]
      refine br_dec (fun h7 => br_dec (fun h8 => ?_) (fun h8 => ?_)) (fun h7 => ?_)
      · exact usei (pAtN _ _) ⟨_, rfl, br_dec (fun _ => lv (k1.t k14)) (fun hh => absurd rfl hh)⟩
      · refine usek (pAt (hp.kpo k14) (by omega) _) fun w5 k5 => ⟨_, rfl, ?_⟩
        rw [out (by omega)]
        refine br_dec (fun _ => usei (pLenN _) ⟨_, rfl, br_dec (fun _ => usei (pWidthN _) ⟨_, rfl, br_dec (fun _ => usei (pWordsN _) ⟨⟨none, 0, 0⟩, rfl, br_dec (fun _ => lv (k1.t (k14.t k5))) (fun hh => absurd rfl hh)⟩) (fun hh => absurd rfl hh)⟩) (fun hh => absurd rfl hh)⟩) (fun hh => absurd rfl hh)
      · refine usek (pAt (hp.kpo k14) (by omega) _) fun w5 k5 => ⟨_, rfl, ?_⟩
        rw [out (by omega)]
        refine br_dec (fun _ => usei (pLenN _) ⟨_, rfl, br_dec (fun _ => usei (pWidthN _) ⟨_, rfl, br_dec (fun _ => usei (pWordsN _) ⟨⟨none, 0, 0⟩, rfl, br_dec (fun _ => lv (k1.t (k14.t k5))) (fun hh => absurd rfl hh)⟩) (fun hh => absurd rfl hh)⟩) (fun hh => absurd rfl hh)⟩) (fun hh => absurd rfl hh)
end Go.Proofs.Ytilccklocaeebaa.V
