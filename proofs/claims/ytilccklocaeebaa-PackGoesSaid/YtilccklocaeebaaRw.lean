/- What the functions of the row chapter compute: the row's own functions and the plain ones over lists of bits. -/
import Derived.Test.YtilccklocaeebaaIs
import Derived.Test.YtilccklocaeebaaBw
import Derived.Test.YtilccklocaeebaaBR
namespace Go.VC
open Go
/-- The word as a value. -/
abbrev U (x : Nat) : Value := .int .u64 (x : Int)
/-- Bits that can be read. -/
structure RdB (w : World) (l : Slc) (bits : List Bool) : Prop where
  len : bits.length = l.len
  rd : Rd w l (bits.map Value.bool)
/-- Words that can be read. -/
structure RdW (w : World) (l : Slc) (ws : List Nat) : Prop where
  len : ws.length = l.len
  rd : Rd w l (ws.map U)
  lt : ∀ x ∈ ws, x < 18446744073709551616
variable {w w' : World} {l : Slc} {bits : List Bool} {ws : List Nat} {S : Nat → Prop}
theorem RdB.at (h : RdB w l bits) {i : Int} (h0 : 0 ≤ i) (h1 : i < l.len) : ∃ a, l.a = some a ∧ w.cell? (Addr.add a (i.toNat * 1)) = some (.bool (bg bits i.toNat)) := by
  have hl := h.len
  obtain ⟨a, ha, hc⟩ := h.rd i.toNat (by rw [List.length_map]; omega)
  refine ⟨a, ha, ?_⟩
  rw [Nat.mul_one, hc]
  unfold bg
  rw [List.getElem?_map, List.getElem?_eq_getElem (by omega)]
  rfl
theorem RdW.at (h : RdW w l ws) {i : Int} (h0 : 0 ≤ i) (h1 : i < l.len) : ∃ a, l.a = some a ∧ w.cell? (Addr.add a (i.toNat * 1)) = some (U (wg ws i.toNat)) := by
  have hl := h.len
  obtain ⟨a, ha, hc⟩ := h.rd i.toNat (by rw [List.length_map]; omega)
  refine ⟨a, ha, ?_⟩
  rw [Nat.mul_one, hc]
  unfold wg
  rw [List.getElem?_map, List.getElem?_eq_getElem (by omega)]
  rfl
theorem wg_lt (h : ∀ x ∈ ws, x < 18446744073709551616) (k : Nat) : wg ws k < 18446744073709551616 := by
  unfold wg
  by_cases g : k < ws.length
  · rw [List.getElem?_eq_getElem g]; exact h _ (List.getElem_mem g)
  · rw [List.getElem?_eq_none (by omega)]; decide
theorem RdB.kp (h : RdB w l bits) (g : Kp S w w') (hn : ∀ k, On l k → ¬ S k) : RdB w' l bits := ⟨h.len, h.rd.kp g hn⟩
theorem RdW.kp (h : RdW w l ws) (g : Kp S w w') (hn : ∀ k, On l k → ¬ S k) : RdW w' l ws := ⟨h.len, h.rd.kp g hn, h.lt⟩
theorem Ownd.rdB {e : TypeId} (h : Ownd w l e 1 (bits.map Value.bool)) : RdB w l bits := ⟨by have := h.len; simpa using this, h.rd⟩
theorem Ownd.rdW {e : TypeId} (h : Ownd w l e 1 (ws.map U)) (hlt : ∀ x ∈ ws, x < 18446744073709551616) : RdW w l ws := ⟨by have := h.len; simpa using this, h.rd, hlt⟩
end Go.VC

namespace Go.Proofs.Ytilccklocaeebaa.V
open Go Go.VC
variable {w : World} {l : Slc} {bits : List Bool} {ws : List Nat}

theorem elU : El Try.prog 22 23 1 8 := El.of (by kernel_rfl) (by kernel_rfl)
theorem elB : El Try.prog 32 4 1 1 := El.of (by kernel_rfl) (by kernel_rfl)

/-! ### the plain row -/
theorem bit2 (h : RdB w l bits) (i : Int) : Is 51 #[.slice l.a l.len l.cap, .int .i64 i] w (.bool (bz bits i)) := by
  refine c51 l i w _ ?_
  unfold B51
  have hl := h.len
  refine br_dec (fun h0 => br_dec (fun h1 => ⟨h0, h1, ?_⟩) (fun h1 => ⟨?_, rfl⟩)) (fun h0 => ⟨?_, rfl⟩)
  · obtain ⟨a, ha, hc⟩ := h.at h0 h1
    refine ⟨a, ha, _, hc, ?_, rfl⟩
    unfold bz; simp [h0]
  · unfold bz; rw [bg_out (by omega)]; simp
  · unfold bz; simp [h0]

theorem cut2 (h : RdB w l bits) (hsz : l.len ≤ 1099511627776) (a b : Int) (_ha : -9223372036854775808 ≤ a ∧ a ≤ 9223372036854775807) :
    Is 65 #[.slice l.a l.len l.cap, .int .i64 a, .int .i64 b] w (.int .u64 (cutL bits a (clampW b))) := by
  refine c65 l a b w _ ?_
  unfold B65
  have hl := h.len
  refine ⟨fun v o i w' => w' = w ∧ ∃ m : Nat, i = m ∧ m ≤ clampW b ∧ v = (cutL bits a m : Int) ∧ o = ((2 ^ m % 18446744073709551616 : Nat) : Int), fun _ _ i _ => (64 - i).toNat, ⟨rfl, 0, rfl, by omega, rfl, rfl⟩, ?_⟩
  rintro v o i w' ⟨rfl, m, rfl, hm, rfl, rfl⟩
  have hk := clampW_le b
  have hlt : cutL bits a m < 2 ^ m := ofB_lt (fun i => bz bits (a + i)) m
  have ho : IntKind.u64.wrap (((2 ^ m % 18446744073709551616 : Nat) : Int) * 2) = ((2 ^ (m + 1) % 18446744073709551616 : Nat) : Int) := by
    rw [wu64', Nat.pow_succ]; omega
  refine br_dec (fun h => br_dec (fun h2 => ?_) (fun h2 => ?_)) (fun h2 => ?_)
  · rw [ho, w64 (x := (m : Int) + 1) ⟨by omega, by omega⟩]
    have no : bz bits (a + m) = false → (fun (v o i : Int) (w'' : World) => w'' = w' ∧ ∃ m : Nat, i = m ∧ m ≤ clampW b ∧ v = (cutL bits a m : Int) ∧ o = ((2 ^ m % 18446744073709551616 : Nat) : Int)) (cutL bits a m : Int) ((2 ^ (m + 1) % 18446744073709551616 : Nat) : Int) ((m : Int) + 1) w' := by
      intro hf
      exact ⟨rfl, m + 1, by omega, by unfold clampW; omega, by simp [cutL, ofB, hf], rfl⟩
    refine br_dec (fun h3 => br_dec (fun h4 => ?_) (fun h4 => ⟨no ?_, by dsimp only; omega⟩)) (fun h3 => ⟨no ?_, by dsimp only; omega⟩)
    · rw [w64 ⟨by omega, by omega⟩]
      refine usei (bit2 (by assumption) _) ⟨_, rfl, br_of (fun h5 => ⟨⟨rfl, m + 1, by omega, by unfold clampW; omega, ?_, rfl⟩, by dsimp only; omega⟩) (fun h5 => ⟨no h5, by dsimp only; omega⟩)⟩
      have hp : 2 ^ m < 18446744073709551616 := by
        have : (2 : Nat) ^ m < 2 ^ 64 := Nat.pow_lt_pow_right (by omega) (by omega)
        omega
      have hp2 : 2 ^ (m + 1) ≤ 18446744073709551616 := by
        have : (2 : Nat) ^ (m + 1) ≤ 2 ^ 64 := Nat.pow_le_pow_right (by omega) (by omega)
        omega
      rw [Nat.mod_eq_of_lt hp, addU (by rw [Nat.pow_succ] at hp2; omega)]
      simp [cutL, ofB, h5]
    · unfold bz; rw [bg_out (by omega)]; simp
    · unfold bz; simp; omega
  · have : m = clampW b := by unfold clampW at *; omega
    rw [this]; exact ⟨rfl, rfl⟩
  · have : m = clampW b := by unfold clampW at *; omega
    rw [this]; exact ⟨rfl, rfl⟩

theorem ones2 (h : RdB w l bits) (hsz : l.len ≤ 1099511627776) : Is 24 #[.slice l.a l.len l.cap] w (.int .i64 (cnt (bg bits) bits.length)) := by
  refine c24 l w _ ?_
  unfold B24
  have hl := h.len
  refine ⟨fun n i w' => w' = w ∧ ∃ m : Nat, i = m ∧ m ≤ l.len ∧ n = (cnt (bg bits) m : Int), fun _ i _ => (l.len - i).toNat, ⟨rfl, 0, rfl, by omega, rfl⟩, ?_⟩
  rintro n i w' ⟨rfl, m, rfl, hm, rfl⟩
  have hc := cnt_le (bg bits) m
  refine br_dec (fun h1 => ⟨by omega, h1, ?_⟩) (fun h1 => ?_)
  · obtain ⟨a, ha, hb⟩ := h.at (i := m) (by omega) h1
    refine ⟨a, ha, _, hb, ?_⟩
    rw [Int.toNat_natCast, w64 (x := (m : Int) + 1) ⟨by omega, by omega⟩]
    refine br_of (fun h2 => ⟨⟨rfl, m + 1, by omega, by omega, ?_⟩, by dsimp only; omega⟩) (fun h2 => ⟨⟨rfl, m + 1, by omega, by omega, ?_⟩, by dsimp only; omega⟩)
    · rw [w64 ⟨by omega, by omega⟩]; simp [cnt, h2]
    · simp [cnt, h2]
  · rw [show bits.length = m by omega]; exact ⟨rfl, rfl⟩

theorem wg_ext {a b : List Nat} (hl : a.length = b.length) (h : ∀ k, k < a.length → wg a k = wg b k) : a = b := by
  apply List.ext_getElem hl
  intro k h1 h2
  have := h k h1
  unfold wg at this
  simpa [h1, h2] using this

theorem same2 {l2 : Slc} {vs : List Nat} (h : RdW w l ws) (g : RdW w l2 vs) (hsz : l.len ≤ 1099511627776) :
    IsK 56 #[.slice l.a l.len l.cap, .slice l2.a l2.len l2.cap] w (.bool (decide (ws = vs))) := by
  refine c56 l l2 w _ ?_
  unfold B56
  have hl := h.len
  have gl := g.len
  refine br_not (br_dec (fun hh => ?_) (fun hh => ⟨?_, Kp.refl _ _⟩))
  · refine ⟨fun i w' => Kp no w w' ∧ ∃ m : Nat, i = m ∧ m ≤ l.len ∧ ∀ k, k < m → wg ws k = wg vs k, fun i _ => (l.len - i).toNat, ⟨Kp.refl _ _, 0, rfl, by omega, fun k hk => by omega⟩, ?_⟩
    rintro i w' ⟨hk, m, rfl, hm, he⟩
    refine br_dec (fun h1 => ⟨by omega, h1, ?_⟩) (fun h1 => ⟨?_, hk⟩)
    · obtain ⟨a, ha, hb⟩ := (h.kp hk.drew (fun _ _ f => f)).at (i := m) (by omega) h1
      obtain ⟨a2, ha2, hb2⟩ := (g.kp hk.drew (fun _ _ f => f)).at (i := m) (by omega) (by omega)
      refine ⟨a, ha, _, hb, by omega, by omega, a2, ha2, _, hb2, ?_⟩
      rw [Int.toNat_natCast, w64 (x := (m : Int) + 1) ⟨by omega, by omega⟩]
      refine br_not (br_dec (fun h3 => ⟨⟨hk.drew, m + 1, by omega, by omega, fun k hk2 => ?_⟩, by dsimp only; omega⟩) (fun h3 => ⟨?_, hk.drew⟩))
      · by_cases e : k = m
        · subst e; omega
        · exact he k (by omega)
      · have : ws ≠ vs := fun e => h3 (by rw [e])
        simp [this]
    · have : ws = vs := wg_ext (by omega) (fun k hk => he k (by omega))
      simp [this]
  · have : ws ≠ vs := fun e => hh (by rw [← hl, ← gl, e])
    simp [this]

theorem map_snoc (xs : List Nat) (x : Nat) : xs.map U ++ [U x] = (xs ++ [x]).map U := by simp
theorem map_snocB (xs : List Bool) (x : Bool) : xs.map Value.bool ++ [Value.bool x] = (xs ++ [x]).map Value.bool := by simp

theorem words2 (h : RdB w l bits) (hsz : l.len ≤ 1099511627776) : Calls Try.prog 77 #[.slice l.a l.len l.cap] w (Rv fun v w' => ∃ o : Slc, v = .slice o.a o.len o.cap ∧
    Ownd w' o 23 1 ((wordsOf bits).map U) ∧ Kp no w w' ∧ ∀ k, On o k → w.heap.size ≤ k) := by
  refine c77 l w _ ?_
  unfold B77
  have hl := h.len
  refine ⟨fun o i w' => ∃ m : Nat, i = ((64 * m : Nat) : Int) ∧ m ≤ (bits.length + 63) / 64 ∧ Ownd w' o 23 1 (((List.range m).map (wordOf bits)).map U) ∧ o.len = m ∧ Kp no w w' ∧ ∀ k, On o k → w.heap.size ≤ k,
    fun _ i _ => (l.len + 64 - i).toNat, ⟨0, rfl, by omega, Ownd.nil _ _ _, rfl, Kp.refl _ _, fun k hk => absurd hk On.nil⟩, ?_⟩
  rintro o i w' ⟨m, rfl, hm, ho, hol, hk, hf⟩
  refine br_dec (fun h1 => usei (cut2 (h.kp hk (fun _ _ f => f)) hsz _ _ ⟨by omega, by omega⟩) ⟨_, rfl, ?_⟩) (fun h1 => ?_)
  · obtain ⟨w1, o1, hr, ho1, hl1, hk1, hf1⟩ := append_one (ty := 22) elU ho (U (wordOf bits m)) rfl (by simp only [maxLen]; omega) (by omega)
    have hcut : cutL bits ((64 * m : Nat) : Int) (clampW 64) = wordOf bits m := by
      unfold cutL wordOf
      exact ofB_congr fun i _ => by
        unfold bz
        rw [show (((64 * m : Nat) : Int) + (i : Int)).toNat = 64 * m + i by omega]
        simp; omega
    rw [hcut]
    refine ⟨w1, o1, hr, ?_⟩
    rw [w64 ⟨by omega, by omega⟩]
    refine ⟨⟨m + 1, by omega, by omega, ?_, by omega, hk.trans hk1 (fun k hlt hkk => ?_), fun k hkk => ?_⟩, by dsimp only; omega⟩
    · rw [List.range_succ, List.map_append, List.map_append]; exact ho1
    · exact absurd (hf k hkk) (by omega)
    · have := hk.size
      rcases hf1 k hkk with g | g
      · exact hf k g
      · omega
  · have : m = (bits.length + 63) / 64 := by omega
    subst this
    exact ⟨o, rfl, ho, hk, hf⟩

theorem add2 (h : RdB w l bits) (hsz : l.len ≤ 1099511627776) (x : Nat) (hx : x < 18446744073709551616) (n : Nat) (hn : n ≤ 64) :
    Calls Try.prog 74 #[.slice l.a l.len l.cap, .int .u64 x, .int .i64 n] w (Rv fun v w' => ∃ o : Slc, v = .slice o.a o.len o.cap ∧
    Ownd w' o 4 1 ((bits ++ lowb x n).map Value.bool) ∧ Kp no w w' ∧ ∀ k, On o k → w.heap.size ≤ k) := by
  refine c74 l x n w _ ?_
  unfold B74
  have hl := h.len
  have h0 := (h.rd.kp ((Kp.refl no w).alloc #[] 4) (fun _ _ f => f))
  obtain ⟨w1, o1, hr, ho1, hl1, hk1, hf1⟩ := append_rd (ty := 32) elB (by omega) (Ownd.empty w 4 1) l (news := bits.map Value.bool) (by simp [hl]) h0
    (fun u hu => by obtain ⟨b, _, rfl⟩ := List.mem_map.1 hu; rfl) (by simp only [maxLen]; omega) (by simp only; omega)
  have hk1' : Kp no w w1 := ((Kp.refl no w).alloc _ _).trans hk1 (fun k hlt hkk => by obtain ⟨a, ha, rfl⟩ := hkk; cases ha; exact absurd hlt (by simp))
  refine ⟨w1, o1, hr, fun o i w' => ∃ m : Nat, i = m ∧ m ≤ n ∧ Ownd w' o 4 1 ((bits ++ lowb x m).map Value.bool) ∧ o.len = l.len + m ∧ Kp no w w' ∧ ∀ k, On o k → w.heap.size ≤ k,
    fun _ i _ => (n - i).toNat, ⟨0, rfl, by omega, by simpa [lowb] using ho1, by simpa using hl1, hk1', fun k hkk => ?_⟩, ?_⟩
  · rcases hf1 k hkk with g | g
    · obtain ⟨a, ha, rfl⟩ := g; cases ha; exact Nat.le_refl _
    · simp at g; omega
  rintro o i w' ⟨m, rfl, hm, ho, hol, hk, hf⟩
  refine br_dec (fun h1 => usei (rbit w' x hx m) ⟨_, rfl, ?_⟩) (fun h1 => ?_)
  · obtain ⟨w2, o2, hr2, ho2, hl2, hk2, hf2⟩ := append_one (ty := 32) elB ho (.bool (bitZ x m)) rfl (by simp only [maxLen]; omega) (by omega)
    refine ⟨w2, o2, hr2, ?_⟩
    rw [w64 ⟨by omega, by omega⟩]
    refine ⟨⟨m + 1, by omega, by omega, ?_, by omega, hk.trans hk2 (fun k hlt hkk => ?_), fun k hkk => ?_⟩, by dsimp only; omega⟩
    · rw [map_snocB, List.append_assoc] at ho2
      have : lowb x m ++ [bitZ x m] = lowb x (m + 1) := by simp [lowb, List.range_succ, bitZ]
      rw [this] at ho2
      exact ho2
    · exact absurd (hf k hkk) (by omega)
    · have := hk.size
      rcases hf2 k hkk with g | g
      · exact hf k g
      · omega
  · obtain rfl : m = n := by omega
    exact ⟨o, rfl, ho, hk, hf⟩
end Go.Proofs.Ytilccklocaeebaa.V
