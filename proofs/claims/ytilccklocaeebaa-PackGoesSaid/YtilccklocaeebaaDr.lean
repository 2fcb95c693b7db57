/- The directory of ranks: the plain ranks and marks, and the directory itself. -/
import Derived.Test.YtilccklocaeebaaRy
import Derived.Test.YtilccklocaeebaaMk
import Derived.Test.YtilccklocaeebaaBD
namespace Go.VC
open Go
/-- The number as a value. -/
abbrev IV (x : Nat) : Value := .int .i64 (x : Int)
/-- Numbers that can be read. -/
structure RdI (w : World) (l : Slc) (xs : List Nat) : Prop where
  len : xs.length = l.len
  rd : Rd w l (xs.map IV)
theorem RdI.at {w : World} {l : Slc} {xs : List Nat} (h : RdI w l xs) {i : Int} (h0 : 0 ≤ i) (h1 : i < l.len) : ∃ a, l.a = some a ∧ w.cell? (Addr.add a (i.toNat * 1)) = some (IV (wg xs i.toNat)) := by
  have hl := h.len
  obtain ⟨a, ha, hc⟩ := h.rd i.toNat (by rw [List.length_map]; omega)
  refine ⟨a, ha, ?_⟩
  rw [Nat.mul_one, hc]
  unfold wg
  rw [List.getElem?_map, List.getElem?_eq_getElem (by omega)]
  rfl
theorem RdI.kp {S : Nat → Prop} {w w' : World} {l : Slc} {xs : List Nat} (h : RdI w l xs) (g : Kp S w w') (hn : ∀ k, On l k → ¬ S k) : RdI w' l xs := ⟨h.len, h.rd.kp g hn⟩
theorem Ownd.rdI {w : World} {l : Slc} {e : TypeId} {xs : List Nat} (h : Ownd w l e 1 (xs.map IV)) : RdI w l xs := ⟨by have := h.len; simpa using this, h.rd⟩
theorem map_snocI (xs : List Nat) (x : Nat) : xs.map IV ++ [IV x] = (xs ++ [x]).map IV := by simp
/-- A place within a list. -/
def clampL (bits : List Bool) (i : Int) : Nat := (min (max i 0) (bits.length : Int)).toNat
/-- The ones ahead of each span of 512, and all. -/
def marksOf (bits : List Bool) : List Nat := ((List.range ((bits.length + 511) / 512)).map fun j => cnt (bg bits) (512 * j)) ++ [cnt (bg bits) bits.length]
theorem cnt_end {bits : List Bool} {n : Nat} (h : bits.length ≤ n) : cnt (bg bits) n = cnt (bg bits) bits.length := by
  obtain ⟨j, rfl⟩ : ∃ j, n = bits.length + j := ⟨n - bits.length, by omega⟩
  have : cnt (fun i => bg bits (bits.length + i)) j = 0 := by rw [cnt_congr (q := fun _ => false) (fun i _ => bg_out (by omega)), cnt_false]
  rw [cnt_add, this]; rfl
theorem marksOf_len (bits : List Bool) : (marksOf bits).length = (bits.length + 511) / 512 + 1 := by simp [marksOf]
theorem marksOf_at {bits : List Bool} {j : Nat} (h : j < (bits.length + 511) / 512) : wg (marksOf bits) j = cnt (bg bits) (512 * j) := by
  unfold wg marksOf
  rw [List.getElem?_append_left (by simpa using h)]
  simp [h]
theorem marksOf_last (bits : List Bool) : wg (marksOf bits) ((bits.length + 511) / 512) = cnt (bg bits) bits.length := by
  unfold wg marksOf
  rw [List.getElem?_append_right (by simp)]
  simp
end Go.VC

namespace Go.Proofs.Ytilccklocaeebaa.V
open Go Go.VC
variable {w w' w0 : World} {l o : Slc} {bits : List Bool} {d : Nat}

theorem elI : El Try.prog 38 3 1 8 := El.of (by kernel_rfl) (by kernel_rfl)

theorem rank4 (h : RdB w l bits) (hsz : l.len ≤ 1099511627776) (i : Int) : Is 18 #[.slice l.a l.len l.cap, .int .i64 i] w (.int .i64 (cnt (bg bits) (clampL bits i) : Nat)) := by
  refine c18 l i w _ ?_
  unfold B18
  have hl := h.len
  refine ⟨fun n j w' => w' = w ∧ ∃ m : Nat, j = m ∧ m ≤ l.len ∧ n = (cnt (bg bits) (min m (clampL bits i)) : Nat), fun _ j _ => (l.len - j).toNat, ⟨rfl, 0, rfl, by omega, by simp [cnt]⟩, ?_⟩
  rintro n j w' ⟨rfl, m, rfl, hm, rfl⟩
  have hc := cnt_le (bg bits) (min m (clampL bits i))
  refine br_dec (fun h1 => ?_) (fun h1 => ?_)
  · rw [w64 (x := (m : Int) + 1) ⟨by omega, by omega⟩]
    refine br_dec (fun h2 => usei (bit2 h m) ⟨_, rfl, ?_⟩) (fun h2 => ⟨⟨rfl, m + 1, by omega, by omega, ?_⟩, by dsimp only; omega⟩)
    · have e1 : min m (clampL bits i) = m := by unfold clampL; omega
      have e2 : min (m + 1) (clampL bits i) = m + 1 := by unfold clampL; omega
      rw [e1] at hc ⊢
      have hb : bz bits (m : Int) = bg bits m := by unfold bz; simp
      rw [hb, w64 ⟨by omega, by omega⟩]
      refine br_of (fun h3 => ⟨⟨rfl, m + 1, by omega, by omega, ?_⟩, by dsimp only; omega⟩) (fun h3 => ⟨⟨rfl, m + 1, by omega, by omega, ?_⟩, by dsimp only; omega⟩)
      · rw [e2]; simp [cnt, h3]
      · rw [e2]; simp [cnt, h3]
    · have e1 : min m (clampL bits i) = clampL bits i := by unfold clampL; omega
      have e2 : min (m + 1) (clampL bits i) = clampL bits i := by unfold clampL; omega
      rw [e1, e2]
  · have e1 : min m (clampL bits i) = clampL bits i := by unfold clampL; omega
    rw [e1]; exact ⟨rfl, rfl⟩

theorem marks4 (h : RdB w l bits) (hsz : l.len ≤ 109951162777) : Calls Try.prog 20 #[.slice l.a l.len l.cap] w (Rv fun v w' => ∃ o : Slc, v = .slice o.a o.len o.cap ∧
    Ownd w' o 3 1 ((marksOf bits).map IV) ∧ Kp no w w' ∧ ∀ k, On o k → w.heap.size ≤ k) := by
  refine c20 l w _ ?_
  unfold B20
  have hl := h.len
  refine ⟨fun o i w' => ∃ m : Nat, i = ((512 * m : Nat) : Int) ∧ m ≤ (bits.length + 511) / 512 ∧ Ownd w' o 3 1 (((List.range m).map fun j => cnt (bg bits) (512 * j)).map IV) ∧ o.len = m ∧ Kp no w w' ∧ ∀ k, On o k → w.heap.size ≤ k,
    fun _ i _ => (l.len + 512 - i).toNat, ⟨0, rfl, by omega, Ownd.nil _ _ _, rfl, Kp.refl _ _, fun k hk => absurd hk On.nil⟩, ?_⟩
  rintro o i w' ⟨m, rfl, hm, ho, hol, hk, hf⟩
  have hs := hk.size
  refine br_dec (fun h1 => usei (rank4 (h.kp hk (fun _ _ f => f)) (by omega) _) ⟨_, rfl, ?_⟩) (fun h1 => ?_)
  · have hcl : clampL bits ((512 * m : Nat) : Int) = 512 * m := by unfold clampL; omega
    rw [hcl]
    obtain ⟨w1, o1, hr, ho1, hl1, hk1, hf1⟩ := append_one (ty := 38) elI ho (IV (cnt (bg bits) (512 * m))) rfl (by simp only [maxLen]; omega) (by omega)
    refine ⟨w1, o1, hr, ?_⟩
    rw [w64 ⟨by omega, by omega⟩]
    refine ⟨⟨m + 1, by omega, by omega, ?_, by omega, hk.trans hk1 (fun k hlt hkk => absurd (hf k hkk) (by omega)), fun k hkk => ?_⟩, by dsimp only; omega⟩
    · rw [List.range_succ, List.map_append, List.map_append]; exact ho1
    · rcases hf1 k hkk with g | g
      · exact hf k g
      · omega
  · have hme : m = (bits.length + 511) / 512 := by omega
    subst hme
    obtain ⟨w1, o1, hr1, ho1, hl1, hk1, hf1⟩ := append_rd (ty := 38) elI (by omega) (Ownd.empty w' 3 1) o (news := ((List.range ((bits.length + 511) / 512)).map fun j => cnt (bg bits) (512 * j)).map IV) (by simp [hol]) (ho.rd.kp ((Kp.refl no w').alloc #[] 3) (fun _ _ f => f))
      (fun u hu => by obtain ⟨b, _, rfl⟩ := List.mem_map.1 hu; rfl) (by simp only [maxLen]; omega) (by simp only; omega)
    have hk1' : Kp no w' w1 := ((Kp.refl no w').alloc _ _).trans hk1 (fun k hlt hkk => by obtain ⟨a, ha, rfl⟩ := hkk; cases ha; exact absurd hlt (by simp))
    have hf1' : ∀ k, On o1 k → w.heap.size ≤ k := fun k hkk => by
      rcases hf1 k hkk with g | g
      · obtain ⟨a, ha, rfl⟩ := g; cases ha; exact hs
      · simp at g; omega
    have hkw : Kp no w w1 := hk.trans hk1' (fun _ _ f => f)
    refine ⟨w1, o1, hr1, usei (rank4 (h.kp hkw (fun _ _ f => f)) (by omega) _) ⟨_, rfl, ?_⟩⟩
    have hcl : clampL bits (l.len : Int) = bits.length := by unfold clampL; omega
    rw [hcl]
    rw [List.nil_append] at ho1
    have hl1' : o1.len = (bits.length + 511) / 512 := by simpa [hol] using hl1
    obtain ⟨w2, o2, hr2, ho2, hl2, hk2, hf2⟩ := append_one (ty := 38) elI ho1 (IV (cnt (bg bits) bits.length)) rfl (by simp only [maxLen]; omega) (by omega)
    refine ⟨w2, o2, hr2, o2, rfl, ?_, hkw.trans hk2 (fun k hlt hkk => absurd (hf1' k hkk) (by omega)), fun k hkk => ?_⟩
    · rw [map_snocI] at ho2; exact ho2
    · have := hkw.size
      rcases hf2 k hkk with g | g
      · exact hf1' k g
      · omega

theorem ints4 {l2 : Slc} {xs ys : List Nat} (h : RdI w l xs) (g : RdI w l2 ys) (hsz : l.len ≤ 1099511627776) :
    IsK 22 #[.slice l.a l.len l.cap, .slice l2.a l2.len l2.cap] w (.bool (decide (xs = ys))) := by
  refine c22 l l2 w _ ?_
  unfold B22
  have hl := h.len
  have gl := g.len
  refine br_not (br_dec (fun hh => ?_) (fun hh => ⟨?_, Kp.refl _ _⟩))
  · refine ⟨fun i w' => Kp no w w' ∧ ∃ m : Nat, i = m ∧ m ≤ l.len ∧ ∀ k, k < m → wg xs k = wg ys k, fun i _ => (l.len - i).toNat, ⟨Kp.refl _ _, 0, rfl, by omega, fun k hk => by omega⟩, ?_⟩
    rintro i w' ⟨hk, m, rfl, hm, he⟩
    refine br_dec (fun h1 => ⟨by omega, h1, ?_⟩) (fun h1 => ⟨?_, hk⟩)
    · obtain ⟨a, ha, hb⟩ := (h.kp hk.drew (fun _ _ f => f)).at (i := m) (by omega) h1
      obtain ⟨a2, ha2, hb2⟩ := (g.kp hk.drew (fun _ _ f => f)).at (i := m) (by omega) (by omega)
      refine ⟨a, ha, _, hb, by omega, by omega, a2, ha2, _, hb2, ?_⟩
      rw [Int.toNat_natCast, w64 (x := (m : Int) + 1) ⟨by omega, by omega⟩]
      refine br_not (br_dec (fun h3 => ⟨⟨hk.drew, m + 1, by omega, by omega, fun k hk2 => ?_⟩, by dsimp only; omega⟩) (fun h3 => ⟨?_, hk.drew⟩))
      · by_cases e : k = m
        · subst e; omega
        · exact he k (by omega)
      · have : xs ≠ ys := fun e => h3 (by rw [e])
        simp [this]
    · have : xs = ys := wg_ext (by omega) (fun k hk => he k (by omega))
      simp [this]
  · have : xs ≠ ys := fun e => hh (by rw [← hl, ← gl, e])
    simp [this]

theorem cloneI {xs : List Nat} (h : RdI w l xs) (hsz : l.len ≤ 1099511627776) : Calls Try.prog 52 #[.slice l.a l.len l.cap] w (Rv fun v w' => ∃ o : Slc, v = .slice o.a o.len o.cap ∧
    Ownd w' o 3 1 (xs.map IV) ∧ Kp no w w' ∧ ∀ k, On o k → w.heap.size ≤ k) := by
  refine c52 _ _ _ ?_
  unfold B52
  have hl := h.len
  cases ha : l.a with
  | none =>
    have : xs = [] := by
      cases xs with
      | nil => rfl
      | cons x y => obtain ⟨a, ha', _⟩ := h.rd 0 (by simp); rw [ha] at ha'; cases ha'
    subst this
    exact ⟨⟨none, 0, 0⟩, rfl, (Ownd.nil _ _ _), Kp.refl _ _, fun k hk => absurd hk On.nil⟩
  | some a =>
    obtain ⟨w1, o1, hr, ho1, hl1, hk1, hf1⟩ := append_rd (ty := 38) elI (by omega) (Ownd.empty w 3 1) l (news := xs.map IV) (by simp [hl]) (h.rd.kp ((Kp.refl no w).alloc #[] 3) (fun _ _ f => f))
      (fun u hu => by obtain ⟨b, _, rfl⟩ := List.mem_map.1 hu; rfl) (by simp only [maxLen]; omega) (by simp only; omega)
    rw [ha] at hr
    refine ⟨w1, o1, hr, o1, rfl, by simpa using ho1, ((Kp.refl no w).alloc _ _).trans hk1 (fun k hlt hkk => by obtain ⟨a, ha, rfl⟩ := hkk; cases ha; exact absurd hlt (by simp)), fun k hkk => ?_⟩
    rcases hf1 k hkk with g | g
    · obtain ⟨a, ha, rfl⟩ := g; cases ha; exact Nat.le_refl _
    · simp at g; omega
end Go.Proofs.Ytilccklocaeebaa.V
