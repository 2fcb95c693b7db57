/- Rows: what is asked of them. -/
import Derived.Test.YtmpgklgjmkcpdaaHn
import Derived.Test.YtmpgklgjmkcpdaaRm
import Derived.Test.YtmpgklgjmkcpdaaOg
import Derived.Test.YtmpgklgjmkcpdaaLa
import Derived.Test.YtmpgklgjmkcpdaaBO
namespace Go.VC
open Go
/-- The places of a group. -/
def spA (cs : List Nat) (g : Int) : Int := if 0 ≤ g ∧ g < cs.length then S0 cs g.toNat else 0
def spB (cs : List Nat) (g : Int) : Int := if 0 ≤ g ∧ g < cs.length then S0 cs (g.toNat + 1) else 0
theorem spA_in {cs : List Nat} {m : Nat} (h : m < cs.length) : spA cs (m : Int) = (S0 cs m : Int) := by unfold spA; rw [if_pos (by omega), Int.toNat_natCast]
theorem spB_in {cs : List Nat} {m : Nat} (h : m < cs.length) : spB cs (m : Int) = (S0 cs (m + 1) : Int) := by unfold spB; rw [if_pos (by omega), Int.toNat_natCast]
theorem spA_out {cs : List Nat} {g : Int} (h : ¬ (0 ≤ g ∧ g < cs.length)) : spA cs g = 0 := by unfold spA; rw [if_neg h]
theorem spB_out {cs : List Nat} {g : Int} (h : ¬ (0 ≤ g ∧ g < cs.length)) : spB cs g = 0 := by unfold spB; rw [if_neg h]
theorem sumR_first (cs : List Nat) {m : Nat} (h : m ≤ cs.length) : sumR cs 0 (m : Int) = S0 cs m := by
  unfold sumR
  rw [show (min (m : Int) (cs.length : Int)).toNat = m by omega, show (min (max (0 : Int) 0) (min (m : Int) (cs.length : Int))).toNat = 0 by omega, S0_zero, Nat.sub_zero]
/-- A place's group, and the number there. -/
def PlcG (gs : List (List Nat)) (i g v : Int) : Prop := (g = -1 ∧ v = -1 ∧ (i < 0 ∨ ((cnts gs).sum : Int) ≤ i)) ∨
  ∃ (m : Nat) (hm : m < gs.length), g = m ∧ (S0 (cnts gs) m : Int) ≤ i ∧ i < (S0 (cnts gs) (m + 1) : Int) ∧ v = (wg gs[m] (i.toNat - S0 (cnts gs) m) : Int)
theorem PlcG.whe {gs : List (List Nat)} {i g v : Int} (h : PlcG gs i g v) : WhereP (cnts gs) i g := by
  rcases h with ⟨rfl, _, h⟩ | ⟨m, hm, rfl, h1, h2, _⟩
  · exact .inl ⟨rfl, h⟩
  · exact .inr ⟨m, rfl, by rw [cnts_len]; exact hm, h1, h2⟩
theorem PlcG.one {gs : List (List Nat)} {i g v g' v' : Int} (h : PlcG gs i g v) (h' : PlcG gs i g' v') : g = g' ∧ v = v' := by
  have e := h.whe.one h'.whe
  subst e
  refine ⟨rfl, ?_⟩
  rcases h with ⟨rfl, rfl, _⟩ | ⟨m, hm, rfl, h1, h2, rfl⟩ <;> rcases h' with ⟨e, rfl, _⟩ | ⟨m', hm', e, _, _, rfl⟩
  · rfl
  · omega
  · omega
  · obtain rfl : m = m' := by omega
    rfl
theorem place_of {gs : List (List Nat)} {i r : Int} (h : WhereP (cnts gs) i r) : ∃ v, PlcG gs i r v := by
  rcases h with ⟨rfl, h⟩ | ⟨m, rfl, hm, h1, h2⟩
  · exact ⟨-1, .inl ⟨rfl, rfl, h⟩⟩
  · rw [cnts_len] at hm
    exact ⟨_, .inr ⟨m, hm, rfl, h1, h2, rfl⟩⟩
/-- Where a number is in a group, if there is such a group. -/
def WhP (gs : List (List Nat)) (g v r : Int) : Prop := (r = -1 ∧ ¬ (0 ≤ g ∧ g < gs.length)) ∨ ∃ m : Nat, g = m ∧ InP gs m v r
theorem WhP.one {gs : List (List Nat)} (hg : GoodG gs) {g v r s : Int} (h : WhP gs g v r) (h' : WhP gs g v s) : r = s := by
  rcases h with ⟨rfl, h⟩ | ⟨m, rfl, h⟩ <;> rcases h' with ⟨rfl, h'⟩ | ⟨m', e, h'⟩
  · rfl
  · exact absurd (show 0 ≤ g ∧ g < gs.length by have hm : m' < gs.length := h'.1; clear h'; omega) h
  · exact absurd (show 0 ≤ (m : Int) ∧ (m : Int) < gs.length by have hm : m < gs.length := h.1; clear h; omega) h'
  · obtain rfl : m = m' := by omega
    exact InP.one hg h h'
end Go.VC
namespace Go.Proofs.Ytmpgklgjmkcpdaa.V
open Go Go.VC
variable {w w' w0 : World} {l : Slc} {cs ls : List Nat} {gs : List (List Nat)} {zs : List Int} {s r B n k : Nat} {v : Value}
theorem kp_cell0 {a : Addr} (h : w.cell? a = some v) (g : Kp no w w') : w'.cell? a = some v := by
  rw [World.cell?_of_block (w := w) (g.keep _ (cell_lt h) id), h]
theorem PreB.low {p B' : Nat} (h : PreB w p ls B) (hB : B' ≤ B) : PreB w p ls B' := by
  obtain ⟨s, h1, h2, h3, h4⟩ := h
  exact ⟨s, h1, h2.low hB, h3, by omega⟩

/-- What is kept of rows, whether it may be or not. -/
def RowsR (w : World) (r : Nat) (cs ls : List Nat) (B : Nat) : Prop := ∃ p s : Nat, Blk w r [.pointer (some ⟨p, 0, none⟩), .pointer (some ⟨s, 0, none⟩)] 94 ∧ PreB w p cs B ∧ SeqB w s ls B ∧ cs.length ≤ 1048576 ∧ ls.length ≤ 100000000 ∧ B ≤ r
theorem RowsR.kp {S : Nat → Prop} (h : RowsR w r cs ls B) (g : Kp S w w') (hn : ∀ k, B ≤ k → ¬ S k) : RowsR w' r cs ls B := by
  obtain ⟨p, s, h1, h2, h3, h4, h5, h6⟩ := h
  exact ⟨p, s, h1.kp g (hn _ h6), h2.kp g hn, h3.kp g hn, h4, h5, h6⟩
theorem RowsR.kpo (h : RowsR w r cs ls B) (g : Kp no w w') : RowsR w' r cs ls B := h.kp g (fun _ _ f => f)
/-- Rows. -/
def RowsB (w : World) (r : Nat) (gs : List (List Nat)) (B : Nat) : Prop := RowsR w r (cnts gs) (chainOf gs) B ∧ GoodG gs
theorem RowsB.kpo (h : RowsB w r gs B) (g : Kp no w w') : RowsB w' r gs B := ⟨h.1.kpo g, h.2⟩
theorem RowsB.kp {S : Nat → Prop} (h : RowsB w r gs B) (g : Kp S w w') (hn : ∀ k, B ≤ k → ¬ S k) : RowsB w' r gs B := ⟨h.1.kp g hn, h.2⟩

theorem wGroups (h : RowsR w r cs ls B) : Is 38 #[.pointer (some ⟨r, 0, none⟩)] w (.int .i64 cs.length) := by
  obtain ⟨p, s, hb, hp, hs, h1, h2, hB⟩ := h
  refine c38 _ _ _ ?_
  unfold B38
  exact ⟨_, hb.cell 0, usei (xLen hp (by omega)) ⟨_, rfl, rfl, rfl⟩⟩
theorem wLen (h : RowsR w r cs ls B) : Is 39 #[.pointer (some ⟨r, 0, none⟩)] w (.int .i64 ls.length) := by
  obtain ⟨p, s, hb, hp, hs, h1, h2, hB⟩ := h
  refine c39 _ _ _ ?_
  unfold B39
  exact ⟨_, hb.cell 1, usei (eLen hs) ⟨_, rfl, rfl, rfl⟩⟩
theorem wSpan (h : RowsR w r cs ls B) (g : Int) : IsK 31 #[.pointer (some ⟨r, 0, none⟩), .int .i64 g] w (.tuple #[.int .i64 (spA cs g), .int .i64 (spB cs g)]) := by
  have h0 := h
  obtain ⟨p, s, hb, hp, hs, h1, h2, hB⟩ := h
  refine c31 _ _ _ _ ?_
  unfold B31
  refine br_dec (fun g1 => ⟨?_, Kp.refl _ _⟩) (fun g1 => usei (wGroups h0) ⟨_, rfl, br_dec (fun g2 => ⟨?_, Kp.refl _ _⟩) (fun g2 => ?_)⟩)
  · rw [spA_out (by omega), spB_out (by omega)]
  · rw [spA_out (by omega), spB_out (by omega)]
  · obtain ⟨m, rfl⟩ : ∃ m : Nat, g = m := ⟨g.toNat, by omega⟩
    have hm : m < cs.length := by omega
    have hsum : S0 cs (m + 1) ≤ cs.sum := S0_le
    have hS := S0_succ hm
    have hle := hp.choose_spec.2.2.1
    refine ⟨_, hb.cell 0, usek (xSum hp (by omega) 0 m) fun w1 k1 => ⟨_, rfl, _, (hb.kp k1 id).cell 0, usek (xAt (hp.kpo k1) (by omega) m) fun w2 k2 => ⟨_, rfl, ?_, k1.t k2⟩⟩⟩
    rw [sumR_first cs (by omega), atZ_in hm, spA_in hm, spB_in hm, hS, w64 ⟨by omega, by omega⟩, Int.natCast_add]
theorem wBase (h : RowsR w r cs ls B) {z : Int} (hz : -9223372036854775807 ≤ z ∧ z ≤ 9223372036854775807) : IsK 84 #[.pointer (some ⟨r, 0, none⟩), .int .i64 z] w (.int .i64 (atZ (zl ls) (z - 1) + 1)) := by
  obtain ⟨p, s, hb, hp, hs, h1, h2, hB⟩ := h
  refine c84 _ _ _ _ ?_
  unfold B84
  refine ⟨_, hb.cell 1, ?_⟩
  rw [w64 (x := z - 1) ⟨by omega, by omega⟩]
  refine usek (eAt hs (by omega) _) fun w1 k1 => ⟨_, rfl, ?_, k1⟩
  have hw : -1 ≤ atZ (zl ls) (z - 1) ∧ atZ (zl ls) (z - 1) ≤ 1099511627776 := by
    unfold atZ
    split
    · rw [wz_zl]; have := wg_le hs.good (z - 1).toNat; omega
    · omega
  rw [w64 ⟨by omega, by omega⟩]
theorem wGroup (h : RowsB w r gs B) (i : Int) : Calls Try.prog 37 #[.pointer (some ⟨r, 0, none⟩), .int .i64 i] w (Rv fun v w' => Kp no w w' ∧ ∃ g : Int, v = .int .i64 g ∧ WhereP (cnts gs) i g) := by
  obtain ⟨h0, hg⟩ := h
  have h00 := h0
  obtain ⟨p, s, hb, hp, hs, h1, h2, hB⟩ := h0
  refine c37 _ _ _ _ ?_
  unfold B37
  refine br_dec (fun g1 => ⟨Kp.refl _ _, _, rfl, .inl ⟨rfl, .inl g1⟩⟩) (fun g1 => usei (wLen h00) ⟨_, rfl, br_dec (fun g2 => ⟨Kp.refl _ _, _, rfl, .inl ⟨rfl, .inr ?_⟩⟩) (fun g2 => ⟨_, hb.cell 0, use (xWhere hp (by omega) i) ?_⟩)⟩)
  · rw [chain_len] at g2; exact g2
  · rintro _ w1 ⟨k1, g, rfl, hw⟩
    exact ⟨_, rfl, k1, _, rfl, hw⟩
theorem wAt (h : RowsB w r gs B) (i : Int) : Calls Try.prog 36 #[.pointer (some ⟨r, 0, none⟩), .int .i64 i] w (Rv fun v w' => Kp no w w' ∧ ∃ g x : Int, v = .int .i64 x ∧ PlcG gs i g x) := by
  refine c36 _ _ _ _ ?_
  unfold B36
  refine use (wGroup h i) ?_
  rintro _ w1 ⟨k1, g, rfl, hw⟩
  refine ⟨_, rfl, br_dec (fun g1 => ?_) (fun g1 => ?_)⟩
  · rcases hw with ⟨rfl, hw⟩ | ⟨m, rfl, _⟩
    · exact ⟨k1, _, _, rfl, .inl ⟨rfl, rfl, hw⟩⟩
    · omega
  · rcases hw with ⟨rfl, hw⟩ | ⟨m, rfl, hm, h1, h2⟩
    · omega
    · have hm' : m < gs.length := by rwa [cnts_len] at hm
      have hr := h.kpo k1
      obtain ⟨hR, hg⟩ := hr
      have hR0 := hR
      obtain ⟨p, s, hb, hp, hs, b1, b2, hB⟩ := hR
      have hsum : S0 (cnts gs) (m + 1) ≤ (cnts gs).sum := S0_le
      have hle := hp.choose_spec.2.2.1
      have hcl := chain_len gs
      refine usek (wSpan hR0 m) fun w2 k2 => ⟨_, _, rfl, _, (hb.kp k2 id).cell 1, usek (eAt (hs.kpo k2) (by omega) i) fun w3 k3 => ⟨_, rfl, ?_⟩⟩
      rw [spA_in hm]
      refine usek (wBase ((hR0.kpo k2).kpo k3) ⟨by omega, by omega⟩) fun w4 k4 => ⟨_, rfl, k1.t (k2.t (k3.t k4)), m, _, ?_, .inr ⟨m, hm', rfl, h1, h2, rfl⟩⟩
      obtain ⟨c1, c2⟩ := chain_place hm' (i := i.toNat) (by omega) (by omega)
      obtain ⟨j, rfl⟩ : ∃ j : Nat, i = j := ⟨i.toNat, by omega⟩
      rw [Int.toNat_natCast] at c1 c2 ⊢
      have hv := (hg gs[m] (List.getElem_mem hm')).1 _ (wg_memN c1)
      have hw2 := wg_le hs.good j
      rw [base_at (by omega), atZ_in (by omega), c2, w64 ⟨by omega, by omega⟩]
      congr 1
      omega
theorem wWhere (h : RowsB w r gs B) (g x : Int) : Calls Try.prog 32 #[.pointer (some ⟨r, 0, none⟩), .int .i64 g, .int .i64 x] w (Rv fun v w' => Kp no w w' ∧ ∃ y : Int, v = .int .i64 y ∧ WhP gs g x y) := by
  refine c32 _ _ _ _ _ ?_
  unfold B32
  have h0 := h
  obtain ⟨hR, hg⟩ := h
  have hR0 := hR
  obtain ⟨p, s, hb, hp, hs, b1, b2, hB⟩ := hR
  refine usek (wSpan hR0 g) fun w1 k1 => ⟨_, _, rfl, ?_⟩
  by_cases hin : 0 ≤ g ∧ g < gs.length
  · obtain ⟨m, rfl⟩ : ∃ m : Nat, g = m := ⟨g.toNat, by omega⟩
    have hm : m < gs.length := by omega
    have hmc : m < (cnts gs).length := by rw [cnts_len]; exact hm
    rw [spA_in hmc, spB_in hmc]
    have hS := S0_succ hmc
    rw [cnts_at hm] at hS
    have hG := hg gs[m] (List.getElem_mem hm)
    have hsum : S0 (cnts gs) (m + 1) ≤ (cnts gs).sum := S0_le
    have hle := hp.choose_spec.2.2.1
    have none : (∀ i, i < gs[m].length → (wg gs[m] i : Int) ≠ x) → WhP gs m x (-1) := fun hh => .inr ⟨m, rfl, hm, .inl ⟨rfl, hh⟩⟩
    refine br_dec (fun g1 => ⟨k1, _, rfl, none fun i hi => by omega⟩) (fun g1 => br_dec (fun g2 => ⟨k1, _, rfl, none fun i hi => by omega⟩) (fun g2 => br_dec (fun g3 => ⟨k1, _, rfl, none fun i hi => ?_⟩) (fun g3 => ?_)))
    · have := hG.1 _ (wg_memN hi); omega
    · have kd : Kp no w1 w1.drew := (Kp.refl no w1).drew
      have b1' := hb.kp (k1.t kd) id
      refine ⟨_, b1'.cell 1, usek (wBase (hR0.kpo (k1.t kd)) ⟨by omega, by omega⟩) fun w2 k2 => ⟨_, rfl, (b1'.kp k2 id).cell 1, ?_⟩⟩
      rw [base_at (by omega)]
      obtain ⟨_, hnb⟩ := chT_inc hg m (by omega)
      rw [cnts_len] at b1
      rw [w64 (x := (nextB (chT gs m) : Int) + x) ⟨by omega, by omega⟩]
      refine use (eFind (hs.kpo (k1.t (kd.t k2))) (by omega) _ _ _) ?_
      rintro _ w3 ⟨k3, y, rfl, hy⟩
      exact ⟨_, rfl, k1.t (kd.t (k2.t k3)), _, rfl, .inr ⟨m, rfl, in_find hm hy⟩⟩
  · rw [spA_out (by rw [cnts_len]; exact hin), spB_out (by rw [cnts_len]; exact hin)]
    exact br_y rfl ⟨k1, _, rfl, .inl ⟨rfl, hin⟩⟩
theorem wSize (h : RowsR w r cs ls B) : IsK 40 #[.pointer (some ⟨r, 0, none⟩)] w (.int .i64 (((sumsOf cs).length * eW (sumsOf cs) + (hiB (sumsOf cs)).length + (ls.length * eW ls + (hiB ls).length) : Nat) : Int)) := by
  obtain ⟨p, s, hb, hp, hs, h1, h2, hB⟩ := h
  refine c40 _ _ _ ?_
  unfold B40
  have k0 : Kp no w w.drew := (Kp.refl no w).drew
  obtain ⟨_, _, hpS, hp3, _⟩ := id hp
  have e1 := szL_le hpS.good
  have e2 := szL_le hs.good
  rw [sumsOf_len] at e1
  unfold szL at e1 e2
  rw [sumsOf_len] at e1
  refine ⟨_, hb.drew.cell 0, _, hb.drew.cell 1, usek (xSize (hp.kpo k0) (by omega)) fun w1 k1 => ⟨_, rfl, (hb.drew.kp k1 id).cell 1, usek (eSize (hs.kpo (k0.t k1)) (by omega)) fun w2 k2 => ⟨_, rfl, ?_, k0.t (k1.t k2)⟩⟩⟩
  rw [sumsOf_len] at *
  rw [w64 ⟨by omega, by omega⟩]
  congr 1
theorem wParts (h : RowsR w r cs ls B) : Calls Try.prog 50 #[.pointer (some ⟨r, 0, none⟩)] w (Rv fun v w' => Kp no w w' ∧ ∃ p s : Nat, v = .tuple #[.pointer (some ⟨p, 0, none⟩), .pointer (some ⟨s, 0, none⟩)] ∧ PreB w' p cs B ∧ SeqB w' s ls B) := by
  obtain ⟨p, s, hb, hp, hs, h1, h2, hB⟩ := h
  refine c50 _ _ _ ?_
  unfold B50
  have k0 : Kp no w w.drew := (Kp.refl no w).drew
  exact ⟨_, hb.drew.cell 0, _, hb.drew.cell 1, k0, p, s, rfl, hp.kpo k0, hs.kpo k0⟩

theorem wGroupsN (w : World) : Is 38 #[.pointer none] w (.int .i64 0) := c38n _ _ ⟨rfl, rfl⟩
theorem wLenN (w : World) : Is 39 #[.pointer none] w (.int .i64 0) := c39n _ _ ⟨rfl, rfl⟩
theorem wSizeN (w : World) : Is 40 #[.pointer none] w (.int .i64 0) := c40n _ _ ⟨rfl, rfl⟩
theorem wSpanN (w : World) (g : Int) : Is 31 #[.pointer none, .int .i64 g] w (.tuple #[.int .i64 0, .int .i64 0]) := c31n _ _ _ (by
  unfold B31n
  exact br_dec (fun _ => ⟨rfl, rfl⟩) (fun h => usei (wGroupsN w) ⟨_, rfl, br_y (by omega) ⟨rfl, rfl⟩⟩))
theorem wGroupN (w : World) (i : Int) : Is 37 #[.pointer none, .int .i64 i] w (.int .i64 (-1)) := c37n _ _ _ (by
  unfold B37n
  exact br_dec (fun _ => ⟨rfl, rfl⟩) (fun h => usei (wLenN w) ⟨_, rfl, br_y (by omega) ⟨rfl, rfl⟩⟩))
theorem wAtN (w : World) (i : Int) : Is 36 #[.pointer none, .int .i64 i] w (.int .i64 (-1)) := c36n _ _ _ (by
  unfold B36n
  exact usei (wGroupN w i) ⟨_, rfl, br_y (by omega) ⟨rfl, rfl⟩⟩)
theorem wWhereN (w : World) (g x : Int) : Is 32 #[.pointer none, .int .i64 g, .int .i64 x] w (.int .i64 (-1)) := c32n _ _ _ _ (by
  unfold B32n
  exact usei (wSpanN w g) ⟨_, _, rfl, br_y rfl ⟨rfl, rfl⟩⟩)
theorem wPartsN (w : World) : Calls Try.prog 50 #[.pointer none] w (Rv fun v w' => Kp no w w' ∧ ∃ p s : Nat, v = .tuple #[.pointer (some ⟨p, 0, none⟩), .pointer (some ⟨s, 0, none⟩)] ∧ PreB w' p [] w.heap.size ∧ SeqB w' s [] w.heap.size) := c50n _ _ (by
  unfold B50n
  have h0 : RdZ w ⟨none, 0, 0⟩ (zl []) := ⟨rfl, Rd.nil _ _, by simp⟩
  have hx := xNew0 h0 (by simp) (by simp)
  refine use hx ?_
  rintro _ w1 ⟨k1, p, rfl, hp⟩
  have h1 : RdZ w1 ⟨none, 0, 0⟩ (zl []) := ⟨rfl, Rd.nil _ _, by simp⟩
  have he := eNew0 h1 (by simp) (.inl ⟨rfl, fun i hi => by simp at hi⟩)
  refine ⟨_, _, rfl, use he ?_⟩
  rintro _ w2 ⟨k2, s, ls, rfl, hz, hs⟩
  obtain rfl : ls = [] := by
    cases ls with
    | nil => rfl
    | cons x y => simp [zl] at hz
  exact ⟨_, _, rfl, k1.t k2, p, s, rfl, hp.kpo k2, hs.low k1.size⟩)
end Go.Proofs.Ytmpgklgjmkcpdaa.V
