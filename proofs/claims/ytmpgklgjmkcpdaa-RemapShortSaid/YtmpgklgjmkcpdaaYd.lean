/- Rows: two laws. -/
import Derived.Test.YtmpgklgjmkcpdaaYc
namespace Go.Proofs.Ytmpgklgjmkcpdaa.V
open Go Go.VC
variable {w w' w0 : World} {l : Slc} {cs ls : List Nat} {gs : List (List Nat)} {zs : List (List Int)} {s r B n k : Nat} {v : Value}
theorem small_in (h : zs.length ≤ 30 ∧ ∀ m (hm : m < zs.length), zs[m].length ≤ 20) : (∀ m (h : m < zs.length), zs[m].length ≤ 1000000) ∧ (zs.map List.length).sum ≤ 600 := by
  refine ⟨fun m hm => by have := h.2 m hm; omega, ?_⟩
  have := sum_leN (l := zs.map List.length) (c := 20) (fun x hx => by
    obtain ⟨g, hg, rfl⟩ := List.mem_map.1 hx
    obtain ⟨i, hi, rfl⟩ := List.getElem_of_mem hg
    exact h.2 i hi)
  rw [List.length_map] at this
  omega

set_option maxHeartbeats 1000000 in
theorem rowsMake (h : RdG w l zs) (x : Int) (hx : x ≤ 9223372036854775807) : IsK 8 #[.slice l.a l.len l.cap, .int .i64 x] w (.bool true) := by
  refine c8 _ _ _ _ ?_
  unfold B8
  have hl := h.len
  refine use (rSmall33 h) ?_
  rintro _ w1 ⟨hw, b, rfl, hb⟩
  obtain rfl : w = w1 := hw.symm
  refine ⟨_, rfl, ?_⟩
  cases b
  · exact brT (usek (live33 _) fun w1 k1 => ⟨_, rfl, rfl, k1⟩)
  obtain ⟨hin, hsum⟩ := small_in (hb rfl)
  have hsm := (hb rfl).1
  clear hb
  refine brF (use (wNew h hin (by omega)) ?_)
  rintro _ w1 ⟨k1, ⟨e, rfl, he, hwr⟩ | ⟨r, gs, rfl, rfl, hw0, hr⟩⟩
  · rw [if_neg (by omega)] at hwr
    subst hwr
    exact ⟨_, _, rfl, usei (rWrong33 (h.kpo k1) (by omega) hin) ⟨_, rfl, br_not (br_y rfl (br_not (br_n he (brN (usek (live33 _) fun w2 k2 => ⟨_, rfl, rfl, k1.t k2⟩)))))⟩⟩
  · rw [cnts_of rfl] at hsum
    have hcl := cnts_len gs
    have hchl := chain_len gs
    have hg := hr.2
    rw [List.length_map] at hl hsm
    have hA : S0 (cnts gs) gs.length = (cnts gs).sum := by rw [← hcl, S0_all]
    refine ⟨_, _, rfl, usei (rWrong33 (h.kpo k1) (by rw [List.length_map]; omega) hin) ⟨_, rfl, ?_⟩⟩
    rw [hw0]
    refine br_not (br_y rfl (br_not (br_y rfl (usei (rFirst33 (h.kpo k1) (by omega) (g := gs.length) (Nat.le_refl _) (by omega) (gi := (l.len : Int)) (by omega)) ⟨_, rfl, ?_⟩))))
    rw [hA]
    refine ⟨fun i w' => Kp no w1 w' ∧ ∃ m : Nat, i = m ∧ m ≤ (cnts gs).sum, fun i _ => ((cnts gs).sum - i).toNat, ⟨Kp.refl _ _, 0, rfl, by omega⟩, ?_⟩
    rintro i w2 ⟨k2, m, rfl, hm⟩
    refine br_dec (fun hlt => ?_) (fun hlt => ?_)
    · refine use (rPlace33 (h.kpo (k1.t k2)) (by omega) (i := (m : Int)) (by omega)) ?_
      rintro _ w3 ⟨k3, g, y, rfl, hp⟩
      refine ⟨_, _, rfl, use (wAt (hr.kpo (k2.t k3)) m) ?_⟩
      rintro _ w4 ⟨k4, g', y', rfl, hp'⟩
      obtain ⟨rfl, rfl⟩ := hp'.one hp
      refine ⟨_, rfl, br_not (br_y rfl (use (wGroup (hr.kpo (k2.t (k3.t k4))) m) ?_))⟩
      rintro _ w5 ⟨k5, g2, rfl, hp2⟩
      obtain rfl := hp2.one hp.whe
      rw [w64 (x := (m : Int) + 1) ⟨by omega, by omega⟩]
      exact ⟨_, rfl, br_not (br_y rfl ⟨⟨k2.t (k3.t (k4.t k5)), m + 1, by omega, by omega⟩, by dsimp only; omega⟩)⟩
    · refine use (rPlace33 (h.kpo (k1.t k2)) (by omega) (i := x) hx) ?_
      rintro _ w3 ⟨k3, g, y, rfl, hp⟩
      have r3 := hr.kpo (k2.t k3)
      refine ⟨_, _, rfl, usei (wGroups r3.1) ⟨_, rfl, br_y (by omega) (usei (wLen r3.1) ⟨_, rfl, br_y (by omega) (use (wAt r3 x) ?_)⟩)⟩⟩
      rintro _ w4 ⟨k4, g', y', rfl, hp'⟩
      obtain ⟨rfl, rfl⟩ := hp'.one hp
      refine ⟨_, rfl, br_y rfl (use (wGroup (r3.kpo k4) x) ?_)⟩
      rintro _ w5 ⟨k5, g2, rfl, hp2⟩
      obtain rfl := hp2.one hp.whe
      have r5 := r3.kpo (k4.t k5)
      have k15 := (k1.t k2).t (k3.t (k4.t k5))
      refine ⟨_, rfl, br_y rfl (usek (wSize r5.1) fun w6 k6 => ⟨_, rfl, use (rChain33 (h.kpo (k15.t k6)) hg (by omega) (by omega)) ?_⟩)⟩
      rintro _ w7 ⟨k7, o, rfl, ho⟩
      have hCg := chain_good hg (by omega)
      refine ⟨o, rfl, usei (rSize7 ho hCg (by omega)) ⟨_, rfl, use (rCounts33 (h.kpo (k15.t (k6.t k7))) (by omega) (by omega)) ?_⟩⟩
      rintro _ w8 ⟨k8, o2, rfl, ho2⟩
      refine ⟨o2, rfl, use (rSums33 ho2 (by omega) (by omega)) ?_⟩
      rintro _ w9 ⟨k9, o3, rfl, ho3⟩
      have hSg := sumsOf_good (l := cnts gs) (by omega)
      refine ⟨o3, rfl, usei (rSize7 ho3 hSg (by rw [sumsOf_len]; omega)) ⟨_, rfl, br_y ?_ (usek (live33 _) fun w10 k10 => ⟨_, rfl, rfl, (k15.t (k6.t (k7.t k8))).t (k9.t k10)⟩)⟩⟩
      have e1 := szL_le hSg
      have e2 := szL_le hCg
      unfold szL at e1 e2
      rw [sumsOf_len] at e1
      rw [sumsOf_len, w64 ⟨by omega, by omega⟩]
      omega

theorem rowsFind (h : RdG w l zs) (g x : Int) : IsK 7 #[.slice l.a l.len l.cap, .int .i64 g, .int .i64 x] w (.bool true) := by
  refine c7 _ _ _ _ _ ?_
  unfold B7
  have hl := h.len
  refine use (rSmall33 h) ?_
  rintro _ w1 ⟨hw, b, rfl, hb⟩
  obtain rfl : w = w1 := hw.symm
  refine ⟨_, rfl, ?_⟩
  cases b
  · exact brT (usek (live33 _) fun w1 k1 => ⟨_, rfl, rfl, k1⟩)
  obtain ⟨hin, hsum⟩ := small_in (hb rfl)
  have hsm := (hb rfl).1
  clear hb
  refine brF (usei (rWrong33 h (by omega) hin) ⟨_, rfl, br_not (br_dec (fun h0 => ?_) (fun h0 => usek (live33 _) fun w1 k1 => ⟨_, rfl, rfl, k1⟩))⟩)
  refine use (wNew h hin (by omega)) ?_
  rintro _ w1 ⟨k1, ⟨e, rfl, he, hwr⟩ | ⟨r, gs, rfl, rfl, hw0, hr⟩⟩
  · rw [if_neg (by omega)] at hwr
    exact absurd (hwr.trans h0) he
  rw [cnts_of rfl] at hsum
  have hcl := cnts_len gs
  rw [List.length_map] at hl hsm
  refine ⟨_, _, rfl, usek (wSpan hr.1 g) fun w2 k2 => ⟨_, _, rfl, use (wWhere (hr.kpo k2) g x) ?_⟩⟩
  rintro _ w3 ⟨k3, y, rfl, hy⟩
  have k13 := k1.t (k2.t k3)
  refine ⟨_, rfl, use (rWhere33 (h.kpo k13) (by omega) (by omega) g x) ?_⟩
  rintro _ _ ⟨rfl, y', rfl, hy'⟩
  obtain rfl := hy.one hr.2 hy'
  have out : ¬ (0 ≤ g ∧ g < gs.length) → spA (cnts gs) g = 0 ∧ spB (cnts gs) g = 0 := fun hh => ⟨spA_out (by rw [hcl]; exact hh), spB_out (by rw [hcl]; exact hh)⟩
  refine ⟨_, rfl, br_not (br_y rfl (br_dec (fun g1 => ?_) (fun g1 => br_dec (fun g2 => ?_) (fun g2 => ?_))))⟩
  · obtain ⟨o1, o2⟩ := out (by omega)
    rw [o1, o2]
    exact br_y rfl (br_y rfl (usek (live33 _) fun w4 k4 => ⟨_, rfl, rfl, k13.t k4⟩))
  · obtain ⟨o1, o2⟩ := out (by omega)
    rw [o1, o2]
    exact br_y rfl (br_y rfl (usek (live33 _) fun w4 k4 => ⟨_, rfl, rfl, k13.t k4⟩))
  · obtain ⟨m, rfl⟩ : ∃ m : Nat, g = m := ⟨g.toNat, by omega⟩
    rw [spA_in (by omega), spB_in (by omega), w64 (x := (m : Int) + 1) ⟨by omega, by omega⟩]
    exact usei (rFirst33 (h.kpo k13) (by omega) (g := m) (by omega) (by omega) rfl) ⟨_, rfl, br_y rfl (usei (rFirst33 (h.kpo k13) (by omega) (g := m + 1) (by omega) (by omega) (by omega)) ⟨_, rfl, br_y rfl (usek (live33 _) fun w4 k4 => ⟨_, rfl, rfl, k13.t k4⟩)⟩)⟩
end Go.Proofs.Ytmpgklgjmkcpdaa.V
