/- Words behind words: what is wrong with pairs; compared. -/
import Derived.Test.YtmpgklgjmkcpdaaYf
import Derived.Test.YtmpgklgjmkcpdaaYp
import Derived.Test.YtmpgklgjmkcpdaaBM
namespace Go.VC
open Go
/-- A list of a list, or an empty one. -/
def gz (zs : List (List Int)) (i : Nat) : List Int := (zs[i]?).getD []
theorem gz_at {zs : List (List Int)} {i : Nat} (h : i < zs.length) : gz zs i = zs[i] := by unfold gz; rw [List.getElem?_eq_getElem h]; rfl
abbrev lexZ (p q : List Int) : Prop := wz p 0 < wz q 0 ∨ (wz p 0 = wz q 0 ∧ wz p 1 < wz q 1)
abbrev outR (n : Int) (p : List Int) : Prop := wz p 0 < 0 ∨ n ≤ wz p 0 ∨ wz p 1 < 0 ∨ n ≤ wz p 1
def okR (n : Int) (zs : List (List Int)) (i : Nat) : Prop := (gz zs i).length = 2 ∧ ¬ outR n (gz zs i) ∧ (0 < i → lexZ (gz zs (i - 1)) (gz zs i))
def badR (n : Int) (zs : List (List Int)) (a : Nat) (e : Int) : Prop := (e = 3 ∧ (gz zs a).length ≠ 2) ∨ (e = 8 ∧ (gz zs a).length = 2 ∧ outR n (gz zs a)) ∨ (e = 9 ∧ (gz zs a).length = 2 ∧ ¬ outR n (gz zs a) ∧ 0 < a ∧ ¬ lexZ (gz zs (a - 1)) (gz zs a))
/-- What is wrong with pairs. -/
def WrR (n : Int) (zs : List (List Int)) (e : Int) : Prop := (e = 1 ∧ (n < 1 ∨ 65536 < n)) ∨ (¬ (n < 1 ∨ 65536 < n) ∧ ((e = 0 ∧ ∀ i, i < zs.length → okR n zs i) ∨ ∃ a, a < zs.length ∧ (∀ i, i < a → okR n zs i) ∧ badR n zs a e))
theorem badR.no {n : Int} {zs : List (List Int)} {a : Nat} {e : Int} (h : badR n zs a e) : ¬ okR n zs a := by
  rintro ⟨o1, o2, o3⟩
  rcases h with ⟨_, h⟩ | ⟨_, _, h⟩ | ⟨_, _, _, h0, h⟩
  · exact h o1
  · exact o2 h
  · exact h (o3 h0)
theorem badR.one {n : Int} {zs : List (List Int)} {a : Nat} {e f : Int} (h : badR n zs a e) (g : badR n zs a f) : e = f := by
  rcases h with ⟨rfl, h⟩ | ⟨rfl, h1, h⟩ | ⟨rfl, h1, h2, h0, h⟩ <;> rcases g with ⟨rfl, g⟩ | ⟨rfl, g1, g⟩ | ⟨rfl, g1, g2, g0, g⟩ <;> first | rfl | (exact absurd g1 h) | (exact absurd h1 g) | (exact absurd h g2) | (exact absurd g h2)
theorem WrR.one {n : Int} {zs : List (List Int)} {e f : Int} (h : WrR n zs e) (g : WrR n zs f) : e = f := by
  rcases h with ⟨rfl, h⟩ | ⟨h0, h⟩ <;> rcases g with ⟨rfl, g⟩ | ⟨g0, g⟩
  · rfl
  · exact absurd h g0
  · exact absurd g h0
  · rcases h with ⟨rfl, h⟩ | ⟨a, h1, h2, h3⟩ <;> rcases g with ⟨rfl, g⟩ | ⟨b, g1, g2, g3⟩
    · rfl
    · exact absurd (h b g1) g3.no
    · exact absurd (g a h1) h3.no
    · rcases Nat.lt_trichotomy a b with e | e | e
      · exact absurd (g2 a e) h3.no
      · subst e; exact h3.one g3
      · exact absurd (h2 b e) g3.no
abbrev prZ (p : Nat × Nat) : List Int := [(p.1 : Int), (p.2 : Int)]
theorem len2 {z : List Int} (h : z.length = 2) : z = [wz z 0, wz z 1] := by
  match z, h with
  | [a, b], _ => rfl
theorem pairs_of {n : Int} {zs : List (List Int)} (h : ∀ i, i < zs.length → okR n zs i) : ∃ ps : List (Nat × Nat), zs = ps.map prZ ∧ PairsOk n.toNat ps := by
  refine ⟨zs.map fun z => ((wz z 0).toNat, (wz z 1).toNat), ?_, fun p hp => ?_, pairwise_of fun i hi => ?_⟩
  · rw [List.map_map]
    symm
    rw [List.map_congr_left (g := id) (fun z hz => ?_), List.map_id]
    obtain ⟨i, hi, rfl⟩ := List.getElem_of_mem hz
    obtain ⟨o1, o2, _⟩ := h i hi
    rw [gz_at hi] at o1 o2
    simp only [Function.comp, id]
    unfold prZ
    have h0 : ((wz zs[i] 0).toNat : Int) = wz zs[i] 0 := by omega
    have h1 : ((wz zs[i] 1).toNat : Int) = wz zs[i] 1 := by omega
    rw [h0, h1]
    exact (len2 o1).symm
  · obtain ⟨z, hz, rfl⟩ := List.mem_map.1 hp
    obtain ⟨i, hi, rfl⟩ := List.getElem_of_mem hz
    obtain ⟨o1, o2, _⟩ := h i hi
    rw [gz_at hi] at o2
    dsimp only
    omega
  · rw [List.length_map] at hi
    obtain ⟨o1, o2, _⟩ := h i (by omega)
    obtain ⟨q1, q2, q3⟩ := h (i + 1) hi
    have q3 := q3 (by omega)
    rw [Nat.add_sub_cancel, gz_at (by omega), gz_at hi] at q3
    rw [gz_at (by omega)] at o2
    rw [gz_at hi] at q2
    rw [List.getElem_map, List.getElem_map]
    unfold lexP
    dsimp only
    omega
/-- The words behind any word. -/
def bhZ (ps : List (Nat × Nat)) (a : Int) : List Nat := if 0 ≤ a then behind ps a.toNat else []
theorem bhZ_nat (ps : List (Nat × Nat)) (a : Nat) : bhZ ps (a : Int) = behind ps a := by unfold bhZ; rw [if_pos (by omega), Int.toNat_natCast]
theorem behind_none {n : Nat} {ps : List (Nat × Nat)} (h : PairsOk n ps) {a : Nat} (ha : n ≤ a) : behind ps a = [] := by
  unfold behind
  rw [List.map_eq_nil_iff, List.filter_eq_nil_iff]
  intro p hp
  have := (h.1 p hp).1
  simp; omega
theorem grp_bh {n : Nat} {ps : List (Nat × Nat)} (h : PairsOk n ps) (a : Int) : grpZ (grpsOf n ps) a = bhZ ps a := by
  by_cases g : 0 ≤ a
  · obtain ⟨m, rfl⟩ : ∃ m : Nat, a = m := ⟨a.toNat, by omega⟩
    rw [bhZ_nat]
    by_cases hm : m < n
    · rw [grpZ_in (by rw [grpsOf_len]; exact hm), grpsOf_at]
    · rw [grpZ_out (by rw [grpsOf_len]; omega), behind_none h (by omega)]
  · rw [grpZ_out (by omega)]; unfold bhZ; rw [if_neg g]
theorem bh_inc {n : Nat} {ps : List (Nat × Nat)} (h : PairsOk n ps) (a : Int) : (∀ v ∈ bhZ ps a, v < n) ∧ ∀ i j, i < j → j < (bhZ ps a).length → wg (bhZ ps a) i < wg (bhZ ps a) j := by
  unfold bhZ
  split
  · obtain ⟨h1, h2⟩ := behind_inc h a.toNat
    refine ⟨h1, fun i j hij hj => ?_⟩
    have := (List.pairwise_iff_getElem.1 h2) i j (by omega) hj hij
    unfold wg
    rw [List.getElem?_eq_getElem (by omega), List.getElem?_eq_getElem hj]
    exact this
  · exact ⟨fun v hv => by simp at hv, fun i j _ hj => by simp at hj⟩
theorem behind_len (ps : List (Nat × Nat)) (a : Nat) : (behind ps a).length ≤ ps.length := by
  unfold behind; rw [List.length_map]; exact List.length_filter_le _ _
theorem bhZ_len (ps : List (Nat × Nat)) (a : Int) : (bhZ ps a).length ≤ ps.length := by
  unfold bhZ
  split
  · exact behind_len _ _
  · simp
/-- A word's rank. -/
def RankP (l : List Nat) (b r : Int) : Prop := (r = -1 ∧ ∀ i, i < l.length → (wg l i : Int) ≠ b) ∨ ∃ i : Nat, r = i ∧ i < l.length ∧ (wg l i : Int) = b
theorem RankP.one {l : List Nat} (hl : ∀ i j, i < j → j < l.length → wg l i < wg l j) {b r s : Int} (h : RankP l b r) (g : RankP l b s) : r = s := by
  rcases h with ⟨rfl, h⟩ | ⟨i, rfl, h1, h2⟩ <;> rcases g with ⟨rfl, g⟩ | ⟨j, rfl, g1, g2⟩
  · rfl
  · exact absurd g2 (h j g1)
  · exact absurd h2 (g i h1)
  · rcases Nat.lt_trichotomy i j with e | e | e
    · have := hl i j e g1; omega
    · rw [e]
    · have := hl j i e h1; omega
end Go.VC
namespace Go.Proofs.Ytmpgklgjmkcpdaa.V
open Go Go.VC
variable {w w' w0 : World} {l la lb : Slc} {zs : List (List Int)} {za zb : List Int} {ps : List (Nat × Nat)} {n m r B : Nat} {v : Value}

theorem cCompare (w : World) (x y : Int) : Is 134 #[.int .i64 x, .int .i64 y] w (.int .i64 (if x < y then -1 else if y < x then 1 else 0)) := by
  have nan : ∀ z : Int, Is 136 #[.int .i64 z] w (.bool false) := fun z => c136 _ _ _ (by
    show Value.bool (!(decide (z = z))) = _ ∧ _
    simp)
  refine c134 _ _ _ _ ?_
  unfold B134
  refine usei (nan x) ⟨_, rfl, usei (nan y) ⟨_, rfl, brFf (brFf (br_dec (fun h => ⟨by rw [if_pos h], rfl⟩) (fun h => br_dec (fun h2 => ⟨by rw [if_neg h, if_pos h2], rfl⟩) (fun h2 => ⟨by rw [if_neg h, if_neg h2], rfl⟩))))⟩⟩

theorem gCompare (h1 : RdZ w la za) (h2 : RdZ w lb zb) (e1 : za.length = 2) (e2 : zb.length = 2) : Calls Try.prog 122 #[.slice la.a la.len la.cap, .slice lb.a lb.len lb.cap] w (Rv fun v w' => w' = w ∧ ∃ c : Int, v = .int .i64 c ∧ (0 ≤ c ↔ ¬ lexZ za zb)) := by
  refine c122 _ _ _ _ ?_
  unfold B122
  have l1 := h1.len
  have l2 := h2.len
  have key : Calls Try.prog 131 #[.slice la.a la.len la.cap, .slice lb.a lb.len lb.cap] w (Rv fun v w' => w' = w ∧ ∃ c : Int, v = .int .i64 c ∧ (0 ≤ c ↔ ¬ lexZ za zb)) := by
    refine c131 _ _ _ _ ?_
    unfold B131
    refine ⟨fun i w' => w' = w ∧ ∃ m : Nat, i = m ∧ m ≤ 2 ∧ ∀ j, j < m → wz za j = wz zb j, fun i _ => (2 - i).toNat, ⟨rfl, 0, rfl, by omega, fun j hj => by omega⟩, ?_⟩
    rintro i w1 ⟨hw, m, rfl, hm, hj⟩
    obtain rfl : w = w1 := hw.symm
    refine br_dec (fun hlt => ?_) (fun hlt => br_n (by omega) ⟨rfl, 0, rfl, ?_⟩)
    · obtain ⟨a, ha, hc⟩ := h1.at (i := (m : Int)) (by omega) hlt
      obtain ⟨a2, ha2, hc2⟩ := h2.at (i := (m : Int)) (by omega) (by omega)
      refine ⟨by omega, hlt, a, ha, _, hc, br_n (by omega) ⟨by omega, by omega, a2, ha2, _, hc2, usei (cCompare w _ _) ⟨_, rfl, ?_⟩⟩⟩
      rw [Int.toNat_natCast, w64 (x := (m : Int) + 1) ⟨by omega, by omega⟩]
      refine br_not (br_dec (fun g => ?_) (fun g => ⟨rfl, _, rfl, ?_⟩))
      · have he : wz za m = wz zb m := by
          split at g
          · omega
          · split at g <;> omega
        refine ⟨⟨rfl, m + 1, by omega, by omega, fun j hjm => ?_⟩, by dsimp only; omega⟩
        by_cases e : j = m
        · subst e; exact he
        · exact hj j (by omega)
      · unfold lexZ
        have hm2 : m = 0 ∨ m = 1 := by omega
        rcases hm2 with rfl | rfl
        · split
          · rename_i q; omega
          · rename_i q
            rw [if_neg q] at g
            split at g <;> split <;> omega
        · have h0 := hj 0 (by omega)
          split
          · rename_i q; omega
          · rename_i q
            rw [if_neg q] at g
            split at g <;> split <;> omega
    · obtain rfl : m = 2 := by omega
      have h0 := hj 0 (by omega)
      have h1 := hj 1 (by omega)
      unfold lexZ
      omega
  refine use key ?_
  rintro _ _ ⟨rfl, c, rfl, hc⟩
  exact ⟨_, rfl, rfl, c, rfl, hc⟩

theorem rCompare18 (h1 : RdZ w la za) (h2 : RdZ w lb zb) (e1 : za.length = 2) (e2 : zb.length = 2) : Calls Try.prog 102 #[.slice la.a la.len la.cap, .slice lb.a lb.len lb.cap] w (Rv fun v w' => Kp no w w' ∧ ∃ c : Int, v = .int .i64 c ∧ (0 ≤ c ↔ ¬ lexZ za zb)) := by
  refine c102 _ _ _ _ ?_
  unfold B102
  have l1 := h1.len
  have l2 := h2.len
  refine ⟨fun i w' => Kp no w w' ∧ ∃ m : Nat, i = m ∧ m ≤ 2 ∧ ∀ j, j < m → wz za j = wz zb j, fun i _ => (2 - i).toNat, ⟨Kp.refl _ _, 0, rfl, by omega, fun j hj => by omega⟩, ?_⟩
  rintro i w1 ⟨k1, m, rfl, hm, hj⟩
  refine br_dec (fun hlt => br_y (by omega) ?_) (fun hlt => br_n (by omega) (br_n (by omega) ⟨k1, 0, rfl, ?_⟩))
  · obtain ⟨a, ha, hc⟩ := (h1.kpo k1.drew).at (i := (m : Int)) (by omega) hlt
    obtain ⟨a2, ha2, hc2⟩ := (h2.kpo k1.drew).at (i := (m : Int)) (by omega) (by omega)
    have hcd : (World.drew (World.drew w1)).cell? (Addr.add a ((m : Int).toNat * 1)) = some (.int .i64 (wz za (m : Int).toNat)) := hc
    have hcd2 : (World.drew (World.drew w1)).cell? (Addr.add a2 ((m : Int).toNat * 1)) = some (.int .i64 (wz zb (m : Int).toNat)) := hc2
    have h00 : (0 : Int) ≤ (m : Int) := by omega
    have hlb : (m : Int) < (lb.len : Int) := by omega
    refine ⟨h00, hlt, a, ha, _, hc, h00, hlb, a2, ha2, _, hc2, ?_⟩
    rw [Int.toNat_natCast] at hcd hcd2 ⊢
    refine br_dec (fun g => ⟨k1.drew, _, rfl, ?_⟩) (fun g => ⟨h00, hlt, a, ha, _, hcd, h00, hlb, a2, ha2, _, hcd2, br_dec (fun g2 => ⟨k1.drew.drew, _, rfl, ?_⟩) (fun g2 => ?_)⟩)
    · unfold lexZ
      have hm2 : m = 0 ∨ m = 1 := by omega
      rcases hm2 with rfl | rfl
      · omega
      · have h0 := hj 0 (by omega); omega
    · unfold lexZ
      have hm2 : m = 0 ∨ m = 1 := by omega
      rcases hm2 with rfl | rfl
      · omega
      · have h0 := hj 0 (by omega); omega
    · rw [w64 (x := (m : Int) + 1) ⟨by omega, by omega⟩]
      refine ⟨⟨k1.drew.drew, m + 1, by omega, by omega, fun j hjm => ?_⟩, by dsimp only; omega⟩
      by_cases e : j = m
      · subst e; omega
      · exact hj j (by omega)
  · obtain rfl : m = 2 := by omega
    have h0 := hj 0 (by omega)
    have h1 := hj 1 (by omega)
    unfold lexZ
    omega

theorem rdz_gz (h : RdG w l zs) {i : Nat} (hi : i < zs.length) : ∃ (a : Addr) (s : Slc), l.a = some a ∧ w.cell? (Addr.add a ((i : Int).toNat * 1)) = some (.slice s.a s.len s.cap) ∧ RdZ w s (gz zs i) := by
  obtain ⟨a, s, ha, hc, hz⟩ := h.at hi
  exact ⟨a, s, ha, hc, by rw [gz_at hi]; exact hz⟩

theorem mCheck (h : RdG w l zs) (hsz : zs.length ≤ 1000000) (nn : Int) : Calls Try.prog 101 #[.int .i64 nn, .slice l.a l.len l.cap] w (Rv fun v w' => w' = w ∧ ∃ e : Int, v = .int .i64 e ∧ WrR nn zs e) := by
  refine c101 _ _ _ _ ?_
  unfold B101
  have hl := h.len
  refine br_dec (fun g1 => ⟨rfl, _, rfl, .inl ⟨rfl, .inl g1⟩⟩) (fun g1 => br_dec (fun g2 => ⟨rfl, _, rfl, .inl ⟨rfl, .inr g2⟩⟩) (fun g2 => ?_))
  have hn : ¬ (nn < 1 ∨ 65536 < nn) := by omega
  refine ⟨fun i w' => w' = w ∧ ∃ m : Nat, i = m ∧ m ≤ zs.length ∧ ∀ j, j < m → okR nn zs j, fun i _ => (l.len - i).toNat, ⟨rfl, 0, rfl, by omega, fun j hj => by omega⟩, ?_⟩
  rintro i w1 ⟨hw, m, rfl, hm, hok⟩
  obtain rfl : w = w1 := hw.symm
  refine br_dec (fun hlt => ?_) (fun hlt => ⟨rfl, 0, rfl, .inr ⟨hn, .inl ⟨rfl, fun j hj => hok j (by omega)⟩⟩⟩)
  have hm' : m < zs.length := by omega
  obtain ⟨a, s, ha, hc, hz⟩ := rdz_gz h hm'
  have hsl := hz.len
  have bad : ∀ e, badR nn zs m e → WrR nn zs e := fun e he => .inr ⟨hn, .inr ⟨m, hm', hok, he⟩⟩
  refine ⟨by omega, hlt, a, ha, s, hc, br_not (br_dec (fun g3 => ?_) (fun g3 => ⟨rfl, 3, rfl, bad 3 (.inl ⟨rfl, by omega⟩)⟩))⟩
  have hl2 : (gz zs m).length = 2 := by omega
  refine ⟨fun i w' => w' = w ∧ ∃ k : Nat, i = k ∧ k ≤ 2 ∧ ∀ j, j < k → 0 ≤ wz (gz zs m) j ∧ wz (gz zs m) j < nn, fun i _ => (2 - i).toNat, ⟨rfl, 0, rfl, by omega, fun j hj => by omega⟩, ?_⟩
  rintro i w1 ⟨hw, k, rfl, hk, hin⟩
  obtain rfl : w = w1 := hw.symm
  have outk : ∀ j, j < 2 → (wz (gz zs m) j < 0 ∨ nn ≤ wz (gz zs m) j) → outR nn (gz zs m) := fun j hj hh => by
    have : j = 0 ∨ j = 1 := by omega
    unfold outR
    rcases this with rfl | rfl <;> omega
  refine br_dec (fun hlt2 => ?_) (fun hlt2 => ?_)
  · obtain ⟨a2, ha2, hc2⟩ := hz.at (i := (k : Int)) (by omega) hlt2
    rw [Int.toNat_natCast] at hc2
    refine ⟨by omega, hlt2, a2, ha2, _, by rw [Int.toNat_natCast]; exact hc2, br_dec (fun g4 => ⟨rfl, 8, rfl, bad 8 (.inr (.inl ⟨rfl, hl2, outk k (by omega) (.inl g4)⟩))⟩) (fun g4 => br_dec (fun g5 => ⟨rfl, 8, rfl, bad 8 (.inr (.inl ⟨rfl, hl2, outk k (by omega) (.inr g5)⟩))⟩) (fun g5 => ?_))⟩
    rw [w64 (x := (k : Int) + 1) ⟨by omega, by omega⟩]
    refine ⟨⟨rfl, k + 1, by omega, by omega, fun j hj => ?_⟩, by dsimp only; omega⟩
    by_cases e : j = k
    · subst e; omega
    · exact hin j (by omega)
  · obtain rfl : k = 2 := by omega
    have i0 := hin 0 (by omega)
    have i1 := hin 1 (by omega)
    have hno : ¬ outR nn (gz zs m) := by unfold outR; omega
    have stp : (0 < m → lexZ (gz zs (m - 1)) (gz zs m)) → (w = w ∧ ∃ k : Nat, IntKind.i64.wrap ((m : Int) + 1) = k ∧ k ≤ zs.length ∧ ∀ j, j < k → okR nn zs j) ∧ (l.len - IntKind.i64.wrap ((m : Int) + 1)).toNat < (l.len - (m : Int)).toNat := fun hh => by
      rw [w64 (x := (m : Int) + 1) ⟨by omega, by omega⟩]
      refine ⟨⟨rfl, m + 1, by omega, by omega, fun j hj => ?_⟩, by omega⟩
      by_cases e : j = m
      · subst e; exact ⟨hl2, hno, hh⟩
      · exact hok j (by omega)
    refine br_dec (fun g6 => ?_) (fun g6 => stp (fun hh => by omega))
    have e1 : IntKind.i64.wrap ((m : Int) - 1) = ((m - 1 : Nat) : Int) := by rw [w64 ⟨by omega, by omega⟩]; omega
    rw [e1]
    obtain ⟨a3, s3, ha3, hc3, hz3⟩ := rdz_gz h (show m - 1 < zs.length by omega)
    have hp2 := (hok (m - 1) (by omega)).1
    refine ⟨by omega, by omega, a3, ha3, s3, hc3, use (gCompare hz3 hz hp2 hl2) ?_⟩
    rintro _ _ ⟨rfl, c, rfl, hcc⟩
    refine ⟨_, rfl, br_dec (fun g7 => ⟨rfl, 9, rfl, bad 9 (.inr (.inr ⟨rfl, hl2, hno, by omega, hcc.1 g7⟩))⟩) (fun g7 => stp (fun _ => ?_))⟩
    by_cases hx : lexZ (gz zs (m - 1)) (gz zs m)
    · exact hx
    · exact absurd (hcc.2 hx) g7

theorem rWrong34 (h : RdG w l zs) (hsz : zs.length ≤ 1000000) (nn : Int) : Calls Try.prog 59 #[.int .i64 nn, .slice l.a l.len l.cap] w (Rv fun v w' => Kp no w w' ∧ ∃ e : Int, v = .int .i64 e ∧ WrR nn zs e) := by
  refine c59 _ _ _ _ ?_
  unfold B59
  have hl := h.len
  refine br_dec (fun g1 => ⟨Kp.refl _ _, _, rfl, .inl ⟨rfl, .inl g1⟩⟩) (fun g1 => br_dec (fun g2 => ⟨Kp.refl _ _, _, rfl, .inl ⟨rfl, .inr g2⟩⟩) (fun g2 => ?_))
  have hn : ¬ (nn < 1 ∨ 65536 < nn) := by omega
  refine ⟨fun i w' => Kp no w w' ∧ ∃ m : Nat, i = m ∧ m ≤ zs.length ∧ ∀ j, j < m → okR nn zs j, fun i _ => (l.len - i).toNat, ⟨Kp.refl _ _, 0, rfl, by omega, fun j hj => by omega⟩, ?_⟩
  rintro i w1 ⟨k1, m, rfl, hm, hok⟩
  refine br_dec (fun hlt => ?_) (fun hlt => ⟨k1, 0, rfl, .inr ⟨hn, .inl ⟨rfl, fun j hj => hok j (by omega)⟩⟩⟩)
  have hm' : m < zs.length := by omega
  obtain ⟨a, s, ha, hc, hz⟩ := rdz_gz (h.kpo k1) hm'
  have hsl := hz.len
  have h00 : (0 : Int) ≤ (m : Int) := by omega
  have bad : ∀ e, badR nn zs m e → WrR nn zs e := fun e he => .inr ⟨hn, .inr ⟨m, hm', hok, he⟩⟩
  refine ⟨h00, hlt, a, ha, s, hc, br_not (br_dec (fun g3 => ?_) (fun g3 => ⟨k1, 3, rfl, bad 3 (.inl ⟨rfl, by omega⟩)⟩))⟩
  have hl2 : (gz zs m).length = 2 := by omega
  refine ⟨fun i w' => w' = w1 ∧ ∃ k : Nat, i = k ∧ k ≤ 2 ∧ ∀ j, j < k → 0 ≤ wz (gz zs m) j ∧ wz (gz zs m) j < nn, fun i _ => (2 - i).toNat, ⟨rfl, 0, rfl, by omega, fun j hj => by omega⟩, ?_⟩
  rintro i w2 ⟨hw, k, rfl, hk, hin⟩
  obtain rfl : w1 = w2 := hw.symm
  have outk : ∀ j, j < 2 → (wz (gz zs m) j < 0 ∨ nn ≤ wz (gz zs m) j) → outR nn (gz zs m) := fun j hj hh => by
    have : j = 0 ∨ j = 1 := by omega
    unfold outR
    rcases this with rfl | rfl <;> omega
  refine br_dec (fun hlt2 => ?_) (fun hlt2 => ?_)
  · obtain ⟨a2, ha2, hc2⟩ := hz.at (i := (k : Int)) (by omega) (by omega)
    rw [Int.toNat_natCast] at hc2
    have hks : (k : Int) < (s.len : Int) := by omega
    refine ⟨h00, hlt, a, ha, s, hc, by omega, hks, a2, ha2, _, by rw [Int.toNat_natCast]; exact hc2, br_dec (fun g4 => ⟨k1, 8, rfl, bad 8 (.inr (.inl ⟨rfl, hl2, outk k (by omega) (.inl g4)⟩))⟩) (fun g4 => ⟨h00, hlt, a, ha, s, hc, by omega, hks, a2, ha2, _, by rw [Int.toNat_natCast]; exact hc2, br_dec (fun g5 => ⟨k1, 8, rfl, bad 8 (.inr (.inl ⟨rfl, hl2, outk k (by omega) (.inr g5)⟩))⟩) (fun g5 => ?_)⟩)⟩
    rw [w64 (x := (k : Int) + 1) ⟨by omega, by omega⟩]
    refine ⟨⟨rfl, k + 1, by omega, by omega, fun j hj => ?_⟩, by dsimp only; omega⟩
    by_cases e : j = k
    · subst e; omega
    · exact hin j (by omega)
  · obtain rfl : k = 2 := by omega
    have i0 := hin 0 (by omega)
    have i1 := hin 1 (by omega)
    have hno : ¬ outR nn (gz zs m) := by unfold outR; omega
    have stp : ∀ W, Kp no w W → (0 < m → lexZ (gz zs (m - 1)) (gz zs m)) → (Kp no w W ∧ ∃ k : Nat, IntKind.i64.wrap ((m : Int) + 1) = k ∧ k ≤ zs.length ∧ ∀ j, j < k → okR nn zs j) ∧ (l.len - IntKind.i64.wrap ((m : Int) + 1)).toNat < (l.len - (m : Int)).toNat := fun W kW hh => by
      rw [w64 (x := (m : Int) + 1) ⟨by omega, by omega⟩]
      refine ⟨⟨kW, m + 1, by omega, by omega, fun j hj => ?_⟩, by omega⟩
      by_cases e : j = m
      · subst e; exact ⟨hl2, hno, hh⟩
      · exact hok j (by omega)
    refine br_dec (fun g6 => ?_) (fun g6 => stp _ k1.drew (fun hh => by omega))
    have e1 : IntKind.i64.wrap ((m : Int) - 1) = ((m - 1 : Nat) : Int) := by rw [w64 ⟨by omega, by omega⟩]; omega
    rw [e1]
    obtain ⟨a3, s3, ha3, hc3, hz3⟩ := rdz_gz (h.kpo k1.drew) (show m - 1 < zs.length by omega)
    have kd : Kp no w1 (World.drew w1) := (Kp.refl no w1).drew
    have hp2 := (hok (m - 1) (by omega)).1
    refine ⟨by omega, by omega, a3, ha3, s3, hc3, h00, hlt, a, ha, s, kp_cell hc kd, use (rCompare18 hz3 (hz.kpo kd) hp2 hl2) ?_⟩
    rintro _ w3 ⟨k3, c, rfl, hcc⟩
    have k13 := k1.drew.t k3
    refine ⟨_, rfl, br_dec (fun g7 => ⟨k13, 9, rfl, bad 9 (.inr (.inr ⟨rfl, hl2, hno, by omega, hcc.1 g7⟩))⟩) (fun g7 => stp _ k13 (fun _ => ?_))⟩
    by_cases hx : lexZ (gz zs (m - 1)) (gz zs m)
    · exact hx
    · exact absurd (hcc.2 hx) g7
end Go.Proofs.Ytmpgklgjmkcpdaa.V
