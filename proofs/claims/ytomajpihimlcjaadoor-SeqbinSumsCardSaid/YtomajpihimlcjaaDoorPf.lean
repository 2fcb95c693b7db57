/- Numbers by their sums: made and asked. -/
import Derived.Test.YtomajpihimlcjaaDoorEo
import Derived.Test.YtomajpihimlcjaaDoorPx
import Derived.Test.YtomajpihimlcjaaDoorBX
namespace Go.VC
open Go
/-- 'make' with some room. -/
theorem make_own2 {P : Program} {t e : TypeId} {z : Value} {bytes : Nat} (ht : P.underlying t = some (.slice e)) (hz : (P.info? e).bind (·.zero) = some z) (hs : (P.info? e).map (fun i => (i.size, i.bytes)) = some (1, bytes)) (hzc : z.cells = #[z])
    (w : World) (m n : Nat) (hmn : m ≤ n) (hn : bytes * n ≤ 281474976710656) (h63 : n ≤ 9223372036854775807) :
    ∃ w' l, (Instr.makeSlice t (.int .i64 (m : Int)) (.int .i64 (n : Int))).run P w = .ok (.slice l.a l.len l.cap) w' ∧ l.len = m ∧ Ownd w' l e 1 (List.replicate m z) ∧ Kp no w w' ∧ ∀ k, On l k → k = w.heap.size := by
  cases hi : P.info? e with
  | none => rw [hi] at hs; cases hs
  | some i =>
    rw [hi] at hz hs
    simp only [Option.bind_some, Option.map_some, Option.some.injEq, Prod.mk.injEq] at hz hs
    have hr := run_make (P := P) w t e i z ht hi hz .i64 .i64 (m : Int) (n : Int) (by omega) (by omega) (by rw [hs.2]; omega) (by omega)
    simp only [Int.toNat_natCast, hs.1, Nat.mul_one, hzc] at hr
    have hm : (madeCells #[z] n).toList = List.replicate n z := by
      apply List.ext_getElem
      · simp [madeCells]
      · intro k h1 h2
        simp [madeCells]
        have : k % 1 = 0 := Nat.mod_one k
        simp [this]
    refine ⟨_, ⟨some ⟨w.heap.size, 0, none⟩, m, n⟩, hr, rfl, Ownd.mk' (cur := (madeCells #[z] n).toList) rfl ?_ hmn (by simpa [maxLen] using h63) ?_ ?_, (Kp.refl _ _).alloc _ _, fun k hk => ?_⟩
    · unfold Blk
      rw [Array.toArray_toList]
      exact heap_alloc_new w _
    · rw [hm]; simp
    · rw [hm]; simp [List.take_replicate, Nat.min_eq_left hmn]
    · obtain ⟨b, hb, rfl⟩ := hk; cases hb; rfl
theorem brSm {o : Option Addr} {a : Addr} {x y : Prop} (h : o = some a) (k : y) : br o.isNone x y := by subst h; exact k
theorem zl_inj {a b : List Nat} (h : zl a = zl b) : a = b := by
  have := congrArg (List.map Int.toNat) h
  unfold zl at this
  rw [List.map_map, List.map_map] at this
  have e : (Int.toNat ∘ fun x : Nat => (x : Int)) = id := by funext x; simp
  rwa [e, List.map_id, List.map_id] at this
theorem zl_sum (l : List Nat) : (zl l).sum = ((l.sum : Nat) : Int) := by
  induction l with
  | nil => rfl
  | cons x l ih => unfold zl at *; simp only [List.map_cons, List.sum_cons]; omega
theorem zl_take (l : List Nat) (j : Nat) : ((zl l).take j).sum = ((S0 l j : Nat) : Int) := by
  unfold S0; rw [← zl_sum]; unfold zl; rw [List.map_take]
/-- The sums, of numbers of any kind. -/
def sumsZ (zs : List Int) (m : Nat) : List Int := (List.range (m + 1)).map fun j => (zs.take j).sum
theorem sumsZ_succ (zs : List Int) (m : Nat) : sumsZ zs (m + 1) = sumsZ zs m ++ [(zs.take (m + 1)).sum] := by
  unfold sumsZ; rw [List.range_succ, List.map_append]; rfl
theorem sumsZ_zl (l : List Nat) : sumsZ (zl l) l.length = zl (sumsOf l) := by
  unfold sumsZ sumsOf
  show _ = List.map (fun x : Nat => (x : Int)) ((List.range (l.length + 1)).map (S0 l))
  rw [List.map_map]
  exact List.map_congr_left fun j _ => zl_take l j
theorem goodS_end {zs : List Int} (h : ∀ i, i < zs.length → 0 ≤ wz zs i) (hs : (zs.take zs.length).sum ≤ 1099511627776) : GoodS zs := by
  refine ⟨fun z hz => ?_, by rwa [List.take_length] at hs⟩
  obtain ⟨i, hi, rfl⟩ := List.getElem_of_mem hz
  have := h i hi
  unfold wz at this
  rwa [List.getElem?_eq_getElem hi] at this
theorem S0_le {l : List Nat} {m : Nat} : S0 l m ≤ l.sum := by
  by_cases g : m ≤ l.length
  · have := S0_mono (l := l) g; rwa [S0_all] at this
  · rw [S0_out (by omega)]; exact Nat.le_refl _
/-- A part of the first ones together. -/
def sumTo (l : List Nat) (lo hi : Int) (m : Nat) : Nat := S0 l (min hi m).toNat - S0 l (min (max lo 0) (min hi m)).toNat
theorem sumTo_le (l : List Nat) (lo hi : Int) (m : Nat) : sumTo l lo hi m ≤ l.sum := by
  unfold sumTo; have := S0_le (l := l) (m := (min hi m).toNat); omega
theorem sumTo_succ {l : List Nat} {lo hi : Int} {m : Nat} (hm : m < l.length) : sumTo l lo hi (m + 1) = sumTo l lo hi m + (if lo ≤ m ∧ (m : Int) < hi then wg l m else 0) := by
  unfold sumTo
  by_cases h1 : (m : Int) < hi
  · by_cases h2 : lo ≤ m
    · rw [if_pos ⟨h2, h1⟩]
      have e1 : (min hi ((m + 1 : Nat) : Int)).toNat = m + 1 := by omega
      have e2 : (min hi (m : Int)).toNat = m := by omega
      have e3 : (min (max lo 0) (min hi ((m + 1 : Nat) : Int))).toNat = (min (max lo 0) (min hi (m : Int))).toNat := by omega
      rw [e1, e2, e3, S0_succ hm]
      have := S0_mono (l := l) (show (min (max lo 0) (min hi (m : Int))).toNat ≤ m by omega)
      omega
    · rw [if_neg (by omega)]
      have e1 : (min (max lo 0) (min hi ((m + 1 : Nat) : Int))).toNat = (min hi ((m + 1 : Nat) : Int)).toNat := by omega
      have e2 : (min (max lo 0) (min hi (m : Int))).toNat = (min hi (m : Int)).toNat := by omega
      rw [e1, e2]; omega
  · rw [if_neg (by omega)]
    have e1 : min hi ((m + 1 : Nat) : Int) = min hi (m : Int) := by omega
    rw [e1]; rfl
theorem sumTo_end (l : List Nat) (lo hi : Int) : sumTo l lo hi l.length = sumR l lo hi := rfl
end Go.VC

namespace Go.Proofs.YtomajpihimlcjaaDoor.V
open Go Go.VC
variable {w w' w0 : World} {l : Slc} {ls xs : List Nat} {zs : List Int} {s p B n : Nat}

/-- A sequence by its sums, its blocks from B on. -/
def PreB (w : World) (p : Nat) (ls : List Nat) (B : Nat) : Prop := ∃ s, Blk w p [.pointer (some ⟨s, 0, none⟩)] 127 ∧ SeqB w s (sumsOf ls) B ∧ ls.sum ≤ 1099511627776 ∧ B ≤ p
theorem PreB.kp {S : Nat → Prop} (h : PreB w p ls B) (g : Kp S w w') (hn : ∀ k, B ≤ k → ¬ S k) : PreB w' p ls B := by
  obtain ⟨s, h1, h2, h3, h4⟩ := h
  exact ⟨s, h1.kp g (hn _ h4), h2.kp g hn, h3, h4⟩
theorem PreB.kpo (h : PreB w p ls B) (g : Kp no w w') : PreB w' p ls B := h.kp g (fun _ _ f => f)

theorem ownZ {o : Slc} {e : TypeId} {ys : List Int} (h : Ownd w o e 1 (ys.map (Value.int .i64))) (hb : ∀ z ∈ ys, -9223372036854775808 ≤ z ∧ z ≤ 9223372036854775807) : RdZ w o ys := ⟨by have := h.len; simpa using this, h.rd, hb⟩
theorem sumsOf_bnd (h : ls.sum ≤ 1099511627776) : ∀ z ∈ zl (sumsOf ls), -9223372036854775808 ≤ z ∧ z ≤ 9223372036854775807 := fun z hz => by
  obtain ⟨x, hx, rfl⟩ := List.mem_map.1 hz
  have := (sumsOf_good h).2 x hx
  omega
theorem undI : Tryd.prog.underlying 37 = some (.slice 3) := by kernel_rfl

theorem xRunning (h : RdZ w l zs) (hsz : zs.length ≤ 10000000) : Calls Tryd.prog 105 #[.slice l.a l.len l.cap, .int .i64 1099511627776] w (Rv fun v w' => Kp no w w' ∧
    ((v = .slice none 0 0 ∧ ¬ GoodS zs) ∨ ∃ (o : Slc) (ls : List Nat), v = .slice o.a o.len o.cap ∧ (∃ a, o.a = some a) ∧ zs = zl ls ∧ ls.sum ≤ 1099511627776 ∧ RdZ w' o (zl (sumsOf ls)))) := by
  refine c105 _ _ _ _ ?_
  unfold B105
  have hl := h.len
  rw [w64 (x := (l.len : Int) + 1) ⟨by omega, by omega⟩]
  obtain ⟨w1, o, hr, ho, hO, k1, f1⟩ := make_own2 (z := .int .i64 0) (bytes := 8) undI (by kernel_rfl) (by kernel_rfl) rfl w 1 (l.len + 1) (by omega) (by omega) (by omega)
  refine ⟨w1, o, hr, fun o x i w' => ∃ m : Nat, i = m ∧ m ≤ zs.length ∧ (∀ j, j < m → 0 ≤ wz zs j) ∧ x = (zs.take m).sum ∧ 0 ≤ x ∧ x ≤ 1099511627776 ∧ Ownd w' o 3 1 ((sumsZ zs m).map (Value.int .i64)) ∧ o.len = m + 1 ∧ Kp no w w' ∧ ∀ k, On o k → w.heap.size ≤ k,
    fun _ _ i _ => (l.len - i).toNat, ⟨0, rfl, by omega, fun j hj => by omega, rfl, by omega, by omega, hO, ho, k1, fun k hk => by have := f1 k hk; omega⟩, ?_⟩
  rintro o x i w2 ⟨m, rfl, hm, hok, hx, hx0, hx1, hO2, hol, k2, f2⟩
  refine br_dec (fun hlt => ?_) (fun hlt => ⟨k2, .inr ?_⟩)
  · obtain ⟨a, ha, hc⟩ := (h.kpo k2).at (i := (m : Int)) (by omega) hlt
    rw [Int.toNat_natCast] at hc
    have hb := wz_bounds h m
    refine ⟨by omega, hlt, a, ha, _, by rw [Int.toNat_natCast]; exact hc, br_dec (fun h1 => ⟨k2, .inl ⟨rfl, not_goodS (by omega) hok (.inl h1)⟩⟩) (fun h1 => ?_)⟩
    rw [w64 (x := 1099511627776 - x) ⟨by omega, by omega⟩]
    refine br_dec (fun h2 => ⟨k2, .inl ⟨rfl, not_goodS (by omega) hok (.inr (by omega))⟩⟩) (fun h2 => ?_)
    rw [w64 (x := x + wz zs m) ⟨by omega, by omega⟩, w64 (x := (m : Int) + 1) ⟨by omega, by omega⟩]
    obtain ⟨w3, o3, hr3, hO3, hl3, k3, f3⟩ := append_one (ty := 37) elI hO2 (.int .i64 (x + wz zs m)) rfl (by simp only [maxLen]; omega) (by omega)
    have e : (zs.take (m + 1)).sum = x + wz zs m := by rw [takeZ_succ (by omega), List.sum_append, hx]; simp
    refine ⟨w3, o3, hr3, ⟨m + 1, by omega, by omega, fun j hj => ?_, e.symm, by omega, by omega, ?_, by omega, k2.trans k3 (fun k g1 g2 => by have := f2 k g2; omega), fun k hk => ?_⟩, by dsimp only; omega⟩
    · by_cases e2 : j = m
      · subst e2; omega
      · exact hok j (by omega)
    · rw [sumsZ_succ, e, List.map_append]; exact hO3
    · have := k2.size
      rcases f3 k hk with g | g
      · exact f2 k g
      · omega
  · obtain rfl : m = zs.length := by omega
    have hg := goodS_end hok (by rw [← hx]; exact hx1)
    obtain ⟨ls, rfl, hs⟩ := goodS_of hg
    rw [zl_len, sumsZ_zl] at hO2
    have hz := ownZ hO2 (sumsOf_bnd hs)
    obtain ⟨a, ha, _⟩ := hz.at (i := 0) (by omega) (by omega)
    exact ⟨o, ls, rfl, ⟨a, ha⟩, rfl, hs, hz⟩

theorem xNew (h : RdZ w l zs) (hsz : zs.length ≤ 10000000) : Calls Tryd.prog 34 #[.slice l.a l.len l.cap] w (Rv fun v w' => Kp no w w' ∧
    ((v = .tuple #[.pointer none, .int .i64 8] ∧ ¬ GoodS zs) ∨ ∃ p ls, v = .tuple #[.pointer (some ⟨p, 0, none⟩), .int .i64 0] ∧ zs = zl ls ∧ ls.sum ≤ 1099511627776 ∧ PreB w' p ls w.heap.size)) := by
  refine c34 _ _ _ ?_
  unfold B34
  refine use (xRunning h hsz) ?_
  rintro _ w1 ⟨k1, ⟨rfl, hn⟩ | ⟨o, ls, rfl, ⟨a, ha⟩, rfl, hs, ho⟩⟩
  · exact ⟨⟨none, 0, 0⟩, rfl, brN ⟨k1, .inl ⟨rfl, hn⟩⟩⟩
  · rw [zl_len] at hsz
    refine ⟨o, rfl, brSm ha (use (eNew0 ho (by rw [zl_len, sumsOf_len]; omega) (.inl ⟨rfl, okE_of (sumsOf_good hs)⟩)) ?_)⟩
    rintro _ w2 ⟨k2, s, ls', rfl, hz, hS⟩
    obtain rfl := zl_inj hz
    have hb := Blk.new w2 [.pointer (some ⟨s, 0, none⟩)] 127
    have k3 : Kp no w2 (w2.alloc (.cells #[.pointer (some ⟨s, 0, none⟩)] 127)) := (Kp.refl _ _).alloc _ _
    have := k1.size
    have := k2.size
    refine ⟨_, _, rfl, br_not (br_y rfl ⟨(k1.t k2).t k3, .inr ⟨_, ls, rfl, rfl, hs, s, hb, ?_, hs, by omega⟩⟩)⟩
    obtain ⟨lo, hi, rk, pl, g1, g2, ⟨lr, g3, g3'⟩, g4, g5, g6, g7⟩ := hS.kpo k3
    have hB : w.heap.size ≤ w1.heap.size := by omega
    exact ⟨lo, hi, rk, pl, g1, g2.low hB, ⟨lr, g3, fun k hk => Nat.le_trans hB (g3' k hk)⟩, g4.low hB, g5.low hB, g6, by omega⟩

theorem xLen (h : PreB w p ls B) (hsz : ls.length ≤ 10000000) : Is 71 #[.pointer (some ⟨p, 0, none⟩)] w (.int .i64 ls.length) := by
  obtain ⟨s, hb, hS, hs, _⟩ := h
  refine c71 _ _ _ ?_
  unfold B71
  refine ⟨_, hb.cell 0, usei (eLen hS) ⟨_, rfl, ?_, rfl⟩⟩
  rw [sumsOf_len, w64 ⟨by omega, by omega⟩]
  congr 1
  omega
theorem xTotal (h : PreB w p ls B) : Is 72 #[.pointer (some ⟨p, 0, none⟩)] w (.int .i64 ls.sum) := by
  obtain ⟨s, hb, hS, hs, _⟩ := h
  refine c72 _ _ _ ?_
  unfold B72
  refine ⟨_, hb.cell 0, usei (eLast hS) ⟨_, rfl, ?_, rfl⟩⟩
  rw [lastZ_pos (by rw [sumsOf_len]; omega), sumsOf_len, Nat.add_sub_cancel, sumsOf_at (Nat.le_refl _), S0_all]
  congr 1
  omega
theorem atZ_sums {i : Nat} (hi : i ≤ ls.length) : atZ (zl (sumsOf ls)) (i : Int) = (S0 ls i : Int) := by
  rw [atZ_in (by rw [sumsOf_len]; omega), sumsOf_at hi]
theorem xAt (h : PreB w p ls B) (hsz : ls.length ≤ 10000000) (i : Int) : IsK 73 #[.pointer (some ⟨p, 0, none⟩), .int .i64 i] w (.int .i64 (atZ (zl ls) i)) := by
  have h0 := h
  obtain ⟨s, hb, hS, hs, _⟩ := h
  refine c73 _ _ _ _ ?_
  unfold B73
  refine br_dec (fun h1 => ⟨?_, Kp.refl _ _⟩) (fun h1 => usei (xLen h0 hsz) ⟨_, rfl, br_dec (fun h2 => ⟨?_, Kp.refl _ _⟩) (fun h2 => ?_)⟩)
  · rw [atZ_out (by omega)]
  · rw [atZ_out (by rw [zl_len]; omega)]
  · obtain ⟨m, rfl⟩ : ∃ m : Nat, i = m := ⟨i.toNat, by omega⟩
    have k0 : Kp no w w.drew := (Kp.refl no w).drew
    rw [w64 (x := (m : Int) + 1) ⟨by omega, by omega⟩, show (m : Int) + 1 = ((m + 1 : Nat) : Int) by omega]
    refine ⟨_, hb.drew.cell 0, _, hb.drew.cell 0, usek (eAt (hS.kpo k0) (by rw [sumsOf_len]; omega) _) fun w1 k1 => ⟨_, rfl, (hb.drew.kp k1 id).cell 0, usek (eAt (hS.kpo (k0.t k1)) (by rw [sumsOf_len]; omega) _) fun w2 k2 => ⟨_, rfl, ?_, k0.t (k1.t k2)⟩⟩⟩
    rw [atZ_sums (by omega), atZ_sums (by omega), S0_succ (by omega), atZ_in (by omega)]
    have h3 : S0 ls (m + 1) ≤ ls.sum := S0_le
    rw [S0_succ (by omega)] at h3
    rw [w64 ⟨by omega, by omega⟩]
    congr 1
    omega
theorem xSum (h : PreB w p ls B) (hsz : ls.length ≤ 10000000) (lo hi : Int) : IsK 103 #[.pointer (some ⟨p, 0, none⟩), .int .i64 lo, .int .i64 hi] w (.int .i64 (sumR ls lo hi)) := by
  have h0 := h
  obtain ⟨s, hb, hS, hs, _⟩ := h
  refine c103 _ _ _ _ _ ?_
  unfold B103
  refine usei (xLen h0 hsz) ⟨_, rfl, br_dec (fun h2 => ⟨?_, Kp.refl _ _⟩) (fun h2 => ?_)⟩
  · unfold sumR
    rw [show min (max lo 0) (min hi (ls.length : Int)) = min hi (ls.length : Int) by omega, Nat.sub_self]; rfl
  · have k0 : Kp no w w.drew := (Kp.refl no w).drew
    obtain ⟨a, ha⟩ : ∃ a : Nat, min hi (ls.length : Int) = a := ⟨(min hi (ls.length : Int)).toNat, by omega⟩
    obtain ⟨b, hb'⟩ : ∃ b : Nat, max lo 0 = b := ⟨(max lo 0).toNat, by omega⟩
    unfold sumR
    rw [ha, hb']
    refine ⟨_, hb.drew.cell 0, _, hb.drew.cell 0, usek (eAt (hS.kpo k0) (by rw [sumsOf_len]; omega) _) fun w1 k1 => ⟨_, rfl, (hb.drew.kp k1 id).cell 0, usek (eAt (hS.kpo (k0.t k1)) (by rw [sumsOf_len]; omega) _) fun w2 k2 => ⟨_, rfl, ?_, k0.t (k1.t k2)⟩⟩⟩
    rw [atZ_sums (by omega), atZ_sums (by omega), show min (b : Int) (a : Int) = b by omega, Int.toNat_natCast, Int.toNat_natCast]
    have h3 : S0 ls a ≤ ls.sum := S0_le
    have h4 := S0_mono (l := ls) (show b ≤ a by omega)
    rw [w64 ⟨by omega, by omega⟩]
    congr 1
    omega
theorem xWhere (h : PreB w p ls B) (hsz : ls.length ≤ 10000000) (t : Int) : Calls Tryd.prog 104 #[.pointer (some ⟨p, 0, none⟩), .int .i64 t] w (Rv fun v w' => Kp no w w' ∧ ∃ r : Int, v = .int .i64 r ∧ WhereP ls t r) := by
  have h0 := h
  obtain ⟨s, hb, hS, hs, _⟩ := h
  refine c104 _ _ _ _ ?_
  unfold B104
  refine br_dec (fun h1 => ⟨Kp.refl _ _, _, rfl, .inl ⟨rfl, .inl h1⟩⟩) (fun h1 => usei (xTotal h0) ⟨_, rfl, br_dec (fun h2 => ⟨Kp.refl _ _, _, rfl, .inl ⟨rfl, .inr h2⟩⟩) (fun h2 => ?_)⟩)
  refine ⟨_, hb.cell 0, use (eAhead hS (by rw [sumsOf_len]; omega) t) ?_⟩
  rintro _ w1 ⟨k1, r, rfl, hr⟩
  exact ⟨_, _, rfl, k1, _, rfl, where_of (by omega) (by omega) hr⟩
theorem xLenN (w : World) : Is 71 #[.pointer none] w (.int .i64 0) := c71n _ _ ⟨rfl, rfl⟩
theorem xTotalN (w : World) : Is 72 #[.pointer none] w (.int .i64 0) := c72n _ _ ⟨rfl, rfl⟩
theorem xAtN (w : World) (i : Int) : Is 73 #[.pointer none, .int .i64 i] w (.int .i64 (-1)) := c73n _ _ _ (by
  unfold B73n
  exact br_dec (fun _ => ⟨rfl, rfl⟩) (fun h => usei (xLenN w) ⟨_, rfl, br_y (by omega) ⟨rfl, rfl⟩⟩))
theorem xSumN (w : World) (lo hi : Int) : Is 103 #[.pointer none, .int .i64 lo, .int .i64 hi] w (.int .i64 0) := c103n _ _ _ _ (by
  unfold B103n
  exact usei (xLenN w) ⟨_, rfl, br_y (by omega) ⟨rfl, rfl⟩⟩)
theorem xWhereN (w : World) (t : Int) : Is 104 #[.pointer none, .int .i64 t] w (.int .i64 (-1)) := c104n _ _ _ (by
  unfold B104n
  exact br_dec (fun _ => ⟨rfl, rfl⟩) (fun h => usei (xTotalN w) ⟨_, rfl, br_y (by omega) ⟨rfl, rfl⟩⟩))
end Go.Proofs.YtomajpihimlcjaaDoor.V
