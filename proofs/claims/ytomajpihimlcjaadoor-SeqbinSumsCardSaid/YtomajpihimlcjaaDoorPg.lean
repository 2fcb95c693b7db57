/- Numbers by their sums: what is told of them beside the program, and the laws. -/
import Derived.Test.YtomajpihimlcjaaDoorPf
namespace Go.Proofs.YtomajpihimlcjaaDoor.V
open Go Go.VC
variable {w w' w0 : World} {l : Slc} {ls xs : List Nat} {zs : List Int} {s p B n : Nat}

theorem rSums9 (h : RdZ w l zs) (hsz : zs.length ≤ 10000000) : Calls Tryd.prog 33 #[.slice l.a l.len l.cap] w (Rv fun v w' => Kp no w w' ∧
    ((v = .tuple #[.slice none 0 0, .bool false] ∧ ¬ GoodS zs) ∨ ∃ (o : Slc) (ls : List Nat), v = .tuple #[.slice o.a o.len o.cap, .bool true] ∧ zs = zl ls ∧ ls.sum ≤ 1099511627776 ∧ RdZ w' o (zl (sumsOf ls)))) := by
  refine c33 _ _ _ ?_
  unfold B33
  have hl := h.len
  have hO : Ownd (w.alloc (.cells #[.int .i64 0] 3)) ⟨some ⟨w.heap.size, 0, none⟩, 1, 1⟩ 3 1 ((sumsZ zs 0).map (Value.int .i64)) :=
    Ownd.mk' (cur := [.int .i64 0]) rfl (Blk.new w [.int .i64 0] 3) (Nat.le_refl _) (by simp [maxLen]) rfl rfl
  have k1 : Kp no w (w.alloc (.cells #[.int .i64 0] 3)) := (Kp.refl _ _).alloc _ _
  refine ⟨fun o x i w' => ∃ m : Nat, i = m ∧ m ≤ zs.length ∧ (∀ j, j < m → 0 ≤ wz zs j) ∧ x = (zs.take m).sum ∧ 0 ≤ x ∧ x ≤ 1099511627776 ∧ Ownd w' o 3 1 ((sumsZ zs m).map (Value.int .i64)) ∧ o.len = m + 1 ∧ Kp no w w' ∧ ∀ k, On o k → w.heap.size ≤ k,
    fun _ _ i _ => (l.len - i).toNat, ⟨0, rfl, by omega, fun j hj => by omega, rfl, by omega, by omega, hO, rfl, k1, fun k hk => by obtain ⟨b, hb, rfl⟩ := hk; cases hb; exact Nat.le_refl _⟩, ?_⟩
  rintro o x i w2 ⟨m, rfl, hm, hok, hx, hx0, hx1, hO2, hol, k2, f2⟩
  refine br_dec (fun hlt => ?_) (fun hlt => ⟨k2, .inr ?_⟩)
  · obtain ⟨a, ha, hc⟩ := (h.kpo k2).at (i := (m : Int)) (by omega) hlt
    have hb := wz_bounds h m
    have h00 : (0 : Int) ≤ (m : Int) := by omega
    rw [Int.toNat_natCast] at hc ⊢
    refine ⟨h00, hlt, a, ha, _, hc, br_dec (fun h1 => ⟨k2, .inl ⟨rfl, not_goodS (by omega) hok (.inl h1)⟩⟩) (fun h1 => ⟨h00, hlt, a, ha, _, hc, ?_⟩)⟩
    rw [w64 (x := 1099511627776 - x) ⟨by omega, by omega⟩]
    refine br_dec (fun h2 => ⟨k2, .inl ⟨rfl, not_goodS (by omega) hok (.inr (by omega))⟩⟩) (fun h2 => ⟨h00, hlt, a, ha, _, hc, ?_⟩)
    rw [w64 (x := x + wz zs m) ⟨by omega, by omega⟩, w64 (x := (m : Int) + 1) ⟨by omega, by omega⟩]
    obtain ⟨w3, o3, hr3, hO3, hl3, k3, f3⟩ := append_one (ty := 37) elI hO2 (.int .i64 (x + wz zs m)) rfl (by simp only [maxLen]; omega) (by omega)
    have e : (zs.take (m + 1)).sum = x + wz zs m := by rw [takeZ_succ (by omega), List.sum_append, hx]; simp
    refine ⟨w3, o3, hr3, ⟨m + 1, by omega, by omega, fun j hj => ?_, e.symm, by omega, by omega, ?_, by omega, k2.trans k3 (fun k g1 g2 => by have := f2 k g2; omega), fun k hk => ?_⟩, by dsimp only; omega⟩
    · by_cases e2 : j = m
      · subst e2; omega
      · exact hok j (by omega)
    · rw [sumsZ_succ, e, List.map_append]; exact hO3
    · have := k2.size
      rcases f3 k hk with g | g
      · exact f2 k g
      · omega
  · obtain rfl : m = zs.length := by omega
    have hg := goodS_end hok (by rw [← hx]; exact hx1)
    obtain ⟨ls, rfl, hs⟩ := goodS_of hg
    rw [zl_len, sumsZ_zl] at hO2
    exact ⟨o, ls, rfl, rfl, hs, ownZ hO2 (sumsOf_bnd hs)⟩

theorem xNew0 (h : RdZ w l (zl ls)) (hsz : ls.length ≤ 10000000) (hs : ls.sum ≤ 1099511627776) : Calls Tryd.prog 34 #[.slice l.a l.len l.cap] w (Rv fun v w' => Kp no w w' ∧
    ∃ p, v = .tuple #[.pointer (some ⟨p, 0, none⟩), .int .i64 0] ∧ PreB w' p ls w.heap.size) := by
  refine use (xNew h (by rw [zl_len]; exact hsz)) ?_
  rintro _ w1 ⟨k1, ⟨_, g⟩ | ⟨p, ls', rfl, hz, _, g⟩⟩
  · exact absurd (goodS_zl hs) g
  · obtain rfl := zl_inj hz
    exact ⟨k1, p, rfl, g⟩

theorem live9 (w : World) : IsK 32 #[] w (.bool true) := by
  refine c32 _ _ ?_
  unfold B32
  have kA : Kp no w (w.alloc (.cells #[.int .i64 2, .int .i64 0, .int .i64 3] 3)) := (Kp.refl _ _).alloc _ _
  have rA : RdZ (w.alloc (.cells #[.int .i64 2, .int .i64 0, .int .i64 3] 3)) ⟨some ⟨w.heap.size, 0, none⟩, 3, 3⟩ (zl [2, 0, 3]) := rdZ_lit w [2, 0, 3] (by simp) 3
  generalize w.alloc (.cells #[.int .i64 2, .int .i64 0, .int .i64 3] 3) = w1 at *
  have h1 := xNew0 rA (by simp) (by simp)
  refine use h1 ?_
  rintro _ w2 ⟨k2, p, rfl, hp⟩
  refine ⟨_, _, rfl, usei (xTotal hp) ⟨_, rfl, br_y rfl (usek (xSum hp (by simp) 1 3) fun w3 k3 => ⟨_, rfl, br_y (by decide) (use (xWhere (hp.kpo k3) (by simp) 1) ?_)⟩)⟩⟩
  rintro _ w4 ⟨k4, r, rfl, hr⟩
  obtain rfl := hr.one (.inr ⟨0, rfl, by decide, by decide, by decide⟩ : WhereP _ 1 0)
  refine ⟨_, rfl, br_y rfl (use (xWhere (hp.kpo (k3.t k4)) (by simp) 2) ?_)⟩
  rintro _ w5 ⟨k5, r, rfl, hr⟩
  obtain rfl := hr.one (.inr ⟨2, rfl, by decide, by decide, by decide⟩ : WhereP _ 2 2)
  refine ⟨_, rfl, br_y rfl (use (xWhere (hp.kpo ((k3.t k4).t k5)) (by simp) 5) ?_)⟩
  rintro _ w6 ⟨k6, r, rfl, hr⟩
  obtain rfl := hr.one (.inl ⟨rfl, .inr (by decide)⟩ : WhereP _ 5 (-1))
  exact ⟨_, rfl, rfl, kA.t (k2.t ((k3.t k4).t (k5.t k6)))⟩

theorem sum_le {zs : List Int} {c : Int} (h : ∀ i, i < zs.length → 0 ≤ wz zs i ∧ wz zs i ≤ c) : (∀ z ∈ zs, 0 ≤ z) ∧ zs.sum ≤ c * zs.length := by
  have hz : ∀ z ∈ zs, 0 ≤ z ∧ z ≤ c := fun z hz => by
    obtain ⟨i, hi, rfl⟩ := List.getElem_of_mem hz
    have := h i hi
    unfold wz at this
    rwa [List.getElem?_eq_getElem hi] at this
  refine ⟨fun z g => (hz z g).1, ?_⟩
  clear h
  induction zs with
  | nil => simp
  | cons z zs ih =>
    have h1 := ih (fun y hy => hz y (List.mem_cons_of_mem _ hy))
    have h2 := hz z (by simp)
    rw [List.sum_cons, List.length_cons]
    push_cast
    rw [Int.mul_add]; omega

end Go.Proofs.YtomajpihimlcjaaDoor.V
