/- 'make' of a slice. No program here. -/
import Derived.Test.YtilccklocaeebaaIs
import Derived.Laws.OwnMore
namespace Go.VC
open Go
/-- 'make' of a slice of elements of one cell: it is owned and holds zeros. -/
theorem make_own {P : Program} {t e : TypeId} {z : Value} {bytes : Nat} (ht : P.underlying t = some (.slice e)) (hz : (P.info? e).bind (·.zero) = some z) (hs : (P.info? e).map (fun i => (i.size, i.bytes)) = some (1, bytes)) (hzc : z.cells = #[z])
    (w : World) (n : Nat) (hn : bytes * n ≤ 281474976710656) (h63 : n ≤ 9223372036854775807) :
    ∃ w' l, (Instr.makeSlice t (.int .i64 (n : Int)) (.int .i64 (n : Int))).run P w = .ok (.slice l.a l.len l.cap) w' ∧ l.len = n ∧ Ownd w' l e 1 (List.replicate n z) ∧ Kp no w w' ∧ ∀ k, On l k → k = w.heap.size := by
  cases hi : P.info? e with
  | none => rw [hi] at hs; cases hs
  | some i =>
    rw [hi] at hz hs
    simp only [Option.bind_some, Option.map_some, Option.some.injEq, Prod.mk.injEq] at hz hs
    have hr := run_make (P := P) w t e i z ht hi hz .i64 .i64 (n : Int) (n : Int) (by omega) (Int.le_refl _) (by rw [hs.2]; omega) (by omega)
    simp only [Int.toNat_natCast, hs.1, Nat.mul_one, hzc] at hr
    have hm : (madeCells #[z] n).toList = List.replicate n z := by
      apply List.ext_getElem
      · simp [madeCells]
      · intro k h1 h2
        simp [madeCells]
        have : k % 1 = 0 := Nat.mod_one k
        simp [this]
    refine ⟨_, ⟨some ⟨w.heap.size, 0, none⟩, n, n⟩, hr, rfl, Ownd.mk' (cur := (madeCells #[z] n).toList) rfl ?_ (Nat.le_refl _) (by simpa [maxLen] using h63) ?_ ?_, (Kp.refl _ _).alloc _ _, fun k hk => ?_⟩
    · unfold Blk
      rw [Array.toArray_toList]
      exact heap_alloc_new w _
    · rw [hm]; simp
    · rw [hm]; simp
    · obtain ⟨b, hb, rfl⟩ := hk; cases hb; rfl
end Go.VC
