/- Opening what a law is handed: words, ints. No program here. -/
import Derived.Test.YtilccklocaeebaaRw
import Derived.Test.YtilccklocaeebaaOp
import Derived.Lib.SmallJoins
namespace Go.VC
open Go Go.ChangeShapes Go.WideShapes Go.Joins Go.Deep
/-- A slice of ints that can be read. -/
structure RdZ (w : World) (l : Slc) (zs : List Int) : Prop where
  len : zs.length = l.len
  rd : Rd w l (zs.map (Value.int .i64))
  lo : ∀ z ∈ zs, -9223372036854775808 ≤ z ∧ z ≤ 9223372036854775807
variable {H : Type} {enc : TypeId × Value → H} {P : Program} {w : World} {r : Reach} {b0 : Nat} {t e : TypeId} {v : Value} {d : DataW H} {p : List MemPlace}

theorem open_zs {k : IntKind} {fuel : Nat} {a : Option Addr} {len cap : Nat} {x : DataW H × List MemPlace} (ht : P.underlying t = some (.slice e)) (he : P.underlying e = some (.int k)) (hc : P.cellsOf e = 1)
    (h : DataW.trod enc P w 0 (fun _ => true) true fuel t [.slice a len cap] = some x) :
    ∃ zs : List Int, zs.length = len ∧ Rd w ⟨a, len, cap⟩ (zs.map (Value.int k)) ∧ (∀ z ∈ zs, (Lit.int k z).wf = true) ∧ len ≤ maxLen := by
  rcases open_ints ht he hc h with ⟨hcs, _⟩ | ⟨x, l, c, zs, hcs, _, hl, hm, hz, _, hcell, hwz⟩
  · simp at hcs
    obtain ⟨rfl, rfl, rfl⟩ := hcs
    exact ⟨[], rfl, Rd.nil _ _, by simp, Nat.zero_le _⟩
  · simp at hcs
    obtain ⟨rfl, rfl, rfl⟩ := hcs
    have hz : zs.length = cap := by simpa using hz
    refine ⟨zs.take len, by simp; omega, fun i hi => ⟨x, rfl, ?_⟩, fun z hzz => hwz z (List.mem_of_mem_take hzz), by omega⟩
    have hi2 : i < len := by simp at hi; omega
    rw [hcell i (by omega)]
    rw [List.getElem?_map, List.getElem?_take, if_pos hi2, List.getElem?_eq_getElem (by omega)]
    have e : zs.getD i 0 = zs[i] := by simp [List.getD, show i < zs.length by omega]
    rw [e]; rfl
theorem ws_of {l : Slc} {zs : List Int} (hl : zs.length = l.len) (h : Rd w l (zs.map (Value.int .u64))) (hw : ∀ z ∈ zs, (Lit.int .u64 z).wf = true) : RdW w l (zs.map Int.toNat) := by
  have b : ∀ n ∈ zs, 0 ≤ n ∧ n ≤ 18446744073709551615 := fun n hn => Go.bounds_u64 (hw n hn)
  refine ⟨by simpa using hl, ?_, fun y hy => ?_⟩
  · have : (zs.map Int.toNat).map U = zs.map (Value.int .u64) := by
      rw [List.map_map]
      apply List.map_congr_left
      intro z hz
      have := b z hz
      show Value.int .u64 ((z.toNat : Nat) : Int) = _
      rw [show ((z.toNat : Nat) : Int) = z by omega]
    rw [this]; exact h
  · obtain ⟨z, hz, rfl⟩ := List.mem_map.1 hy
    have := b z hz; omega

theorem open_wsl (ht : P.underlying t = some (.slice e)) (he : P.underlying e = some (.int .u64)) (hc : P.cellsOf e = 1) (hv : Value.okWide P w r b0 t v) (h : DataW.Trod enc P w 0 (fun _ => true) true t v d p) :
    ∃ (l : Slc) (ws : List Nat), v = .slice l.a l.len l.cap ∧ RdW w l ws ∧ l.len ≤ maxLen := by
  obtain ⟨a, len, cap, rfl⟩ := okWide_slice ht hv
  obtain ⟨fuel, hf⟩ := h
  obtain ⟨zs, hl, hr, hw, hm⟩ := open_zs ht he hc hf
  exact ⟨⟨a, len, cap⟩, _, rfl, ws_of hl hr hw, hm⟩
theorem open_zsl (ht : P.underlying t = some (.slice e)) (he : P.underlying e = some (.int .i64)) (hc : P.cellsOf e = 1) (hv : Value.okWide P w r b0 t v) (h : DataW.Trod enc P w 0 (fun _ => true) true t v d p) :
    ∃ (l : Slc) (zs : List Int), v = .slice l.a l.len l.cap ∧ RdZ w l zs ∧ l.len ≤ maxLen := by
  obtain ⟨a, len, cap, rfl⟩ := okWide_slice ht hv
  obtain ⟨fuel, hf⟩ := h
  obtain ⟨zs, hl, hr, hw, hm⟩ := open_zs ht he hc hf
  exact ⟨⟨a, len, cap⟩, zs, rfl, ⟨hl, hr, fun z hz => Go.bounds_i64 (hw z hz)⟩, hm⟩
end Go.VC
