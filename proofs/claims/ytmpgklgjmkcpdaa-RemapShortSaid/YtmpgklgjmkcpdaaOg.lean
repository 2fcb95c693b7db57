/- Opening what a law is handed: slices of slices of ints. No program here. -/
import Derived.Test.YtmpgklgjmkcpdaaRa
namespace Go.VC
open Go Go.ChangeShapes Go.WideShapes Go.Joins Go.Deep
/-- A slice of slices of ints that can be read. -/
structure RdG (w : World) (l : Slc) (gs : List (List Int)) : Prop where
  len : gs.length = l.len
  cel : ∀ i (hi : i < gs.length), ∃ (a : Addr) (s : Slc), l.a = some a ∧ w.cell? (Addr.add a (i * 1)) = some (.slice s.a s.len s.cap) ∧ RdZ w s gs[i]
theorem RdZ.kpn {w w' : World} {l : Slc} {zs : List Int} (h : RdZ w l zs) (g : Kp no w w') : RdZ w' l zs := ⟨h.len, h.rd.kp g (fun _ _ f => f), h.lo⟩
theorem RdG.kpo {w w' : World} {l : Slc} {gs : List (List Int)} (h : RdG w l gs) (g : Kp no w w') : RdG w' l gs := ⟨h.len, fun i hi => by
  obtain ⟨a, s, ha, hc, hz⟩ := h.cel i hi
  have e : w'.heap[a.block]? = w.heap[a.block]? := g.keep _ (by have := cell_lt hc; simpa [add_block] using this) id
  exact ⟨a, s, ha, by rw [World.cell?_of_block (w := w) (by simpa [add_block] using e), hc], hz.kpn g⟩⟩
theorem RdG.at {w : World} {l : Slc} {gs : List (List Int)} (h : RdG w l gs) {m : Nat} (hm : m < gs.length) : ∃ (a : Addr) (s : Slc), l.a = some a ∧ w.cell? (Addr.add a ((m : Int).toNat * 1)) = some (.slice s.a s.len s.cap) ∧ RdZ w s gs[m] := by
  rw [Int.toNat_natCast]; exact h.cel m hm
theorem open_zzs {H : Type} {enc : TypeId × Value → H} {P : Program} {w : World} {t e i : TypeId} {fuel : Nat} {a : Option Addr} {len cap : Nat} {x : DataW H × List MemPlace}
    (ht : P.underlying t = some (.slice e)) (he : P.underlying e = some (.slice i)) (hi : P.underlying i = some (.int .i64)) (ce : P.cellsOf e = 1) (ci : P.cellsOf i = 1)
    (h : DataW.trod enc P w 0 (fun _ => true) true fuel t (Value.slice a len cap).cells.toList = some x) : ∃ gs, RdG w ⟨a, len, cap⟩ gs := by
  rcases Deep.open_slice ht h with ⟨hcs, _⟩ | ⟨b, l, c, m, n, D, Pl, hcs, _, hl, hm, hmm, _, hx⟩
  · simp [Value.cells] at hcs
    obtain ⟨rfl, rfl, rfl⟩ := hcs
    exact ⟨[], rfl, fun i hi => absurd hi (by simp)⟩
  · simp [Value.cells] at hcs
    obtain ⟨rfl, rfl, rfl⟩ := hcs
    simp only [if_true] at hmm
    subst hmm
    have each : ∀ k, k < len → ∃ z : List Int, ∃ s : Slc, w.cell? (Addr.add b (k * 1)) = some (.slice s.a s.len s.cap) ∧ RdZ w s z := by
      intro k hk
      obtain ⟨cs', h1, h2⟩ := hx k (by omega)
      rw [ce] at h1
      obtain ⟨_, hlen, hcell⟩ := World.cells?_some h1
      match cs', hlen with
      | [v0], _ =>
        have q0 := hcell 0 (by omega)
        have hsl : ∃ a len cap, v0 = .slice a len cap := by
          rcases DataW.trod_slice he h2 with ⟨h0, _⟩ | ⟨a, len, cap, elems, rest, n, _, h0, _⟩
          · simp at h0; exact ⟨_, _, _, h0⟩
          · simp at h0; exact ⟨_, _, _, h0⟩
        obtain ⟨a, ln, cp, rfl⟩ := hsl
        obtain ⟨zs, hl, hr, hw, hm⟩ := open_zs he hi ci h2
        refine ⟨zs, ⟨a, ln, cp⟩, ?_, hl, hr, fun z hz => Go.bounds_i64 (hw z hz)⟩
        have q1 : w.cell? (Addr.add (Addr.add b (k * 1)) 0) = some (.slice a ln cp) := by simpa using q0
        rwa [show Addr.add (Addr.add b (k * 1)) 0 = Addr.add b (k * 1) by rw [Deep.add_add]; rfl] at q1
    obtain ⟨zs, hl2, hz⟩ := list_of len each
    exact ⟨zs, hl2, fun i hi => by obtain ⟨s, h1, h2⟩ := hz i hi; exact ⟨b, s, rfl, h1, h2⟩⟩
theorem open_zzsl {H : Type} {enc : TypeId × Value → H} {P : Program} {w : World} {r : Reach} {b0 : Nat} {t e i : TypeId} {v : Value} {d : DataW H} {p : List MemPlace}
    (ht : P.underlying t = some (.slice e)) (he : P.underlying e = some (.slice i)) (hi : P.underlying i = some (.int .i64)) (ce : P.cellsOf e = 1) (ci : P.cellsOf i = 1)
    (hv : Value.okWide P w r b0 t v) (h : DataW.Trod enc P w 0 (fun _ => true) true t v d p) : ∃ (l : Slc) (gs : List (List Int)), v = .slice l.a l.len l.cap ∧ RdG w l gs := by
  obtain ⟨a, len, cap, rfl⟩ := okWide_slice ht hv
  obtain ⟨fuel, hf⟩ := h
  obtain ⟨gs, hr⟩ := open_zzs ht he hi ce ci hf
  exact ⟨⟨a, len, cap⟩, gs, rfl, hr⟩
end Go.VC
