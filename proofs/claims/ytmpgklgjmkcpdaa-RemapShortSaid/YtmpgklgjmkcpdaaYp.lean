/- Groups out of what is kept of them, as ints. No program here. -/
import Derived.Test.YtmpgklgjmkcpdaaRu
namespace Go.VC
open Go
/-- The groups of which these are kept, whether they may be or not. -/
def ofZ (cs ls : List Nat) : List (List Int) := (List.range cs.length).map fun m => (List.range (wg cs m)).map fun j => (wg ls (S0 cs m + j) : Int) - (baseL ls (S0 cs m) : Int)
theorem ofZ_len (cs ls : List Nat) : (ofZ cs ls).length = cs.length := by simp [ofZ]
theorem ofZ_at {cs ls : List Nat} {m : Nat} (h : m < (ofZ cs ls).length) : (ofZ cs ls)[m] = (List.range (wg cs m)).map fun j => (wg ls (S0 cs m + j) : Int) - (baseL ls (S0 cs m) : Int) := by
  have e : (ofZ cs ls)[m]? = some ((List.range (wg cs m)).map fun j => (wg ls (S0 cs m + j) : Int) - (baseL ls (S0 cs m) : Int)) := by
    unfold ofZ
    rw [List.getElem?_map, List.getElem?_range (by rw [ofZ_len] at h; exact h)]; rfl
  rw [List.getElem?_eq_getElem h] at e
  exact Option.some.inj e
theorem ofZ_ok {cs ls : List Nat} (h : OkOf cs ls) : ofZ cs ls = (gsOf cs ls).map zl := by
  apply List.ext_getElem
  · rw [ofZ_len, List.length_map, gsOf_len]
  · intro m h1 h2
    rw [ofZ_at h1, List.getElem_map, gsOf_at (by rw [List.length_map] at h2; exact h2)]
    rw [ofZ_len] at h1
    unfold zl
    rw [List.map_map]
    apply List.map_congr_left
    intro j hj
    have := (h.2 m h1 j (List.mem_range.1 hj)).1
    simp only [Function.comp]
    omega
theorem wrIn_zero {ns : List Nat} : ∀ {p : Int} {b : Bool}, (∀ v ∈ ns, v < 65536) → (∀ i j, i < j → j < ns.length → wg ns i < wg ns j) → (b = true → 0 < ns.length → p < (wg ns 0 : Int)) → wrIn p b (zl ns) = 0 := by
  induction ns with
  | nil => intro p b _ _ _; rfl
  | cons n ns ih =>
    intro p b h1 h2 h3
    have w0 : ∀ i, wg (n :: ns) (i + 1) = wg ns i := fun i => rfl
    have w00 : wg (n :: ns) 0 = n := rfl
    show wrIn p b ((n : Int) :: zl ns) = 0
    simp only [wrIn]
    have hn := h1 n (by simp)
    rw [if_neg (by omega), if_neg]
    · refine ih (fun v hv => h1 v (by simp [hv])) (fun i j hij hj => ?_) (fun _ hl => ?_)
      · have := h2 (i + 1) (j + 1) (by omega) (by simp; omega)
        rwa [w0, w0] at this
      · have := h2 0 1 (by omega) (by simp; omega)
        rw [w00, show (1 : Nat) = 0 + 1 from rfl, w0] at this
        omega
    · rintro ⟨rfl, hp⟩
      have := h3 rfl (by simp)
      rw [w00] at this; omega
theorem good_wrG {ns : List (List Nat)} (h : GoodG ns) : wrG (ns.map zl) = 0 := by
  induction ns with
  | nil => rfl
  | cons n ns ih =>
    obtain ⟨h1, h2⟩ := h n (by simp)
    show wrG (zl n :: ns.map zl) = 0
    simp only [wrG]
    rw [if_neg (by rw [wrIn_zero h1 h2 (fun e => by cases e)]; simp)]
    exact ih (fun g hg => h g (by simp [hg]))
theorem of_ok {cs ls : List Nat} (h1 : cs.sum = ls.length) (h2 : wrG (ofZ cs ls) = 0) : OkOf cs ls := by
  obtain ⟨ns, e, hg⟩ := wrG_good h2
  refine ⟨h1, fun m hm j hj => ?_⟩
  have hl : ns.length = cs.length := by
    have := congrArg List.length e
    rw [ofZ_len, List.length_map] at this; omega
  have hmz : m < (ofZ cs ls).length := by rw [ofZ_len]; exact hm
  have hmn : m < ns.length := by omega
  have e2 : (ofZ cs ls)[m] = zl ns[m] := by
    have : (ofZ cs ls)[m]? = (ns.map zl)[m]? := by rw [e]
    rw [List.getElem?_eq_getElem hmz, List.getElem?_map, List.getElem?_eq_getElem hmn] at this
    exact Option.some.inj this
  rw [ofZ_at hmz] at e2
  have hlen : (wg cs m) = ns[m].length := by
    have := congrArg List.length e2
    rw [List.length_map, List.length_range, zl_len] at this; exact this
  have at' : ∀ i, i < wg cs m → (wg ls (S0 cs m + i) : Int) - (baseL ls (S0 cs m) : Int) = (wg ns[m] i : Int) := fun i hi => by
    have := congrArg (fun l => l[i]?) e2
    simp only [List.getElem?_map, List.getElem?_range hi, Option.map_some] at this
    rw [List.getElem?_eq_getElem (by omega), Option.map_some] at this
    have := Option.some.inj this
    rw [this]
    congr 1
    unfold wg; rw [List.getElem?_eq_getElem (by omega)]; rfl
  obtain ⟨g1, g2⟩ := hg ns[m] (List.getElem_mem hmn)
  have a1 := at' j hj
  have a2 := g1 _ (wg_memN (g := ns[m]) (i := j) (by omega))
  refine ⟨by omega, by omega, fun h0 => ?_⟩
  have a3 := at' (j - 1) (by omega)
  have a4 := g2 (j - 1) j (by omega) (by omega)
  omega
theorem of_iff {cs ls : List Nat} : OkOf cs ls ↔ cs.sum = ls.length ∧ wrG (ofZ cs ls) = 0 :=
  ⟨fun h => ⟨h.1, by rw [ofZ_ok h]; exact good_wrG (of_good h)⟩, fun h => of_ok h.1 h.2⟩
end Go.VC
