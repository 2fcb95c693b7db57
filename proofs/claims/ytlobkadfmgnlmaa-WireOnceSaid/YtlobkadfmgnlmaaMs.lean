/- Bytes: owned slices of bytes, strings appended to them, strings made of them. No program here. -/
import Derived.Test.YtlobkadfmgnlmaaMm
import Derived.Lib.AppendStr
import Derived.Laws.BytesArg
namespace Go.VC
open Go Go.Lib
/-- The byte as a value. -/
abbrev V8 (c : UInt8) : Value := .int .u8 (c.toNat : Int)
/-- The string of these bytes. -/
def bs8 (l : List UInt8) : ByteArray := ⟨l.toArray⟩
theorem bs8_toList (s : ByteArray) : bs8 s.data.toList = s := by cases s; simp [bs8]
theorem bs8_size (l : List UInt8) : (bs8 l).size = l.length := by simp [bs8, ByteArray.size]
theorem strCells_bs8 (l : List UInt8) : strCells (bs8 l) = l.map V8 := by simp [strCells, bs8]
theorem bs8_append (a b : List UInt8) : bs8 a ++ bs8 b = bs8 (a ++ b) := by
  apply ByteArray.ext
  simp [bs8]
theorem bs8_inj {a b : List UInt8} (h : bs8 a = bs8 b) : a = b := by
  have := congrArg (fun s => s.data.toList) h
  simpa [bs8] using this
theorem bs8_get (l : List UInt8) (i : Nat) : (bs8 l)[i]? = l[i]? := by
  by_cases h : i < l.length
  · rw [List.getElem?_eq_getElem h, getElem?_pos (bs8 l) i (by rw [bs8_size]; exact h)]
    rfl
  · rw [List.getElem?_eq_none (by omega), getElem?_neg (bs8 l) i (by rw [bs8_size]; exact h)]
theorem bs8_extract (l : List UInt8) (i j : Nat) : (bs8 l).extract i j = bs8 ((l.drop i).take (j - i)) := by
  apply ByteArray.ext
  simp [bs8, List.take_drop]

variable {w w' : World} {l : Slc} {e : TypeId} {bs : List UInt8}
/-- 'append' of a string onto an owned slice of bytes. -/
theorem append_str {P : Program} {t u ty : TypeId} (he : El P t e 1 1) (hu : P.underlying u = some .string) (h : Ownd w l e 1 (bs.map V8)) (s : List UInt8) (hsz : l.len + s.length ≤ 140737488355328) :
    ∃ w' l', (Builtin.append_ #[t, u] ty #[.slice l.a l.len l.cap, .string (bs8 s)]).run P w = .ok (.slice l'.a l'.len l'.cap) w' ∧
      Ownd w' l' e 1 ((bs ++ s).map V8) ∧ l'.len = l.len + s.length ∧ Kp (On l) w w' ∧ (∀ k, On l' k → On l k ∨ w.heap.size ≤ k) := by
  obtain ⟨ht, i, z, hi, hz, hs, hb, hzs⟩ := he
  have hss := bs8_size s
  have hsc := strCells_bs8 s
  have hlen : (bs.map V8 ++ strCells (bs8 s)).length = (l.len + (bs8 s).size) * 1 := by rw [List.length_append, h.len, strCells_length, Nat.add_mul, Nat.mul_one (bs8 s).size]
  have hdata : ((bs8 s).data.map fun b => Value.int .u8 b.toNat) = (strCells (bs8 s)).toArray := by
    apply Array.ext'
    simp [strCells]
  have eq1 : (bs ++ s).map V8 = bs.map V8 ++ strCells (bs8 s) := by rw [hsc, List.map_append]
  have made : ∀ (xs : Array Value) (old : Nat), xs.toList = bs.map V8 → ∀ n, n = l.len + s.length → old < n → Ownd (w.drew.alloc (.cells (xs ++ (strCells (bs8 s)).toArray ++ Builtin.zeroCells z.cells (grownCap w n old e - n)) e)) ⟨some ⟨w.heap.size, 0, none⟩, n, grownCap w n old e⟩ e 1 ((bs ++ s).map V8) := by
    intro xs old hxs n hn ho
    have hge := grownCap_ge w n old e
    have hcm : grownCap w n old e ≤ maxLen := grownCap_le_maxLen w n old e (by simp only [maxLen]; omega)
    have hl2 : (bs.map V8).length = l.len := by simpa using h.len
    refine Ownd.mk' (cur := (xs ++ (strCells (bs8 s)).toArray ++ Builtin.zeroCells z.cells (grownCap w n old e - n)).toList) rfl ?_ hge hcm ?_ ?_
    · unfold Blk
      rw [Array.toArray_toList]
      exact heap_alloc_new w.drew _
    · simp only [Array.toList_append, List.length_append, Array.length_toList, size_zeroCells, hzs, hxs, strCells_length]
      rw [hl2]
      omega
    · simp only [Array.toList_append, hxs]
      rw [eq1]
      have : (bs.map V8 ++ strCells (bs8 s)).length = n * 1 := by rw [hlen, hn, hss]
      rw [← this, List.take_left]
  rcases h.cases with ⟨rfl, hx⟩ | ⟨g, cur, hga, hbk, hlc, hcm, hcl, htk⟩
  · by_cases hm : s = []
    · subst hm
      refine ⟨w, ⟨none, 0, 0⟩, ?_, by simpa using h, rfl, Kp.refl _ _, fun k hk => absurd hk On.nil⟩
      have hf := run_firstCells_string (P := P) w 1 (bs8 [])
      have hn : strCells (bs8 []) = [] := rfl
      rw [hn] at hf
      simp [Builtin.append_, run_underlying ht, run_underlying hu, sizeOf, typeInfo, hi, hs, Builtin.lenOf, bs8_size, hf]
      rfl
    · have hpos : 0 < s.length := List.length_pos_iff.2 hm
      have hr := run_append_nil_string (P := P) w t u ty e i z ht hu hi hz (bs8 s) (by omega) (by simp at hsz; omega) (by rw [hb]; simp at hsz; omega)
      rw [hdata] at hr
      have hm1 := made #[] 0 hx.symm (bs8 s).size (by simp [hss]) (by omega)
      rw [Array.empty_append] at hm1
      exact ⟨_, ⟨some ⟨w.heap.size, 0, none⟩, (bs8 s).size, grownCap w (bs8 s).size 0 e⟩, hr, hm1, by simp [hss], (Kp.refl _ w).drew.alloc _ _, fun k hk => by obtain ⟨b, hb, rfl⟩ := hk; cases hb; exact .inr (Nat.le_refl _)⟩
  · by_cases hroom : l.len + (bs8 s).size ≤ l.cap
    · have hr := run_append_room_string (P := P) w t u ty e i ht hu hi hs g l.len l.cap cur.toArray hbk (bs8 s) hroom (by simp; omega)
      rw [← hga] at hr
      refine ⟨_, ⟨l.a, l.len + (bs8 s).size, l.cap⟩, hr, ?_, by rw [hss], ⟨rfl, rfl, rfl, by simp, fun x => ?_, fun k _ hk => setRow_other w g k _ (fun e => hk ⟨_, hga, e.symm⟩)⟩, fun k hk => .inl hk⟩
      · refine Ownd.mk' (cur := cur.take l.len ++ strCells (bs8 s) ++ cur.drop (l.len + (bs8 s).size)) hga (setRow_heap w g cur.toArray _ e (0, 0) hbk) hroom hcm ?_ ?_
        · simp only [List.length_append, List.length_take, List.length_drop, strCells_length]; omega
        · rw [eq1, ← hlen]
          have : cur.take l.len = bs.map V8 := by simpa using htk
          rw [this, List.take_left]
      · by_cases hx : x.block = g
        · have e1 := setRow_heap w g cur.toArray (cur.toArray.toList.take l.len ++ strCells (bs8 s) ++ cur.toArray.toList.drop (l.len + (bs8 s).size)).toArray e (0, 0) hbk
          unfold World.frozen?
          rw [hx, e1, show w.heap[g]? = _ from hbk]
        · exact World.frozen?_of_block (setRow_other w g _ _ hx)
    · have holds : ∀ j u, (bs.map V8)[j]? = some u → w.cell? ((⟨g, 0, none⟩ : Addr).add j) = some u := h.row.cells (g := g) (by rw [hga]; rfl)
      have hr := run_append_grow_string (P := P) w t u ty e i z ht hu hi hz ⟨g, 0, none⟩ l.len l.cap (bs.map V8) (by rw [hs]; exact h.len) holds (bs8 s) (by omega) (by omega) (by rw [hb]; exact growslice_fits (by omega) (by omega))
      rw [← hga] at hr
      exact ⟨_, ⟨some ⟨w.heap.size, 0, none⟩, l.len + (bs8 s).size, grownCap w (l.len + (bs8 s).size) l.cap e⟩, hr, made _ l.cap (by simp) _ (by rw [hss]) (by omega), by rw [hss], (Kp.refl _ w).drew.alloc _ _, fun k hk => by obtain ⟨b, hb, rfl⟩ := hk; cases hb; exact .inr (Nat.le_refl _)⟩

/-- A string made of an owned slice of bytes. -/
theorem to_str {P : Program} {t u : TypeId} (ht : P.underlying t = some (.slice e)) (he : P.underlying e = some (.int .u8)) (hu : P.underlying u = some .string) (h : Ownd w l e 1 (bs.map V8)) :
    (convert t u (.slice l.a l.len l.cap)).run P w = .ok (.string (bs8 bs)) w := by
  have hl2 : bs.length = l.len := by simpa using h.len
  have hsn : strOfNums (bs.map fun c => (c.toNat : Int)) = bs8 bs := by
    apply ByteArray.ext
    simp [strOfNums, bs8, Function.comp_def]
  rcases h.cases with ⟨rfl, hx⟩ | ⟨g, cur, hga, hbk, hlc, hcm, hcl, htk⟩
  · have : bs = [] := by simpa using hx
    subst this
    have := run_convert_bytes_nil (P := P) w t e ht he 0 0
    exact this u hu
  · rw [hga, ← hsn]
    refine run_convert_bytes_arg w t e ht he g 0 l.len l.cap _ (by simpa using hl2) (fun i hi => ?_) u hu
    obtain ⟨a, ha, hc⟩ := h.rd i (by rw [List.length_map]; omega)
    rw [hga] at ha; cases ha
    rw [add0] at hc
    rw [Nat.zero_add, hc]
    have hi2 : i < bs.length := by omega
    simp [List.getD, hi2]
end Go.VC
