/- Bytes: owned slices of bytes, strings appended to them, strings made of them. No program here. The encoding of numbers by bytes of seven bits. No program here. Decoding of numbers by bytes of seven bits. No program here. -/
import Derived.Test.YtomajpihimlcjaaDoorVb
import Derived.Lib.AppendStr
import Derived.Laws.BytesArg
namespace Go.VC
open Go Go.Lib
/-- The byte as a value. -/
abbrev V8 (c : UInt8) : Value := .int .u8 (c.toNat : Int)
/-- The string of these bytes. -/
def bs8 (l : List UInt8) : ByteArray := ⟨l.toArray⟩
theorem bs8_toList (s : ByteArray) : bs8 s.data.toList = s := by cases s; simp [bs8]
theorem bs8_size (l : List UInt8) : (bs8 l).size = l.length := by simp [bs8, ByteArray.size]
theorem strCells_bs8 (l : List UInt8) : strCells (bs8 l) = l.map V8 := by simp [strCells, bs8]
theorem bs8_append (a b : List UInt8) : bs8 a ++ bs8 b = bs8 (a ++ b) := by
  apply ByteArray.ext
  simp [bs8]
theorem bs8_inj {a b : List UInt8} (h : bs8 a = bs8 b) : a = b := by
  have := congrArg (fun s => s.data.toList) h
  simpa [bs8] using this
theorem bs8_get (l : List UInt8) (i : Nat) : (bs8 l)[i]? = l[i]? := by
  by_cases h : i < l.length
  · rw [List.getElem?_eq_getElem h, getElem?_pos (bs8 l) i (by rw [bs8_size]; exact h)]
    rfl
  · rw [List.getElem?_eq_none (by omega), getElem?_neg (bs8 l) i (by rw [bs8_size]; exact h)]
theorem bs8_extract (l : List UInt8) (i j : Nat) : (bs8 l).extract i j = bs8 ((l.drop i).take (j - i)) := by
  apply ByteArray.ext
  simp [bs8, List.take_drop]

variable {w w' : World} {l : Slc} {e : TypeId} {bs : List UInt8}
/-- 'append' of a string onto an owned slice of bytes. -/
theorem append_str {P : Program} {t u ty : TypeId} (he : El P t e 1 1) (hu : P.underlying u = some .string) (h : Ownd w l e 1 (bs.map V8)) (s : List UInt8) (hsz : l.len + s.length ≤ 140737488355328) :
    ∃ w' l', (Builtin.append_ #[t, u] ty #[.slice l.a l.len l.cap, .string (bs8 s)]).run P w = .ok (.slice l'.a l'.len l'.cap) w' ∧
      Ownd w' l' e 1 ((bs ++ s).map V8) ∧ l'.len = l.len + s.length ∧ Kp (On l) w w' ∧ (∀ k, On l' k → On l k ∨ w.heap.size ≤ k) := by
  obtain ⟨ht, i, z, hi, hz, hs, hb, hzs⟩ := he
  have hss := bs8_size s
  have hsc := strCells_bs8 s
  have hlen : (bs.map V8 ++ strCells (bs8 s)).length = (l.len + (bs8 s).size) * 1 := by rw [List.length_append, h.len, strCells_length, Nat.add_mul, Nat.mul_one (bs8 s).size]
  have hdata : ((bs8 s).data.map fun b => Value.int .u8 b.toNat) = (strCells (bs8 s)).toArray := by
    apply Array.ext'
    simp [strCells]
  have eq1 : (bs ++ s).map V8 = bs.map V8 ++ strCells (bs8 s) := by rw [hsc, List.map_append]
  have made : ∀ (xs : Array Value) (old : Nat), xs.toList = bs.map V8 → ∀ n, n = l.len + s.length → old < n → Ownd (w.drew.alloc (.cells (xs ++ (strCells (bs8 s)).toArray ++ Builtin.zeroCells z.cells (grownCap w n old e - n)) e)) ⟨some ⟨w.heap.size, 0, none⟩, n, grownCap w n old e⟩ e 1 ((bs ++ s).map V8) := by
    intro xs old hxs n hn ho
    have hge := grownCap_ge w n old e
    have hcm : grownCap w n old e ≤ maxLen := grownCap_le_maxLen w n old e (by simp only [maxLen]; omega)
    have hl2 : (bs.map V8).length = l.len := by simpa using h.len
    refine Ownd.mk' (cur := (xs ++ (strCells (bs8 s)).toArray ++ Builtin.zeroCells z.cells (grownCap w n old e - n)).toList) rfl ?_ hge hcm ?_ ?_
    · unfold Blk
      rw [Array.toArray_toList]
      exact heap_alloc_new w.drew _
    · simp only [Array.toList_append, List.length_append, Array.length_toList, size_zeroCells, hzs, hxs, strCells_length]
      rw [hl2]
      omega
    · simp only [Array.toList_append, hxs]
      rw [eq1]
      have : (bs.map V8 ++ strCells (bs8 s)).length = n * 1 := by rw [hlen, hn, hss]
      rw [← this, List.take_left]
  rcases h.cases with ⟨rfl, hx⟩ | ⟨g, cur, hga, hbk, hlc, hcm, hcl, htk⟩
  · by_cases hm : s = []
    · subst hm
      refine ⟨w, ⟨none, 0, 0⟩, ?_, by simpa using h, rfl, Kp.refl _ _, fun k hk => absurd hk On.nil⟩
      have hf := run_firstCells_string (P := P) w 1 (bs8 [])
      have hn : strCells (bs8 []) = [] := rfl
      rw [hn] at hf
      simp [Builtin.append_, run_underlying ht, run_underlying hu, sizeOf, typeInfo, hi, hs, Builtin.lenOf, bs8_size, hf]
      rfl
    · have hpos : 0 < s.length := List.length_pos_iff.2 hm
      have hr := run_append_nil_string (P := P) w t u ty e i z ht hu hi hz (bs8 s) (by omega) (by simp at hsz; omega) (by rw [hb]; simp at hsz; omega)
      rw [hdata] at hr
      have hm1 := made #[] 0 hx.symm (bs8 s).size (by simp [hss]) (by omega)
      rw [Array.empty_append] at hm1
      exact ⟨_, ⟨some ⟨w.heap.size, 0, none⟩, (bs8 s).size, grownCap w (bs8 s).size 0 e⟩, hr, hm1, by simp [hss], (Kp.refl _ w).drew.alloc _ _, fun k hk => by obtain ⟨b, hb, rfl⟩ := hk; cases hb; exact .inr (Nat.le_refl _)⟩
  · by_cases hroom : l.len + (bs8 s).size ≤ l.cap
    · have hr := run_append_room_string (P := P) w t u ty e i ht hu hi hs g l.len l.cap cur.toArray hbk (bs8 s) hroom (by simp; omega)
      rw [← hga] at hr
      refine ⟨_, ⟨l.a, l.len + (bs8 s).size, l.cap⟩, hr, ?_, by rw [hss], ⟨rfl, rfl, rfl, by simp, fun x => ?_, fun k _ hk => setRow_other w g k _ (fun e => hk ⟨_, hga, e.symm⟩)⟩, fun k hk => .inl hk⟩
      · refine Ownd.mk' (cur := cur.take l.len ++ strCells (bs8 s) ++ cur.drop (l.len + (bs8 s).size)) hga (setRow_heap w g cur.toArray _ e (0, 0) hbk) hroom hcm ?_ ?_
        · simp only [List.length_append, List.length_take, List.length_drop, strCells_length]; omega
        · rw [eq1, ← hlen]
          have : cur.take l.len = bs.map V8 := by simpa using htk
          rw [this, List.take_left]
      · by_cases hx : x.block = g
        · have e1 := setRow_heap w g cur.toArray (cur.toArray.toList.take l.len ++ strCells (bs8 s) ++ cur.toArray.toList.drop (l.len + (bs8 s).size)).toArray e (0, 0) hbk
          unfold World.frozen?
          rw [hx, e1, show w.heap[g]? = _ from hbk]
        · exact World.frozen?_of_block (setRow_other w g _ _ hx)
    · have holds : ∀ j u, (bs.map V8)[j]? = some u → w.cell? ((⟨g, 0, none⟩ : Addr).add j) = some u := h.row.cells (g := g) (by rw [hga]; rfl)
      have hr := run_append_grow_string (P := P) w t u ty e i z ht hu hi hz ⟨g, 0, none⟩ l.len l.cap (bs.map V8) (by rw [hs]; exact h.len) holds (bs8 s) (by omega) (by omega) (by rw [hb]; exact growslice_fits (by omega) (by omega))
      rw [← hga] at hr
      exact ⟨_, ⟨some ⟨w.heap.size, 0, none⟩, l.len + (bs8 s).size, grownCap w (l.len + (bs8 s).size) l.cap e⟩, hr, made _ l.cap (by simp) _ (by rw [hss]) (by omega), by rw [hss], (Kp.refl _ w).drew.alloc _ _, fun k hk => by obtain ⟨b, hb, rfl⟩ := hk; cases hb; exact .inr (Nat.le_refl _)⟩

/-- A string made of an owned slice of bytes. -/
theorem to_str {P : Program} {t u : TypeId} (ht : P.underlying t = some (.slice e)) (he : P.underlying e = some (.int .u8)) (hu : P.underlying u = some .string) (h : Ownd w l e 1 (bs.map V8)) :
    (convert t u (.slice l.a l.len l.cap)).run P w = .ok (.string (bs8 bs)) w := by
  have hl2 : bs.length = l.len := by simpa using h.len
  have hsn : strOfNums (bs.map fun c => (c.toNat : Int)) = bs8 bs := by
    apply ByteArray.ext
    simp [strOfNums, bs8, Function.comp_def]
  rcases h.cases with ⟨rfl, hx⟩ | ⟨g, cur, hga, hbk, hlc, hcm, hcl, htk⟩
  · have : bs = [] := by simpa using hx
    subst this
    have := run_convert_bytes_nil (P := P) w t e ht he 0 0
    exact this u hu
  · rw [hga, ← hsn]
    refine run_convert_bytes_arg w t e ht he g 0 l.len l.cap _ (by simpa using hl2) (fun i hi => ?_) u hu
    obtain ⟨a, ha, hc⟩ := h.rd i (by rw [List.length_map]; omega)
    rw [hga] at ha; cases ha
    rw [add0] at hc
    rw [Nat.zero_add, hc]
    have hi2 : i < bs.length := by omega
    simp [List.getD, hi2]
end Go.VC

namespace Go.VC
open Go

def encF : Nat → Nat → List UInt8
  | 0, _ => []
  | f + 1, v => if v < 128 then [UInt8.ofNat v] else UInt8.ofNat (v % 128 + 128) :: encF f (v / 128)
/-- The bytes of a number: seven bits each, the lowest first; all but the last are 128 or more. -/
def enc (v : Nat) : List UInt8 := encF 10 v
theorem encF_more : ∀ (f v : Nat), v < 128 ^ f → 0 < f → ∀ g, f ≤ g → encF g v = encF f v
  | 0, _, _, h, _, _ => by omega
  | f + 1, v, hv, _, g, hg => by
    obtain ⟨g', rfl⟩ : ∃ g', g = g' + 1 := ⟨g - 1, by omega⟩
    simp only [encF]
    split
    · rfl
    · rename_i h
      rw [Nat.pow_succ] at hv
      have hf : 0 < f := by
        rcases Nat.eq_zero_or_pos f with rfl | h0
        · simp at hv; omega
        · exact h0
      rw [encF_more f (v / 128) (by omega) hf g' (by omega)]
theorem enc_lt {v : Nat} (h : v < 128) : enc v = [UInt8.ofNat v] := by unfold enc; simp [encF, h]
theorem enc_ge {v : Nat} (h : 128 ≤ v) (hv : v < 18446744073709551616) : enc v = UInt8.ofNat (v % 128 + 128) :: enc (v / 128) := by
  have e : encF 10 (v / 128) = encF 9 (v / 128) := encF_more 9 (v / 128) (by simp only [Nat.reducePow]; omega) (by omega) 10 (by omega)
  unfold enc
  rw [e, show (10 : Nat) = 9 + 1 from rfl, encF, if_neg (by omega)]
theorem encF_len : ∀ (f v : Nat), (encF f v).length ≤ f
  | 0, _ => by simp [encF]
  | f + 1, v => by
    simp only [encF]
    split
    · simp
    · have := encF_len f (v / 128); simp; omega
theorem enc_len (v : Nat) : (enc v).length ≤ 10 := encF_len 10 v

theorem or128 : ∀ x : Fin 256, x.val ||| 128 = x.val % 128 + 128 := by decide +kernel
theorem byte_or (v : Nat) : bOr .u8 (IntKind.u8.wrap (v : Int)) 128 = ((v % 128 + 128 : Nat) : Int) := by
  rw [wu8', show (v : Int) % 256 = ((v % 256 : Nat) : Int) by omega, show (128 : Int) = ((128 : Nat) : Int) from rfl, or_u8 (by omega) (by omega), or128 ⟨v % 256, by omega⟩]
  simp only
  omega
theorem V8_of {n : Nat} (h : n < 256) : V8 (UInt8.ofNat n) = .int .u8 (n : Int) := by
  unfold V8
  rw [UInt8.toNat_ofNat_of_lt' (by simpa [UInt8.size] using h)]

theorem xor_ones {x : Nat} (hx : x < 18446744073709551616) : x ^^^ 18446744073709551615 = 18446744073709551615 - x := by
  have h := congrArg BitVec.toNat (BitVec.xor_allOnes (x := BitVec.ofNat 64 x))
  rw [BitVec.toNat_xor, BitVec.toNat_not, BitVec.toNat_ofNat, Nat.mod_eq_of_lt (by simpa using hx)] at h
  simpa using h

/-- A number with its sign as the lowest bit. -/
def zig (n : Int) : Nat := if 0 ≤ n then (2 * n).toNat else (-2 * n - 1).toNat
theorem zig_lt {n : Int} (h : -9223372036854775808 ≤ n ∧ n ≤ 9223372036854775807) : zig n < 18446744073709551616 := by unfold zig; split <;> omega
theorem zig_eq {n : Int} (h : -9223372036854775808 ≤ n ∧ n ≤ 9223372036854775807) : bXor .u64 (shL .u64 (IntKind.u64.wrap n) 1) (IntKind.u64.wrap (shR .i64 n 63)) = (zig n : Int) := by
  by_cases h0 : 0 ≤ n
  · obtain ⟨k, rfl⟩ : ∃ k : Nat, n = k := ⟨n.toNat, by omega⟩
    have e1 : shR .i64 (k : Int) 63 = 0 := by
      unfold shR
      rw [Int.fdiv_eq_ediv_of_nonneg _ (Int.pow_nonneg (by omega))]
      exact Int.ediv_eq_zero_of_lt (by omega) (by
        have : (2 : Int) ^ min (63 : Int).toNat IntKind.i64.bits = 9223372036854775808 := rfl
        omega)
    rw [e1, wu64 (x := (k : Int)) ⟨by omega, by omega⟩, show (1 : Int) = ((1 : Nat) : Int) from rfl, shl_u64, wu64 (x := 0) ⟨by omega, by omega⟩, show (0 : Int) = ((0 : Nat) : Int) from rfl, xor_u64 (Nat.mod_lt _ (by omega)) (by omega), Nat.xor_zero, Nat.shiftLeft_eq]
    unfold zig
    rw [if_pos h0]
    omega
  · obtain ⟨k, rfl⟩ : ∃ k : Nat, n = -(k : Int) - 1 := ⟨(-n - 1).toNat, by omega⟩
    have e1 : shR .i64 (-(k : Int) - 1) 63 = -1 := by
      unfold shR
      rw [Int.fdiv_eq_ediv_of_nonneg _ (Int.pow_nonneg (by omega))]
      have : (2 : Int) ^ min (63 : Int).toNat IntKind.i64.bits = 9223372036854775808 := rfl
      rw [this]
      omega
    rw [e1, wu64' (-1), show (-1 : Int) % 18446744073709551616 = ((18446744073709551615 : Nat) : Int) from rfl, wu64', show (-(k : Int) - 1) % 18446744073709551616 = ((18446744073709551615 - k : Nat) : Int) by omega,
      show (1 : Int) = ((1 : Nat) : Int) from rfl, shl_u64, xor_u64 (Nat.mod_lt _ (by omega)) (by omega), xor_ones (Nat.mod_lt _ (by omega)), Nat.shiftLeft_eq]
    unfold zig
    split <;> omega
end Go.VC

namespace Go.VC
open Go

/-- The byte at a place; past the end zero. -/
def bt (s : List UInt8) (i : Nat) : Nat := ((s[i]?).getD 0).toNat
theorem bt_lt (s : List UInt8) (i : Nat) : bt s i < 256 := UInt8.toNat_lt _
theorem bt_cons (c : UInt8) (s : List UInt8) (i : Nat) : bt (c :: s) (i + 1) = bt s i := by simp [bt]
theorem bt_zero (c : UInt8) (s : List UInt8) : bt (c :: s) 0 = c.toNat := by simp [bt]
theorem bt_append (s t : List UInt8) (i : Nat) (h : i < s.length) : bt (s ++ t) i = bt s i := by unfold bt; rw [List.getElem?_append_left h]
theorem bt_get {s : List UInt8} {i : Nat} {c : UInt8} (h : s[i]? = some c) : c.toNat = bt s i := by unfold bt; rw [h]; rfl
/-- The value of so many bytes from a place on. -/
def hi (s : List UInt8) : Nat → Nat → Nat
  | _, 0 => 0
  | i, n + 1 => bt s i % 128 + 128 * hi s (i + 1) n
theorem hi_cons (c : UInt8) (s : List UInt8) : ∀ (n i : Nat), hi (c :: s) (i + 1) n = hi s i n
  | 0, _ => rfl
  | n + 1, i => by simp only [hi, bt_cons, hi_cons c s n (i + 1)]
theorem hi_snoc (s : List UInt8) : ∀ (n i : Nat), hi s i (n + 1) = hi s i n + bt s (i + n) % 128 * 128 ^ n
  | 0, i => by simp [hi]
  | n + 1, i => by
    have h := hi_snoc s n (i + 1)
    rw [hi, h]
    simp only [hi]
    rw [show i + 1 + n = i + (n + 1) by omega, Nat.pow_succ, Nat.mul_add, Nat.mul_comm 128 (_ * _), Nat.mul_assoc]
    omega
theorem hi_lt (s : List UInt8) : ∀ (n i : Nat), hi s i n < 128 ^ n
  | 0, _ => by simp [hi]
  | n + 1, i => by
    have := hi_lt s n (i + 1)
    simp only [hi, Nat.pow_succ]; omega
theorem hi_append (s t : List UInt8) : ∀ (n i : Nat), i + n ≤ s.length → hi (s ++ t) i n = hi s i n
  | 0, _, _ => rfl
  | n + 1, i, h => by simp only [hi]; rw [bt_append _ _ _ (by omega), hi_append s t n (i + 1) (by omega)]

/-- The bytes ahead of this place are 128 or more. -/
def Cont (s : List UInt8) (m : Nat) : Prop := ∀ j, j < m → j < s.length ∧ 128 ≤ bt s j
theorem Cont.succ {s : List UInt8} {m : Nat} (h : Cont s m) (h1 : m < s.length) (h2 : 128 ≤ bt s m) : Cont s (m + 1) := fun j hj => by
  by_cases e : j = m
  · subst e; exact ⟨h1, h2⟩
  · exact h j (by omega)
def kF (s : List UInt8) : Nat → Nat → Nat
  | 0, i => i
  | f + 1, i => if i < s.length ∧ 128 ≤ bt s i then kF s f (i + 1) else i
theorem kF_eq (s : List UInt8) : ∀ (f i k : Nat), i ≤ k → k ≤ i + f → Cont s k → (k < i + f → ¬ (k < s.length ∧ 128 ≤ bt s k)) → kF s f i = k
  | 0, i, k, h1, h2, _, _ => by simp only [kF]; omega
  | f + 1, i, k, h1, h2, h3, h4 => by
    simp only [kF]
    by_cases e : i = k
    · subst e; rw [if_neg (h4 (by omega))]
    · rw [if_pos (h3 i (by omega))]
      exact kF_eq s f (i + 1) k (by omega) (by omega) h3 (fun h => h4 (by omega))
/-- How many bytes ahead of the last one, ten at most. -/
def kOf (s : List UInt8) : Nat := kF s 10 0
/-- The number that some bytes begin with, how many bytes it takes, and the error. -/
def dec (s : List UInt8) : Nat × Nat × Nat :=
  if kOf s = 10 then (0, 0, 3) else if kOf s = s.length then (0, 0, 2)
  else if (kOf s = 9 ∧ 1 < bt s 9) ∨ (0 < kOf s ∧ bt s (kOf s) = 0) then (0, 0, 3) else (hi s 0 (kOf s + 1), kOf s + 1, 0)
theorem dec_of {s : List UInt8} {k : Nat} (h : kOf s = k) : dec s = if k = 10 then (0, 0, 3) else if k = s.length then (0, 0, 2)
  else if (k = 9 ∧ 1 < bt s 9) ∨ (0 < k ∧ bt s k = 0) then (0, 0, 3) else (hi s 0 (k + 1), k + 1, 0) := by subst h; rfl
theorem kOf_eq {s : List UInt8} {k : Nat} (h2 : k ≤ 10) (h3 : Cont s k) (h4 : k < 10 → ¬ (k < s.length ∧ 128 ≤ bt s k)) : kOf s = k := kF_eq s 10 0 k (by omega) (by omega) h3 (fun h => h4 (by omega))
theorem kF_spec (s : List UInt8) : ∀ (f i : Nat), Cont s i → i ≤ kF s f i ∧ kF s f i ≤ i + f ∧ Cont s (kF s f i) ∧ (kF s f i < i + f → ¬ (kF s f i < s.length ∧ 128 ≤ bt s (kF s f i)))
  | 0, i, h => by simp [kF, h]
  | f + 1, i, h => by
    simp only [kF]
    split
    · rename_i g
      have := kF_spec s f (i + 1) (h.succ g.1 g.2)
      refine ⟨by omega, by omega, this.2.2.1, fun q => this.2.2.2 (by omega)⟩
    · rename_i g
      exact ⟨Nat.le_refl _, by omega, h, fun _ => g⟩
theorem kOf_spec (s : List UInt8) : kOf s ≤ 10 ∧ Cont s (kOf s) ∧ (kOf s < 10 → ¬ (kOf s < s.length ∧ 128 ≤ bt s (kOf s))) := by
  have := kF_spec s 10 0 (fun j hj => by omega)
  exact ⟨by unfold kOf; omega, this.2.2.1, fun h => this.2.2.2 (by unfold kOf at h; omega)⟩
theorem kOf_le (s : List UInt8) : kOf s ≤ s.length := by
  have h := (kOf_spec s).2.1
  rcases Nat.eq_zero_or_pos (kOf s) with e | e
  · omega
  · have := (h (kOf s - 1) (by omega)).1; omega

theorem dec_fit (s : List UInt8) : (dec s).1 < 18446744073709551616 ∧ (dec s).2.1 ≤ s.length ∧ (dec s).2.2 ≤ 3 ∧ ((dec s).2.2 = 0 → 1 ≤ (dec s).2.1 ∧ (dec s).2.1 ≤ 10) ∧ ((dec s).2.2 ≠ 0 → (dec s).1 = 0 ∧ (dec s).2.1 = 0) := by
  have hk := kOf_le s
  have hs := kOf_spec s
  unfold dec
  split
  · simp
  · split
    · simp
    · split
      · simp
      · rename_i h1 h2 h3
        refine ⟨?_, by simp only; omega, by simp, fun _ => ⟨by simp, by simp only; omega⟩, fun h => absurd rfl h⟩
        have := hi_lt s (kOf s) 0
        simp only
        rw [hi_snoc, Nat.zero_add]
        by_cases e : kOf s = 9
        · rw [e] at this ⊢
          have hb : bt s 9 ≤ 1 := by omega
          have : bt s 9 % 128 ≤ 1 := by omega
          have := Nat.mul_le_mul_right (128 ^ 9) this
          simp only [Nat.reducePow] at *
          omega
        · have h8 : kOf s ≤ 8 := by omega
          have hb : bt s (kOf s) % 128 ≤ 127 := by omega
          have h9 := Nat.mul_le_mul_right (128 ^ kOf s) hb
          have h10 : 128 ^ kOf s ≤ 128 ^ 8 := Nat.pow_le_pow_right (by omega) h8
          simp only [Nat.reducePow] at *
          omega

/-- A number's bytes, whole: all but the last 128 or more, the last less, and not zero behind others. -/
structure Whole (s : List UInt8) (m v : Nat) : Prop where
  pos : 1 ≤ m
  cont : Cont s (m - 1)
  last : m - 1 < s.length ∧ bt s (m - 1) < 128
  nz : 1 < m → bt s (m - 1) ≠ 0
  val : hi s 0 m = v

theorem toNat_of {n : Nat} (h : n < 256) : (UInt8.ofNat n).toNat = n := UInt8.toNat_ofNat_of_lt' (by simpa [UInt8.size] using h)
theorem whole_enc : ∀ (f v : Nat) (t : List UInt8), v < 128 ^ f → 0 < f → Whole (encF f v ++ t) (encF f v).length v ∧ (0 < v → 0 < hi (encF f v ++ t) 0 (encF f v).length)
  | 0, _, _, _, h => by omega
  | f + 1, v, t, hv, _ => by
    simp only [encF]
    by_cases h : v < 128
    · rw [if_pos h]
      have e0 : bt (UInt8.ofNat v :: t) 0 = v := by rw [bt_zero, toNat_of (by omega)]
      have e1 : hi (UInt8.ofNat v :: t) 0 1 = v := by simp only [hi, e0]; omega
      refine ⟨⟨Nat.le_refl _, fun j hj => by simp at hj, ⟨by simp, ?_⟩, fun h => by simp at h, e1⟩, fun h0 => ?_⟩
      · show bt (UInt8.ofNat v :: t) 0 < 128
        omega
      · show 0 < hi (UInt8.ofNat v :: t) 0 1
        omega
    · rw [if_neg h]
      rw [Nat.pow_succ] at hv
      have hf : 0 < f := by
        rcases Nat.eq_zero_or_pos f with rfl | h0
        · simp at hv; omega
        · exact h0
      obtain ⟨ih, ih2⟩ := whole_enc f (v / 128) t (by omega) hf
      have hp := ih.pos
      have e0 : bt (UInt8.ofNat (v % 128 + 128) :: (encF f (v / 128) ++ t)) 0 = v % 128 + 128 := by rw [bt_zero, toNat_of (by omega)]
      have e1 : hi (UInt8.ofNat (v % 128 + 128) :: (encF f (v / 128) ++ t)) 0 ((encF f (v / 128)).length + 1) = v := by
        simp only [hi, e0, hi_cons]
        rw [ih.val]; omega
      rw [List.length_cons, List.cons_append]
      refine ⟨⟨by omega, fun j hj => ?_, ⟨by have := ih.last.1; simp at this ⊢; omega, ?_⟩, fun _ => ?_, e1⟩, fun _ => by rw [e1]; omega⟩
      · cases j with
        | zero => exact ⟨by simp, by rw [e0]; omega⟩
        | succ j =>
          have := ih.cont j (by omega)
          rw [bt_cons]
          exact ⟨by simp only [List.length_cons]; omega, this.2⟩
      · obtain ⟨k, hk⟩ : ∃ k, (encF f (v / 128)).length = k + 1 := ⟨(encF f (v / 128)).length - 1, by omega⟩
        have := ih.last.2
        rw [hk] at this ⊢
        rw [Nat.add_sub_cancel, bt_cons]
        exact this
      · obtain ⟨k, hk⟩ : ∃ k, (encF f (v / 128)).length = k + 1 := ⟨(encF f (v / 128)).length - 1, by omega⟩
        rw [hk, Nat.add_sub_cancel, bt_cons]
        by_cases h1 : 1 < (encF f (v / 128)).length
        · have := ih.nz h1
          rw [hk] at this
          exact this
        · have hk0 : k = 0 := by omega
          have h2 := ih.val
          rw [hk, hk0] at h2
          simp only [hi] at h2
          subst hk0
          omega

theorem dec_whole {s : List UInt8} {m v : Nat} (h : Whole s m v) (hm : m ≤ 10) (hv : v < 18446744073709551616) : dec s = (v, m, 0) := by
  have hp := h.pos
  have hl := h.last
  have hk : kOf s = m - 1 := kOf_eq (by omega) h.cont (fun _ => by omega)
  rw [dec_of hk, if_neg (by omega), if_neg (by omega), if_neg, show m - 1 + 1 = m by omega, h.val]
  rintro (⟨h9, h1⟩ | ⟨h0, h1⟩)
  · have := hi_snoc s 9 0
    have h2 := h.val
    rw [show m = 9 + 1 by omega, this, Nat.zero_add] at h2
    have hb : bt s 9 < 128 := by rw [← h9]; exact hl.2
    have : 2 * 128 ^ 9 ≤ bt s 9 % 128 * 128 ^ 9 := Nat.mul_le_mul_right _ (by omega)
    simp only [Nat.reducePow] at *
    omega
  · exact h.nz (by omega) h1

/-- What is written is read. -/
theorem dec_enc (v : Nat) (hv : v < 18446744073709551616) (t : List UInt8) : dec (enc v ++ t) = (v, (enc v).length, 0) :=
  dec_whole (whole_enc 10 v t (by simp only [Nat.reducePow]; omega) (by omega)).1 (enc_len v) hv

theorem encF_whole : ∀ (t : List UInt8) (f : Nat), t.length ≤ f → Whole t t.length (hi t 0 t.length) → encF f (hi t 0 t.length) = t ∧ 0 < f
  | [], _, _, h => by have := h.pos; simp at this
  | [c], f, hf, h => by
    obtain ⟨g, rfl⟩ : ∃ g, f = g + 1 := ⟨f - 1, by simp at hf; omega⟩
    have hl := h.last.2
    simp only [List.length_singleton, Nat.sub_self, bt_zero] at hl
    have e : hi [c] 0 [c].length = c.toNat := by simp only [List.length_singleton, hi, bt_zero]; omega
    rw [e]
    refine ⟨?_, by omega⟩
    simp only [encF]
    rw [if_pos hl]
    simp
  | c :: d :: t, f, hf, h => by
    obtain ⟨g, rfl⟩ : ∃ g, f = g + 1 := ⟨f - 1, by simp at hf; omega⟩
    have hW : Whole (d :: t) (d :: t).length (hi (d :: t) 0 (d :: t).length) := by
      have hl := h.last
      have hz := h.nz (by simp)
      have hc := h.cont
      simp only [List.length_cons, Nat.add_sub_cancel, bt_cons] at hl hz hc
      refine ⟨by simp, fun j hj => ?_, ⟨by simp, by simpa using hl.2⟩, fun _ => by simpa using hz, rfl⟩
      have := hc (j + 1) (by simp only [List.length_cons, Nat.add_sub_cancel] at hj; omega)
      rw [bt_cons] at this
      exact ⟨by simp only [List.length_cons] at this ⊢; omega, this.2⟩
    have hz := h.nz (by simp)
    obtain ⟨ih, hg⟩ := encF_whole (d :: t) g (by simpa using hf) hW
    have hc0 := (h.cont 0 (by simp)).2
    rw [bt_zero] at hc0
    have ev : hi (c :: d :: t) 0 (c :: d :: t).length = c.toNat % 128 + 128 * hi (d :: t) 0 (d :: t).length := by
      rw [List.length_cons, hi, bt_zero, hi_cons]
    have hclt := UInt8.toNat_lt c
    have hpos : 0 < hi (d :: t) 0 (d :: t).length := by
      rcases Nat.eq_zero_or_pos (hi (d :: t) 0 (d :: t).length) with e | e
      · exfalso
        have h2 := hi_snoc (d :: t) t.length 0
        rw [List.length_cons] at e
        rw [e, Nat.zero_add] at h2
        simp only [List.length_cons, Nat.add_sub_cancel, bt_cons] at hz
        have h3 := h.last.2
        simp only [List.length_cons, Nat.add_sub_cancel, bt_cons] at h3
        have : 0 < bt (d :: t) t.length % 128 * 128 ^ t.length := Nat.mul_pos (by omega) (Nat.pow_pos (by omega))
        omega
      · exact e
    refine ⟨?_, by omega⟩
    rw [ev]
    simp only [encF]
    rw [if_neg (by omega), show (c.toNat % 128 + 128 * hi (d :: t) 0 (d :: t).length) / 128 = hi (d :: t) 0 (d :: t).length by omega, ih,
      show (c.toNat % 128 + 128 * hi (d :: t) 0 (d :: t).length) % 128 + 128 = c.toNat by omega]
    simp

/-- A number has one encoding. -/
theorem enc_dec {s : List UInt8} {v n : Nat} (h : dec s = (v, n, 0)) : enc v = s.take n ∧ n ≤ s.length := by
  have hk := kOf_le s
  have hs := kOf_spec s
  have hd := dec_of (s := s) rfl
  rw [h] at hd
  split at hd
  · cases hd
  · split at hd
    · cases hd
    · split at hd
      · cases hd
      · rename_i h1 h2 h3
        simp only [Prod.mk.injEq, and_true] at hd
        obtain ⟨rfl, rfl⟩ := hd
        have hl : (s.take (kOf s + 1)).length = kOf s + 1 := by simp; omega
        have hbt : ∀ j, j < kOf s + 1 → bt (s.take (kOf s + 1)) j = bt s j := fun j hj => by
          unfold bt; rw [List.getElem?_take, if_pos hj]
        have hhi : hi (s.take (kOf s + 1)) 0 (kOf s + 1) = hi s 0 (kOf s + 1) := by
          have := hi_append (s.take (kOf s + 1)) (s.drop (kOf s + 1)) (kOf s + 1) 0 (by omega)
          rw [List.take_append_drop] at this
          exact this.symm
        have hlt : kOf s < 10 := by omega
        have hW : Whole (s.take (kOf s + 1)) (s.take (kOf s + 1)).length (hi (s.take (kOf s + 1)) 0 (s.take (kOf s + 1)).length) := by
          rw [hl]
          refine ⟨by omega, fun j hj => ?_, ⟨by omega, ?_⟩, fun h => ?_, rfl⟩
          · rw [hbt j (by omega)]; exact ⟨by omega, (hs.2.1 j (by omega)).2⟩
          · rw [Nat.add_sub_cancel, hbt _ (by omega)]; have := hs.2.2 hlt; omega
          · rw [Nat.add_sub_cancel, hbt _ (by omega)]; omega
        have := (encF_whole _ 10 (by omega) hW).1
        rw [hl, hhi] at this
        exact ⟨this, by omega⟩
end Go.VC
