/- Packs of numbers: made, asked. Packs: found in, compared; the laws that make them. Packs made of words; the law on them. Packs iterated over; the law on that. -/
import Derived.Test.YtomajpihimlcjaaDoorSa
import Derived.Test.YtomajpihimlcjaaDoorRa
import Derived.Test.YtomajpihimlcjaaDoorBP
import Derived.Test.YtomajpihimlcjaaDoorLa
namespace Go.VC
open Go
/-- The bits of numbers of one width. -/
def pkBits (wd : Nat) (xs : List Nat) : List Bool := xs.flatMap fun x => lowb x wd
theorem pk_len (wd : Nat) (xs : List Nat) : (pkBits wd xs).length = wd * xs.length := by
  unfold pkBits
  induction xs with
  | nil => rfl
  | cons x xs ih => rw [List.flatMap_cons, List.length_append, ih, lowb_len, List.length_cons, Nat.mul_add]; omega
theorem pk_snoc (wd : Nat) (xs : List Nat) (x : Nat) : pkBits wd (xs ++ [x]) = pkBits wd xs ++ lowb x wd := by
  unfold pkBits; rw [List.flatMap_append]; simp
theorem pk_bg {wd : Nat} : ∀ {xs : List Nat} {i j : Nat}, i < xs.length → j < wd → bg (pkBits wd xs) (i * wd + j) = (wg xs i).testBit j
  | [], i, j, hi, _ => by simp at hi
  | x :: xs, 0, j, _, hj => by
    unfold bg pkBits
    rw [List.flatMap_cons, Nat.zero_mul, Nat.zero_add, List.getElem?_append_left (by rw [lowb_len]; exact hj)]
    unfold lowb wg
    simp [hj]
  | x :: xs, i + 1, j, hi, hj => by
    have ih := pk_bg (xs := xs) (i := i) (j := j) (by simpa using hi) hj
    have e : (i + 1) * wd + j = wd + (i * wd + j) := by rw [Nat.succ_mul]; omega
    have hw : wg (x :: xs) (i + 1) = wg xs i := by unfold wg; simp
    rw [hw, ← ih, e]
    unfold bg pkBits
    rw [List.flatMap_cons, List.getElem?_append_right (by rw [lowb_len]; omega), lowb_len, Nat.add_sub_cancel_left]
theorem wg_mem {xs : List Nat} {i : Nat} (hi : i < xs.length) : wg xs i ∈ xs := by
  unfold wg; rw [List.getElem?_eq_getElem hi]; exact List.getElem_mem hi
theorem pk_cut {wd : Nat} {xs : List Nat} (h : ∀ x ∈ xs, x < 2 ^ wd) {i : Nat} (hi : i < xs.length) : cutL (pkBits wd xs) ((i * wd : Nat) : Int) wd = wg xs i := by
  unfold cutL
  have h1 : ofB (fun j => bz (pkBits wd xs) (((i * wd : Nat) : Int) + j)) wd = ofB (wg xs i).testBit wd := by
    refine ofB_congr fun j hj => ?_
    unfold bz
    rw [decide_eq_true (Int.add_nonneg (Int.natCast_nonneg _) (Int.natCast_nonneg _)), Bool.true_and, show (((i * wd : Nat) : Int) + (j : Int)).toNat = i * wd + j by omega, pk_bg hi hj]
  rw [h1, ofB_testBit]
  exact Nat.mod_eq_of_lt (h _ (wg_mem hi))
theorem bg_ext {a b : List Bool} (hl : a.length = b.length) (h : ∀ i, i < a.length → bg a i = bg b i) : a = b := by
  apply List.ext_getElem hl
  intro i h1 h2
  have := h i h1
  unfold bg at this
  rwa [List.getElem?_eq_getElem h1, List.getElem?_eq_getElem h2] at this
/-- The numbers that bits hold. -/
def pkNums (wd n : Nat) (bits : List Bool) : List Nat := (List.range n).map fun i => cutL bits ((i * wd : Nat) : Int) wd
theorem pkNums_len (wd n : Nat) (bits : List Bool) : (pkNums wd n bits).length = n := by simp [pkNums]
theorem pkNums_at {wd n : Nat} {bits : List Bool} {i : Nat} (hi : i < n) : wg (pkNums wd n bits) i = cutL bits ((i * wd : Nat) : Int) wd := by unfold wg pkNums; simp [hi]
theorem pkNums_lt {wd n : Nat} {bits : List Bool} : ∀ x ∈ pkNums wd n bits, x < 2 ^ wd := fun x hx => by
  obtain ⟨i, _, rfl⟩ := List.mem_map.1 hx
  exact ofB_lt _ _
theorem pk_of {wd n : Nat} {bits : List Bool} (h : bits.length = n * wd) : pkBits wd (pkNums wd n bits) = bits := by
  apply bg_ext
  · rw [pk_len, pkNums_len, h, Nat.mul_comm]
  · intro p hp
    rw [pk_len, pkNums_len] at hp
    have hw : 0 < wd := by
      rcases Nat.eq_zero_or_pos wd with e | e
      · subst e; omega
      · exact e
    have h1 : p / wd < n := (Nat.div_lt_iff_lt_mul hw).2 (by rw [Nat.mul_comm]; exact hp)
    have h2 : p % wd < wd := Nat.mod_lt _ hw
    have e : p / wd * wd + p % wd = p := by rw [Nat.mul_comm]; exact Nat.div_add_mod p wd
    have := pk_bg (wd := wd) (xs := pkNums wd n bits) (i := p / wd) (j := p % wd) (by rw [pkNums_len]; exact h1) h2
    rw [e] at this
    rw [this, pkNums_at h1]
    unfold cutL
    rw [testBit_ofB]
    unfold bz
    rw [decide_eq_true (Int.add_nonneg (Int.natCast_nonneg _) (Int.natCast_nonneg _)), Bool.true_and, show (((p / wd * wd : Nat) : Int) + ((p % wd : Nat) : Int)).toNat = p by omega]
    simp [h2]
/-- The greatest of some numbers. -/
def maxN (xs : List Nat) : Nat := xs.foldl max 0
theorem maxN_snoc (xs : List Nat) (x : Nat) : maxN (xs ++ [x]) = max (maxN xs) x := by unfold maxN; rw [List.foldl_append]; rfl
theorem maxN_lt {xs : List Nat} {k : Nat} (hk : 0 < k) : maxN xs < k ↔ ∀ x ∈ xs, x < k := by
  have : ∀ (xs : List Nat) (a : Nat), xs.foldl max a < k ↔ a < k ∧ ∀ x ∈ xs, x < k := by
    intro xs
    induction xs with
    | nil => simp
    | cons x xs ih => intro a; rw [List.foldl_cons, ih]; simp only [List.mem_cons, forall_eq_or_imp]; rw [Nat.max_lt, and_assoc]
  unfold maxN
  rw [this]; simp [hk]
theorem take_succ_wg {xs : List Nat} {m : Nat} (hm : m < xs.length) : xs.take (m + 1) = xs.take m ++ [wg xs m] := by
  rw [List.take_add_one, List.getElem?_eq_getElem hm]; unfold wg; rw [List.getElem?_eq_getElem hm]; rfl
end Go.VC

namespace Go.Proofs.YtomajpihimlcjaaDoor.V
open Go Go.VC
variable {w w' w0 : World} {l : Slc} {bits : List Bool} {ws xs : List Nat} {p r B wd n : Nat}

theorem bitLen_mono {a b : Nat} (h : a ≤ b) (hb : b < 18446744073709551616) : Lib.bitLen a ≤ Lib.bitLen b :=
  bitLen_le_of_lt (Nat.lt_of_le_of_lt h (lt_of_bitLen _ b hb (Nat.le_refl _))) (by omega)
theorem bitLen_max {a b : Nat} (ha : a < 18446744073709551616) (hb : b < 18446744073709551616) : max (Lib.bitLen a) (Lib.bitLen b) = Lib.bitLen (max a b) := by
  rcases Nat.le_total a b with h | h
  · have := bitLen_mono h hb; rw [Nat.max_eq_right h, Nat.max_eq_right this]
  · have := bitLen_mono h ha; rw [Nat.max_eq_left h, Nat.max_eq_left this]
theorem maxN_fits (hlt : ∀ x ∈ xs, x < 18446744073709551616) : (Lib.bitLen (maxN xs) ≤ wd) ↔ ∀ x ∈ xs, x < 2 ^ wd := by
  have hm : maxN xs < 18446744073709551616 := (maxN_lt (by omega)).2 hlt
  rw [← maxN_lt (Nat.two_pow_pos _)]
  exact ⟨fun h => lt_of_bitLen _ _ hm h, fun h => bitLen_le_of_lt h hm⟩
theorem bitLen_le64 {x : Nat} (h : x < 18446744073709551616) : Lib.bitLen x ≤ 64 := bitLen_le_of_lt (by simpa using h) h

/-- A pack of numbers, its blocks from B on. -/
def PackB (w : World) (p wd : Nat) (xs : List Nat) (B : Nat) : Prop :=
  ∃ r, Blk w p [.pointer (some ⟨r, 0, none⟩), .int .i64 (wd : Int), .int .i64 (xs.length : Int)] 150 ∧ RowB w r (pkBits wd xs) B ∧ wd ≤ 64 ∧ (∀ x ∈ xs, x < 2 ^ wd) ∧ B ≤ p
theorem PackB.kp {S : Nat → Prop} (h : PackB w p wd xs B) (g : Kp S w w') (hn : ∀ k, B ≤ k → ¬ S k) : PackB w' p wd xs B := by
  obtain ⟨r, h1, h2, h3, h4, h5⟩ := h
  exact ⟨r, h1.kp g (hn _ h5), h2.kp g (fun k h _ => hn k h), h3, h4, h5⟩
theorem PackB.kpo (h : PackB w p wd xs B) (g : Kp no w w') : PackB w' p wd xs B := h.kp g (fun _ _ f => f)

theorem pGreatest (h : RdW w l ws) (hsz : l.len ≤ 1099511627776) : Is 127 #[.slice l.a l.len l.cap] w (.int .u64 (maxN ws)) := by
  refine c127 _ _ _ ?_
  unfold B127
  have hl := h.len
  refine ⟨fun a i w' => w' = w ∧ ∃ m : Nat, i = m ∧ m ≤ ws.length ∧ a = (maxN (ws.take m) : Nat), fun _ i _ => (l.len - i).toNat, ⟨rfl, 0, rfl, by omega, rfl⟩, ?_⟩
  rintro a i w1 ⟨rfl, m, rfl, hm, rfl⟩
  refine br_dec (fun hlt => ?_) (fun hlt => ?_)
  · obtain ⟨a, ha, hc⟩ := h.at (i := (m : Int)) (by omega) hlt
    refine ⟨by omega, hlt, a, ha, _, hc, ?_⟩
    rw [Int.toNat_natCast, w64 ⟨by omega, by omega⟩]
    refine ⟨⟨rfl, m + 1, by omega, by omega, ?_⟩, by dsimp only; omega⟩
    rw [take_succ_wg (by omega), maxN_snoc]; omega
  · obtain rfl : m = ws.length := by omega
    rw [List.take_length]; exact ⟨rfl, rfl⟩

theorem pRWidth (h : RdW w l ws) (hsz : l.len ≤ 1099511627776) : Is 61 #[.slice l.a l.len l.cap] w (.int .i64 (Lib.bitLen (maxN ws))) := by
  refine c61 _ _ _ ?_
  unfold B61
  have hl := h.len
  refine ⟨fun a i w' => w' = w ∧ ∃ m : Nat, i = m ∧ m ≤ ws.length ∧ a = (Lib.bitLen (maxN (ws.take m)) : Nat), fun _ i _ => (l.len - i).toNat, ⟨rfl, 0, rfl, by omega, rfl⟩, ?_⟩
  rintro a i w1 ⟨rfl, m, rfl, hm, rfl⟩
  refine br_dec (fun hlt => ?_) (fun hlt => ?_)
  · obtain ⟨a, ha, hc⟩ := h.at (i := (m : Int)) (by omega) hlt
    refine ⟨by omega, hlt, a, ha, _, hc, ?_⟩
    rw [Int.toNat_natCast]
    have hx := wg_lt h.lt m
    refine usei (rwidth _ _ hx) ⟨_, rfl, ?_⟩
    rw [w64 ⟨by omega, by omega⟩]
    refine ⟨⟨rfl, m + 1, by omega, by omega, ?_⟩, by dsimp only; omega⟩
    have ht : maxN (ws.take m) < 18446744073709551616 := (maxN_lt (by omega)).2 fun x hx => h.lt x (List.mem_of_mem_take hx)
    rw [take_succ_wg (by omega), maxN_snoc, ← bitLen_max ht hx]; omega
  · obtain rfl : m = ws.length := by omega
    rw [List.take_length]; exact ⟨rfl, rfl⟩

theorem pMade (h : RdW w l ws) (hsz : ws.length ≤ 1000000000) (hwd : wd ≤ 64) (hf : ∀ x ∈ ws, x < 2 ^ wd) : Calls Tryd.prog 126 #[.int .i64 wd, .slice l.a l.len l.cap] w (Rv fun v w' => ∃ p, v = .pointer (some ⟨p, 0, none⟩) ∧ PackB w' p wd ws w.heap.size ∧ Kp no w w') := by
  refine c126 _ _ _ _ ?_
  unfold B126
  have hl := h.len
  refine use (newB w) ?_
  rintro _ w1 ⟨r, rfl, hr, k1⟩
  have hs1 := k1.size
  refine ⟨_, rfl, ?_⟩
  have kA : Kp no w1 (w1.alloc (.cells #[.pointer (some ⟨r, 0, none⟩), .int .i64 (wd : Int), .int .i64 (l.len : Int)] 150)) := (Kp.refl _ _).alloc _ _
  have bA : Blk (w1.alloc (.cells #[.pointer (some ⟨r, 0, none⟩), .int .i64 (wd : Int), .int .i64 (l.len : Int)] 150)) w1.heap.size [.pointer (some ⟨r, 0, none⟩), .int .i64 (wd : Int), .int .i64 (l.len : Int)] 150 := Blk.new _ _ _
  have hrlt : ∃ lr, Row w1 r lr [] ∧ ∀ k, RF r lr k → w.heap.size ≤ k := hr
  obtain ⟨lr, hrow, hrb⟩ := hrlt
  have hrA := hrow.kp kA (fun _ _ f => f)
  have hsA : (w1.alloc (.cells #[.pointer (some ⟨r, 0, none⟩), .int .i64 (wd : Int), .int .i64 (l.len : Int)] 150)).heap.size = w1.heap.size + 1 := World.size_alloc _ _
  have hnp : ∀ k, RF r lr k → k < w1.heap.size := fun k hk => hrow.lt hk
  generalize w1.alloc (.cells #[.pointer (some ⟨r, 0, none⟩), .int .i64 (wd : Int), .int .i64 (l.len : Int)] 150) = w2 at *
  refine ⟨fun i w' => ∃ (m : Nat) (lr : Slc), i = m ∧ m ≤ ws.length ∧ Kp no w w' ∧ Blk w' w1.heap.size [.pointer (some ⟨r, 0, none⟩), .int .i64 (wd : Int), .int .i64 (l.len : Int)] 150 ∧ Row w' r lr (pkBits wd (ws.take m)) ∧
    (∀ k, RF r lr k → w.heap.size ≤ k ∧ k ≠ w1.heap.size), fun i _ => (l.len - i).toNat, ⟨0, lr, rfl, by omega, k1.t kA, bA, hrA, fun k hk => ⟨hrb k hk, by have := hnp k hk; omega⟩⟩, ?_⟩
  rintro i w3 ⟨m, lr, rfl, hm, k3, b3, r3, f3⟩
  refine br_dec (fun hlt => ?_) (fun hlt => ?_)
  · obtain ⟨a, ha, hc⟩ := (h.kp k3 (fun _ _ f => f)).at (i := (m : Int)) (by omega) hlt
    have hx := wg_lt h.lt m
    have hxf := hf _ (wg_mem (show m < ws.length by omega))
    have hpl := pk_len wd (ws.take m)
    have hb1 : wd * (ws.take m).length ≤ 64 * 1000000000 := Nat.mul_le_mul hwd (by rw [List.length_take]; omega)
    refine ⟨by omega, hlt, a, ha, _, hc, _, b3.cell 0, ?_⟩
    rw [Int.toNat_natCast]
    refine use (add1 r3 (by omega) _ hx wd) ?_
    rintro _ w4 ⟨o, rfl, r4, k4, f4⟩
    rw [addS_ok hwd hxf hx] at r4 ⊢
    refine ⟨_, rfl, ?_⟩
    rw [w64 ⟨by omega, by omega⟩]
    have hb4 := b3.kp k4 (fun hk => (f3 _ hk).2 rfl)
    have hs3 := k3.size
    refine ⟨⟨m + 1, o, by omega, by omega, k3.trans k4 (fun k h1 h2 => by have := (f3 k h2).1; omega), hb4, ?_, fun k hk => ?_⟩, by dsimp only; omega⟩
    · rw [take_succ_wg (by omega), pk_snoc]; exact r4
    · rcases hk with rfl | hk
      · exact f3 _ (.inl rfl)
      · rcases f4 k hk with g | g
        · exact f3 k (.inr g)
        · have := b3.lt; exact ⟨by omega, by omega⟩
  · obtain rfl : m = ws.length := by omega
    rw [List.take_length] at r3
    exact ⟨_, rfl, ⟨r, by rw [hl]; exact b3, ⟨lr, r3, fun k hk => (f3 k hk).1⟩, hwd, hf, hs1⟩, k3⟩

theorem pFit (h : RdW w l ws) (hsz : ws.length ≤ 1000000000) : Calls Tryd.prog 59 #[.slice l.a l.len l.cap] w (Rv fun v w' => ∃ p, v = .pointer (some ⟨p, 0, none⟩) ∧ PackB w' p (Lib.bitLen (maxN ws)) ws w.heap.size ∧ Kp no w w') := by
  refine c59 _ _ _ ?_
  unfold B59
  have hl := h.len
  have hm : maxN ws < 18446744073709551616 := (maxN_lt (by omega)).2 h.lt
  refine usei (pGreatest h (by omega)) ⟨_, rfl, usei (width _ _ hm) ⟨_, rfl, use (pMade h hsz (bitLen_le64 hm) ((maxN_fits h.lt).1 (Nat.le_refl _))) ?_⟩⟩
  rintro _ w1 ⟨p, rfl, hp, k1⟩
  exact ⟨_, rfl, p, rfl, hp, k1⟩

theorem pNew (h : RdW w l ws) (hsz : ws.length ≤ 1000000000) (x : Int) : Calls Tryd.prog 100 #[.int .i64 x, .slice l.a l.len l.cap] w (Rv fun v w' => Kp no w w' ∧
    ((v = .tuple #[.pointer none, .int .i64 1] ∧ (x < 0 ∨ 64 < x)) ∨ (v = .tuple #[.pointer none, .int .i64 8] ∧ 0 ≤ x ∧ x ≤ 64 ∧ x < Lib.bitLen (maxN ws)) ∨
     ∃ p, v = .tuple #[.pointer (some ⟨p, 0, none⟩), .int .i64 0] ∧ 0 ≤ x ∧ x ≤ 64 ∧ (Lib.bitLen (maxN ws) : Int) ≤ x ∧ PackB w' p x.toNat ws w.heap.size)) := by
  refine c100 _ _ _ _ ?_
  unfold B100
  have hl := h.len
  have hm : maxN ws < 18446744073709551616 := (maxN_lt (by omega)).2 h.lt
  refine br_dec (fun h1 => ⟨Kp.refl _ _, .inl ⟨rfl, .inl h1⟩⟩) (fun h1 => br_dec (fun h2 => ⟨Kp.refl _ _, .inl ⟨rfl, .inr h2⟩⟩) (fun h2 => ?_))
  refine usei (pGreatest h (by omega)) ⟨_, rfl, usei (width _ _ hm) ⟨_, rfl, br_dec (fun h3 => ⟨Kp.refl _ _, .inr (.inl ⟨rfl, by omega, by omega, h3⟩)⟩) (fun h3 => ?_)⟩⟩
  obtain ⟨x, rfl⟩ : ∃ j : Nat, x = j := ⟨x.toNat, by omega⟩
  refine use (pMade h hsz (by omega) ((maxN_fits h.lt).1 (by omega))) ?_
  rintro _ w1 ⟨p, rfl, hp, k1⟩
  exact ⟨_, rfl, k1, .inr (.inr ⟨p, rfl, by omega, by omega, by omega, by simpa using hp⟩)⟩

theorem pLen (h : PackB w p wd xs B) : Is 63 #[.pointer (some ⟨p, 0, none⟩)] w (.int .i64 xs.length) := by
  obtain ⟨r, h1, _⟩ := h
  exact c63 _ _ _ ⟨_, h1.cell 2, rfl, rfl⟩
theorem pWidth (h : PackB w p wd xs B) : Is 64 #[.pointer (some ⟨p, 0, none⟩)] w (.int .i64 wd) := by
  obtain ⟨r, h1, _⟩ := h
  exact c64 _ _ _ ⟨_, h1.cell 1, rfl, rfl⟩
theorem pWords (h : PackB w p wd xs B) (hsz : xs.length ≤ 1000000000) : Calls Tryd.prog 65 #[.pointer (some ⟨p, 0, none⟩)] w (Rv fun v w' => ∃ o : Slc, v = .slice o.a o.len o.cap ∧
    Ownd w' o 22 1 ((wordsOf (pkBits wd xs)).map U) ∧ Kp no w w' ∧ ∀ k, On o k → w.heap.size ≤ k) := by
  obtain ⟨r, h1, ⟨lr, h2, _⟩, h3, _⟩ := h
  refine c65 _ _ _ ?_
  unfold B65
  have hpl := pk_len wd xs
  have hb1 : wd * xs.length ≤ 64 * 1000000000 := Nat.mul_le_mul h3 hsz
  refine ⟨_, h1.cell 0, use (words1 h2 (by omega)) ?_⟩
  rintro _ w1 ⟨o, rfl, ho⟩
  exact ⟨o, rfl, o, rfl, ho⟩
/-- The number at a place, or 0. -/
def atU (xs : List Nat) (i : Int) : Nat := if 0 ≤ i ∧ i < xs.length then wg xs i.toNat else 0
theorem pAt (h : PackB w p wd xs B) (hsz : xs.length ≤ 1000000000) (i : Int) : IsK 102 #[.pointer (some ⟨p, 0, none⟩), .int .i64 i] w (.int .u64 (atU xs i)) := by
  obtain ⟨r, h1, ⟨lr, h2, _⟩, h3, h4, _⟩ := h
  refine c102 _ _ _ _ ?_
  unfold B102
  have hpl := pk_len wd xs
  have hb1 : wd * xs.length ≤ 64 * 1000000000 := Nat.mul_le_mul h3 hsz
  have z : ¬ (0 ≤ i ∧ i < (xs.length : Int)) → (Value.int .u64 0 = .int .u64 (atU xs i) ∧ Kp no w w) := fun hh => by unfold atU; rw [if_neg hh]; exact ⟨rfl, Kp.refl _ _⟩
  have kd : Kp no w w.drew := (Kp.refl _ _).drew
  refine br_dec (fun h5 => z (by omega)) (fun h5 => ⟨_, h1.cell 2, br_dec (fun h6 => z (by omega)) (fun h6 => ⟨_, (h1.kp kd id).cell 0, _, (h1.kp kd id).cell 1, _, (h1.kp kd id).cell 1, ?_⟩)⟩)
  obtain ⟨i, rfl⟩ : ∃ j : Nat, i = j := ⟨i.toNat, by omega⟩
  have hb2 : i * wd ≤ xs.length * wd := Nat.mul_le_mul_right wd (by omega)
  rw [Nat.mul_comm xs.length wd] at hb2
  have e1 : IntKind.i64.wrap ((i : Int) * (wd : Int)) = ((i * wd : Nat) : Int) := by rw [w64 ⟨by rw [← Int.natCast_mul]; omega, by rw [← Int.natCast_mul]; omega⟩, Int.natCast_mul]
  rw [e1]
  have hcl : clampW (wd : Int) = wd := by unfold clampW; omega
  refine usei (cut1 (h2.kp kd (fun _ _ f => f)) (by omega) _ _ ⟨by omega, by omega⟩) ⟨_, rfl, ?_, kd⟩
  rw [hcl, pk_cut h4 (by omega)]
  unfold atU
  rw [if_pos (by omega), Int.toNat_natCast]
theorem pLenN (w : World) : Is 63 #[.pointer none] w (.int .i64 0) := c63n _ _ ⟨rfl, rfl⟩
theorem pWidthN (w : World) : Is 64 #[.pointer none] w (.int .i64 0) := c64n _ _ ⟨rfl, rfl⟩
theorem pAtN (w : World) (i : Int) : Is 102 #[.pointer none, .int .i64 i] w (.int .u64 0) := c102n _ _ _ ⟨rfl, rfl⟩
theorem pWordsN (w : World) : Is 65 #[.pointer none] w (.slice none 0 0) := c65n _ _ ⟨rfl, rfl⟩
end Go.Proofs.YtomajpihimlcjaaDoor.V

namespace Go.Proofs.YtomajpihimlcjaaDoor.V
open Go Go.VC
variable {w w' w0 : World} {l : Slc} {bits : List Bool} {ws xs : List Nat} {p r B wd n : Nat}

theorem pFind (h : PackB w p wd xs B) (hsz : xs.length ≤ 1000000000) (lo hi : Int) (v : Nat)
    (hm : ∀ i j : Nat, lo ≤ i → i ≤ j → (j : Int) < hi → j < xs.length → wg xs i ≤ wg xs j) :
    Calls Tryd.prog 138 #[.pointer (some ⟨p, 0, none⟩), .int .i64 lo, .int .i64 hi, .int .u64 v] w (Rv fun u w' => Kp no w w' ∧ ∃ r : Int, u = .int .i64 r ∧ FindP xs lo hi v r) := by
  refine c138 _ _ _ _ _ _ ?_
  unfold B138
  refine usei (pLen h) ⟨_, rfl, fun x y w' => Kp no w w' ∧ ∃ a : Nat, x = a ∧ max lo 0 ≤ a ∧ y ≤ min hi (xs.length : Int) ∧ ((a : Int) ≤ y ∨ (y = min hi (xs.length : Int) ∧ (a : Int) = max lo 0)) ∧ (∀ i : Nat, lo ≤ i → i < a → (i : Int) < hi → i < xs.length → wg xs i < v) ∧
    (∀ i : Nat, y ≤ i → (i : Int) < min hi (xs.length : Int) → lo ≤ i → v ≤ wg xs i), fun x y _ => (y - x).toNat, ⟨Kp.refl _ _, (max lo 0).toNat, by omega, by omega, by omega, .inr ⟨rfl, by omega⟩, fun i h1 h2 => by omega, fun i h1 h2 => by omega⟩, ?_⟩
  rintro x y w1 ⟨k1, a, rfl, ha, hy, hay, h1, h2⟩
  refine br_dec (fun hlt => ⟨by omega, ?_⟩) (fun hlt => ?_)
  · obtain ⟨b, rfl⟩ : ∃ b : Nat, y = b := ⟨y.toNat, by omega⟩
    have e1 : IntKind.i64.wrap ((a : Int) + IntKind.i64.wrap (Int.tdiv (IntKind.i64.wrap ((b : Int) - (a : Int))) 2)) = ((a + (b - a) / 2 : Nat) : Int) := by
      rw [w64 (x := (b : Int) - (a : Int)) ⟨by omega, by omega⟩, Int.tdiv_eq_ediv_of_nonneg (by omega), w64 (x := ((b : Int) - (a : Int)) / 2) ⟨by omega, by omega⟩, w64 ⟨by omega, by omega⟩]; omega
    rw [e1]
    have hat : atU xs ((a + (b - a) / 2 : Nat) : Int) = wg xs (a + (b - a) / 2) := by unfold atU; rw [if_pos (by omega), Int.toNat_natCast]
    refine usek (pAt (h.kpo k1) hsz _) fun w2 k2 => ⟨_, rfl, ?_⟩
    rw [hat]
    refine br_dec (fun h3 => ?_) (fun h3 => ?_)
    · rw [w64 ⟨by omega, by omega⟩]
      refine ⟨⟨k1.t k2, a + (b - a) / 2 + 1, by omega, by omega, by omega, .inl (by omega), fun i g1 g2 g3 g4 => ?_, h2⟩, by dsimp only; omega⟩
      by_cases e : i < a
      · exact h1 i g1 e g3 g4
      · have := hm i (a + (b - a) / 2) g1 (by omega) (by omega) (by omega)
        omega
    · refine ⟨⟨k1.t k2, a, rfl, ha, by omega, .inl (by omega), h1, fun i g1 g2 g3 => ?_⟩, by dsimp only; omega⟩
      have := hm (a + (b - a) / 2) i (by omega) (by omega) (by omega) (by omega)
      omega
  · refine br_dec (fun h3 => ⟨k1, _, rfl, .inl ⟨rfl, fun i g1 g2 g3 => h1 i g1 (by omega) g2 g3⟩⟩) (fun h3 => ⟨k1, _, rfl, .inr ⟨a, rfl, by omega, by omega, by omega, h2 a (by omega) (by omega) (by omega), fun i g1 g2 => h1 i g1 g2 (by omega) (by omega)⟩⟩)

theorem pRWords (h : RdW w l ws) (hsz : ws.length ≤ 1000000000) (hwd : wd ≤ 64) : Calls Tryd.prog 66 #[.int .i64 wd, .slice l.a l.len l.cap] w (Rv fun v w' => ∃ o : Slc, v = .slice o.a o.len o.cap ∧
    Ownd w' o 22 1 ((wordsOf (pkBits wd ws)).map U) ∧ Kp no w w' ∧ ∀ k, On o k → w.heap.size ≤ k) := by
  refine c66 _ _ _ _ ?_
  unfold B66
  have hl := h.len
  have hb1 : ∀ m, m ≤ ws.length → wd * m ≤ 64 * 1000000000 := fun m hm => Nat.mul_le_mul hwd (by omega)
  refine ⟨fun o i w' => ∃ m : Nat, i = m ∧ m ≤ ws.length ∧ Ownd w' o 4 1 ((pkBits wd (ws.take m)).map Value.bool) ∧ Kp no w w' ∧ ∀ k, On o k → w.heap.size ≤ k, fun _ i _ => (l.len - i).toNat, ⟨0, rfl, by omega, Ownd.nil _ _ _, Kp.refl _ _, fun k hk => absurd hk On.nil⟩, ?_⟩
  rintro o i w1 ⟨m, rfl, hm, ho, k1, f1⟩
  have hol := ho.rdB.len
  have hpl := pk_len wd (ws.take m)
  have hb2 := hb1 m hm
  have htl : (ws.take m).length = m := by rw [List.length_take]; omega
  rw [htl] at hpl
  refine br_dec (fun hlt => ?_) (fun hlt => ?_)
  · obtain ⟨a, ha, hc⟩ := (h.kp k1 (fun _ _ f => f)).at (i := (m : Int)) (by omega) hlt
    refine ⟨by omega, hlt, a, ha, _, hc, ?_⟩
    rw [Int.toNat_natCast]
    refine use (add2 ho.rdB (by omega) _ (wg_lt h.lt m) wd hwd) ?_
    rintro _ w2 ⟨o2, rfl, ho2, k2, f2⟩
    refine ⟨o2, rfl, ?_⟩
    rw [w64 ⟨by omega, by omega⟩]
    refine ⟨⟨m + 1, by omega, by omega, ?_, k1.t k2, fun k hk => by have := f2 k hk; have := k1.size; omega⟩, by dsimp only; omega⟩
    rw [take_succ_wg (by omega), pk_snoc]; exact ho2
  · obtain rfl : m = ws.length := by omega
    rw [List.take_length] at ho
    refine use (words2 ho.rdB (by omega)) ?_
    rintro _ w2 ⟨o2, rfl, ho2, k2, f2⟩
    exact ⟨o2, rfl, o2, rfl, ho2, k1.t k2, fun k hk => by have := f2 k hk; have := k1.size; omega⟩

theorem rdW_lit (w : World) (xs : List Nat) (h : ∀ x ∈ xs, x < 18446744073709551616) (T : TypeId) : RdW (w.alloc (.cells (xs.map U).toArray T)) ⟨some ⟨w.heap.size, 0, none⟩, xs.length, xs.length⟩ xs :=
  ⟨rfl, by have := blk2 w (xs.map U) T; rwa [List.length_map] at this, h⟩

theorem brN {x y : Prop} (h : x) : br (none : Option Addr).isNone x y := h
end Go.Proofs.YtomajpihimlcjaaDoor.V

namespace Go.Proofs.YtomajpihimlcjaaDoor.V
open Go Go.VC
variable {w w' w0 : World} {l : Slc} {bits : List Bool} {ws xs : List Nat} {p r B wd n : Nat}

theorem brT {x y : Prop} (h : x) : br (!false) x y := h
theorem brF {x y : Prop} (h : y) : br (!true) x y := h
theorem pOf (h : RdW w l ws) (hsz : l.len ≤ 1000000) (x y : Int) (_hx : -9223372036854775808 ≤ x ∧ x ≤ 9223372036854775807) : Calls Tryd.prog 129 #[.int .i64 x, .int .i64 y, .slice l.a l.len l.cap] w (Rv fun v w' => Kp no w w' ∧
    ((v = .tuple #[.pointer none, .int .i64 1] ∧ (x < 0 ∨ 64 < x ∨ y < 0 ∨ 67108864 < y ∨ ((y * x).toNat + 63) / 64 ≠ ws.length)) ∨
     (0 ≤ x ∧ x ≤ 64 ∧ 0 ≤ y ∧ y ≤ 67108864 ∧ ((y * x).toNat + 63) / 64 = ws.length ∧ (v = .tuple #[.pointer none, .int .i64 3] ∧ wordsOf (bitsW ws (y * x).toNat) ≠ ws ∨
       ∃ p, v = .tuple #[.pointer (some ⟨p, 0, none⟩), .int .i64 0] ∧ wordsOf (bitsW ws (y * x).toNat) = ws ∧ PackB w' p x.toNat (pkNums x.toNat y.toNat (bitsW ws (y * x).toNat)) 0)))) := by
  refine c129 _ _ _ _ _ ?_
  unfold B129
  refine br_dec (fun h1 => ⟨Kp.refl _ _, .inl ⟨rfl, .inl h1⟩⟩) (fun h1 => br_dec (fun h2 => ⟨Kp.refl _ _, .inl ⟨rfl, .inr (.inl h2)⟩⟩) (fun h2 => br_dec (fun h3 => ⟨Kp.refl _ _, .inl ⟨rfl, .inr (.inr (.inl h3))⟩⟩) (fun h3 => br_dec (fun h4 => ⟨Kp.refl _ _, .inl ⟨rfl, .inr (.inr (.inr (.inl h4)))⟩⟩) (fun h4 => ?_))))
  obtain ⟨x, rfl⟩ : ∃ j : Nat, x = j := ⟨x.toNat, by omega⟩
  obtain ⟨y, rfl⟩ : ∃ j : Nat, y = j := ⟨y.toNat, by omega⟩
  have hb : y * x ≤ 67108864 * 64 := Nat.mul_le_mul (by omega) (by omega)
  rw [show ((y : Int) * (x : Int)) = ((y * x : Nat) : Int) by rw [Int.natCast_mul]]
  rw [w64 (x := ((y * x : Nat) : Int)) ⟨by omega, by omega⟩]
  simp only [Int.toNat_natCast]
  refine use (of1 h hsz _ ⟨by omega, by omega⟩) ?_
  rintro _ w1 ⟨k1, hv⟩
  simp only [Int.toNat_natCast] at hv
  rcases hv with ⟨rfl, hh⟩ | ⟨rfl, hn, hh, hg⟩ | ⟨r, rl, rfl, hn, hh, hg, hr, _⟩
  · refine ⟨_, _, rfl, br_not (br_dec (fun hh => absurd hh (by decide)) (fun _ => ⟨k1, .inl ⟨rfl, ?_⟩⟩))⟩
    rcases hh with hh | hh
    · omega
    · exact .inr (.inr (.inr (.inr hh)))
  · exact ⟨_, _, rfl, br_not (br_dec (fun hh => absurd hh (by decide)) (fun _ => ⟨k1, .inr ⟨by omega, by omega, by omega, by omega, hh, .inl ⟨rfl, hg⟩⟩⟩))⟩
  · have kA : Kp no w1 (w1.alloc (.cells #[.pointer (some ⟨r, 0, none⟩), .int .i64 (x : Int), .int .i64 (y : Int)] 150)) := (Kp.refl _ _).alloc _ _
    refine ⟨_, _, rfl, br_not (br_dec (fun _ => ⟨k1.t kA, .inr ⟨by omega, by omega, by omega, by omega, hh, .inr ⟨_, rfl, hg, r, ?_, ⟨rl, ?_, fun _ _ => Nat.zero_le _⟩, by omega, pkNums_lt, Nat.zero_le _⟩⟩⟩) (fun hh => absurd rfl hh))⟩
    · rw [pkNums_len]; exact Blk.new _ _ _
    · rw [pk_of (by rw [bitsW_len])]
      exact hr.kp kA (fun _ _ f => f)

end Go.Proofs.YtomajpihimlcjaaDoor.V

namespace Go.Proofs.YtomajpihimlcjaaDoor.V
open Go Go.VC
variable {w w' w0 : World} {l : Slc} {bits : List Bool} {ws xs : List Nat} {p r b B wd n : Nat}

end Go.Proofs.YtomajpihimlcjaaDoor.V
