/- Rows and directories by a lower bound of their blocks; the cases of the chapters on directories. -/
import Derived.Test.YtilccklocaeebaaDp
import Derived.Test.YtilccklocaeebaaSp
namespace Go.VC
open Go
/-- One behind the other, again and again. -/
def cwBits (ws : List Nat) (t : Nat) : List Bool := (List.replicate t (ws.flatMap fun x => lowb x 64)).flatten
theorem cwBits_succ (ws : List Nat) (t : Nat) : cwBits ws (t + 1) = cwBits ws t ++ ws.flatMap fun x => lowb x 64 := by
  unfold cwBits; rw [List.replicate_succ', List.flatten_append]; simp
theorem lowb_len (x n : Nat) : (lowb x n).length = n := by simp [lowb]
theorem flat_len (ws : List Nat) : (ws.flatMap fun x => lowb x 64).length = 64 * ws.length := by
  induction ws with
  | nil => rfl
  | cons x ws ih => simp only [List.flatMap_cons, List.length_append, ih, lowb_len, List.length_cons]; omega
theorem cwBits_len (ws : List Nat) (t : Nat) : (cwBits ws t).length = t * (64 * ws.length) := by
  induction t with
  | zero => simp [cwBits]
  | succ t ih => rw [cwBits_succ, List.length_append, ih, flat_len, Nat.add_mul, Nat.one_mul]
theorem flat_take {ws : List Nat} {i : Nat} (hi : i < ws.length) : ((ws.take (i + 1)).flatMap fun x => lowb x 64) = ((ws.take i).flatMap fun x => lowb x 64) ++ lowb (wg ws i) 64 := by
  have : wg ws i = ws[i] := by unfold wg; rw [List.getElem?_eq_getElem hi]; rfl
  rw [this, List.take_add_one, List.getElem?_eq_getElem hi, List.flatMap_append]
  simp
/-- The bits of a case. -/
def caseBits (ws : List Nat) (t m n : Nat) : List Bool := cwBits ws t ++ lowb m n
theorem caseBits_len (ws : List Nat) (t m n : Nat) : (caseBits ws t m n).length = t * (64 * ws.length) + n := by
  unfold caseBits; rw [List.length_append, cwBits_len, lowb_len]
theorem caseBits_le {ws : List Nat} {t m n : Nat} (h1 : ws.length ≤ 6) (h2 : t ≤ 40) (h3 : n ≤ 64) : (caseBits ws t m n).length ≤ 15424 := by
  rw [caseBits_len]
  have := Nat.mul_le_mul h2 (Nat.mul_le_mul_left 64 h1)
  omega
theorem lowb_mod (m n : Nat) : lowb (m % 2 ^ n) n = lowb m n := by
  unfold lowb
  apply List.map_congr_left
  intro i hi
  rw [Nat.testBit_mod_two_pow]; simp [List.mem_range.1 hi]
theorem bitLen_le_of_lt {x k : Nat} (h : x < 2 ^ k) (hx : x < 18446744073709551616) : Lib.bitLen x ≤ k := by
  induction k generalizing x with
  | zero =>
    have : x = 0 := by simpa using h
    subst this; decide
  | succ k ih =>
    by_cases h0 : x = 0
    · subst h0; exact Nat.zero_le _
    · have h1 := Lib.bitLen_half x h0 (by simpa using hx)
      have := ih (x := x / 2) (by rw [Nat.pow_succ] at h; omega) (by omega)
      omega
end Go.VC

namespace Go.Proofs.Ytilccklocaeebaa.V
open Go Go.VC
variable {w w' w0 : World} {l : Slc} {bits : List Bool} {ws : List Nat} {d r B t m n : Nat}

theorem cutW_zero (m n : Nat) (hn : n ≤ 64) : cutW m 0 n = m % 2 ^ n := by
  unfold cutW
  have : clampW (n : Int) = n := by unfold clampW; omega
  rw [this, ← ofB_testBit]
  refine ofB_congr fun i _ => ?_
  unfold bitZ
  rw [show ((0 : Int) + (i : Int)).toNat = i by omega]; simp
theorem addS_ok {bits : List Bool} {x n : Nat} (hn : n ≤ 64) (hx : x < 2 ^ n) (h64 : x < 18446744073709551616) : addS bits x (n : Int) = (0, bits ++ lowb x n) := by
  have := bitLen_le_of_lt hx h64
  unfold addS
  rw [if_neg (by omega), if_neg (by omega)]
  simp
/-- A row whose blocks begin at B. -/
def RowB (w : World) (r : Nat) (bits : List Bool) (B : Nat) : Prop := ∃ l, Row w r l bits ∧ ∀ k, RF r l k → B ≤ k
theorem RowB.kp {S : Nat → Prop} (h : RowB w r bits B) (g : Kp S w w') (hn : ∀ k, B ≤ k → k < w.heap.size → ¬ S k) : RowB w' r bits B := by
  obtain ⟨l, h, hb⟩ := h
  exact ⟨l, h.kp g (fun k hk => hn k (hb k hk) (h.lt hk)), hb⟩
theorem RowB.kpo (h : RowB w r bits B) (g : Kp no w w') : RowB w' r bits B := h.kp g (fun _ _ _ f => f)
theorem RowB.row (h : RowB w r bits B) : ∃ l, Row w r l bits := ⟨_, h.choose_spec.1⟩

theorem newB (w : World) : Calls Try.prog 47 #[] w (Rv fun v w' => ∃ r, v = .pointer (some ⟨r, 0, none⟩) ∧ RowB w' r [] w.heap.size ∧ Kp no w w') :=
  use (new w) (by
    rintro _ w' ⟨rfl, h, k⟩
    refine ⟨_, rfl, ⟨_, h, fun j hj => ?_⟩, k⟩
    rcases hj with rfl | hj
    · exact Nat.le_refl _
    · exact absurd hj On.nil)

theorem addB (h : RowB w r bits B) (hB : B ≤ w.heap.size) (hsz : bits.length ≤ 549755813888) (x : Nat) (hx : x < 18446744073709551616) (n : Int) :
    Calls Try.prog 23 #[.pointer (some ⟨r, 0, none⟩), .int .u64 x, .int .i64 n] w (Rv fun v w' => v = .int .i64 (addS bits x n).1 ∧ RowB w' r (addS bits x n).2 B ∧ Kp (fun k => B ≤ k) w w') := by
  obtain ⟨l, h, hb⟩ := h
  refine use (add1 h hsz x hx n) ?_
  rintro _ w' ⟨o, rfl, h', k, f⟩
  refine ⟨rfl, ⟨o, h', fun j hj => ?_⟩, k.mono (fun j _ hj => hb j hj)⟩
  rcases hj with rfl | hj
  · exact hb _ (.inl rfl)
  · rcases f j hj with g | g
    · exact hb j (.inr g)
    · omega

/-- A directory of ranks whose blocks begin at B. -/
def DirB (w : World) (d : Nat) (bits : List Bool) (B : Nat) : Prop := ∃ lw lm ln, DirAt w d lw lm ln bits ∧ ∀ k, DF d lw lm ln k → B ≤ k
theorem DirB.kp {S : Nat → Prop} (h : DirB w d bits B) (g : Kp S w w') (hn : ∀ k, B ≤ k → ¬ S k) : DirB w' d bits B := by
  obtain ⟨lw, lm, ln, h, hb⟩ := h
  exact ⟨lw, lm, ln, h.kp g (fun k hk => hn k (hb k hk)), hb⟩
theorem DirB.kpo (h : DirB w d bits B) (g : Kp no w w') : DirB w' d bits B := h.kp g (fun _ _ f => f)

theorem lenB (h : DirB w d bits B) : Is 16 #[.pointer (some ⟨d, 0, none⟩)] w (.int .i64 bits.length) := by
  obtain ⟨lw, lm, ln, h, _⟩ := h; exact dLen h
theorem rankB (h : DirB w d bits B) (hsz : bits.length ≤ 1099511627776) (i : Int) : IsK 17 #[.pointer (some ⟨d, 0, none⟩), .int .i64 i] w (.int .i64 (cnt (bg bits) (clampL bits i) : Nat)) := by
  obtain ⟨lw, lm, ln, h, _⟩ := h; exact dRank h hsz i
theorem zerosB (h : DirB w d bits B) (hsz : bits.length ≤ 1099511627776) (i : Int) : IsK 19 #[.pointer (some ⟨d, 0, none⟩), .int .i64 i] w (.int .i64 (((clampL bits i : Nat) : Int) - (cnt (bg bits) (clampL bits i) : Nat))) := by
  obtain ⟨lw, lm, ln, h, _⟩ := h; exact dZeros h hsz i
theorem marksB (h : DirB w d bits B) (hsz : bits.length ≤ 1099511627776) : Calls Try.prog 21 #[.pointer (some ⟨d, 0, none⟩)] w (Rv fun v w' => ∃ o : Slc, v = .slice o.a o.len o.cap ∧ Ownd w' o 3 1 ((marksOf bits).map IV) ∧ Kp no w w' ∧ ∀ k, On o k → w.heap.size ≤ k) := by
  obtain ⟨lw, lm, ln, h, _⟩ := h; exact dMarks h hsz

theorem rNewB (h : RowB w r bits B) (hsz : bits.length ≤ 1000000000) : Calls Try.prog 13 #[.pointer (some ⟨r, 0, none⟩)] w (Rv fun v w' => ∃ d, v = .pointer (some ⟨d, 0, none⟩) ∧ DirB w' d bits w.heap.size ∧ Kp no w w') := by
  obtain ⟨l, h, _⟩ := h
  refine use (dNew h hsz) ?_
  rintro _ w' ⟨d, lw, lm, ln, rfl, hd, hk, hf⟩
  exact ⟨d, rfl, ⟨lw, lm, ln, hd, hf⟩, hk⟩

/-! ### the cases -/
abbrev caseV (l : Slc) (t m n : Nat) : Value := .agg #[.slice l.a l.len l.cap, .int .u8 (t : Int), .int .u64 (m : Int), .int .u8 (n : Int)]
/-- A case that can be read. -/
structure CaseR (w : World) (l : Slc) (ws : List Nat) (t m n : Nat) : Prop where
  rd : RdW w l ws
  ht : t ≤ 255
  hm : m < 18446744073709551616
  hn : n ≤ 255
theorem CaseR.kp (h : CaseR w l ws t m n) (g : Kp no w w') : CaseR w' l ws t m n := ⟨h.rd.kp g (fun _ _ f => f), h.ht, h.hm, h.hn⟩

theorem small4 (h : CaseR w l ws t m n) : IsK 11 #[caseV l t m n] w (.bool (decide (ws.length ≤ 6 ∧ t ≤ 40 ∧ n ≤ 64))) := by
  refine c11 l t m n _ _ ?_
  unfold B11
  have hb := Blk.new w [.slice l.a l.len l.cap, .int .u8 (t : Int), .int .u64 (m : Int), .int .u8 (n : Int)] 25
  have hk : Kp no w (w.alloc (.cells #[.slice l.a l.len l.cap, .int .u8 (t : Int), .int .u64 (m : Int), .int .u8 (n : Int)] 25)) := (Kp.refl _ _).alloc _ _
  have hl := h.rd.len
  refine ⟨l, hb.cell 0, br_dec (fun h1 => ⟨_, hb.cell 1, br_dec (fun h2 => ⟨_, hb.cell 3, ?_, hk⟩) (fun h2 => ⟨?_, hk⟩)⟩) (fun h1 => ⟨?_, hk⟩)⟩
  · congr 1; rw [decide_eq_decide]; omega
  · rw [decide_eq_false (by omega)]
  · rw [decide_eq_false (by omega)]

theorem row4 (h : CaseR w l ws t m n) (h1 : ws.length ≤ 6) (h2 : t ≤ 40) (h3 : n ≤ 64) :
    Calls Try.prog 14 #[caseV l t m n] w (Rv fun v w' => ∃ r, v = .pointer (some ⟨r, 0, none⟩) ∧ RowB w' r (caseBits ws t m n) w.heap.size ∧ Kp no w w') := by
  refine c14 l t m n _ _ ?_
  unfold B14
  have hb0 := Blk.new w [.slice l.a l.len l.cap, .int .u8 (t : Int), .int .u64 (m : Int), .int .u8 (n : Int)] 25
  have hk0 : Kp no w (w.alloc (.cells #[.slice l.a l.len l.cap, .int .u8 (t : Int), .int .u64 (m : Int), .int .u8 (n : Int)] 25)) := (Kp.refl _ _).alloc _ _
  have hs0 : (w.alloc (.cells #[.slice l.a l.len l.cap, .int .u8 (t : Int), .int .u64 (m : Int), .int .u8 (n : Int)] 25)).heap.size = w.heap.size + 1 := World.size_alloc _ _
  have hl := h.rd.len
  generalize w.alloc (.cells #[.slice l.a l.len l.cap, .int .u8 (t : Int), .int .u64 (m : Int), .int .u8 (n : Int)] 25) = w1 at *
  refine use (newB w1) ?_
  rintro _ w2 ⟨r, rfl, hr0, k2⟩
  have hcw : ∀ j, j ≤ 40 → (cwBits ws j).length ≤ 15360 := fun j hj => by
    rw [cwBits_len]
    have := Nat.mul_le_mul hj (Nat.mul_le_mul_left 64 h1)
    omega
  have stp : ∀ {wa wb : World}, Kp no w1 wa → Kp (fun k => w1.heap.size ≤ k) wa wb → Kp no w1 wb := fun ha hb => ha.trans hb (fun k h1 h2 => by omega)
  refine ⟨_, rfl, fun k w' => Kp no w1 w' ∧ ∃ j : Nat, k = j ∧ j ≤ t ∧ RowB w' r (cwBits ws j) w1.heap.size, fun k _ => (t - k).toNat, ⟨k2, 0, rfl, by omega, by simpa [cwBits] using hr0⟩, ?_⟩
  rintro k w3 ⟨k3, j, rfl, hj, hr⟩
  have b3 := hb0.kp k3 id
  refine ⟨_, b3.cell 1, ?_⟩
  rw [w64 (x := (t : Int)) ⟨by omega, by omega⟩]
  refine br_dec (fun hlt => ?_) (fun hlt => ?_)
  · refine ⟨fun i w' => Kp no w1 w' ∧ ∃ p : Nat, i = p ∧ p ≤ ws.length ∧ RowB w' r (cwBits ws j ++ (ws.take p).flatMap fun x => lowb x 64) w1.heap.size, fun i _ => (l.len - i).toNat, ⟨k3, 0, rfl, by omega, by simpa using hr⟩, ?_⟩
    rintro i w4 ⟨k4, p, rfl, hp, hr4⟩
    have b4 := hb0.kp k4 id
    refine ⟨l, b4.cell 0, br_dec (fun hlt2 => ?_) (fun hlt2 => ?_)⟩
    · have hrd := (h.rd.kp (hk0.trans k4 (fun _ _ f => f)) (fun _ _ f => f))
      obtain ⟨a, ha, hc⟩ := hrd.at (i := (p : Int)) (by omega) hlt2
      refine ⟨l, b4.cell 0, by omega, hlt2, a, ha, _, hc, ?_⟩
      rw [Int.toNat_natCast]
      have hx := wg_lt h.rd.lt p
      have hq := hcw j (by omega)
      have hq2 : ((ws.take p).flatMap fun x => lowb x 64).length ≤ 384 := by rw [flat_len, List.length_take]; omega
      refine use (addB hr4 k4.size (by rw [List.length_append]; omega) _ hx 64) ?_
      rintro _ w5 ⟨rfl, hr5, k5⟩
      have hS : addS (cwBits ws j ++ (ws.take p).flatMap fun x => lowb x 64) (wg ws p) 64 = _ := addS_ok (n := 64) (by omega) hx hx
      rw [hS] at hr5
      refine ⟨_, rfl, ?_⟩
      rw [w64 ⟨by omega, by omega⟩]
      refine ⟨⟨stp k4 k5, p + 1, by omega, by omega, ?_⟩, by dsimp only; omega⟩
      rw [flat_take (by omega), ← List.append_assoc]
      exact hr5
    · have hpe : p = ws.length := by omega
      subst hpe
      rw [w64 ⟨by omega, by omega⟩]
      refine ⟨⟨k4, j + 1, by omega, by omega, ?_⟩, by dsimp only; omega⟩
      rw [cwBits_succ]
      rwa [List.take_length] at hr4
  · have hje : j = t := by omega
    subst hje
    have kd : Kp no w1 (World.drew w3) := k3.drew
    have b4 := hb0.kp kd id
    refine ⟨_, b4.cell 2, _, b4.cell 3, _, b4.cell 3, ?_⟩
    rw [w64 (x := (n : Int)) ⟨by omega, by omega⟩]
    refine usei (rcut _ m h.hm 0 n ⟨by omega, by omega⟩) ⟨_, rfl, b4.cell 3, ?_⟩
    rw [cutW_zero m n h3]
    have hx : m % 2 ^ n < 2 ^ n := Nat.mod_lt _ (Nat.two_pow_pos _)
    have hx2 : m % 2 ^ n < 18446744073709551616 := Nat.lt_of_le_of_lt (Nat.mod_le _ _) h.hm
    have hq := hcw j h2
    refine use (addB (hr.kpo ((Kp.refl _ _).drew)) k3.size (by omega) _ hx2 n) ?_
    rintro _ w5 ⟨rfl, hr5, k5⟩
    rw [addS_ok h3 hx hx2, lowb_mod] at hr5
    refine ⟨_, rfl, r, rfl, ?_, hk0.trans (stp kd k5) (fun _ _ f => f)⟩
    obtain ⟨lr, hr6, hb6⟩ := hr5
    exact ⟨lr, hr6, fun k hk => by have := hb6 k hk; omega⟩
end Go.Proofs.Ytilccklocaeebaa.V
