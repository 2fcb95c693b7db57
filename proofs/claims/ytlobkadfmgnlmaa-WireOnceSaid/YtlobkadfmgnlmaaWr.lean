/- The readers, operation by operation: what is left and the error. -/
import Derived.Test.YtlobkadfmgnlmaaWq
namespace Go.VC
open Go
def numS (rest : List UInt8) (bad : Nat) : Nat × List UInt8 × Nat :=
  if bad ≠ 0 then (0, rest, bad) else ((dec rest).1, rest.drop (dec rest).2.1, (dec rest).2.2)
def unzig (v : Nat) : Int := if v % 2 = 1 then -((v / 2 : Nat) : Int) - 1 else ((v / 2 : Nat) : Int)
def textS (rest : List UInt8) (bad : Nat) (most : Int) : List UInt8 × List UInt8 × Nat :=
  if bad ≠ 0 then ([], rest, bad) else if (dec rest).2.2 ≠ 0 then ([], rest, (dec rest).2.2)
  else if most < 0 ∨ most < ((dec rest).1 : Int) then ([], rest, 5) else if rest.length - (dec rest).2.1 < (dec rest).1 then ([], rest, 2)
  else ((rest.drop (dec rest).2.1).take (dec rest).1, rest.drop ((dec rest).2.1 + (dec rest).1), 0)
def rawS (rest : List UInt8) (bad : Nat) (n : Int) : List UInt8 × List UInt8 × Nat :=
  if bad ≠ 0 then ([], rest, bad) else if n < 0 then ([], rest, 1) else if (rest.length : Int) < n then ([], rest, 2) else (rest.take n.toNat, rest.drop n.toNat, 0)
def uptoS (rest : List UInt8) (bad : Nat) (most : Int) : Int × List UInt8 × Nat :=
  if bad ≠ 0 then (0, rest, bad) else if (dec rest).2.2 ≠ 0 then (0, rest, (dec rest).2.2)
  else if most < 0 ∨ most < ((dec rest).1 : Int) then (0, rest, 8) else ((dec rest).1, rest.drop (dec rest).2.1, 0)
theorem numS_len (rest : List UInt8) (bad : Nat) : (numS rest bad).2.1.length ≤ rest.length ∧ (numS rest bad).1 < 18446744073709551616 := by
  have := (dec_fit rest).1
  unfold numS; split
  · simp
  · simp; omega
theorem xor_neg {a : Nat} (h : a < 9223372036854775808) : bXor .i64 (a : Int) (-1) = -(a : Int) - 1 := by
  unfold bXor
  show IntKind.i64.wrap ((BitVec.ofInt 64 (a : Int) ^^^ BitVec.ofInt 64 (-1)).toNat : Int) = _
  have e1 : BitVec.ofInt 64 (-1) = BitVec.allOnes 64 := by decide
  rw [e1, BitVec.xor_allOnes, BitVec.toNat_not, BitVec.ofInt_natCast, BitVec.toNat_ofNat, Nat.mod_eq_of_lt (by simp only [Nat.reducePow]; omega), w64']
  simp only [Nat.reducePow]
  omega
theorem xor_zero {a : Nat} (h : a < 9223372036854775808) : bXor .i64 (a : Int) 0 = (a : Int) := by
  unfold bXor
  show IntKind.i64.wrap ((BitVec.ofInt 64 (a : Int) ^^^ BitVec.ofInt 64 0).toNat : Int) = _
  have e1 : BitVec.ofInt 64 0 = 0#64 := by decide
  rw [e1, BitVec.xor_zero, BitVec.ofInt_natCast, BitVec.toNat_ofNat, Nat.mod_eq_of_lt (by simp only [Nat.reducePow]; omega), w64 ⟨by omega, by omega⟩]
theorem unzig_eq {v : Nat} (h : v < 18446744073709551616) : bXor .i64 (IntKind.i64.wrap (shR .u64 (v : Int) 1)) (IntKind.i64.wrap (0 - IntKind.i64.wrap (bAnd .u64 (v : Int) 1))) = unzig v := by
  have e1 : shR .u64 (v : Int) 1 = ((v / 2 : Nat) : Int) := by rw [show (1 : Int) = ((1 : Nat) : Int) from rfl, shrC h]
  have e2 : bAnd .u64 (v : Int) 1 = ((v % 2 : Nat) : Int) := by
    rw [show (1 : Int) = ((1 : Nat) : Int) from rfl, and_u64 h (by omega), show (1 : Nat) = 2 ^ 1 - 1 from rfl, Nat.and_two_pow_sub_one_eq_mod]
  rw [e1, e2, w64 (x := ((v / 2 : Nat) : Int)) ⟨by omega, by omega⟩, w64 (x := ((v % 2 : Nat) : Int)) ⟨by omega, by omega⟩, w64 ⟨by omega, by omega⟩]
  unfold unzig
  rcases Nat.mod_two_eq_zero_or_one v with e | e
  · rw [e, if_neg (by omega)]; exact xor_zero (by omega)
  · rw [e, if_pos rfl]; exact xor_neg (by omega)
theorem unzig_zig (n : Int) : unzig (zig n) = n := by unfold unzig zig; split <;> split <;> omega
end Go.VC

namespace Go.Proofs.Ytlobkadfmgnlmaa.V
open Go Go.VC
variable {w w' w0 : World} {r x : Nat} {rest s : List UInt8} {bad : Nat}

/-- The program's reader: what is left, and the error. -/
def RdS (w : World) (r : Nat) (rest : List UInt8) (bad : Nat) : Prop :=
  ∃ (s : List UInt8) (at_ : Nat), Blk w r [.string (bs8 s), .int .i64 (at_ : Int), .int .i64 (bad : Int)] 87 ∧ at_ ≤ s.length ∧ s.drop at_ = rest ∧ s.length ≤ 1099511627776
/-- The plain reader. -/
def RfS (w : World) (x : Nat) (rest : List UInt8) (bad : Nat) : Prop :=
  Blk w x [.string (bs8 rest), .int .i64 (bad : Int)] 50 ∧ rest.length ≤ 1099511627776
theorem RdS.kp {S : Nat → Prop} (h : RdS w r rest bad) (g : Kp S w w') (hn : ¬ S r) : RdS w' r rest bad := by
  obtain ⟨s, a, hb, h1, h2, h3⟩ := h
  exact ⟨s, a, hb.kp g hn, h1, h2, h3⟩
theorem RfS.kp {S : Nat → Prop} (h : RfS w x rest bad) (g : Kp S w w') (hn : ¬ S x) : RfS w' x rest bad := ⟨h.1.kp g hn, h.2⟩
theorem RdS.lt (h : RdS w r rest bad) : r < w.heap.size := by obtain ⟨s, a, hb, _⟩ := h; exact hb.lt
theorem RdS.len (h : RdS w r rest bad) : rest.length ≤ 1099511627776 := by
  obtain ⟨s, a, _, _, rfl, h3⟩ := h; rw [List.length_drop]; omega

theorem openR (w : World) (s : List UInt8) (hs : s.length ≤ 1099511627776) : Calls Try.prog 31 #[.string (bs8 s)] w (Rv fun v w' => v = .pointer (some ⟨w.heap.size, 0, none⟩) ∧ RdS w' w.heap.size s 0 ∧ Kp no w w') := by
  refine c31 _ _ _ ?_
  unfold B31
  exact ⟨rfl, ⟨s, 0, Blk.new _ _ _, by omega, rfl, hs⟩, (Kp.refl _ _).alloc _ _⟩

theorem qLeft (h : RdS w r rest bad) : IsK 36 #[.pointer (some ⟨r, 0, none⟩)] w (.int .i64 (rest.length : Int)) := by
  obtain ⟨s, a, hb, h1, rfl, h3⟩ := h
  refine c36 _ _ _ ?_
  unfold B36
  refine ⟨_, hb.drew.cell 0, _, hb.drew.cell 1, ?_, (Kp.refl _ _).drew⟩
  rw [bs8_size, List.length_drop, w64 ⟨by omega, by omega⟩]
  congr 1; omega
theorem qErr (h : RdS w r rest bad) : Is 37 #[.pointer (some ⟨r, 0, none⟩)] w (.int .i64 (bad : Int)) := by
  obtain ⟨s, a, hb, h1, rfl, h3⟩ := h
  refine c37 _ _ _ ?_
  unfold B37
  exact ⟨_, hb.cell 2, rfl, rfl⟩
def endS (rest : List UInt8) (bad : Nat) : Nat := if bad = 0 ∧ rest ≠ [] then 3 else bad
theorem qEnd (h : RdS w r rest bad) : IsK 39 #[.pointer (some ⟨r, 0, none⟩)] w (.int .i64 (endS rest bad : Int)) := by
  refine c39 _ _ _ ?_
  unfold B39
  refine usei (qErr h) ⟨_, rfl, br_dec (fun h1 => usek (qLeft h) fun w1 k1 => ⟨_, rfl, br_dec (fun h2 => ⟨?_, k1⟩) (fun h2 => usei (qErr (h.kp k1 id)) ⟨_, rfl, ?_, k1⟩)⟩) (fun h1 => usei (qErr h) ⟨_, rfl, ?_, Kp.refl _ _⟩)⟩
  · unfold endS
    rw [if_pos ⟨by omega, by rintro rfl; simp at h2⟩]
    rfl
  · unfold endS
    rw [if_neg]
    rintro ⟨_, h3⟩
    exact h3 (List.eq_nil_of_length_eq_zero (by omega))
  · unfold endS
    rw [if_neg (by omega)]
theorem xEnd (h : RfS w x rest bad) : Is 40 #[.pointer (some ⟨x, 0, none⟩)] w (.int .i64 (endS rest bad : Int)) := by
  refine c40 _ _ _ ?_
  unfold B40
  refine ⟨_, h.1.cell 1, br_dec (fun h1 => ⟨_, h.1.cell 0, ?_⟩) (fun h1 => ⟨_, h.1.cell 1, ?_, rfl⟩)⟩
  · have e : ((bs8 rest).toList == (⟨#[]⟩ : ByteArray).toList) = decide (rest = []) := str_beq rest []
    rw [e]
    refine br_not (br_dec (fun h2 => ⟨_, h.1.cell 1, ?_, rfl⟩) (fun h2 => ⟨?_, rfl⟩))
    · unfold endS; rw [if_neg (fun q => q.2 h2)]
    · unfold endS; rw [if_pos ⟨by omega, h2⟩]; rfl
  · unfold endS
    rw [if_neg (by omega)]

/-- One step of the reader: what the closure answers is taken. -/
theorem step1 {a : Nat} (h : Blk w r [.string (bs8 s), .int .i64 (a : Int), .int .i64 0] 87) (ha : a ≤ s.length) (hs : s.length ≤ 1099511627776) {g : Nat} (hg : G g = true) {cap : Array Value} {Q : Nat → Nat → World → Prop}
    (hc : Calls Try.prog g ⟨.string (bs8 (s.drop a)) :: cap.toList⟩ w.drew (Rv fun v w' => ∃ n e : Nat, v = .tuple #[.int .i64 (n : Int), .int .i64 (e : Int)] ∧ Q n e w' ∧ Blk w' r [.string (bs8 s), .int .i64 (a : Int), .int .i64 0] 87 ∧ (e = 0 → n ≤ 1099511627776))) :
    Calls Try.prog 69 #[.pointer (some ⟨r, 0, none⟩), .func (.func g) #[] cap] w (Rv fun v w' => ∃ n e w1 i u, Q n e w1 ∧ v = .bool (decide (e = 0)) ∧ w' = w1.setCell (Addr.add ⟨r, 0, none⟩ i) u ∧
      Blk w' r [.string (bs8 s), .int .i64 ((if e = 0 then a + n else a : Nat) : Int), .int .i64 (e : Int)] 87) := by
  refine c69 _ _ _ _ ?_
  unfold B69
  refine ⟨_, h.cell 2, br_not (br_dec (fun _ => ?_) (fun h => absurd rfl h))⟩
  refine ⟨_, h.drew.cell 0, _, h.drew.cell 1, by omega, by rw [bs8_size]; omega, by omega, ?_⟩
  rw [Int.toNat_natCast, Int.toNat_natCast, drop_extract]
  unfold CallFV
  simp only [hg]
  refine use hc ?_
  rintro _ w5 ⟨n, e, rfl, hq, hb, hn⟩
  refine ⟨_, _, rfl, br_not (br_dec (fun h1 => ?_) (fun h1 => ?_))⟩
  · have he : e = 0 := by omega
    subst he
    have := hn rfl
    refine ⟨_, hb.cell 1, ⟨_, hb.cell 1⟩, hb.frozen 1, n, 0, w5, 1, _, hq, rfl, rfl, ?_⟩
    have hb2 := hb.set 1 (.int .i64 (IntKind.i64.wrap ((a : Int) + n)))
    rw [w64 ⟨by omega, by omega⟩] at hb2 ⊢
    rw [if_pos rfl, Int.natCast_add]
    exact hb2
  · refine ⟨⟨_, hb.cell 2⟩, hb.frozen 2, n, e, w5, 2, _, hq, ?_, rfl, ?_⟩
    · rw [decide_eq_false (by omega)]
    · rw [if_neg (by omega)]
      exact hb.set 2 _
theorem stepBad (h : RdS w r rest bad) (hbad : bad ≠ 0) (fv : Value) : Is 69 #[.pointer (some ⟨r, 0, none⟩), fv] w (.bool false) := by
  obtain ⟨s, a, hb, h1, rfl, h3⟩ := h
  refine c69 _ _ _ _ ?_
  unfold B69
  exact ⟨_, hb.cell 2, br_not (br_dec (fun h => absurd h (by omega)) (fun _ => ⟨rfl, rfl⟩))⟩

/-- What an operation of the reader leaves. -/
abbrev After (w : World) (r : Nat) (rest : List UInt8) (bad : Nat) (w' : World) : Prop := RdS w' r rest bad ∧ Kp (fun k => k = r) w w'

theorem g_Num : G 70 = true := by decide
theorem g_Text : G 72 = true := by decide
theorem g_Raw : G 73 = true := by decide
theorem g_Upto : G 89 = true := by decide
theorem g_Fail : G 90 = true := by decide

theorem qNum (h : RdS w r rest bad) : Calls Try.prog 32 #[.pointer (some ⟨r, 0, none⟩)] w (Rv fun v w' => v = .int .u64 ((numS rest bad).1 : Nat) ∧ After w r (numS rest bad).2.1 (numS rest bad).2.2 w') := by
  refine c32 _ _ _ ?_
  unfold B32
  have k1 : Kp no w (w.alloc (.cells #[.int .u64 0] 22)) := (Kp.refl _ _).alloc _ _
  have hr := h.lt
  by_cases hbad : bad = 0
  · subst hbad
    obtain ⟨s, a, hb, h1, rfl, h3⟩ := h
    have hb1 : Blk (w.alloc (.cells #[.int .u64 0] 22)) r [.string (bs8 s), .int .i64 (a : Int), .int .i64 0] 87 := hb.kp k1 id
    have hc1 : Blk (w.alloc (.cells #[.int .u64 0] 22)) w.heap.size [.int .u64 0] 22 := Blk.new _ _ _
    generalize w.alloc (.cells #[.int .u64 0] 22) = w1 at *
    have hfit := dec_fit (s.drop a)
    have hdl : (s.drop a).length ≤ 1099511627776 := by rw [List.length_drop]; omega
    refine use (step1 hb1 h1 h3 g_Num (Q := fun n e w' => n = (dec (s.drop a)).2.1 ∧ e = (dec (s.drop a)).2.2 ∧ Blk w' w.heap.size [.int .u64 ((dec (s.drop a)).1 : Nat)] 22 ∧ Kp (fun k => k = w.heap.size) w1 w') ?_) ?_
    · refine c70 _ _ _ _ ?_
      unfold B70
      refine usei (number w1.drew (s.drop a) hdl) ⟨_, _, _, rfl, ⟨_, hc1.drew.cell0 0⟩, hc1.drew.frozen 0, _, _, rfl, ⟨rfl, rfl, hc1.drew.set 0 _, ((Kp.refl _ _).drew).set _ _ (fun _ => rfl)⟩, hb1.drew.set_other _ _ (by simp only; omega), fun _ => by omega⟩
    · rintro _ _ ⟨n, e, w2, i, u, ⟨rfl, rfl, hc2, k2⟩, rfl, rfl, hb3⟩
      refine ⟨_, rfl, br_dec (fun he => ⟨_, (hc2.set_other _ _ (by rw [add_block]; simp only; omega)).cell0 0, ?_⟩) (fun he => ?_)⟩
      · refine ⟨by simp [numS], ⟨s, a + (dec (s.drop a)).2.1, ?_, ?_, ?_, h3⟩, ?_⟩
        · rw [if_pos he] at hb3; simp only [numS]; exact hb3
        · have := hfit.2.1; rw [List.length_drop] at this; omega
        · simp [numS]
        · exact ((k1.mono (fun _ _ f => f.elim)).trans k2 (fun k hk e => by omega)).set _ _ (fun _ => by rw [add_block])
      · have hz := hfit.2.2.2.2 he
        refine ⟨by simp [numS, hz.1], ⟨s, a, ?_, h1, ?_, h3⟩, ?_⟩
        · rw [if_neg he] at hb3; simp only [numS]; exact hb3
        · simp [numS, hz.2]
        · exact ((k1.mono (fun _ _ f => f.elim)).trans k2 (fun k hk e => by omega)).set _ _ (fun _ => by rw [add_block])
  · refine usei (stepBad (h.kp k1 id) hbad _) ⟨_, rfl, ?_⟩
    refine ⟨by simp [numS, hbad], ?_, k1.mono (fun _ _ f => f.elim)⟩
    simp only [numS, hbad, ne_eq, not_false_eq_true, if_true]
    exact h.kp k1 id

theorem qInt (h : RdS w r rest bad) : Calls Try.prog 33 #[.pointer (some ⟨r, 0, none⟩)] w (Rv fun v w' => v = .int .i64 (unzig (numS rest bad).1) ∧ After w r (numS rest bad).2.1 (numS rest bad).2.2 w') := by
  refine c33 _ _ _ ?_
  unfold B33
  refine use (qNum h) ?_
  rintro _ w1 ⟨rfl, h1⟩
  refine ⟨_, rfl, by omega, ?_, h1⟩
  rw [unzig_eq (numS_len rest bad).2]

theorem xNum (h : RfS w x rest bad) : Calls Try.prog 74 #[.pointer (some ⟨x, 0, none⟩)] w (Rv fun v w' => v = .int .u64 ((numS rest bad).1 : Nat) ∧ RfS w' x (numS rest bad).2.1 (numS rest bad).2.2 ∧ Kp (fun k => k = x) w w') := by
  refine c74 _ _ _ ?_
  unfold B74
  refine ⟨_, h.1.cell 1, br_not (br_dec (fun hb => ⟨_, h.1.cell 0, usei (first w rest) ⟨_, _, _, rfl, ⟨_, h.1.cell 1⟩, h.1.frozen 1, ?_⟩⟩) (fun hb => ?_))⟩
  · have hbad : bad = 0 := by omega
    subst hbad
    have hfit := dec_fit rest
    have hb1 := h.1.set 1 (.int .i64 ((dec rest).2.2 : Nat))
    refine ⟨_, hb1.cell 0, by omega, by rw [bs8_size]; omega, by omega, ⟨_, hb1.cell 0⟩, hb1.frozen 0, by simp [numS], ⟨?_, ?_⟩, ?_⟩
    · have := hb1.set 0 (.string ((bs8 rest).extract (Int.toNat ((dec rest).2.1 : Nat)) (Int.toNat ((bs8 rest).size : Int))))
      rw [Int.toNat_natCast, Int.toNat_natCast, drop_extract] at this ⊢
      simp only [numS]
      exact this
    · have := h.2; have := (numS_len rest 0).1; omega
    · exact ((Kp.refl _ _).set _ _ (fun _ => by rw [add_block])).set _ _ (fun _ => by rw [add_block])
  · have hbad : bad ≠ 0 := by omega
    simp only [numS, hbad, ne_eq, not_false_eq_true, if_true]
    exact ⟨rfl, h, Kp.refl _ _⟩

theorem xInt (h : RfS w x rest bad) : Calls Try.prog 75 #[.pointer (some ⟨x, 0, none⟩)] w (Rv fun v w' => v = .int .i64 (unzig (numS rest bad).1) ∧ RfS w' x (numS rest bad).2.1 (numS rest bad).2.2 ∧ Kp (fun k => k = x) w w') := by
  refine c75 _ _ _ ?_
  unfold B75
  refine use (xNum h) ?_
  rintro _ w1 ⟨rfl, h1⟩
  have hl := (numS_len rest bad).2
  generalize (numS rest bad).1 = v at *
  refine ⟨_, rfl, by omega, ?_⟩
  rw [Int.tmod_eq_emod_of_nonneg (by omega), Int.tdiv_eq_ediv_of_nonneg (by omega), wu64 (x := (v : Int) / 2) ⟨by omega, by omega⟩, w64 (x := (v : Int) / 2) ⟨by omega, by omega⟩, w64 (x := 0 - (v : Int) / 2) ⟨by omega, by omega⟩, w64 (x := 0 - (v : Int) / 2 - 1) ⟨by omega, by omega⟩]
  refine br_dec (fun h2 => ⟨by omega, congrArg _ ?_, h1⟩) (fun h2 => ⟨by omega, congrArg _ ?_, h1⟩)
  · unfold unzig; rw [if_pos (by omega)]; omega
  · unfold unzig; rw [if_neg (by omega)]; omega
end Go.Proofs.Ytlobkadfmgnlmaa.V
