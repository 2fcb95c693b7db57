/- The verification conditions of functions, printed by a program of this work (pr.py) and checked here by the kernel. -/
import Derived.Test.YtlobkadfmgnlmaaVc7
import Derived.Test.YtlobkadfmgnlmaaProg
set_option maxRecDepth 100000
namespace Go.Proofs.Ytlobkadfmgnlmaa.V
open Go Go.VC

def G : Nat → Bool := span 3 90
theorem hG : Enters Try.prog G := enters_span (a := 3) (n := 87) (by decide +kernel)
theorem hM : Try.prog.follows .mixedOrders = true := by kernel_rfl

/-- locution/locutionlaw01.LaneCounts -/
def B3 (x_0 : Int) (x_1 : Int) (w : World) (R : Value → World → Prop) : Prop :=
  Calls Try.prog 14 #[.int .u64 x_0] w (Rv fun v1 w2 => ∃ n3 : Int, v1 = .int .i64 n3 ∧ Calls Try.prog 15 #[.int .u64 x_0, .int .i64 64] w2 (Rv fun v4 w5 =>
    ∃ n6 : Int, v4 = .int .i64 n6 ∧ br (decide (n3 = n6)) (Calls Try.prog 16 #[.int .u64 x_0, .int .i64 x_1] w5 (Rv fun v7 w8 => ∃ n9 : Int, v7 = .int .i64 n9 ∧
    Calls Try.prog 15 #[.int .u64 x_0, .int .i64 x_1] w8 (Rv fun v10 w11 => ∃ n12 : Int, v10 = .int .i64 n12 ∧
    br (decide (n9 = n12)) (Calls Try.prog 17 #[] w11 (Rv fun v13 w14 => ∃ b15 : Bool, v13 = .bool b15 ∧
    R (.bool b15) w14)) (R (.bool false) w11)))) (R (.bool false) w5)))
theorem B3_eq : @B3 = fun (x_0 : Int) (x_1 : Int) (w : World) (R : Value → World → Prop) => trF Try.prog G (lk []) Try.f3 [.int .u64 x_0, .int .i64 x_1] w R := by kernel_rfl
theorem c3 (x_0 : Int) (x_1 : Int) (w : World) (R : Value → World → Prop) (h : B3 x_0 x_1 w R) : Calls Try.prog 3 #[.int .u64 x_0, .int .i64 x_1] w (Rv R) := calls_of_tr (L := lk []) Try.func3 hG hM (by rw [B3_eq] at h; exact h)

/-- locution/locutionlaw01.LaneSelects -/
def B4 (x_0 : Int) (x_1 : Int) (w : World) (R : Value → World → Prop) : Prop :=
  Calls Try.prog 18 #[.int .u64 x_0, .int .i64 x_1] w (Rv fun v1 w2 => ∃ n3 : Int, v1 = .int .i64 n3 ∧
    Calls Try.prog 19 #[.int .u64 x_0, .int .i64 x_1] w2 (Rv fun v4 w5 => ∃ n6 : Int, v4 = .int .i64 n6 ∧
    br (!(decide (n3 = n6))) (R (.bool false) w5) (br (decide ((0 : Int) ≤ n3)) (Calls Try.prog 16 #[.int .u64 x_0, .int .i64 n3] w5 (Rv fun v7 w8 =>
    ∃ n9 : Int, v7 = .int .i64 n9 ∧ br (!(decide (n9 = x_1))) (R (.bool false) w8) (Calls Try.prog 20 #[.int .u64 x_0, .int .i64 x_1] w8 (Rv fun v10 w11 =>
    ∃ b12 : Bool, v10 = .bool b12 ∧ br (!b12) (Calls Try.prog 17 #[] w11 (Rv fun v13 w14 => ∃ b15 : Bool, v13 = .bool b15 ∧
    R (.bool b15) w14)) (Calls Try.prog 16 #[.int .u64 x_0, .int .i64 x_1] w11 (Rv fun v16 w17 => ∃ n18 : Int, v16 = .int .i64 n18 ∧
    Calls Try.prog 18 #[.int .u64 x_0, .int .i64 n18] w17 (Rv fun v19 w20 => ∃ n21 : Int, v19 = .int .i64 n21 ∧
    br (decide (n21 = x_1)) (Calls Try.prog 17 #[] w20 (Rv fun v22 w23 => ∃ b24 : Bool, v22 = .bool b24 ∧
    R (.bool b24) w23)) (R (.bool false) w20)))))))) (Calls Try.prog 20 #[.int .u64 x_0, .int .i64 x_1] w5 (Rv fun v25 w26 => ∃ b27 : Bool, v25 = .bool b27 ∧
    br (!b27) (Calls Try.prog 17 #[] w26 (Rv fun v28 w29 => ∃ b30 : Bool, v28 = .bool b30 ∧
    R (.bool b30) w29)) (Calls Try.prog 16 #[.int .u64 x_0, .int .i64 x_1] w26 (Rv fun v31 w32 => ∃ n33 : Int, v31 = .int .i64 n33 ∧
    Calls Try.prog 18 #[.int .u64 x_0, .int .i64 n33] w32 (Rv fun v34 w35 => ∃ n36 : Int, v34 = .int .i64 n36 ∧
    br (decide (n36 = x_1)) (Calls Try.prog 17 #[] w35 (Rv fun v37 w38 => ∃ b39 : Bool, v37 = .bool b39 ∧ R (.bool b39) w38)) (R (.bool false) w35)))))))))
theorem B4_eq : @B4 = fun (x_0 : Int) (x_1 : Int) (w : World) (R : Value → World → Prop) => trF Try.prog G (lk []) Try.f4 [.int .u64 x_0, .int .i64 x_1] w R := by kernel_rfl
theorem c4 (x_0 : Int) (x_1 : Int) (w : World) (R : Value → World → Prop) (h : B4 x_0 x_1 w R) : Calls Try.prog 4 #[.int .u64 x_0, .int .i64 x_1] w (Rv R) := calls_of_tr (L := lk []) Try.func4 hG hM (by rw [B4_eq] at h; exact h)

/-- locution/locutionlaw01.LaneCuts -/
def B5 (x_0 : Int) (x_1 : Int) (x_2 : Int) (w : World) (R : Value → World → Prop) : Prop :=
  Calls Try.prog 21 #[.int .u64 x_0, .int .i64 x_1, .int .i64 x_2] w (Rv fun v1 w2 => ∃ n3 : Int, v1 = .int .u64 n3 ∧
    Calls Try.prog 22 #[.int .u64 x_0, .int .i64 x_1, .int .i64 x_2] w2 (Rv fun v4 w5 => ∃ n6 : Int, v4 = .int .u64 n6 ∧
    br (decide (n3 = n6)) (Calls Try.prog 23 #[.int .i64 x_2] w5 (Rv fun v7 w8 => ∃ n9 : Int, v7 = .int .u64 n9 ∧ Calls Try.prog 24 #[.int .i64 x_2] w8 (Rv fun v10 w11 =>
    ∃ n12 : Int, v10 = .int .u64 n12 ∧ br (decide (n9 = n12)) (Calls Try.prog 25 #[.int .u64 x_0] w11 (Rv fun v13 w14 => ∃ n15 : Int, v13 = .int .i64 n15 ∧
    Calls Try.prog 26 #[.int .u64 x_0] w14 (Rv fun v16 w17 => ∃ n18 : Int, v16 = .int .i64 n18 ∧ br (decide (n15 = n18)) (Calls Try.prog 17 #[] w17 (Rv fun v19 w20 =>
    ∃ b21 : Bool, v19 = .bool b21 ∧ R (.bool b21) w20)) (R (.bool false) w17)))) (R (.bool false) w11)))) (R (.bool false) w5)))
theorem B5_eq : @B5 = fun (x_0 : Int) (x_1 : Int) (x_2 : Int) (w : World) (R : Value → World → Prop) => trF Try.prog G (lk []) Try.f5 [.int .u64 x_0, .int .i64 x_1, .int .i64 x_2] w R := by kernel_rfl
theorem c5 (x_0 : Int) (x_1 : Int) (x_2 : Int) (w : World) (R : Value → World → Prop) (h : B5 x_0 x_1 x_2 w R) : Calls Try.prog 5 #[.int .u64 x_0, .int .i64 x_1, .int .i64 x_2] w (Rv R) := calls_of_tr (L := lk []) Try.func5 hG hM (by rw [B5_eq] at h; exact h)

/-- locution/lane.Ones -/
def B14 (x_0 : Int) (w : World) (R : Value → World → Prop) : Prop :=
  Calls Try.prog 60 #[.int .u64 x_0] w (Rv fun v1 w2 => ∃ n3 : Int, v1 = .int .i64 n3 ∧ R (.int .i64 n3) w2)
theorem B14_eq : @B14 = fun (x_0 : Int) (w : World) (R : Value → World → Prop) => trF Try.prog G (lk []) Try.f14 [.int .u64 x_0] w R := by kernel_rfl
theorem c14 (x_0 : Int) (w : World) (R : Value → World → Prop) (h : B14 x_0 w R) : Calls Try.prog 14 #[.int .u64 x_0] w (Rv R) := calls_of_tr (L := lk []) Try.func14 hG hM (by rw [B14_eq] at h; exact h)

/-- locution/lane.Rank -/
def B16 (x_0 : Int) (x_1 : Int) (w : World) (R : Value → World → Prop) : Prop :=
  Calls Try.prog 23 #[.int .i64 x_1] w (Rv fun v1 w2 => ∃ n3 : Int, v1 = .int .u64 n3 ∧ Calls Try.prog 60 #[.int .u64 (bAnd .u64 x_0 n3)] w2 (Rv fun v4 w5 =>
    ∃ n6 : Int, v4 = .int .i64 n6 ∧ R (.int .i64 n6) w5))
theorem B16_eq : @B16 = fun (x_0 : Int) (x_1 : Int) (w : World) (R : Value → World → Prop) => trF Try.prog G (lk []) Try.f16 [.int .u64 x_0, .int .i64 x_1] w R := by kernel_rfl
theorem c16 (x_0 : Int) (x_1 : Int) (w : World) (R : Value → World → Prop) (h : B16 x_0 x_1 w R) : Calls Try.prog 16 #[.int .u64 x_0, .int .i64 x_1] w (Rv R) := calls_of_tr (L := lk []) Try.func16 hG hM (by rw [B16_eq] at h; exact h)

/-- locution/lane.Select -/
def B18 (x_0 : Int) (x_1 : Int) (w : World) (R : Value → World → Prop) : Prop :=
  br (decide (x_1 < (0 : Int))) (R (.int .i64 (-1)) w) (Calls Try.prog 60 #[.int .u64 x_0] w (Rv fun v1 w2 => ∃ n3 : Int, v1 = .int .i64 n3 ∧
    br (decide (n3 ≤ x_1)) (R (.int .i64 (-1)) w2) (∃ (I4 : Int → Int → Int → World → Prop) (μ5 : Int → Int → Int → World → Nat), I4 x_1 (0 : Int) (32 : Int) w2 ∧
    ∀ x6 : Int, ∀ x7 : Int, ∀ x8 : Int, ∀ w9 : World, I4 x6 x7 x8 w9 → br (decide ((0 : Int) < x8)) (0 ≤ (IntKind.u64.wrap x7) ∧
    Calls Try.prog 23 #[.int .i64 x8] w9 (Rv fun v10 w11 => ∃ n12 : Int, v10 = .int .u64 n12 ∧
    Calls Try.prog 60 #[.int .u64 (bAnd .u64 (shR .u64 x_0 (IntKind.u64.wrap x7)) n12)] w11 (Rv fun v13 w14 => ∃ n15 : Int, v13 = .int .i64 n15 ∧
    br (decide (n15 ≤ x6)) ((2 : Int) ≠ 0 ∧ I4 (IntKind.i64.wrap (x6 - n15)) (IntKind.i64.wrap (x7 + x8)) (IntKind.i64.wrap (Int.tdiv x8 2)) w14 ∧
    μ5 (IntKind.i64.wrap (x6 - n15)) (IntKind.i64.wrap (x7 + x8)) (IntKind.i64.wrap (Int.tdiv x8 2)) w14 < μ5 x6 x7 x8 w9) ((2 : Int) ≠ 0 ∧
    I4 x6 x7 (IntKind.i64.wrap (Int.tdiv x8 2)) w14 ∧ μ5 x6 x7 (IntKind.i64.wrap (Int.tdiv x8 2)) w14 < μ5 x6 x7 x8 w9)))) (R (.int .i64 x7) w9))))
theorem B18_eq : @B18 = fun (x_0 : Int) (x_1 : Int) (w : World) (R : Value → World → Prop) => trF Try.prog G (lk [(5, [(1, .int .i64), (5, .int .i64), (6, .int .i64)])]) Try.f18 [.int .u64 x_0, .int .i64 x_1] w R := by kernel_rfl
theorem c18 (x_0 : Int) (x_1 : Int) (w : World) (R : Value → World → Prop) (h : B18 x_0 x_1 w R) : Calls Try.prog 18 #[.int .u64 x_0, .int .i64 x_1] w (Rv R) := calls_of_tr (L := lk [(5, [(1, .int .i64), (5, .int .i64), (6, .int .i64)])]) Try.func18 hG hM (by rw [B18_eq] at h; exact h)

/-- locution/lane.Cut -/
def B21 (x_0 : Int) (x_1 : Int) (x_2 : Int) (w : World) (R : Value → World → Prop) : Prop :=
  
    br (decide (x_2 < (1 : Int))) (R (.int .u64 0) w) (br (decide ((64 : Int) ≤ x_1)) (R (.int .u64 0) w) (br (decide (x_1 ≤ (-64))) (R (.int .u64 0) w) (br (decide (x_1 < (0 : Int))) (0 ≤ (IntKind.u64.wrap (IntKind.i64.wrap (0 - x_1))) ∧
    Calls Try.prog 23 #[.int .i64 x_2] w (Rv fun v1 w2 => ∃ n3 : Int, v1 = .int .u64 n3 ∧
    R (.int .u64 (bAnd .u64 (shL .u64 x_0 (IntKind.u64.wrap (IntKind.i64.wrap (0 - x_1)))) n3)) w2)) (0 ≤ (IntKind.u64.wrap x_1) ∧
    Calls Try.prog 23 #[.int .i64 x_2] w (Rv fun v4 w5 => ∃ n6 : Int, v4 = .int .u64 n6 ∧ R (.int .u64 (bAnd .u64 (shR .u64 x_0 (IntKind.u64.wrap x_1)) n6)) w5)))))
theorem B21_eq : @B21 = fun (x_0 : Int) (x_1 : Int) (x_2 : Int) (w : World) (R : Value → World → Prop) => trF Try.prog G (lk []) Try.f21 [.int .u64 x_0, .int .i64 x_1, .int .i64 x_2] w R := by kernel_rfl
theorem c21 (x_0 : Int) (x_1 : Int) (x_2 : Int) (w : World) (R : Value → World → Prop) (h : B21 x_0 x_1 x_2 w R) : Calls Try.prog 21 #[.int .u64 x_0, .int .i64 x_1, .int .i64 x_2] w (Rv R) := calls_of_tr (L := lk []) Try.func21 hG hM (by rw [B21_eq] at h; exact h)

/-- locution/lane.Mask -/
def B23 (x_0 : Int) (w : World) (R : Value → World → Prop) : Prop :=
  Calls Try.prog 61 #[.int .i64 x_0] w (Rv fun v1 w2 => ∃ n3 : Int, v1 = .int .i64 n3 ∧
    br (decide (n3 = (64 : Int))) (R (.int .u64 18446744073709551615) w2) (0 ≤ (IntKind.u64.wrap n3) ∧
    R (.int .u64 (IntKind.u64.wrap ((shL .u64 1 (IntKind.u64.wrap n3)) - 1))) w2))
theorem B23_eq : @B23 = fun (x_0 : Int) (w : World) (R : Value → World → Prop) => trF Try.prog G (lk []) Try.f23 [.int .i64 x_0] w R := by kernel_rfl
theorem c23 (x_0 : Int) (w : World) (R : Value → World → Prop) (h : B23 x_0 w R) : Calls Try.prog 23 #[.int .i64 x_0] w (Rv R) := calls_of_tr (L := lk []) Try.func23 hG hM (by rw [B23_eq] at h; exact h)

/-- locution/lane.Width -/
def B25 (x_0 : Int) (w : World) (R : Value → World → Prop) : Prop :=
  Calls Try.prog 62 #[.int .u64 x_0] w (Rv fun v1 w2 => ∃ n3 : Int, v1 = .int .i64 n3 ∧ R (.int .i64 n3) w2)
theorem B25_eq : @B25 = fun (x_0 : Int) (w : World) (R : Value → World → Prop) => trF Try.prog G (lk []) Try.f25 [.int .u64 x_0] w R := by kernel_rfl
theorem c25 (x_0 : Int) (w : World) (R : Value → World → Prop) (h : B25 x_0 w R) : Calls Try.prog 25 #[.int .u64 x_0] w (Rv R) := calls_of_tr (L := lk []) Try.func25 hG hM (by rw [B25_eq] at h; exact h)

/-- math/bits.OnesCount64 -/
def B60 (x_0 : Int) (w : World) (R : Value → World → Prop) : Prop :=
  0 ≤ (1 : Int) ∧ 0 ≤ (2 : Int) ∧ 0 ≤ (4 : Int) ∧ 0 ≤ (8 : Int) ∧ 0 ≤ (16 : Int) ∧ 0 ≤ (32 : Int) ∧
    R (.int .i64 (bAnd .i64 (IntKind.i64.wrap (IntKind.u64.wrap ((IntKind.u64.wrap ((IntKind.u64.wrap ((bAnd .u64 (IntKind.u64.wrap ((shR .u64 (IntKind.u64.wrap ((bAnd .u64 (shR .u64 (IntKind.u64.wrap ((bAnd .u64 (shR .u64 x_0 1) 6148914691236517205) + (bAnd .u64 x_0 6148914691236517205))) 2) 3689348814741910323) + (bAnd .u64 (IntKind.u64.wrap ((bAnd .u64 (shR .u64 x_0 1) 6148914691236517205) + (bAnd .u64 x_0 6148914691236517205))) 3689348814741910323))) 4) + (IntKind.u64.wrap ((bAnd .u64 (shR .u64 (IntKind.u64.wrap ((bAnd .u64 (shR .u64 x_0 1) 6148914691236517205) + (bAnd .u64 x_0 6148914691236517205))) 2) 3689348814741910323) + (bAnd .u64 (IntKind.u64.wrap ((bAnd .u64 (shR .u64 x_0 1) 6148914691236517205) + (bAnd .u64 x_0 6148914691236517205))) 3689348814741910323))))) 1085102592571150095) + (shR .u64 (bAnd .u64 (IntKind.u64.wrap ((shR .u64 (IntKind.u64.wrap ((bAnd .u64 (shR .u64 (IntKind.u64.wrap ((bAnd .u64 (shR .u64 x_0 1) 6148914691236517205) + (bAnd .u64 x_0 6148914691236517205))) 2) 3689348814741910323) + (bAnd .u64 (IntKind.u64.wrap ((bAnd .u64 (shR .u64 x_0 1) 6148914691236517205) + (bAnd .u64 x_0 6148914691236517205))) 3689348814741910323))) 4) + (IntKind.u64.wrap ((bAnd .u64 (shR .u64 (IntKind.u64.wrap ((bAnd .u64 (shR .u64 x_0 1) 6148914691236517205) + (bAnd .u64 x_0 6148914691236517205))) 2) 3689348814741910323) + (bAnd .u64 (IntKind.u64.wrap ((bAnd .u64 (shR .u64 x_0 1) 6148914691236517205) + (bAnd .u64 x_0 6148914691236517205))) 3689348814741910323))))) 1085102592571150095) 8))) + (shR .u64 (IntKind.u64.wrap ((bAnd .u64 (IntKind.u64.wrap ((shR .u64 (IntKind.u64.wrap ((bAnd .u64 (shR .u64 (IntKind.u64.wrap ((bAnd .u64 (shR .u64 x_0 1) 6148914691236517205) + (bAnd .u64 x_0 6148914691236517205))) 2) 3689348814741910323) + (bAnd .u64 (IntKind.u64.wrap ((bAnd .u64 (shR .u64 x_0 1) 6148914691236517205) + (bAnd .u64 x_0 6148914691236517205))) 3689348814741910323))) 4) + (IntKind.u64.wrap ((bAnd .u64 (shR .u64 (IntKind.u64.wrap ((bAnd .u64 (shR .u64 x_0 1) 6148914691236517205) + (bAnd .u64 x_0 6148914691236517205))) 2) 3689348814741910323) + (bAnd .u64 (IntKind.u64.wrap ((bAnd .u64 (shR .u64 x_0 1) 6148914691236517205) + (bAnd .u64 x_0 6148914691236517205))) 3689348814741910323))))) 1085102592571150095) + (shR .u64 (bAnd .u64 (IntKind.u64.wrap ((shR .u64 (IntKind.u64.wrap ((bAnd .u64 (shR .u64 (IntKind.u64.wrap ((bAnd .u64 (shR .u64 x_0 1) 6148914691236517205) + (bAnd .u64 x_0 6148914691236517205))) 2) 3689348814741910323) + (bAnd .u64 (IntKind.u64.wrap ((bAnd .u64 (shR .u64 x_0 1) 6148914691236517205) + (bAnd .u64 x_0 6148914691236517205))) 3689348814741910323))) 4) + (IntKind.u64.wrap ((bAnd .u64 (shR .u64 (IntKind.u64.wrap ((bAnd .u64 (shR .u64 x_0 1) 6148914691236517205) + (bAnd .u64 x_0 6148914691236517205))) 2) 3689348814741910323) + (bAnd .u64 (IntKind.u64.wrap ((bAnd .u64 (shR .u64 x_0 1) 6148914691236517205) + (bAnd .u64 x_0 6148914691236517205))) 3689348814741910323))))) 1085102592571150095) 8))) 16))) + (shR .u64 (IntKind.u64.wrap ((IntKind.u64.wrap ((bAnd .u64 (IntKind.u64.wrap ((shR .u64 (IntKind.u64.wrap ((bAnd .u64 (shR .u64 (IntKind.u64.wrap ((bAnd .u64 (shR .u64 x_0 1) 6148914691236517205) + (bAnd .u64 x_0 6148914691236517205))) 2) 3689348814741910323) + (bAnd .u64 (IntKind.u64.wrap ((bAnd .u64 (shR .u64 x_0 1) 6148914691236517205) + (bAnd .u64 x_0 6148914691236517205))) 3689348814741910323))) 4) + (IntKind.u64.wrap ((bAnd .u64 (shR .u64 (IntKind.u64.wrap ((bAnd .u64 (shR .u64 x_0 1) 6148914691236517205) + (bAnd .u64 x_0 6148914691236517205))) 2) 3689348814741910323) + (bAnd .u64 (IntKind.u64.wrap ((bAnd .u64 (shR .u64 x_0 1) 6148914691236517205) + (bAnd .u64 x_0 6148914691236517205))) 3689348814741910323))))) 1085102592571150095) + (shR .u64 (bAnd .u64 (IntKind.u64.wrap ((shR .u64 (IntKind.u64.wrap ((bAnd .u64 (shR .u64 (IntKind.u64.wrap ((bAnd .u64 (shR .u64 x_0 1) 6148914691236517205) + (bAnd .u64 x_0 6148914691236517205))) 2) 3689348814741910323) + (bAnd .u64 (IntKind.u64.wrap ((bAnd .u64 (shR .u64 x_0 1) 6148914691236517205) + (bAnd .u64 x_0 6148914691236517205))) 3689348814741910323))) 4) + (IntKind.u64.wrap ((bAnd .u64 (shR .u64 (IntKind.u64.wrap ((bAnd .u64 (shR .u64 x_0 1) 6148914691236517205) + (bAnd .u64 x_0 6148914691236517205))) 2) 3689348814741910323) + (bAnd .u64 (IntKind.u64.wrap ((bAnd .u64 (shR .u64 x_0 1) 6148914691236517205) + (bAnd .u64 x_0 6148914691236517205))) 3689348814741910323))))) 1085102592571150095) 8))) + (shR .u64 (IntKind.u64.wrap ((bAnd .u64 (IntKind.u64.wrap ((shR .u64 (IntKind.u64.wrap ((bAnd .u64 (shR .u64 (IntKind.u64.wrap ((bAnd .u64 (shR .u64 x_0 1) 6148914691236517205) + (bAnd .u64 x_0 6148914691236517205))) 2) 3689348814741910323) + (bAnd .u64 (IntKind.u64.wrap ((bAnd .u64 (shR .u64 x_0 1) 6148914691236517205) + (bAnd .u64 x_0 6148914691236517205))) 3689348814741910323))) 4) + (IntKind.u64.wrap ((bAnd .u64 (shR .u64 (IntKind.u64.wrap ((bAnd .u64 (shR .u64 x_0 1) 6148914691236517205) + (bAnd .u64 x_0 6148914691236517205))) 2) 3689348814741910323) + (bAnd .u64 (IntKind.u64.wrap ((bAnd .u64 (shR .u64 x_0 1) 6148914691236517205) + (bAnd .u64 x_0 6148914691236517205))) 3689348814741910323))))) 1085102592571150095) + (shR .u64 (bAnd .u64 (IntKind.u64.wrap ((shR .u64 (IntKind.u64.wrap ((bAnd .u64 (shR .u64 (IntKind.u64.wrap ((bAnd .u64 (shR .u64 x_0 1) 6148914691236517205) + (bAnd .u64 x_0 6148914691236517205))) 2) 3689348814741910323) + (bAnd .u64 (IntKind.u64.wrap ((bAnd .u64 (shR .u64 x_0 1) 6148914691236517205) + (bAnd .u64 x_0 6148914691236517205))) 3689348814741910323))) 4) + (IntKind.u64.wrap ((bAnd .u64 (shR .u64 (IntKind.u64.wrap ((bAnd .u64 (shR .u64 x_0 1) 6148914691236517205) + (bAnd .u64 x_0 6148914691236517205))) 2) 3689348814741910323) + (bAnd .u64 (IntKind.u64.wrap ((bAnd .u64 (shR .u64 x_0 1) 6148914691236517205) + (bAnd .u64 x_0 6148914691236517205))) 3689348814741910323))))) 1085102592571150095) 8))) 16))) 32)))) 127)) w
theorem B60_eq : @B60 = fun (x_0 : Int) (w : World) (R : Value → World → Prop) => trF Try.prog G (lk []) Try.f60 [.int .u64 x_0] w R := by kernel_rfl
theorem c60 (x_0 : Int) (w : World) (R : Value → World → Prop) (h : B60 x_0 w R) : Calls Try.prog 60 #[.int .u64 x_0] w (Rv R) := calls_of_tr (L := lk []) Try.func60 hG hM (by rw [B60_eq] at h; exact h)

/-- locution/lane.within -/
def B61 (x_0 : Int) (w : World) (R : Value → World → Prop) : Prop :=
  R (.int .i64 (min (max x_0 (0 : Int)) (64 : Int))) w
theorem B61_eq : @B61 = fun (x_0 : Int) (w : World) (R : Value → World → Prop) => trF Try.prog G (lk []) Try.f61 [.int .i64 x_0] w R := by kernel_rfl
theorem c61 (x_0 : Int) (w : World) (R : Value → World → Prop) (h : B61 x_0 w R) : Calls Try.prog 61 #[.int .i64 x_0] w (Rv R) := calls_of_tr (L := lk []) Try.func61 hG hM (by rw [B61_eq] at h; exact h)

/-- math/bits.Len64 -/
def B62 (x_0 : Int) (w : World) (R : Value → World → Prop) : Prop :=
  br (decide ((4294967296 : Int) ≤ x_0)) (0 ≤ (32 : Int) ∧ br (decide ((65536 : Int) ≤ (shR .u64 x_0 32))) (0 ≤ (16 : Int) ∧
    br (decide ((256 : Int) ≤ (shR .u64 (shR .u64 x_0 32) 16))) (0 ≤ (8 : Int) ∧ ∃ c1 : UInt8, 0 ≤ (IntKind.u8.wrap (shR .u64 (shR .u64 (shR .u64 x_0 32) 16) 8)) ∧
    (⟨(List.toArray (List.append (List.append ([0, 1, 2, 2, 3, 3, 3, 3, 4, 4, 4, 4, 4, 4, 4, 4, 5, 5, 5, 5, 5, 5, 5, 5, 5, 5, 5, 5, 5, 5, 5, 5, 6, 6, 6, 6, 6, 6, 6, 6, 6, 6, 6, 6, 6, 6, 6, 6, 6, 6, 6, 6, 6, 6, 6, 6, 6, 6, 6, 6, 6, 6, 6, 6]) ([7, 7, 7, 7, 7, 7, 7, 7, 7, 7, 7, 7, 7, 7, 7, 7, 7, 7, 7, 7, 7, 7, 7, 7, 7, 7, 7, 7, 7, 7, 7, 7, 7, 7, 7, 7, 7, 7, 7, 7, 7, 7, 7, 7, 7, 7, 7, 7, 7, 7, 7, 7, 7, 7, 7, 7, 7, 7, 7, 7, 7, 7, 7, 7])) (List.append ([8, 8, 8, 8, 8, 8, 8, 8, 8, 8, 8, 8, 8, 8, 8, 8, 8, 8, 8, 8, 8, 8, 8, 8, 8, 8, 8, 8, 8, 8, 8, 8, 8, 8, 8, 8, 8, 8, 8, 8, 8, 8, 8, 8, 8, 8, 8, 8, 8, 8, 8, 8, 8, 8, 8, 8, 8, 8, 8, 8, 8, 8, 8, 8]) ([8, 8, 8, 8, 8, 8, 8, 8, 8, 8, 8, 8, 8, 8, 8, 8, 8, 8, 8, 8, 8, 8, 8, 8, 8, 8, 8, 8, 8, 8, 8, 8, 8, 8, 8, 8, 8, 8, 8, 8, 8, 8, 8, 8, 8, 8, 8, 8, 8, 8, 8, 8, 8, 8, 8, 8, 8, 8, 8, 8, 8, 8, 8, 8]))))⟩ : ByteArray)[(IntKind.u8.wrap (shR .u64 (shR .u64 (shR .u64 x_0 32) 16) 8)).toNat]? = some c1 ∧
    R (.int .i64 (IntKind.i64.wrap ((IntKind.i64.wrap ((IntKind.i64.wrap (32 + 16)) + 8)) + (IntKind.i64.wrap (UInt8.toNat c1 : Int))))) w) (∃ c2 : UInt8, 0 ≤ (IntKind.u8.wrap (shR .u64 (shR .u64 x_0 32) 16)) ∧
    (⟨(List.toArray (List.append (List.append ([0, 1, 2, 2, 3, 3, 3, 3, 4, 4, 4, 4, 4, 4, 4, 4, 5, 5, 5, 5, 5, 5, 5, 5, 5, 5, 5, 5, 5, 5, 5, 5, 6, 6, 6, 6, 6, 6, 6, 6, 6, 6, 6, 6, 6, 6, 6, 6, 6, 6, 6, 6, 6, 6, 6, 6, 6, 6, 6, 6, 6, 6, 6, 6]) ([7, 7, 7, 7, 7, 7, 7, 7, 7, 7, 7, 7, 7, 7, 7, 7, 7, 7, 7, 7, 7, 7, 7, 7, 7, 7, 7, 7, 7, 7, 7, 7, 7, 7, 7, 7, 7, 7, 7, 7, 7, 7, 7, 7, 7, 7, 7, 7, 7, 7, 7, 7, 7, 7, 7, 7, 7, 7, 7, 7, 7, 7, 7, 7])) (List.append ([8, 8, 8, 8, 8, 8, 8, 8, 8, 8, 8, 8, 8, 8, 8, 8, 8, 8, 8, 8, 8, 8, 8, 8, 8, 8, 8, 8, 8, 8, 8, 8, 8, 8, 8, 8, 8, 8, 8, 8, 8, 8, 8, 8, 8, 8, 8, 8, 8, 8, 8, 8, 8, 8, 8, 8, 8, 8, 8, 8, 8, 8, 8, 8]) ([8, 8, 8, 8, 8, 8, 8, 8, 8, 8, 8, 8, 8, 8, 8, 8, 8, 8, 8, 8, 8, 8, 8, 8, 8, 8, 8, 8, 8, 8, 8, 8, 8, 8, 8, 8, 8, 8, 8, 8, 8, 8, 8, 8, 8, 8, 8, 8, 8, 8, 8, 8, 8, 8, 8, 8, 8, 8, 8, 8, 8, 8, 8, 8]))))⟩ : ByteArray)[(IntKind.u8.wrap (shR .u64 (shR .u64 x_0 32) 16)).toNat]? = some c2 ∧
    R (.int .i64 (IntKind.i64.wrap ((IntKind.i64.wrap (32 + 16)) + (IntKind.i64.wrap (UInt8.toNat c2 : Int))))) w)) (br (decide ((256 : Int) ≤ (shR .u64 x_0 32))) (0 ≤ (8 : Int) ∧
    ∃ c3 : UInt8, 0 ≤ (IntKind.u8.wrap (shR .u64 (shR .u64 x_0 32) 8)) ∧
    (⟨(List.toArray (List.append (List.append ([0, 1, 2, 2, 3, 3, 3, 3, 4, 4, 4, 4, 4, 4, 4, 4, 5, 5, 5, 5, 5, 5, 5, 5, 5, 5, 5, 5, 5, 5, 5, 5, 6, 6, 6, 6, 6, 6, 6, 6, 6, 6, 6, 6, 6, 6, 6, 6, 6, 6, 6, 6, 6, 6, 6, 6, 6, 6, 6, 6, 6, 6, 6, 6]) ([7, 7, 7, 7, 7, 7, 7, 7, 7, 7, 7, 7, 7, 7, 7, 7, 7, 7, 7, 7, 7, 7, 7, 7, 7, 7, 7, 7, 7, 7, 7, 7, 7, 7, 7, 7, 7, 7, 7, 7, 7, 7, 7, 7, 7, 7, 7, 7, 7, 7, 7, 7, 7, 7, 7, 7, 7, 7, 7, 7, 7, 7, 7, 7])) (List.append ([8, 8, 8, 8, 8, 8, 8, 8, 8, 8, 8, 8, 8, 8, 8, 8, 8, 8, 8, 8, 8, 8, 8, 8, 8, 8, 8, 8, 8, 8, 8, 8, 8, 8, 8, 8, 8, 8, 8, 8, 8, 8, 8, 8, 8, 8, 8, 8, 8, 8, 8, 8, 8, 8, 8, 8, 8, 8, 8, 8, 8, 8, 8, 8]) ([8, 8, 8, 8, 8, 8, 8, 8, 8, 8, 8, 8, 8, 8, 8, 8, 8, 8, 8, 8, 8, 8, 8, 8, 8, 8, 8, 8, 8, 8, 8, 8, 8, 8, 8, 8, 8, 8, 8, 8, 8, 8, 8, 8, 8, 8, 8, 8, 8, 8, 8, 8, 8, 8, 8, 8, 8, 8, 8, 8, 8, 8, 8, 8]))))⟩ : ByteArray)[(IntKind.u8.wrap (shR .u64 (shR .u64 x_0 32) 8)).toNat]? = some c3 ∧
    R (.int .i64 (IntKind.i64.wrap ((IntKind.i64.wrap (32 + 8)) + (IntKind.i64.wrap (UInt8.toNat c3 : Int))))) w) (∃ c4 : UInt8, 0 ≤ (IntKind.u8.wrap (shR .u64 x_0 32)) ∧
    (⟨(List.toArray (List.append (List.append ([0, 1, 2, 2, 3, 3, 3, 3, 4, 4, 4, 4, 4, 4, 4, 4, 5, 5, 5, 5, 5, 5, 5, 5, 5, 5, 5, 5, 5, 5, 5, 5, 6, 6, 6, 6, 6, 6, 6, 6, 6, 6, 6, 6, 6, 6, 6, 6, 6, 6, 6, 6, 6, 6, 6, 6, 6, 6, 6, 6, 6, 6, 6, 6]) ([7, 7, 7, 7, 7, 7, 7, 7, 7, 7, 7, 7, 7, 7, 7, 7, 7, 7, 7, 7, 7, 7, 7, 7, 7, 7, 7, 7, 7, 7, 7, 7, 7, 7, 7, 7, 7, 7, 7, 7, 7, 7, 7, 7, 7, 7, 7, 7, 7, 7, 7, 7, 7, 7, 7, 7, 7, 7, 7, 7, 7, 7, 7, 7])) (List.append ([8, 8, 8, 8, 8, 8, 8, 8, 8, 8, 8, 8, 8, 8, 8, 8, 8, 8, 8, 8, 8, 8, 8, 8, 8, 8, 8, 8, 8, 8, 8, 8, 8, 8, 8, 8, 8, 8, 8, 8, 8, 8, 8, 8, 8, 8, 8, 8, 8, 8, 8, 8, 8, 8, 8, 8, 8, 8, 8, 8, 8, 8, 8, 8]) ([8, 8, 8, 8, 8, 8, 8, 8, 8, 8, 8, 8, 8, 8, 8, 8, 8, 8, 8, 8, 8, 8, 8, 8, 8, 8, 8, 8, 8, 8, 8, 8, 8, 8, 8, 8, 8, 8, 8, 8, 8, 8, 8, 8, 8, 8, 8, 8, 8, 8, 8, 8, 8, 8, 8, 8, 8, 8, 8, 8, 8, 8, 8, 8]))))⟩ : ByteArray)[(IntKind.u8.wrap (shR .u64 x_0 32)).toNat]? = some c4 ∧
    R (.int .i64 (IntKind.i64.wrap (32 + (IntKind.i64.wrap (UInt8.toNat c4 : Int))))) w))) (br (decide ((65536 : Int) ≤ x_0)) (0 ≤ (16 : Int) ∧
    br (decide ((256 : Int) ≤ (shR .u64 x_0 16))) (0 ≤ (8 : Int) ∧ ∃ c5 : UInt8, 0 ≤ (IntKind.u8.wrap (shR .u64 (shR .u64 x_0 16) 8)) ∧
    (⟨(List.toArray (List.append (List.append ([0, 1, 2, 2, 3, 3, 3, 3, 4, 4, 4, 4, 4, 4, 4, 4, 5, 5, 5, 5, 5, 5, 5, 5, 5, 5, 5, 5, 5, 5, 5, 5, 6, 6, 6, 6, 6, 6, 6, 6, 6, 6, 6, 6, 6, 6, 6, 6, 6, 6, 6, 6, 6, 6, 6, 6, 6, 6, 6, 6, 6, 6, 6, 6]) ([7, 7, 7, 7, 7, 7, 7, 7, 7, 7, 7, 7, 7, 7, 7, 7, 7, 7, 7, 7, 7, 7, 7, 7, 7, 7, 7, 7, 7, 7, 7, 7, 7, 7, 7, 7, 7, 7, 7, 7, 7, 7, 7, 7, 7, 7, 7, 7, 7, 7, 7, 7, 7, 7, 7, 7, 7, 7, 7, 7, 7, 7, 7, 7])) (List.append ([8, 8, 8, 8, 8, 8, 8, 8, 8, 8, 8, 8, 8, 8, 8, 8, 8, 8, 8, 8, 8, 8, 8, 8, 8, 8, 8, 8, 8, 8, 8, 8, 8, 8, 8, 8, 8, 8, 8, 8, 8, 8, 8, 8, 8, 8, 8, 8, 8, 8, 8, 8, 8, 8, 8, 8, 8, 8, 8, 8, 8, 8, 8, 8]) ([8, 8, 8, 8, 8, 8, 8, 8, 8, 8, 8, 8, 8, 8, 8, 8, 8, 8, 8, 8, 8, 8, 8, 8, 8, 8, 8, 8, 8, 8, 8, 8, 8, 8, 8, 8, 8, 8, 8, 8, 8, 8, 8, 8, 8, 8, 8, 8, 8, 8, 8, 8, 8, 8, 8, 8, 8, 8, 8, 8, 8, 8, 8, 8]))))⟩ : ByteArray)[(IntKind.u8.wrap (shR .u64 (shR .u64 x_0 16) 8)).toNat]? = some c5 ∧
    R (.int .i64 (IntKind.i64.wrap ((IntKind.i64.wrap ((IntKind.i64.wrap (0 + 16)) + 8)) + (IntKind.i64.wrap (UInt8.toNat c5 : Int))))) w) (∃ c6 : UInt8, 0 ≤ (IntKind.u8.wrap (shR .u64 x_0 16)) ∧
    (⟨(List.toArray (List.append (List.append ([0, 1, 2, 2, 3, 3, 3, 3, 4, 4, 4, 4, 4, 4, 4, 4, 5, 5, 5, 5, 5, 5, 5, 5, 5, 5, 5, 5, 5, 5, 5, 5, 6, 6, 6, 6, 6, 6, 6, 6, 6, 6, 6, 6, 6, 6, 6, 6, 6, 6, 6, 6, 6, 6, 6, 6, 6, 6, 6, 6, 6, 6, 6, 6]) ([7, 7, 7, 7, 7, 7, 7, 7, 7, 7, 7, 7, 7, 7, 7, 7, 7, 7, 7, 7, 7, 7, 7, 7, 7, 7, 7, 7, 7, 7, 7, 7, 7, 7, 7, 7, 7, 7, 7, 7, 7, 7, 7, 7, 7, 7, 7, 7, 7, 7, 7, 7, 7, 7, 7, 7, 7, 7, 7, 7, 7, 7, 7, 7])) (List.append ([8, 8, 8, 8, 8, 8, 8, 8, 8, 8, 8, 8, 8, 8, 8, 8, 8, 8, 8, 8, 8, 8, 8, 8, 8, 8, 8, 8, 8, 8, 8, 8, 8, 8, 8, 8, 8, 8, 8, 8, 8, 8, 8, 8, 8, 8, 8, 8, 8, 8, 8, 8, 8, 8, 8, 8, 8, 8, 8, 8, 8, 8, 8, 8]) ([8, 8, 8, 8, 8, 8, 8, 8, 8, 8, 8, 8, 8, 8, 8, 8, 8, 8, 8, 8, 8, 8, 8, 8, 8, 8, 8, 8, 8, 8, 8, 8, 8, 8, 8, 8, 8, 8, 8, 8, 8, 8, 8, 8, 8, 8, 8, 8, 8, 8, 8, 8, 8, 8, 8, 8, 8, 8, 8, 8, 8, 8, 8, 8]))))⟩ : ByteArray)[(IntKind.u8.wrap (shR .u64 x_0 16)).toNat]? = some c6 ∧
    R (.int .i64 (IntKind.i64.wrap ((IntKind.i64.wrap (0 + 16)) + (IntKind.i64.wrap (UInt8.toNat c6 : Int))))) w)) (br (decide ((256 : Int) ≤ x_0)) (0 ≤ (8 : Int) ∧
    ∃ c7 : UInt8, 0 ≤ (IntKind.u8.wrap (shR .u64 x_0 8)) ∧
    (⟨(List.toArray (List.append (List.append ([0, 1, 2, 2, 3, 3, 3, 3, 4, 4, 4, 4, 4, 4, 4, 4, 5, 5, 5, 5, 5, 5, 5, 5, 5, 5, 5, 5, 5, 5, 5, 5, 6, 6, 6, 6, 6, 6, 6, 6, 6, 6, 6, 6, 6, 6, 6, 6, 6, 6, 6, 6, 6, 6, 6, 6, 6, 6, 6, 6, 6, 6, 6, 6]) ([7, 7, 7, 7, 7, 7, 7, 7, 7, 7, 7, 7, 7, 7, 7, 7, 7, 7, 7, 7, 7, 7, 7, 7, 7, 7, 7, 7, 7, 7, 7, 7, 7, 7, 7, 7, 7, 7, 7, 7, 7, 7, 7, 7, 7, 7, 7, 7, 7, 7, 7, 7, 7, 7, 7, 7, 7, 7, 7, 7, 7, 7, 7, 7])) (List.append ([8, 8, 8, 8, 8, 8, 8, 8, 8, 8, 8, 8, 8, 8, 8, 8, 8, 8, 8, 8, 8, 8, 8, 8, 8, 8, 8, 8, 8, 8, 8, 8, 8, 8, 8, 8, 8, 8, 8, 8, 8, 8, 8, 8, 8, 8, 8, 8, 8, 8, 8, 8, 8, 8, 8, 8, 8, 8, 8, 8, 8, 8, 8, 8]) ([8, 8, 8, 8, 8, 8, 8, 8, 8, 8, 8, 8, 8, 8, 8, 8, 8, 8, 8, 8, 8, 8, 8, 8, 8, 8, 8, 8, 8, 8, 8, 8, 8, 8, 8, 8, 8, 8, 8, 8, 8, 8, 8, 8, 8, 8, 8, 8, 8, 8, 8, 8, 8, 8, 8, 8, 8, 8, 8, 8, 8, 8, 8, 8]))))⟩ : ByteArray)[(IntKind.u8.wrap (shR .u64 x_0 8)).toNat]? = some c7 ∧
    R (.int .i64 (IntKind.i64.wrap ((IntKind.i64.wrap (0 + 8)) + (IntKind.i64.wrap (UInt8.toNat c7 : Int))))) w) (∃ c8 : UInt8, 0 ≤ (IntKind.u8.wrap x_0) ∧
    (⟨(List.toArray (List.append (List.append ([0, 1, 2, 2, 3, 3, 3, 3, 4, 4, 4, 4, 4, 4, 4, 4, 5, 5, 5, 5, 5, 5, 5, 5, 5, 5, 5, 5, 5, 5, 5, 5, 6, 6, 6, 6, 6, 6, 6, 6, 6, 6, 6, 6, 6, 6, 6, 6, 6, 6, 6, 6, 6, 6, 6, 6, 6, 6, 6, 6, 6, 6, 6, 6]) ([7, 7, 7, 7, 7, 7, 7, 7, 7, 7, 7, 7, 7, 7, 7, 7, 7, 7, 7, 7, 7, 7, 7, 7, 7, 7, 7, 7, 7, 7, 7, 7, 7, 7, 7, 7, 7, 7, 7, 7, 7, 7, 7, 7, 7, 7, 7, 7, 7, 7, 7, 7, 7, 7, 7, 7, 7, 7, 7, 7, 7, 7, 7, 7])) (List.append ([8, 8, 8, 8, 8, 8, 8, 8, 8, 8, 8, 8, 8, 8, 8, 8, 8, 8, 8, 8, 8, 8, 8, 8, 8, 8, 8, 8, 8, 8, 8, 8, 8, 8, 8, 8, 8, 8, 8, 8, 8, 8, 8, 8, 8, 8, 8, 8, 8, 8, 8, 8, 8, 8, 8, 8, 8, 8, 8, 8, 8, 8, 8, 8]) ([8, 8, 8, 8, 8, 8, 8, 8, 8, 8, 8, 8, 8, 8, 8, 8, 8, 8, 8, 8, 8, 8, 8, 8, 8, 8, 8, 8, 8, 8, 8, 8, 8, 8, 8, 8, 8, 8, 8, 8, 8, 8, 8, 8, 8, 8, 8, 8, 8, 8, 8, 8, 8, 8, 8, 8, 8, 8, 8, 8, 8, 8, 8, 8]))))⟩ : ByteArray)[(IntKind.u8.wrap x_0).toNat]? = some c8 ∧
    R (.int .i64 (IntKind.i64.wrap (0 + (IntKind.i64.wrap (UInt8.toNat c8 : Int))))) w)))
theorem B62_eq : @B62 = fun (x_0 : Int) (w : World) (R : Value → World → Prop) => trF Try.prog G (lk []) Try.f62 [.int .u64 x_0] w R := by kernel_rfl
theorem c62 (x_0 : Int) (w : World) (R : Value → World → Prop) (h : B62 x_0 w R) : Calls Try.prog 62 #[.int .u64 x_0] w (Rv R) := calls_of_tr (L := lk []) Try.func62 hG hM (by rw [B62_eq] at h; exact h)

/-- locution/locutionref01.Rank -/
def B15 (x_0 : Int) (x_1 : Int) (w : World) (R : Value → World → Prop) : Prop :=
  ∃ (I1 : Int → Int → World → Prop) (μ2 : Int → Int → World → Nat), I1 (0 : Int) (0 : Int) w ∧ ∀ x3 : Int, ∀ x4 : Int, ∀ w5 : World, I1 x3 x4 w5 →
    br (decide (x4 < (64 : Int))) (br (decide (x4 < x_1)) (Calls Try.prog 20 #[.int .u64 x_0, .int .i64 x4] w5 (Rv fun v6 w7 => ∃ b8 : Bool, v6 = .bool b8 ∧
    br b8 (I1 (IntKind.i64.wrap (x3 + 1)) (IntKind.i64.wrap (x4 + 1)) w7 ∧
    μ2 (IntKind.i64.wrap (x3 + 1)) (IntKind.i64.wrap (x4 + 1)) w7 < μ2 x3 x4 w5) (I1 x3 (IntKind.i64.wrap (x4 + 1)) w7 ∧
    μ2 x3 (IntKind.i64.wrap (x4 + 1)) w7 < μ2 x3 x4 w5))) (R (.int .i64 x3) w5)) (R (.int .i64 x3) w5)
theorem B15_eq : @B15 = fun (x_0 : Int) (x_1 : Int) (w : World) (R : Value → World → Prop) => trF Try.prog G (lk [(3, [(5, .int .i64), (6, .int .i64)])]) Try.f15 [.int .u64 x_0, .int .i64 x_1] w R := by kernel_rfl
theorem c15 (x_0 : Int) (x_1 : Int) (w : World) (R : Value → World → Prop) (h : B15 x_0 x_1 w R) : Calls Try.prog 15 #[.int .u64 x_0, .int .i64 x_1] w (Rv R) := calls_of_tr (L := lk [(3, [(5, .int .i64), (6, .int .i64)])]) Try.func15 hG hM (by rw [B15_eq] at h; exact h)

/-- locution/locutionref01.Select -/
def B19 (x_0 : Int) (x_1 : Int) (w : World) (R : Value → World → Prop) : Prop :=
  ∃ (I1 : Int → World → Prop) (μ2 : Int → World → Nat), I1 (0 : Int) w ∧ ∀ x3 : Int, ∀ w4 : World, I1 x3 w4 →
    br (decide (x3 < (64 : Int))) (Calls Try.prog 20 #[.int .u64 x_0, .int .i64 x3] w4 (Rv fun v5 w6 => ∃ b7 : Bool, v5 = .bool b7 ∧
    br b7 (Calls Try.prog 15 #[.int .u64 x_0, .int .i64 x3] w6 (Rv fun v8 w9 => ∃ n10 : Int, v8 = .int .i64 n10 ∧
    br (decide (n10 = x_1)) (R (.int .i64 x3) w9) (I1 (IntKind.i64.wrap (x3 + 1)) w9 ∧
    μ2 (IntKind.i64.wrap (x3 + 1)) w9 < μ2 x3 w4))) (I1 (IntKind.i64.wrap (x3 + 1)) w6 ∧ μ2 (IntKind.i64.wrap (x3 + 1)) w6 < μ2 x3 w4))) (R (.int .i64 (-1)) w4)
theorem B19_eq : @B19 = fun (x_0 : Int) (x_1 : Int) (w : World) (R : Value → World → Prop) => trF Try.prog G (lk [(2, [(5, .int .i64)])]) Try.f19 [.int .u64 x_0, .int .i64 x_1] w R := by kernel_rfl
theorem c19 (x_0 : Int) (x_1 : Int) (w : World) (R : Value → World → Prop) (h : B19 x_0 x_1 w R) : Calls Try.prog 19 #[.int .u64 x_0, .int .i64 x_1] w (Rv R) := calls_of_tr (L := lk [(2, [(5, .int .i64)])]) Try.func19 hG hM (by rw [B19_eq] at h; exact h)

/-- locution/locutionref01.Bit -/
def B20 (x_0 : Int) (x_1 : Int) (w : World) (R : Value → World → Prop) : Prop :=
  br (decide (x_1 < (0 : Int))) (R (.bool false) w) (br (decide ((63 : Int) < x_1)) (R (.bool false) w) (∃ (I1 : Int → Int → World → Prop) (μ2 : Int → Int →
    World → Nat), I1 x_0 (0 : Int) w ∧ ∀ x3 : Int, ∀ x4 : Int, ∀ w5 : World, I1 x3 x4 w5 → br (decide (x4 < x_1)) ((2 : Int) ≠ 0 ∧
    I1 (IntKind.u64.wrap (Int.tdiv x3 2)) (IntKind.i64.wrap (x4 + 1)) w5 ∧
    μ2 (IntKind.u64.wrap (Int.tdiv x3 2)) (IntKind.i64.wrap (x4 + 1)) w5 < μ2 x3 x4 w5) ((2 : Int) ≠ 0 ∧ R (.bool (decide ((Int.tmod x3 2) = (1 : Int)))) w5)))
theorem B20_eq : @B20 = fun (x_0 : Int) (x_1 : Int) (w : World) (R : Value → World → Prop) => trF Try.prog G (lk [(4, [(0, .int .u64), (5, .int .i64)])]) Try.f20 [.int .u64 x_0, .int .i64 x_1] w R := by kernel_rfl
theorem c20 (x_0 : Int) (x_1 : Int) (w : World) (R : Value → World → Prop) (h : B20 x_0 x_1 w R) : Calls Try.prog 20 #[.int .u64 x_0, .int .i64 x_1] w (Rv R) := calls_of_tr (L := lk [(4, [(0, .int .u64), (5, .int .i64)])]) Try.func20 hG hM (by rw [B20_eq] at h; exact h)

/-- locution/locutionref01.Cut -/
def B22 (x_0 : Int) (x_1 : Int) (x_2 : Int) (w : World) (R : Value → World → Prop) : Prop :=
  ∃ (I1 : Int → Int → Int → World → Prop) (μ2 : Int → Int → Int → World → Nat), I1 (0 : Int) (1 : Int) (0 : Int) w ∧
    ∀ x3 : Int, ∀ x4 : Int, ∀ x5 : Int, ∀ w6 : World, I1 x3 x4 x5 w6 →
    br (decide (x5 < (64 : Int))) (br (decide (x5 < x_2)) (br (decide ((-63) ≤ x_1)) (br (decide (x_1 < (64 : Int))) (Calls Try.prog 20 #[.int .u64 x_0, .int .i64 (IntKind.i64.wrap (x_1 + x5))] w6 (Rv fun v7 w8 =>
    ∃ b9 : Bool, v7 = .bool b9 ∧ br b9 (I1 (IntKind.u64.wrap (x3 + x4)) (IntKind.u64.wrap (x4 * 2)) (IntKind.i64.wrap (x5 + 1)) w8 ∧
    μ2 (IntKind.u64.wrap (x3 + x4)) (IntKind.u64.wrap (x4 * 2)) (IntKind.i64.wrap (x5 + 1)) w8 < μ2 x3 x4 x5 w6) (I1 x3 (IntKind.u64.wrap (x4 * 2)) (IntKind.i64.wrap (x5 + 1)) w8 ∧
    μ2 x3 (IntKind.u64.wrap (x4 * 2)) (IntKind.i64.wrap (x5 + 1)) w8 < μ2 x3 x4 x5 w6))) (I1 x3 (IntKind.u64.wrap (x4 * 2)) (IntKind.i64.wrap (x5 + 1)) w6 ∧
    μ2 x3 (IntKind.u64.wrap (x4 * 2)) (IntKind.i64.wrap (x5 + 1)) w6 < μ2 x3 x4 x5 w6)) (I1 x3 (IntKind.u64.wrap (x4 * 2)) (IntKind.i64.wrap (x5 + 1)) w6 ∧
    μ2 x3 (IntKind.u64.wrap (x4 * 2)) (IntKind.i64.wrap (x5 + 1)) w6 < μ2 x3 x4 x5 w6)) (R (.int .u64 x3) w6)) (R (.int .u64 x3) w6)
theorem B22_eq : @B22 = fun (x_0 : Int) (x_1 : Int) (x_2 : Int) (w : World) (R : Value → World → Prop) => trF Try.prog G (lk [(4, [(7, .int .u64), (8, .int .u64), (9, .int .i64)])]) Try.f22 [.int .u64 x_0, .int .i64 x_1, .int .i64 x_2] w R := by kernel_rfl
theorem c22 (x_0 : Int) (x_1 : Int) (x_2 : Int) (w : World) (R : Value → World → Prop) (h : B22 x_0 x_1 x_2 w R) : Calls Try.prog 22 #[.int .u64 x_0, .int .i64 x_1, .int .i64 x_2] w (Rv R) := calls_of_tr (L := lk [(4, [(7, .int .u64), (8, .int .u64), (9, .int .i64)])]) Try.func22 hG hM (by rw [B22_eq] at h; exact h)

/-- locution/locutionref01.Mask -/
def B24 (x_0 : Int) (w : World) (R : Value → World → Prop) : Prop :=
  Calls Try.prog 22 #[.int .u64 18446744073709551615, .int .i64 0, .int .i64 x_0] w (Rv fun v1 w2 => ∃ n3 : Int, v1 = .int .u64 n3 ∧ R (.int .u64 n3) w2)
theorem B24_eq : @B24 = fun (x_0 : Int) (w : World) (R : Value → World → Prop) => trF Try.prog G (lk []) Try.f24 [.int .i64 x_0] w R := by kernel_rfl
theorem c24 (x_0 : Int) (w : World) (R : Value → World → Prop) (h : B24 x_0 w R) : Calls Try.prog 24 #[.int .i64 x_0] w (Rv R) := calls_of_tr (L := lk []) Try.func24 hG hM (by rw [B24_eq] at h; exact h)

/-- locution/locutionref01.Width -/
def B26 (x_0 : Int) (w : World) (R : Value → World → Prop) : Prop :=
  ∃ (I1 : Int → Int → World → Prop) (μ2 : Int → Int → World → Nat), I1 x_0 (0 : Int) w ∧ ∀ x3 : Int, ∀ x4 : Int, ∀ w5 : World, I1 x3 x4 w5 →
    br (decide ((0 : Int) < x3)) ((2 : Int) ≠ 0 ∧ I1 (IntKind.u64.wrap (Int.tdiv x3 2)) (IntKind.i64.wrap (x4 + 1)) w5 ∧
    μ2 (IntKind.u64.wrap (Int.tdiv x3 2)) (IntKind.i64.wrap (x4 + 1)) w5 < μ2 x3 x4 w5) (R (.int .i64 x4) w5)
theorem B26_eq : @B26 = fun (x_0 : Int) (w : World) (R : Value → World → Prop) => trF Try.prog G (lk [(2, [(0, .int .u64), (3, .int .i64)])]) Try.f26 [.int .u64 x_0] w R := by kernel_rfl
theorem c26 (x_0 : Int) (w : World) (R : Value → World → Prop) (h : B26 x_0 w R) : Calls Try.prog 26 #[.int .u64 x_0] w (Rv R) := calls_of_tr (L := lk [(2, [(0, .int .u64), (3, .int .i64)])]) Try.func26 hG hM (by rw [B26_eq] at h; exact h)

/-- locution/locutionlaw01.live -/
def B17  (w : World) (R : Value → World → Prop) : Prop :=
  Calls Try.prog 14 #[.int .u64 22] w (Rv fun v1 w2 => ∃ n3 : Int, v1 = .int .i64 n3 ∧
    br (decide (n3 = (3 : Int))) (Calls Try.prog 16 #[.int .u64 22, .int .i64 3] w2 (Rv fun v4 w5 => ∃ n6 : Int, v4 = .int .i64 n6 ∧
    br (decide (n6 = (2 : Int))) (Calls Try.prog 18 #[.int .u64 22, .int .i64 2] w5 (Rv fun v7 w8 => ∃ n9 : Int, v7 = .int .i64 n9 ∧
    br (decide (n9 = (4 : Int))) (Calls Try.prog 21 #[.int .u64 22, .int .i64 1, .int .i64 3] w8 (Rv fun v10 w11 => ∃ n12 : Int, v10 = .int .u64 n12 ∧
    br (decide (n12 = (3 : Int))) (Calls Try.prog 25 #[.int .u64 22] w11 (Rv fun v13 w14 => ∃ n15 : Int, v13 = .int .i64 n15 ∧
    R (.bool (decide (n15 = (5 : Int)))) w14)) (R (.bool false) w11))) (R (.bool false) w8))) (R (.bool false) w5))) (R (.bool false) w2))
theorem B17_eq : @B17 = fun (w : World) (R : Value → World → Prop) => trF Try.prog G (lk []) Try.f17 [] w R := by kernel_rfl
theorem c17  (w : World) (R : Value → World → Prop) (h : B17  w R) : Calls Try.prog 17 #[] w (Rv R) := calls_of_tr (L := lk []) Try.func17 hG hM (by rw [B17_eq] at h; exact h)

end Go.Proofs.Ytlobkadfmgnlmaa.V
