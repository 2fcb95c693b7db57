/- The verification conditions of functions, printed by a program of this work (pr.py) and checked here by the kernel. -/
import Derived.Test.YtomajpihimlcjaaDoorVb
import Derived.Test.YtomajpihimlcjaaDoorVa
import Derived.Test.YtomajpihimlcjaaDoorProg
set_option maxRecDepth 100000
set_option linter.unusedVariables false
namespace Go.Proofs.YtomajpihimlcjaaDoor.V
open Go Go.VC

def G : Nat → Bool := span 3 147
theorem hG : Enters Tryd.prog G := enters_span (a := 3) (n := 144) (by decide +kernel)
theorem hM : Tryd.prog.follows .mixedOrders = true := by kernel_rfl

/-- locution/lane.Pairs -/
def B12 (x_0 : Int) (w : World) (R : Value → World → Prop) : Prop :=
  R (.func (.func 74) #[] #[.pointer (some ⟨w.heap.size, 0, none⟩)]) (w.alloc (.cells #[.int .u64 x_0] 22))
theorem B12_eq : @B12 = fun (x_0 : Int) (w : World) (R : Value → World → Prop) => trF Tryd.prog G (lk []) Tryd.f12 [.int .u64 x_0] w R := by kernel_rfl
theorem c12 (x_0 : Int) (w : World) (R : Value → World → Prop) (h : B12 x_0 w R) : Calls Tryd.prog 12 #[.int .u64 x_0] w (Rv R) := calls_of_tr (L := lk []) Tryd.func12 hG hM (by rw [B12_eq] at h; exact h)

/-- locution/lane.Pairs$1 -/
def B74 (x_0 : Value) (a_1 : Addr) (w : World) (R : Value → World → Prop) : Prop :=
  ∃ n1 : Int, w.cell? a_1 = some (.int .u64 n1) ∧ ∃ (I2 : Int → Int → World → Prop) (μ3 : Int → Int → World → Nat), I2 (0 : Int) n1 w ∧
    ∀ x4 : Int, ∀ x5 : Int, ∀ w6 : World, I2 x4 x5 w6 → br (!(decide (x5 = (0 : Int)))) (Calls Tryd.prog 75 #[.int .u64 x5] w6 (Rv fun v7 w8 =>
    ∃ n9 : Int, v7 = .int .i64 n9 ∧ CallFV Tryd.prog G x_0 [.int .i64 x4, .int .i64 n9] w8 fun v10 w11 => ∃ b12 : Bool, v10 = .bool b12 ∧
    br (!b12) (R (.tuple #[]) w11) (I2 (IntKind.i64.wrap (x4 + 1)) (bAnd .u64 x5 (IntKind.u64.wrap (x5 - 1))) w11 ∧
    μ3 (IntKind.i64.wrap (x4 + 1)) (bAnd .u64 x5 (IntKind.u64.wrap (x5 - 1))) w11 < μ3 x4 x5 w6))) (R (.tuple #[]) w6)
theorem B74_eq : @B74 = fun (x_0 : Value) (a_1 : Addr) (w : World) (R : Value → World → Prop) => trF Tryd.prog G (lk [(2, [(3, .int .i64), (4, .int .u64)])]) Tryd.f74 [x_0, .pointer (some a_1)] w R := by kernel_rfl
theorem c74 (x_0 : Value) (a_1 : Addr) (w : World) (R : Value → World → Prop) (h : B74 x_0 a_1 w R) : Calls Tryd.prog 74 #[x_0, .pointer (some a_1)] w (Rv R) := calls_of_tr (L := lk [(2, [(3, .int .i64), (4, .int .u64)])]) Tryd.func74 hG hM (by rw [B74_eq] at h; exact h)

/-- locution/lane.Ones -/
def B77 (x_0 : Int) (w : World) (R : Value → World → Prop) : Prop :=
  Calls Tryd.prog 133 #[.int .u64 x_0] w (Rv fun v1 w2 => ∃ n3 : Int, v1 = .int .i64 n3 ∧ R (.int .i64 n3) w2)
theorem B77_eq : @B77 = fun (x_0 : Int) (w : World) (R : Value → World → Prop) => trF Tryd.prog G (lk []) Tryd.f77 [.int .u64 x_0] w R := by kernel_rfl
theorem c77 (x_0 : Int) (w : World) (R : Value → World → Prop) (h : B77 x_0 w R) : Calls Tryd.prog 77 #[.int .u64 x_0] w (Rv R) := calls_of_tr (L := lk []) Tryd.func77 hG hM (by rw [B77_eq] at h; exact h)

/-- locution/lane.Rank -/
def B78 (x_0 : Int) (x_1 : Int) (w : World) (R : Value → World → Prop) : Prop :=
  Calls Tryd.prog 88 #[.int .i64 x_1] w (Rv fun v1 w2 => ∃ n3 : Int, v1 = .int .u64 n3 ∧ Calls Tryd.prog 133 #[.int .u64 (bAnd .u64 x_0 n3)] w2 (Rv fun v4 w5 =>
    ∃ n6 : Int, v4 = .int .i64 n6 ∧ R (.int .i64 n6) w5))
theorem B78_eq : @B78 = fun (x_0 : Int) (x_1 : Int) (w : World) (R : Value → World → Prop) => trF Tryd.prog G (lk []) Tryd.f78 [.int .u64 x_0, .int .i64 x_1] w R := by kernel_rfl
theorem c78 (x_0 : Int) (x_1 : Int) (w : World) (R : Value → World → Prop) (h : B78 x_0 x_1 w R) : Calls Tryd.prog 78 #[.int .u64 x_0, .int .i64 x_1] w (Rv R) := calls_of_tr (L := lk []) Tryd.func78 hG hM (by rw [B78_eq] at h; exact h)

/-- locution/lane.Select -/
def B79 (x_0 : Int) (x_1 : Int) (w : World) (R : Value → World → Prop) : Prop :=
  br (decide (x_1 < (0 : Int))) (R (.int .i64 (-1)) w) (Calls Tryd.prog 133 #[.int .u64 x_0] w (Rv fun v1 w2 => ∃ n3 : Int, v1 = .int .i64 n3 ∧
    br (decide (n3 ≤ x_1)) (R (.int .i64 (-1)) w2) (∃ (I4 : Int → Int → Int → World → Prop) (μ5 : Int → Int → Int → World → Nat), I4 x_1 (0 : Int) (32 : Int) w2 ∧
    ∀ x6 : Int, ∀ x7 : Int, ∀ x8 : Int, ∀ w9 : World, I4 x6 x7 x8 w9 → br (decide ((0 : Int) < x8)) (0 ≤ (IntKind.u64.wrap x7) ∧
    Calls Tryd.prog 88 #[.int .i64 x8] w9 (Rv fun v10 w11 => ∃ n12 : Int, v10 = .int .u64 n12 ∧
    Calls Tryd.prog 133 #[.int .u64 (bAnd .u64 (shR .u64 x_0 (IntKind.u64.wrap x7)) n12)] w11 (Rv fun v13 w14 => ∃ n15 : Int, v13 = .int .i64 n15 ∧
    br (decide (n15 ≤ x6)) ((2 : Int) ≠ 0 ∧ I4 (IntKind.i64.wrap (x6 - n15)) (IntKind.i64.wrap (x7 + x8)) (IntKind.i64.wrap (Int.tdiv x8 2)) w14 ∧
    μ5 (IntKind.i64.wrap (x6 - n15)) (IntKind.i64.wrap (x7 + x8)) (IntKind.i64.wrap (Int.tdiv x8 2)) w14 < μ5 x6 x7 x8 w9) ((2 : Int) ≠ 0 ∧
    I4 x6 x7 (IntKind.i64.wrap (Int.tdiv x8 2)) w14 ∧ μ5 x6 x7 (IntKind.i64.wrap (Int.tdiv x8 2)) w14 < μ5 x6 x7 x8 w9)))) (R (.int .i64 x7) w9))))
theorem B79_eq : @B79 = fun (x_0 : Int) (x_1 : Int) (w : World) (R : Value → World → Prop) => trF Tryd.prog G (lk [(5, [(1, .int .i64), (5, .int .i64), (6, .int .i64)])]) Tryd.f79 [.int .u64 x_0, .int .i64 x_1] w R := by kernel_rfl
theorem c79 (x_0 : Int) (x_1 : Int) (w : World) (R : Value → World → Prop) (h : B79 x_0 x_1 w R) : Calls Tryd.prog 79 #[.int .u64 x_0, .int .i64 x_1] w (Rv R) := calls_of_tr (L := lk [(5, [(1, .int .i64), (5, .int .i64), (6, .int .i64)])]) Tryd.func79 hG hM (by rw [B79_eq] at h; exact h)

/-- locution/lane.Cut -/
def B80 (x_0 : Int) (x_1 : Int) (x_2 : Int) (w : World) (R : Value → World → Prop) : Prop :=
  
    br (decide (x_2 < (1 : Int))) (R (.int .u64 0) w) (br (decide ((64 : Int) ≤ x_1)) (R (.int .u64 0) w) (br (decide (x_1 ≤ (-64))) (R (.int .u64 0) w) (br (decide (x_1 < (0 : Int))) (0 ≤ (IntKind.u64.wrap (IntKind.i64.wrap (0 - x_1))) ∧
    Calls Tryd.prog 88 #[.int .i64 x_2] w (Rv fun v1 w2 => ∃ n3 : Int, v1 = .int .u64 n3 ∧
    R (.int .u64 (bAnd .u64 (shL .u64 x_0 (IntKind.u64.wrap (IntKind.i64.wrap (0 - x_1)))) n3)) w2)) (0 ≤ (IntKind.u64.wrap x_1) ∧
    Calls Tryd.prog 88 #[.int .i64 x_2] w (Rv fun v4 w5 => ∃ n6 : Int, v4 = .int .u64 n6 ∧ R (.int .u64 (bAnd .u64 (shR .u64 x_0 (IntKind.u64.wrap x_1)) n6)) w5)))))
theorem B80_eq : @B80 = fun (x_0 : Int) (x_1 : Int) (x_2 : Int) (w : World) (R : Value → World → Prop) => trF Tryd.prog G (lk []) Tryd.f80 [.int .u64 x_0, .int .i64 x_1, .int .i64 x_2] w R := by kernel_rfl
theorem c80 (x_0 : Int) (x_1 : Int) (x_2 : Int) (w : World) (R : Value → World → Prop) (h : B80 x_0 x_1 x_2 w R) : Calls Tryd.prog 80 #[.int .u64 x_0, .int .i64 x_1, .int .i64 x_2] w (Rv R) := calls_of_tr (L := lk []) Tryd.func80 hG hM (by rw [B80_eq] at h; exact h)

/-- locution/lane.Width -/
def B81 (x_0 : Int) (w : World) (R : Value → World → Prop) : Prop :=
  Calls Tryd.prog 134 #[.int .u64 x_0] w (Rv fun v1 w2 => ∃ n3 : Int, v1 = .int .i64 n3 ∧ R (.int .i64 n3) w2)
theorem B81_eq : @B81 = fun (x_0 : Int) (w : World) (R : Value → World → Prop) => trF Tryd.prog G (lk []) Tryd.f81 [.int .u64 x_0] w R := by kernel_rfl
theorem c81 (x_0 : Int) (w : World) (R : Value → World → Prop) (h : B81 x_0 w R) : Calls Tryd.prog 81 #[.int .u64 x_0] w (Rv R) := calls_of_tr (L := lk []) Tryd.func81 hG hM (by rw [B81_eq] at h; exact h)

/-- locution/lane.Mask -/
def B88 (x_0 : Int) (w : World) (R : Value → World → Prop) : Prop :=
  Calls Tryd.prog 135 #[.int .i64 x_0] w (Rv fun v1 w2 => ∃ n3 : Int, v1 = .int .i64 n3 ∧
    br (decide (n3 = (64 : Int))) (R (.int .u64 18446744073709551615) w2) (0 ≤ (IntKind.u64.wrap n3) ∧
    R (.int .u64 (IntKind.u64.wrap ((shL .u64 1 (IntKind.u64.wrap n3)) - 1))) w2))
theorem B88_eq : @B88 = fun (x_0 : Int) (w : World) (R : Value → World → Prop) => trF Tryd.prog G (lk []) Tryd.f88 [.int .i64 x_0] w R := by kernel_rfl
theorem c88 (x_0 : Int) (w : World) (R : Value → World → Prop) (h : B88 x_0 w R) : Calls Tryd.prog 88 #[.int .i64 x_0] w (Rv R) := calls_of_tr (L := lk []) Tryd.func88 hG hM (by rw [B88_eq] at h; exact h)

/-- locution/lane.within -/
def B135 (x_0 : Int) (w : World) (R : Value → World → Prop) : Prop :=
  R (.int .i64 (min (max x_0 (0 : Int)) (64 : Int))) w
theorem B135_eq : @B135 = fun (x_0 : Int) (w : World) (R : Value → World → Prop) => trF Tryd.prog G (lk []) Tryd.f135 [.int .i64 x_0] w R := by kernel_rfl
theorem c135 (x_0 : Int) (w : World) (R : Value → World → Prop) (h : B135 x_0 w R) : Calls Tryd.prog 135 #[.int .i64 x_0] w (Rv R) := calls_of_tr (L := lk []) Tryd.func135 hG hM (by rw [B135_eq] at h; exact h)

/-- locution/locutionref01.Select -/
def B13 (x_0 : Int) (x_1 : Int) (w : World) (R : Value → World → Prop) : Prop :=
  ∃ (I1 : Int → World → Prop) (μ2 : Int → World → Nat), I1 (0 : Int) w ∧ ∀ x3 : Int, ∀ w4 : World, I1 x3 w4 →
    br (decide (x3 < (64 : Int))) (Calls Tryd.prog 76 #[.int .u64 x_0, .int .i64 x3] w4 (Rv fun v5 w6 => ∃ b7 : Bool, v5 = .bool b7 ∧
    br b7 (Calls Tryd.prog 14 #[.int .u64 x_0, .int .i64 x3] w6 (Rv fun v8 w9 => ∃ n10 : Int, v8 = .int .i64 n10 ∧
    br (decide (n10 = x_1)) (R (.int .i64 x3) w9) (I1 (IntKind.i64.wrap (x3 + 1)) w9 ∧
    μ2 (IntKind.i64.wrap (x3 + 1)) w9 < μ2 x3 w4))) (I1 (IntKind.i64.wrap (x3 + 1)) w6 ∧ μ2 (IntKind.i64.wrap (x3 + 1)) w6 < μ2 x3 w4))) (R (.int .i64 (-1)) w4)
theorem B13_eq : @B13 = fun (x_0 : Int) (x_1 : Int) (w : World) (R : Value → World → Prop) => trF Tryd.prog G (lk [(2, [(5, .int .i64)])]) Tryd.f13 [.int .u64 x_0, .int .i64 x_1] w R := by kernel_rfl
theorem c13 (x_0 : Int) (x_1 : Int) (w : World) (R : Value → World → Prop) (h : B13 x_0 x_1 w R) : Calls Tryd.prog 13 #[.int .u64 x_0, .int .i64 x_1] w (Rv R) := calls_of_tr (L := lk [(2, [(5, .int .i64)])]) Tryd.func13 hG hM (by rw [B13_eq] at h; exact h)

/-- locution/locutionref01.Rank -/
def B14 (x_0 : Int) (x_1 : Int) (w : World) (R : Value → World → Prop) : Prop :=
  ∃ (I1 : Int → Int → World → Prop) (μ2 : Int → Int → World → Nat), I1 (0 : Int) (0 : Int) w ∧ ∀ x3 : Int, ∀ x4 : Int, ∀ w5 : World, I1 x3 x4 w5 →
    br (decide (x4 < (64 : Int))) (br (decide (x4 < x_1)) (Calls Tryd.prog 76 #[.int .u64 x_0, .int .i64 x4] w5 (Rv fun v6 w7 => ∃ b8 : Bool, v6 = .bool b8 ∧
    br b8 (I1 (IntKind.i64.wrap (x3 + 1)) (IntKind.i64.wrap (x4 + 1)) w7 ∧
    μ2 (IntKind.i64.wrap (x3 + 1)) (IntKind.i64.wrap (x4 + 1)) w7 < μ2 x3 x4 w5) (I1 x3 (IntKind.i64.wrap (x4 + 1)) w7 ∧
    μ2 x3 (IntKind.i64.wrap (x4 + 1)) w7 < μ2 x3 x4 w5))) (R (.int .i64 x3) w5)) (R (.int .i64 x3) w5)
theorem B14_eq : @B14 = fun (x_0 : Int) (x_1 : Int) (w : World) (R : Value → World → Prop) => trF Tryd.prog G (lk [(3, [(5, .int .i64), (6, .int .i64)])]) Tryd.f14 [.int .u64 x_0, .int .i64 x_1] w R := by kernel_rfl
theorem c14 (x_0 : Int) (x_1 : Int) (w : World) (R : Value → World → Prop) (h : B14 x_0 x_1 w R) : Calls Tryd.prog 14 #[.int .u64 x_0, .int .i64 x_1] w (Rv R) := calls_of_tr (L := lk [(3, [(5, .int .i64), (6, .int .i64)])]) Tryd.func14 hG hM (by rw [B14_eq] at h; exact h)

/-- locution/locutionref01.Bit -/
def B76 (x_0 : Int) (x_1 : Int) (w : World) (R : Value → World → Prop) : Prop :=
  br (decide (x_1 < (0 : Int))) (R (.bool false) w) (br (decide ((63 : Int) < x_1)) (R (.bool false) w) (∃ (I1 : Int → Int → World → Prop) (μ2 : Int → Int →
    World → Nat), I1 x_0 (0 : Int) w ∧ ∀ x3 : Int, ∀ x4 : Int, ∀ w5 : World, I1 x3 x4 w5 → br (decide (x4 < x_1)) ((2 : Int) ≠ 0 ∧
    I1 (IntKind.u64.wrap (Int.tdiv x3 2)) (IntKind.i64.wrap (x4 + 1)) w5 ∧
    μ2 (IntKind.u64.wrap (Int.tdiv x3 2)) (IntKind.i64.wrap (x4 + 1)) w5 < μ2 x3 x4 w5) ((2 : Int) ≠ 0 ∧ R (.bool (decide ((Int.tmod x3 2) = (1 : Int)))) w5)))
theorem B76_eq : @B76 = fun (x_0 : Int) (x_1 : Int) (w : World) (R : Value → World → Prop) => trF Tryd.prog G (lk [(4, [(0, .int .u64), (5, .int .i64)])]) Tryd.f76 [.int .u64 x_0, .int .i64 x_1] w R := by kernel_rfl
theorem c76 (x_0 : Int) (x_1 : Int) (w : World) (R : Value → World → Prop) (h : B76 x_0 x_1 w R) : Calls Tryd.prog 76 #[.int .u64 x_0, .int .i64 x_1] w (Rv R) := calls_of_tr (L := lk [(4, [(0, .int .u64), (5, .int .i64)])]) Tryd.func76 hG hM (by rw [B76_eq] at h; exact h)

/-- locution/locutionref01.Cut -/
def B83 (x_0 : Int) (x_1 : Int) (x_2 : Int) (w : World) (R : Value → World → Prop) : Prop :=
  ∃ (I1 : Int → Int → Int → World → Prop) (μ2 : Int → Int → Int → World → Nat), I1 (0 : Int) (1 : Int) (0 : Int) w ∧
    ∀ x3 : Int, ∀ x4 : Int, ∀ x5 : Int, ∀ w6 : World, I1 x3 x4 x5 w6 →
    br (decide (x5 < (64 : Int))) (br (decide (x5 < x_2)) (br (decide ((-63) ≤ x_1)) (br (decide (x_1 < (64 : Int))) (Calls Tryd.prog 76 #[.int .u64 x_0, .int .i64 (IntKind.i64.wrap (x_1 + x5))] w6 (Rv fun v7 w8 =>
    ∃ b9 : Bool, v7 = .bool b9 ∧ br b9 (I1 (IntKind.u64.wrap (x3 + x4)) (IntKind.u64.wrap (x4 * 2)) (IntKind.i64.wrap (x5 + 1)) w8 ∧
    μ2 (IntKind.u64.wrap (x3 + x4)) (IntKind.u64.wrap (x4 * 2)) (IntKind.i64.wrap (x5 + 1)) w8 < μ2 x3 x4 x5 w6) (I1 x3 (IntKind.u64.wrap (x4 * 2)) (IntKind.i64.wrap (x5 + 1)) w8 ∧
    μ2 x3 (IntKind.u64.wrap (x4 * 2)) (IntKind.i64.wrap (x5 + 1)) w8 < μ2 x3 x4 x5 w6))) (I1 x3 (IntKind.u64.wrap (x4 * 2)) (IntKind.i64.wrap (x5 + 1)) w6 ∧
    μ2 x3 (IntKind.u64.wrap (x4 * 2)) (IntKind.i64.wrap (x5 + 1)) w6 < μ2 x3 x4 x5 w6)) (I1 x3 (IntKind.u64.wrap (x4 * 2)) (IntKind.i64.wrap (x5 + 1)) w6 ∧
    μ2 x3 (IntKind.u64.wrap (x4 * 2)) (IntKind.i64.wrap (x5 + 1)) w6 < μ2 x3 x4 x5 w6)) (R (.int .u64 x3) w6)) (R (.int .u64 x3) w6)
theorem B83_eq : @B83 = fun (x_0 : Int) (x_1 : Int) (x_2 : Int) (w : World) (R : Value → World → Prop) => trF Tryd.prog G (lk [(4, [(7, .int .u64), (8, .int .u64), (9, .int .i64)])]) Tryd.f83 [.int .u64 x_0, .int .i64 x_1, .int .i64 x_2] w R := by kernel_rfl
theorem c83 (x_0 : Int) (x_1 : Int) (x_2 : Int) (w : World) (R : Value → World → Prop) (h : B83 x_0 x_1 x_2 w R) : Calls Tryd.prog 83 #[.int .u64 x_0, .int .i64 x_1, .int .i64 x_2] w (Rv R) := calls_of_tr (L := lk [(4, [(7, .int .u64), (8, .int .u64), (9, .int .i64)])]) Tryd.func83 hG hM (by rw [B83_eq] at h; exact h)

/-- locution/locutionref01.Width -/
def B128 (x_0 : Int) (w : World) (R : Value → World → Prop) : Prop :=
  ∃ (I1 : Int → Int → World → Prop) (μ2 : Int → Int → World → Nat), I1 x_0 (0 : Int) w ∧ ∀ x3 : Int, ∀ x4 : Int, ∀ w5 : World, I1 x3 x4 w5 →
    br (decide ((0 : Int) < x3)) ((2 : Int) ≠ 0 ∧ I1 (IntKind.u64.wrap (Int.tdiv x3 2)) (IntKind.i64.wrap (x4 + 1)) w5 ∧
    μ2 (IntKind.u64.wrap (Int.tdiv x3 2)) (IntKind.i64.wrap (x4 + 1)) w5 < μ2 x3 x4 w5) (R (.int .i64 x4) w5)
theorem B128_eq : @B128 = fun (x_0 : Int) (w : World) (R : Value → World → Prop) => trF Tryd.prog G (lk [(2, [(0, .int .u64), (3, .int .i64)])]) Tryd.f128 [.int .u64 x_0] w R := by kernel_rfl
theorem c128 (x_0 : Int) (w : World) (R : Value → World → Prop) (h : B128 x_0 w R) : Calls Tryd.prog 128 #[.int .u64 x_0] w (Rv R) := calls_of_tr (L := lk [(2, [(0, .int .u64), (3, .int .i64)])]) Tryd.func128 hG hM (by rw [B128_eq] at h; exact h)

/-- locution/locutionlaw01.live -/
def B15  (w : World) (R : Value → World → Prop) : Prop :=
  Calls Tryd.prog 77 #[.int .u64 22] w (Rv fun v1 w2 => ∃ n3 : Int, v1 = .int .i64 n3 ∧
    br (decide (n3 = (3 : Int))) (Calls Tryd.prog 78 #[.int .u64 22, .int .i64 3] w2 (Rv fun v4 w5 => ∃ n6 : Int, v4 = .int .i64 n6 ∧
    br (decide (n6 = (2 : Int))) (Calls Tryd.prog 79 #[.int .u64 22, .int .i64 2] w5 (Rv fun v7 w8 => ∃ n9 : Int, v7 = .int .i64 n9 ∧
    br (decide (n9 = (4 : Int))) (Calls Tryd.prog 80 #[.int .u64 22, .int .i64 1, .int .i64 3] w8 (Rv fun v10 w11 => ∃ n12 : Int, v10 = .int .u64 n12 ∧
    br (decide (n12 = (3 : Int))) (Calls Tryd.prog 81 #[.int .u64 22] w11 (Rv fun v13 w14 => ∃ n15 : Int, v13 = .int .i64 n15 ∧
    R (.bool (decide (n15 = (5 : Int)))) w14)) (R (.bool false) w11))) (R (.bool false) w8))) (R (.bool false) w5))) (R (.bool false) w2))
theorem B15_eq : @B15 = fun (w : World) (R : Value → World → Prop) => trF Tryd.prog G (lk []) Tryd.f15 [] w R := by kernel_rfl
theorem c15  (w : World) (R : Value → World → Prop) (h : B15  w R) : Calls Tryd.prog 15 #[] w (Rv R) := calls_of_tr (L := lk []) Tryd.func15 hG hM (by rw [B15_eq] at h; exact h)

/-- math/bits.OnesCount64 -/
def B133 (x_0 : Int) (w : World) (R : Value → World → Prop) : Prop :=
  0 ≤ (1 : Int) ∧ 0 ≤ (2 : Int) ∧ 0 ≤ (4 : Int) ∧ 0 ≤ (8 : Int) ∧ 0 ≤ (16 : Int) ∧ 0 ≤ (32 : Int) ∧
    R (.int .i64 (bAnd .i64 (IntKind.i64.wrap (IntKind.u64.wrap ((IntKind.u64.wrap ((IntKind.u64.wrap ((bAnd .u64 (IntKind.u64.wrap ((shR .u64 (IntKind.u64.wrap ((bAnd .u64 (shR .u64 (IntKind.u64.wrap ((bAnd .u64 (shR .u64 x_0 1) 6148914691236517205) + (bAnd .u64 x_0 6148914691236517205))) 2) 3689348814741910323) + (bAnd .u64 (IntKind.u64.wrap ((bAnd .u64 (shR .u64 x_0 1) 6148914691236517205) + (bAnd .u64 x_0 6148914691236517205))) 3689348814741910323))) 4) + (IntKind.u64.wrap ((bAnd .u64 (shR .u64 (IntKind.u64.wrap ((bAnd .u64 (shR .u64 x_0 1) 6148914691236517205) + (bAnd .u64 x_0 6148914691236517205))) 2) 3689348814741910323) + (bAnd .u64 (IntKind.u64.wrap ((bAnd .u64 (shR .u64 x_0 1) 6148914691236517205) + (bAnd .u64 x_0 6148914691236517205))) 3689348814741910323))))) 1085102592571150095) + (shR .u64 (bAnd .u64 (IntKind.u64.wrap ((shR .u64 (IntKind.u64.wrap ((bAnd .u64 (shR .u64 (IntKind.u64.wrap ((bAnd .u64 (shR .u64 x_0 1) 6148914691236517205) + (bAnd .u64 x_0 6148914691236517205))) 2) 3689348814741910323) + (bAnd .u64 (IntKind.u64.wrap ((bAnd .u64 (shR .u64 x_0 1) 6148914691236517205) + (bAnd .u64 x_0 6148914691236517205))) 3689348814741910323))) 4) + (IntKind.u64.wrap ((bAnd .u64 (shR .u64 (IntKind.u64.wrap ((bAnd .u64 (shR .u64 x_0 1) 6148914691236517205) + (bAnd .u64 x_0 6148914691236517205))) 2) 3689348814741910323) + (bAnd .u64 (IntKind.u64.wrap ((bAnd .u64 (shR .u64 x_0 1) 6148914691236517205) + (bAnd .u64 x_0 6148914691236517205))) 3689348814741910323))))) 1085102592571150095) 8))) + (shR .u64 (IntKind.u64.wrap ((bAnd .u64 (IntKind.u64.wrap ((shR .u64 (IntKind.u64.wrap ((bAnd .u64 (shR .u64 (IntKind.u64.wrap ((bAnd .u64 (shR .u64 x_0 1) 6148914691236517205) + (bAnd .u64 x_0 6148914691236517205))) 2) 3689348814741910323) + (bAnd .u64 (IntKind.u64.wrap ((bAnd .u64 (shR .u64 x_0 1) 6148914691236517205) + (bAnd .u64 x_0 6148914691236517205))) 3689348814741910323))) 4) + (IntKind.u64.wrap ((bAnd .u64 (shR .u64 (IntKind.u64.wrap ((bAnd .u64 (shR .u64 x_0 1) 6148914691236517205) + (bAnd .u64 x_0 6148914691236517205))) 2) 3689348814741910323) + (bAnd .u64 (IntKind.u64.wrap ((bAnd .u64 (shR .u64 x_0 1) 6148914691236517205) + (bAnd .u64 x_0 6148914691236517205))) 3689348814741910323))))) 1085102592571150095) + (shR .u64 (bAnd .u64 (IntKind.u64.wrap ((shR .u64 (IntKind.u64.wrap ((bAnd .u64 (shR .u64 (IntKind.u64.wrap ((bAnd .u64 (shR .u64 x_0 1) 6148914691236517205) + (bAnd .u64 x_0 6148914691236517205))) 2) 3689348814741910323) + (bAnd .u64 (IntKind.u64.wrap ((bAnd .u64 (shR .u64 x_0 1) 6148914691236517205) + (bAnd .u64 x_0 6148914691236517205))) 3689348814741910323))) 4) + (IntKind.u64.wrap ((bAnd .u64 (shR .u64 (IntKind.u64.wrap ((bAnd .u64 (shR .u64 x_0 1) 6148914691236517205) + (bAnd .u64 x_0 6148914691236517205))) 2) 3689348814741910323) + (bAnd .u64 (IntKind.u64.wrap ((bAnd .u64 (shR .u64 x_0 1) 6148914691236517205) + (bAnd .u64 x_0 6148914691236517205))) 3689348814741910323))))) 1085102592571150095) 8))) 16))) + (shR .u64 (IntKind.u64.wrap ((IntKind.u64.wrap ((bAnd .u64 (IntKind.u64.wrap ((shR .u64 (IntKind.u64.wrap ((bAnd .u64 (shR .u64 (IntKind.u64.wrap ((bAnd .u64 (shR .u64 x_0 1) 6148914691236517205) + (bAnd .u64 x_0 6148914691236517205))) 2) 3689348814741910323) + (bAnd .u64 (IntKind.u64.wrap ((bAnd .u64 (shR .u64 x_0 1) 6148914691236517205) + (bAnd .u64 x_0 6148914691236517205))) 3689348814741910323))) 4) + (IntKind.u64.wrap ((bAnd .u64 (shR .u64 (IntKind.u64.wrap ((bAnd .u64 (shR .u64 x_0 1) 6148914691236517205) + (bAnd .u64 x_0 6148914691236517205))) 2) 3689348814741910323) + (bAnd .u64 (IntKind.u64.wrap ((bAnd .u64 (shR .u64 x_0 1) 6148914691236517205) + (bAnd .u64 x_0 6148914691236517205))) 3689348814741910323))))) 1085102592571150095) + (shR .u64 (bAnd .u64 (IntKind.u64.wrap ((shR .u64 (IntKind.u64.wrap ((bAnd .u64 (shR .u64 (IntKind.u64.wrap ((bAnd .u64 (shR .u64 x_0 1) 6148914691236517205) + (bAnd .u64 x_0 6148914691236517205))) 2) 3689348814741910323) + (bAnd .u64 (IntKind.u64.wrap ((bAnd .u64 (shR .u64 x_0 1) 6148914691236517205) + (bAnd .u64 x_0 6148914691236517205))) 3689348814741910323))) 4) + (IntKind.u64.wrap ((bAnd .u64 (shR .u64 (IntKind.u64.wrap ((bAnd .u64 (shR .u64 x_0 1) 6148914691236517205) + (bAnd .u64 x_0 6148914691236517205))) 2) 3689348814741910323) + (bAnd .u64 (IntKind.u64.wrap ((bAnd .u64 (shR .u64 x_0 1) 6148914691236517205) + (bAnd .u64 x_0 6148914691236517205))) 3689348814741910323))))) 1085102592571150095) 8))) + (shR .u64 (IntKind.u64.wrap ((bAnd .u64 (IntKind.u64.wrap ((shR .u64 (IntKind.u64.wrap ((bAnd .u64 (shR .u64 (IntKind.u64.wrap ((bAnd .u64 (shR .u64 x_0 1) 6148914691236517205) + (bAnd .u64 x_0 6148914691236517205))) 2) 3689348814741910323) + (bAnd .u64 (IntKind.u64.wrap ((bAnd .u64 (shR .u64 x_0 1) 6148914691236517205) + (bAnd .u64 x_0 6148914691236517205))) 3689348814741910323))) 4) + (IntKind.u64.wrap ((bAnd .u64 (shR .u64 (IntKind.u64.wrap ((bAnd .u64 (shR .u64 x_0 1) 6148914691236517205) + (bAnd .u64 x_0 6148914691236517205))) 2) 3689348814741910323) + (bAnd .u64 (IntKind.u64.wrap ((bAnd .u64 (shR .u64 x_0 1) 6148914691236517205) + (bAnd .u64 x_0 6148914691236517205))) 3689348814741910323))))) 1085102592571150095) + (shR .u64 (bAnd .u64 (IntKind.u64.wrap ((shR .u64 (IntKind.u64.wrap ((bAnd .u64 (shR .u64 (IntKind.u64.wrap ((bAnd .u64 (shR .u64 x_0 1) 6148914691236517205) + (bAnd .u64 x_0 6148914691236517205))) 2) 3689348814741910323) + (bAnd .u64 (IntKind.u64.wrap ((bAnd .u64 (shR .u64 x_0 1) 6148914691236517205) + (bAnd .u64 x_0 6148914691236517205))) 3689348814741910323))) 4) + (IntKind.u64.wrap ((bAnd .u64 (shR .u64 (IntKind.u64.wrap ((bAnd .u64 (shR .u64 x_0 1) 6148914691236517205) + (bAnd .u64 x_0 6148914691236517205))) 2) 3689348814741910323) + (bAnd .u64 (IntKind.u64.wrap ((bAnd .u64 (shR .u64 x_0 1) 6148914691236517205) + (bAnd .u64 x_0 6148914691236517205))) 3689348814741910323))))) 1085102592571150095) 8))) 16))) 32)))) 127)) w
theorem B133_eq : @B133 = fun (x_0 : Int) (w : World) (R : Value → World → Prop) => trF Tryd.prog G (lk []) Tryd.f133 [.int .u64 x_0] w R := by kernel_rfl
theorem c133 (x_0 : Int) (w : World) (R : Value → World → Prop) (h : B133 x_0 w R) : Calls Tryd.prog 133 #[.int .u64 x_0] w (Rv R) := calls_of_tr (L := lk []) Tryd.func133 hG hM (by rw [B133_eq] at h; exact h)

/-- math/bits.Len64 -/
def B134 (x_0 : Int) (w : World) (R : Value → World → Prop) : Prop :=
  br (decide ((4294967296 : Int) ≤ x_0)) (0 ≤ (32 : Int) ∧ br (decide ((65536 : Int) ≤ (shR .u64 x_0 32))) (0 ≤ (16 : Int) ∧
    br (decide ((256 : Int) ≤ (shR .u64 (shR .u64 x_0 32) 16))) (0 ≤ (8 : Int) ∧ ∃ c1 : UInt8, 0 ≤ (IntKind.u8.wrap (shR .u64 (shR .u64 (shR .u64 x_0 32) 16) 8)) ∧
    (⟨(List.toArray (List.append (List.append ([0, 1, 2, 2, 3, 3, 3, 3, 4, 4, 4, 4, 4, 4, 4, 4, 5, 5, 5, 5, 5, 5, 5, 5, 5, 5, 5, 5, 5, 5, 5, 5, 6, 6, 6, 6, 6, 6, 6, 6, 6, 6, 6, 6, 6, 6, 6, 6, 6, 6, 6, 6, 6, 6, 6, 6, 6, 6, 6, 6, 6, 6, 6, 6]) ([7, 7, 7, 7, 7, 7, 7, 7, 7, 7, 7, 7, 7, 7, 7, 7, 7, 7, 7, 7, 7, 7, 7, 7, 7, 7, 7, 7, 7, 7, 7, 7, 7, 7, 7, 7, 7, 7, 7, 7, 7, 7, 7, 7, 7, 7, 7, 7, 7, 7, 7, 7, 7, 7, 7, 7, 7, 7, 7, 7, 7, 7, 7, 7])) (List.append ([8, 8, 8, 8, 8, 8, 8, 8, 8, 8, 8, 8, 8, 8, 8, 8, 8, 8, 8, 8, 8, 8, 8, 8, 8, 8, 8, 8, 8, 8, 8, 8, 8, 8, 8, 8, 8, 8, 8, 8, 8, 8, 8, 8, 8, 8, 8, 8, 8, 8, 8, 8, 8, 8, 8, 8, 8, 8, 8, 8, 8, 8, 8, 8]) ([8, 8, 8, 8, 8, 8, 8, 8, 8, 8, 8, 8, 8, 8, 8, 8, 8, 8, 8, 8, 8, 8, 8, 8, 8, 8, 8, 8, 8, 8, 8, 8, 8, 8, 8, 8, 8, 8, 8, 8, 8, 8, 8, 8, 8, 8, 8, 8, 8, 8, 8, 8, 8, 8, 8, 8, 8, 8, 8, 8, 8, 8, 8, 8]))))⟩ : ByteArray)[(IntKind.u8.wrap (shR .u64 (shR .u64 (shR .u64 x_0 32) 16) 8)).toNat]? = some c1 ∧
    R (.int .i64 (IntKind.i64.wrap ((IntKind.i64.wrap ((IntKind.i64.wrap (32 + 16)) + 8)) + (IntKind.i64.wrap (UInt8.toNat c1 : Int))))) w) (∃ c2 : UInt8, 0 ≤ (IntKind.u8.wrap (shR .u64 (shR .u64 x_0 32) 16)) ∧
    (⟨(List.toArray (List.append (List.append ([0, 1, 2, 2, 3, 3, 3, 3, 4, 4, 4, 4, 4, 4, 4, 4, 5, 5, 5, 5, 5, 5, 5, 5, 5, 5, 5, 5, 5, 5, 5, 5, 6, 6, 6, 6, 6, 6, 6, 6, 6, 6, 6, 6, 6, 6, 6, 6, 6, 6, 6, 6, 6, 6, 6, 6, 6, 6, 6, 6, 6, 6, 6, 6]) ([7, 7, 7, 7, 7, 7, 7, 7, 7, 7, 7, 7, 7, 7, 7, 7, 7, 7, 7, 7, 7, 7, 7, 7, 7, 7, 7, 7, 7, 7, 7, 7, 7, 7, 7, 7, 7, 7, 7, 7, 7, 7, 7, 7, 7, 7, 7, 7, 7, 7, 7, 7, 7, 7, 7, 7, 7, 7, 7, 7, 7, 7, 7, 7])) (List.append ([8, 8, 8, 8, 8, 8, 8, 8, 8, 8, 8, 8, 8, 8, 8, 8, 8, 8, 8, 8, 8, 8, 8, 8, 8, 8, 8, 8, 8, 8, 8, 8, 8, 8, 8, 8, 8, 8, 8, 8, 8, 8, 8, 8, 8, 8, 8, 8, 8, 8, 8, 8, 8, 8, 8, 8, 8, 8, 8, 8, 8, 8, 8, 8]) ([8, 8, 8, 8, 8, 8, 8, 8, 8, 8, 8, 8, 8, 8, 8, 8, 8, 8, 8, 8, 8, 8, 8, 8, 8, 8, 8, 8, 8, 8, 8, 8, 8, 8, 8, 8, 8, 8, 8, 8, 8, 8, 8, 8, 8, 8, 8, 8, 8, 8, 8, 8, 8, 8, 8, 8, 8, 8, 8, 8, 8, 8, 8, 8]))))⟩ : ByteArray)[(IntKind.u8.wrap (shR .u64 (shR .u64 x_0 32) 16)).toNat]? = some c2 ∧
    R (.int .i64 (IntKind.i64.wrap ((IntKind.i64.wrap (32 + 16)) + (IntKind.i64.wrap (UInt8.toNat c2 : Int))))) w)) (br (decide ((256 : Int) ≤ (shR .u64 x_0 32))) (0 ≤ (8 : Int) ∧
    ∃ c3 : UInt8, 0 ≤ (IntKind.u8.wrap (shR .u64 (shR .u64 x_0 32) 8)) ∧
    (⟨(List.toArray (List.append (List.append ([0, 1, 2, 2, 3, 3, 3, 3, 4, 4, 4, 4, 4, 4, 4, 4, 5, 5, 5, 5, 5, 5, 5, 5, 5, 5, 5, 5, 5, 5, 5, 5, 6, 6, 6, 6, 6, 6, 6, 6, 6, 6, 6, 6, 6, 6, 6, 6, 6, 6, 6, 6, 6, 6, 6, 6, 6, 6, 6, 6, 6, 6, 6, 6]) ([7, 7, 7, 7, 7, 7, 7, 7, 7, 7, 7, 7, 7, 7, 7, 7, 7, 7, 7, 7, 7, 7, 7, 7, 7, 7, 7, 7, 7, 7, 7, 7, 7, 7, 7, 7, 7, 7, 7, 7, 7, 7, 7, 7, 7, 7, 7, 7, 7, 7, 7, 7, 7, 7, 7, 7, 7, 7, 7, 7, 7, 7, 7, 7])) (List.append ([8, 8, 8, 8, 8, 8, 8, 8, 8, 8, 8, 8, 8, 8, 8, 8, 8, 8, 8, 8, 8, 8, 8, 8, 8, 8, 8, 8, 8, 8, 8, 8, 8, 8, 8, 8, 8, 8, 8, 8, 8, 8, 8, 8, 8, 8, 8, 8, 8, 8, 8, 8, 8, 8, 8, 8, 8, 8, 8, 8, 8, 8, 8, 8]) ([8, 8, 8, 8, 8, 8, 8, 8, 8, 8, 8, 8, 8, 8, 8, 8, 8, 8, 8, 8, 8, 8, 8, 8, 8, 8, 8, 8, 8, 8, 8, 8, 8, 8, 8, 8, 8, 8, 8, 8, 8, 8, 8, 8, 8, 8, 8, 8, 8, 8, 8, 8, 8, 8, 8, 8, 8, 8, 8, 8, 8, 8, 8, 8]))))⟩ : ByteArray)[(IntKind.u8.wrap (shR .u64 (shR .u64 x_0 32) 8)).toNat]? = some c3 ∧
    R (.int .i64 (IntKind.i64.wrap ((IntKind.i64.wrap (32 + 8)) + (IntKind.i64.wrap (UInt8.toNat c3 : Int))))) w) (∃ c4 : UInt8, 0 ≤ (IntKind.u8.wrap (shR .u64 x_0 32)) ∧
    (⟨(List.toArray (List.append (List.append ([0, 1, 2, 2, 3, 3, 3, 3, 4, 4, 4, 4, 4, 4, 4, 4, 5, 5, 5, 5, 5, 5, 5, 5, 5, 5, 5, 5, 5, 5, 5, 5, 6, 6, 6, 6, 6, 6, 6, 6, 6, 6, 6, 6, 6, 6, 6, 6, 6, 6, 6, 6, 6, 6, 6, 6, 6, 6, 6, 6, 6, 6, 6, 6]) ([7, 7, 7, 7, 7, 7, 7, 7, 7, 7, 7, 7, 7, 7, 7, 7, 7, 7, 7, 7, 7, 7, 7, 7, 7, 7, 7, 7, 7, 7, 7, 7, 7, 7, 7, 7, 7, 7, 7, 7, 7, 7, 7, 7, 7, 7, 7, 7, 7, 7, 7, 7, 7, 7, 7, 7, 7, 7, 7, 7, 7, 7, 7, 7])) (List.append ([8, 8, 8, 8, 8, 8, 8, 8, 8, 8, 8, 8, 8, 8, 8, 8, 8, 8, 8, 8, 8, 8, 8, 8, 8, 8, 8, 8, 8, 8, 8, 8, 8, 8, 8, 8, 8, 8, 8, 8, 8, 8, 8, 8, 8, 8, 8, 8, 8, 8, 8, 8, 8, 8, 8, 8, 8, 8, 8, 8, 8, 8, 8, 8]) ([8, 8, 8, 8, 8, 8, 8, 8, 8, 8, 8, 8, 8, 8, 8, 8, 8, 8, 8, 8, 8, 8, 8, 8, 8, 8, 8, 8, 8, 8, 8, 8, 8, 8, 8, 8, 8, 8, 8, 8, 8, 8, 8, 8, 8, 8, 8, 8, 8, 8, 8, 8, 8, 8, 8, 8, 8, 8, 8, 8, 8, 8, 8, 8]))))⟩ : ByteArray)[(IntKind.u8.wrap (shR .u64 x_0 32)).toNat]? = some c4 ∧
    R (.int .i64 (IntKind.i64.wrap (32 + (IntKind.i64.wrap (UInt8.toNat c4 : Int))))) w))) (br (decide ((65536 : Int) ≤ x_0)) (0 ≤ (16 : Int) ∧
    br (decide ((256 : Int) ≤ (shR .u64 x_0 16))) (0 ≤ (8 : Int) ∧ ∃ c5 : UInt8, 0 ≤ (IntKind.u8.wrap (shR .u64 (shR .u64 x_0 16) 8)) ∧
    (⟨(List.toArray (List.append (List.append ([0, 1, 2, 2, 3, 3, 3, 3, 4, 4, 4, 4, 4, 4, 4, 4, 5, 5, 5, 5, 5, 5, 5, 5, 5, 5, 5, 5, 5, 5, 5, 5, 6, 6, 6, 6, 6, 6, 6, 6, 6, 6, 6, 6, 6, 6, 6, 6, 6, 6, 6, 6, 6, 6, 6, 6, 6, 6, 6, 6, 6, 6, 6, 6]) ([7, 7, 7, 7, 7, 7, 7, 7, 7, 7, 7, 7, 7, 7, 7, 7, 7, 7, 7, 7, 7, 7, 7, 7, 7, 7, 7, 7, 7, 7, 7, 7, 7, 7, 7, 7, 7, 7, 7, 7, 7, 7, 7, 7, 7, 7, 7, 7, 7, 7, 7, 7, 7, 7, 7, 7, 7, 7, 7, 7, 7, 7, 7, 7])) (List.append ([8, 8, 8, 8, 8, 8, 8, 8, 8, 8, 8, 8, 8, 8, 8, 8, 8, 8, 8, 8, 8, 8, 8, 8, 8, 8, 8, 8, 8, 8, 8, 8, 8, 8, 8, 8, 8, 8, 8, 8, 8, 8, 8, 8, 8, 8, 8, 8, 8, 8, 8, 8, 8, 8, 8, 8, 8, 8, 8, 8, 8, 8, 8, 8]) ([8, 8, 8, 8, 8, 8, 8, 8, 8, 8, 8, 8, 8, 8, 8, 8, 8, 8, 8, 8, 8, 8, 8, 8, 8, 8, 8, 8, 8, 8, 8, 8, 8, 8, 8, 8, 8, 8, 8, 8, 8, 8, 8, 8, 8, 8, 8, 8, 8, 8, 8, 8, 8, 8, 8, 8, 8, 8, 8, 8, 8, 8, 8, 8]))))⟩ : ByteArray)[(IntKind.u8.wrap (shR .u64 (shR .u64 x_0 16) 8)).toNat]? = some c5 ∧
    R (.int .i64 (IntKind.i64.wrap ((IntKind.i64.wrap ((IntKind.i64.wrap (0 + 16)) + 8)) + (IntKind.i64.wrap (UInt8.toNat c5 : Int))))) w) (∃ c6 : UInt8, 0 ≤ (IntKind.u8.wrap (shR .u64 x_0 16)) ∧
    (⟨(List.toArray (List.append (List.append ([0, 1, 2, 2, 3, 3, 3, 3, 4, 4, 4, 4, 4, 4, 4, 4, 5, 5, 5, 5, 5, 5, 5, 5, 5, 5, 5, 5, 5, 5, 5, 5, 6, 6, 6, 6, 6, 6, 6, 6, 6, 6, 6, 6, 6, 6, 6, 6, 6, 6, 6, 6, 6, 6, 6, 6, 6, 6, 6, 6, 6, 6, 6, 6]) ([7, 7, 7, 7, 7, 7, 7, 7, 7, 7, 7, 7, 7, 7, 7, 7, 7, 7, 7, 7, 7, 7, 7, 7, 7, 7, 7, 7, 7, 7, 7, 7, 7, 7, 7, 7, 7, 7, 7, 7, 7, 7, 7, 7, 7, 7, 7, 7, 7, 7, 7, 7, 7, 7, 7, 7, 7, 7, 7, 7, 7, 7, 7, 7])) (List.append ([8, 8, 8, 8, 8, 8, 8, 8, 8, 8, 8, 8, 8, 8, 8, 8, 8, 8, 8, 8, 8, 8, 8, 8, 8, 8, 8, 8, 8, 8, 8, 8, 8, 8, 8, 8, 8, 8, 8, 8, 8, 8, 8, 8, 8, 8, 8, 8, 8, 8, 8, 8, 8, 8, 8, 8, 8, 8, 8, 8, 8, 8, 8, 8]) ([8, 8, 8, 8, 8, 8, 8, 8, 8, 8, 8, 8, 8, 8, 8, 8, 8, 8, 8, 8, 8, 8, 8, 8, 8, 8, 8, 8, 8, 8, 8, 8, 8, 8, 8, 8, 8, 8, 8, 8, 8, 8, 8, 8, 8, 8, 8, 8, 8, 8, 8, 8, 8, 8, 8, 8, 8, 8, 8, 8, 8, 8, 8, 8]))))⟩ : ByteArray)[(IntKind.u8.wrap (shR .u64 x_0 16)).toNat]? = some c6 ∧
    R (.int .i64 (IntKind.i64.wrap ((IntKind.i64.wrap (0 + 16)) + (IntKind.i64.wrap (UInt8.toNat c6 : Int))))) w)) (br (decide ((256 : Int) ≤ x_0)) (0 ≤ (8 : Int) ∧
    ∃ c7 : UInt8, 0 ≤ (IntKind.u8.wrap (shR .u64 x_0 8)) ∧
    (⟨(List.toArray (List.append (List.append ([0, 1, 2, 2, 3, 3, 3, 3, 4, 4, 4, 4, 4, 4, 4, 4, 5, 5, 5, 5, 5, 5, 5, 5, 5, 5, 5, 5, 5, 5, 5, 5, 6, 6, 6, 6, 6, 6, 6, 6, 6, 6, 6, 6, 6, 6, 6, 6, 6, 6, 6, 6, 6, 6, 6, 6, 6, 6, 6, 6, 6, 6, 6, 6]) ([7, 7, 7, 7, 7, 7, 7, 7, 7, 7, 7, 7, 7, 7, 7, 7, 7, 7, 7, 7, 7, 7, 7, 7, 7, 7, 7, 7, 7, 7, 7, 7, 7, 7, 7, 7, 7, 7, 7, 7, 7, 7, 7, 7, 7, 7, 7, 7, 7, 7, 7, 7, 7, 7, 7, 7, 7, 7, 7, 7, 7, 7, 7, 7])) (List.append ([8, 8, 8, 8, 8, 8, 8, 8, 8, 8, 8, 8, 8, 8, 8, 8, 8, 8, 8, 8, 8, 8, 8, 8, 8, 8, 8, 8, 8, 8, 8, 8, 8, 8, 8, 8, 8, 8, 8, 8, 8, 8, 8, 8, 8, 8, 8, 8, 8, 8, 8, 8, 8, 8, 8, 8, 8, 8, 8, 8, 8, 8, 8, 8]) ([8, 8, 8, 8, 8, 8, 8, 8, 8, 8, 8, 8, 8, 8, 8, 8, 8, 8, 8, 8, 8, 8, 8, 8, 8, 8, 8, 8, 8, 8, 8, 8, 8, 8, 8, 8, 8, 8, 8, 8, 8, 8, 8, 8, 8, 8, 8, 8, 8, 8, 8, 8, 8, 8, 8, 8, 8, 8, 8, 8, 8, 8, 8, 8]))))⟩ : ByteArray)[(IntKind.u8.wrap (shR .u64 x_0 8)).toNat]? = some c7 ∧
    R (.int .i64 (IntKind.i64.wrap ((IntKind.i64.wrap (0 + 8)) + (IntKind.i64.wrap (UInt8.toNat c7 : Int))))) w) (∃ c8 : UInt8, 0 ≤ (IntKind.u8.wrap x_0) ∧
    (⟨(List.toArray (List.append (List.append ([0, 1, 2, 2, 3, 3, 3, 3, 4, 4, 4, 4, 4, 4, 4, 4, 5, 5, 5, 5, 5, 5, 5, 5, 5, 5, 5, 5, 5, 5, 5, 5, 6, 6, 6, 6, 6, 6, 6, 6, 6, 6, 6, 6, 6, 6, 6, 6, 6, 6, 6, 6, 6, 6, 6, 6, 6, 6, 6, 6, 6, 6, 6, 6]) ([7, 7, 7, 7, 7, 7, 7, 7, 7, 7, 7, 7, 7, 7, 7, 7, 7, 7, 7, 7, 7, 7, 7, 7, 7, 7, 7, 7, 7, 7, 7, 7, 7, 7, 7, 7, 7, 7, 7, 7, 7, 7, 7, 7, 7, 7, 7, 7, 7, 7, 7, 7, 7, 7, 7, 7, 7, 7, 7, 7, 7, 7, 7, 7])) (List.append ([8, 8, 8, 8, 8, 8, 8, 8, 8, 8, 8, 8, 8, 8, 8, 8, 8, 8, 8, 8, 8, 8, 8, 8, 8, 8, 8, 8, 8, 8, 8, 8, 8, 8, 8, 8, 8, 8, 8, 8, 8, 8, 8, 8, 8, 8, 8, 8, 8, 8, 8, 8, 8, 8, 8, 8, 8, 8, 8, 8, 8, 8, 8, 8]) ([8, 8, 8, 8, 8, 8, 8, 8, 8, 8, 8, 8, 8, 8, 8, 8, 8, 8, 8, 8, 8, 8, 8, 8, 8, 8, 8, 8, 8, 8, 8, 8, 8, 8, 8, 8, 8, 8, 8, 8, 8, 8, 8, 8, 8, 8, 8, 8, 8, 8, 8, 8, 8, 8, 8, 8, 8, 8, 8, 8, 8, 8, 8, 8]))))⟩ : ByteArray)[(IntKind.u8.wrap x_0).toNat]? = some c8 ∧
    R (.int .i64 (IntKind.i64.wrap (0 + (IntKind.i64.wrap (UInt8.toNat c8 : Int))))) w)))
theorem B134_eq : @B134 = fun (x_0 : Int) (w : World) (R : Value → World → Prop) => trF Tryd.prog G (lk []) Tryd.f134 [.int .u64 x_0] w R := by kernel_rfl
theorem c134 (x_0 : Int) (w : World) (R : Value → World → Prop) (h : B134 x_0 w R) : Calls Tryd.prog 134 #[.int .u64 x_0] w (Rv R) := calls_of_tr (L := lk []) Tryd.func134 hG hM (by rw [B134_eq] at h; exact h)

/-- math/bits.TrailingZeros64 -/
def B75 (x_0 : Int) (w : World) (R : Value → World → Prop) : Prop :=
  br (decide (x_0 = (0 : Int))) (R (.int .i64 64) w) (0 ≤ (58 : Int) ∧
    0 ≤ (shR .u64 (IntKind.u64.wrap ((bAnd .u64 x_0 (IntKind.u64.wrap (0 - x_0))) * 285870213051353865)) 58) ∧
    (shR .u64 (IntKind.u64.wrap ((bAnd .u64 x_0 (IntKind.u64.wrap (0 - x_0))) * 285870213051353865)) 58) < (64 : Int) ∧ ∃ a1, (some ⟨0, 0, none⟩) = some a1 ∧
    ∃ n2 : Int, w.cell? (Addr.add a1 ((shR .u64 (IntKind.u64.wrap ((bAnd .u64 x_0 (IntKind.u64.wrap (0 - x_0))) * 285870213051353865)) 58).toNat * 1)) = some (.int .u8 n2) ∧
    R (.int .i64 (IntKind.i64.wrap n2)) w)
theorem B75_eq : @B75 = fun (x_0 : Int) (w : World) (R : Value → World → Prop) => trF Tryd.prog G (lk []) Tryd.f75 [.int .u64 x_0] w R := by kernel_rfl
theorem c75 (x_0 : Int) (w : World) (R : Value → World → Prop) (h : B75 x_0 w R) : Calls Tryd.prog 75 #[.int .u64 x_0] w (Rv R) := calls_of_tr (L := lk []) Tryd.func75 hG hM (by rw [B75_eq] at h; exact h)

end Go.Proofs.YtomajpihimlcjaaDoor.V
