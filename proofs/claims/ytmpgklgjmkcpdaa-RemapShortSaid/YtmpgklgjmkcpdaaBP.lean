/- The verification conditions of functions, printed by a program of this work (pr.py) and checked here by the kernel. -/
import Derived.Test.YtmpgklgjmkcpdaaBS
set_option maxRecDepth 100000
set_option linter.unusedVariables false
namespace Go.Proofs.Ytmpgklgjmkcpdaa.V
open Go Go.VC

/-- locution/packrow.New -/
def B94 (x_0 : Int) (x_1 : Slc) (w : World) (R : Value → World → Prop) : Prop :=
  
    br (decide (x_0 < (0 : Int))) (R (.tuple #[.pointer none, .int .i64 1]) w) (br (decide ((64 : Int) < x_0)) (R (.tuple #[.pointer none, .int .i64 1]) w) (Calls Try.prog 111 #[.slice x_1.a x_1.len x_1.cap] w (Rv fun v1 w2 =>
    ∃ n3 : Int, v1 = .int .u64 n3 ∧ Calls Try.prog 108 #[.int .u64 n3] w2 (Rv fun v4 w5 => ∃ n6 : Int, v4 = .int .i64 n6 ∧
    br (decide (x_0 < n6)) (R (.tuple #[.pointer none, .int .i64 8]) w5) (Calls Try.prog 112 #[.int .i64 x_0, .slice x_1.a x_1.len x_1.cap] w5 (Rv fun v7 w8 =>
    ∃ p9 : Option Addr, v7 = .pointer p9 ∧ R (.tuple #[.pointer p9, .int .i64 0]) w8))))))
theorem B94_eq : @B94 = fun (x_0 : Int) (x_1 : Slc) (w : World) (R : Value → World → Prop) => trF Try.prog G (lk []) Try.f94 [.int .i64 x_0, .slice x_1.a x_1.len x_1.cap] w R := by kernel_rfl
theorem c94 (x_0 : Int) (x_1 : Slc) (w : World) (R : Value → World → Prop) (h : B94 x_0 x_1 w R) : Calls Try.prog 94 #[.int .i64 x_0, .slice x_1.a x_1.len x_1.cap] w (Rv R) := calls_of_tr (L := lk []) Try.func94 hG hM (by rw [B94_eq] at h; exact h)

/-- (*locution/packrow.Pack).At -/
def B98 (a_0 : Addr) (x_1 : Int) (w : World) (R : Value → World → Prop) : Prop :=
  br (decide (x_1 < (0 : Int))) (R (.int .u64 0) w) (∃ n1 : Int, w.cell? (Addr.add a_0 2) = some (.int .i64 n1) ∧
    br (decide (n1 ≤ x_1)) (R (.int .u64 0) w) (∃ p2 : Option Addr, (World.drew w).cell? (Addr.add a_0 0) = some (.pointer p2) ∧
    ∃ n3 : Int, (World.drew w).cell? (Addr.add a_0 1) = some (.int .i64 n3) ∧ ∃ n4 : Int, (World.drew w).cell? (Addr.add a_0 1) = some (.int .i64 n4) ∧
    Calls Try.prog 121 #[.pointer p2, .int .i64 (IntKind.i64.wrap (x_1 * n3)), .int .i64 n4] (World.drew w) (Rv fun v5 w6 => ∃ n7 : Int, v5 = .int .u64 n7 ∧
    R (.int .u64 n7) w6)))
theorem B98_eq : @B98 = fun (a_0 : Addr) (x_1 : Int) (w : World) (R : Value → World → Prop) => trF Try.prog G (lk []) Try.f98 [.pointer (some a_0), .int .i64 x_1] w R := by kernel_rfl
theorem c98 (a_0 : Addr) (x_1 : Int) (w : World) (R : Value → World → Prop) (h : B98 a_0 x_1 w R) : Calls Try.prog 98 #[.pointer (some a_0), .int .i64 x_1] w (Rv R) := calls_of_tr (L := lk []) Try.func98 hG hM (by rw [B98_eq] at h; exact h)

/-- (*locution/packrow.Pack).Find -/
def B105 (a_0 : Addr) (x_1 : Int) (x_2 : Int) (x_3 : Int) (w : World) (R : Value → World → Prop) : Prop :=
  Calls Try.prog 125 #[.pointer (some a_0)] w (Rv fun v1 w2 => ∃ n3 : Int, v1 = .int .i64 n3 ∧ ∃ (I4 : Int → Int → World → Prop) (μ5 : Int → Int → World →
    Nat), I4 (max x_1 (0 : Int)) (min x_2 n3) w2 ∧ ∀ x6 : Int, ∀ x7 : Int, ∀ w8 : World, I4 x6 x7 w8 → br (decide (x6 < x7)) ((2 : Int) ≠ 0 ∧
    Calls Try.prog 98 #[.pointer (some a_0), .int .i64 (IntKind.i64.wrap (x6 + (IntKind.i64.wrap (Int.tdiv (IntKind.i64.wrap (x7 - x6)) 2))))] w8 (Rv fun v9 w10 =>
    ∃ n11 : Int, v9 = .int .u64 n11 ∧
    br (decide (n11 < x_3)) (I4 (IntKind.i64.wrap ((IntKind.i64.wrap (x6 + (IntKind.i64.wrap (Int.tdiv (IntKind.i64.wrap (x7 - x6)) 2)))) + 1)) x7 w10 ∧
    μ5 (IntKind.i64.wrap ((IntKind.i64.wrap (x6 + (IntKind.i64.wrap (Int.tdiv (IntKind.i64.wrap (x7 - x6)) 2)))) + 1)) x7 w10 < μ5 x6 x7 w8) (I4 x6 (IntKind.i64.wrap (x6 + (IntKind.i64.wrap (Int.tdiv (IntKind.i64.wrap (x7 - x6)) 2)))) w10 ∧
    μ5 x6 (IntKind.i64.wrap (x6 + (IntKind.i64.wrap (Int.tdiv (IntKind.i64.wrap (x7 - x6)) 2)))) w10 < μ5 x6 x7 w8))) (br (decide ((min x_2 n3) ≤ x6)) (R (.int .i64 (-1)) w8) (R (.int .i64 x6) w8)))
theorem B105_eq : @B105 = fun (a_0 : Addr) (x_1 : Int) (x_2 : Int) (x_3 : Int) (w : World) (R : Value → World → Prop) => trF Try.prog G (lk [(3, [(1, .int .i64), (2, .int .i64)])]) Try.f105 [.pointer (some a_0), .int .i64 x_1, .int .i64 x_2, .int .u64 x_3] w R := by kernel_rfl
theorem c105 (a_0 : Addr) (x_1 : Int) (x_2 : Int) (x_3 : Int) (w : World) (R : Value → World → Prop) (h : B105 a_0 x_1 x_2 x_3 w R) : Calls Try.prog 105 #[.pointer (some a_0), .int .i64 x_1, .int .i64 x_2, .int .u64 x_3] w (Rv R) := calls_of_tr (L := lk [(3, [(1, .int .i64), (2, .int .i64)])]) Try.func105 hG hM (by rw [B105_eq] at h; exact h)

/-- locution/packrow.greatest[uint64] -/
def B111 (x_0 : Slc) (w : World) (R : Value → World → Prop) : Prop :=
  ∃ (I1 : Int → Int → World → Prop) (μ2 : Int → Int → World → Nat), I1 (0 : Int) (0 : Int) w ∧ ∀ x3 : Int, ∀ x4 : Int, ∀ w5 : World, I1 x3 x4 w5 →
    br (decide (x4 < (x_0.len : Int))) (0 ≤ x4 ∧ x4 < (x_0.len : Int) ∧ ∃ a6, x_0.a = some a6 ∧
    ∃ n7 : Int, w5.cell? (Addr.add a6 (x4.toNat * 1)) = some (.int .u64 n7) ∧ I1 (max x3 n7) (IntKind.i64.wrap (x4 + 1)) w5 ∧
    μ2 (max x3 n7) (IntKind.i64.wrap (x4 + 1)) w5 < μ2 x3 x4 w5) (R (.int .u64 x3) w5)
theorem B111_eq : @B111 = fun (x_0 : Slc) (w : World) (R : Value → World → Prop) => trF Try.prog G (lk [(3, [(3, .int .u64), (8, .int .i64)])]) Try.f111 [.slice x_0.a x_0.len x_0.cap] w R := by kernel_rfl
theorem c111 (x_0 : Slc) (w : World) (R : Value → World → Prop) (h : B111 x_0 w R) : Calls Try.prog 111 #[.slice x_0.a x_0.len x_0.cap] w (Rv R) := calls_of_tr (L := lk [(3, [(3, .int .u64), (8, .int .i64)])]) Try.func111 hG hM (by rw [B111_eq] at h; exact h)

/-- locution/packrow.made -/
def B112 (x_0 : Int) (x_1 : Slc) (w : World) (R : Value → World → Prop) : Prop :=
  Calls Try.prog 90 #[] w (Rv fun v1 w2 => ∃ p3 : Option Addr, v1 = .pointer p3 ∧ ∃ (I4 : Int → World → Prop) (μ5 : Int → World →
    Nat), I4 (0 : Int) (w2.alloc (.cells #[.pointer p3, .int .i64 x_0, .int .i64 (x_1.len : Int)] 143)) ∧ ∀ x6 : Int, ∀ w7 : World, I4 x6 w7 →
    br (decide (x6 < (x_1.len : Int))) (0 ≤ x6 ∧ x6 < (x_1.len : Int) ∧ ∃ a8, x_1.a = some a8 ∧
    ∃ n9 : Int, w7.cell? (Addr.add a8 (x6.toNat * 1)) = some (.int .u64 n9) ∧
    ∃ p10 : Option Addr, w7.cell? (Addr.add ⟨w2.heap.size, 0, none⟩ 0) = some (.pointer p10) ∧
    Calls Try.prog 93 #[.pointer p10, .int .u64 n9, .int .i64 x_0] w7 (Rv fun v11 w12 => ∃ n13 : Int, v11 = .int .i64 n13 ∧ I4 (IntKind.i64.wrap (x6 + 1)) w12 ∧
    μ5 (IntKind.i64.wrap (x6 + 1)) w12 < μ5 x6 w7)) (R (.pointer (some ⟨w2.heap.size, 0, none⟩)) w7))
theorem B112_eq : @B112 = fun (x_0 : Int) (x_1 : Slc) (w : World) (R : Value → World → Prop) => trF Try.prog G (lk [(3, [(16, .int .i64)])]) Try.f112 [.int .i64 x_0, .slice x_1.a x_1.len x_1.cap] w R := by kernel_rfl
theorem c112 (x_0 : Int) (x_1 : Slc) (w : World) (R : Value → World → Prop) (h : B112 x_0 x_1 w R) : Calls Try.prog 112 #[.int .i64 x_0, .slice x_1.a x_1.len x_1.cap] w (Rv R) := calls_of_tr (L := lk [(3, [(16, .int .i64)])]) Try.func112 hG hM (by rw [B112_eq] at h; exact h)

/-- (*locution/packrow.Pack).Len -/
def B125 (a_0 : Addr) (w : World) (R : Value → World → Prop) : Prop :=
  ∃ n1 : Int, w.cell? (Addr.add a_0 2) = some (.int .i64 n1) ∧ R (.int .i64 n1) w
theorem B125_eq : @B125 = fun (a_0 : Addr) (w : World) (R : Value → World → Prop) => trF Try.prog G (lk []) Try.f125 [.pointer (some a_0)] w R := by kernel_rfl
theorem c125 (a_0 : Addr) (w : World) (R : Value → World → Prop) (h : B125 a_0 w R) : Calls Try.prog 125 #[.pointer (some a_0)] w (Rv R) := calls_of_tr (L := lk []) Try.func125 hG hM (by rw [B125_eq] at h; exact h)

/-- (*locution/packrow.Pack).Len -/
def B125n  (w : World) (R : Value → World → Prop) : Prop :=
  R (.int .i64 0) w
theorem B125n_eq : @B125n = fun (w : World) (R : Value → World → Prop) => trF Try.prog G (lk []) Try.f125 [.pointer none] w R := by kernel_rfl
theorem c125n  (w : World) (R : Value → World → Prop) (h : B125n  w R) : Calls Try.prog 125 #[.pointer none] w (Rv R) := calls_of_tr (L := lk []) Try.func125 hG hM (by rw [B125n_eq] at h; exact h)

/-- (*locution/packrow.Pack).At -/
def B98n (x_1 : Int) (w : World) (R : Value → World → Prop) : Prop :=
  R (.int .u64 0) w
theorem B98n_eq : @B98n = fun (x_1 : Int) (w : World) (R : Value → World → Prop) => trF Try.prog G (lk []) Try.f98 [.pointer none, .int .i64 x_1] w R := by kernel_rfl
theorem c98n (x_1 : Int) (w : World) (R : Value → World → Prop) (h : B98n x_1 w R) : Calls Try.prog 98 #[.pointer none, .int .i64 x_1] w (Rv R) := calls_of_tr (L := lk []) Try.func98 hG hM (by rw [B98n_eq] at h; exact h)

/-- (*locution/packrow.Pack).Find -/
def B105n (x_1 : Int) (x_2 : Int) (x_3 : Int) (w : World) (R : Value → World → Prop) : Prop :=
  Calls Try.prog 125 #[.pointer none] w (Rv fun v1 w2 => ∃ n3 : Int, v1 = .int .i64 n3 ∧ ∃ (I4 : Int → Int → World → Prop) (μ5 : Int → Int → World →
    Nat), I4 (max x_1 (0 : Int)) (min x_2 n3) w2 ∧ ∀ x6 : Int, ∀ x7 : Int, ∀ w8 : World, I4 x6 x7 w8 → br (decide (x6 < x7)) ((2 : Int) ≠ 0 ∧
    Calls Try.prog 98 #[.pointer none, .int .i64 (IntKind.i64.wrap (x6 + (IntKind.i64.wrap (Int.tdiv (IntKind.i64.wrap (x7 - x6)) 2))))] w8 (Rv fun v9 w10 =>
    ∃ n11 : Int, v9 = .int .u64 n11 ∧
    br (decide (n11 < x_3)) (I4 (IntKind.i64.wrap ((IntKind.i64.wrap (x6 + (IntKind.i64.wrap (Int.tdiv (IntKind.i64.wrap (x7 - x6)) 2)))) + 1)) x7 w10 ∧
    μ5 (IntKind.i64.wrap ((IntKind.i64.wrap (x6 + (IntKind.i64.wrap (Int.tdiv (IntKind.i64.wrap (x7 - x6)) 2)))) + 1)) x7 w10 < μ5 x6 x7 w8) (I4 x6 (IntKind.i64.wrap (x6 + (IntKind.i64.wrap (Int.tdiv (IntKind.i64.wrap (x7 - x6)) 2)))) w10 ∧
    μ5 x6 (IntKind.i64.wrap (x6 + (IntKind.i64.wrap (Int.tdiv (IntKind.i64.wrap (x7 - x6)) 2)))) w10 < μ5 x6 x7 w8))) (br (decide ((min x_2 n3) ≤ x6)) (R (.int .i64 (-1)) w8) (R (.int .i64 x6) w8)))
theorem B105n_eq : @B105n = fun (x_1 : Int) (x_2 : Int) (x_3 : Int) (w : World) (R : Value → World → Prop) => trF Try.prog G (lk [(3, [(1, .int .i64), (2, .int .i64)])]) Try.f105 [.pointer none, .int .i64 x_1, .int .i64 x_2, .int .u64 x_3] w R := by kernel_rfl
theorem c105n (x_1 : Int) (x_2 : Int) (x_3 : Int) (w : World) (R : Value → World → Prop) (h : B105n x_1 x_2 x_3 w R) : Calls Try.prog 105 #[.pointer none, .int .i64 x_1, .int .i64 x_2, .int .u64 x_3] w (Rv R) := calls_of_tr (L := lk [(3, [(1, .int .i64), (2, .int .i64)])]) Try.func105 hG hM (by rw [B105n_eq] at h; exact h)

end Go.Proofs.Ytmpgklgjmkcpdaa.V
