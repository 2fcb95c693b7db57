/- The verification conditions of functions, printed by a program of this work (pr.py) and checked here by the kernel. -/
import Derived.Test.YtilccklocaeebaaVc9
import Derived.Test.YtilccklocaeebaaBS
set_option maxRecDepth 100000
set_option linter.unusedVariables false
namespace Go.Proofs.Ytilccklocaeebaa.V
open Go Go.VC

/-- locution/packrow.New -/
def B26 (x_0 : Int) (x_1 : Slc) (w : World) (R : Value → World → Prop) : Prop :=
  
    br (decide (x_0 < (0 : Int))) (R (.tuple #[.pointer none, .int .i64 1]) w) (br (decide ((64 : Int) < x_0)) (R (.tuple #[.pointer none, .int .i64 1]) w) (Calls Try.prog 57 #[.slice x_1.a x_1.len x_1.cap] w (Rv fun v1 w2 =>
    ∃ n3 : Int, v1 = .int .u64 n3 ∧ Calls Try.prog 53 #[.int .u64 n3] w2 (Rv fun v4 w5 => ∃ n6 : Int, v4 = .int .i64 n6 ∧
    br (decide (x_0 < n6)) (R (.tuple #[.pointer none, .int .i64 8]) w5) (Calls Try.prog 58 #[.int .i64 x_0, .slice x_1.a x_1.len x_1.cap] w5 (Rv fun v7 w8 =>
    ∃ p9 : Option Addr, v7 = .pointer p9 ∧ R (.tuple #[.pointer p9, .int .i64 0]) w8))))))
theorem B26_eq : @B26 = fun (x_0 : Int) (x_1 : Slc) (w : World) (R : Value → World → Prop) => trF Try.prog G (lk []) Try.f26 [.int .i64 x_0, .slice x_1.a x_1.len x_1.cap] w R := by kernel_rfl
theorem c26 (x_0 : Int) (x_1 : Slc) (w : World) (R : Value → World → Prop) (h : B26 x_0 x_1 w R) : Calls Try.prog 26 #[.int .i64 x_0, .slice x_1.a x_1.len x_1.cap] w (Rv R) := calls_of_tr (L := lk []) Try.func26 hG hM (by rw [B26_eq] at h; exact h)

/-- locution/packrow.Fit -/
def B29 (x_0 : Slc) (w : World) (R : Value → World → Prop) : Prop :=
  Calls Try.prog 57 #[.slice x_0.a x_0.len x_0.cap] w (Rv fun v1 w2 => ∃ n3 : Int, v1 = .int .u64 n3 ∧ Calls Try.prog 53 #[.int .u64 n3] w2 (Rv fun v4 w5 =>
    ∃ n6 : Int, v4 = .int .i64 n6 ∧ Calls Try.prog 58 #[.int .i64 n6, .slice x_0.a x_0.len x_0.cap] w5 (Rv fun v7 w8 => ∃ p9 : Option Addr, v7 = .pointer p9 ∧
    R (.pointer p9) w8)))
theorem B29_eq : @B29 = fun (x_0 : Slc) (w : World) (R : Value → World → Prop) => trF Try.prog G (lk []) Try.f29 [.slice x_0.a x_0.len x_0.cap] w R := by kernel_rfl
theorem c29 (x_0 : Slc) (w : World) (R : Value → World → Prop) (h : B29 x_0 w R) : Calls Try.prog 29 #[.slice x_0.a x_0.len x_0.cap] w (Rv R) := calls_of_tr (L := lk []) Try.func29 hG hM (by rw [B29_eq] at h; exact h)

/-- (*locution/packrow.Pack).At -/
def B30 (a_0 : Addr) (x_1 : Int) (w : World) (R : Value → World → Prop) : Prop :=
  br (decide (x_1 < (0 : Int))) (R (.int .u64 0) w) (∃ n1 : Int, w.cell? (Addr.add a_0 2) = some (.int .i64 n1) ∧
    br (decide (n1 ≤ x_1)) (R (.int .u64 0) w) (∃ p2 : Option Addr, (World.drew w).cell? (Addr.add a_0 0) = some (.pointer p2) ∧
    ∃ n3 : Int, (World.drew w).cell? (Addr.add a_0 1) = some (.int .i64 n3) ∧ ∃ n4 : Int, (World.drew w).cell? (Addr.add a_0 1) = some (.int .i64 n4) ∧
    Calls Try.prog 61 #[.pointer p2, .int .i64 (IntKind.i64.wrap (x_1 * n3)), .int .i64 n4] (World.drew w) (Rv fun v5 w6 => ∃ n7 : Int, v5 = .int .u64 n7 ∧
    R (.int .u64 n7) w6)))
theorem B30_eq : @B30 = fun (a_0 : Addr) (x_1 : Int) (w : World) (R : Value → World → Prop) => trF Try.prog G (lk []) Try.f30 [.pointer (some a_0), .int .i64 x_1] w R := by kernel_rfl
theorem c30 (a_0 : Addr) (x_1 : Int) (w : World) (R : Value → World → Prop) (h : B30 a_0 x_1 w R) : Calls Try.prog 30 #[.pointer (some a_0), .int .i64 x_1] w (Rv R) := calls_of_tr (L := lk []) Try.func30 hG hM (by rw [B30_eq] at h; exact h)

/-- (*locution/packrow.Pack).Len -/
def B31 (a_0 : Addr) (w : World) (R : Value → World → Prop) : Prop :=
  ∃ n1 : Int, w.cell? (Addr.add a_0 2) = some (.int .i64 n1) ∧ R (.int .i64 n1) w
theorem B31_eq : @B31 = fun (a_0 : Addr) (w : World) (R : Value → World → Prop) => trF Try.prog G (lk []) Try.f31 [.pointer (some a_0)] w R := by kernel_rfl
theorem c31 (a_0 : Addr) (w : World) (R : Value → World → Prop) (h : B31 a_0 w R) : Calls Try.prog 31 #[.pointer (some a_0)] w (Rv R) := calls_of_tr (L := lk []) Try.func31 hG hM (by rw [B31_eq] at h; exact h)

/-- (*locution/packrow.Pack).Width -/
def B32 (a_0 : Addr) (w : World) (R : Value → World → Prop) : Prop :=
  ∃ n1 : Int, w.cell? (Addr.add a_0 1) = some (.int .i64 n1) ∧ R (.int .i64 n1) w
theorem B32_eq : @B32 = fun (a_0 : Addr) (w : World) (R : Value → World → Prop) => trF Try.prog G (lk []) Try.f32 [.pointer (some a_0)] w R := by kernel_rfl
theorem c32 (a_0 : Addr) (w : World) (R : Value → World → Prop) (h : B32 a_0 w R) : Calls Try.prog 32 #[.pointer (some a_0)] w (Rv R) := calls_of_tr (L := lk []) Try.func32 hG hM (by rw [B32_eq] at h; exact h)

/-- (*locution/packrow.Pack).Words -/
def B33 (a_0 : Addr) (w : World) (R : Value → World → Prop) : Prop :=
  ∃ p1 : Option Addr, w.cell? (Addr.add a_0 0) = some (.pointer p1) ∧ Calls Try.prog 44 #[.pointer p1] w (Rv fun v2 w3 => ∃ l4 : Slc, v2 = .slice l4.a l4.len l4.cap ∧
    R (.slice l4.a l4.len l4.cap) w3)
theorem B33_eq : @B33 = fun (a_0 : Addr) (w : World) (R : Value → World → Prop) => trF Try.prog G (lk []) Try.f33 [.pointer (some a_0)] w R := by kernel_rfl
theorem c33 (a_0 : Addr) (w : World) (R : Value → World → Prop) (h : B33 a_0 w R) : Calls Try.prog 33 #[.pointer (some a_0)] w (Rv R) := calls_of_tr (L := lk []) Try.func33 hG hM (by rw [B33_eq] at h; exact h)

/-- (*locution/packrow.Pack).All -/
def B34 (a_0 : Addr) (w : World) (R : Value → World → Prop) : Prop :=
  R (.func (.func 62) #[] #[.pointer (some ⟨w.heap.size, 0, none⟩)]) (w.alloc (.cells #[.pointer (some a_0)] 46))
theorem B34_eq : @B34 = fun (a_0 : Addr) (w : World) (R : Value → World → Prop) => trF Try.prog G (lk []) Try.f34 [.pointer (some a_0)] w R := by kernel_rfl
theorem c34 (a_0 : Addr) (w : World) (R : Value → World → Prop) (h : B34 a_0 w R) : Calls Try.prog 34 #[.pointer (some a_0)] w (Rv R) := calls_of_tr (L := lk []) Try.func34 hG hM (by rw [B34_eq] at h; exact h)

/-- locution/packrow.Of -/
def B35 (x_0 : Int) (x_1 : Int) (x_2 : Slc) (w : World) (R : Value → World → Prop) : Prop :=
  
    br (decide (x_0 < (0 : Int))) (R (.tuple #[.pointer none, .int .i64 1]) w) (br (decide ((64 : Int) < x_0)) (R (.tuple #[.pointer none, .int .i64 1]) w) (br (decide (x_1 < (0 : Int))) (R (.tuple #[.pointer none, .int .i64 1]) w) (br (decide ((67108864 : Int) < x_1)) (R (.tuple #[.pointer none, .int .i64 1]) w) (Calls Try.prog 63 #[.slice x_2.a x_2.len x_2.cap, .int .i64 (IntKind.i64.wrap (x_1 * x_0))] w (Rv fun v1 w2 =>
    ∃ p3 : Option Addr, ∃ n4 : Int, v1 = .tuple #[.pointer p3, .int .i64 n4] ∧
    br (!(decide (n4 = (0 : Int)))) (R (.tuple #[.pointer none, .int .i64 n4]) w2) (R (.tuple #[.pointer (some ⟨w2.heap.size, 0, none⟩), .int .i64 0]) (w2.alloc (.cells #[.pointer p3, .int .i64 x_0, .int .i64 x_1] 87))))))))
theorem B35_eq : @B35 = fun (x_0 : Int) (x_1 : Int) (x_2 : Slc) (w : World) (R : Value → World → Prop) => trF Try.prog G (lk []) Try.f35 [.int .i64 x_0, .int .i64 x_1, .slice x_2.a x_2.len x_2.cap] w R := by kernel_rfl
theorem c35 (x_0 : Int) (x_1 : Int) (x_2 : Slc) (w : World) (R : Value → World → Prop) (h : B35 x_0 x_1 x_2 w R) : Calls Try.prog 35 #[.int .i64 x_0, .int .i64 x_1, .slice x_2.a x_2.len x_2.cap] w (Rv R) := calls_of_tr (L := lk []) Try.func35 hG hM (by rw [B35_eq] at h; exact h)

/-- (*locution/packrow.Pack).Find -/
def B55 (a_0 : Addr) (x_1 : Int) (x_2 : Int) (x_3 : Int) (w : World) (R : Value → World → Prop) : Prop :=
  Calls Try.prog 31 #[.pointer (some a_0)] w (Rv fun v1 w2 => ∃ n3 : Int, v1 = .int .i64 n3 ∧ ∃ (I4 : Int → Int → World → Prop) (μ5 : Int → Int → World →
    Nat), I4 (max x_1 (0 : Int)) (min x_2 n3) w2 ∧ ∀ x6 : Int, ∀ x7 : Int, ∀ w8 : World, I4 x6 x7 w8 → br (decide (x6 < x7)) ((2 : Int) ≠ 0 ∧
    Calls Try.prog 30 #[.pointer (some a_0), .int .i64 (IntKind.i64.wrap (x6 + (IntKind.i64.wrap (Int.tdiv (IntKind.i64.wrap (x7 - x6)) 2))))] w8 (Rv fun v9 w10 =>
    ∃ n11 : Int, v9 = .int .u64 n11 ∧
    br (decide (n11 < x_3)) (I4 (IntKind.i64.wrap ((IntKind.i64.wrap (x6 + (IntKind.i64.wrap (Int.tdiv (IntKind.i64.wrap (x7 - x6)) 2)))) + 1)) x7 w10 ∧
    μ5 (IntKind.i64.wrap ((IntKind.i64.wrap (x6 + (IntKind.i64.wrap (Int.tdiv (IntKind.i64.wrap (x7 - x6)) 2)))) + 1)) x7 w10 < μ5 x6 x7 w8) (I4 x6 (IntKind.i64.wrap (x6 + (IntKind.i64.wrap (Int.tdiv (IntKind.i64.wrap (x7 - x6)) 2)))) w10 ∧
    μ5 x6 (IntKind.i64.wrap (x6 + (IntKind.i64.wrap (Int.tdiv (IntKind.i64.wrap (x7 - x6)) 2)))) w10 < μ5 x6 x7 w8))) (br (decide ((min x_2 n3) ≤ x6)) (R (.int .i64 (-1)) w8) (R (.int .i64 x6) w8)))
theorem B55_eq : @B55 = fun (a_0 : Addr) (x_1 : Int) (x_2 : Int) (x_3 : Int) (w : World) (R : Value → World → Prop) => trF Try.prog G (lk [(3, [(1, .int .i64), (2, .int .i64)])]) Try.f55 [.pointer (some a_0), .int .i64 x_1, .int .i64 x_2, .int .u64 x_3] w R := by kernel_rfl
theorem c55 (a_0 : Addr) (x_1 : Int) (x_2 : Int) (x_3 : Int) (w : World) (R : Value → World → Prop) (h : B55 a_0 x_1 x_2 x_3 w R) : Calls Try.prog 55 #[.pointer (some a_0), .int .i64 x_1, .int .i64 x_2, .int .u64 x_3] w (Rv R) := calls_of_tr (L := lk [(3, [(1, .int .i64), (2, .int .i64)])]) Try.func55 hG hM (by rw [B55_eq] at h; exact h)

/-- locution/packrow.greatest[uint64] -/
def B57 (x_0 : Slc) (w : World) (R : Value → World → Prop) : Prop :=
  ∃ (I1 : Int → Int → World → Prop) (μ2 : Int → Int → World → Nat), I1 (0 : Int) (0 : Int) w ∧ ∀ x3 : Int, ∀ x4 : Int, ∀ w5 : World, I1 x3 x4 w5 →
    br (decide (x4 < (x_0.len : Int))) (0 ≤ x4 ∧ x4 < (x_0.len : Int) ∧ ∃ a6, x_0.a = some a6 ∧
    ∃ n7 : Int, w5.cell? (Addr.add a6 (x4.toNat * 1)) = some (.int .u64 n7) ∧ I1 (max x3 n7) (IntKind.i64.wrap (x4 + 1)) w5 ∧
    μ2 (max x3 n7) (IntKind.i64.wrap (x4 + 1)) w5 < μ2 x3 x4 w5) (R (.int .u64 x3) w5)
theorem B57_eq : @B57 = fun (x_0 : Slc) (w : World) (R : Value → World → Prop) => trF Try.prog G (lk [(3, [(3, .int .u64), (8, .int .i64)])]) Try.f57 [.slice x_0.a x_0.len x_0.cap] w R := by kernel_rfl
theorem c57 (x_0 : Slc) (w : World) (R : Value → World → Prop) (h : B57 x_0 w R) : Calls Try.prog 57 #[.slice x_0.a x_0.len x_0.cap] w (Rv R) := calls_of_tr (L := lk [(3, [(3, .int .u64), (8, .int .i64)])]) Try.func57 hG hM (by rw [B57_eq] at h; exact h)

/-- locution/packrow.made -/
def B58 (x_0 : Int) (x_1 : Slc) (w : World) (R : Value → World → Prop) : Prop :=
  Calls Try.prog 47 #[] w (Rv fun v1 w2 => ∃ p3 : Option Addr, v1 = .pointer p3 ∧ ∃ (I4 : Int → World → Prop) (μ5 : Int → World →
    Nat), I4 (0 : Int) (w2.alloc (.cells #[.pointer p3, .int .i64 x_0, .int .i64 (x_1.len : Int)] 87)) ∧ ∀ x6 : Int, ∀ w7 : World, I4 x6 w7 →
    br (decide (x6 < (x_1.len : Int))) (0 ≤ x6 ∧ x6 < (x_1.len : Int) ∧ ∃ a8, x_1.a = some a8 ∧
    ∃ n9 : Int, w7.cell? (Addr.add a8 (x6.toNat * 1)) = some (.int .u64 n9) ∧
    ∃ p10 : Option Addr, w7.cell? (Addr.add ⟨w2.heap.size, 0, none⟩ 0) = some (.pointer p10) ∧
    Calls Try.prog 23 #[.pointer p10, .int .u64 n9, .int .i64 x_0] w7 (Rv fun v11 w12 => ∃ n13 : Int, v11 = .int .i64 n13 ∧ I4 (IntKind.i64.wrap (x6 + 1)) w12 ∧
    μ5 (IntKind.i64.wrap (x6 + 1)) w12 < μ5 x6 w7)) (R (.pointer (some ⟨w2.heap.size, 0, none⟩)) w7))
theorem B58_eq : @B58 = fun (x_0 : Int) (x_1 : Slc) (w : World) (R : Value → World → Prop) => trF Try.prog G (lk [(3, [(16, .int .i64)])]) Try.f58 [.int .i64 x_0, .slice x_1.a x_1.len x_1.cap] w R := by kernel_rfl
theorem c58 (x_0 : Int) (x_1 : Slc) (w : World) (R : Value → World → Prop) (h : B58 x_0 x_1 w R) : Calls Try.prog 58 #[.int .i64 x_0, .slice x_1.a x_1.len x_1.cap] w (Rv R) := calls_of_tr (L := lk [(3, [(16, .int .i64)])]) Try.func58 hG hM (by rw [B58_eq] at h; exact h)

/-- (*locution/packrow.Pack).All$1 -/
def B62 (x_0 : Value) (a_1 : Addr) (w : World) (R : Value → World → Prop) : Prop :=
  ∃ (I1 : Int → World → Prop) (μ2 : Int → World → Nat), I1 (0 : Int) w ∧ ∀ x3 : Int, ∀ w4 : World, I1 x3 w4 →
    ∃ p5 : Option Addr, w4.cell? a_1 = some (.pointer p5) ∧ Calls Try.prog 31 #[.pointer p5] w4 (Rv fun v6 w7 => ∃ n8 : Int, v6 = .int .i64 n8 ∧
    br (decide (x3 < n8)) (∃ p9 : Option Addr, w7.cell? a_1 = some (.pointer p9) ∧ Calls Try.prog 30 #[.pointer p9, .int .i64 x3] w7 (Rv fun v10 w11 =>
    ∃ n12 : Int, v10 = .int .u64 n12 ∧ CallFV Try.prog G x_0 [.int .i64 x3, .int .u64 n12] w11 fun v13 w14 => ∃ b15 : Bool, v13 = .bool b15 ∧
    br (!b15) (R (.tuple #[]) w14) (I1 (IntKind.i64.wrap (x3 + 1)) w14 ∧ μ2 (IntKind.i64.wrap (x3 + 1)) w14 < μ2 x3 w4))) (R (.tuple #[]) w7))
theorem B62_eq : @B62 = fun (x_0 : Value) (a_1 : Addr) (w : World) (R : Value → World → Prop) => trF Try.prog G (lk [(1, [(3, .int .i64)])]) Try.f62 [x_0, .pointer (some a_1)] w R := by kernel_rfl
theorem c62 (x_0 : Value) (a_1 : Addr) (w : World) (R : Value → World → Prop) (h : B62 x_0 a_1 w R) : Calls Try.prog 62 #[x_0, .pointer (some a_1)] w (Rv R) := calls_of_tr (L := lk [(1, [(3, .int .i64)])]) Try.func62 hG hM (by rw [B62_eq] at h; exact h)

/-- locution/locutionref03.Width -/
def B27 (x_0 : Slc) (w : World) (R : Value → World → Prop) : Prop :=
  ∃ (I1 : Int → Int → World → Prop) (μ2 : Int → Int → World → Nat), I1 (0 : Int) (0 : Int) w ∧ ∀ x3 : Int, ∀ x4 : Int, ∀ w5 : World, I1 x3 x4 w5 →
    br (decide (x4 < (x_0.len : Int))) (0 ≤ x4 ∧ x4 < (x_0.len : Int) ∧ ∃ a6, x_0.a = some a6 ∧
    ∃ n7 : Int, w5.cell? (Addr.add a6 (x4.toNat * 1)) = some (.int .u64 n7) ∧ Calls Try.prog 59 #[.int .u64 n7] w5 (Rv fun v8 w9 => ∃ n10 : Int, v8 = .int .i64 n10 ∧
    I1 (max x3 n10) (IntKind.i64.wrap (x4 + 1)) w9 ∧ μ2 (max x3 n10) (IntKind.i64.wrap (x4 + 1)) w9 < μ2 x3 x4 w5)) (R (.int .i64 x3) w5)
theorem B27_eq : @B27 = fun (x_0 : Slc) (w : World) (R : Value → World → Prop) => trF Try.prog G (lk [(3, [(3, .int .i64), (4, .int .i64)])]) Try.f27 [.slice x_0.a x_0.len x_0.cap] w R := by kernel_rfl
theorem c27 (x_0 : Slc) (w : World) (R : Value → World → Prop) (h : B27 x_0 w R) : Calls Try.prog 27 #[.slice x_0.a x_0.len x_0.cap] w (Rv R) := calls_of_tr (L := lk [(3, [(3, .int .i64), (4, .int .i64)])]) Try.func27 hG hM (by rw [B27_eq] at h; exact h)

/-- locution/locutionref03.Of -/
def B36 (x_0 : Int) (x_1 : Int) (x_2 : Slc) (w : World) (R : Value → World → Prop) : Prop :=
  Calls Try.prog 64 #[.slice x_2.a x_2.len x_2.cap, .int .i64 (IntKind.i64.wrap (x_0 * x_1))] w (Rv fun v1 w2 =>
    ∃ l3 : Slc, ∃ b4 : Bool, v1 = .tuple #[.slice l3.a l3.len l3.cap, .bool b4] ∧ br (!b4) (R (.tuple #[.slice none 0 0, .bool false]) w2) (∃ (I5 : Slc → Int →
    World → Prop) (μ6 : Slc → Int → World → Nat), I5 ⟨none, 0, 0⟩ (0 : Int) w2 ∧ ∀ x7 : Slc, ∀ x8 : Int, ∀ w9 : World, I5 x7 x8 w9 →
    br (decide (x8 < x_1)) (Calls Try.prog 65 #[.slice l3.a l3.len l3.cap, .int .i64 (IntKind.i64.wrap (x8 * x_0)), .int .i64 x_0] w9 (Rv fun v10 w11 =>
    ∃ n12 : Int, v10 = .int .u64 n12 ∧
    ∃ w13 : World, ∃ l14 : Slc, (Builtin.append_ #[22, 22] 22 #[.slice x7.a x7.len x7.cap, .slice (some ⟨w11.heap.size, 0, none⟩) 1 1]).run Try.prog (w11.alloc (.cells #[.int .u64 n12] 23)) = .ok (.slice l14.a l14.len l14.cap) w13 ∧
    I5 l14 (IntKind.i64.wrap (x8 + 1)) w13 ∧ μ6 l14 (IntKind.i64.wrap (x8 + 1)) w13 < μ6 x7 x8 w9)) (R (.tuple #[.slice x7.a x7.len x7.cap, .bool true]) w9)))
theorem B36_eq : @B36 = fun (x_0 : Int) (x_1 : Int) (x_2 : Slc) (w : World) (R : Value → World → Prop) => trF Try.prog G (lk [(6, [(10, .slc), (11, .int .i64)])]) Try.f36 [.int .i64 x_0, .int .i64 x_1, .slice x_2.a x_2.len x_2.cap] w R := by kernel_rfl
theorem c36 (x_0 : Int) (x_1 : Int) (x_2 : Slc) (w : World) (R : Value → World → Prop) (h : B36 x_0 x_1 x_2 w R) : Calls Try.prog 36 #[.int .i64 x_0, .int .i64 x_1, .slice x_2.a x_2.len x_2.cap] w (Rv R) := calls_of_tr (L := lk [(6, [(10, .slc), (11, .int .i64)])]) Try.func36 hG hM (by rw [B36_eq] at h; exact h)

/-- locution/locutionref03.Words -/
def B60 (x_0 : Int) (x_1 : Slc) (w : World) (R : Value → World → Prop) : Prop :=
  ∃ (I1 : Slc → Int → World → Prop) (μ2 : Slc → Int → World → Nat), I1 ⟨none, 0, 0⟩ (0 : Int) w ∧ ∀ x3 : Slc, ∀ x4 : Int, ∀ w5 : World, I1 x3 x4 w5 →
    br (decide (x4 < (x_1.len : Int))) (0 ≤ x4 ∧ x4 < (x_1.len : Int) ∧ ∃ a6, x_1.a = some a6 ∧
    ∃ n7 : Int, w5.cell? (Addr.add a6 (x4.toNat * 1)) = some (.int .u64 n7) ∧
    Calls Try.prog 74 #[.slice x3.a x3.len x3.cap, .int .u64 n7, .int .i64 x_0] w5 (Rv fun v8 w9 => ∃ l10 : Slc, v8 = .slice l10.a l10.len l10.cap ∧
    I1 l10 (IntKind.i64.wrap (x4 + 1)) w9 ∧ μ2 l10 (IntKind.i64.wrap (x4 + 1)) w9 < μ2 x3 x4 w5)) (Calls Try.prog 77 #[.slice x3.a x3.len x3.cap] w5 (Rv fun v11 w12 =>
    ∃ l13 : Slc, v11 = .slice l13.a l13.len l13.cap ∧ R (.slice l13.a l13.len l13.cap) w12))
theorem B60_eq : @B60 = fun (x_0 : Int) (x_1 : Slc) (w : World) (R : Value → World → Prop) => trF Try.prog G (lk [(3, [(5, .slc), (6, .int .i64)])]) Try.f60 [.int .i64 x_0, .slice x_1.a x_1.len x_1.cap] w R := by kernel_rfl
theorem c60 (x_0 : Int) (x_1 : Slc) (w : World) (R : Value → World → Prop) (h : B60 x_0 x_1 w R) : Calls Try.prog 60 #[.int .i64 x_0, .slice x_1.a x_1.len x_1.cap] w (Rv R) := calls_of_tr (L := lk [(3, [(5, .slc), (6, .int .i64)])]) Try.func60 hG hM (by rw [B60_eq] at h; exact h)

/-- locution/locutionlaw03.PackMakes -/
def B6 (x_0 : Int) (x_1 : Slc) (x_2 : Int) (w : World) (R : Value → World → Prop) : Prop :=
  br (decide ((60 : Int) < (x_1.len : Int))) (Calls Try.prog 25 #[] w (Rv fun v1 w2 => ∃ b3 : Bool, v1 = .bool b3 ∧
    R (.bool b3) w2)) (Calls Try.prog 26 #[.int .i64 x_0, .slice x_1.a x_1.len x_1.cap] w (Rv fun v4 w5 =>
    ∃ p6 : Option Addr, ∃ n7 : Int, v4 = .tuple #[.pointer p6, .int .i64 n7] ∧ Calls Try.prog 27 #[.slice x_1.a x_1.len x_1.cap] w5 (Rv fun v8 w9 =>
    ∃ n10 : Int, v8 = .int .i64 n10 ∧ br (decide (x_0 < (0 : Int))) (br p6.isNone (br (decide (n7 = (1 : Int))) (Calls Try.prog 25 #[] w9 (Rv fun v11 w12 =>
    ∃ b13 : Bool, v11 = .bool b13 ∧
    R (.bool b13) w12)) (R (.bool false) w9)) (R (.bool false) w9)) (br (decide ((64 : Int) < x_0)) (br p6.isNone (br (decide (n7 = (1 : Int))) (Calls Try.prog 25 #[] w9 (Rv fun v14 w15 =>
    ∃ b16 : Bool, v14 = .bool b16 ∧
    R (.bool b16) w15)) (R (.bool false) w9)) (R (.bool false) w9)) (br (decide (x_0 < n10)) (br p6.isNone (br (decide (n7 = (8 : Int))) (Calls Try.prog 25 #[] w9 (Rv fun v17 w18 =>
    ∃ b19 : Bool, v17 = .bool b19 ∧
    R (.bool b19) w18)) (R (.bool false) w9)) (R (.bool false) w9)) (br (!(decide (n7 = (0 : Int)))) (R (.bool false) w9) (Calls Try.prog 28 #[.pointer p6, .int .i64 x_0, .slice x_1.a x_1.len x_1.cap] w9 (Rv fun v20 w21 =>
    ∃ b22 : Bool, v20 = .bool b22 ∧ br (!b22) (R (.bool false) w21) (Calls Try.prog 29 #[.slice x_1.a x_1.len x_1.cap] w21 (Rv fun v23 w24 =>
    ∃ p25 : Option Addr, v23 = .pointer p25 ∧ Calls Try.prog 28 #[.pointer p25, .int .i64 n10, .slice x_1.a x_1.len x_1.cap] w24 (Rv fun v26 w27 =>
    ∃ b28 : Bool, v26 = .bool b28 ∧
    br (!b28) (R (.bool false) w27) (br (decide ((0 : Int) ≤ x_2)) (br (decide (x_2 < (x_1.len : Int))) (Calls Try.prog 30 #[.pointer none, .int .i64 x_2] w27 (Rv fun v29 w30 =>
    ∃ n31 : Int, v29 = .int .u64 n31 ∧ br (decide (n31 = (0 : Int))) (Calls Try.prog 25 #[] w30 (Rv fun v32 w33 => ∃ b34 : Bool, v32 = .bool b34 ∧
    R (.bool b34) w33)) (R (.bool false) w30))) (Calls Try.prog 30 #[.pointer p6, .int .i64 x_2] w27 (Rv fun v35 w36 => ∃ n37 : Int, v35 = .int .u64 n37 ∧
    br (decide (n37 = (0 : Int))) (Calls Try.prog 31 #[.pointer none] w36 (Rv fun v38 w39 => ∃ n40 : Int, v38 = .int .i64 n40 ∧
    br (decide (n40 = (0 : Int))) (Calls Try.prog 32 #[.pointer none] w39 (Rv fun v41 w42 => ∃ n43 : Int, v41 = .int .i64 n43 ∧
    br (decide (n43 = (0 : Int))) (Calls Try.prog 33 #[.pointer none] w42 (Rv fun v44 w45 => ∃ l46 : Slc, v44 = .slice l46.a l46.len l46.cap ∧
    br (decide ((l46.len : Int) = (0 : Int))) (Calls Try.prog 25 #[] w45 (Rv fun v47 w48 => ∃ b49 : Bool, v47 = .bool b49 ∧
    R (.bool b49) w48)) (R (.bool false) w45))) (R (.bool false) w42))) (R (.bool false) w39))) (R (.bool false) w36)))) (Calls Try.prog 30 #[.pointer p6, .int .i64 x_2] w27 (Rv fun v50 w51 =>
    ∃ n52 : Int, v50 = .int .u64 n52 ∧ br (decide (n52 = (0 : Int))) (Calls Try.prog 31 #[.pointer none] w51 (Rv fun v53 w54 => ∃ n55 : Int, v53 = .int .i64 n55 ∧
    br (decide (n55 = (0 : Int))) (Calls Try.prog 32 #[.pointer none] w54 (Rv fun v56 w57 => ∃ n58 : Int, v56 = .int .i64 n58 ∧
    br (decide (n58 = (0 : Int))) (Calls Try.prog 33 #[.pointer none] w57 (Rv fun v59 w60 => ∃ l61 : Slc, v59 = .slice l61.a l61.len l61.cap ∧
    br (decide ((l61.len : Int) = (0 : Int))) (Calls Try.prog 25 #[] w60 (Rv fun v62 w63 => ∃ b64 : Bool, v62 = .bool b64 ∧
    R (.bool b64) w63)) (R (.bool false) w60))) (R (.bool false) w57))) (R (.bool false) w54))) (R (.bool false) w51)))))))))))))))
theorem B6_eq : @B6 = fun (x_0 : Int) (x_1 : Slc) (x_2 : Int) (w : World) (R : Value → World → Prop) => trF Try.prog G (lk []) Try.f6 [.int .i64 x_0, .slice x_1.a x_1.len x_1.cap, .int .i64 x_2] w R := by kernel_rfl
theorem c6 (x_0 : Int) (x_1 : Slc) (x_2 : Int) (w : World) (R : Value → World → Prop) (h : B6 x_0 x_1 x_2 w R) : Calls Try.prog 6 #[.int .i64 x_0, .slice x_1.a x_1.len x_1.cap, .int .i64 x_2] w (Rv R) := calls_of_tr (L := lk []) Try.func6 hG hM (by rw [B6_eq] at h; exact h)

/-- locution/locutionlaw03.PackGoes -/
def B7 (x_0 : Slc) (x_1 : Int) (w : World) (R : Value → World → Prop) : Prop :=
  
    ∃ l1 : Slc, (((w.alloc (.cells #[.slice x_0.a x_0.len x_0.cap] 22)).alloc (.cells #[.int .i64 x_1] 3)).alloc (.cells #[.bool false] 4)).cell? ⟨w.heap.size, 0, none⟩ = some (.slice l1.a l1.len l1.cap) ∧
    br (decide ((60 : Int) < (l1.len : Int))) (Calls Try.prog 25 #[] (((w.alloc (.cells #[.slice x_0.a x_0.len x_0.cap] 22)).alloc (.cells #[.int .i64 x_1] 3)).alloc (.cells #[.bool false] 4)) (Rv fun v2 w3 =>
    ∃ b4 : Bool, v2 = .bool b4 ∧
    (∃ u, w3.cell? ⟨((w.alloc (.cells #[.slice x_0.a x_0.len x_0.cap] 22)).alloc (.cells #[.int .i64 x_1] 3)).heap.size, 0, none⟩ = some u) ∧
    w3.frozen? ⟨((w.alloc (.cells #[.slice x_0.a x_0.len x_0.cap] 22)).alloc (.cells #[.int .i64 x_1] 3)).heap.size, 0, none⟩ = false ∧ ([] : List Nat).Nodup ∧
    (∀ D, D ∈ ([] : List Nat) →
    (w3.setCell ⟨((w.alloc (.cells #[.slice x_0.a x_0.len x_0.cap] 22)).alloc (.cells #[.int .i64 x_1] 3)).heap.size, 0, none⟩ (.bool b4)).heap[D]? = some (.deferred (some []))) ∧
    ∀ w5 : World, Kp (fun k =>
    k ∈ ([] : List Nat)) (w3.setCell ⟨((w.alloc (.cells #[.slice x_0.a x_0.len x_0.cap] 22)).alloc (.cells #[.int .i64 x_1] 3)).heap.size, 0, none⟩ (.bool b4)) w5 →
    ∃ b6 : Bool, w5.cell? ⟨((w.alloc (.cells #[.slice x_0.a x_0.len x_0.cap] 22)).alloc (.cells #[.int .i64 x_1] 3)).heap.size, 0, none⟩ = some (.bool b6) ∧
    R (.bool b6) w5)) (∃ l7 : Slc, (((w.alloc (.cells #[.slice x_0.a x_0.len x_0.cap] 22)).alloc (.cells #[.int .i64 x_1] 3)).alloc (.cells #[.bool false] 4)).cell? ⟨w.heap.size, 0, none⟩ = some (.slice l7.a l7.len l7.cap) ∧
    Calls Try.prog 29 #[.slice l7.a l7.len l7.cap] (((w.alloc (.cells #[.slice x_0.a x_0.len x_0.cap] 22)).alloc (.cells #[.int .i64 x_1] 3)).alloc (.cells #[.bool false] 4)) (Rv fun v8 w9 =>
    ∃ p10 : Option Addr, v8 = .pointer p10 ∧ Calls Try.prog 34 #[.pointer p10] w9 (Rv fun v11 w12 => ∃ v13 : Value, v11 = v13 ∧
    (v13 = .nilFunc ∨ ∃ f x y, v13 = .func f x y) ∧
    br (isNilV v13) ((∃ u, w12.cell? ⟨((w.alloc (.cells #[.slice x_0.a x_0.len x_0.cap] 22)).alloc (.cells #[.int .i64 x_1] 3)).heap.size, 0, none⟩ = some u) ∧
    w12.frozen? ⟨((w.alloc (.cells #[.slice x_0.a x_0.len x_0.cap] 22)).alloc (.cells #[.int .i64 x_1] 3)).heap.size, 0, none⟩ = false ∧ ([] : List Nat).Nodup ∧
    (∀ D, D ∈ ([] : List Nat) →
    (w12.setCell ⟨((w.alloc (.cells #[.slice x_0.a x_0.len x_0.cap] 22)).alloc (.cells #[.int .i64 x_1] 3)).heap.size, 0, none⟩ (.bool false)).heap[D]? = some (.deferred (some []))) ∧
    ∀ w14 : World, Kp (fun k =>
    k ∈ ([] : List Nat)) (w12.setCell ⟨((w.alloc (.cells #[.slice x_0.a x_0.len x_0.cap] 22)).alloc (.cells #[.int .i64 x_1] 3)).heap.size, 0, none⟩ (.bool false)) w14 →
    ∃ b15 : Bool, w14.cell? ⟨((w.alloc (.cells #[.slice x_0.a x_0.len x_0.cap] 22)).alloc (.cells #[.int .i64 x_1] 3)).heap.size, 0, none⟩ = some (.bool b15) ∧
    R (.bool b15) w14) ((∃ u, (w12.alloc (.cells #[.int .i64 0] 3)).cell? ⟨w12.heap.size, 0, none⟩ = some u) ∧
    (w12.alloc (.cells #[.int .i64 0] 3)).frozen? ⟨w12.heap.size, 0, none⟩ = false ∧ ∃ (g16 : Nat) (A17 C18 : Array Value), v13 = .func (.func g16) A17 C18 ∧
    G g16 = true ∧ ∃ n19 : Nat, ∃ f27 : Nat → Int, ∃ f28 : Nat → Int, ∃ (D20 : Nat → Prop) (J21 : Nat → (Nat → Prop) → World → Prop) (X22 : Option Nat → (Nat →
    Prop) → World → Prop), Iter Try.prog g16 A17.toList C18.toList ((w12.alloc (.cells #[.int .i64 0] 3)).setCell ⟨w12.heap.size, 0, none⟩ (.int .i64 0)) n19 (fun j =>
    [.int .i64 (f27 j), .int .u64 (f28 j)]) D20 ∧ (∀ k, D20 k →
    k < ((w12.alloc (.cells #[.int .i64 0] 3)).setCell ⟨w12.heap.size, 0, none⟩ (.int .i64 0)).heap.size) ∧ (∀ j, Stab (J21 j)) ∧ (∀ o, Stab (X22 o)) ∧
    J21 0 (fun _ => False) ((w12.alloc (.cells #[.int .i64 0] 3)).setCell ⟨w12.heap.size, 0, none⟩ (.int .i64 0)) ∧ (∀ (j23 : Nat) (T24 : Nat →
    Prop) (w25 : World), j23 < n19 → J21 j23 T24 w25 → (∀ k, T24 k →
    ((w12.alloc (.cells #[.int .i64 0] 3)).setCell ⟨w12.heap.size, 0, none⟩ (.int .i64 0)).heap.size ≤ k) →
    T24 ((w12.alloc (.cells #[.int .i64 0] 3)).setCell ⟨w12.heap.size, 0, none⟩ (.int .i64 0)).heap.size →
    T24 (((w12.alloc (.cells #[.int .i64 0] 3)).setCell ⟨w12.heap.size, 0, none⟩ (.int .i64 0)).heap.size + 1) → Kp (fun k => ¬ T24 k ∧ ¬ D20 k) w25 w25 ∧
    ∀ w26 : World, Kp (fun k => k = ((w12.alloc (.cells #[.int .i64 0] 3)).setCell ⟨w12.heap.size, 0, none⟩ (.int .i64 0)).heap.size + 1) w25 w26 →
    ∃ n29 : Int, w26.cell? ⟨w12.heap.size, 0, none⟩ = some (.int .i64 n29) ∧
    br (!(decide ((f27 j23) = n29))) ((∃ u, w26.cell? ⟨((w.alloc (.cells #[.slice x_0.a x_0.len x_0.cap] 22)).alloc (.cells #[.int .i64 x_1] 3)).heap.size, 0, none⟩ = some u) ∧
    w26.frozen? ⟨((w.alloc (.cells #[.slice x_0.a x_0.len x_0.cap] 22)).alloc (.cells #[.int .i64 x_1] 3)).heap.size, 0, none⟩ = false ∧ Kp (fun k => ¬ T24 k ∧
    ¬ D20 k) w26 (w26.setCell ⟨((w.alloc (.cells #[.slice x_0.a x_0.len x_0.cap] 22)).alloc (.cells #[.int .i64 x_1] 3)).heap.size, 0, none⟩ (.bool false)) ∧
    X22 none T24 (w26.setCell ⟨((w.alloc (.cells #[.slice x_0.a x_0.len x_0.cap] 22)).alloc (.cells #[.int .i64 x_1] 3)).heap.size, 0, none⟩ (.bool false))) (∃ l30 : Slc, w26.cell? ⟨w.heap.size, 0, none⟩ = some (.slice l30.a l30.len l30.cap) ∧
    br (decide ((l30.len : Int) ≤ (f27 j23))) ((∃ u, w26.cell? ⟨((w.alloc (.cells #[.slice x_0.a x_0.len x_0.cap] 22)).alloc (.cells #[.int .i64 x_1] 3)).heap.size, 0, none⟩ = some u) ∧
    w26.frozen? ⟨((w.alloc (.cells #[.slice x_0.a x_0.len x_0.cap] 22)).alloc (.cells #[.int .i64 x_1] 3)).heap.size, 0, none⟩ = false ∧ Kp (fun k => ¬ T24 k ∧
    ¬ D20 k) w26 (w26.setCell ⟨((w.alloc (.cells #[.slice x_0.a x_0.len x_0.cap] 22)).alloc (.cells #[.int .i64 x_1] 3)).heap.size, 0, none⟩ (.bool false)) ∧
    X22 none T24 (w26.setCell ⟨((w.alloc (.cells #[.slice x_0.a x_0.len x_0.cap] 22)).alloc (.cells #[.int .i64 x_1] 3)).heap.size, 0, none⟩ (.bool false))) (∃ l31 : Slc, w26.cell? ⟨w.heap.size, 0, none⟩ = some (.slice l31.a l31.len l31.cap) ∧
    0 ≤ (f27 j23) ∧ (f27 j23) < (l31.len : Int) ∧ ∃ a32, l31.a = some a32 ∧ ∃ n33 : Int, w26.cell? (Addr.add a32 ((f27 j23).toNat * 1)) = some (.int .u64 n33) ∧
    br (!(decide ((f28 j23) = n33))) ((∃ u, w26.cell? ⟨((w.alloc (.cells #[.slice x_0.a x_0.len x_0.cap] 22)).alloc (.cells #[.int .i64 x_1] 3)).heap.size, 0, none⟩ = some u) ∧
    w26.frozen? ⟨((w.alloc (.cells #[.slice x_0.a x_0.len x_0.cap] 22)).alloc (.cells #[.int .i64 x_1] 3)).heap.size, 0, none⟩ = false ∧ Kp (fun k => ¬ T24 k ∧
    ¬ D20 k) w26 (w26.setCell ⟨((w.alloc (.cells #[.slice x_0.a x_0.len x_0.cap] 22)).alloc (.cells #[.int .i64 x_1] 3)).heap.size, 0, none⟩ (.bool false)) ∧
    X22 none T24 (w26.setCell ⟨((w.alloc (.cells #[.slice x_0.a x_0.len x_0.cap] 22)).alloc (.cells #[.int .i64 x_1] 3)).heap.size, 0, none⟩ (.bool false))) (∃ n34 : Int, w26.cell? ⟨w12.heap.size, 0, none⟩ = some (.int .i64 n34) ∧
    (∃ u, w26.cell? ⟨w12.heap.size, 0, none⟩ = some u) ∧ w26.frozen? ⟨w12.heap.size, 0, none⟩ = false ∧ Kp (fun k => ¬ T24 k ∧
    ¬ D20 k) w26 (w26.setCell ⟨w12.heap.size, 0, none⟩ (.int .i64 (IntKind.i64.wrap (n34 + 1)))) ∧
    J21 (j23 + 1) T24 (w26.setCell ⟨w12.heap.size, 0, none⟩ (.int .i64 (IntKind.i64.wrap (n34 + 1)))))))) ∧ (∀ (T35 : Nat → Prop) (w36 : World), J21 n19 T35 w36 →
    (∀ k, T35 k → ((w12.alloc (.cells #[.int .i64 0] 3)).setCell ⟨w12.heap.size, 0, none⟩ (.int .i64 0)).heap.size ≤ k) →
    w36.heap[((w12.alloc (.cells #[.int .i64 0] 3)).setCell ⟨w12.heap.size, 0, none⟩ (.int .i64 0)).heap.size]? = some (.deferred (some [])) →
    (∃ u, (w36.alloc (.cells #[.int .i64 0] 3)).cell? ⟨w36.heap.size, 0, none⟩ = some u) ∧
    (w36.alloc (.cells #[.int .i64 0] 3)).frozen? ⟨w36.heap.size, 0, none⟩ = false ∧ ∃ (g37 : Nat) (A38 C39 : Array Value), v13 = .func (.func g37) A38 C39 ∧
    G g37 = true ∧ ∃ n40 : Nat, ∃ f48 : Nat → Int, ∃ f49 : Nat → Int, ∃ (D41 : Nat → Prop) (J42 : Nat → (Nat → Prop) → World → Prop) (X43 : Option Nat → (Nat →
    Prop) → World → Prop), Iter Try.prog g37 A38.toList C39.toList ((w36.alloc (.cells #[.int .i64 0] 3)).setCell ⟨w36.heap.size, 0, none⟩ (.int .i64 0)) n40 (fun j =>
    [.int .i64 (f48 j), .int .u64 (f49 j)]) D41 ∧ (∀ k, D41 k →
    k < ((w36.alloc (.cells #[.int .i64 0] 3)).setCell ⟨w36.heap.size, 0, none⟩ (.int .i64 0)).heap.size) ∧ (∀ j, Stab (J42 j)) ∧ (∀ o, Stab (X43 o)) ∧
    J42 0 (fun _ => False) ((w36.alloc (.cells #[.int .i64 0] 3)).setCell ⟨w36.heap.size, 0, none⟩ (.int .i64 0)) ∧ (∀ (j44 : Nat) (T45 : Nat →
    Prop) (w46 : World), j44 < n40 → J42 j44 T45 w46 → (∀ k, T45 k →
    ((w36.alloc (.cells #[.int .i64 0] 3)).setCell ⟨w36.heap.size, 0, none⟩ (.int .i64 0)).heap.size ≤ k) →
    T45 ((w36.alloc (.cells #[.int .i64 0] 3)).setCell ⟨w36.heap.size, 0, none⟩ (.int .i64 0)).heap.size →
    T45 (((w36.alloc (.cells #[.int .i64 0] 3)).setCell ⟨w36.heap.size, 0, none⟩ (.int .i64 0)).heap.size + 1) → Kp (fun k => ¬ T45 k ∧ ¬ D41 k) w46 w46 ∧
    ∀ w47 : World, Kp (fun k => k = ((w36.alloc (.cells #[.int .i64 0] 3)).setCell ⟨w36.heap.size, 0, none⟩ (.int .i64 0)).heap.size + 1) w46 w47 →
    ∃ n50 : Int, w47.cell? ⟨w36.heap.size, 0, none⟩ = some (.int .i64 n50) ∧
    br (!(decide ((f48 j44) = n50))) ((∃ u, w47.cell? ⟨((w.alloc (.cells #[.slice x_0.a x_0.len x_0.cap] 22)).alloc (.cells #[.int .i64 x_1] 3)).heap.size, 0, none⟩ = some u) ∧
    w47.frozen? ⟨((w.alloc (.cells #[.slice x_0.a x_0.len x_0.cap] 22)).alloc (.cells #[.int .i64 x_1] 3)).heap.size, 0, none⟩ = false ∧ Kp (fun k => ¬ T45 k ∧
    ¬ D41 k) w47 (w47.setCell ⟨((w.alloc (.cells #[.slice x_0.a x_0.len x_0.cap] 22)).alloc (.cells #[.int .i64 x_1] 3)).heap.size, 0, none⟩ (.bool false)) ∧
    X43 none T45 (w47.setCell ⟨((w.alloc (.cells #[.slice x_0.a x_0.len x_0.cap] 22)).alloc (.cells #[.int .i64 x_1] 3)).heap.size, 0, none⟩ (.bool false))) (∃ l51 : Slc, w47.cell? ⟨w.heap.size, 0, none⟩ = some (.slice l51.a l51.len l51.cap) ∧
    br (decide ((l51.len : Int) ≤ (f48 j44))) ((∃ u, w47.cell? ⟨((w.alloc (.cells #[.slice x_0.a x_0.len x_0.cap] 22)).alloc (.cells #[.int .i64 x_1] 3)).heap.size, 0, none⟩ = some u) ∧
    w47.frozen? ⟨((w.alloc (.cells #[.slice x_0.a x_0.len x_0.cap] 22)).alloc (.cells #[.int .i64 x_1] 3)).heap.size, 0, none⟩ = false ∧ Kp (fun k => ¬ T45 k ∧
    ¬ D41 k) w47 (w47.setCell ⟨((w.alloc (.cells #[.slice x_0.a x_0.len x_0.cap] 22)).alloc (.cells #[.int .i64 x_1] 3)).heap.size, 0, none⟩ (.bool false)) ∧
    X43 none T45 (w47.setCell ⟨((w.alloc (.cells #[.slice x_0.a x_0.len x_0.cap] 22)).alloc (.cells #[.int .i64 x_1] 3)).heap.size, 0, none⟩ (.bool false))) (∃ l52 : Slc, w47.cell? ⟨w.heap.size, 0, none⟩ = some (.slice l52.a l52.len l52.cap) ∧
    0 ≤ (f48 j44) ∧ (f48 j44) < (l52.len : Int) ∧ ∃ a53, l52.a = some a53 ∧ ∃ n54 : Int, w47.cell? (Addr.add a53 ((f48 j44).toNat * 1)) = some (.int .u64 n54) ∧
    br (!(decide ((f49 j44) = n54))) ((∃ u, w47.cell? ⟨((w.alloc (.cells #[.slice x_0.a x_0.len x_0.cap] 22)).alloc (.cells #[.int .i64 x_1] 3)).heap.size, 0, none⟩ = some u) ∧
    w47.frozen? ⟨((w.alloc (.cells #[.slice x_0.a x_0.len x_0.cap] 22)).alloc (.cells #[.int .i64 x_1] 3)).heap.size, 0, none⟩ = false ∧ Kp (fun k => ¬ T45 k ∧
    ¬ D41 k) w47 (w47.setCell ⟨((w.alloc (.cells #[.slice x_0.a x_0.len x_0.cap] 22)).alloc (.cells #[.int .i64 x_1] 3)).heap.size, 0, none⟩ (.bool false)) ∧
    X43 none T45 (w47.setCell ⟨((w.alloc (.cells #[.slice x_0.a x_0.len x_0.cap] 22)).alloc (.cells #[.int .i64 x_1] 3)).heap.size, 0, none⟩ (.bool false))) (∃ n55 : Int, w47.cell? ⟨w36.heap.size, 0, none⟩ = some (.int .i64 n55) ∧
    (∃ u, w47.cell? ⟨w36.heap.size, 0, none⟩ = some u) ∧ w47.frozen? ⟨w36.heap.size, 0, none⟩ = false ∧
    ∃ n56 : Int, (w47.setCell ⟨w36.heap.size, 0, none⟩ (.int .i64 (IntKind.i64.wrap (n55 + 1)))).cell? ⟨w36.heap.size, 0, none⟩ = some (.int .i64 n56) ∧
    ∃ n57 : Int, (w47.setCell ⟨w36.heap.size, 0, none⟩ (.int .i64 (IntKind.i64.wrap (n55 + 1)))).cell? ⟨(w.alloc (.cells #[.slice x_0.a x_0.len x_0.cap] 22)).heap.size, 0, none⟩ = some (.int .i64 n57) ∧
    br (decide (n56 = n57)) (Kp (fun k => ¬ T45 k ∧ ¬ D41 k) w47 (w47.setCell ⟨w36.heap.size, 0, none⟩ (.int .i64 (IntKind.i64.wrap (n55 + 1)))) ∧
    X43 (some 2) T45 (w47.setCell ⟨w36.heap.size, 0, none⟩ (.int .i64 (IntKind.i64.wrap (n55 + 1))))) (Kp (fun k => ¬ T45 k ∧
    ¬ D41 k) w47 (w47.setCell ⟨w36.heap.size, 0, none⟩ (.int .i64 (IntKind.i64.wrap (n55 + 1)))) ∧
    J42 (j44 + 1) T45 (w47.setCell ⟨w36.heap.size, 0, none⟩ (.int .i64 (IntKind.i64.wrap (n55 + 1))))))))) ∧ (∀ (T94 : Nat → Prop) (w95 : World), J42 n40 T94 w95 →
    (∀ k, T94 k → ((w36.alloc (.cells #[.int .i64 0] 3)).setCell ⟨w36.heap.size, 0, none⟩ (.int .i64 0)).heap.size ≤ k) →
    w95.heap[((w36.alloc (.cells #[.int .i64 0] 3)).setCell ⟨w36.heap.size, 0, none⟩ (.int .i64 0)).heap.size]? = some (.deferred (some [])) →
    ∃ n96 : Int, w95.cell? ⟨w12.heap.size, 0, none⟩ = some (.int .i64 n96) ∧ ∃ l97 : Slc, w95.cell? ⟨w.heap.size, 0, none⟩ = some (.slice l97.a l97.len l97.cap) ∧
    br (!(decide (n96 = (l97.len : Int)))) ((∃ u, w95.cell? ⟨((w.alloc (.cells #[.slice x_0.a x_0.len x_0.cap] 22)).alloc (.cells #[.int .i64 x_1] 3)).heap.size, 0, none⟩ = some u) ∧
    w95.frozen? ⟨((w.alloc (.cells #[.slice x_0.a x_0.len x_0.cap] 22)).alloc (.cells #[.int .i64 x_1] 3)).heap.size, 0, none⟩ = false ∧
    (((w36.alloc (.cells #[.int .i64 0] 3)).setCell ⟨w36.heap.size, 0, none⟩ (.int .i64 0)).heap.size :: (((w12.alloc (.cells #[.int .i64 0] 3)).setCell ⟨w12.heap.size, 0, none⟩ (.int .i64 0)).heap.size :: ([] : List Nat))).Nodup ∧
    (∀ D, D ∈ (((w36.alloc (.cells #[.int .i64 0] 3)).setCell ⟨w36.heap.size, 0, none⟩ (.int .i64 0)).heap.size :: (((w12.alloc (.cells #[.int .i64 0] 3)).setCell ⟨w12.heap.size, 0, none⟩ (.int .i64 0)).heap.size :: ([] : List Nat))) →
    (w95.setCell ⟨((w.alloc (.cells #[.slice x_0.a x_0.len x_0.cap] 22)).alloc (.cells #[.int .i64 x_1] 3)).heap.size, 0, none⟩ (.bool false)).heap[D]? = some (.deferred (some []))) ∧
    ∀ w98 : World, Kp (fun k =>
    k ∈ (((w36.alloc (.cells #[.int .i64 0] 3)).setCell ⟨w36.heap.size, 0, none⟩ (.int .i64 0)).heap.size :: (((w12.alloc (.cells #[.int .i64 0] 3)).setCell ⟨w12.heap.size, 0, none⟩ (.int .i64 0)).heap.size :: ([] : List Nat)))) (w95.setCell ⟨((w.alloc (.cells #[.slice x_0.a x_0.len x_0.cap] 22)).alloc (.cells #[.int .i64 x_1] 3)).heap.size, 0, none⟩ (.bool false)) w98 →
    ∃ b99 : Bool, w98.cell? ⟨((w.alloc (.cells #[.slice x_0.a x_0.len x_0.cap] 22)).alloc (.cells #[.int .i64 x_1] 3)).heap.size, 0, none⟩ = some (.bool b99) ∧
    R (.bool b99) w98) (∃ n100 : Int, w95.cell? ⟨(w.alloc (.cells #[.slice x_0.a x_0.len x_0.cap] 22)).heap.size, 0, none⟩ = some (.int .i64 n100) ∧
    br (decide ((0 : Int) < n100)) (∃ n101 : Int, w95.cell? ⟨(w.alloc (.cells #[.slice x_0.a x_0.len x_0.cap] 22)).heap.size, 0, none⟩ = some (.int .i64 n101) ∧
    ∃ n102 : Int, w95.cell? ⟨w12.heap.size, 0, none⟩ = some (.int .i64 n102) ∧
    br (decide (n101 < n102)) (∃ n103 : Int, w95.cell? ⟨w36.heap.size, 0, none⟩ = some (.int .i64 n103) ∧
    ∃ n104 : Int, w95.cell? ⟨(w.alloc (.cells #[.slice x_0.a x_0.len x_0.cap] 22)).heap.size, 0, none⟩ = some (.int .i64 n104) ∧
    br (decide (n103 = n104)) (Calls Try.prog 25 #[] w95 (Rv fun v105 w106 => ∃ b107 : Bool, v105 = .bool b107 ∧
    (∃ u, w106.cell? ⟨((w.alloc (.cells #[.slice x_0.a x_0.len x_0.cap] 22)).alloc (.cells #[.int .i64 x_1] 3)).heap.size, 0, none⟩ = some u) ∧
    w106.frozen? ⟨((w.alloc (.cells #[.slice x_0.a x_0.len x_0.cap] 22)).alloc (.cells #[.int .i64 x_1] 3)).heap.size, 0, none⟩ = false ∧
    (((w36.alloc (.cells #[.int .i64 0] 3)).setCell ⟨w36.heap.size, 0, none⟩ (.int .i64 0)).heap.size :: (((w12.alloc (.cells #[.int .i64 0] 3)).setCell ⟨w12.heap.size, 0, none⟩ (.int .i64 0)).heap.size :: ([] : List Nat))).Nodup ∧
    (∀ D, D ∈ (((w36.alloc (.cells #[.int .i64 0] 3)).setCell ⟨w36.heap.size, 0, none⟩ (.int .i64 0)).heap.size :: (((w12.alloc (.cells #[.int .i64 0] 3)).setCell ⟨w12.heap.size, 0, none⟩ (.int .i64 0)).heap.size :: ([] : List Nat))) →
    (w106.setCell ⟨((w.alloc (.cells #[.slice x_0.a x_0.len x_0.cap] 22)).alloc (.cells #[.int .i64 x_1] 3)).heap.size, 0, none⟩ (.bool b107)).heap[D]? = some (.deferred (some []))) ∧
    ∀ w108 : World, Kp (fun k =>
    k ∈ (((w36.alloc (.cells #[.int .i64 0] 3)).setCell ⟨w36.heap.size, 0, none⟩ (.int .i64 0)).heap.size :: (((w12.alloc (.cells #[.int .i64 0] 3)).setCell ⟨w12.heap.size, 0, none⟩ (.int .i64 0)).heap.size :: ([] : List Nat)))) (w106.setCell ⟨((w.alloc (.cells #[.slice x_0.a x_0.len x_0.cap] 22)).alloc (.cells #[.int .i64 x_1] 3)).heap.size, 0, none⟩ (.bool b107)) w108 →
    ∃ b109 : Bool, w108.cell? ⟨((w.alloc (.cells #[.slice x_0.a x_0.len x_0.cap] 22)).alloc (.cells #[.int .i64 x_1] 3)).heap.size, 0, none⟩ = some (.bool b109) ∧
    R (.bool b109) w108)) ((∃ u, w95.cell? ⟨((w.alloc (.cells #[.slice x_0.a x_0.len x_0.cap] 22)).alloc (.cells #[.int .i64 x_1] 3)).heap.size, 0, none⟩ = some u) ∧
    w95.frozen? ⟨((w.alloc (.cells #[.slice x_0.a x_0.len x_0.cap] 22)).alloc (.cells #[.int .i64 x_1] 3)).heap.size, 0, none⟩ = false ∧
    (((w36.alloc (.cells #[.int .i64 0] 3)).setCell ⟨w36.heap.size, 0, none⟩ (.int .i64 0)).heap.size :: (((w12.alloc (.cells #[.int .i64 0] 3)).setCell ⟨w12.heap.size, 0, none⟩ (.int .i64 0)).heap.size :: ([] : List Nat))).Nodup ∧
    (∀ D, D ∈ (((w36.alloc (.cells #[.int .i64 0] 3)).setCell ⟨w36.heap.size, 0, none⟩ (.int .i64 0)).heap.size :: (((w12.alloc (.cells #[.int .i64 0] 3)).setCell ⟨w12.heap.size, 0, none⟩ (.int .i64 0)).heap.size :: ([] : List Nat))) →
    (w95.setCell ⟨((w.alloc (.cells #[.slice x_0.a x_0.len x_0.cap] 22)).alloc (.cells #[.int .i64 x_1] 3)).heap.size, 0, none⟩ (.bool false)).heap[D]? = some (.deferred (some []))) ∧
    ∀ w110 : World, Kp (fun k =>
    k ∈ (((w36.alloc (.cells #[.int .i64 0] 3)).setCell ⟨w36.heap.size, 0, none⟩ (.int .i64 0)).heap.size :: (((w12.alloc (.cells #[.int .i64 0] 3)).setCell ⟨w12.heap.size, 0, none⟩ (.int .i64 0)).heap.size :: ([] : List Nat)))) (w95.setCell ⟨((w.alloc (.cells #[.slice x_0.a x_0.len x_0.cap] 22)).alloc (.cells #[.int .i64 x_1] 3)).heap.size, 0, none⟩ (.bool false)) w110 →
    ∃ b111 : Bool, w110.cell? ⟨((w.alloc (.cells #[.slice x_0.a x_0.len x_0.cap] 22)).alloc (.cells #[.int .i64 x_1] 3)).heap.size, 0, none⟩ = some (.bool b111) ∧
    R (.bool b111) w110)) (∃ n112 : Int, w95.cell? ⟨w36.heap.size, 0, none⟩ = some (.int .i64 n112) ∧
    ∃ n113 : Int, w95.cell? ⟨w12.heap.size, 0, none⟩ = some (.int .i64 n113) ∧ br (decide (n112 = n113)) (Calls Try.prog 25 #[] w95 (Rv fun v114 w115 =>
    ∃ b116 : Bool, v114 = .bool b116 ∧
    (∃ u, w115.cell? ⟨((w.alloc (.cells #[.slice x_0.a x_0.len x_0.cap] 22)).alloc (.cells #[.int .i64 x_1] 3)).heap.size, 0, none⟩ = some u) ∧
    w115.frozen? ⟨((w.alloc (.cells #[.slice x_0.a x_0.len x_0.cap] 22)).alloc (.cells #[.int .i64 x_1] 3)).heap.size, 0, none⟩ = false ∧
    (((w36.alloc (.cells #[.int .i64 0] 3)).setCell ⟨w36.heap.size, 0, none⟩ (.int .i64 0)).heap.size :: (((w12.alloc (.cells #[.int .i64 0] 3)).setCell ⟨w12.heap.size, 0, none⟩ (.int .i64 0)).heap.size :: ([] : List Nat))).Nodup ∧
    (∀ D, D ∈ (((w36.alloc (.cells #[.int .i64 0] 3)).setCell ⟨w36.heap.size, 0, none⟩ (.int .i64 0)).heap.size :: (((w12.alloc (.cells #[.int .i64 0] 3)).setCell ⟨w12.heap.size, 0, none⟩ (.int .i64 0)).heap.size :: ([] : List Nat))) →
    (w115.setCell ⟨((w.alloc (.cells #[.slice x_0.a x_0.len x_0.cap] 22)).alloc (.cells #[.int .i64 x_1] 3)).heap.size, 0, none⟩ (.bool b116)).heap[D]? = some (.deferred (some []))) ∧
    ∀ w117 : World, Kp (fun k =>
    k ∈ (((w36.alloc (.cells #[.int .i64 0] 3)).setCell ⟨w36.heap.size, 0, none⟩ (.int .i64 0)).heap.size :: (((w12.alloc (.cells #[.int .i64 0] 3)).setCell ⟨w12.heap.size, 0, none⟩ (.int .i64 0)).heap.size :: ([] : List Nat)))) (w115.setCell ⟨((w.alloc (.cells #[.slice x_0.a x_0.len x_0.cap] 22)).alloc (.cells #[.int .i64 x_1] 3)).heap.size, 0, none⟩ (.bool b116)) w117 →
    ∃ b118 : Bool, w117.cell? ⟨((w.alloc (.cells #[.slice x_0.a x_0.len x_0.cap] 22)).alloc (.cells #[.int .i64 x_1] 3)).heap.size, 0, none⟩ = some (.bool b118) ∧
    R (.bool b118) w117)) ((∃ u, w95.cell? ⟨((w.alloc (.cells #[.slice x_0.a x_0.len x_0.cap] 22)).alloc (.cells #[.int .i64 x_1] 3)).heap.size, 0, none⟩ = some u) ∧
    w95.frozen? ⟨((w.alloc (.cells #[.slice x_0.a x_0.len x_0.cap] 22)).alloc (.cells #[.int .i64 x_1] 3)).heap.size, 0, none⟩ = false ∧
    (((w36.alloc (.cells #[.int .i64 0] 3)).setCell ⟨w36.heap.size, 0, none⟩ (.int .i64 0)).heap.size :: (((w12.alloc (.cells #[.int .i64 0] 3)).setCell ⟨w12.heap.size, 0, none⟩ (.int .i64 0)).heap.size :: ([] : List Nat))).Nodup ∧
    (∀ D, D ∈ (((w36.alloc (.cells #[.int .i64 0] 3)).setCell ⟨w36.heap.size, 0, none⟩ (.int .i64 0)).heap.size :: (((w12.alloc (.cells #[.int .i64 0] 3)).setCell ⟨w12.heap.size, 0, none⟩ (.int .i64 0)).heap.size :: ([] : List Nat))) →
    (w95.setCell ⟨((w.alloc (.cells #[.slice x_0.a x_0.len x_0.cap] 22)).alloc (.cells #[.int .i64 x_1] 3)).heap.size, 0, none⟩ (.bool false)).heap[D]? = some (.deferred (some []))) ∧
    ∀ w119 : World, Kp (fun k =>
    k ∈ (((w36.alloc (.cells #[.int .i64 0] 3)).setCell ⟨w36.heap.size, 0, none⟩ (.int .i64 0)).heap.size :: (((w12.alloc (.cells #[.int .i64 0] 3)).setCell ⟨w12.heap.size, 0, none⟩ (.int .i64 0)).heap.size :: ([] : List Nat)))) (w95.setCell ⟨((w.alloc (.cells #[.slice x_0.a x_0.len x_0.cap] 22)).alloc (.cells #[.int .i64 x_1] 3)).heap.size, 0, none⟩ (.bool false)) w119 →
    ∃ b120 : Bool, w119.cell? ⟨((w.alloc (.cells #[.slice x_0.a x_0.len x_0.cap] 22)).alloc (.cells #[.int .i64 x_1] 3)).heap.size, 0, none⟩ = some (.bool b120) ∧
    R (.bool b120) w119))) (∃ n121 : Int, w95.cell? ⟨w36.heap.size, 0, none⟩ = some (.int .i64 n121) ∧
    ∃ n122 : Int, w95.cell? ⟨w12.heap.size, 0, none⟩ = some (.int .i64 n122) ∧ br (decide (n121 = n122)) (Calls Try.prog 25 #[] w95 (Rv fun v123 w124 =>
    ∃ b125 : Bool, v123 = .bool b125 ∧
    (∃ u, w124.cell? ⟨((w.alloc (.cells #[.slice x_0.a x_0.len x_0.cap] 22)).alloc (.cells #[.int .i64 x_1] 3)).heap.size, 0, none⟩ = some u) ∧
    w124.frozen? ⟨((w.alloc (.cells #[.slice x_0.a x_0.len x_0.cap] 22)).alloc (.cells #[.int .i64 x_1] 3)).heap.size, 0, none⟩ = false ∧
    (((w36.alloc (.cells #[.int .i64 0] 3)).setCell ⟨w36.heap.size, 0, none⟩ (.int .i64 0)).heap.size :: (((w12.alloc (.cells #[.int .i64 0] 3)).setCell ⟨w12.heap.size, 0, none⟩ (.int .i64 0)).heap.size :: ([] : List Nat))).Nodup ∧
    (∀ D, D ∈ (((w36.alloc (.cells #[.int .i64 0] 3)).setCell ⟨w36.heap.size, 0, none⟩ (.int .i64 0)).heap.size :: (((w12.alloc (.cells #[.int .i64 0] 3)).setCell ⟨w12.heap.size, 0, none⟩ (.int .i64 0)).heap.size :: ([] : List Nat))) →
    (w124.setCell ⟨((w.alloc (.cells #[.slice x_0.a x_0.len x_0.cap] 22)).alloc (.cells #[.int .i64 x_1] 3)).heap.size, 0, none⟩ (.bool b125)).heap[D]? = some (.deferred (some []))) ∧
    ∀ w126 : World, Kp (fun k =>
    k ∈ (((w36.alloc (.cells #[.int .i64 0] 3)).setCell ⟨w36.heap.size, 0, none⟩ (.int .i64 0)).heap.size :: (((w12.alloc (.cells #[.int .i64 0] 3)).setCell ⟨w12.heap.size, 0, none⟩ (.int .i64 0)).heap.size :: ([] : List Nat)))) (w124.setCell ⟨((w.alloc (.cells #[.slice x_0.a x_0.len x_0.cap] 22)).alloc (.cells #[.int .i64 x_1] 3)).heap.size, 0, none⟩ (.bool b125)) w126 →
    ∃ b127 : Bool, w126.cell? ⟨((w.alloc (.cells #[.slice x_0.a x_0.len x_0.cap] 22)).alloc (.cells #[.int .i64 x_1] 3)).heap.size, 0, none⟩ = some (.bool b127) ∧
    R (.bool b127) w126)) ((∃ u, w95.cell? ⟨((w.alloc (.cells #[.slice x_0.a x_0.len x_0.cap] 22)).alloc (.cells #[.int .i64 x_1] 3)).heap.size, 0, none⟩ = some u) ∧
    w95.frozen? ⟨((w.alloc (.cells #[.slice x_0.a x_0.len x_0.cap] 22)).alloc (.cells #[.int .i64 x_1] 3)).heap.size, 0, none⟩ = false ∧
    (((w36.alloc (.cells #[.int .i64 0] 3)).setCell ⟨w36.heap.size, 0, none⟩ (.int .i64 0)).heap.size :: (((w12.alloc (.cells #[.int .i64 0] 3)).setCell ⟨w12.heap.size, 0, none⟩ (.int .i64 0)).heap.size :: ([] : List Nat))).Nodup ∧
    (∀ D, D ∈ (((w36.alloc (.cells #[.int .i64 0] 3)).setCell ⟨w36.heap.size, 0, none⟩ (.int .i64 0)).heap.size :: (((w12.alloc (.cells #[.int .i64 0] 3)).setCell ⟨w12.heap.size, 0, none⟩ (.int .i64 0)).heap.size :: ([] : List Nat))) →
    (w95.setCell ⟨((w.alloc (.cells #[.slice x_0.a x_0.len x_0.cap] 22)).alloc (.cells #[.int .i64 x_1] 3)).heap.size, 0, none⟩ (.bool false)).heap[D]? = some (.deferred (some []))) ∧
    ∀ w128 : World, Kp (fun k =>
    k ∈ (((w36.alloc (.cells #[.int .i64 0] 3)).setCell ⟨w36.heap.size, 0, none⟩ (.int .i64 0)).heap.size :: (((w12.alloc (.cells #[.int .i64 0] 3)).setCell ⟨w12.heap.size, 0, none⟩ (.int .i64 0)).heap.size :: ([] : List Nat)))) (w95.setCell ⟨((w.alloc (.cells #[.slice x_0.a x_0.len x_0.cap] 22)).alloc (.cells #[.int .i64 x_1] 3)).heap.size, 0, none⟩ (.bool false)) w128 →
    ∃ b129 : Bool, w128.cell? ⟨((w.alloc (.cells #[.slice x_0.a x_0.len x_0.cap] 22)).alloc (.cells #[.int .i64 x_1] 3)).heap.size, 0, none⟩ = some (.bool b129) ∧
    R (.bool b129) w128)))) ∧ (∀ (T130 : Nat → Prop) (w131 : World), X43 none T130 w131 → (∀ k, T130 k →
    ((w36.alloc (.cells #[.int .i64 0] 3)).setCell ⟨w36.heap.size, 0, none⟩ (.int .i64 0)).heap.size ≤ k) →
    w131.heap[((w36.alloc (.cells #[.int .i64 0] 3)).setCell ⟨w36.heap.size, 0, none⟩ (.int .i64 0)).heap.size]? = some (.deferred (some [])) →
    (((w36.alloc (.cells #[.int .i64 0] 3)).setCell ⟨w36.heap.size, 0, none⟩ (.int .i64 0)).heap.size :: (((w12.alloc (.cells #[.int .i64 0] 3)).setCell ⟨w12.heap.size, 0, none⟩ (.int .i64 0)).heap.size :: ([] : List Nat))).Nodup ∧
    (∀ D, D ∈ (((w36.alloc (.cells #[.int .i64 0] 3)).setCell ⟨w36.heap.size, 0, none⟩ (.int .i64 0)).heap.size :: (((w12.alloc (.cells #[.int .i64 0] 3)).setCell ⟨w12.heap.size, 0, none⟩ (.int .i64 0)).heap.size :: ([] : List Nat))) →
    w131.heap[D]? = some (.deferred (some []))) ∧ ∀ w132 : World, Kp (fun k =>
    k ∈ (((w36.alloc (.cells #[.int .i64 0] 3)).setCell ⟨w36.heap.size, 0, none⟩ (.int .i64 0)).heap.size :: (((w12.alloc (.cells #[.int .i64 0] 3)).setCell ⟨w12.heap.size, 0, none⟩ (.int .i64 0)).heap.size :: ([] : List Nat)))) w131 w132 →
    ∃ b133 : Bool, w132.cell? ⟨((w.alloc (.cells #[.slice x_0.a x_0.len x_0.cap] 22)).alloc (.cells #[.int .i64 x_1] 3)).heap.size, 0, none⟩ = some (.bool b133) ∧
    R (.bool b133) w132) ∧ (∀ (T58 : Nat → Prop) (w59 : World), X43 (some 2) T58 w59 → (∀ k, T58 k →
    ((w36.alloc (.cells #[.int .i64 0] 3)).setCell ⟨w36.heap.size, 0, none⟩ (.int .i64 0)).heap.size ≤ k) →
    w59.heap[((w36.alloc (.cells #[.int .i64 0] 3)).setCell ⟨w36.heap.size, 0, none⟩ (.int .i64 0)).heap.size]? = some (.deferred (some [])) →
    ∃ n60 : Int, w59.cell? ⟨w12.heap.size, 0, none⟩ = some (.int .i64 n60) ∧ ∃ l61 : Slc, w59.cell? ⟨w.heap.size, 0, none⟩ = some (.slice l61.a l61.len l61.cap) ∧
    br (!(decide (n60 = (l61.len : Int)))) ((∃ u, w59.cell? ⟨((w.alloc (.cells #[.slice x_0.a x_0.len x_0.cap] 22)).alloc (.cells #[.int .i64 x_1] 3)).heap.size, 0, none⟩ = some u) ∧
    w59.frozen? ⟨((w.alloc (.cells #[.slice x_0.a x_0.len x_0.cap] 22)).alloc (.cells #[.int .i64 x_1] 3)).heap.size, 0, none⟩ = false ∧
    (((w36.alloc (.cells #[.int .i64 0] 3)).setCell ⟨w36.heap.size, 0, none⟩ (.int .i64 0)).heap.size :: (((w12.alloc (.cells #[.int .i64 0] 3)).setCell ⟨w12.heap.size, 0, none⟩ (.int .i64 0)).heap.size :: ([] : List Nat))).Nodup ∧
    (∀ D, D ∈ (((w36.alloc (.cells #[.int .i64 0] 3)).setCell ⟨w36.heap.size, 0, none⟩ (.int .i64 0)).heap.size :: (((w12.alloc (.cells #[.int .i64 0] 3)).setCell ⟨w12.heap.size, 0, none⟩ (.int .i64 0)).heap.size :: ([] : List Nat))) →
    (w59.setCell ⟨((w.alloc (.cells #[.slice x_0.a x_0.len x_0.cap] 22)).alloc (.cells #[.int .i64 x_1] 3)).heap.size, 0, none⟩ (.bool false)).heap[D]? = some (.deferred (some []))) ∧
    ∀ w62 : World, Kp (fun k =>
    k ∈ (((w36.alloc (.cells #[.int .i64 0] 3)).setCell ⟨w36.heap.size, 0, none⟩ (.int .i64 0)).heap.size :: (((w12.alloc (.cells #[.int .i64 0] 3)).setCell ⟨w12.heap.size, 0, none⟩ (.int .i64 0)).heap.size :: ([] : List Nat)))) (w59.setCell ⟨((w.alloc (.cells #[.slice x_0.a x_0.len x_0.cap] 22)).alloc (.cells #[.int .i64 x_1] 3)).heap.size, 0, none⟩ (.bool false)) w62 →
    ∃ b63 : Bool, w62.cell? ⟨((w.alloc (.cells #[.slice x_0.a x_0.len x_0.cap] 22)).alloc (.cells #[.int .i64 x_1] 3)).heap.size, 0, none⟩ = some (.bool b63) ∧
    R (.bool b63) w62) (∃ n64 : Int, w59.cell? ⟨(w.alloc (.cells #[.slice x_0.a x_0.len x_0.cap] 22)).heap.size, 0, none⟩ = some (.int .i64 n64) ∧
    br (decide ((0 : Int) < n64)) (∃ n65 : Int, w59.cell? ⟨(w.alloc (.cells #[.slice x_0.a x_0.len x_0.cap] 22)).heap.size, 0, none⟩ = some (.int .i64 n65) ∧
    ∃ n66 : Int, w59.cell? ⟨w12.heap.size, 0, none⟩ = some (.int .i64 n66) ∧
    br (decide (n65 < n66)) (∃ n67 : Int, w59.cell? ⟨w36.heap.size, 0, none⟩ = some (.int .i64 n67) ∧
    ∃ n68 : Int, w59.cell? ⟨(w.alloc (.cells #[.slice x_0.a x_0.len x_0.cap] 22)).heap.size, 0, none⟩ = some (.int .i64 n68) ∧
    br (decide (n67 = n68)) (Calls Try.prog 25 #[] w59 (Rv fun v69 w70 => ∃ b71 : Bool, v69 = .bool b71 ∧
    (∃ u, w70.cell? ⟨((w.alloc (.cells #[.slice x_0.a x_0.len x_0.cap] 22)).alloc (.cells #[.int .i64 x_1] 3)).heap.size, 0, none⟩ = some u) ∧
    w70.frozen? ⟨((w.alloc (.cells #[.slice x_0.a x_0.len x_0.cap] 22)).alloc (.cells #[.int .i64 x_1] 3)).heap.size, 0, none⟩ = false ∧
    (((w36.alloc (.cells #[.int .i64 0] 3)).setCell ⟨w36.heap.size, 0, none⟩ (.int .i64 0)).heap.size :: (((w12.alloc (.cells #[.int .i64 0] 3)).setCell ⟨w12.heap.size, 0, none⟩ (.int .i64 0)).heap.size :: ([] : List Nat))).Nodup ∧
    (∀ D, D ∈ (((w36.alloc (.cells #[.int .i64 0] 3)).setCell ⟨w36.heap.size, 0, none⟩ (.int .i64 0)).heap.size :: (((w12.alloc (.cells #[.int .i64 0] 3)).setCell ⟨w12.heap.size, 0, none⟩ (.int .i64 0)).heap.size :: ([] : List Nat))) →
    (w70.setCell ⟨((w.alloc (.cells #[.slice x_0.a x_0.len x_0.cap] 22)).alloc (.cells #[.int .i64 x_1] 3)).heap.size, 0, none⟩ (.bool b71)).heap[D]? = some (.deferred (some []))) ∧
    ∀ w72 : World, Kp (fun k =>
    k ∈ (((w36.alloc (.cells #[.int .i64 0] 3)).setCell ⟨w36.heap.size, 0, none⟩ (.int .i64 0)).heap.size :: (((w12.alloc (.cells #[.int .i64 0] 3)).setCell ⟨w12.heap.size, 0, none⟩ (.int .i64 0)).heap.size :: ([] : List Nat)))) (w70.setCell ⟨((w.alloc (.cells #[.slice x_0.a x_0.len x_0.cap] 22)).alloc (.cells #[.int .i64 x_1] 3)).heap.size, 0, none⟩ (.bool b71)) w72 →
    ∃ b73 : Bool, w72.cell? ⟨((w.alloc (.cells #[.slice x_0.a x_0.len x_0.cap] 22)).alloc (.cells #[.int .i64 x_1] 3)).heap.size, 0, none⟩ = some (.bool b73) ∧
    R (.bool b73) w72)) ((∃ u, w59.cell? ⟨((w.alloc (.cells #[.slice x_0.a x_0.len x_0.cap] 22)).alloc (.cells #[.int .i64 x_1] 3)).heap.size, 0, none⟩ = some u) ∧
    w59.frozen? ⟨((w.alloc (.cells #[.slice x_0.a x_0.len x_0.cap] 22)).alloc (.cells #[.int .i64 x_1] 3)).heap.size, 0, none⟩ = false ∧
    (((w36.alloc (.cells #[.int .i64 0] 3)).setCell ⟨w36.heap.size, 0, none⟩ (.int .i64 0)).heap.size :: (((w12.alloc (.cells #[.int .i64 0] 3)).setCell ⟨w12.heap.size, 0, none⟩ (.int .i64 0)).heap.size :: ([] : List Nat))).Nodup ∧
    (∀ D, D ∈ (((w36.alloc (.cells #[.int .i64 0] 3)).setCell ⟨w36.heap.size, 0, none⟩ (.int .i64 0)).heap.size :: (((w12.alloc (.cells #[.int .i64 0] 3)).setCell ⟨w12.heap.size, 0, none⟩ (.int .i64 0)).heap.size :: ([] : List Nat))) →
    (w59.setCell ⟨((w.alloc (.cells #[.slice x_0.a x_0.len x_0.cap] 22)).alloc (.cells #[.int .i64 x_1] 3)).heap.size, 0, none⟩ (.bool false)).heap[D]? = some (.deferred (some []))) ∧
    ∀ w74 : World, Kp (fun k =>
    k ∈ (((w36.alloc (.cells #[.int .i64 0] 3)).setCell ⟨w36.heap.size, 0, none⟩ (.int .i64 0)).heap.size :: (((w12.alloc (.cells #[.int .i64 0] 3)).setCell ⟨w12.heap.size, 0, none⟩ (.int .i64 0)).heap.size :: ([] : List Nat)))) (w59.setCell ⟨((w.alloc (.cells #[.slice x_0.a x_0.len x_0.cap] 22)).alloc (.cells #[.int .i64 x_1] 3)).heap.size, 0, none⟩ (.bool false)) w74 →
    ∃ b75 : Bool, w74.cell? ⟨((w.alloc (.cells #[.slice x_0.a x_0.len x_0.cap] 22)).alloc (.cells #[.int .i64 x_1] 3)).heap.size, 0, none⟩ = some (.bool b75) ∧
    R (.bool b75) w74)) (∃ n76 : Int, w59.cell? ⟨w36.heap.size, 0, none⟩ = some (.int .i64 n76) ∧
    ∃ n77 : Int, w59.cell? ⟨w12.heap.size, 0, none⟩ = some (.int .i64 n77) ∧ br (decide (n76 = n77)) (Calls Try.prog 25 #[] w59 (Rv fun v78 w79 =>
    ∃ b80 : Bool, v78 = .bool b80 ∧
    (∃ u, w79.cell? ⟨((w.alloc (.cells #[.slice x_0.a x_0.len x_0.cap] 22)).alloc (.cells #[.int .i64 x_1] 3)).heap.size, 0, none⟩ = some u) ∧
    w79.frozen? ⟨((w.alloc (.cells #[.slice x_0.a x_0.len x_0.cap] 22)).alloc (.cells #[.int .i64 x_1] 3)).heap.size, 0, none⟩ = false ∧
    (((w36.alloc (.cells #[.int .i64 0] 3)).setCell ⟨w36.heap.size, 0, none⟩ (.int .i64 0)).heap.size :: (((w12.alloc (.cells #[.int .i64 0] 3)).setCell ⟨w12.heap.size, 0, none⟩ (.int .i64 0)).heap.size :: ([] : List Nat))).Nodup ∧
    (∀ D, D ∈ (((w36.alloc (.cells #[.int .i64 0] 3)).setCell ⟨w36.heap.size, 0, none⟩ (.int .i64 0)).heap.size :: (((w12.alloc (.cells #[.int .i64 0] 3)).setCell ⟨w12.heap.size, 0, none⟩ (.int .i64 0)).heap.size :: ([] : List Nat))) →
    (w79.setCell ⟨((w.alloc (.cells #[.slice x_0.a x_0.len x_0.cap] 22)).alloc (.cells #[.int .i64 x_1] 3)).heap.size, 0, none⟩ (.bool b80)).heap[D]? = some (.deferred (some []))) ∧
    ∀ w81 : World, Kp (fun k =>
    k ∈ (((w36.alloc (.cells #[.int .i64 0] 3)).setCell ⟨w36.heap.size, 0, none⟩ (.int .i64 0)).heap.size :: (((w12.alloc (.cells #[.int .i64 0] 3)).setCell ⟨w12.heap.size, 0, none⟩ (.int .i64 0)).heap.size :: ([] : List Nat)))) (w79.setCell ⟨((w.alloc (.cells #[.slice x_0.a x_0.len x_0.cap] 22)).alloc (.cells #[.int .i64 x_1] 3)).heap.size, 0, none⟩ (.bool b80)) w81 →
    ∃ b82 : Bool, w81.cell? ⟨((w.alloc (.cells #[.slice x_0.a x_0.len x_0.cap] 22)).alloc (.cells #[.int .i64 x_1] 3)).heap.size, 0, none⟩ = some (.bool b82) ∧
    R (.bool b82) w81)) ((∃ u, w59.cell? ⟨((w.alloc (.cells #[.slice x_0.a x_0.len x_0.cap] 22)).alloc (.cells #[.int .i64 x_1] 3)).heap.size, 0, none⟩ = some u) ∧
    w59.frozen? ⟨((w.alloc (.cells #[.slice x_0.a x_0.len x_0.cap] 22)).alloc (.cells #[.int .i64 x_1] 3)).heap.size, 0, none⟩ = false ∧
    (((w36.alloc (.cells #[.int .i64 0] 3)).setCell ⟨w36.heap.size, 0, none⟩ (.int .i64 0)).heap.size :: (((w12.alloc (.cells #[.int .i64 0] 3)).setCell ⟨w12.heap.size, 0, none⟩ (.int .i64 0)).heap.size :: ([] : List Nat))).Nodup ∧
    (∀ D, D ∈ (((w36.alloc (.cells #[.int .i64 0] 3)).setCell ⟨w36.heap.size, 0, none⟩ (.int .i64 0)).heap.size :: (((w12.alloc (.cells #[.int .i64 0] 3)).setCell ⟨w12.heap.size, 0, none⟩ (.int .i64 0)).heap.size :: ([] : List Nat))) →
    (w59.setCell ⟨((w.alloc (.cells #[.slice x_0.a x_0.len x_0.cap] 22)).alloc (.cells #[.int .i64 x_1] 3)).heap.size, 0, none⟩ (.bool false)).heap[D]? = some (.deferred (some []))) ∧
    ∀ w83 : World, Kp (fun k =>
    k ∈ (((w36.alloc (.cells #[.int .i64 0] 3)).setCell ⟨w36.heap.size, 0, none⟩ (.int .i64 0)).heap.size :: (((w12.alloc (.cells #[.int .i64 0] 3)).setCell ⟨w12.heap.size, 0, none⟩ (.int .i64 0)).heap.size :: ([] : List Nat)))) (w59.setCell ⟨((w.alloc (.cells #[.slice x_0.a x_0.len x_0.cap] 22)).alloc (.cells #[.int .i64 x_1] 3)).heap.size, 0, none⟩ (.bool false)) w83 →
    ∃ b84 : Bool, w83.cell? ⟨((w.alloc (.cells #[.slice x_0.a x_0.len x_0.cap] 22)).alloc (.cells #[.int .i64 x_1] 3)).heap.size, 0, none⟩ = some (.bool b84) ∧
    R (.bool b84) w83))) (∃ n85 : Int, w59.cell? ⟨w36.heap.size, 0, none⟩ = some (.int .i64 n85) ∧
    ∃ n86 : Int, w59.cell? ⟨w12.heap.size, 0, none⟩ = some (.int .i64 n86) ∧ br (decide (n85 = n86)) (Calls Try.prog 25 #[] w59 (Rv fun v87 w88 =>
    ∃ b89 : Bool, v87 = .bool b89 ∧
    (∃ u, w88.cell? ⟨((w.alloc (.cells #[.slice x_0.a x_0.len x_0.cap] 22)).alloc (.cells #[.int .i64 x_1] 3)).heap.size, 0, none⟩ = some u) ∧
    w88.frozen? ⟨((w.alloc (.cells #[.slice x_0.a x_0.len x_0.cap] 22)).alloc (.cells #[.int .i64 x_1] 3)).heap.size, 0, none⟩ = false ∧
    (((w36.alloc (.cells #[.int .i64 0] 3)).setCell ⟨w36.heap.size, 0, none⟩ (.int .i64 0)).heap.size :: (((w12.alloc (.cells #[.int .i64 0] 3)).setCell ⟨w12.heap.size, 0, none⟩ (.int .i64 0)).heap.size :: ([] : List Nat))).Nodup ∧
    (∀ D, D ∈ (((w36.alloc (.cells #[.int .i64 0] 3)).setCell ⟨w36.heap.size, 0, none⟩ (.int .i64 0)).heap.size :: (((w12.alloc (.cells #[.int .i64 0] 3)).setCell ⟨w12.heap.size, 0, none⟩ (.int .i64 0)).heap.size :: ([] : List Nat))) →
    (w88.setCell ⟨((w.alloc (.cells #[.slice x_0.a x_0.len x_0.cap] 22)).alloc (.cells #[.int .i64 x_1] 3)).heap.size, 0, none⟩ (.bool b89)).heap[D]? = some (.deferred (some []))) ∧
    ∀ w90 : World, Kp (fun k =>
    k ∈ (((w36.alloc (.cells #[.int .i64 0] 3)).setCell ⟨w36.heap.size, 0, none⟩ (.int .i64 0)).heap.size :: (((w12.alloc (.cells #[.int .i64 0] 3)).setCell ⟨w12.heap.size, 0, none⟩ (.int .i64 0)).heap.size :: ([] : List Nat)))) (w88.setCell ⟨((w.alloc (.cells #[.slice x_0.a x_0.len x_0.cap] 22)).alloc (.cells #[.int .i64 x_1] 3)).heap.size, 0, none⟩ (.bool b89)) w90 →
    ∃ b91 : Bool, w90.cell? ⟨((w.alloc (.cells #[.slice x_0.a x_0.len x_0.cap] 22)).alloc (.cells #[.int .i64 x_1] 3)).heap.size, 0, none⟩ = some (.bool b91) ∧
    R (.bool b91) w90)) ((∃ u, w59.cell? ⟨((w.alloc (.cells #[.slice x_0.a x_0.len x_0.cap] 22)).alloc (.cells #[.int .i64 x_1] 3)).heap.size, 0, none⟩ = some u) ∧
    w59.frozen? ⟨((w.alloc (.cells #[.slice x_0.a x_0.len x_0.cap] 22)).alloc (.cells #[.int .i64 x_1] 3)).heap.size, 0, none⟩ = false ∧
    (((w36.alloc (.cells #[.int .i64 0] 3)).setCell ⟨w36.heap.size, 0, none⟩ (.int .i64 0)).heap.size :: (((w12.alloc (.cells #[.int .i64 0] 3)).setCell ⟨w12.heap.size, 0, none⟩ (.int .i64 0)).heap.size :: ([] : List Nat))).Nodup ∧
    (∀ D, D ∈ (((w36.alloc (.cells #[.int .i64 0] 3)).setCell ⟨w36.heap.size, 0, none⟩ (.int .i64 0)).heap.size :: (((w12.alloc (.cells #[.int .i64 0] 3)).setCell ⟨w12.heap.size, 0, none⟩ (.int .i64 0)).heap.size :: ([] : List Nat))) →
    (w59.setCell ⟨((w.alloc (.cells #[.slice x_0.a x_0.len x_0.cap] 22)).alloc (.cells #[.int .i64 x_1] 3)).heap.size, 0, none⟩ (.bool false)).heap[D]? = some (.deferred (some []))) ∧
    ∀ w92 : World, Kp (fun k =>
    k ∈ (((w36.alloc (.cells #[.int .i64 0] 3)).setCell ⟨w36.heap.size, 0, none⟩ (.int .i64 0)).heap.size :: (((w12.alloc (.cells #[.int .i64 0] 3)).setCell ⟨w12.heap.size, 0, none⟩ (.int .i64 0)).heap.size :: ([] : List Nat)))) (w59.setCell ⟨((w.alloc (.cells #[.slice x_0.a x_0.len x_0.cap] 22)).alloc (.cells #[.int .i64 x_1] 3)).heap.size, 0, none⟩ (.bool false)) w92 →
    ∃ b93 : Bool, w92.cell? ⟨((w.alloc (.cells #[.slice x_0.a x_0.len x_0.cap] 22)).alloc (.cells #[.int .i64 x_1] 3)).heap.size, 0, none⟩ = some (.bool b93) ∧
    R (.bool b93) w92))))) ∧ (∀ (T134 : Nat → Prop) (w135 : World), X22 none T134 w135 → (∀ k, T134 k →
    ((w12.alloc (.cells #[.int .i64 0] 3)).setCell ⟨w12.heap.size, 0, none⟩ (.int .i64 0)).heap.size ≤ k) →
    w135.heap[((w12.alloc (.cells #[.int .i64 0] 3)).setCell ⟨w12.heap.size, 0, none⟩ (.int .i64 0)).heap.size]? = some (.deferred (some [])) →
    (((w12.alloc (.cells #[.int .i64 0] 3)).setCell ⟨w12.heap.size, 0, none⟩ (.int .i64 0)).heap.size :: ([] : List Nat)).Nodup ∧
    (∀ D, D ∈ (((w12.alloc (.cells #[.int .i64 0] 3)).setCell ⟨w12.heap.size, 0, none⟩ (.int .i64 0)).heap.size :: ([] : List Nat)) →
    w135.heap[D]? = some (.deferred (some []))) ∧ ∀ w136 : World, Kp (fun k =>
    k ∈ (((w12.alloc (.cells #[.int .i64 0] 3)).setCell ⟨w12.heap.size, 0, none⟩ (.int .i64 0)).heap.size :: ([] : List Nat))) w135 w136 →
    ∃ b137 : Bool, w136.cell? ⟨((w.alloc (.cells #[.slice x_0.a x_0.len x_0.cap] 22)).alloc (.cells #[.int .i64 x_1] 3)).heap.size, 0, none⟩ = some (.bool b137) ∧
    R (.bool b137) w136) ∧ True))))
theorem B7_eq : @B7 = fun (x_0 : Slc) (x_1 : Int) (w : World) (R : Value → World → Prop) => trFT Try.prog G (lk [(1000010, [(22, .int .i64), (23, .int .u64)]), (1000017, [(44, .int .i64), (45, .int .u64)])]) Try.f7 [.slice x_0.a x_0.len x_0.cap, .int .i64 x_1] w R := by kernel_rfl
theorem c7 (x_0 : Slc) (x_1 : Int) (w : World) (R : Value → World → Prop) (h : B7 x_0 x_1 w R) : Calls Try.prog 7 #[.slice x_0.a x_0.len x_0.cap, .int .i64 x_1] w (Rv R) := calls_of_trT (L := lk [(1000010, [(22, .int .i64), (23, .int .u64)]), (1000017, [(44, .int .i64), (45, .int .u64)])]) Try.func7 hG hM (by rw [B7_eq] at h; exact h)

/-- locution/locutionlaw03.PackOf -/
def B8 (x_0 : Int) (x_1 : Int) (x_2 : Slc) (w : World) (R : Value → World → Prop) : Prop :=
  br (decide ((40 : Int) < (x_2.len : Int))) (Calls Try.prog 25 #[] w (Rv fun v1 w2 => ∃ b3 : Bool, v1 = .bool b3 ∧
    R (.bool b3) w2)) (Calls Try.prog 35 #[.int .i64 x_0, .int .i64 x_1, .slice x_2.a x_2.len x_2.cap] w (Rv fun v4 w5 =>
    ∃ p6 : Option Addr, ∃ n7 : Int, v4 = .tuple #[.pointer p6, .int .i64 n7] ∧
    br (decide (x_0 < (0 : Int))) (br p6.isNone (br (decide (n7 = (1 : Int))) (Calls Try.prog 25 #[] w5 (Rv fun v8 w9 => ∃ b10 : Bool, v8 = .bool b10 ∧
    R (.bool b10) w9)) (R (.bool false) w5)) (R (.bool false) w5)) (br (decide ((64 : Int) < x_0)) (br p6.isNone (br (decide (n7 = (1 : Int))) (Calls Try.prog 25 #[] w5 (Rv fun v11 w12 =>
    ∃ b13 : Bool, v11 = .bool b13 ∧
    R (.bool b13) w12)) (R (.bool false) w5)) (R (.bool false) w5)) (br (decide (x_1 < (0 : Int))) (br p6.isNone (br (decide (n7 = (1 : Int))) (Calls Try.prog 25 #[] w5 (Rv fun v14 w15 =>
    ∃ b16 : Bool, v14 = .bool b16 ∧
    R (.bool b16) w15)) (R (.bool false) w5)) (R (.bool false) w5)) (br (decide ((67108864 : Int) < x_1)) (br p6.isNone (br (decide (n7 = (1 : Int))) (Calls Try.prog 25 #[] w5 (Rv fun v17 w18 =>
    ∃ b19 : Bool, v17 = .bool b19 ∧
    R (.bool b19) w18)) (R (.bool false) w5)) (R (.bool false) w5)) (br (decide (x_0 = (0 : Int))) (br (decide ((0 : Int) < (x_2.len : Int))) (br p6.isNone (br (decide (n7 = (1 : Int))) (Calls Try.prog 25 #[] w5 (Rv fun v20 w21 =>
    ∃ b22 : Bool, v20 = .bool b22 ∧
    R (.bool b22) w21)) (R (.bool false) w5)) (R (.bool false) w5)) (br (decide (n7 = (0 : Int))) (Calls Try.prog 31 #[.pointer p6] w5 (Rv fun v23 w24 =>
    ∃ n25 : Int, v23 = .int .i64 n25 ∧ br (decide (n25 = x_1)) (Calls Try.prog 32 #[.pointer p6] w24 (Rv fun v26 w27 => ∃ n28 : Int, v26 = .int .i64 n28 ∧
    br (decide (n28 = x_0)) (Calls Try.prog 30 #[.pointer p6, .int .i64 0] w27 (Rv fun v29 w30 => ∃ n31 : Int, v29 = .int .u64 n31 ∧
    br (decide (n31 = (0 : Int))) (Calls Try.prog 25 #[] w30 (Rv fun v32 w33 => ∃ b34 : Bool, v32 = .bool b34 ∧
    R (.bool b34) w33)) (R (.bool false) w30))) (R (.bool false) w27))) (R (.bool false) w24))) (R (.bool false) w5))) (br (decide (x_1 = (0 : Int))) (br (decide ((0 : Int) < (x_2.len : Int))) (br p6.isNone (br (decide (n7 = (1 : Int))) (Calls Try.prog 25 #[] w5 (Rv fun v35 w36 =>
    ∃ b37 : Bool, v35 = .bool b37 ∧
    R (.bool b37) w36)) (R (.bool false) w5)) (R (.bool false) w5)) (br (decide (n7 = (0 : Int))) (Calls Try.prog 31 #[.pointer p6] w5 (Rv fun v38 w39 =>
    ∃ n40 : Int, v38 = .int .i64 n40 ∧ br (decide (n40 = x_1)) (Calls Try.prog 32 #[.pointer p6] w39 (Rv fun v41 w42 => ∃ n43 : Int, v41 = .int .i64 n43 ∧
    br (decide (n43 = x_0)) (Calls Try.prog 30 #[.pointer p6, .int .i64 0] w42 (Rv fun v44 w45 => ∃ n46 : Int, v44 = .int .u64 n46 ∧
    br (decide (n46 = (0 : Int))) (Calls Try.prog 25 #[] w45 (Rv fun v47 w48 => ∃ b49 : Bool, v47 = .bool b49 ∧
    R (.bool b49) w48)) (R (.bool false) w45))) (R (.bool false) w42))) (R (.bool false) w39))) (R (.bool false) w5))) (br (decide ((IntKind.i64.wrap (64 * (x_2.len : Int))) < x_1)) (br p6.isNone (br (decide (n7 = (1 : Int))) (Calls Try.prog 25 #[] w5 (Rv fun v50 w51 =>
    ∃ b52 : Bool, v50 = .bool b52 ∧
    R (.bool b52) w51)) (R (.bool false) w5)) (R (.bool false) w5)) (br (decide ((IntKind.i64.wrap (64 * (x_2.len : Int))) < (IntKind.i64.wrap (x_1 * x_0)))) (br p6.isNone (br (decide (n7 = (1 : Int))) (Calls Try.prog 25 #[] w5 (Rv fun v53 w54 =>
    ∃ b55 : Bool, v53 = .bool b55 ∧
    R (.bool b55) w54)) (R (.bool false) w5)) (R (.bool false) w5)) (br (decide ((IntKind.i64.wrap (x_1 * x_0)) ≤ (IntKind.i64.wrap ((IntKind.i64.wrap (64 * (x_2.len : Int))) - 64)))) (br p6.isNone (br (decide (n7 = (1 : Int))) (Calls Try.prog 25 #[] w5 (Rv fun v56 w57 =>
    ∃ b58 : Bool, v56 = .bool b58 ∧
    R (.bool b58) w57)) (R (.bool false) w5)) (R (.bool false) w5)) (Calls Try.prog 36 #[.int .i64 x_0, .int .i64 x_1, .slice x_2.a x_2.len x_2.cap] w5 (Rv fun v59 w60 =>
    ∃ l61 : Slc, ∃ b62 : Bool, v59 = .tuple #[.slice l61.a l61.len l61.cap, .bool b62] ∧
    br (!b62) (br p6.isNone (br (decide (n7 = (3 : Int))) (Calls Try.prog 25 #[] w60 (Rv fun v63 w64 => ∃ b65 : Bool, v63 = .bool b65 ∧
    R (.bool b65) w64)) (R (.bool false) w60)) (R (.bool false) w60)) (br (decide (n7 = (0 : Int))) (Calls Try.prog 28 #[.pointer p6, .int .i64 x_0, .slice l61.a l61.len l61.cap] w60 (Rv fun v66 w67 =>
    ∃ b68 : Bool, v66 = .bool b68 ∧ br b68 (Calls Try.prog 25 #[] w67 (Rv fun v69 w70 => ∃ b71 : Bool, v69 = .bool b71 ∧
    R (.bool b71) w70)) (R (.bool false) w67))) (R (.bool false) w60))))))))))))))
theorem B8_eq : @B8 = fun (x_0 : Int) (x_1 : Int) (x_2 : Slc) (w : World) (R : Value → World → Prop) => trF Try.prog G (lk []) Try.f8 [.int .i64 x_0, .int .i64 x_1, .slice x_2.a x_2.len x_2.cap] w R := by kernel_rfl
theorem c8 (x_0 : Int) (x_1 : Int) (x_2 : Slc) (w : World) (R : Value → World → Prop) (h : B8 x_0 x_1 x_2 w R) : Calls Try.prog 8 #[.int .i64 x_0, .int .i64 x_1, .slice x_2.a x_2.len x_2.cap] w (Rv R) := calls_of_tr (L := lk []) Try.func8 hG hM (by rw [B8_eq] at h; exact h)

/-- locution/locutionlaw03.live -/
def B25  (w : World) (R : Value → World → Prop) : Prop :=
  Calls Try.prog 29 #[.slice (some ⟨w.heap.size, 0, none⟩) 3 3] (w.alloc (.cells #[.int .u64 1, .int .u64 5, .int .u64 6] 23)) (Rv fun v1 w2 =>
    ∃ p3 : Option Addr, v1 = .pointer p3 ∧ Calls Try.prog 32 #[.pointer p3] w2 (Rv fun v4 w5 => ∃ n6 : Int, v4 = .int .i64 n6 ∧
    br (decide (n6 = (3 : Int))) (Calls Try.prog 31 #[.pointer p3] w5 (Rv fun v7 w8 => ∃ n9 : Int, v7 = .int .i64 n9 ∧
    br (decide (n9 = (3 : Int))) (Calls Try.prog 30 #[.pointer p3, .int .i64 2] w8 (Rv fun v10 w11 => ∃ n12 : Int, v10 = .int .u64 n12 ∧
    br (decide (n12 = (6 : Int))) (Calls Try.prog 55 #[.pointer p3, .int .i64 0, .int .i64 3, .int .u64 2] w11 (Rv fun v13 w14 => ∃ n15 : Int, v13 = .int .i64 n15 ∧
    br (decide (n15 = (1 : Int))) (Calls Try.prog 33 #[.pointer p3] w14 (Rv fun v16 w17 => ∃ l18 : Slc, v16 = .slice l18.a l18.len l18.cap ∧
    Calls Try.prog 56 #[.slice l18.a l18.len l18.cap, .slice (some ⟨w17.heap.size, 0, none⟩) 1 1] (w17.alloc (.cells #[.int .u64 425] 23)) (Rv fun v19 w20 =>
    ∃ b21 : Bool, v19 = .bool b21 ∧ R (.bool b21) w20))) (R (.bool false) w14))) (R (.bool false) w11))) (R (.bool false) w8))) (R (.bool false) w5)))
theorem B25_eq : @B25 = fun (w : World) (R : Value → World → Prop) => trF Try.prog G (lk []) Try.f25 [] w R := by kernel_rfl
theorem c25  (w : World) (R : Value → World → Prop) (h : B25  w R) : Calls Try.prog 25 #[] w (Rv R) := calls_of_tr (L := lk []) Try.func25 hG hM (by rw [B25_eq] at h; exact h)

/-- locution/locutionlaw03.is -/
def B28 (a_0 : Addr) (x_1 : Int) (x_2 : Slc) (w : World) (R : Value → World → Prop) : Prop :=
  Calls Try.prog 31 #[.pointer (some a_0)] w (Rv fun v1 w2 => ∃ n3 : Int, v1 = .int .i64 n3 ∧
    br (!(decide (n3 = (x_2.len : Int)))) (R (.bool false) w2) (Calls Try.prog 32 #[.pointer (some a_0)] w2 (Rv fun v4 w5 => ∃ n6 : Int, v4 = .int .i64 n6 ∧
    br (!(decide (n6 = x_1))) (R (.bool false) w5) (Calls Try.prog 33 #[.pointer (some a_0)] w5 (Rv fun v7 w8 => ∃ l9 : Slc, v7 = .slice l9.a l9.len l9.cap ∧
    Calls Try.prog 60 #[.int .i64 x_1, .slice x_2.a x_2.len x_2.cap] w8 (Rv fun v10 w11 => ∃ l12 : Slc, v10 = .slice l12.a l12.len l12.cap ∧
    Calls Try.prog 56 #[.slice l9.a l9.len l9.cap, .slice l12.a l12.len l12.cap] w11 (Rv fun v13 w14 => ∃ b15 : Bool, v13 = .bool b15 ∧
    br (!b15) (R (.bool false) w14) (∃ (I16 : Int → World → Prop) (μ17 : Int → World → Nat), I16 (0 : Int) w14 ∧ ∀ x18 : Int, ∀ w19 : World, I16 x18 w19 →
    br (decide (x18 < (x_2.len : Int))) (0 ≤ x18 ∧ x18 < (x_2.len : Int) ∧ ∃ a20, x_2.a = some a20 ∧
    ∃ n21 : Int, (World.drew w19).cell? (Addr.add a20 (x18.toNat * 1)) = some (.int .u64 n21) ∧
    Calls Try.prog 30 #[.pointer (some a_0), .int .i64 x18] (World.drew w19) (Rv fun v22 w23 => ∃ n24 : Int, v22 = .int .u64 n24 ∧
    w23.cell? (Addr.add a20 (x18.toNat * 1)) = some (.int .u64 n21) ∧ br (!(decide (n24 = n21))) (R (.bool false) w23) (I16 (IntKind.i64.wrap (x18 + 1)) w23 ∧
    μ17 (IntKind.i64.wrap (x18 + 1)) w23 < μ17 x18 w19))) (R (.bool true) w19)))))))))
theorem B28_eq : @B28 = fun (a_0 : Addr) (x_1 : Int) (x_2 : Slc) (w : World) (R : Value → World → Prop) => trF Try.prog G (lk [(4, [(7, .int .i64)])]) Try.f28 [.pointer (some a_0), .int .i64 x_1, .slice x_2.a x_2.len x_2.cap] w R := by kernel_rfl
theorem c28 (a_0 : Addr) (x_1 : Int) (x_2 : Slc) (w : World) (R : Value → World → Prop) (h : B28 a_0 x_1 x_2 w R) : Calls Try.prog 28 #[.pointer (some a_0), .int .i64 x_1, .slice x_2.a x_2.len x_2.cap] w (Rv R) := calls_of_tr (L := lk [(4, [(7, .int .i64)])]) Try.func28 hG hM (by rw [B28_eq] at h; exact h)

/-- (*locution/packrow.Pack).Len -/
def B31n  (w : World) (R : Value → World → Prop) : Prop :=
  R (.int .i64 0) w
theorem B31n_eq : @B31n = fun (w : World) (R : Value → World → Prop) => trF Try.prog G (lk []) Try.f31 [.pointer none] w R := by kernel_rfl
theorem c31n  (w : World) (R : Value → World → Prop) (h : B31n  w R) : Calls Try.prog 31 #[.pointer none] w (Rv R) := calls_of_tr (L := lk []) Try.func31 hG hM (by rw [B31n_eq] at h; exact h)

/-- (*locution/packrow.Pack).Width -/
def B32n  (w : World) (R : Value → World → Prop) : Prop :=
  R (.int .i64 0) w
theorem B32n_eq : @B32n = fun (w : World) (R : Value → World → Prop) => trF Try.prog G (lk []) Try.f32 [.pointer none] w R := by kernel_rfl
theorem c32n  (w : World) (R : Value → World → Prop) (h : B32n  w R) : Calls Try.prog 32 #[.pointer none] w (Rv R) := calls_of_tr (L := lk []) Try.func32 hG hM (by rw [B32n_eq] at h; exact h)

/-- (*locution/packrow.Pack).At -/
def B30n (x_1 : Int) (w : World) (R : Value → World → Prop) : Prop :=
  R (.int .u64 0) w
theorem B30n_eq : @B30n = fun (x_1 : Int) (w : World) (R : Value → World → Prop) => trF Try.prog G (lk []) Try.f30 [.pointer none, .int .i64 x_1] w R := by kernel_rfl
theorem c30n (x_1 : Int) (w : World) (R : Value → World → Prop) (h : B30n x_1 w R) : Calls Try.prog 30 #[.pointer none, .int .i64 x_1] w (Rv R) := calls_of_tr (L := lk []) Try.func30 hG hM (by rw [B30n_eq] at h; exact h)

/-- (*locution/packrow.Pack).Words -/
def B33n  (w : World) (R : Value → World → Prop) : Prop :=
  R (.slice none 0 0) w
theorem B33n_eq : @B33n = fun (w : World) (R : Value → World → Prop) => trF Try.prog G (lk []) Try.f33 [.pointer none] w R := by kernel_rfl
theorem c33n  (w : World) (R : Value → World → Prop) (h : B33n  w R) : Calls Try.prog 33 #[.pointer none] w (Rv R) := calls_of_tr (L := lk []) Try.func33 hG hM (by rw [B33n_eq] at h; exact h)

/-- (*locution/packrow.Pack).Find -/
def B55n (x_1 : Int) (x_2 : Int) (x_3 : Int) (w : World) (R : Value → World → Prop) : Prop :=
  Calls Try.prog 31 #[.pointer none] w (Rv fun v1 w2 => ∃ n3 : Int, v1 = .int .i64 n3 ∧ ∃ (I4 : Int → Int → World → Prop) (μ5 : Int → Int → World →
    Nat), I4 (max x_1 (0 : Int)) (min x_2 n3) w2 ∧ ∀ x6 : Int, ∀ x7 : Int, ∀ w8 : World, I4 x6 x7 w8 → br (decide (x6 < x7)) ((2 : Int) ≠ 0 ∧
    Calls Try.prog 30 #[.pointer none, .int .i64 (IntKind.i64.wrap (x6 + (IntKind.i64.wrap (Int.tdiv (IntKind.i64.wrap (x7 - x6)) 2))))] w8 (Rv fun v9 w10 =>
    ∃ n11 : Int, v9 = .int .u64 n11 ∧
    br (decide (n11 < x_3)) (I4 (IntKind.i64.wrap ((IntKind.i64.wrap (x6 + (IntKind.i64.wrap (Int.tdiv (IntKind.i64.wrap (x7 - x6)) 2)))) + 1)) x7 w10 ∧
    μ5 (IntKind.i64.wrap ((IntKind.i64.wrap (x6 + (IntKind.i64.wrap (Int.tdiv (IntKind.i64.wrap (x7 - x6)) 2)))) + 1)) x7 w10 < μ5 x6 x7 w8) (I4 x6 (IntKind.i64.wrap (x6 + (IntKind.i64.wrap (Int.tdiv (IntKind.i64.wrap (x7 - x6)) 2)))) w10 ∧
    μ5 x6 (IntKind.i64.wrap (x6 + (IntKind.i64.wrap (Int.tdiv (IntKind.i64.wrap (x7 - x6)) 2)))) w10 < μ5 x6 x7 w8))) (br (decide ((min x_2 n3) ≤ x6)) (R (.int .i64 (-1)) w8) (R (.int .i64 x6) w8)))
theorem B55n_eq : @B55n = fun (x_1 : Int) (x_2 : Int) (x_3 : Int) (w : World) (R : Value → World → Prop) => trF Try.prog G (lk [(3, [(1, .int .i64), (2, .int .i64)])]) Try.f55 [.pointer none, .int .i64 x_1, .int .i64 x_2, .int .u64 x_3] w R := by kernel_rfl
theorem c55n (x_1 : Int) (x_2 : Int) (x_3 : Int) (w : World) (R : Value → World → Prop) (h : B55n x_1 x_2 x_3 w R) : Calls Try.prog 55 #[.pointer none, .int .i64 x_1, .int .i64 x_2, .int .u64 x_3] w (Rv R) := calls_of_tr (L := lk [(3, [(1, .int .i64), (2, .int .i64)])]) Try.func55 hG hM (by rw [B55n_eq] at h; exact h)

end Go.Proofs.Ytilccklocaeebaa.V
