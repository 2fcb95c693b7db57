/- The verification conditions of functions, printed by a program of this work (pr.py) and checked here by the kernel. -/
import Derived.Test.YtomajpihimlcjaaDoorBS
set_option maxRecDepth 100000
set_option linter.unusedVariables false
namespace Go.Proofs.YtomajpihimlcjaaDoor.V
open Go Go.VC

/-- locution/packrow.Fit -/
def B59 (x_0 : Slc) (w : World) (R : Value → World → Prop) : Prop :=
  Calls Tryd.prog 127 #[.slice x_0.a x_0.len x_0.cap] w (Rv fun v1 w2 => ∃ n3 : Int, v1 = .int .u64 n3 ∧ Calls Tryd.prog 81 #[.int .u64 n3] w2 (Rv fun v4 w5 =>
    ∃ n6 : Int, v4 = .int .i64 n6 ∧ Calls Tryd.prog 126 #[.int .i64 n6, .slice x_0.a x_0.len x_0.cap] w5 (Rv fun v7 w8 => ∃ p9 : Option Addr, v7 = .pointer p9 ∧
    R (.pointer p9) w8)))
theorem B59_eq : @B59 = fun (x_0 : Slc) (w : World) (R : Value → World → Prop) => trF Tryd.prog G (lk []) Tryd.f59 [.slice x_0.a x_0.len x_0.cap] w R := by kernel_rfl
theorem c59 (x_0 : Slc) (w : World) (R : Value → World → Prop) (h : B59 x_0 w R) : Calls Tryd.prog 59 #[.slice x_0.a x_0.len x_0.cap] w (Rv R) := calls_of_tr (L := lk []) Tryd.func59 hG hM (by rw [B59_eq] at h; exact h)

/-- (*locution/packrow.Pack).Len -/
def B63 (a_0 : Addr) (w : World) (R : Value → World → Prop) : Prop :=
  ∃ n1 : Int, w.cell? (Addr.add a_0 2) = some (.int .i64 n1) ∧ R (.int .i64 n1) w
theorem B63_eq : @B63 = fun (a_0 : Addr) (w : World) (R : Value → World → Prop) => trF Tryd.prog G (lk []) Tryd.f63 [.pointer (some a_0)] w R := by kernel_rfl
theorem c63 (a_0 : Addr) (w : World) (R : Value → World → Prop) (h : B63 a_0 w R) : Calls Tryd.prog 63 #[.pointer (some a_0)] w (Rv R) := calls_of_tr (L := lk []) Tryd.func63 hG hM (by rw [B63_eq] at h; exact h)

/-- (*locution/packrow.Pack).Width -/
def B64 (a_0 : Addr) (w : World) (R : Value → World → Prop) : Prop :=
  ∃ n1 : Int, w.cell? (Addr.add a_0 1) = some (.int .i64 n1) ∧ R (.int .i64 n1) w
theorem B64_eq : @B64 = fun (a_0 : Addr) (w : World) (R : Value → World → Prop) => trF Tryd.prog G (lk []) Tryd.f64 [.pointer (some a_0)] w R := by kernel_rfl
theorem c64 (a_0 : Addr) (w : World) (R : Value → World → Prop) (h : B64 a_0 w R) : Calls Tryd.prog 64 #[.pointer (some a_0)] w (Rv R) := calls_of_tr (L := lk []) Tryd.func64 hG hM (by rw [B64_eq] at h; exact h)

/-- (*locution/packrow.Pack).Words -/
def B65 (a_0 : Addr) (w : World) (R : Value → World → Prop) : Prop :=
  ∃ p1 : Option Addr, w.cell? (Addr.add a_0 0) = some (.pointer p1) ∧ Calls Tryd.prog 56 #[.pointer p1] w (Rv fun v2 w3 => ∃ l4 : Slc, v2 = .slice l4.a l4.len l4.cap ∧
    R (.slice l4.a l4.len l4.cap) w3)
theorem B65_eq : @B65 = fun (a_0 : Addr) (w : World) (R : Value → World → Prop) => trF Tryd.prog G (lk []) Tryd.f65 [.pointer (some a_0)] w R := by kernel_rfl
theorem c65 (a_0 : Addr) (w : World) (R : Value → World → Prop) (h : B65 a_0 w R) : Calls Tryd.prog 65 #[.pointer (some a_0)] w (Rv R) := calls_of_tr (L := lk []) Tryd.func65 hG hM (by rw [B65_eq] at h; exact h)

/-- locution/packrow.New -/
def B100 (x_0 : Int) (x_1 : Slc) (w : World) (R : Value → World → Prop) : Prop :=
  
    br (decide (x_0 < (0 : Int))) (R (.tuple #[.pointer none, .int .i64 1]) w) (br (decide ((64 : Int) < x_0)) (R (.tuple #[.pointer none, .int .i64 1]) w) (Calls Tryd.prog 127 #[.slice x_1.a x_1.len x_1.cap] w (Rv fun v1 w2 =>
    ∃ n3 : Int, v1 = .int .u64 n3 ∧ Calls Tryd.prog 81 #[.int .u64 n3] w2 (Rv fun v4 w5 => ∃ n6 : Int, v4 = .int .i64 n6 ∧
    br (decide (x_0 < n6)) (R (.tuple #[.pointer none, .int .i64 8]) w5) (Calls Tryd.prog 126 #[.int .i64 x_0, .slice x_1.a x_1.len x_1.cap] w5 (Rv fun v7 w8 =>
    ∃ p9 : Option Addr, v7 = .pointer p9 ∧ R (.tuple #[.pointer p9, .int .i64 0]) w8))))))
theorem B100_eq : @B100 = fun (x_0 : Int) (x_1 : Slc) (w : World) (R : Value → World → Prop) => trF Tryd.prog G (lk []) Tryd.f100 [.int .i64 x_0, .slice x_1.a x_1.len x_1.cap] w R := by kernel_rfl
theorem c100 (x_0 : Int) (x_1 : Slc) (w : World) (R : Value → World → Prop) (h : B100 x_0 x_1 w R) : Calls Tryd.prog 100 #[.int .i64 x_0, .slice x_1.a x_1.len x_1.cap] w (Rv R) := calls_of_tr (L := lk []) Tryd.func100 hG hM (by rw [B100_eq] at h; exact h)

/-- (*locution/packrow.Pack).At -/
def B102 (a_0 : Addr) (x_1 : Int) (w : World) (R : Value → World → Prop) : Prop :=
  br (decide (x_1 < (0 : Int))) (R (.int .u64 0) w) (∃ n1 : Int, w.cell? (Addr.add a_0 2) = some (.int .i64 n1) ∧
    br (decide (n1 ≤ x_1)) (R (.int .u64 0) w) (∃ p2 : Option Addr, (World.drew w).cell? (Addr.add a_0 0) = some (.pointer p2) ∧
    ∃ n3 : Int, (World.drew w).cell? (Addr.add a_0 1) = some (.int .i64 n3) ∧ ∃ n4 : Int, (World.drew w).cell? (Addr.add a_0 1) = some (.int .i64 n4) ∧
    Calls Tryd.prog 118 #[.pointer p2, .int .i64 (IntKind.i64.wrap (x_1 * n3)), .int .i64 n4] (World.drew w) (Rv fun v5 w6 => ∃ n7 : Int, v5 = .int .u64 n7 ∧
    R (.int .u64 n7) w6)))
theorem B102_eq : @B102 = fun (a_0 : Addr) (x_1 : Int) (w : World) (R : Value → World → Prop) => trF Tryd.prog G (lk []) Tryd.f102 [.pointer (some a_0), .int .i64 x_1] w R := by kernel_rfl
theorem c102 (a_0 : Addr) (x_1 : Int) (w : World) (R : Value → World → Prop) (h : B102 a_0 x_1 w R) : Calls Tryd.prog 102 #[.pointer (some a_0), .int .i64 x_1] w (Rv R) := calls_of_tr (L := lk []) Tryd.func102 hG hM (by rw [B102_eq] at h; exact h)

/-- locution/packrow.made -/
def B126 (x_0 : Int) (x_1 : Slc) (w : World) (R : Value → World → Prop) : Prop :=
  Calls Tryd.prog 82 #[] w (Rv fun v1 w2 => ∃ p3 : Option Addr, v1 = .pointer p3 ∧ ∃ (I4 : Int → World → Prop) (μ5 : Int → World →
    Nat), I4 (0 : Int) (w2.alloc (.cells #[.pointer p3, .int .i64 x_0, .int .i64 (x_1.len : Int)] 150)) ∧ ∀ x6 : Int, ∀ w7 : World, I4 x6 w7 →
    br (decide (x6 < (x_1.len : Int))) (0 ≤ x6 ∧ x6 < (x_1.len : Int) ∧ ∃ a8, x_1.a = some a8 ∧
    ∃ n9 : Int, w7.cell? (Addr.add a8 (x6.toNat * 1)) = some (.int .u64 n9) ∧
    ∃ p10 : Option Addr, w7.cell? (Addr.add ⟨w2.heap.size, 0, none⟩ 0) = some (.pointer p10) ∧
    Calls Tryd.prog 22 #[.pointer p10, .int .u64 n9, .int .i64 x_0] w7 (Rv fun v11 w12 => ∃ n13 : Int, v11 = .int .i64 n13 ∧ I4 (IntKind.i64.wrap (x6 + 1)) w12 ∧
    μ5 (IntKind.i64.wrap (x6 + 1)) w12 < μ5 x6 w7)) (R (.pointer (some ⟨w2.heap.size, 0, none⟩)) w7))
theorem B126_eq : @B126 = fun (x_0 : Int) (x_1 : Slc) (w : World) (R : Value → World → Prop) => trF Tryd.prog G (lk [(3, [(16, .int .i64)])]) Tryd.f126 [.int .i64 x_0, .slice x_1.a x_1.len x_1.cap] w R := by kernel_rfl
theorem c126 (x_0 : Int) (x_1 : Slc) (w : World) (R : Value → World → Prop) (h : B126 x_0 x_1 w R) : Calls Tryd.prog 126 #[.int .i64 x_0, .slice x_1.a x_1.len x_1.cap] w (Rv R) := calls_of_tr (L := lk [(3, [(16, .int .i64)])]) Tryd.func126 hG hM (by rw [B126_eq] at h; exact h)

/-- locution/packrow.greatest[uint64] -/
def B127 (x_0 : Slc) (w : World) (R : Value → World → Prop) : Prop :=
  ∃ (I1 : Int → Int → World → Prop) (μ2 : Int → Int → World → Nat), I1 (0 : Int) (0 : Int) w ∧ ∀ x3 : Int, ∀ x4 : Int, ∀ w5 : World, I1 x3 x4 w5 →
    br (decide (x4 < (x_0.len : Int))) (0 ≤ x4 ∧ x4 < (x_0.len : Int) ∧ ∃ a6, x_0.a = some a6 ∧
    ∃ n7 : Int, w5.cell? (Addr.add a6 (x4.toNat * 1)) = some (.int .u64 n7) ∧ I1 (max x3 n7) (IntKind.i64.wrap (x4 + 1)) w5 ∧
    μ2 (max x3 n7) (IntKind.i64.wrap (x4 + 1)) w5 < μ2 x3 x4 w5) (R (.int .u64 x3) w5)
theorem B127_eq : @B127 = fun (x_0 : Slc) (w : World) (R : Value → World → Prop) => trF Tryd.prog G (lk [(3, [(3, .int .u64), (8, .int .i64)])]) Tryd.f127 [.slice x_0.a x_0.len x_0.cap] w R := by kernel_rfl
theorem c127 (x_0 : Slc) (w : World) (R : Value → World → Prop) (h : B127 x_0 w R) : Calls Tryd.prog 127 #[.slice x_0.a x_0.len x_0.cap] w (Rv R) := calls_of_tr (L := lk [(3, [(3, .int .u64), (8, .int .i64)])]) Tryd.func127 hG hM (by rw [B127_eq] at h; exact h)

/-- locution/packrow.Of -/
def B129 (x_0 : Int) (x_1 : Int) (x_2 : Slc) (w : World) (R : Value → World → Prop) : Prop :=
  
    br (decide (x_0 < (0 : Int))) (R (.tuple #[.pointer none, .int .i64 1]) w) (br (decide ((64 : Int) < x_0)) (R (.tuple #[.pointer none, .int .i64 1]) w) (br (decide (x_1 < (0 : Int))) (R (.tuple #[.pointer none, .int .i64 1]) w) (br (decide ((67108864 : Int) < x_1)) (R (.tuple #[.pointer none, .int .i64 1]) w) (Calls Tryd.prog 125 #[.slice x_2.a x_2.len x_2.cap, .int .i64 (IntKind.i64.wrap (x_1 * x_0))] w (Rv fun v1 w2 =>
    ∃ p3 : Option Addr, ∃ n4 : Int, v1 = .tuple #[.pointer p3, .int .i64 n4] ∧
    br (!(decide (n4 = (0 : Int)))) (R (.tuple #[.pointer none, .int .i64 n4]) w2) (R (.tuple #[.pointer (some ⟨w2.heap.size, 0, none⟩), .int .i64 0]) (w2.alloc (.cells #[.pointer p3, .int .i64 x_0, .int .i64 x_1] 150))))))))
theorem B129_eq : @B129 = fun (x_0 : Int) (x_1 : Int) (x_2 : Slc) (w : World) (R : Value → World → Prop) => trF Tryd.prog G (lk []) Tryd.f129 [.int .i64 x_0, .int .i64 x_1, .slice x_2.a x_2.len x_2.cap] w R := by kernel_rfl
theorem c129 (x_0 : Int) (x_1 : Int) (x_2 : Slc) (w : World) (R : Value → World → Prop) (h : B129 x_0 x_1 x_2 w R) : Calls Tryd.prog 129 #[.int .i64 x_0, .int .i64 x_1, .slice x_2.a x_2.len x_2.cap] w (Rv R) := calls_of_tr (L := lk []) Tryd.func129 hG hM (by rw [B129_eq] at h; exact h)

/-- (*locution/packrow.Pack).Find -/
def B138 (a_0 : Addr) (x_1 : Int) (x_2 : Int) (x_3 : Int) (w : World) (R : Value → World → Prop) : Prop :=
  Calls Tryd.prog 63 #[.pointer (some a_0)] w (Rv fun v1 w2 => ∃ n3 : Int, v1 = .int .i64 n3 ∧ ∃ (I4 : Int → Int → World → Prop) (μ5 : Int → Int → World →
    Nat), I4 (max x_1 (0 : Int)) (min x_2 n3) w2 ∧ ∀ x6 : Int, ∀ x7 : Int, ∀ w8 : World, I4 x6 x7 w8 → br (decide (x6 < x7)) ((2 : Int) ≠ 0 ∧
    Calls Tryd.prog 102 #[.pointer (some a_0), .int .i64 (IntKind.i64.wrap (x6 + (IntKind.i64.wrap (Int.tdiv (IntKind.i64.wrap (x7 - x6)) 2))))] w8 (Rv fun v9 w10 =>
    ∃ n11 : Int, v9 = .int .u64 n11 ∧
    br (decide (n11 < x_3)) (I4 (IntKind.i64.wrap ((IntKind.i64.wrap (x6 + (IntKind.i64.wrap (Int.tdiv (IntKind.i64.wrap (x7 - x6)) 2)))) + 1)) x7 w10 ∧
    μ5 (IntKind.i64.wrap ((IntKind.i64.wrap (x6 + (IntKind.i64.wrap (Int.tdiv (IntKind.i64.wrap (x7 - x6)) 2)))) + 1)) x7 w10 < μ5 x6 x7 w8) (I4 x6 (IntKind.i64.wrap (x6 + (IntKind.i64.wrap (Int.tdiv (IntKind.i64.wrap (x7 - x6)) 2)))) w10 ∧
    μ5 x6 (IntKind.i64.wrap (x6 + (IntKind.i64.wrap (Int.tdiv (IntKind.i64.wrap (x7 - x6)) 2)))) w10 < μ5 x6 x7 w8))) (br (decide ((min x_2 n3) ≤ x6)) (R (.int .i64 (-1)) w8) (R (.int .i64 x6) w8)))
theorem B138_eq : @B138 = fun (a_0 : Addr) (x_1 : Int) (x_2 : Int) (x_3 : Int) (w : World) (R : Value → World → Prop) => trF Tryd.prog G (lk [(3, [(1, .int .i64), (2, .int .i64)])]) Tryd.f138 [.pointer (some a_0), .int .i64 x_1, .int .i64 x_2, .int .u64 x_3] w R := by kernel_rfl
theorem c138 (a_0 : Addr) (x_1 : Int) (x_2 : Int) (x_3 : Int) (w : World) (R : Value → World → Prop) (h : B138 a_0 x_1 x_2 x_3 w R) : Calls Tryd.prog 138 #[.pointer (some a_0), .int .i64 x_1, .int .i64 x_2, .int .u64 x_3] w (Rv R) := calls_of_tr (L := lk [(3, [(1, .int .i64), (2, .int .i64)])]) Tryd.func138 hG hM (by rw [B138_eq] at h; exact h)

/-- locution/locutionref03.Width -/
def B61 (x_0 : Slc) (w : World) (R : Value → World → Prop) : Prop :=
  ∃ (I1 : Int → Int → World → Prop) (μ2 : Int → Int → World → Nat), I1 (0 : Int) (0 : Int) w ∧ ∀ x3 : Int, ∀ x4 : Int, ∀ w5 : World, I1 x3 x4 w5 →
    br (decide (x4 < (x_0.len : Int))) (0 ≤ x4 ∧ x4 < (x_0.len : Int) ∧ ∃ a6, x_0.a = some a6 ∧
    ∃ n7 : Int, w5.cell? (Addr.add a6 (x4.toNat * 1)) = some (.int .u64 n7) ∧ Calls Tryd.prog 128 #[.int .u64 n7] w5 (Rv fun v8 w9 => ∃ n10 : Int, v8 = .int .i64 n10 ∧
    I1 (max x3 n10) (IntKind.i64.wrap (x4 + 1)) w9 ∧ μ2 (max x3 n10) (IntKind.i64.wrap (x4 + 1)) w9 < μ2 x3 x4 w5)) (R (.int .i64 x3) w5)
theorem B61_eq : @B61 = fun (x_0 : Slc) (w : World) (R : Value → World → Prop) => trF Tryd.prog G (lk [(3, [(3, .int .i64), (4, .int .i64)])]) Tryd.f61 [.slice x_0.a x_0.len x_0.cap] w R := by kernel_rfl
theorem c61 (x_0 : Slc) (w : World) (R : Value → World → Prop) (h : B61 x_0 w R) : Calls Tryd.prog 61 #[.slice x_0.a x_0.len x_0.cap] w (Rv R) := calls_of_tr (L := lk [(3, [(3, .int .i64), (4, .int .i64)])]) Tryd.func61 hG hM (by rw [B61_eq] at h; exact h)

/-- locution/locutionref03.Words -/
def B66 (x_0 : Int) (x_1 : Slc) (w : World) (R : Value → World → Prop) : Prop :=
  ∃ (I1 : Slc → Int → World → Prop) (μ2 : Slc → Int → World → Nat), I1 ⟨none, 0, 0⟩ (0 : Int) w ∧ ∀ x3 : Slc, ∀ x4 : Int, ∀ w5 : World, I1 x3 x4 w5 →
    br (decide (x4 < (x_1.len : Int))) (0 ≤ x4 ∧ x4 < (x_1.len : Int) ∧ ∃ a6, x_1.a = some a6 ∧
    ∃ n7 : Int, w5.cell? (Addr.add a6 (x4.toNat * 1)) = some (.int .u64 n7) ∧
    Calls Tryd.prog 117 #[.slice x3.a x3.len x3.cap, .int .u64 n7, .int .i64 x_0] w5 (Rv fun v8 w9 => ∃ l10 : Slc, v8 = .slice l10.a l10.len l10.cap ∧
    I1 l10 (IntKind.i64.wrap (x4 + 1)) w9 ∧ μ2 l10 (IntKind.i64.wrap (x4 + 1)) w9 < μ2 x3 x4 w5)) (Calls Tryd.prog 57 #[.slice x3.a x3.len x3.cap] w5 (Rv fun v11 w12 =>
    ∃ l13 : Slc, v11 = .slice l13.a l13.len l13.cap ∧ R (.slice l13.a l13.len l13.cap) w12))
theorem B66_eq : @B66 = fun (x_0 : Int) (x_1 : Slc) (w : World) (R : Value → World → Prop) => trF Tryd.prog G (lk [(3, [(5, .slc), (6, .int .i64)])]) Tryd.f66 [.int .i64 x_0, .slice x_1.a x_1.len x_1.cap] w R := by kernel_rfl
theorem c66 (x_0 : Int) (x_1 : Slc) (w : World) (R : Value → World → Prop) (h : B66 x_0 x_1 w R) : Calls Tryd.prog 66 #[.int .i64 x_0, .slice x_1.a x_1.len x_1.cap] w (Rv R) := calls_of_tr (L := lk [(3, [(5, .slc), (6, .int .i64)])]) Tryd.func66 hG hM (by rw [B66_eq] at h; exact h)

/-- (*locution/packrow.Pack).Len -/
def B63n  (w : World) (R : Value → World → Prop) : Prop :=
  R (.int .i64 0) w
theorem B63n_eq : @B63n = fun (w : World) (R : Value → World → Prop) => trF Tryd.prog G (lk []) Tryd.f63 [.pointer none] w R := by kernel_rfl
theorem c63n  (w : World) (R : Value → World → Prop) (h : B63n  w R) : Calls Tryd.prog 63 #[.pointer none] w (Rv R) := calls_of_tr (L := lk []) Tryd.func63 hG hM (by rw [B63n_eq] at h; exact h)

/-- (*locution/packrow.Pack).Width -/
def B64n  (w : World) (R : Value → World → Prop) : Prop :=
  R (.int .i64 0) w
theorem B64n_eq : @B64n = fun (w : World) (R : Value → World → Prop) => trF Tryd.prog G (lk []) Tryd.f64 [.pointer none] w R := by kernel_rfl
theorem c64n  (w : World) (R : Value → World → Prop) (h : B64n  w R) : Calls Tryd.prog 64 #[.pointer none] w (Rv R) := calls_of_tr (L := lk []) Tryd.func64 hG hM (by rw [B64n_eq] at h; exact h)

/-- (*locution/packrow.Pack).At -/
def B102n (x_1 : Int) (w : World) (R : Value → World → Prop) : Prop :=
  R (.int .u64 0) w
theorem B102n_eq : @B102n = fun (x_1 : Int) (w : World) (R : Value → World → Prop) => trF Tryd.prog G (lk []) Tryd.f102 [.pointer none, .int .i64 x_1] w R := by kernel_rfl
theorem c102n (x_1 : Int) (w : World) (R : Value → World → Prop) (h : B102n x_1 w R) : Calls Tryd.prog 102 #[.pointer none, .int .i64 x_1] w (Rv R) := calls_of_tr (L := lk []) Tryd.func102 hG hM (by rw [B102n_eq] at h; exact h)

/-- (*locution/packrow.Pack).Words -/
def B65n  (w : World) (R : Value → World → Prop) : Prop :=
  R (.slice none 0 0) w
theorem B65n_eq : @B65n = fun (w : World) (R : Value → World → Prop) => trF Tryd.prog G (lk []) Tryd.f65 [.pointer none] w R := by kernel_rfl
theorem c65n  (w : World) (R : Value → World → Prop) (h : B65n  w R) : Calls Tryd.prog 65 #[.pointer none] w (Rv R) := calls_of_tr (L := lk []) Tryd.func65 hG hM (by rw [B65n_eq] at h; exact h)

/-- (*locution/packrow.Pack).Find -/
def B138n (x_1 : Int) (x_2 : Int) (x_3 : Int) (w : World) (R : Value → World → Prop) : Prop :=
  Calls Tryd.prog 63 #[.pointer none] w (Rv fun v1 w2 => ∃ n3 : Int, v1 = .int .i64 n3 ∧ ∃ (I4 : Int → Int → World → Prop) (μ5 : Int → Int → World →
    Nat), I4 (max x_1 (0 : Int)) (min x_2 n3) w2 ∧ ∀ x6 : Int, ∀ x7 : Int, ∀ w8 : World, I4 x6 x7 w8 → br (decide (x6 < x7)) ((2 : Int) ≠ 0 ∧
    Calls Tryd.prog 102 #[.pointer none, .int .i64 (IntKind.i64.wrap (x6 + (IntKind.i64.wrap (Int.tdiv (IntKind.i64.wrap (x7 - x6)) 2))))] w8 (Rv fun v9 w10 =>
    ∃ n11 : Int, v9 = .int .u64 n11 ∧
    br (decide (n11 < x_3)) (I4 (IntKind.i64.wrap ((IntKind.i64.wrap (x6 + (IntKind.i64.wrap (Int.tdiv (IntKind.i64.wrap (x7 - x6)) 2)))) + 1)) x7 w10 ∧
    μ5 (IntKind.i64.wrap ((IntKind.i64.wrap (x6 + (IntKind.i64.wrap (Int.tdiv (IntKind.i64.wrap (x7 - x6)) 2)))) + 1)) x7 w10 < μ5 x6 x7 w8) (I4 x6 (IntKind.i64.wrap (x6 + (IntKind.i64.wrap (Int.tdiv (IntKind.i64.wrap (x7 - x6)) 2)))) w10 ∧
    μ5 x6 (IntKind.i64.wrap (x6 + (IntKind.i64.wrap (Int.tdiv (IntKind.i64.wrap (x7 - x6)) 2)))) w10 < μ5 x6 x7 w8))) (br (decide ((min x_2 n3) ≤ x6)) (R (.int .i64 (-1)) w8) (R (.int .i64 x6) w8)))
theorem B138n_eq : @B138n = fun (x_1 : Int) (x_2 : Int) (x_3 : Int) (w : World) (R : Value → World → Prop) => trF Tryd.prog G (lk [(3, [(1, .int .i64), (2, .int .i64)])]) Tryd.f138 [.pointer none, .int .i64 x_1, .int .i64 x_2, .int .u64 x_3] w R := by kernel_rfl
theorem c138n (x_1 : Int) (x_2 : Int) (x_3 : Int) (w : World) (R : Value → World → Prop) (h : B138n x_1 x_2 x_3 w R) : Calls Tryd.prog 138 #[.pointer none, .int .i64 x_1, .int .i64 x_2, .int .u64 x_3] w (Rv R) := calls_of_tr (L := lk [(3, [(1, .int .i64), (2, .int .i64)])]) Tryd.func138 hG hM (by rw [B138n_eq] at h; exact h)

end Go.Proofs.YtomajpihimlcjaaDoor.V
