/- The verification conditions of functions, printed by a program of this work (pr.py) and checked here by the kernel. -/
import Derived.Test.YtmpgklgjmkcpdaaVb
import Derived.Test.YtmpgklgjmkcpdaaBH
set_option maxRecDepth 100000
set_option linter.unusedVariables false
namespace Go.Proofs.Ytmpgklgjmkcpdaa.V
open Go Go.VC

/-- locution/rows.New -/
def B30 (x_0 : Slc) (w : World) (R : Value → World → Prop) : Prop :=
  Calls Try.prog 80 #[.slice x_0.a x_0.len x_0.cap] w (Rv fun v1 w2 => ∃ n3 : Int, v1 = .int .i64 n3 ∧
    br (!(decide (n3 = (0 : Int)))) (R (.tuple #[.pointer none, .int .i64 n3]) w2) (∃ w4 : World, ∃ l5 : Slc, (Instr.makeSlice 22 (.int .i64 (x_0.len : Int)) (.int .i64 (x_0.len : Int))).run Try.prog w2 = .ok (.slice l5.a l5.len l5.cap) w4 ∧
    ∃ (I6 : Slc → Int → World → Prop) (μ7 : Slc → Int → World → Nat), I6 ⟨none, 0, 0⟩ (0 : Int) w4 ∧ ∀ x8 : Slc, ∀ x9 : Int, ∀ w10 : World, I6 x8 x9 w10 →
    br (decide (x9 < (x_0.len : Int))) (0 ≤ x9 ∧ x9 < (x_0.len : Int) ∧ ∃ a11, x_0.a = some a11 ∧
    ∃ l12 : Slc, w10.cell? (Addr.add a11 (x9.toNat * 1)) = some (.slice l12.a l12.len l12.cap) ∧ 0 ≤ x9 ∧ x9 < (l5.len : Int) ∧ ∃ a13, l5.a = some a13 ∧
    (∃ u, w10.cell? (Addr.add a13 (x9.toNat * 1)) = some u) ∧ w10.frozen? (Addr.add a13 (x9.toNat * 1)) = false ∧
    br (decide ((0 : Int) < (x8.len : Int))) (0 ≤ (IntKind.i64.wrap ((x8.len : Int) - 1)) ∧ (IntKind.i64.wrap ((x8.len : Int) - 1)) < (x8.len : Int) ∧
    ∃ a14, x8.a = some a14 ∧
    ∃ n15 : Int, (w10.setCell (Addr.add a13 (x9.toNat * 1)) (.int .i64 (l12.len : Int))).cell? (Addr.add a14 ((IntKind.i64.wrap ((x8.len : Int) - 1)).toNat * 1)) = some (.int .i64 n15) ∧
    ∃ (I16 : Slc → Int → World → Prop) (μ17 : Slc → Int → World → Nat), I16 x8 (0 : Int) (w10.setCell (Addr.add a13 (x9.toNat * 1)) (.int .i64 (l12.len : Int))) ∧
    ∀ x18 : Slc, ∀ x19 : Int, ∀ w20 : World, I16 x18 x19 w20 → br (decide (x19 < (l12.len : Int))) (0 ≤ x19 ∧ x19 < (l12.len : Int) ∧ ∃ a21, l12.a = some a21 ∧
    ∃ n22 : Int, w20.cell? (Addr.add a21 (x19.toNat * 1)) = some (.int .i64 n22) ∧
    ∃ w23 : World, ∃ l24 : Slc, (Builtin.append_ #[22, 22] 22 #[.slice x18.a x18.len x18.cap, .slice (some ⟨w20.heap.size, 0, none⟩) 1 1]).run Try.prog (w20.alloc (.cells #[.int .i64 (IntKind.i64.wrap ((IntKind.i64.wrap (n15 + 1)) + n22))] 3)) = .ok (.slice l24.a l24.len l24.cap) w23 ∧
    I16 l24 (IntKind.i64.wrap (x19 + 1)) w23 ∧ μ17 l24 (IntKind.i64.wrap (x19 + 1)) w23 < μ17 x18 x19 w20) (I6 x18 (IntKind.i64.wrap (x9 + 1)) w20 ∧
    μ7 x18 (IntKind.i64.wrap (x9 + 1)) w20 < μ7 x8 x9 w10)) (∃ (I25 : Slc → Int → World → Prop) (μ26 : Slc → Int → World →
    Nat), I25 x8 (0 : Int) (w10.setCell (Addr.add a13 (x9.toNat * 1)) (.int .i64 (l12.len : Int))) ∧ ∀ x27 : Slc, ∀ x28 : Int, ∀ w29 : World, I25 x27 x28 w29 →
    br (decide (x28 < (l12.len : Int))) (0 ≤ x28 ∧ x28 < (l12.len : Int) ∧ ∃ a30, l12.a = some a30 ∧
    ∃ n31 : Int, w29.cell? (Addr.add a30 (x28.toNat * 1)) = some (.int .i64 n31) ∧
    ∃ w32 : World, ∃ l33 : Slc, (Builtin.append_ #[22, 22] 22 #[.slice x27.a x27.len x27.cap, .slice (some ⟨w29.heap.size, 0, none⟩) 1 1]).run Try.prog (w29.alloc (.cells #[.int .i64 (IntKind.i64.wrap (0 + n31))] 3)) = .ok (.slice l33.a l33.len l33.cap) w32 ∧
    I25 l33 (IntKind.i64.wrap (x28 + 1)) w32 ∧ μ26 l33 (IntKind.i64.wrap (x28 + 1)) w32 < μ26 x27 x28 w29) (I6 x27 (IntKind.i64.wrap (x9 + 1)) w29 ∧
    μ7 x27 (IntKind.i64.wrap (x9 + 1)) w29 < μ7 x8 x9 w10))) (Calls Try.prog 46 #[.slice l5.a l5.len l5.cap] (w10.alloc (.cells #[.pointer none, .pointer none] 94)) (Rv fun v34 w35 =>
    ∃ p36 : Option Addr, ∃ n37 : Int, v34 = .tuple #[.pointer p36, .int .i64 n37] ∧ (∃ u, w35.cell? (Addr.add ⟨w10.heap.size, 0, none⟩ 0) = some u) ∧
    w35.frozen? (Addr.add ⟨w10.heap.size, 0, none⟩ 0) = false ∧
    Calls Try.prog 47 #[.slice x8.a x8.len x8.cap] (w35.setCell (Addr.add ⟨w10.heap.size, 0, none⟩ 0) (.pointer p36)) (Rv fun v38 w39 =>
    ∃ p40 : Option Addr, ∃ n41 : Int, v38 = .tuple #[.pointer p40, .int .i64 n41] ∧ (∃ u, w39.cell? (Addr.add ⟨w10.heap.size, 0, none⟩ 1) = some u) ∧
    w39.frozen? (Addr.add ⟨w10.heap.size, 0, none⟩ 1) = false ∧
    R (.tuple #[.pointer (some ⟨w10.heap.size, 0, none⟩), .int .i64 0]) (w39.setCell (Addr.add ⟨w10.heap.size, 0, none⟩ 1) (.pointer p40)))))))
theorem B30_eq : @B30 = fun (x_0 : Slc) (w : World) (R : Value → World → Prop) => trF Try.prog G (lk [(7, [(6, .slc), (23, .int .i64)]), (14, [(6, .slc), (45, .int .i64)])]) Try.f30 [.slice x_0.a x_0.len x_0.cap] w R := by kernel_rfl
theorem c30 (x_0 : Slc) (w : World) (R : Value → World → Prop) (h : B30 x_0 w R) : Calls Try.prog 30 #[.slice x_0.a x_0.len x_0.cap] w (Rv R) := calls_of_tr (L := lk [(7, [(6, .slc), (23, .int .i64)]), (14, [(6, .slc), (45, .int .i64)])]) Try.func30 hG hM (by rw [B30_eq] at h; exact h)

/-- (*locution/rows.Rows).Span -/
def B31 (a_0 : Addr) (x_1 : Int) (w : World) (R : Value → World → Prop) : Prop :=
  br (decide (x_1 < (0 : Int))) (R (.tuple #[.int .i64 0, .int .i64 0]) w) (Calls Try.prog 38 #[.pointer (some a_0)] w (Rv fun v1 w2 => ∃ n3 : Int, v1 = .int .i64 n3 ∧
    br (decide (n3 ≤ x_1)) (R (.tuple #[.int .i64 0, .int .i64 0]) w2) (∃ p4 : Option Addr, w2.cell? (Addr.add a_0 0) = some (.pointer p4) ∧
    Calls Try.prog 81 #[.pointer p4, .int .i64 0, .int .i64 x_1] w2 (Rv fun v5 w6 => ∃ n7 : Int, v5 = .int .i64 n7 ∧
    ∃ p8 : Option Addr, w6.cell? (Addr.add a_0 0) = some (.pointer p8) ∧ Calls Try.prog 82 #[.pointer p8, .int .i64 x_1] w6 (Rv fun v9 w10 =>
    ∃ n11 : Int, v9 = .int .i64 n11 ∧ R (.tuple #[.int .i64 n7, .int .i64 (IntKind.i64.wrap (n7 + n11))]) w10)))))
theorem B31_eq : @B31 = fun (a_0 : Addr) (x_1 : Int) (w : World) (R : Value → World → Prop) => trF Try.prog G (lk []) Try.f31 [.pointer (some a_0), .int .i64 x_1] w R := by kernel_rfl
theorem c31 (a_0 : Addr) (x_1 : Int) (w : World) (R : Value → World → Prop) (h : B31 a_0 x_1 w R) : Calls Try.prog 31 #[.pointer (some a_0), .int .i64 x_1] w (Rv R) := calls_of_tr (L := lk []) Try.func31 hG hM (by rw [B31_eq] at h; exact h)

/-- (*locution/rows.Rows).Where -/
def B32 (a_0 : Addr) (x_1 : Int) (x_2 : Int) (w : World) (R : Value → World → Prop) : Prop :=
  Calls Try.prog 31 #[.pointer (some a_0), .int .i64 x_1] w (Rv fun v1 w2 => ∃ n3 : Int, ∃ n4 : Int, v1 = .tuple #[.int .i64 n3, .int .i64 n4] ∧
    br (decide (n3 = n4)) (R (.int .i64 (-1)) w2) (br (decide (x_2 < (0 : Int))) (R (.int .i64 (-1)) w2) (br (decide ((65536 : Int) ≤ x_2)) (R (.int .i64 (-1)) w2) (∃ p5 : Option Addr, (World.drew w2).cell? (Addr.add a_0 1) = some (.pointer p5) ∧
    Calls Try.prog 84 #[.pointer (some a_0), .int .i64 n3] (World.drew w2) (Rv fun v6 w7 => ∃ n8 : Int, v6 = .int .i64 n8 ∧
    w7.cell? (Addr.add a_0 1) = some (.pointer p5) ∧
    Calls Try.prog 83 #[.pointer p5, .int .i64 n3, .int .i64 n4, .int .i64 (IntKind.i64.wrap (n8 + x_2))] w7 (Rv fun v9 w10 => ∃ n11 : Int, v9 = .int .i64 n11 ∧
    R (.int .i64 n11) w10))))))
theorem B32_eq : @B32 = fun (a_0 : Addr) (x_1 : Int) (x_2 : Int) (w : World) (R : Value → World → Prop) => trF Try.prog G (lk []) Try.f32 [.pointer (some a_0), .int .i64 x_1, .int .i64 x_2] w R := by kernel_rfl
theorem c32 (a_0 : Addr) (x_1 : Int) (x_2 : Int) (w : World) (R : Value → World → Prop) (h : B32 a_0 x_1 x_2 w R) : Calls Try.prog 32 #[.pointer (some a_0), .int .i64 x_1, .int .i64 x_2] w (Rv R) := calls_of_tr (L := lk []) Try.func32 hG hM (by rw [B32_eq] at h; exact h)

/-- (*locution/rows.Rows).At -/
def B36 (a_0 : Addr) (x_1 : Int) (w : World) (R : Value → World → Prop) : Prop :=
  Calls Try.prog 37 #[.pointer (some a_0), .int .i64 x_1] w (Rv fun v1 w2 => ∃ n3 : Int, v1 = .int .i64 n3 ∧
    br (decide (n3 < (0 : Int))) (R (.int .i64 (-1)) w2) (Calls Try.prog 31 #[.pointer (some a_0), .int .i64 n3] w2 (Rv fun v4 w5 =>
    ∃ n6 : Int, ∃ n7 : Int, v4 = .tuple #[.int .i64 n6, .int .i64 n7] ∧ ∃ p8 : Option Addr, w5.cell? (Addr.add a_0 1) = some (.pointer p8) ∧
    Calls Try.prog 51 #[.pointer p8, .int .i64 x_1] w5 (Rv fun v9 w10 => ∃ n11 : Int, v9 = .int .i64 n11 ∧
    Calls Try.prog 84 #[.pointer (some a_0), .int .i64 n6] w10 (Rv fun v12 w13 => ∃ n14 : Int, v12 = .int .i64 n14 ∧
    R (.int .i64 (IntKind.i64.wrap (n11 - n14))) w13)))))
theorem B36_eq : @B36 = fun (a_0 : Addr) (x_1 : Int) (w : World) (R : Value → World → Prop) => trF Try.prog G (lk []) Try.f36 [.pointer (some a_0), .int .i64 x_1] w R := by kernel_rfl
theorem c36 (a_0 : Addr) (x_1 : Int) (w : World) (R : Value → World → Prop) (h : B36 a_0 x_1 w R) : Calls Try.prog 36 #[.pointer (some a_0), .int .i64 x_1] w (Rv R) := calls_of_tr (L := lk []) Try.func36 hG hM (by rw [B36_eq] at h; exact h)

/-- (*locution/rows.Rows).Group -/
def B37 (a_0 : Addr) (x_1 : Int) (w : World) (R : Value → World → Prop) : Prop :=
  br (decide (x_1 < (0 : Int))) (R (.int .i64 (-1)) w) (Calls Try.prog 39 #[.pointer (some a_0)] w (Rv fun v1 w2 => ∃ n3 : Int, v1 = .int .i64 n3 ∧
    br (decide (n3 ≤ x_1)) (R (.int .i64 (-1)) w2) (∃ p4 : Option Addr, w2.cell? (Addr.add a_0 0) = some (.pointer p4) ∧
    Calls Try.prog 85 #[.pointer p4, .int .i64 x_1] w2 (Rv fun v5 w6 => ∃ n7 : Int, v5 = .int .i64 n7 ∧ R (.int .i64 n7) w6))))
theorem B37_eq : @B37 = fun (a_0 : Addr) (x_1 : Int) (w : World) (R : Value → World → Prop) => trF Try.prog G (lk []) Try.f37 [.pointer (some a_0), .int .i64 x_1] w R := by kernel_rfl
theorem c37 (a_0 : Addr) (x_1 : Int) (w : World) (R : Value → World → Prop) (h : B37 a_0 x_1 w R) : Calls Try.prog 37 #[.pointer (some a_0), .int .i64 x_1] w (Rv R) := calls_of_tr (L := lk []) Try.func37 hG hM (by rw [B37_eq] at h; exact h)

/-- (*locution/rows.Rows).Groups -/
def B38 (a_0 : Addr) (w : World) (R : Value → World → Prop) : Prop :=
  ∃ p1 : Option Addr, w.cell? (Addr.add a_0 0) = some (.pointer p1) ∧ Calls Try.prog 52 #[.pointer p1] w (Rv fun v2 w3 => ∃ n4 : Int, v2 = .int .i64 n4 ∧
    R (.int .i64 n4) w3)
theorem B38_eq : @B38 = fun (a_0 : Addr) (w : World) (R : Value → World → Prop) => trF Try.prog G (lk []) Try.f38 [.pointer (some a_0)] w R := by kernel_rfl
theorem c38 (a_0 : Addr) (w : World) (R : Value → World → Prop) (h : B38 a_0 w R) : Calls Try.prog 38 #[.pointer (some a_0)] w (Rv R) := calls_of_tr (L := lk []) Try.func38 hG hM (by rw [B38_eq] at h; exact h)

/-- (*locution/rows.Rows).Len -/
def B39 (a_0 : Addr) (w : World) (R : Value → World → Prop) : Prop :=
  ∃ p1 : Option Addr, w.cell? (Addr.add a_0 1) = some (.pointer p1) ∧ Calls Try.prog 54 #[.pointer p1] w (Rv fun v2 w3 => ∃ n4 : Int, v2 = .int .i64 n4 ∧
    R (.int .i64 n4) w3)
theorem B39_eq : @B39 = fun (a_0 : Addr) (w : World) (R : Value → World → Prop) => trF Try.prog G (lk []) Try.f39 [.pointer (some a_0)] w R := by kernel_rfl
theorem c39 (a_0 : Addr) (w : World) (R : Value → World → Prop) (h : B39 a_0 w R) : Calls Try.prog 39 #[.pointer (some a_0)] w (Rv R) := calls_of_tr (L := lk []) Try.func39 hG hM (by rw [B39_eq] at h; exact h)

/-- (*locution/rows.Rows).Size -/
def B40 (a_0 : Addr) (w : World) (R : Value → World → Prop) : Prop :=
  ∃ p1 : Option Addr, (World.drew w).cell? (Addr.add a_0 0) = some (.pointer p1) ∧ ∃ p2 : Option Addr, (World.drew w).cell? (Addr.add a_0 1) = some (.pointer p2) ∧
    Calls Try.prog 86 #[.pointer p1] (World.drew w) (Rv fun v3 w4 => ∃ n5 : Int, v3 = .int .i64 n5 ∧ w4.cell? (Addr.add a_0 1) = some (.pointer p2) ∧
    Calls Try.prog 76 #[.pointer p2] w4 (Rv fun v6 w7 => ∃ n8 : Int, v6 = .int .i64 n8 ∧ R (.int .i64 (IntKind.i64.wrap (n5 + n8))) w7))
theorem B40_eq : @B40 = fun (a_0 : Addr) (w : World) (R : Value → World → Prop) => trF Try.prog G (lk []) Try.f40 [.pointer (some a_0)] w R := by kernel_rfl
theorem c40 (a_0 : Addr) (w : World) (R : Value → World → Prop) (h : B40 a_0 w R) : Calls Try.prog 40 #[.pointer (some a_0)] w (Rv R) := calls_of_tr (L := lk []) Try.func40 hG hM (by rw [B40_eq] at h; exact h)

/-- locution/rows.Of -/
def B48 (a_0 : Addr) (a_1 : Addr) (w : World) (R : Value → World → Prop) : Prop :=
  Calls Try.prog 53 #[.pointer (some a_0)] w (Rv fun v1 w2 => ∃ n3 : Int, v1 = .int .i64 n3 ∧ Calls Try.prog 54 #[.pointer (some a_1)] w2 (Rv fun v4 w5 =>
    ∃ n6 : Int, v4 = .int .i64 n6 ∧ br (!(decide (n3 = n6))) (R (.tuple #[.pointer none, .int .i64 3]) w5) (Calls Try.prog 52 #[.pointer (some a_0)] w5 (Rv fun v7 w8 =>
    ∃ n9 : Int, v7 = .int .i64 n9 ∧
    br (decide ((1048576 : Int) < n9)) (R (.tuple #[.pointer none, .int .i64 3]) w8) (Calls Try.prog 52 #[.pointer (some a_0)] (w8.alloc (.cells #[.pointer (some a_0), .pointer (some a_1)] 94)) (Rv fun v10 w11 =>
    ∃ n12 : Int, v10 = .int .i64 n12 ∧ ∃ (I13 : Int → World → Prop) (μ14 : Int → World → Nat), I13 (0 : Int) w11 ∧ ∀ x15 : Int, ∀ w16 : World, I13 x15 w16 →
    br (decide (x15 < n12)) (Calls Try.prog 31 #[.pointer (some ⟨w8.heap.size, 0, none⟩), .int .i64 x15] w16 (Rv fun v17 w18 =>
    ∃ n19 : Int, ∃ n20 : Int, v17 = .tuple #[.int .i64 n19, .int .i64 n20] ∧ ∃ (I21 : Int → World → Prop) (μ22 : Int → World → Nat), I21 n19 w18 ∧
    ∀ x23 : Int, ∀ w24 : World, I21 x23 w24 → br (decide (x23 < n20)) (∃ p25 : Option Addr, w24.cell? (Addr.add ⟨w8.heap.size, 0, none⟩ 1) = some (.pointer p25) ∧
    Calls Try.prog 51 #[.pointer p25, .int .i64 x23] w24 (Rv fun v26 w27 => ∃ n28 : Int, v26 = .int .i64 n28 ∧
    Calls Try.prog 84 #[.pointer (some ⟨w8.heap.size, 0, none⟩), .int .i64 n19] w27 (Rv fun v29 w30 => ∃ n31 : Int, v29 = .int .i64 n31 ∧
    br (decide ((IntKind.i64.wrap (n28 - n31)) < (0 : Int))) (R (.tuple #[.pointer none, .int .i64 3]) (World.drew w30)) (br (decide ((65536 : Int) ≤ (IntKind.i64.wrap (n28 - n31)))) (R (.tuple #[.pointer none, .int .i64 3]) (World.drew w30)) (br (decide (n19 < x23)) (∃ p32 : Option Addr, (World.drew w30).cell? (Addr.add ⟨w8.heap.size, 0, none⟩ 1) = some (.pointer p32) ∧
    ∃ p33 : Option Addr, (World.drew w30).cell? (Addr.add ⟨w8.heap.size, 0, none⟩ 1) = some (.pointer p33) ∧
    Calls Try.prog 51 #[.pointer p32, .int .i64 x23] (World.drew w30) (Rv fun v34 w35 => ∃ n36 : Int, v34 = .int .i64 n36 ∧
    w35.cell? (Addr.add ⟨w8.heap.size, 0, none⟩ 1) = some (.pointer p33) ∧
    Calls Try.prog 51 #[.pointer p33, .int .i64 (IntKind.i64.wrap (x23 - 1))] w35 (Rv fun v37 w38 => ∃ n39 : Int, v37 = .int .i64 n39 ∧
    br (decide (n36 = n39)) (R (.tuple #[.pointer none, .int .i64 3]) w38) (I21 (IntKind.i64.wrap (x23 + 1)) w38 ∧
    μ22 (IntKind.i64.wrap (x23 + 1)) w38 < μ22 x23 w24)))) (I21 (IntKind.i64.wrap (x23 + 1)) (World.drew w30) ∧
    μ22 (IntKind.i64.wrap (x23 + 1)) (World.drew w30) < μ22 x23 w24)))))) (I13 (IntKind.i64.wrap (x15 + 1)) w24 ∧
    μ14 (IntKind.i64.wrap (x15 + 1)) w24 < μ14 x15 w16))) (R (.tuple #[.pointer (some ⟨w8.heap.size, 0, none⟩), .int .i64 0]) w16)))))))
theorem B48_eq : @B48 = fun (a_0 : Addr) (a_1 : Addr) (w : World) (R : Value → World → Prop) => trF Try.prog G (lk [(5, [(28, .int .i64)]), (9, [(10, .int .i64)])]) Try.f48 [.pointer (some a_0), .pointer (some a_1)] w R := by kernel_rfl
theorem c48 (a_0 : Addr) (a_1 : Addr) (w : World) (R : Value → World → Prop) (h : B48 a_0 a_1 w R) : Calls Try.prog 48 #[.pointer (some a_0), .pointer (some a_1)] w (Rv R) := calls_of_tr (L := lk [(5, [(28, .int .i64)]), (9, [(10, .int .i64)])]) Try.func48 hG hM (by rw [B48_eq] at h; exact h)

/-- (*locution/rows.Rows).Parts -/
def B50 (a_0 : Addr) (w : World) (R : Value → World → Prop) : Prop :=
  ∃ p1 : Option Addr, (World.drew w).cell? (Addr.add a_0 0) = some (.pointer p1) ∧ ∃ p2 : Option Addr, (World.drew w).cell? (Addr.add a_0 1) = some (.pointer p2) ∧
    R (.tuple #[.pointer p1, .pointer p2]) (World.drew w)
theorem B50_eq : @B50 = fun (a_0 : Addr) (w : World) (R : Value → World → Prop) => trF Try.prog G (lk []) Try.f50 [.pointer (some a_0)] w R := by kernel_rfl
theorem c50 (a_0 : Addr) (w : World) (R : Value → World → Prop) (h : B50 a_0 w R) : Calls Try.prog 50 #[.pointer (some a_0)] w (Rv R) := calls_of_tr (L := lk []) Try.func50 hG hM (by rw [B50_eq] at h; exact h)

/-- (*locution/rows.Rows).All -/
def B55 (a_0 : Addr) (x_1 : Int) (w : World) (R : Value → World → Prop) : Prop :=
  
    R (.func (.func 100) #[] #[.pointer (some ⟨w.heap.size, 0, none⟩), .pointer (some ⟨(w.alloc (.cells #[.pointer (some a_0)] 45)).heap.size, 0, none⟩)]) ((w.alloc (.cells #[.pointer (some a_0)] 45)).alloc (.cells #[.int .i64 x_1] 3))
theorem B55_eq : @B55 = fun (a_0 : Addr) (x_1 : Int) (w : World) (R : Value → World → Prop) => trF Try.prog G (lk []) Try.f55 [.pointer (some a_0), .int .i64 x_1] w R := by kernel_rfl
theorem c55 (a_0 : Addr) (x_1 : Int) (w : World) (R : Value → World → Prop) (h : B55 a_0 x_1 w R) : Calls Try.prog 55 #[.pointer (some a_0), .int .i64 x_1] w (Rv R) := calls_of_tr (L := lk []) Try.func55 hG hM (by rw [B55_eq] at h; exact h)

/-- locution/rows.check -/
def B80 (x_0 : Slc) (w : World) (R : Value → World → Prop) : Prop :=
  br (decide ((1048576 : Int) < (x_0.len : Int))) (R (.int .i64 12) w) (∃ (I1 : Int → World → Prop) (μ2 : Int → World → Nat), I1 (0 : Int) w ∧
    ∀ x3 : Int, ∀ w4 : World, I1 x3 w4 → br (decide (x3 < (x_0.len : Int))) (0 ≤ x3 ∧ x3 < (x_0.len : Int) ∧ ∃ a5, x_0.a = some a5 ∧
    ∃ l6 : Slc, w4.cell? (Addr.add a5 (x3.toNat * 1)) = some (.slice l6.a l6.len l6.cap) ∧ ∃ (I7 : Int → World → Prop) (μ8 : Int → World → Nat), I7 (0 : Int) w4 ∧
    ∀ x9 : Int, ∀ w10 : World, I7 x9 w10 → br (decide (x9 < (l6.len : Int))) (0 ≤ x9 ∧ x9 < (l6.len : Int) ∧ ∃ a11, l6.a = some a11 ∧
    ∃ n12 : Int, w10.cell? (Addr.add a11 (x9.toNat * 1)) = some (.int .i64 n12) ∧
    br (decide (n12 < (0 : Int))) (R (.int .i64 8) w10) (br (decide ((65536 : Int) ≤ n12)) (R (.int .i64 8) w10) (br (decide ((0 : Int) < x9)) (0 ≤ (IntKind.i64.wrap (x9 - 1)) ∧
    (IntKind.i64.wrap (x9 - 1)) < (l6.len : Int) ∧ ∃ a13, l6.a = some a13 ∧
    ∃ n14 : Int, w10.cell? (Addr.add a13 ((IntKind.i64.wrap (x9 - 1)).toNat * 1)) = some (.int .i64 n14) ∧
    br (decide (n12 ≤ n14)) (R (.int .i64 9) w10) (I7 (IntKind.i64.wrap (x9 + 1)) w10 ∧
    μ8 (IntKind.i64.wrap (x9 + 1)) w10 < μ8 x9 w10)) (I7 (IntKind.i64.wrap (x9 + 1)) w10 ∧
    μ8 (IntKind.i64.wrap (x9 + 1)) w10 < μ8 x9 w10)))) (I1 (IntKind.i64.wrap (x3 + 1)) w10 ∧ μ2 (IntKind.i64.wrap (x3 + 1)) w10 < μ2 x3 w4)) (R (.int .i64 0) w4))
theorem B80_eq : @B80 = fun (x_0 : Slc) (w : World) (R : Value → World → Prop) => trF Try.prog G (lk [(4, [(12, .int .i64)]), (7, [(18, .int .i64)])]) Try.f80 [.slice x_0.a x_0.len x_0.cap] w R := by kernel_rfl
theorem c80 (x_0 : Slc) (w : World) (R : Value → World → Prop) (h : B80 x_0 w R) : Calls Try.prog 80 #[.slice x_0.a x_0.len x_0.cap] w (Rv R) := calls_of_tr (L := lk [(4, [(12, .int .i64)]), (7, [(18, .int .i64)])]) Try.func80 hG hM (by rw [B80_eq] at h; exact h)

/-- (*locution/rows.Rows).base -/
def B84 (a_0 : Addr) (x_1 : Int) (w : World) (R : Value → World → Prop) : Prop :=
  ∃ p1 : Option Addr, w.cell? (Addr.add a_0 1) = some (.pointer p1) ∧ Calls Try.prog 51 #[.pointer p1, .int .i64 (IntKind.i64.wrap (x_1 - 1))] w (Rv fun v2 w3 =>
    ∃ n4 : Int, v2 = .int .i64 n4 ∧ R (.int .i64 (IntKind.i64.wrap (n4 + 1))) w3)
theorem B84_eq : @B84 = fun (a_0 : Addr) (x_1 : Int) (w : World) (R : Value → World → Prop) => trF Try.prog G (lk []) Try.f84 [.pointer (some a_0), .int .i64 x_1] w R := by kernel_rfl
theorem c84 (a_0 : Addr) (x_1 : Int) (w : World) (R : Value → World → Prop) (h : B84 a_0 x_1 w R) : Calls Try.prog 84 #[.pointer (some a_0), .int .i64 x_1] w (Rv R) := calls_of_tr (L := lk []) Try.func84 hG hM (by rw [B84_eq] at h; exact h)

/-- (*locution/rows.Rows).All$1 -/
def B100 (x_0 : Value) (a_1 : Addr) (a_2 : Addr) (w : World) (R : Value → World → Prop) : Prop :=
  ∃ p1 : Option Addr, w.cell? a_1 = some (.pointer p1) ∧ ∃ n2 : Int, w.cell? a_2 = some (.int .i64 n2) ∧
    Calls Try.prog 31 #[.pointer p1, .int .i64 n2] w (Rv fun v3 w4 => ∃ n5 : Int, ∃ n6 : Int, v3 = .tuple #[.int .i64 n5, .int .i64 n6] ∧ ∃ (I7 : Int → World →
    Prop) (μ8 : Int → World → Nat), I7 n5 w4 ∧ ∀ x9 : Int, ∀ w10 : World, I7 x9 w10 →
    br (decide (x9 < n6)) (∃ p11 : Option Addr, (World.drew w10).cell? a_1 = some (.pointer p11) ∧ wa p11 fun a12 =>
    ∃ p13 : Option Addr, (World.drew w10).cell? (Addr.add a12 1) = some (.pointer p13) ∧ ∃ p14 : Option Addr, (World.drew w10).cell? a_1 = some (.pointer p14) ∧
    Calls Try.prog 51 #[.pointer p13, .int .i64 x9] (World.drew w10) (Rv fun v15 w16 => ∃ n17 : Int, v15 = .int .i64 n17 ∧ w16.cell? a_1 = some (.pointer p14) ∧
    Calls Try.prog 84 #[.pointer p14, .int .i64 n5] w16 (Rv fun v18 w19 => ∃ n20 : Int, v18 = .int .i64 n20 ∧
    CallFV Try.prog G x_0 [.int .i64 x9, .int .i64 (IntKind.i64.wrap (n17 - n20))] w19 fun v21 w22 => ∃ b23 : Bool, v21 = .bool b23 ∧
    br (!b23) (R (.tuple #[]) w22) (I7 (IntKind.i64.wrap (x9 + 1)) w22 ∧ μ8 (IntKind.i64.wrap (x9 + 1)) w22 < μ8 x9 w10)))) (R (.tuple #[]) w10))
theorem B100_eq : @B100 = fun (x_0 : Value) (a_1 : Addr) (a_2 : Addr) (w : World) (R : Value → World → Prop) => trF Try.prog G (lk [(2, [(6, .int .i64)])]) Try.f100 [x_0, .pointer (some a_1), .pointer (some a_2)] w R := by kernel_rfl
theorem c100 (x_0 : Value) (a_1 : Addr) (a_2 : Addr) (w : World) (R : Value → World → Prop) (h : B100 x_0 a_1 a_2 w R) : Calls Try.prog 100 #[x_0, .pointer (some a_1), .pointer (some a_2)] w (Rv R) := calls_of_tr (L := lk [(2, [(6, .int .i64)])]) Try.func100 hG hM (by rw [B100_eq] at h; exact h)

/-- locution/locutionref33.Wrong -/
def B28 (x_0 : Slc) (w : World) (R : Value → World → Prop) : Prop :=
  ∃ (I1 : Int → World → Prop) (μ2 : Int → World → Nat), I1 (0 : Int) w ∧ ∀ x3 : Int, ∀ w4 : World, I1 x3 w4 → br (decide (x3 < (x_0.len : Int))) (∃ (I5 : Int →
    World → Prop) (μ6 : Int → World → Nat), I5 (0 : Int) w4 ∧ ∀ x7 : Int, ∀ w8 : World, I5 x7 w8 → 0 ≤ x3 ∧ x3 < (x_0.len : Int) ∧ ∃ a9, x_0.a = some a9 ∧
    ∃ l10 : Slc, w8.cell? (Addr.add a9 (x3.toNat * 1)) = some (.slice l10.a l10.len l10.cap) ∧ br (decide (x7 < (l10.len : Int))) (0 ≤ x3 ∧ x3 < (x_0.len : Int) ∧
    ∃ a11, x_0.a = some a11 ∧ ∃ l12 : Slc, w8.cell? (Addr.add a11 (x3.toNat * 1)) = some (.slice l12.a l12.len l12.cap) ∧ 0 ≤ x7 ∧ x7 < (l12.len : Int) ∧
    ∃ a13, l12.a = some a13 ∧ ∃ n14 : Int, w8.cell? (Addr.add a13 (x7.toNat * 1)) = some (.int .i64 n14) ∧
    br (decide (n14 < (0 : Int))) (R (.int .i64 8) w8) (br (decide ((65535 : Int) < n14)) (R (.int .i64 8) w8) (br (decide ((0 : Int) < x7)) (0 ≤ x3 ∧
    x3 < (x_0.len : Int) ∧ ∃ a15, x_0.a = some a15 ∧ ∃ l16 : Slc, w8.cell? (Addr.add a15 (x3.toNat * 1)) = some (.slice l16.a l16.len l16.cap) ∧
    0 ≤ (IntKind.i64.wrap (x7 - 1)) ∧ (IntKind.i64.wrap (x7 - 1)) < (l16.len : Int) ∧ ∃ a17, l16.a = some a17 ∧
    ∃ n18 : Int, w8.cell? (Addr.add a17 ((IntKind.i64.wrap (x7 - 1)).toNat * 1)) = some (.int .i64 n18) ∧
    br (decide (n14 ≤ n18)) (R (.int .i64 9) w8) (I5 (IntKind.i64.wrap (x7 + 1)) w8 ∧
    μ6 (IntKind.i64.wrap (x7 + 1)) w8 < μ6 x7 w8)) (I5 (IntKind.i64.wrap (x7 + 1)) w8 ∧
    μ6 (IntKind.i64.wrap (x7 + 1)) w8 < μ6 x7 w8)))) (I1 (IntKind.i64.wrap (x3 + 1)) w8 ∧ μ2 (IntKind.i64.wrap (x3 + 1)) w8 < μ2 x3 w4)) (R (.int .i64 0) w4)
theorem B28_eq : @B28 = fun (x_0 : Slc) (w : World) (R : Value → World → Prop) => trF Try.prog G (lk [(2, [(3, .int .i64)]), (5, [(4, .int .i64)])]) Try.f28 [.slice x_0.a x_0.len x_0.cap] w R := by kernel_rfl
theorem c28 (x_0 : Slc) (w : World) (R : Value → World → Prop) (h : B28 x_0 w R) : Calls Try.prog 28 #[.slice x_0.a x_0.len x_0.cap] w (Rv R) := calls_of_tr (L := lk [(2, [(3, .int .i64)]), (5, [(4, .int .i64)])]) Try.func28 hG hM (by rw [B28_eq] at h; exact h)

/-- locution/locutionref33.Where -/
def B33 (x_0 : Slc) (x_1 : Int) (x_2 : Int) (w : World) (R : Value → World → Prop) : Prop :=
  br (decide (x_1 < (0 : Int))) (R (.int .i64 (-1)) w) (br (decide ((x_0.len : Int) ≤ x_1)) (R (.int .i64 (-1)) w) (∃ (I1 : Int → World → Prop) (μ2 : Int → World →
    Nat), I1 (0 : Int) w ∧ ∀ x3 : Int, ∀ w4 : World, I1 x3 w4 → 0 ≤ x_1 ∧ x_1 < (x_0.len : Int) ∧ ∃ a5, x_0.a = some a5 ∧
    ∃ l6 : Slc, w4.cell? (Addr.add a5 (x_1.toNat * 1)) = some (.slice l6.a l6.len l6.cap) ∧ br (decide (x3 < (l6.len : Int))) (0 ≤ x_1 ∧ x_1 < (x_0.len : Int) ∧
    ∃ a7, x_0.a = some a7 ∧ ∃ l8 : Slc, w4.cell? (Addr.add a7 (x_1.toNat * 1)) = some (.slice l8.a l8.len l8.cap) ∧ 0 ≤ x3 ∧ x3 < (l8.len : Int) ∧
    ∃ a9, l8.a = some a9 ∧ ∃ n10 : Int, w4.cell? (Addr.add a9 (x3.toNat * 1)) = some (.int .i64 n10) ∧
    br (decide (n10 = x_2)) (Calls Try.prog 34 #[.slice x_0.a x_0.len x_0.cap, .int .i64 x_1] w4 (Rv fun v11 w12 => ∃ n13 : Int, v11 = .int .i64 n13 ∧
    R (.int .i64 (IntKind.i64.wrap (n13 + x3))) w12)) (I1 (IntKind.i64.wrap (x3 + 1)) w4 ∧ μ2 (IntKind.i64.wrap (x3 + 1)) w4 < μ2 x3 w4)) (R (.int .i64 (-1)) w4)))
theorem B33_eq : @B33 = fun (x_0 : Slc) (x_1 : Int) (x_2 : Int) (w : World) (R : Value → World → Prop) => trF Try.prog G (lk [(4, [(7, .int .i64)])]) Try.f33 [.slice x_0.a x_0.len x_0.cap, .int .i64 x_1, .int .i64 x_2] w R := by kernel_rfl
theorem c33 (x_0 : Slc) (x_1 : Int) (x_2 : Int) (w : World) (R : Value → World → Prop) (h : B33 x_0 x_1 x_2 w R) : Calls Try.prog 33 #[.slice x_0.a x_0.len x_0.cap, .int .i64 x_1, .int .i64 x_2] w (Rv R) := calls_of_tr (L := lk [(4, [(7, .int .i64)])]) Try.func33 hG hM (by rw [B33_eq] at h; exact h)

/-- locution/locutionref33.First -/
def B34 (x_0 : Slc) (x_1 : Int) (w : World) (R : Value → World → Prop) : Prop :=
  ∃ (I1 : Int → Int → World → Prop) (μ2 : Int → Int → World → Nat), I1 (0 : Int) (0 : Int) w ∧ ∀ x3 : Int, ∀ x4 : Int, ∀ w5 : World, I1 x3 x4 w5 →
    br (decide (x4 < x_1)) (0 ≤ x4 ∧ x4 < (x_0.len : Int) ∧ ∃ a6, x_0.a = some a6 ∧
    ∃ l7 : Slc, w5.cell? (Addr.add a6 (x4.toNat * 1)) = some (.slice l7.a l7.len l7.cap) ∧
    I1 (IntKind.i64.wrap (x3 + (l7.len : Int))) (IntKind.i64.wrap (x4 + 1)) w5 ∧
    μ2 (IntKind.i64.wrap (x3 + (l7.len : Int))) (IntKind.i64.wrap (x4 + 1)) w5 < μ2 x3 x4 w5) (R (.int .i64 x3) w5)
theorem B34_eq : @B34 = fun (x_0 : Slc) (x_1 : Int) (w : World) (R : Value → World → Prop) => trF Try.prog G (lk [(3, [(5, .int .i64), (6, .int .i64)])]) Try.f34 [.slice x_0.a x_0.len x_0.cap, .int .i64 x_1] w R := by kernel_rfl
theorem c34 (x_0 : Slc) (x_1 : Int) (w : World) (R : Value → World → Prop) (h : B34 x_0 x_1 w R) : Calls Try.prog 34 #[.slice x_0.a x_0.len x_0.cap, .int .i64 x_1] w (Rv R) := calls_of_tr (L := lk [(3, [(5, .int .i64), (6, .int .i64)])]) Try.func34 hG hM (by rw [B34_eq] at h; exact h)

/-- locution/locutionref33.Place -/
def B35 (x_0 : Slc) (x_1 : Int) (w : World) (R : Value → World → Prop) : Prop :=
  br (decide (x_1 < (0 : Int))) (R (.tuple #[.int .i64 (-1), .int .i64 (-1)]) w) (∃ (I1 : Int → Int → World → Prop) (μ2 : Int → Int → World →
    Nat), I1 x_1 (0 : Int) w ∧ ∀ x3 : Int, ∀ x4 : Int, ∀ w5 : World, I1 x3 x4 w5 → br (decide (x4 < (x_0.len : Int))) (0 ≤ x4 ∧ x4 < (x_0.len : Int) ∧
    ∃ a6, x_0.a = some a6 ∧ ∃ l7 : Slc, w5.cell? (Addr.add a6 (x4.toNat * 1)) = some (.slice l7.a l7.len l7.cap) ∧ br (decide (x3 < (l7.len : Int))) (0 ≤ x4 ∧
    x4 < (x_0.len : Int) ∧ ∃ a8, x_0.a = some a8 ∧ ∃ l9 : Slc, (World.drew w5).cell? (Addr.add a8 (x4.toNat * 1)) = some (.slice l9.a l9.len l9.cap) ∧ 0 ≤ x3 ∧
    x3 < (l9.len : Int) ∧ ∃ a10, l9.a = some a10 ∧ ∃ n11 : Int, (World.drew w5).cell? (Addr.add a10 (x3.toNat * 1)) = some (.int .i64 n11) ∧
    R (.tuple #[.int .i64 x4, .int .i64 n11]) (World.drew w5)) (0 ≤ x4 ∧ x4 < (x_0.len : Int) ∧ ∃ a12, x_0.a = some a12 ∧
    ∃ l13 : Slc, w5.cell? (Addr.add a12 (x4.toNat * 1)) = some (.slice l13.a l13.len l13.cap) ∧
    I1 (IntKind.i64.wrap (x3 - (l13.len : Int))) (IntKind.i64.wrap (x4 + 1)) w5 ∧
    μ2 (IntKind.i64.wrap (x3 - (l13.len : Int))) (IntKind.i64.wrap (x4 + 1)) w5 < μ2 x3 x4 w5)) (R (.tuple #[.int .i64 (-1), .int .i64 (-1)]) w5))
theorem B35_eq : @B35 = fun (x_0 : Slc) (x_1 : Int) (w : World) (R : Value → World → Prop) => trF Try.prog G (lk [(4, [(1, .int .i64), (6, .int .i64)])]) Try.f35 [.slice x_0.a x_0.len x_0.cap, .int .i64 x_1] w R := by kernel_rfl
theorem c35 (x_0 : Slc) (x_1 : Int) (w : World) (R : Value → World → Prop) (h : B35 x_0 x_1 w R) : Calls Try.prog 35 #[.slice x_0.a x_0.len x_0.cap, .int .i64 x_1] w (Rv R) := calls_of_tr (L := lk [(4, [(1, .int .i64), (6, .int .i64)])]) Try.func35 hG hM (by rw [B35_eq] at h; exact h)

/-- locution/locutionref33.Chain -/
def B42 (x_0 : Slc) (w : World) (R : Value → World → Prop) : Prop :=
  ∃ (I1 : Slc → Int → World → Prop) (μ2 : Slc → Int → World → Nat), I1 ⟨none, 0, 0⟩ (0 : Int) w ∧ ∀ x3 : Slc, ∀ x4 : Int, ∀ w5 : World, I1 x3 x4 w5 →
    br (decide (x4 < (x_0.len : Int))) (br (decide ((0 : Int) < (x3.len : Int))) (0 ≤ (IntKind.i64.wrap ((x3.len : Int) - 1)) ∧
    (IntKind.i64.wrap ((x3.len : Int) - 1)) < (x3.len : Int) ∧ ∃ a6, x3.a = some a6 ∧
    ∃ n7 : Int, w5.cell? (Addr.add a6 ((IntKind.i64.wrap ((x3.len : Int) - 1)).toNat * 1)) = some (.int .i64 n7) ∧ ∃ (I8 : Slc → Int → World → Prop) (μ9 : Slc →
    Int → World → Nat), I8 x3 (0 : Int) w5 ∧ ∀ x10 : Slc, ∀ x11 : Int, ∀ w12 : World, I8 x10 x11 w12 → 0 ≤ x4 ∧ x4 < (x_0.len : Int) ∧ ∃ a13, x_0.a = some a13 ∧
    ∃ l14 : Slc, w12.cell? (Addr.add a13 (x4.toNat * 1)) = some (.slice l14.a l14.len l14.cap) ∧ br (decide (x11 < (l14.len : Int))) (0 ≤ x4 ∧ x4 < (x_0.len : Int) ∧
    ∃ a15, x_0.a = some a15 ∧ ∃ l16 : Slc, w12.cell? (Addr.add a15 (x4.toNat * 1)) = some (.slice l16.a l16.len l16.cap) ∧ 0 ≤ x11 ∧ x11 < (l16.len : Int) ∧
    ∃ a17, l16.a = some a17 ∧ ∃ n18 : Int, w12.cell? (Addr.add a17 (x11.toNat * 1)) = some (.int .i64 n18) ∧
    ∃ w19 : World, ∃ l20 : Slc, (Builtin.append_ #[22, 22] 22 #[.slice x10.a x10.len x10.cap, .slice (some ⟨w12.heap.size, 0, none⟩) 1 1]).run Try.prog (w12.alloc (.cells #[.int .i64 (IntKind.i64.wrap ((IntKind.i64.wrap (n7 + 1)) + n18))] 3)) = .ok (.slice l20.a l20.len l20.cap) w19 ∧
    I8 l20 (IntKind.i64.wrap (x11 + 1)) w19 ∧ μ9 l20 (IntKind.i64.wrap (x11 + 1)) w19 < μ9 x10 x11 w12) (I1 x10 (IntKind.i64.wrap (x4 + 1)) w12 ∧
    μ2 x10 (IntKind.i64.wrap (x4 + 1)) w12 < μ2 x3 x4 w5)) (∃ (I21 : Slc → Int → World → Prop) (μ22 : Slc → Int → World → Nat), I21 x3 (0 : Int) w5 ∧
    ∀ x23 : Slc, ∀ x24 : Int, ∀ w25 : World, I21 x23 x24 w25 → 0 ≤ x4 ∧ x4 < (x_0.len : Int) ∧ ∃ a26, x_0.a = some a26 ∧
    ∃ l27 : Slc, w25.cell? (Addr.add a26 (x4.toNat * 1)) = some (.slice l27.a l27.len l27.cap) ∧ br (decide (x24 < (l27.len : Int))) (0 ≤ x4 ∧ x4 < (x_0.len : Int) ∧
    ∃ a28, x_0.a = some a28 ∧ ∃ l29 : Slc, w25.cell? (Addr.add a28 (x4.toNat * 1)) = some (.slice l29.a l29.len l29.cap) ∧ 0 ≤ x24 ∧ x24 < (l29.len : Int) ∧
    ∃ a30, l29.a = some a30 ∧ ∃ n31 : Int, w25.cell? (Addr.add a30 (x24.toNat * 1)) = some (.int .i64 n31) ∧
    ∃ w32 : World, ∃ l33 : Slc, (Builtin.append_ #[22, 22] 22 #[.slice x23.a x23.len x23.cap, .slice (some ⟨w25.heap.size, 0, none⟩) 1 1]).run Try.prog (w25.alloc (.cells #[.int .i64 (IntKind.i64.wrap (0 + n31))] 3)) = .ok (.slice l33.a l33.len l33.cap) w32 ∧
    I21 l33 (IntKind.i64.wrap (x24 + 1)) w32 ∧ μ22 l33 (IntKind.i64.wrap (x24 + 1)) w32 < μ22 x23 x24 w25) (I1 x23 (IntKind.i64.wrap (x4 + 1)) w25 ∧
    μ2 x23 (IntKind.i64.wrap (x4 + 1)) w25 < μ2 x3 x4 w5))) (R (.slice x3.a x3.len x3.cap) w5)
theorem B42_eq : @B42 = fun (x_0 : Slc) (w : World) (R : Value → World → Prop) => trF Try.prog G (lk [(3, [(3, .slc), (4, .int .i64)]), (9, [(3, .slc), (6, .int .i64)])]) Try.f42 [.slice x_0.a x_0.len x_0.cap] w R := by kernel_rfl
theorem c42 (x_0 : Slc) (w : World) (R : Value → World → Prop) (h : B42 x_0 w R) : Calls Try.prog 42 #[.slice x_0.a x_0.len x_0.cap] w (Rv R) := calls_of_tr (L := lk [(3, [(3, .slc), (4, .int .i64)]), (9, [(3, .slc), (6, .int .i64)])]) Try.func42 hG hM (by rw [B42_eq] at h; exact h)

/-- locution/locutionref33.Counts -/
def B44 (x_0 : Slc) (w : World) (R : Value → World → Prop) : Prop :=
  ∃ (I1 : Slc → Int → World → Prop) (μ2 : Slc → Int → World → Nat), I1 ⟨none, 0, 0⟩ (0 : Int) w ∧ ∀ x3 : Slc, ∀ x4 : Int, ∀ w5 : World, I1 x3 x4 w5 →
    br (decide (x4 < (x_0.len : Int))) (0 ≤ x4 ∧ x4 < (x_0.len : Int) ∧ ∃ a6, x_0.a = some a6 ∧
    ∃ l7 : Slc, w5.cell? (Addr.add a6 (x4.toNat * 1)) = some (.slice l7.a l7.len l7.cap) ∧
    ∃ w8 : World, ∃ l9 : Slc, (Builtin.append_ #[22, 22] 22 #[.slice x3.a x3.len x3.cap, .slice (some ⟨w5.heap.size, 0, none⟩) 1 1]).run Try.prog (w5.alloc (.cells #[.int .i64 (l7.len : Int)] 3)) = .ok (.slice l9.a l9.len l9.cap) w8 ∧
    I1 l9 (IntKind.i64.wrap (x4 + 1)) w8 ∧ μ2 l9 (IntKind.i64.wrap (x4 + 1)) w8 < μ2 x3 x4 w5) (R (.slice x3.a x3.len x3.cap) w5)
theorem B44_eq : @B44 = fun (x_0 : Slc) (w : World) (R : Value → World → Prop) => trF Try.prog G (lk [(3, [(3, .slc), (4, .int .i64)])]) Try.f44 [.slice x_0.a x_0.len x_0.cap] w R := by kernel_rfl
theorem c44 (x_0 : Slc) (w : World) (R : Value → World → Prop) (h : B44 x_0 w R) : Calls Try.prog 44 #[.slice x_0.a x_0.len x_0.cap] w (Rv R) := calls_of_tr (L := lk [(3, [(3, .slc), (4, .int .i64)])]) Try.func44 hG hM (by rw [B44_eq] at h; exact h)

/-- locution/locutionref33.Of -/
def B49 (x_0 : Slc) (x_1 : Slc) (w : World) (R : Value → World → Prop) : Prop :=
  ∃ (I1 : Slc → Int → Int → World → Prop) (μ2 : Slc → Int → Int → World → Nat), I1 ⟨none, 0, 0⟩ (0 : Int) (0 : Int) w ∧
    ∀ x3 : Slc, ∀ x4 : Int, ∀ x5 : Int, ∀ w6 : World, I1 x3 x4 x5 w6 →
    br (decide (x5 < (x_0.len : Int))) (br (decide ((0 : Int) < x4)) (br (decide (x4 ≤ (x_1.len : Int))) (0 ≤ (IntKind.i64.wrap (x4 - 1)) ∧
    (IntKind.i64.wrap (x4 - 1)) < (x_1.len : Int) ∧ ∃ a7, x_1.a = some a7 ∧
    ∃ n8 : Int, w6.cell? (Addr.add a7 ((IntKind.i64.wrap (x4 - 1)).toNat * 1)) = some (.int .i64 n8) ∧ ∃ (I9 : Int → Slc → Int → World → Prop) (μ10 : Int → Slc →
    Int → World → Nat), I9 x4 ⟨none, 0, 0⟩ (0 : Int) w6 ∧ ∀ x11 : Int, ∀ x12 : Slc, ∀ x13 : Int, ∀ w14 : World, I9 x11 x12 x13 w14 → 0 ≤ x5 ∧ x5 < (x_0.len : Int) ∧
    ∃ a15, x_0.a = some a15 ∧ ∃ n16 : Int, w14.cell? (Addr.add a15 (x5.toNat * 1)) = some (.int .i64 n16) ∧
    br (decide (x13 < n16)) (br (decide ((x_1.len : Int) ≤ x11)) (R (.tuple #[.slice none 0 0, .bool false]) w14) (0 ≤ x11 ∧ x11 < (x_1.len : Int) ∧
    ∃ a17, x_1.a = some a17 ∧ ∃ n18 : Int, w14.cell? (Addr.add a17 (x11.toNat * 1)) = some (.int .i64 n18) ∧
    ∃ w19 : World, ∃ l20 : Slc, (Builtin.append_ #[22, 22] 22 #[.slice x12.a x12.len x12.cap, .slice (some ⟨w14.heap.size, 0, none⟩) 1 1]).run Try.prog (w14.alloc (.cells #[.int .i64 (IntKind.i64.wrap (n18 - (IntKind.i64.wrap (n8 + 1))))] 3)) = .ok (.slice l20.a l20.len l20.cap) w19 ∧
    I9 (IntKind.i64.wrap (x11 + 1)) l20 (IntKind.i64.wrap (x13 + 1)) w19 ∧
    μ10 (IntKind.i64.wrap (x11 + 1)) l20 (IntKind.i64.wrap (x13 + 1)) w19 < μ10 x11 x12 x13 w14)) (∃ w21 : World, ∃ l22 : Slc, (Builtin.append_ #[42, 42] 42 #[.slice x3.a x3.len x3.cap, .slice (some ⟨w14.heap.size, 0, none⟩) 1 1]).run Try.prog (w14.alloc (.cells #[.slice x12.a x12.len x12.cap] 22)) = .ok (.slice l22.a l22.len l22.cap) w21 ∧
    I1 l22 x11 (IntKind.i64.wrap (x5 + 1)) w21 ∧ μ2 l22 x11 (IntKind.i64.wrap (x5 + 1)) w21 < μ2 x3 x4 x5 w6)) (∃ (I23 : Int → Slc → Int → World → Prop) (μ24 : Int →
    Slc → Int → World → Nat), I23 x4 ⟨none, 0, 0⟩ (0 : Int) w6 ∧ ∀ x25 : Int, ∀ x26 : Slc, ∀ x27 : Int, ∀ w28 : World, I23 x25 x26 x27 w28 → 0 ≤ x5 ∧
    x5 < (x_0.len : Int) ∧ ∃ a29, x_0.a = some a29 ∧ ∃ n30 : Int, w28.cell? (Addr.add a29 (x5.toNat * 1)) = some (.int .i64 n30) ∧
    br (decide (x27 < n30)) (br (decide ((x_1.len : Int) ≤ x25)) (R (.tuple #[.slice none 0 0, .bool false]) w28) (0 ≤ x25 ∧ x25 < (x_1.len : Int) ∧
    ∃ a31, x_1.a = some a31 ∧ ∃ n32 : Int, w28.cell? (Addr.add a31 (x25.toNat * 1)) = some (.int .i64 n32) ∧
    ∃ w33 : World, ∃ l34 : Slc, (Builtin.append_ #[22, 22] 22 #[.slice x26.a x26.len x26.cap, .slice (some ⟨w28.heap.size, 0, none⟩) 1 1]).run Try.prog (w28.alloc (.cells #[.int .i64 (IntKind.i64.wrap (n32 - 0))] 3)) = .ok (.slice l34.a l34.len l34.cap) w33 ∧
    I23 (IntKind.i64.wrap (x25 + 1)) l34 (IntKind.i64.wrap (x27 + 1)) w33 ∧
    μ24 (IntKind.i64.wrap (x25 + 1)) l34 (IntKind.i64.wrap (x27 + 1)) w33 < μ24 x25 x26 x27 w28)) (∃ w35 : World, ∃ l36 : Slc, (Builtin.append_ #[42, 42] 42 #[.slice x3.a x3.len x3.cap, .slice (some ⟨w28.heap.size, 0, none⟩) 1 1]).run Try.prog (w28.alloc (.cells #[.slice x26.a x26.len x26.cap] 22)) = .ok (.slice l36.a l36.len l36.cap) w35 ∧
    I1 l36 x25 (IntKind.i64.wrap (x5 + 1)) w35 ∧ μ2 l36 x25 (IntKind.i64.wrap (x5 + 1)) w35 < μ2 x3 x4 x5 w6))) (∃ (I37 : Int → Slc → Int → World →
    Prop) (μ38 : Int → Slc → Int → World → Nat), I37 x4 ⟨none, 0, 0⟩ (0 : Int) w6 ∧ ∀ x39 : Int, ∀ x40 : Slc, ∀ x41 : Int, ∀ w42 : World, I37 x39 x40 x41 w42 →
    0 ≤ x5 ∧ x5 < (x_0.len : Int) ∧ ∃ a43, x_0.a = some a43 ∧ ∃ n44 : Int, w42.cell? (Addr.add a43 (x5.toNat * 1)) = some (.int .i64 n44) ∧
    br (decide (x41 < n44)) (br (decide ((x_1.len : Int) ≤ x39)) (R (.tuple #[.slice none 0 0, .bool false]) w42) (0 ≤ x39 ∧ x39 < (x_1.len : Int) ∧
    ∃ a45, x_1.a = some a45 ∧ ∃ n46 : Int, w42.cell? (Addr.add a45 (x39.toNat * 1)) = some (.int .i64 n46) ∧
    ∃ w47 : World, ∃ l48 : Slc, (Builtin.append_ #[22, 22] 22 #[.slice x40.a x40.len x40.cap, .slice (some ⟨w42.heap.size, 0, none⟩) 1 1]).run Try.prog (w42.alloc (.cells #[.int .i64 (IntKind.i64.wrap (n46 - 0))] 3)) = .ok (.slice l48.a l48.len l48.cap) w47 ∧
    I37 (IntKind.i64.wrap (x39 + 1)) l48 (IntKind.i64.wrap (x41 + 1)) w47 ∧
    μ38 (IntKind.i64.wrap (x39 + 1)) l48 (IntKind.i64.wrap (x41 + 1)) w47 < μ38 x39 x40 x41 w42)) (∃ w49 : World, ∃ l50 : Slc, (Builtin.append_ #[42, 42] 42 #[.slice x3.a x3.len x3.cap, .slice (some ⟨w42.heap.size, 0, none⟩) 1 1]).run Try.prog (w42.alloc (.cells #[.slice x40.a x40.len x40.cap] 22)) = .ok (.slice l50.a l50.len l50.cap) w49 ∧
    I1 l50 x39 (IntKind.i64.wrap (x5 + 1)) w49 ∧
    μ2 l50 x39 (IntKind.i64.wrap (x5 + 1)) w49 < μ2 x3 x4 x5 w6))) (br (decide (x4 = (x_1.len : Int))) (Calls Try.prog 28 #[.slice x3.a x3.len x3.cap] w6 (Rv fun v51 w52 =>
    ∃ n53 : Int, v51 = .int .i64 n53 ∧
    R (.tuple #[.slice x3.a x3.len x3.cap, .bool (decide (n53 = (0 : Int)))]) w52)) (R (.tuple #[.slice x3.a x3.len x3.cap, .bool false]) w6))
theorem B49_eq : @B49 = fun (x_0 : Slc) (x_1 : Slc) (w : World) (R : Value → World → Prop) => trF Try.prog G (lk [(4, [(6, .slc), (7, .int .i64), (8, .int .i64)]), (11, [(7, .int .i64), (9, .slc), (11, .int .i64)])]) Try.f49 [.slice x_0.a x_0.len x_0.cap, .slice x_1.a x_1.len x_1.cap] w R := by kernel_rfl
theorem c49 (x_0 : Slc) (x_1 : Slc) (w : World) (R : Value → World → Prop) (h : B49 x_0 x_1 w R) : Calls Try.prog 49 #[.slice x_0.a x_0.len x_0.cap, .slice x_1.a x_1.len x_1.cap] w (Rv R) := calls_of_tr (L := lk [(4, [(6, .slc), (7, .int .i64), (8, .int .i64)]), (11, [(7, .int .i64), (9, .slc), (11, .int .i64)])]) Try.func49 hG hM (by rw [B49_eq] at h; exact h)

/-- locution/locutionlaw33.RowsFind -/
def B7 (x_0 : Slc) (x_1 : Int) (x_2 : Int) (w : World) (R : Value → World → Prop) : Prop :=
  Calls Try.prog 27 #[.slice x_0.a x_0.len x_0.cap] w (Rv fun v1 w2 => ∃ b3 : Bool, v1 = .bool b3 ∧ br (!b3) (Calls Try.prog 29 #[] w2 (Rv fun v4 w5 =>
    ∃ b6 : Bool, v4 = .bool b6 ∧ R (.bool b6) w5)) (Calls Try.prog 28 #[.slice x_0.a x_0.len x_0.cap] w2 (Rv fun v7 w8 => ∃ n9 : Int, v7 = .int .i64 n9 ∧
    br (!(decide (n9 = (0 : Int)))) (Calls Try.prog 29 #[] w8 (Rv fun v10 w11 => ∃ b12 : Bool, v10 = .bool b12 ∧
    R (.bool b12) w11)) (Calls Try.prog 30 #[.slice x_0.a x_0.len x_0.cap] w8 (Rv fun v13 w14 =>
    ∃ p15 : Option Addr, ∃ n16 : Int, v13 = .tuple #[.pointer p15, .int .i64 n16] ∧ Calls Try.prog 31 #[.pointer p15, .int .i64 x_1] w14 (Rv fun v17 w18 =>
    ∃ n19 : Int, ∃ n20 : Int, v17 = .tuple #[.int .i64 n19, .int .i64 n20] ∧ Calls Try.prog 32 #[.pointer p15, .int .i64 x_1, .int .i64 x_2] w18 (Rv fun v21 w22 =>
    ∃ n23 : Int, v21 = .int .i64 n23 ∧ Calls Try.prog 33 #[.slice x_0.a x_0.len x_0.cap, .int .i64 x_1, .int .i64 x_2] w22 (Rv fun v24 w25 =>
    ∃ n26 : Int, v24 = .int .i64 n26 ∧
    br (!(decide (n23 = n26))) (R (.bool false) w25) (br (decide (x_1 < (0 : Int))) (br (decide (n19 = (0 : Int))) (br (decide (n20 = (0 : Int))) (Calls Try.prog 29 #[] w25 (Rv fun v27 w28 =>
    ∃ b29 : Bool, v27 = .bool b29 ∧
    R (.bool b29) w28)) (R (.bool false) w25)) (R (.bool false) w25)) (br (decide ((x_0.len : Int) ≤ x_1)) (br (decide (n19 = (0 : Int))) (br (decide (n20 = (0 : Int))) (Calls Try.prog 29 #[] w25 (Rv fun v30 w31 =>
    ∃ b32 : Bool, v30 = .bool b32 ∧
    R (.bool b32) w31)) (R (.bool false) w25)) (R (.bool false) w25)) (Calls Try.prog 34 #[.slice x_0.a x_0.len x_0.cap, .int .i64 x_1] w25 (Rv fun v33 w34 =>
    ∃ n35 : Int, v33 = .int .i64 n35 ∧
    br (decide (n19 = n35)) (Calls Try.prog 34 #[.slice x_0.a x_0.len x_0.cap, .int .i64 (IntKind.i64.wrap (x_1 + 1))] w34 (Rv fun v36 w37 =>
    ∃ n38 : Int, v36 = .int .i64 n38 ∧ br (decide (n20 = n38)) (Calls Try.prog 29 #[] w37 (Rv fun v39 w40 => ∃ b41 : Bool, v39 = .bool b41 ∧
    R (.bool b41) w40)) (R (.bool false) w37))) (R (.bool false) w34)))))))))))))
theorem B7_eq : @B7 = fun (x_0 : Slc) (x_1 : Int) (x_2 : Int) (w : World) (R : Value → World → Prop) => trF Try.prog G (lk []) Try.f7 [.slice x_0.a x_0.len x_0.cap, .int .i64 x_1, .int .i64 x_2] w R := by kernel_rfl
theorem c7 (x_0 : Slc) (x_1 : Int) (x_2 : Int) (w : World) (R : Value → World → Prop) (h : B7 x_0 x_1 x_2 w R) : Calls Try.prog 7 #[.slice x_0.a x_0.len x_0.cap, .int .i64 x_1, .int .i64 x_2] w (Rv R) := calls_of_tr (L := lk []) Try.func7 hG hM (by rw [B7_eq] at h; exact h)

/-- locution/locutionlaw33.RowsMake -/
def B8 (x_0 : Slc) (x_1 : Int) (w : World) (R : Value → World → Prop) : Prop :=
  Calls Try.prog 27 #[.slice x_0.a x_0.len x_0.cap] w (Rv fun v1 w2 => ∃ b3 : Bool, v1 = .bool b3 ∧ br (!b3) (Calls Try.prog 29 #[] w2 (Rv fun v4 w5 =>
    ∃ b6 : Bool, v4 = .bool b6 ∧ R (.bool b6) w5)) (Calls Try.prog 30 #[.slice x_0.a x_0.len x_0.cap] w2 (Rv fun v7 w8 =>
    ∃ p9 : Option Addr, ∃ n10 : Int, v7 = .tuple #[.pointer p9, .int .i64 n10] ∧ Calls Try.prog 28 #[.slice x_0.a x_0.len x_0.cap] w8 (Rv fun v11 w12 =>
    ∃ n13 : Int, v11 = .int .i64 n13 ∧
    br (!(decide (n10 = n13))) (R (.bool false) w12) (br (!(decide (n13 = (0 : Int)))) (br p9.isNone (Calls Try.prog 29 #[] w12 (Rv fun v14 w15 =>
    ∃ b16 : Bool, v14 = .bool b16 ∧
    R (.bool b16) w15)) (R (.bool false) w12)) (Calls Try.prog 34 #[.slice x_0.a x_0.len x_0.cap, .int .i64 (x_0.len : Int)] w12 (Rv fun v17 w18 =>
    ∃ n19 : Int, v17 = .int .i64 n19 ∧ ∃ (I20 : Int → World → Prop) (μ21 : Int → World → Nat), I20 (0 : Int) w18 ∧ ∀ x22 : Int, ∀ w23 : World, I20 x22 w23 →
    br (decide (x22 < n19)) (Calls Try.prog 35 #[.slice x_0.a x_0.len x_0.cap, .int .i64 x22] w23 (Rv fun v24 w25 =>
    ∃ n26 : Int, ∃ n27 : Int, v24 = .tuple #[.int .i64 n26, .int .i64 n27] ∧ Calls Try.prog 36 #[.pointer p9, .int .i64 x22] w25 (Rv fun v28 w29 =>
    ∃ n30 : Int, v28 = .int .i64 n30 ∧ br (!(decide (n30 = n27))) (R (.bool false) w29) (Calls Try.prog 37 #[.pointer p9, .int .i64 x22] w29 (Rv fun v31 w32 =>
    ∃ n33 : Int, v31 = .int .i64 n33 ∧ br (!(decide (n33 = n26))) (R (.bool false) w32) (I20 (IntKind.i64.wrap (x22 + 1)) w32 ∧
    μ21 (IntKind.i64.wrap (x22 + 1)) w32 < μ21 x22 w23)))))) (Calls Try.prog 35 #[.slice x_0.a x_0.len x_0.cap, .int .i64 x_1] w23 (Rv fun v34 w35 =>
    ∃ n36 : Int, ∃ n37 : Int, v34 = .tuple #[.int .i64 n36, .int .i64 n37] ∧ Calls Try.prog 38 #[.pointer p9] w35 (Rv fun v38 w39 => ∃ n40 : Int, v38 = .int .i64 n40 ∧
    br (decide (n40 = (x_0.len : Int))) (Calls Try.prog 39 #[.pointer p9] w39 (Rv fun v41 w42 => ∃ n43 : Int, v41 = .int .i64 n43 ∧
    br (decide (n43 = n19)) (Calls Try.prog 36 #[.pointer p9, .int .i64 x_1] w42 (Rv fun v44 w45 => ∃ n46 : Int, v44 = .int .i64 n46 ∧
    br (decide (n46 = n37)) (Calls Try.prog 37 #[.pointer p9, .int .i64 x_1] w45 (Rv fun v47 w48 => ∃ n49 : Int, v47 = .int .i64 n49 ∧
    br (decide (n49 = n36)) (Calls Try.prog 40 #[.pointer p9] w48 (Rv fun v50 w51 => ∃ n52 : Int, v50 = .int .i64 n52 ∧
    Calls Try.prog 42 #[.slice x_0.a x_0.len x_0.cap] w51 (Rv fun v53 w54 => ∃ l55 : Slc, v53 = .slice l55.a l55.len l55.cap ∧
    Calls Try.prog 41 #[.slice l55.a l55.len l55.cap] w54 (Rv fun v56 w57 => ∃ n58 : Int, v56 = .int .i64 n58 ∧
    Calls Try.prog 44 #[.slice x_0.a x_0.len x_0.cap] w57 (Rv fun v59 w60 => ∃ l61 : Slc, v59 = .slice l61.a l61.len l61.cap ∧
    Calls Try.prog 43 #[.slice l61.a l61.len l61.cap] w60 (Rv fun v62 w63 => ∃ l64 : Slc, v62 = .slice l64.a l64.len l64.cap ∧
    Calls Try.prog 41 #[.slice l64.a l64.len l64.cap] w63 (Rv fun v65 w66 => ∃ n67 : Int, v65 = .int .i64 n67 ∧
    br (decide (n52 = (IntKind.i64.wrap (n58 + n67)))) (Calls Try.prog 29 #[] w66 (Rv fun v68 w69 => ∃ b70 : Bool, v68 = .bool b70 ∧
    R (.bool b70) w69)) (R (.bool false) w66)))))))) (R (.bool false) w48))) (R (.bool false) w45))) (R (.bool false) w42))) (R (.bool false) w39)))))))))))
theorem B8_eq : @B8 = fun (x_0 : Slc) (x_1 : Int) (w : World) (R : Value → World → Prop) => trF Try.prog G (lk [(11, [(9, .int .i64)])]) Try.f8 [.slice x_0.a x_0.len x_0.cap, .int .i64 x_1] w R := by kernel_rfl
theorem c8 (x_0 : Slc) (x_1 : Int) (w : World) (R : Value → World → Prop) (h : B8 x_0 x_1 w R) : Calls Try.prog 8 #[.slice x_0.a x_0.len x_0.cap, .int .i64 x_1] w (Rv R) := calls_of_tr (L := lk [(11, [(9, .int .i64)])]) Try.func8 hG hM (by rw [B8_eq] at h; exact h)

/-- locution/locutionlaw33.RowsOf -/
def B9 (x_0 : Slc) (x_1 : Slc) (w : World) (R : Value → World → Prop) : Prop :=
  br (decide ((30 : Int) < (x_0.len : Int))) (Calls Try.prog 29 #[] w (Rv fun v1 w2 => ∃ b3 : Bool, v1 = .bool b3 ∧
    R (.bool b3) w2)) (br (decide ((60 : Int) < (x_1.len : Int))) (Calls Try.prog 29 #[] w (Rv fun v4 w5 => ∃ b6 : Bool, v4 = .bool b6 ∧
    R (.bool b6) w5)) (Calls Try.prog 14 #[.slice x_1.a x_1.len x_1.cap] w (Rv fun v7 w8 => ∃ n9 : Int, v7 = .int .i64 n9 ∧
    br (!(decide (n9 = (0 : Int)))) (Calls Try.prog 29 #[] w8 (Rv fun v10 w11 => ∃ b12 : Bool, v10 = .bool b12 ∧
    R (.bool b12) w11)) (Calls Try.prog 45 #[.slice x_0.a x_0.len x_0.cap] w8 (Rv fun v13 w14 =>
    ∃ l15 : Slc, ∃ b16 : Bool, v13 = .tuple #[.slice l15.a l15.len l15.cap, .bool b16] ∧ br (!b16) (Calls Try.prog 29 #[] w14 (Rv fun v17 w18 =>
    ∃ b19 : Bool, v17 = .bool b19 ∧ R (.bool b19) w18)) (0 ≤ (x_0.len : Int) ∧ (x_0.len : Int) < (l15.len : Int) ∧ ∃ a20, l15.a = some a20 ∧
    ∃ n21 : Int, w14.cell? (Addr.add a20 ((x_0.len : Int).toNat * 1)) = some (.int .i64 n21) ∧
    br (decide ((100 : Int) < n21)) (Calls Try.prog 29 #[] w14 (Rv fun v22 w23 => ∃ b24 : Bool, v22 = .bool b24 ∧
    R (.bool b24) w23)) (Calls Try.prog 46 #[.slice x_0.a x_0.len x_0.cap] w14 (Rv fun v25 w26 =>
    ∃ p27 : Option Addr, ∃ n28 : Int, v25 = .tuple #[.pointer p27, .int .i64 n28] ∧ Calls Try.prog 47 #[.slice x_1.a x_1.len x_1.cap] w26 (Rv fun v29 w30 =>
    ∃ p31 : Option Addr, ∃ n32 : Int, v29 = .tuple #[.pointer p31, .int .i64 n32] ∧ Calls Try.prog 48 #[.pointer p27, .pointer p31] w30 (Rv fun v33 w34 =>
    ∃ p35 : Option Addr, ∃ n36 : Int, v33 = .tuple #[.pointer p35, .int .i64 n36] ∧
    Calls Try.prog 49 #[.slice x_0.a x_0.len x_0.cap, .slice x_1.a x_1.len x_1.cap] w34 (Rv fun v37 w38 =>
    ∃ l39 : Slc, ∃ b40 : Bool, v37 = .tuple #[.slice l39.a l39.len l39.cap, .bool b40] ∧
    br (!b40) (br p35.isNone (br (decide (n36 = (3 : Int))) (Calls Try.prog 29 #[] w38 (Rv fun v41 w42 => ∃ b43 : Bool, v41 = .bool b43 ∧
    R (.bool b43) w42)) (R (.bool false) w38)) (R (.bool false) w38)) (br (!(decide (n36 = (0 : Int)))) (R (.bool false) w38) (Calls Try.prog 38 #[.pointer p35] w38 (Rv fun v44 w45 =>
    ∃ n46 : Int, v44 = .int .i64 n46 ∧ br (!(decide (n46 = (l39.len : Int)))) (R (.bool false) w45) (Calls Try.prog 39 #[.pointer p35] w45 (Rv fun v47 w48 =>
    ∃ n49 : Int, v47 = .int .i64 n49 ∧ br (!(decide (n49 = (x_1.len : Int)))) (R (.bool false) w48) (Calls Try.prog 50 #[.pointer p35] w48 (Rv fun v50 w51 =>
    ∃ p52 : Option Addr, ∃ p53 : Option Addr, v50 = .tuple #[.pointer p52, .pointer p53] ∧ Calls Try.prog 48 #[.pointer p52, .pointer p53] w51 (Rv fun v54 w55 =>
    ∃ p56 : Option Addr, ∃ n57 : Int, v54 = .tuple #[.pointer p56, .int .i64 n57] ∧ ∃ (I58 : Int → World → Prop) (μ59 : Int → World → Nat), I58 (0 : Int) w55 ∧
    ∀ x60 : Int, ∀ w61 : World, I58 x60 w61 →
    br (decide (x60 < (x_1.len : Int))) (Calls Try.prog 35 #[.slice l39.a l39.len l39.cap, .int .i64 x60] w61 (Rv fun v62 w63 =>
    ∃ n64 : Int, ∃ n65 : Int, v62 = .tuple #[.int .i64 n64, .int .i64 n65] ∧ Calls Try.prog 36 #[.pointer p35, .int .i64 x60] (World.drew w63) (Rv fun v66 w67 =>
    ∃ n68 : Int, v66 = .int .i64 n68 ∧ br (!(decide (n68 = n65))) (R (.bool false) w67) (Calls Try.prog 36 #[.pointer p56, .int .i64 x60] w67 (Rv fun v69 w70 =>
    ∃ n71 : Int, v69 = .int .i64 n71 ∧ br (!(decide (n71 = n65))) (R (.bool false) w70) (0 ≤ x60 ∧ x60 < (x_1.len : Int) ∧ ∃ a72, x_1.a = some a72 ∧
    ∃ n73 : Int, w70.cell? (Addr.add a72 (x60.toNat * 1)) = some (.int .i64 n73) ∧ Calls Try.prog 51 #[.pointer p53, .int .i64 x60] w70 (Rv fun v74 w75 =>
    ∃ n76 : Int, v74 = .int .i64 n76 ∧ w75.cell? (Addr.add a72 (x60.toNat * 1)) = some (.int .i64 n73) ∧
    br (!(decide (n76 = n73))) (R (.bool false) w75) (I58 (IntKind.i64.wrap (x60 + 1)) w75 ∧
    μ59 (IntKind.i64.wrap (x60 + 1)) w75 < μ59 x60 w61)))))))) (br (decide (n57 = (0 : Int))) (Calls Try.prog 52 #[.pointer p52] (World.drew w61) (Rv fun v77 w78 =>
    ∃ n79 : Int, v77 = .int .i64 n79 ∧ br (decide (n79 = (x_0.len : Int))) (0 ≤ (x_0.len : Int) ∧ (x_0.len : Int) < (l15.len : Int) ∧ ∃ a80, l15.a = some a80 ∧
    ∃ n81 : Int, w78.cell? (Addr.add a80 ((x_0.len : Int).toNat * 1)) = some (.int .i64 n81) ∧ Calls Try.prog 53 #[.pointer p52] w78 (Rv fun v82 w83 =>
    ∃ n84 : Int, v82 = .int .i64 n84 ∧ w83.cell? (Addr.add a80 ((x_0.len : Int).toNat * 1)) = some (.int .i64 n81) ∧
    br (decide (n84 = n81)) (Calls Try.prog 38 #[.pointer p56] w83 (Rv fun v85 w86 => ∃ n87 : Int, v85 = .int .i64 n87 ∧
    br (decide (n87 = (l39.len : Int))) (Calls Try.prog 29 #[] w86 (Rv fun v88 w89 => ∃ b90 : Bool, v88 = .bool b90 ∧
    R (.bool b90) w89)) (R (.bool false) w86))) (R (.bool false) w83))) (R (.bool false) w78))) (R (.bool false) (World.drew w61))))))))))))))))))))))
theorem B9_eq : @B9 = fun (x_0 : Slc) (x_1 : Slc) (w : World) (R : Value → World → Prop) => trF Try.prog G (lk [(17, [(19, .int .i64)])]) Try.f9 [.slice x_0.a x_0.len x_0.cap, .slice x_1.a x_1.len x_1.cap] w R := by kernel_rfl
theorem c9 (x_0 : Slc) (x_1 : Slc) (w : World) (R : Value → World → Prop) (h : B9 x_0 x_1 w R) : Calls Try.prog 9 #[.slice x_0.a x_0.len x_0.cap, .slice x_1.a x_1.len x_1.cap] w (Rv R) := calls_of_tr (L := lk [(17, [(19, .int .i64)])]) Try.func9 hG hM (by rw [B9_eq] at h; exact h)

/-- locution/locutionlaw33.RowsGo -/
def B10 (x_0 : Slc) (x_1 : Int) (x_2 : Int) (w : World) (R : Value → World → Prop) : Prop :=
  
    ∃ l1 : Slc, ((((w.alloc (.cells #[.slice x_0.a x_0.len x_0.cap] 42)).alloc (.cells #[.int .i64 x_1] 3)).alloc (.cells #[.int .i64 x_2] 3)).alloc (.cells #[.bool false] 4)).cell? ⟨w.heap.size, 0, none⟩ = some (.slice l1.a l1.len l1.cap) ∧
    Calls Try.prog 27 #[.slice l1.a l1.len l1.cap] ((((w.alloc (.cells #[.slice x_0.a x_0.len x_0.cap] 42)).alloc (.cells #[.int .i64 x_1] 3)).alloc (.cells #[.int .i64 x_2] 3)).alloc (.cells #[.bool false] 4)) (Rv fun v2 w3 =>
    ∃ b4 : Bool, v2 = .bool b4 ∧ br (!b4) (Calls Try.prog 29 #[] w3 (Rv fun v5 w6 => ∃ b7 : Bool, v5 = .bool b7 ∧
    (∃ u, w6.cell? ⟨(((w.alloc (.cells #[.slice x_0.a x_0.len x_0.cap] 42)).alloc (.cells #[.int .i64 x_1] 3)).alloc (.cells #[.int .i64 x_2] 3)).heap.size, 0, none⟩ = some u) ∧
    w6.frozen? ⟨(((w.alloc (.cells #[.slice x_0.a x_0.len x_0.cap] 42)).alloc (.cells #[.int .i64 x_1] 3)).alloc (.cells #[.int .i64 x_2] 3)).heap.size, 0, none⟩ = false ∧
    ([] : List Nat).Nodup ∧ (∀ D, D ∈ ([] : List Nat) →
    (w6.setCell ⟨(((w.alloc (.cells #[.slice x_0.a x_0.len x_0.cap] 42)).alloc (.cells #[.int .i64 x_1] 3)).alloc (.cells #[.int .i64 x_2] 3)).heap.size, 0, none⟩ (.bool b7)).heap[D]? = some (.deferred (some []))) ∧
    ∀ w8 : World, Kp (fun k =>
    k ∈ ([] : List Nat)) (w6.setCell ⟨(((w.alloc (.cells #[.slice x_0.a x_0.len x_0.cap] 42)).alloc (.cells #[.int .i64 x_1] 3)).alloc (.cells #[.int .i64 x_2] 3)).heap.size, 0, none⟩ (.bool b7)) w8 →
    ∃ b9 : Bool, w8.cell? ⟨(((w.alloc (.cells #[.slice x_0.a x_0.len x_0.cap] 42)).alloc (.cells #[.int .i64 x_1] 3)).alloc (.cells #[.int .i64 x_2] 3)).heap.size, 0, none⟩ = some (.bool b9) ∧
    R (.bool b9) w8)) (∃ l10 : Slc, w3.cell? ⟨w.heap.size, 0, none⟩ = some (.slice l10.a l10.len l10.cap) ∧
    Calls Try.prog 28 #[.slice l10.a l10.len l10.cap] w3 (Rv fun v11 w12 => ∃ n13 : Int, v11 = .int .i64 n13 ∧
    br (!(decide (n13 = (0 : Int)))) (Calls Try.prog 29 #[] w12 (Rv fun v14 w15 => ∃ b16 : Bool, v14 = .bool b16 ∧
    (∃ u, w15.cell? ⟨(((w.alloc (.cells #[.slice x_0.a x_0.len x_0.cap] 42)).alloc (.cells #[.int .i64 x_1] 3)).alloc (.cells #[.int .i64 x_2] 3)).heap.size, 0, none⟩ = some u) ∧
    w15.frozen? ⟨(((w.alloc (.cells #[.slice x_0.a x_0.len x_0.cap] 42)).alloc (.cells #[.int .i64 x_1] 3)).alloc (.cells #[.int .i64 x_2] 3)).heap.size, 0, none⟩ = false ∧
    ([] : List Nat).Nodup ∧ (∀ D, D ∈ ([] : List Nat) →
    (w15.setCell ⟨(((w.alloc (.cells #[.slice x_0.a x_0.len x_0.cap] 42)).alloc (.cells #[.int .i64 x_1] 3)).alloc (.cells #[.int .i64 x_2] 3)).heap.size, 0, none⟩ (.bool b16)).heap[D]? = some (.deferred (some []))) ∧
    ∀ w17 : World, Kp (fun k =>
    k ∈ ([] : List Nat)) (w15.setCell ⟨(((w.alloc (.cells #[.slice x_0.a x_0.len x_0.cap] 42)).alloc (.cells #[.int .i64 x_1] 3)).alloc (.cells #[.int .i64 x_2] 3)).heap.size, 0, none⟩ (.bool b16)) w17 →
    ∃ b18 : Bool, w17.cell? ⟨(((w.alloc (.cells #[.slice x_0.a x_0.len x_0.cap] 42)).alloc (.cells #[.int .i64 x_1] 3)).alloc (.cells #[.int .i64 x_2] 3)).heap.size, 0, none⟩ = some (.bool b18) ∧
    R (.bool b18) w17)) (∃ l19 : Slc, w12.cell? ⟨w.heap.size, 0, none⟩ = some (.slice l19.a l19.len l19.cap) ∧
    Calls Try.prog 30 #[.slice l19.a l19.len l19.cap] w12 (Rv fun v20 w21 => ∃ p22 : Option Addr, ∃ n23 : Int, v20 = .tuple #[.pointer p22, .int .i64 n23] ∧
    Calls Try.prog 50 #[.pointer none] w21 (Rv fun v24 w25 => ∃ p26 : Option Addr, ∃ p27 : Option Addr, v24 = .tuple #[.pointer p26, .pointer p27] ∧
    Calls Try.prog 39 #[.pointer none] w25 (Rv fun v28 w29 => ∃ n30 : Int, v28 = .int .i64 n30 ∧
    br (!(decide (n30 = (0 : Int)))) ((∃ u, w29.cell? ⟨(((w.alloc (.cells #[.slice x_0.a x_0.len x_0.cap] 42)).alloc (.cells #[.int .i64 x_1] 3)).alloc (.cells #[.int .i64 x_2] 3)).heap.size, 0, none⟩ = some u) ∧
    w29.frozen? ⟨(((w.alloc (.cells #[.slice x_0.a x_0.len x_0.cap] 42)).alloc (.cells #[.int .i64 x_1] 3)).alloc (.cells #[.int .i64 x_2] 3)).heap.size, 0, none⟩ = false ∧
    ([] : List Nat).Nodup ∧ (∀ D, D ∈ ([] : List Nat) →
    (w29.setCell ⟨(((w.alloc (.cells #[.slice x_0.a x_0.len x_0.cap] 42)).alloc (.cells #[.int .i64 x_1] 3)).alloc (.cells #[.int .i64 x_2] 3)).heap.size, 0, none⟩ (.bool false)).heap[D]? = some (.deferred (some []))) ∧
    ∀ w31 : World, Kp (fun k =>
    k ∈ ([] : List Nat)) (w29.setCell ⟨(((w.alloc (.cells #[.slice x_0.a x_0.len x_0.cap] 42)).alloc (.cells #[.int .i64 x_1] 3)).alloc (.cells #[.int .i64 x_2] 3)).heap.size, 0, none⟩ (.bool false)) w31 →
    ∃ b32 : Bool, w31.cell? ⟨(((w.alloc (.cells #[.slice x_0.a x_0.len x_0.cap] 42)).alloc (.cells #[.int .i64 x_1] 3)).alloc (.cells #[.int .i64 x_2] 3)).heap.size, 0, none⟩ = some (.bool b32) ∧
    R (.bool b32) w31) (Calls Try.prog 38 #[.pointer none] w29 (Rv fun v33 w34 => ∃ n35 : Int, v33 = .int .i64 n35 ∧
    br (!(decide (n35 = (0 : Int)))) ((∃ u, w34.cell? ⟨(((w.alloc (.cells #[.slice x_0.a x_0.len x_0.cap] 42)).alloc (.cells #[.int .i64 x_1] 3)).alloc (.cells #[.int .i64 x_2] 3)).heap.size, 0, none⟩ = some u) ∧
    w34.frozen? ⟨(((w.alloc (.cells #[.slice x_0.a x_0.len x_0.cap] 42)).alloc (.cells #[.int .i64 x_1] 3)).alloc (.cells #[.int .i64 x_2] 3)).heap.size, 0, none⟩ = false ∧
    ([] : List Nat).Nodup ∧ (∀ D, D ∈ ([] : List Nat) →
    (w34.setCell ⟨(((w.alloc (.cells #[.slice x_0.a x_0.len x_0.cap] 42)).alloc (.cells #[.int .i64 x_1] 3)).alloc (.cells #[.int .i64 x_2] 3)).heap.size, 0, none⟩ (.bool false)).heap[D]? = some (.deferred (some []))) ∧
    ∀ w36 : World, Kp (fun k =>
    k ∈ ([] : List Nat)) (w34.setCell ⟨(((w.alloc (.cells #[.slice x_0.a x_0.len x_0.cap] 42)).alloc (.cells #[.int .i64 x_1] 3)).alloc (.cells #[.int .i64 x_2] 3)).heap.size, 0, none⟩ (.bool false)) w36 →
    ∃ b37 : Bool, w36.cell? ⟨(((w.alloc (.cells #[.slice x_0.a x_0.len x_0.cap] 42)).alloc (.cells #[.int .i64 x_1] 3)).alloc (.cells #[.int .i64 x_2] 3)).heap.size, 0, none⟩ = some (.bool b37) ∧
    R (.bool b37) w36) (∃ n38 : Int, w34.cell? ⟨(w.alloc (.cells #[.slice x_0.a x_0.len x_0.cap] 42)).heap.size, 0, none⟩ = some (.int .i64 n38) ∧
    Calls Try.prog 36 #[.pointer none, .int .i64 n38] w34 (Rv fun v39 w40 => ∃ n41 : Int, v39 = .int .i64 n41 ∧
    br (!(decide (n41 = (-1)))) ((∃ u, w40.cell? ⟨(((w.alloc (.cells #[.slice x_0.a x_0.len x_0.cap] 42)).alloc (.cells #[.int .i64 x_1] 3)).alloc (.cells #[.int .i64 x_2] 3)).heap.size, 0, none⟩ = some u) ∧
    w40.frozen? ⟨(((w.alloc (.cells #[.slice x_0.a x_0.len x_0.cap] 42)).alloc (.cells #[.int .i64 x_1] 3)).alloc (.cells #[.int .i64 x_2] 3)).heap.size, 0, none⟩ = false ∧
    ([] : List Nat).Nodup ∧ (∀ D, D ∈ ([] : List Nat) →
    (w40.setCell ⟨(((w.alloc (.cells #[.slice x_0.a x_0.len x_0.cap] 42)).alloc (.cells #[.int .i64 x_1] 3)).alloc (.cells #[.int .i64 x_2] 3)).heap.size, 0, none⟩ (.bool false)).heap[D]? = some (.deferred (some []))) ∧
    ∀ w42 : World, Kp (fun k =>
    k ∈ ([] : List Nat)) (w40.setCell ⟨(((w.alloc (.cells #[.slice x_0.a x_0.len x_0.cap] 42)).alloc (.cells #[.int .i64 x_1] 3)).alloc (.cells #[.int .i64 x_2] 3)).heap.size, 0, none⟩ (.bool false)) w42 →
    ∃ b43 : Bool, w42.cell? ⟨(((w.alloc (.cells #[.slice x_0.a x_0.len x_0.cap] 42)).alloc (.cells #[.int .i64 x_1] 3)).alloc (.cells #[.int .i64 x_2] 3)).heap.size, 0, none⟩ = some (.bool b43) ∧
    R (.bool b43) w42) (∃ n44 : Int, w40.cell? ⟨(w.alloc (.cells #[.slice x_0.a x_0.len x_0.cap] 42)).heap.size, 0, none⟩ = some (.int .i64 n44) ∧
    Calls Try.prog 37 #[.pointer none, .int .i64 n44] w40 (Rv fun v45 w46 => ∃ n47 : Int, v45 = .int .i64 n47 ∧
    br (!(decide (n47 = (-1)))) ((∃ u, w46.cell? ⟨(((w.alloc (.cells #[.slice x_0.a x_0.len x_0.cap] 42)).alloc (.cells #[.int .i64 x_1] 3)).alloc (.cells #[.int .i64 x_2] 3)).heap.size, 0, none⟩ = some u) ∧
    w46.frozen? ⟨(((w.alloc (.cells #[.slice x_0.a x_0.len x_0.cap] 42)).alloc (.cells #[.int .i64 x_1] 3)).alloc (.cells #[.int .i64 x_2] 3)).heap.size, 0, none⟩ = false ∧
    ([] : List Nat).Nodup ∧ (∀ D, D ∈ ([] : List Nat) →
    (w46.setCell ⟨(((w.alloc (.cells #[.slice x_0.a x_0.len x_0.cap] 42)).alloc (.cells #[.int .i64 x_1] 3)).alloc (.cells #[.int .i64 x_2] 3)).heap.size, 0, none⟩ (.bool false)).heap[D]? = some (.deferred (some []))) ∧
    ∀ w48 : World, Kp (fun k =>
    k ∈ ([] : List Nat)) (w46.setCell ⟨(((w.alloc (.cells #[.slice x_0.a x_0.len x_0.cap] 42)).alloc (.cells #[.int .i64 x_1] 3)).alloc (.cells #[.int .i64 x_2] 3)).heap.size, 0, none⟩ (.bool false)) w48 →
    ∃ b49 : Bool, w48.cell? ⟨(((w.alloc (.cells #[.slice x_0.a x_0.len x_0.cap] 42)).alloc (.cells #[.int .i64 x_1] 3)).alloc (.cells #[.int .i64 x_2] 3)).heap.size, 0, none⟩ = some (.bool b49) ∧
    R (.bool b49) w48) (∃ n50 : Int, w46.cell? ⟨(w.alloc (.cells #[.slice x_0.a x_0.len x_0.cap] 42)).heap.size, 0, none⟩ = some (.int .i64 n50) ∧
    ∃ n51 : Int, w46.cell? ⟨((w.alloc (.cells #[.slice x_0.a x_0.len x_0.cap] 42)).alloc (.cells #[.int .i64 x_1] 3)).heap.size, 0, none⟩ = some (.int .i64 n51) ∧
    Calls Try.prog 32 #[.pointer none, .int .i64 n50, .int .i64 n51] w46 (Rv fun v52 w53 => ∃ n54 : Int, v52 = .int .i64 n54 ∧
    br (!(decide (n54 = (-1)))) ((∃ u, w53.cell? ⟨(((w.alloc (.cells #[.slice x_0.a x_0.len x_0.cap] 42)).alloc (.cells #[.int .i64 x_1] 3)).alloc (.cells #[.int .i64 x_2] 3)).heap.size, 0, none⟩ = some u) ∧
    w53.frozen? ⟨(((w.alloc (.cells #[.slice x_0.a x_0.len x_0.cap] 42)).alloc (.cells #[.int .i64 x_1] 3)).alloc (.cells #[.int .i64 x_2] 3)).heap.size, 0, none⟩ = false ∧
    ([] : List Nat).Nodup ∧ (∀ D, D ∈ ([] : List Nat) →
    (w53.setCell ⟨(((w.alloc (.cells #[.slice x_0.a x_0.len x_0.cap] 42)).alloc (.cells #[.int .i64 x_1] 3)).alloc (.cells #[.int .i64 x_2] 3)).heap.size, 0, none⟩ (.bool false)).heap[D]? = some (.deferred (some []))) ∧
    ∀ w55 : World, Kp (fun k =>
    k ∈ ([] : List Nat)) (w53.setCell ⟨(((w.alloc (.cells #[.slice x_0.a x_0.len x_0.cap] 42)).alloc (.cells #[.int .i64 x_1] 3)).alloc (.cells #[.int .i64 x_2] 3)).heap.size, 0, none⟩ (.bool false)) w55 →
    ∃ b56 : Bool, w55.cell? ⟨(((w.alloc (.cells #[.slice x_0.a x_0.len x_0.cap] 42)).alloc (.cells #[.int .i64 x_1] 3)).alloc (.cells #[.int .i64 x_2] 3)).heap.size, 0, none⟩ = some (.bool b56) ∧
    R (.bool b56) w55) (Calls Try.prog 40 #[.pointer none] w53 (Rv fun v57 w58 => ∃ n59 : Int, v57 = .int .i64 n59 ∧
    br (!(decide (n59 = (0 : Int)))) ((∃ u, w58.cell? ⟨(((w.alloc (.cells #[.slice x_0.a x_0.len x_0.cap] 42)).alloc (.cells #[.int .i64 x_1] 3)).alloc (.cells #[.int .i64 x_2] 3)).heap.size, 0, none⟩ = some u) ∧
    w58.frozen? ⟨(((w.alloc (.cells #[.slice x_0.a x_0.len x_0.cap] 42)).alloc (.cells #[.int .i64 x_1] 3)).alloc (.cells #[.int .i64 x_2] 3)).heap.size, 0, none⟩ = false ∧
    ([] : List Nat).Nodup ∧ (∀ D, D ∈ ([] : List Nat) →
    (w58.setCell ⟨(((w.alloc (.cells #[.slice x_0.a x_0.len x_0.cap] 42)).alloc (.cells #[.int .i64 x_1] 3)).alloc (.cells #[.int .i64 x_2] 3)).heap.size, 0, none⟩ (.bool false)).heap[D]? = some (.deferred (some []))) ∧
    ∀ w60 : World, Kp (fun k =>
    k ∈ ([] : List Nat)) (w58.setCell ⟨(((w.alloc (.cells #[.slice x_0.a x_0.len x_0.cap] 42)).alloc (.cells #[.int .i64 x_1] 3)).alloc (.cells #[.int .i64 x_2] 3)).heap.size, 0, none⟩ (.bool false)) w60 →
    ∃ b61 : Bool, w60.cell? ⟨(((w.alloc (.cells #[.slice x_0.a x_0.len x_0.cap] 42)).alloc (.cells #[.int .i64 x_1] 3)).alloc (.cells #[.int .i64 x_2] 3)).heap.size, 0, none⟩ = some (.bool b61) ∧
    R (.bool b61) w60) (Calls Try.prog 52 #[.pointer p26] w58 (Rv fun v62 w63 => ∃ n64 : Int, v62 = .int .i64 n64 ∧
    br (!(decide (n64 = (0 : Int)))) ((∃ u, w63.cell? ⟨(((w.alloc (.cells #[.slice x_0.a x_0.len x_0.cap] 42)).alloc (.cells #[.int .i64 x_1] 3)).alloc (.cells #[.int .i64 x_2] 3)).heap.size, 0, none⟩ = some u) ∧
    w63.frozen? ⟨(((w.alloc (.cells #[.slice x_0.a x_0.len x_0.cap] 42)).alloc (.cells #[.int .i64 x_1] 3)).alloc (.cells #[.int .i64 x_2] 3)).heap.size, 0, none⟩ = false ∧
    ([] : List Nat).Nodup ∧ (∀ D, D ∈ ([] : List Nat) →
    (w63.setCell ⟨(((w.alloc (.cells #[.slice x_0.a x_0.len x_0.cap] 42)).alloc (.cells #[.int .i64 x_1] 3)).alloc (.cells #[.int .i64 x_2] 3)).heap.size, 0, none⟩ (.bool false)).heap[D]? = some (.deferred (some []))) ∧
    ∀ w65 : World, Kp (fun k =>
    k ∈ ([] : List Nat)) (w63.setCell ⟨(((w.alloc (.cells #[.slice x_0.a x_0.len x_0.cap] 42)).alloc (.cells #[.int .i64 x_1] 3)).alloc (.cells #[.int .i64 x_2] 3)).heap.size, 0, none⟩ (.bool false)) w65 →
    ∃ b66 : Bool, w65.cell? ⟨(((w.alloc (.cells #[.slice x_0.a x_0.len x_0.cap] 42)).alloc (.cells #[.int .i64 x_1] 3)).alloc (.cells #[.int .i64 x_2] 3)).heap.size, 0, none⟩ = some (.bool b66) ∧
    R (.bool b66) w65) (Calls Try.prog 54 #[.pointer p27] w63 (Rv fun v67 w68 => ∃ n69 : Int, v67 = .int .i64 n69 ∧
    br (!(decide (n69 = (0 : Int)))) ((∃ u, w68.cell? ⟨(((w.alloc (.cells #[.slice x_0.a x_0.len x_0.cap] 42)).alloc (.cells #[.int .i64 x_1] 3)).alloc (.cells #[.int .i64 x_2] 3)).heap.size, 0, none⟩ = some u) ∧
    w68.frozen? ⟨(((w.alloc (.cells #[.slice x_0.a x_0.len x_0.cap] 42)).alloc (.cells #[.int .i64 x_1] 3)).alloc (.cells #[.int .i64 x_2] 3)).heap.size, 0, none⟩ = false ∧
    ([] : List Nat).Nodup ∧ (∀ D, D ∈ ([] : List Nat) →
    (w68.setCell ⟨(((w.alloc (.cells #[.slice x_0.a x_0.len x_0.cap] 42)).alloc (.cells #[.int .i64 x_1] 3)).alloc (.cells #[.int .i64 x_2] 3)).heap.size, 0, none⟩ (.bool false)).heap[D]? = some (.deferred (some []))) ∧
    ∀ w70 : World, Kp (fun k =>
    k ∈ ([] : List Nat)) (w68.setCell ⟨(((w.alloc (.cells #[.slice x_0.a x_0.len x_0.cap] 42)).alloc (.cells #[.int .i64 x_1] 3)).alloc (.cells #[.int .i64 x_2] 3)).heap.size, 0, none⟩ (.bool false)) w70 →
    ∃ b71 : Bool, w70.cell? ⟨(((w.alloc (.cells #[.slice x_0.a x_0.len x_0.cap] 42)).alloc (.cells #[.int .i64 x_1] 3)).alloc (.cells #[.int .i64 x_2] 3)).heap.size, 0, none⟩ = some (.bool b71) ∧
    R (.bool b71) w70) (∃ n72 : Int, (w68.alloc (.cells #[.slice none 0 0] 22)).cell? ⟨(w.alloc (.cells #[.slice x_0.a x_0.len x_0.cap] 42)).heap.size, 0, none⟩ = some (.int .i64 n72) ∧
    br (decide ((0 : Int) ≤ n72)) (∃ n73 : Int, (w68.alloc (.cells #[.slice none 0 0] 22)).cell? ⟨(w.alloc (.cells #[.slice x_0.a x_0.len x_0.cap] 42)).heap.size, 0, none⟩ = some (.int .i64 n73) ∧
    ∃ l74 : Slc, (w68.alloc (.cells #[.slice none 0 0] 22)).cell? ⟨w.heap.size, 0, none⟩ = some (.slice l74.a l74.len l74.cap) ∧
    br (decide (n73 < (l74.len : Int))) (∃ l75 : Slc, (w68.alloc (.cells #[.slice none 0 0] 22)).cell? ⟨w.heap.size, 0, none⟩ = some (.slice l75.a l75.len l75.cap) ∧
    ∃ n76 : Int, (w68.alloc (.cells #[.slice none 0 0] 22)).cell? ⟨(w.alloc (.cells #[.slice x_0.a x_0.len x_0.cap] 42)).heap.size, 0, none⟩ = some (.int .i64 n76) ∧
    0 ≤ n76 ∧ n76 < (l75.len : Int) ∧ ∃ a77, l75.a = some a77 ∧
    ∃ l78 : Slc, (w68.alloc (.cells #[.slice none 0 0] 22)).cell? (Addr.add a77 (n76.toNat * 1)) = some (.slice l78.a l78.len l78.cap) ∧
    (∃ u, (w68.alloc (.cells #[.slice none 0 0] 22)).cell? ⟨w68.heap.size, 0, none⟩ = some u) ∧
    (w68.alloc (.cells #[.slice none 0 0] 22)).frozen? ⟨w68.heap.size, 0, none⟩ = false ∧
    ∃ n79 : Int, ((w68.alloc (.cells #[.slice none 0 0] 22)).setCell ⟨w68.heap.size, 0, none⟩ (.slice l78.a l78.len l78.cap)).cell? ⟨(w.alloc (.cells #[.slice x_0.a x_0.len x_0.cap] 42)).heap.size, 0, none⟩ = some (.int .i64 n79) ∧
    Calls Try.prog 55 #[.pointer p22, .int .i64 n79] ((w68.alloc (.cells #[.slice none 0 0] 22)).setCell ⟨w68.heap.size, 0, none⟩ (.slice l78.a l78.len l78.cap)) (Rv fun v80 w81 =>
    ∃ v82 : Value, v80 = v82 ∧ (v82 = .nilFunc ∨ ∃ f x y, v82 = .func f x y) ∧
    br (isNilV v82) ((∃ u, w81.cell? ⟨(((w.alloc (.cells #[.slice x_0.a x_0.len x_0.cap] 42)).alloc (.cells #[.int .i64 x_1] 3)).alloc (.cells #[.int .i64 x_2] 3)).heap.size, 0, none⟩ = some u) ∧
    w81.frozen? ⟨(((w.alloc (.cells #[.slice x_0.a x_0.len x_0.cap] 42)).alloc (.cells #[.int .i64 x_1] 3)).alloc (.cells #[.int .i64 x_2] 3)).heap.size, 0, none⟩ = false ∧
    ([] : List Nat).Nodup ∧ (∀ D, D ∈ ([] : List Nat) →
    (w81.setCell ⟨(((w.alloc (.cells #[.slice x_0.a x_0.len x_0.cap] 42)).alloc (.cells #[.int .i64 x_1] 3)).alloc (.cells #[.int .i64 x_2] 3)).heap.size, 0, none⟩ (.bool false)).heap[D]? = some (.deferred (some []))) ∧
    ∀ w83 : World, Kp (fun k =>
    k ∈ ([] : List Nat)) (w81.setCell ⟨(((w.alloc (.cells #[.slice x_0.a x_0.len x_0.cap] 42)).alloc (.cells #[.int .i64 x_1] 3)).alloc (.cells #[.int .i64 x_2] 3)).heap.size, 0, none⟩ (.bool false)) w83 →
    ∃ b84 : Bool, w83.cell? ⟨(((w.alloc (.cells #[.slice x_0.a x_0.len x_0.cap] 42)).alloc (.cells #[.int .i64 x_1] 3)).alloc (.cells #[.int .i64 x_2] 3)).heap.size, 0, none⟩ = some (.bool b84) ∧
    R (.bool b84) w83) ((∃ u, (w81.alloc (.cells #[.int .i64 0] 3)).cell? ⟨w81.heap.size, 0, none⟩ = some u) ∧
    (w81.alloc (.cells #[.int .i64 0] 3)).frozen? ⟨w81.heap.size, 0, none⟩ = false ∧ ∃ (g85 : Nat) (A86 C87 : Array Value), v82 = .func (.func g85) A86 C87 ∧
    G g85 = true ∧ ∃ n88 : Nat, ∃ f96 : Nat → Int, ∃ f97 : Nat → Int, ∃ (D89 : Nat → Prop) (J90 : Nat → (Nat → Prop) → World → Prop) (X91 : Option Nat → (Nat →
    Prop) → World → Prop), Iter Try.prog g85 A86.toList C87.toList ((w81.alloc (.cells #[.int .i64 0] 3)).setCell ⟨w81.heap.size, 0, none⟩ (.int .i64 0)) n88 (fun j =>
    [.int .i64 (f96 j), .int .i64 (f97 j)]) D89 ∧ (∀ k, D89 k →
    k < ((w81.alloc (.cells #[.int .i64 0] 3)).setCell ⟨w81.heap.size, 0, none⟩ (.int .i64 0)).heap.size) ∧ (∀ j, Stab (J90 j)) ∧ (∀ o, Stab (X91 o)) ∧
    J90 0 (fun _ => False) ((w81.alloc (.cells #[.int .i64 0] 3)).setCell ⟨w81.heap.size, 0, none⟩ (.int .i64 0)) ∧ (∀ (j92 : Nat) (T93 : Nat →
    Prop) (w94 : World), j92 < n88 → J90 j92 T93 w94 → (∀ k, T93 k →
    ((w81.alloc (.cells #[.int .i64 0] 3)).setCell ⟨w81.heap.size, 0, none⟩ (.int .i64 0)).heap.size ≤ k) →
    T93 ((w81.alloc (.cells #[.int .i64 0] 3)).setCell ⟨w81.heap.size, 0, none⟩ (.int .i64 0)).heap.size →
    T93 (((w81.alloc (.cells #[.int .i64 0] 3)).setCell ⟨w81.heap.size, 0, none⟩ (.int .i64 0)).heap.size + 1) → (∀ k, T93 k → k < w94.heap.size) → Kp (fun k =>
    ¬ T93 k ∧ ¬ D89 k) w94 w94 ∧ ∀ w95 : World, Kp (fun k =>
    k = ((w81.alloc (.cells #[.int .i64 0] 3)).setCell ⟨w81.heap.size, 0, none⟩ (.int .i64 0)).heap.size + 1) w94 w95 →
    ∃ n98 : Int, (World.drew w95).cell? ⟨w81.heap.size, 0, none⟩ = some (.int .i64 n98) ∧
    ∃ l99 : Slc, (World.drew w95).cell? ⟨w68.heap.size, 0, none⟩ = some (.slice l99.a l99.len l99.cap) ∧
    br (decide ((l99.len : Int) ≤ n98)) ((∃ u, (World.drew w95).cell? ⟨(((w.alloc (.cells #[.slice x_0.a x_0.len x_0.cap] 42)).alloc (.cells #[.int .i64 x_1] 3)).alloc (.cells #[.int .i64 x_2] 3)).heap.size, 0, none⟩ = some u) ∧
    (World.drew w95).frozen? ⟨(((w.alloc (.cells #[.slice x_0.a x_0.len x_0.cap] 42)).alloc (.cells #[.int .i64 x_1] 3)).alloc (.cells #[.int .i64 x_2] 3)).heap.size, 0, none⟩ = false ∧
    Kp (fun k => ¬ T93 k ∧
    ¬ D89 k) w95 ((World.drew w95).setCell ⟨(((w.alloc (.cells #[.slice x_0.a x_0.len x_0.cap] 42)).alloc (.cells #[.int .i64 x_1] 3)).alloc (.cells #[.int .i64 x_2] 3)).heap.size, 0, none⟩ (.bool false)) ∧
    X91 none T93 ((World.drew w95).setCell ⟨(((w.alloc (.cells #[.slice x_0.a x_0.len x_0.cap] 42)).alloc (.cells #[.int .i64 x_1] 3)).alloc (.cells #[.int .i64 x_2] 3)).heap.size, 0, none⟩ (.bool false))) (∃ l100 : Slc, (World.drew w95).cell? ⟨w.heap.size, 0, none⟩ = some (.slice l100.a l100.len l100.cap) ∧
    ∃ n101 : Int, (World.drew w95).cell? ⟨(w.alloc (.cells #[.slice x_0.a x_0.len x_0.cap] 42)).heap.size, 0, none⟩ = some (.int .i64 n101) ∧
    ∃ n102 : Int, (World.drew w95).cell? ⟨w81.heap.size, 0, none⟩ = some (.int .i64 n102) ∧
    Calls Try.prog 34 #[.slice l100.a l100.len l100.cap, .int .i64 n101] (World.drew w95) (Rv fun v103 w104 => ∃ n105 : Int, v103 = .int .i64 n105 ∧
    w104.cell? ⟨w81.heap.size, 0, none⟩ = some (.int .i64 n102) ∧
    br (!(decide ((f96 j92) = (IntKind.i64.wrap (n105 + n102))))) ((∃ u, w104.cell? ⟨(((w.alloc (.cells #[.slice x_0.a x_0.len x_0.cap] 42)).alloc (.cells #[.int .i64 x_1] 3)).alloc (.cells #[.int .i64 x_2] 3)).heap.size, 0, none⟩ = some u) ∧
    w104.frozen? ⟨(((w.alloc (.cells #[.slice x_0.a x_0.len x_0.cap] 42)).alloc (.cells #[.int .i64 x_1] 3)).alloc (.cells #[.int .i64 x_2] 3)).heap.size, 0, none⟩ = false ∧
    Kp (fun k => ¬ T93 k ∧
    ¬ D89 k) w95 (w104.setCell ⟨(((w.alloc (.cells #[.slice x_0.a x_0.len x_0.cap] 42)).alloc (.cells #[.int .i64 x_1] 3)).alloc (.cells #[.int .i64 x_2] 3)).heap.size, 0, none⟩ (.bool false)) ∧
    X91 none T93 (w104.setCell ⟨(((w.alloc (.cells #[.slice x_0.a x_0.len x_0.cap] 42)).alloc (.cells #[.int .i64 x_1] 3)).alloc (.cells #[.int .i64 x_2] 3)).heap.size, 0, none⟩ (.bool false))) (∃ l106 : Slc, w104.cell? ⟨w68.heap.size, 0, none⟩ = some (.slice l106.a l106.len l106.cap) ∧
    ∃ n107 : Int, w104.cell? ⟨w81.heap.size, 0, none⟩ = some (.int .i64 n107) ∧ 0 ≤ n107 ∧ n107 < (l106.len : Int) ∧ ∃ a108, l106.a = some a108 ∧
    ∃ n109 : Int, w104.cell? (Addr.add a108 (n107.toNat * 1)) = some (.int .i64 n109) ∧
    br (!(decide ((f97 j92) = n109))) ((∃ u, w104.cell? ⟨(((w.alloc (.cells #[.slice x_0.a x_0.len x_0.cap] 42)).alloc (.cells #[.int .i64 x_1] 3)).alloc (.cells #[.int .i64 x_2] 3)).heap.size, 0, none⟩ = some u) ∧
    w104.frozen? ⟨(((w.alloc (.cells #[.slice x_0.a x_0.len x_0.cap] 42)).alloc (.cells #[.int .i64 x_1] 3)).alloc (.cells #[.int .i64 x_2] 3)).heap.size, 0, none⟩ = false ∧
    Kp (fun k => ¬ T93 k ∧
    ¬ D89 k) w95 (w104.setCell ⟨(((w.alloc (.cells #[.slice x_0.a x_0.len x_0.cap] 42)).alloc (.cells #[.int .i64 x_1] 3)).alloc (.cells #[.int .i64 x_2] 3)).heap.size, 0, none⟩ (.bool false)) ∧
    X91 none T93 (w104.setCell ⟨(((w.alloc (.cells #[.slice x_0.a x_0.len x_0.cap] 42)).alloc (.cells #[.int .i64 x_1] 3)).alloc (.cells #[.int .i64 x_2] 3)).heap.size, 0, none⟩ (.bool false))) (∃ n110 : Int, w104.cell? ⟨w81.heap.size, 0, none⟩ = some (.int .i64 n110) ∧
    (∃ u, w104.cell? ⟨w81.heap.size, 0, none⟩ = some u) ∧ w104.frozen? ⟨w81.heap.size, 0, none⟩ = false ∧
    ∃ n111 : Int, (w104.setCell ⟨w81.heap.size, 0, none⟩ (.int .i64 (IntKind.i64.wrap (n110 + 1)))).cell? ⟨w81.heap.size, 0, none⟩ = some (.int .i64 n111) ∧
    ∃ n112 : Int, (w104.setCell ⟨w81.heap.size, 0, none⟩ (.int .i64 (IntKind.i64.wrap (n110 + 1)))).cell? ⟨((w.alloc (.cells #[.slice x_0.a x_0.len x_0.cap] 42)).alloc (.cells #[.int .i64 x_1] 3)).heap.size, 0, none⟩ = some (.int .i64 n112) ∧
    br (decide (n111 = n112)) (Kp (fun k => ¬ T93 k ∧ ¬ D89 k) w95 (w104.setCell ⟨w81.heap.size, 0, none⟩ (.int .i64 (IntKind.i64.wrap (n110 + 1)))) ∧
    X91 (some 0) T93 (w104.setCell ⟨w81.heap.size, 0, none⟩ (.int .i64 (IntKind.i64.wrap (n110 + 1))))) (Kp (fun k => ¬ T93 k ∧
    ¬ D89 k) w95 (w104.setCell ⟨w81.heap.size, 0, none⟩ (.int .i64 (IntKind.i64.wrap (n110 + 1)))) ∧
    J90 (j92 + 1) T93 (w104.setCell ⟨w81.heap.size, 0, none⟩ (.int .i64 (IntKind.i64.wrap (n110 + 1)))))))))) ∧ (∀ (T131 : Nat →
    Prop) (w132 : World), J90 n88 T131 w132 → (∀ k, T131 k → ((w81.alloc (.cells #[.int .i64 0] 3)).setCell ⟨w81.heap.size, 0, none⟩ (.int .i64 0)).heap.size ≤ k) →
    w132.heap[((w81.alloc (.cells #[.int .i64 0] 3)).setCell ⟨w81.heap.size, 0, none⟩ (.int .i64 0)).heap.size]? = some (.deferred (some [])) →
    ∃ n133 : Int, w132.cell? ⟨w81.heap.size, 0, none⟩ = some (.int .i64 n133) ∧
    ∃ l134 : Slc, w132.cell? ⟨w68.heap.size, 0, none⟩ = some (.slice l134.a l134.len l134.cap) ∧
    br (decide (n133 = (l134.len : Int))) (Calls Try.prog 29 #[] w132 (Rv fun v135 w136 => ∃ b137 : Bool, v135 = .bool b137 ∧
    (∃ u, w136.cell? ⟨(((w.alloc (.cells #[.slice x_0.a x_0.len x_0.cap] 42)).alloc (.cells #[.int .i64 x_1] 3)).alloc (.cells #[.int .i64 x_2] 3)).heap.size, 0, none⟩ = some u) ∧
    w136.frozen? ⟨(((w.alloc (.cells #[.slice x_0.a x_0.len x_0.cap] 42)).alloc (.cells #[.int .i64 x_1] 3)).alloc (.cells #[.int .i64 x_2] 3)).heap.size, 0, none⟩ = false ∧
    (((w81.alloc (.cells #[.int .i64 0] 3)).setCell ⟨w81.heap.size, 0, none⟩ (.int .i64 0)).heap.size :: ([] : List Nat)).Nodup ∧
    (∀ D, D ∈ (((w81.alloc (.cells #[.int .i64 0] 3)).setCell ⟨w81.heap.size, 0, none⟩ (.int .i64 0)).heap.size :: ([] : List Nat)) →
    (w136.setCell ⟨(((w.alloc (.cells #[.slice x_0.a x_0.len x_0.cap] 42)).alloc (.cells #[.int .i64 x_1] 3)).alloc (.cells #[.int .i64 x_2] 3)).heap.size, 0, none⟩ (.bool b137)).heap[D]? = some (.deferred (some []))) ∧
    ∀ w138 : World, Kp (fun k =>
    k ∈ (((w81.alloc (.cells #[.int .i64 0] 3)).setCell ⟨w81.heap.size, 0, none⟩ (.int .i64 0)).heap.size :: ([] : List Nat))) (w136.setCell ⟨(((w.alloc (.cells #[.slice x_0.a x_0.len x_0.cap] 42)).alloc (.cells #[.int .i64 x_1] 3)).alloc (.cells #[.int .i64 x_2] 3)).heap.size, 0, none⟩ (.bool b137)) w138 →
    ∃ b139 : Bool, w138.cell? ⟨(((w.alloc (.cells #[.slice x_0.a x_0.len x_0.cap] 42)).alloc (.cells #[.int .i64 x_1] 3)).alloc (.cells #[.int .i64 x_2] 3)).heap.size, 0, none⟩ = some (.bool b139) ∧
    R (.bool b139) w138)) (∃ n140 : Int, w132.cell? ⟨w81.heap.size, 0, none⟩ = some (.int .i64 n140) ∧
    ∃ n141 : Int, w132.cell? ⟨((w.alloc (.cells #[.slice x_0.a x_0.len x_0.cap] 42)).alloc (.cells #[.int .i64 x_1] 3)).heap.size, 0, none⟩ = some (.int .i64 n141) ∧
    br (decide (n140 = n141)) (Calls Try.prog 29 #[] w132 (Rv fun v142 w143 => ∃ b144 : Bool, v142 = .bool b144 ∧
    (∃ u, w143.cell? ⟨(((w.alloc (.cells #[.slice x_0.a x_0.len x_0.cap] 42)).alloc (.cells #[.int .i64 x_1] 3)).alloc (.cells #[.int .i64 x_2] 3)).heap.size, 0, none⟩ = some u) ∧
    w143.frozen? ⟨(((w.alloc (.cells #[.slice x_0.a x_0.len x_0.cap] 42)).alloc (.cells #[.int .i64 x_1] 3)).alloc (.cells #[.int .i64 x_2] 3)).heap.size, 0, none⟩ = false ∧
    (((w81.alloc (.cells #[.int .i64 0] 3)).setCell ⟨w81.heap.size, 0, none⟩ (.int .i64 0)).heap.size :: ([] : List Nat)).Nodup ∧
    (∀ D, D ∈ (((w81.alloc (.cells #[.int .i64 0] 3)).setCell ⟨w81.heap.size, 0, none⟩ (.int .i64 0)).heap.size :: ([] : List Nat)) →
    (w143.setCell ⟨(((w.alloc (.cells #[.slice x_0.a x_0.len x_0.cap] 42)).alloc (.cells #[.int .i64 x_1] 3)).alloc (.cells #[.int .i64 x_2] 3)).heap.size, 0, none⟩ (.bool b144)).heap[D]? = some (.deferred (some []))) ∧
    ∀ w145 : World, Kp (fun k =>
    k ∈ (((w81.alloc (.cells #[.int .i64 0] 3)).setCell ⟨w81.heap.size, 0, none⟩ (.int .i64 0)).heap.size :: ([] : List Nat))) (w143.setCell ⟨(((w.alloc (.cells #[.slice x_0.a x_0.len x_0.cap] 42)).alloc (.cells #[.int .i64 x_1] 3)).alloc (.cells #[.int .i64 x_2] 3)).heap.size, 0, none⟩ (.bool b144)) w145 →
    ∃ b146 : Bool, w145.cell? ⟨(((w.alloc (.cells #[.slice x_0.a x_0.len x_0.cap] 42)).alloc (.cells #[.int .i64 x_1] 3)).alloc (.cells #[.int .i64 x_2] 3)).heap.size, 0, none⟩ = some (.bool b146) ∧
    R (.bool b146) w145)) ((∃ u, w132.cell? ⟨(((w.alloc (.cells #[.slice x_0.a x_0.len x_0.cap] 42)).alloc (.cells #[.int .i64 x_1] 3)).alloc (.cells #[.int .i64 x_2] 3)).heap.size, 0, none⟩ = some u) ∧
    w132.frozen? ⟨(((w.alloc (.cells #[.slice x_0.a x_0.len x_0.cap] 42)).alloc (.cells #[.int .i64 x_1] 3)).alloc (.cells #[.int .i64 x_2] 3)).heap.size, 0, none⟩ = false ∧
    (((w81.alloc (.cells #[.int .i64 0] 3)).setCell ⟨w81.heap.size, 0, none⟩ (.int .i64 0)).heap.size :: ([] : List Nat)).Nodup ∧
    (∀ D, D ∈ (((w81.alloc (.cells #[.int .i64 0] 3)).setCell ⟨w81.heap.size, 0, none⟩ (.int .i64 0)).heap.size :: ([] : List Nat)) →
    (w132.setCell ⟨(((w.alloc (.cells #[.slice x_0.a x_0.len x_0.cap] 42)).alloc (.cells #[.int .i64 x_1] 3)).alloc (.cells #[.int .i64 x_2] 3)).heap.size, 0, none⟩ (.bool false)).heap[D]? = some (.deferred (some []))) ∧
    ∀ w147 : World, Kp (fun k =>
    k ∈ (((w81.alloc (.cells #[.int .i64 0] 3)).setCell ⟨w81.heap.size, 0, none⟩ (.int .i64 0)).heap.size :: ([] : List Nat))) (w132.setCell ⟨(((w.alloc (.cells #[.slice x_0.a x_0.len x_0.cap] 42)).alloc (.cells #[.int .i64 x_1] 3)).alloc (.cells #[.int .i64 x_2] 3)).heap.size, 0, none⟩ (.bool false)) w147 →
    ∃ b148 : Bool, w147.cell? ⟨(((w.alloc (.cells #[.slice x_0.a x_0.len x_0.cap] 42)).alloc (.cells #[.int .i64 x_1] 3)).alloc (.cells #[.int .i64 x_2] 3)).heap.size, 0, none⟩ = some (.bool b148) ∧
    R (.bool b148) w147))) ∧ (∀ (T149 : Nat → Prop) (w150 : World), X91 none T149 w150 → (∀ k, T149 k →
    ((w81.alloc (.cells #[.int .i64 0] 3)).setCell ⟨w81.heap.size, 0, none⟩ (.int .i64 0)).heap.size ≤ k) →
    w150.heap[((w81.alloc (.cells #[.int .i64 0] 3)).setCell ⟨w81.heap.size, 0, none⟩ (.int .i64 0)).heap.size]? = some (.deferred (some [])) →
    (((w81.alloc (.cells #[.int .i64 0] 3)).setCell ⟨w81.heap.size, 0, none⟩ (.int .i64 0)).heap.size :: ([] : List Nat)).Nodup ∧
    (∀ D, D ∈ (((w81.alloc (.cells #[.int .i64 0] 3)).setCell ⟨w81.heap.size, 0, none⟩ (.int .i64 0)).heap.size :: ([] : List Nat)) →
    w150.heap[D]? = some (.deferred (some []))) ∧ ∀ w151 : World, Kp (fun k =>
    k ∈ (((w81.alloc (.cells #[.int .i64 0] 3)).setCell ⟨w81.heap.size, 0, none⟩ (.int .i64 0)).heap.size :: ([] : List Nat))) w150 w151 →
    ∃ b152 : Bool, w151.cell? ⟨(((w.alloc (.cells #[.slice x_0.a x_0.len x_0.cap] 42)).alloc (.cells #[.int .i64 x_1] 3)).alloc (.cells #[.int .i64 x_2] 3)).heap.size, 0, none⟩ = some (.bool b152) ∧
    R (.bool b152) w151) ∧ (∀ (T113 : Nat → Prop) (w114 : World), X91 (some 0) T113 w114 → (∀ k, T113 k →
    ((w81.alloc (.cells #[.int .i64 0] 3)).setCell ⟨w81.heap.size, 0, none⟩ (.int .i64 0)).heap.size ≤ k) →
    w114.heap[((w81.alloc (.cells #[.int .i64 0] 3)).setCell ⟨w81.heap.size, 0, none⟩ (.int .i64 0)).heap.size]? = some (.deferred (some [])) →
    ∃ n115 : Int, w114.cell? ⟨w81.heap.size, 0, none⟩ = some (.int .i64 n115) ∧
    ∃ l116 : Slc, w114.cell? ⟨w68.heap.size, 0, none⟩ = some (.slice l116.a l116.len l116.cap) ∧
    br (decide (n115 = (l116.len : Int))) (Calls Try.prog 29 #[] w114 (Rv fun v117 w118 => ∃ b119 : Bool, v117 = .bool b119 ∧
    (∃ u, w118.cell? ⟨(((w.alloc (.cells #[.slice x_0.a x_0.len x_0.cap] 42)).alloc (.cells #[.int .i64 x_1] 3)).alloc (.cells #[.int .i64 x_2] 3)).heap.size, 0, none⟩ = some u) ∧
    w118.frozen? ⟨(((w.alloc (.cells #[.slice x_0.a x_0.len x_0.cap] 42)).alloc (.cells #[.int .i64 x_1] 3)).alloc (.cells #[.int .i64 x_2] 3)).heap.size, 0, none⟩ = false ∧
    (((w81.alloc (.cells #[.int .i64 0] 3)).setCell ⟨w81.heap.size, 0, none⟩ (.int .i64 0)).heap.size :: ([] : List Nat)).Nodup ∧
    (∀ D, D ∈ (((w81.alloc (.cells #[.int .i64 0] 3)).setCell ⟨w81.heap.size, 0, none⟩ (.int .i64 0)).heap.size :: ([] : List Nat)) →
    (w118.setCell ⟨(((w.alloc (.cells #[.slice x_0.a x_0.len x_0.cap] 42)).alloc (.cells #[.int .i64 x_1] 3)).alloc (.cells #[.int .i64 x_2] 3)).heap.size, 0, none⟩ (.bool b119)).heap[D]? = some (.deferred (some []))) ∧
    ∀ w120 : World, Kp (fun k =>
    k ∈ (((w81.alloc (.cells #[.int .i64 0] 3)).setCell ⟨w81.heap.size, 0, none⟩ (.int .i64 0)).heap.size :: ([] : List Nat))) (w118.setCell ⟨(((w.alloc (.cells #[.slice x_0.a x_0.len x_0.cap] 42)).alloc (.cells #[.int .i64 x_1] 3)).alloc (.cells #[.int .i64 x_2] 3)).heap.size, 0, none⟩ (.bool b119)) w120 →
    ∃ b121 : Bool, w120.cell? ⟨(((w.alloc (.cells #[.slice x_0.a x_0.len x_0.cap] 42)).alloc (.cells #[.int .i64 x_1] 3)).alloc (.cells #[.int .i64 x_2] 3)).heap.size, 0, none⟩ = some (.bool b121) ∧
    R (.bool b121) w120)) (∃ n122 : Int, w114.cell? ⟨w81.heap.size, 0, none⟩ = some (.int .i64 n122) ∧
    ∃ n123 : Int, w114.cell? ⟨((w.alloc (.cells #[.slice x_0.a x_0.len x_0.cap] 42)).alloc (.cells #[.int .i64 x_1] 3)).heap.size, 0, none⟩ = some (.int .i64 n123) ∧
    br (decide (n122 = n123)) (Calls Try.prog 29 #[] w114 (Rv fun v124 w125 => ∃ b126 : Bool, v124 = .bool b126 ∧
    (∃ u, w125.cell? ⟨(((w.alloc (.cells #[.slice x_0.a x_0.len x_0.cap] 42)).alloc (.cells #[.int .i64 x_1] 3)).alloc (.cells #[.int .i64 x_2] 3)).heap.size, 0, none⟩ = some u) ∧
    w125.frozen? ⟨(((w.alloc (.cells #[.slice x_0.a x_0.len x_0.cap] 42)).alloc (.cells #[.int .i64 x_1] 3)).alloc (.cells #[.int .i64 x_2] 3)).heap.size, 0, none⟩ = false ∧
    (((w81.alloc (.cells #[.int .i64 0] 3)).setCell ⟨w81.heap.size, 0, none⟩ (.int .i64 0)).heap.size :: ([] : List Nat)).Nodup ∧
    (∀ D, D ∈ (((w81.alloc (.cells #[.int .i64 0] 3)).setCell ⟨w81.heap.size, 0, none⟩ (.int .i64 0)).heap.size :: ([] : List Nat)) →
    (w125.setCell ⟨(((w.alloc (.cells #[.slice x_0.a x_0.len x_0.cap] 42)).alloc (.cells #[.int .i64 x_1] 3)).alloc (.cells #[.int .i64 x_2] 3)).heap.size, 0, none⟩ (.bool b126)).heap[D]? = some (.deferred (some []))) ∧
    ∀ w127 : World, Kp (fun k =>
    k ∈ (((w81.alloc (.cells #[.int .i64 0] 3)).setCell ⟨w81.heap.size, 0, none⟩ (.int .i64 0)).heap.size :: ([] : List Nat))) (w125.setCell ⟨(((w.alloc (.cells #[.slice x_0.a x_0.len x_0.cap] 42)).alloc (.cells #[.int .i64 x_1] 3)).alloc (.cells #[.int .i64 x_2] 3)).heap.size, 0, none⟩ (.bool b126)) w127 →
    ∃ b128 : Bool, w127.cell? ⟨(((w.alloc (.cells #[.slice x_0.a x_0.len x_0.cap] 42)).alloc (.cells #[.int .i64 x_1] 3)).alloc (.cells #[.int .i64 x_2] 3)).heap.size, 0, none⟩ = some (.bool b128) ∧
    R (.bool b128) w127)) ((∃ u, w114.cell? ⟨(((w.alloc (.cells #[.slice x_0.a x_0.len x_0.cap] 42)).alloc (.cells #[.int .i64 x_1] 3)).alloc (.cells #[.int .i64 x_2] 3)).heap.size, 0, none⟩ = some u) ∧
    w114.frozen? ⟨(((w.alloc (.cells #[.slice x_0.a x_0.len x_0.cap] 42)).alloc (.cells #[.int .i64 x_1] 3)).alloc (.cells #[.int .i64 x_2] 3)).heap.size, 0, none⟩ = false ∧
    (((w81.alloc (.cells #[.int .i64 0] 3)).setCell ⟨w81.heap.size, 0, none⟩ (.int .i64 0)).heap.size :: ([] : List Nat)).Nodup ∧
    (∀ D, D ∈ (((w81.alloc (.cells #[.int .i64 0] 3)).setCell ⟨w81.heap.size, 0, none⟩ (.int .i64 0)).heap.size :: ([] : List Nat)) →
    (w114.setCell ⟨(((w.alloc (.cells #[.slice x_0.a x_0.len x_0.cap] 42)).alloc (.cells #[.int .i64 x_1] 3)).alloc (.cells #[.int .i64 x_2] 3)).heap.size, 0, none⟩ (.bool false)).heap[D]? = some (.deferred (some []))) ∧
    ∀ w129 : World, Kp (fun k =>
    k ∈ (((w81.alloc (.cells #[.int .i64 0] 3)).setCell ⟨w81.heap.size, 0, none⟩ (.int .i64 0)).heap.size :: ([] : List Nat))) (w114.setCell ⟨(((w.alloc (.cells #[.slice x_0.a x_0.len x_0.cap] 42)).alloc (.cells #[.int .i64 x_1] 3)).alloc (.cells #[.int .i64 x_2] 3)).heap.size, 0, none⟩ (.bool false)) w129 →
    ∃ b130 : Bool, w129.cell? ⟨(((w.alloc (.cells #[.slice x_0.a x_0.len x_0.cap] 42)).alloc (.cells #[.int .i64 x_1] 3)).alloc (.cells #[.int .i64 x_2] 3)).heap.size, 0, none⟩ = some (.bool b130) ∧
    R (.bool b130) w129)))))) (∃ n153 : Int, (w68.alloc (.cells #[.slice none 0 0] 22)).cell? ⟨(w.alloc (.cells #[.slice x_0.a x_0.len x_0.cap] 42)).heap.size, 0, none⟩ = some (.int .i64 n153) ∧
    Calls Try.prog 55 #[.pointer p22, .int .i64 n153] (w68.alloc (.cells #[.slice none 0 0] 22)) (Rv fun v154 w155 => ∃ v156 : Value, v154 = v156 ∧
    (v156 = .nilFunc ∨ ∃ f x y, v156 = .func f x y) ∧
    br (isNilV v156) ((∃ u, w155.cell? ⟨(((w.alloc (.cells #[.slice x_0.a x_0.len x_0.cap] 42)).alloc (.cells #[.int .i64 x_1] 3)).alloc (.cells #[.int .i64 x_2] 3)).heap.size, 0, none⟩ = some u) ∧
    w155.frozen? ⟨(((w.alloc (.cells #[.slice x_0.a x_0.len x_0.cap] 42)).alloc (.cells #[.int .i64 x_1] 3)).alloc (.cells #[.int .i64 x_2] 3)).heap.size, 0, none⟩ = false ∧
    ([] : List Nat).Nodup ∧ (∀ D, D ∈ ([] : List Nat) →
    (w155.setCell ⟨(((w.alloc (.cells #[.slice x_0.a x_0.len x_0.cap] 42)).alloc (.cells #[.int .i64 x_1] 3)).alloc (.cells #[.int .i64 x_2] 3)).heap.size, 0, none⟩ (.bool false)).heap[D]? = some (.deferred (some []))) ∧
    ∀ w157 : World, Kp (fun k =>
    k ∈ ([] : List Nat)) (w155.setCell ⟨(((w.alloc (.cells #[.slice x_0.a x_0.len x_0.cap] 42)).alloc (.cells #[.int .i64 x_1] 3)).alloc (.cells #[.int .i64 x_2] 3)).heap.size, 0, none⟩ (.bool false)) w157 →
    ∃ b158 : Bool, w157.cell? ⟨(((w.alloc (.cells #[.slice x_0.a x_0.len x_0.cap] 42)).alloc (.cells #[.int .i64 x_1] 3)).alloc (.cells #[.int .i64 x_2] 3)).heap.size, 0, none⟩ = some (.bool b158) ∧
    R (.bool b158) w157) ((∃ u, (w155.alloc (.cells #[.int .i64 0] 3)).cell? ⟨w155.heap.size, 0, none⟩ = some u) ∧
    (w155.alloc (.cells #[.int .i64 0] 3)).frozen? ⟨w155.heap.size, 0, none⟩ = false ∧
    ∃ (g159 : Nat) (A160 C161 : Array Value), v156 = .func (.func g159) A160 C161 ∧ G g159 = true ∧ ∃ n162 : Nat, ∃ f170 : Nat → Int, ∃ f171 : Nat →
    Int, ∃ (D163 : Nat → Prop) (J164 : Nat → (Nat → Prop) → World → Prop) (X165 : Option Nat → (Nat → Prop) → World →
    Prop), Iter Try.prog g159 A160.toList C161.toList ((w155.alloc (.cells #[.int .i64 0] 3)).setCell ⟨w155.heap.size, 0, none⟩ (.int .i64 0)) n162 (fun j =>
    [.int .i64 (f170 j), .int .i64 (f171 j)]) D163 ∧ (∀ k, D163 k →
    k < ((w155.alloc (.cells #[.int .i64 0] 3)).setCell ⟨w155.heap.size, 0, none⟩ (.int .i64 0)).heap.size) ∧ (∀ j, Stab (J164 j)) ∧ (∀ o, Stab (X165 o)) ∧
    J164 0 (fun _ => False) ((w155.alloc (.cells #[.int .i64 0] 3)).setCell ⟨w155.heap.size, 0, none⟩ (.int .i64 0)) ∧ (∀ (j166 : Nat) (T167 : Nat →
    Prop) (w168 : World), j166 < n162 → J164 j166 T167 w168 → (∀ k, T167 k →
    ((w155.alloc (.cells #[.int .i64 0] 3)).setCell ⟨w155.heap.size, 0, none⟩ (.int .i64 0)).heap.size ≤ k) →
    T167 ((w155.alloc (.cells #[.int .i64 0] 3)).setCell ⟨w155.heap.size, 0, none⟩ (.int .i64 0)).heap.size →
    T167 (((w155.alloc (.cells #[.int .i64 0] 3)).setCell ⟨w155.heap.size, 0, none⟩ (.int .i64 0)).heap.size + 1) → (∀ k, T167 k → k < w168.heap.size) → Kp (fun k =>
    ¬ T167 k ∧ ¬ D163 k) w168 w168 ∧ ∀ w169 : World, Kp (fun k =>
    k = ((w155.alloc (.cells #[.int .i64 0] 3)).setCell ⟨w155.heap.size, 0, none⟩ (.int .i64 0)).heap.size + 1) w168 w169 →
    ∃ n172 : Int, (World.drew w169).cell? ⟨w155.heap.size, 0, none⟩ = some (.int .i64 n172) ∧
    ∃ l173 : Slc, (World.drew w169).cell? ⟨w68.heap.size, 0, none⟩ = some (.slice l173.a l173.len l173.cap) ∧
    br (decide ((l173.len : Int) ≤ n172)) ((∃ u, (World.drew w169).cell? ⟨(((w.alloc (.cells #[.slice x_0.a x_0.len x_0.cap] 42)).alloc (.cells #[.int .i64 x_1] 3)).alloc (.cells #[.int .i64 x_2] 3)).heap.size, 0, none⟩ = some u) ∧
    (World.drew w169).frozen? ⟨(((w.alloc (.cells #[.slice x_0.a x_0.len x_0.cap] 42)).alloc (.cells #[.int .i64 x_1] 3)).alloc (.cells #[.int .i64 x_2] 3)).heap.size, 0, none⟩ = false ∧
    Kp (fun k => ¬ T167 k ∧
    ¬ D163 k) w169 ((World.drew w169).setCell ⟨(((w.alloc (.cells #[.slice x_0.a x_0.len x_0.cap] 42)).alloc (.cells #[.int .i64 x_1] 3)).alloc (.cells #[.int .i64 x_2] 3)).heap.size, 0, none⟩ (.bool false)) ∧
    X165 none T167 ((World.drew w169).setCell ⟨(((w.alloc (.cells #[.slice x_0.a x_0.len x_0.cap] 42)).alloc (.cells #[.int .i64 x_1] 3)).alloc (.cells #[.int .i64 x_2] 3)).heap.size, 0, none⟩ (.bool false))) (∃ l174 : Slc, (World.drew w169).cell? ⟨w.heap.size, 0, none⟩ = some (.slice l174.a l174.len l174.cap) ∧
    ∃ n175 : Int, (World.drew w169).cell? ⟨(w.alloc (.cells #[.slice x_0.a x_0.len x_0.cap] 42)).heap.size, 0, none⟩ = some (.int .i64 n175) ∧
    ∃ n176 : Int, (World.drew w169).cell? ⟨w155.heap.size, 0, none⟩ = some (.int .i64 n176) ∧
    Calls Try.prog 34 #[.slice l174.a l174.len l174.cap, .int .i64 n175] (World.drew w169) (Rv fun v177 w178 => ∃ n179 : Int, v177 = .int .i64 n179 ∧
    w178.cell? ⟨w155.heap.size, 0, none⟩ = some (.int .i64 n176) ∧
    br (!(decide ((f170 j166) = (IntKind.i64.wrap (n179 + n176))))) ((∃ u, w178.cell? ⟨(((w.alloc (.cells #[.slice x_0.a x_0.len x_0.cap] 42)).alloc (.cells #[.int .i64 x_1] 3)).alloc (.cells #[.int .i64 x_2] 3)).heap.size, 0, none⟩ = some u) ∧
    w178.frozen? ⟨(((w.alloc (.cells #[.slice x_0.a x_0.len x_0.cap] 42)).alloc (.cells #[.int .i64 x_1] 3)).alloc (.cells #[.int .i64 x_2] 3)).heap.size, 0, none⟩ = false ∧
    Kp (fun k => ¬ T167 k ∧
    ¬ D163 k) w169 (w178.setCell ⟨(((w.alloc (.cells #[.slice x_0.a x_0.len x_0.cap] 42)).alloc (.cells #[.int .i64 x_1] 3)).alloc (.cells #[.int .i64 x_2] 3)).heap.size, 0, none⟩ (.bool false)) ∧
    X165 none T167 (w178.setCell ⟨(((w.alloc (.cells #[.slice x_0.a x_0.len x_0.cap] 42)).alloc (.cells #[.int .i64 x_1] 3)).alloc (.cells #[.int .i64 x_2] 3)).heap.size, 0, none⟩ (.bool false))) (∃ l180 : Slc, w178.cell? ⟨w68.heap.size, 0, none⟩ = some (.slice l180.a l180.len l180.cap) ∧
    ∃ n181 : Int, w178.cell? ⟨w155.heap.size, 0, none⟩ = some (.int .i64 n181) ∧ 0 ≤ n181 ∧ n181 < (l180.len : Int) ∧ ∃ a182, l180.a = some a182 ∧
    ∃ n183 : Int, w178.cell? (Addr.add a182 (n181.toNat * 1)) = some (.int .i64 n183) ∧
    br (!(decide ((f171 j166) = n183))) ((∃ u, w178.cell? ⟨(((w.alloc (.cells #[.slice x_0.a x_0.len x_0.cap] 42)).alloc (.cells #[.int .i64 x_1] 3)).alloc (.cells #[.int .i64 x_2] 3)).heap.size, 0, none⟩ = some u) ∧
    w178.frozen? ⟨(((w.alloc (.cells #[.slice x_0.a x_0.len x_0.cap] 42)).alloc (.cells #[.int .i64 x_1] 3)).alloc (.cells #[.int .i64 x_2] 3)).heap.size, 0, none⟩ = false ∧
    Kp (fun k => ¬ T167 k ∧
    ¬ D163 k) w169 (w178.setCell ⟨(((w.alloc (.cells #[.slice x_0.a x_0.len x_0.cap] 42)).alloc (.cells #[.int .i64 x_1] 3)).alloc (.cells #[.int .i64 x_2] 3)).heap.size, 0, none⟩ (.bool false)) ∧
    X165 none T167 (w178.setCell ⟨(((w.alloc (.cells #[.slice x_0.a x_0.len x_0.cap] 42)).alloc (.cells #[.int .i64 x_1] 3)).alloc (.cells #[.int .i64 x_2] 3)).heap.size, 0, none⟩ (.bool false))) (∃ n184 : Int, w178.cell? ⟨w155.heap.size, 0, none⟩ = some (.int .i64 n184) ∧
    (∃ u, w178.cell? ⟨w155.heap.size, 0, none⟩ = some u) ∧ w178.frozen? ⟨w155.heap.size, 0, none⟩ = false ∧
    ∃ n185 : Int, (w178.setCell ⟨w155.heap.size, 0, none⟩ (.int .i64 (IntKind.i64.wrap (n184 + 1)))).cell? ⟨w155.heap.size, 0, none⟩ = some (.int .i64 n185) ∧
    ∃ n186 : Int, (w178.setCell ⟨w155.heap.size, 0, none⟩ (.int .i64 (IntKind.i64.wrap (n184 + 1)))).cell? ⟨((w.alloc (.cells #[.slice x_0.a x_0.len x_0.cap] 42)).alloc (.cells #[.int .i64 x_1] 3)).heap.size, 0, none⟩ = some (.int .i64 n186) ∧
    br (decide (n185 = n186)) (Kp (fun k => ¬ T167 k ∧ ¬ D163 k) w169 (w178.setCell ⟨w155.heap.size, 0, none⟩ (.int .i64 (IntKind.i64.wrap (n184 + 1)))) ∧
    X165 (some 0) T167 (w178.setCell ⟨w155.heap.size, 0, none⟩ (.int .i64 (IntKind.i64.wrap (n184 + 1))))) (Kp (fun k => ¬ T167 k ∧
    ¬ D163 k) w169 (w178.setCell ⟨w155.heap.size, 0, none⟩ (.int .i64 (IntKind.i64.wrap (n184 + 1)))) ∧
    J164 (j166 + 1) T167 (w178.setCell ⟨w155.heap.size, 0, none⟩ (.int .i64 (IntKind.i64.wrap (n184 + 1)))))))))) ∧ (∀ (T205 : Nat →
    Prop) (w206 : World), J164 n162 T205 w206 → (∀ k, T205 k →
    ((w155.alloc (.cells #[.int .i64 0] 3)).setCell ⟨w155.heap.size, 0, none⟩ (.int .i64 0)).heap.size ≤ k) →
    w206.heap[((w155.alloc (.cells #[.int .i64 0] 3)).setCell ⟨w155.heap.size, 0, none⟩ (.int .i64 0)).heap.size]? = some (.deferred (some [])) →
    ∃ n207 : Int, w206.cell? ⟨w155.heap.size, 0, none⟩ = some (.int .i64 n207) ∧
    ∃ l208 : Slc, w206.cell? ⟨w68.heap.size, 0, none⟩ = some (.slice l208.a l208.len l208.cap) ∧
    br (decide (n207 = (l208.len : Int))) (Calls Try.prog 29 #[] w206 (Rv fun v209 w210 => ∃ b211 : Bool, v209 = .bool b211 ∧
    (∃ u, w210.cell? ⟨(((w.alloc (.cells #[.slice x_0.a x_0.len x_0.cap] 42)).alloc (.cells #[.int .i64 x_1] 3)).alloc (.cells #[.int .i64 x_2] 3)).heap.size, 0, none⟩ = some u) ∧
    w210.frozen? ⟨(((w.alloc (.cells #[.slice x_0.a x_0.len x_0.cap] 42)).alloc (.cells #[.int .i64 x_1] 3)).alloc (.cells #[.int .i64 x_2] 3)).heap.size, 0, none⟩ = false ∧
    (((w155.alloc (.cells #[.int .i64 0] 3)).setCell ⟨w155.heap.size, 0, none⟩ (.int .i64 0)).heap.size :: ([] : List Nat)).Nodup ∧
    (∀ D, D ∈ (((w155.alloc (.cells #[.int .i64 0] 3)).setCell ⟨w155.heap.size, 0, none⟩ (.int .i64 0)).heap.size :: ([] : List Nat)) →
    (w210.setCell ⟨(((w.alloc (.cells #[.slice x_0.a x_0.len x_0.cap] 42)).alloc (.cells #[.int .i64 x_1] 3)).alloc (.cells #[.int .i64 x_2] 3)).heap.size, 0, none⟩ (.bool b211)).heap[D]? = some (.deferred (some []))) ∧
    ∀ w212 : World, Kp (fun k =>
    k ∈ (((w155.alloc (.cells #[.int .i64 0] 3)).setCell ⟨w155.heap.size, 0, none⟩ (.int .i64 0)).heap.size :: ([] : List Nat))) (w210.setCell ⟨(((w.alloc (.cells #[.slice x_0.a x_0.len x_0.cap] 42)).alloc (.cells #[.int .i64 x_1] 3)).alloc (.cells #[.int .i64 x_2] 3)).heap.size, 0, none⟩ (.bool b211)) w212 →
    ∃ b213 : Bool, w212.cell? ⟨(((w.alloc (.cells #[.slice x_0.a x_0.len x_0.cap] 42)).alloc (.cells #[.int .i64 x_1] 3)).alloc (.cells #[.int .i64 x_2] 3)).heap.size, 0, none⟩ = some (.bool b213) ∧
    R (.bool b213) w212)) (∃ n214 : Int, w206.cell? ⟨w155.heap.size, 0, none⟩ = some (.int .i64 n214) ∧
    ∃ n215 : Int, w206.cell? ⟨((w.alloc (.cells #[.slice x_0.a x_0.len x_0.cap] 42)).alloc (.cells #[.int .i64 x_1] 3)).heap.size, 0, none⟩ = some (.int .i64 n215) ∧
    br (decide (n214 = n215)) (Calls Try.prog 29 #[] w206 (Rv fun v216 w217 => ∃ b218 : Bool, v216 = .bool b218 ∧
    (∃ u, w217.cell? ⟨(((w.alloc (.cells #[.slice x_0.a x_0.len x_0.cap] 42)).alloc (.cells #[.int .i64 x_1] 3)).alloc (.cells #[.int .i64 x_2] 3)).heap.size, 0, none⟩ = some u) ∧
    w217.frozen? ⟨(((w.alloc (.cells #[.slice x_0.a x_0.len x_0.cap] 42)).alloc (.cells #[.int .i64 x_1] 3)).alloc (.cells #[.int .i64 x_2] 3)).heap.size, 0, none⟩ = false ∧
    (((w155.alloc (.cells #[.int .i64 0] 3)).setCell ⟨w155.heap.size, 0, none⟩ (.int .i64 0)).heap.size :: ([] : List Nat)).Nodup ∧
    (∀ D, D ∈ (((w155.alloc (.cells #[.int .i64 0] 3)).setCell ⟨w155.heap.size, 0, none⟩ (.int .i64 0)).heap.size :: ([] : List Nat)) →
    (w217.setCell ⟨(((w.alloc (.cells #[.slice x_0.a x_0.len x_0.cap] 42)).alloc (.cells #[.int .i64 x_1] 3)).alloc (.cells #[.int .i64 x_2] 3)).heap.size, 0, none⟩ (.bool b218)).heap[D]? = some (.deferred (some []))) ∧
    ∀ w219 : World, Kp (fun k =>
    k ∈ (((w155.alloc (.cells #[.int .i64 0] 3)).setCell ⟨w155.heap.size, 0, none⟩ (.int .i64 0)).heap.size :: ([] : List Nat))) (w217.setCell ⟨(((w.alloc (.cells #[.slice x_0.a x_0.len x_0.cap] 42)).alloc (.cells #[.int .i64 x_1] 3)).alloc (.cells #[.int .i64 x_2] 3)).heap.size, 0, none⟩ (.bool b218)) w219 →
    ∃ b220 : Bool, w219.cell? ⟨(((w.alloc (.cells #[.slice x_0.a x_0.len x_0.cap] 42)).alloc (.cells #[.int .i64 x_1] 3)).alloc (.cells #[.int .i64 x_2] 3)).heap.size, 0, none⟩ = some (.bool b220) ∧
    R (.bool b220) w219)) ((∃ u, w206.cell? ⟨(((w.alloc (.cells #[.slice x_0.a x_0.len x_0.cap] 42)).alloc (.cells #[.int .i64 x_1] 3)).alloc (.cells #[.int .i64 x_2] 3)).heap.size, 0, none⟩ = some u) ∧
    w206.frozen? ⟨(((w.alloc (.cells #[.slice x_0.a x_0.len x_0.cap] 42)).alloc (.cells #[.int .i64 x_1] 3)).alloc (.cells #[.int .i64 x_2] 3)).heap.size, 0, none⟩ = false ∧
    (((w155.alloc (.cells #[.int .i64 0] 3)).setCell ⟨w155.heap.size, 0, none⟩ (.int .i64 0)).heap.size :: ([] : List Nat)).Nodup ∧
    (∀ D, D ∈ (((w155.alloc (.cells #[.int .i64 0] 3)).setCell ⟨w155.heap.size, 0, none⟩ (.int .i64 0)).heap.size :: ([] : List Nat)) →
    (w206.setCell ⟨(((w.alloc (.cells #[.slice x_0.a x_0.len x_0.cap] 42)).alloc (.cells #[.int .i64 x_1] 3)).alloc (.cells #[.int .i64 x_2] 3)).heap.size, 0, none⟩ (.bool false)).heap[D]? = some (.deferred (some []))) ∧
    ∀ w221 : World, Kp (fun k =>
    k ∈ (((w155.alloc (.cells #[.int .i64 0] 3)).setCell ⟨w155.heap.size, 0, none⟩ (.int .i64 0)).heap.size :: ([] : List Nat))) (w206.setCell ⟨(((w.alloc (.cells #[.slice x_0.a x_0.len x_0.cap] 42)).alloc (.cells #[.int .i64 x_1] 3)).alloc (.cells #[.int .i64 x_2] 3)).heap.size, 0, none⟩ (.bool false)) w221 →
    ∃ b222 : Bool, w221.cell? ⟨(((w.alloc (.cells #[.slice x_0.a x_0.len x_0.cap] 42)).alloc (.cells #[.int .i64 x_1] 3)).alloc (.cells #[.int .i64 x_2] 3)).heap.size, 0, none⟩ = some (.bool b222) ∧
    R (.bool b222) w221))) ∧ (∀ (T223 : Nat → Prop) (w224 : World), X165 none T223 w224 → (∀ k, T223 k →
    ((w155.alloc (.cells #[.int .i64 0] 3)).setCell ⟨w155.heap.size, 0, none⟩ (.int .i64 0)).heap.size ≤ k) →
    w224.heap[((w155.alloc (.cells #[.int .i64 0] 3)).setCell ⟨w155.heap.size, 0, none⟩ (.int .i64 0)).heap.size]? = some (.deferred (some [])) →
    (((w155.alloc (.cells #[.int .i64 0] 3)).setCell ⟨w155.heap.size, 0, none⟩ (.int .i64 0)).heap.size :: ([] : List Nat)).Nodup ∧
    (∀ D, D ∈ (((w155.alloc (.cells #[.int .i64 0] 3)).setCell ⟨w155.heap.size, 0, none⟩ (.int .i64 0)).heap.size :: ([] : List Nat)) →
    w224.heap[D]? = some (.deferred (some []))) ∧ ∀ w225 : World, Kp (fun k =>
    k ∈ (((w155.alloc (.cells #[.int .i64 0] 3)).setCell ⟨w155.heap.size, 0, none⟩ (.int .i64 0)).heap.size :: ([] : List Nat))) w224 w225 →
    ∃ b226 : Bool, w225.cell? ⟨(((w.alloc (.cells #[.slice x_0.a x_0.len x_0.cap] 42)).alloc (.cells #[.int .i64 x_1] 3)).alloc (.cells #[.int .i64 x_2] 3)).heap.size, 0, none⟩ = some (.bool b226) ∧
    R (.bool b226) w225) ∧ (∀ (T187 : Nat → Prop) (w188 : World), X165 (some 0) T187 w188 → (∀ k, T187 k →
    ((w155.alloc (.cells #[.int .i64 0] 3)).setCell ⟨w155.heap.size, 0, none⟩ (.int .i64 0)).heap.size ≤ k) →
    w188.heap[((w155.alloc (.cells #[.int .i64 0] 3)).setCell ⟨w155.heap.size, 0, none⟩ (.int .i64 0)).heap.size]? = some (.deferred (some [])) →
    ∃ n189 : Int, w188.cell? ⟨w155.heap.size, 0, none⟩ = some (.int .i64 n189) ∧
    ∃ l190 : Slc, w188.cell? ⟨w68.heap.size, 0, none⟩ = some (.slice l190.a l190.len l190.cap) ∧
    br (decide (n189 = (l190.len : Int))) (Calls Try.prog 29 #[] w188 (Rv fun v191 w192 => ∃ b193 : Bool, v191 = .bool b193 ∧
    (∃ u, w192.cell? ⟨(((w.alloc (.cells #[.slice x_0.a x_0.len x_0.cap] 42)).alloc (.cells #[.int .i64 x_1] 3)).alloc (.cells #[.int .i64 x_2] 3)).heap.size, 0, none⟩ = some u) ∧
    w192.frozen? ⟨(((w.alloc (.cells #[.slice x_0.a x_0.len x_0.cap] 42)).alloc (.cells #[.int .i64 x_1] 3)).alloc (.cells #[.int .i64 x_2] 3)).heap.size, 0, none⟩ = false ∧
    (((w155.alloc (.cells #[.int .i64 0] 3)).setCell ⟨w155.heap.size, 0, none⟩ (.int .i64 0)).heap.size :: ([] : List Nat)).Nodup ∧
    (∀ D, D ∈ (((w155.alloc (.cells #[.int .i64 0] 3)).setCell ⟨w155.heap.size, 0, none⟩ (.int .i64 0)).heap.size :: ([] : List Nat)) →
    (w192.setCell ⟨(((w.alloc (.cells #[.slice x_0.a x_0.len x_0.cap] 42)).alloc (.cells #[.int .i64 x_1] 3)).alloc (.cells #[.int .i64 x_2] 3)).heap.size, 0, none⟩ (.bool b193)).heap[D]? = some (.deferred (some []))) ∧
    ∀ w194 : World, Kp (fun k =>
    k ∈ (((w155.alloc (.cells #[.int .i64 0] 3)).setCell ⟨w155.heap.size, 0, none⟩ (.int .i64 0)).heap.size :: ([] : List Nat))) (w192.setCell ⟨(((w.alloc (.cells #[.slice x_0.a x_0.len x_0.cap] 42)).alloc (.cells #[.int .i64 x_1] 3)).alloc (.cells #[.int .i64 x_2] 3)).heap.size, 0, none⟩ (.bool b193)) w194 →
    ∃ b195 : Bool, w194.cell? ⟨(((w.alloc (.cells #[.slice x_0.a x_0.len x_0.cap] 42)).alloc (.cells #[.int .i64 x_1] 3)).alloc (.cells #[.int .i64 x_2] 3)).heap.size, 0, none⟩ = some (.bool b195) ∧
    R (.bool b195) w194)) (∃ n196 : Int, w188.cell? ⟨w155.heap.size, 0, none⟩ = some (.int .i64 n196) ∧
    ∃ n197 : Int, w188.cell? ⟨((w.alloc (.cells #[.slice x_0.a x_0.len x_0.cap] 42)).alloc (.cells #[.int .i64 x_1] 3)).heap.size, 0, none⟩ = some (.int .i64 n197) ∧
    br (decide (n196 = n197)) (Calls Try.prog 29 #[] w188 (Rv fun v198 w199 => ∃ b200 : Bool, v198 = .bool b200 ∧
    (∃ u, w199.cell? ⟨(((w.alloc (.cells #[.slice x_0.a x_0.len x_0.cap] 42)).alloc (.cells #[.int .i64 x_1] 3)).alloc (.cells #[.int .i64 x_2] 3)).heap.size, 0, none⟩ = some u) ∧
    w199.frozen? ⟨(((w.alloc (.cells #[.slice x_0.a x_0.len x_0.cap] 42)).alloc (.cells #[.int .i64 x_1] 3)).alloc (.cells #[.int .i64 x_2] 3)).heap.size, 0, none⟩ = false ∧
    (((w155.alloc (.cells #[.int .i64 0] 3)).setCell ⟨w155.heap.size, 0, none⟩ (.int .i64 0)).heap.size :: ([] : List Nat)).Nodup ∧
    (∀ D, D ∈ (((w155.alloc (.cells #[.int .i64 0] 3)).setCell ⟨w155.heap.size, 0, none⟩ (.int .i64 0)).heap.size :: ([] : List Nat)) →
    (w199.setCell ⟨(((w.alloc (.cells #[.slice x_0.a x_0.len x_0.cap] 42)).alloc (.cells #[.int .i64 x_1] 3)).alloc (.cells #[.int .i64 x_2] 3)).heap.size, 0, none⟩ (.bool b200)).heap[D]? = some (.deferred (some []))) ∧
    ∀ w201 : World, Kp (fun k =>
    k ∈ (((w155.alloc (.cells #[.int .i64 0] 3)).setCell ⟨w155.heap.size, 0, none⟩ (.int .i64 0)).heap.size :: ([] : List Nat))) (w199.setCell ⟨(((w.alloc (.cells #[.slice x_0.a x_0.len x_0.cap] 42)).alloc (.cells #[.int .i64 x_1] 3)).alloc (.cells #[.int .i64 x_2] 3)).heap.size, 0, none⟩ (.bool b200)) w201 →
    ∃ b202 : Bool, w201.cell? ⟨(((w.alloc (.cells #[.slice x_0.a x_0.len x_0.cap] 42)).alloc (.cells #[.int .i64 x_1] 3)).alloc (.cells #[.int .i64 x_2] 3)).heap.size, 0, none⟩ = some (.bool b202) ∧
    R (.bool b202) w201)) ((∃ u, w188.cell? ⟨(((w.alloc (.cells #[.slice x_0.a x_0.len x_0.cap] 42)).alloc (.cells #[.int .i64 x_1] 3)).alloc (.cells #[.int .i64 x_2] 3)).heap.size, 0, none⟩ = some u) ∧
    w188.frozen? ⟨(((w.alloc (.cells #[.slice x_0.a x_0.len x_0.cap] 42)).alloc (.cells #[.int .i64 x_1] 3)).alloc (.cells #[.int .i64 x_2] 3)).heap.size, 0, none⟩ = false ∧
    (((w155.alloc (.cells #[.int .i64 0] 3)).setCell ⟨w155.heap.size, 0, none⟩ (.int .i64 0)).heap.size :: ([] : List Nat)).Nodup ∧
    (∀ D, D ∈ (((w155.alloc (.cells #[.int .i64 0] 3)).setCell ⟨w155.heap.size, 0, none⟩ (.int .i64 0)).heap.size :: ([] : List Nat)) →
    (w188.setCell ⟨(((w.alloc (.cells #[.slice x_0.a x_0.len x_0.cap] 42)).alloc (.cells #[.int .i64 x_1] 3)).alloc (.cells #[.int .i64 x_2] 3)).heap.size, 0, none⟩ (.bool false)).heap[D]? = some (.deferred (some []))) ∧
    ∀ w203 : World, Kp (fun k =>
    k ∈ (((w155.alloc (.cells #[.int .i64 0] 3)).setCell ⟨w155.heap.size, 0, none⟩ (.int .i64 0)).heap.size :: ([] : List Nat))) (w188.setCell ⟨(((w.alloc (.cells #[.slice x_0.a x_0.len x_0.cap] 42)).alloc (.cells #[.int .i64 x_1] 3)).alloc (.cells #[.int .i64 x_2] 3)).heap.size, 0, none⟩ (.bool false)) w203 →
    ∃ b204 : Bool, w203.cell? ⟨(((w.alloc (.cells #[.slice x_0.a x_0.len x_0.cap] 42)).alloc (.cells #[.int .i64 x_1] 3)).alloc (.cells #[.int .i64 x_2] 3)).heap.size, 0, none⟩ = some (.bool b204) ∧
    R (.bool b204) w203))))))) (∃ n227 : Int, (w68.alloc (.cells #[.slice none 0 0] 22)).cell? ⟨(w.alloc (.cells #[.slice x_0.a x_0.len x_0.cap] 42)).heap.size, 0, none⟩ = some (.int .i64 n227) ∧
    Calls Try.prog 55 #[.pointer p22, .int .i64 n227] (w68.alloc (.cells #[.slice none 0 0] 22)) (Rv fun v228 w229 => ∃ v230 : Value, v228 = v230 ∧
    (v230 = .nilFunc ∨ ∃ f x y, v230 = .func f x y) ∧
    br (isNilV v230) ((∃ u, w229.cell? ⟨(((w.alloc (.cells #[.slice x_0.a x_0.len x_0.cap] 42)).alloc (.cells #[.int .i64 x_1] 3)).alloc (.cells #[.int .i64 x_2] 3)).heap.size, 0, none⟩ = some u) ∧
    w229.frozen? ⟨(((w.alloc (.cells #[.slice x_0.a x_0.len x_0.cap] 42)).alloc (.cells #[.int .i64 x_1] 3)).alloc (.cells #[.int .i64 x_2] 3)).heap.size, 0, none⟩ = false ∧
    ([] : List Nat).Nodup ∧ (∀ D, D ∈ ([] : List Nat) →
    (w229.setCell ⟨(((w.alloc (.cells #[.slice x_0.a x_0.len x_0.cap] 42)).alloc (.cells #[.int .i64 x_1] 3)).alloc (.cells #[.int .i64 x_2] 3)).heap.size, 0, none⟩ (.bool false)).heap[D]? = some (.deferred (some []))) ∧
    ∀ w231 : World, Kp (fun k =>
    k ∈ ([] : List Nat)) (w229.setCell ⟨(((w.alloc (.cells #[.slice x_0.a x_0.len x_0.cap] 42)).alloc (.cells #[.int .i64 x_1] 3)).alloc (.cells #[.int .i64 x_2] 3)).heap.size, 0, none⟩ (.bool false)) w231 →
    ∃ b232 : Bool, w231.cell? ⟨(((w.alloc (.cells #[.slice x_0.a x_0.len x_0.cap] 42)).alloc (.cells #[.int .i64 x_1] 3)).alloc (.cells #[.int .i64 x_2] 3)).heap.size, 0, none⟩ = some (.bool b232) ∧
    R (.bool b232) w231) ((∃ u, (w229.alloc (.cells #[.int .i64 0] 3)).cell? ⟨w229.heap.size, 0, none⟩ = some u) ∧
    (w229.alloc (.cells #[.int .i64 0] 3)).frozen? ⟨w229.heap.size, 0, none⟩ = false ∧
    ∃ (g233 : Nat) (A234 C235 : Array Value), v230 = .func (.func g233) A234 C235 ∧ G g233 = true ∧ ∃ n236 : Nat, ∃ f244 : Nat → Int, ∃ f245 : Nat →
    Int, ∃ (D237 : Nat → Prop) (J238 : Nat → (Nat → Prop) → World → Prop) (X239 : Option Nat → (Nat → Prop) → World →
    Prop), Iter Try.prog g233 A234.toList C235.toList ((w229.alloc (.cells #[.int .i64 0] 3)).setCell ⟨w229.heap.size, 0, none⟩ (.int .i64 0)) n236 (fun j =>
    [.int .i64 (f244 j), .int .i64 (f245 j)]) D237 ∧ (∀ k, D237 k →
    k < ((w229.alloc (.cells #[.int .i64 0] 3)).setCell ⟨w229.heap.size, 0, none⟩ (.int .i64 0)).heap.size) ∧ (∀ j, Stab (J238 j)) ∧ (∀ o, Stab (X239 o)) ∧
    J238 0 (fun _ => False) ((w229.alloc (.cells #[.int .i64 0] 3)).setCell ⟨w229.heap.size, 0, none⟩ (.int .i64 0)) ∧ (∀ (j240 : Nat) (T241 : Nat →
    Prop) (w242 : World), j240 < n236 → J238 j240 T241 w242 → (∀ k, T241 k →
    ((w229.alloc (.cells #[.int .i64 0] 3)).setCell ⟨w229.heap.size, 0, none⟩ (.int .i64 0)).heap.size ≤ k) →
    T241 ((w229.alloc (.cells #[.int .i64 0] 3)).setCell ⟨w229.heap.size, 0, none⟩ (.int .i64 0)).heap.size →
    T241 (((w229.alloc (.cells #[.int .i64 0] 3)).setCell ⟨w229.heap.size, 0, none⟩ (.int .i64 0)).heap.size + 1) → (∀ k, T241 k → k < w242.heap.size) → Kp (fun k =>
    ¬ T241 k ∧ ¬ D237 k) w242 w242 ∧ ∀ w243 : World, Kp (fun k =>
    k = ((w229.alloc (.cells #[.int .i64 0] 3)).setCell ⟨w229.heap.size, 0, none⟩ (.int .i64 0)).heap.size + 1) w242 w243 →
    ∃ n246 : Int, (World.drew w243).cell? ⟨w229.heap.size, 0, none⟩ = some (.int .i64 n246) ∧
    ∃ l247 : Slc, (World.drew w243).cell? ⟨w68.heap.size, 0, none⟩ = some (.slice l247.a l247.len l247.cap) ∧
    br (decide ((l247.len : Int) ≤ n246)) ((∃ u, (World.drew w243).cell? ⟨(((w.alloc (.cells #[.slice x_0.a x_0.len x_0.cap] 42)).alloc (.cells #[.int .i64 x_1] 3)).alloc (.cells #[.int .i64 x_2] 3)).heap.size, 0, none⟩ = some u) ∧
    (World.drew w243).frozen? ⟨(((w.alloc (.cells #[.slice x_0.a x_0.len x_0.cap] 42)).alloc (.cells #[.int .i64 x_1] 3)).alloc (.cells #[.int .i64 x_2] 3)).heap.size, 0, none⟩ = false ∧
    Kp (fun k => ¬ T241 k ∧
    ¬ D237 k) w243 ((World.drew w243).setCell ⟨(((w.alloc (.cells #[.slice x_0.a x_0.len x_0.cap] 42)).alloc (.cells #[.int .i64 x_1] 3)).alloc (.cells #[.int .i64 x_2] 3)).heap.size, 0, none⟩ (.bool false)) ∧
    X239 none T241 ((World.drew w243).setCell ⟨(((w.alloc (.cells #[.slice x_0.a x_0.len x_0.cap] 42)).alloc (.cells #[.int .i64 x_1] 3)).alloc (.cells #[.int .i64 x_2] 3)).heap.size, 0, none⟩ (.bool false))) (∃ l248 : Slc, (World.drew w243).cell? ⟨w.heap.size, 0, none⟩ = some (.slice l248.a l248.len l248.cap) ∧
    ∃ n249 : Int, (World.drew w243).cell? ⟨(w.alloc (.cells #[.slice x_0.a x_0.len x_0.cap] 42)).heap.size, 0, none⟩ = some (.int .i64 n249) ∧
    ∃ n250 : Int, (World.drew w243).cell? ⟨w229.heap.size, 0, none⟩ = some (.int .i64 n250) ∧
    Calls Try.prog 34 #[.slice l248.a l248.len l248.cap, .int .i64 n249] (World.drew w243) (Rv fun v251 w252 => ∃ n253 : Int, v251 = .int .i64 n253 ∧
    w252.cell? ⟨w229.heap.size, 0, none⟩ = some (.int .i64 n250) ∧
    br (!(decide ((f244 j240) = (IntKind.i64.wrap (n253 + n250))))) ((∃ u, w252.cell? ⟨(((w.alloc (.cells #[.slice x_0.a x_0.len x_0.cap] 42)).alloc (.cells #[.int .i64 x_1] 3)).alloc (.cells #[.int .i64 x_2] 3)).heap.size, 0, none⟩ = some u) ∧
    w252.frozen? ⟨(((w.alloc (.cells #[.slice x_0.a x_0.len x_0.cap] 42)).alloc (.cells #[.int .i64 x_1] 3)).alloc (.cells #[.int .i64 x_2] 3)).heap.size, 0, none⟩ = false ∧
    Kp (fun k => ¬ T241 k ∧
    ¬ D237 k) w243 (w252.setCell ⟨(((w.alloc (.cells #[.slice x_0.a x_0.len x_0.cap] 42)).alloc (.cells #[.int .i64 x_1] 3)).alloc (.cells #[.int .i64 x_2] 3)).heap.size, 0, none⟩ (.bool false)) ∧
    X239 none T241 (w252.setCell ⟨(((w.alloc (.cells #[.slice x_0.a x_0.len x_0.cap] 42)).alloc (.cells #[.int .i64 x_1] 3)).alloc (.cells #[.int .i64 x_2] 3)).heap.size, 0, none⟩ (.bool false))) (∃ l254 : Slc, w252.cell? ⟨w68.heap.size, 0, none⟩ = some (.slice l254.a l254.len l254.cap) ∧
    ∃ n255 : Int, w252.cell? ⟨w229.heap.size, 0, none⟩ = some (.int .i64 n255) ∧ 0 ≤ n255 ∧ n255 < (l254.len : Int) ∧ ∃ a256, l254.a = some a256 ∧
    ∃ n257 : Int, w252.cell? (Addr.add a256 (n255.toNat * 1)) = some (.int .i64 n257) ∧
    br (!(decide ((f245 j240) = n257))) ((∃ u, w252.cell? ⟨(((w.alloc (.cells #[.slice x_0.a x_0.len x_0.cap] 42)).alloc (.cells #[.int .i64 x_1] 3)).alloc (.cells #[.int .i64 x_2] 3)).heap.size, 0, none⟩ = some u) ∧
    w252.frozen? ⟨(((w.alloc (.cells #[.slice x_0.a x_0.len x_0.cap] 42)).alloc (.cells #[.int .i64 x_1] 3)).alloc (.cells #[.int .i64 x_2] 3)).heap.size, 0, none⟩ = false ∧
    Kp (fun k => ¬ T241 k ∧
    ¬ D237 k) w243 (w252.setCell ⟨(((w.alloc (.cells #[.slice x_0.a x_0.len x_0.cap] 42)).alloc (.cells #[.int .i64 x_1] 3)).alloc (.cells #[.int .i64 x_2] 3)).heap.size, 0, none⟩ (.bool false)) ∧
    X239 none T241 (w252.setCell ⟨(((w.alloc (.cells #[.slice x_0.a x_0.len x_0.cap] 42)).alloc (.cells #[.int .i64 x_1] 3)).alloc (.cells #[.int .i64 x_2] 3)).heap.size, 0, none⟩ (.bool false))) (∃ n258 : Int, w252.cell? ⟨w229.heap.size, 0, none⟩ = some (.int .i64 n258) ∧
    (∃ u, w252.cell? ⟨w229.heap.size, 0, none⟩ = some u) ∧ w252.frozen? ⟨w229.heap.size, 0, none⟩ = false ∧
    ∃ n259 : Int, (w252.setCell ⟨w229.heap.size, 0, none⟩ (.int .i64 (IntKind.i64.wrap (n258 + 1)))).cell? ⟨w229.heap.size, 0, none⟩ = some (.int .i64 n259) ∧
    ∃ n260 : Int, (w252.setCell ⟨w229.heap.size, 0, none⟩ (.int .i64 (IntKind.i64.wrap (n258 + 1)))).cell? ⟨((w.alloc (.cells #[.slice x_0.a x_0.len x_0.cap] 42)).alloc (.cells #[.int .i64 x_1] 3)).heap.size, 0, none⟩ = some (.int .i64 n260) ∧
    br (decide (n259 = n260)) (Kp (fun k => ¬ T241 k ∧ ¬ D237 k) w243 (w252.setCell ⟨w229.heap.size, 0, none⟩ (.int .i64 (IntKind.i64.wrap (n258 + 1)))) ∧
    X239 (some 0) T241 (w252.setCell ⟨w229.heap.size, 0, none⟩ (.int .i64 (IntKind.i64.wrap (n258 + 1))))) (Kp (fun k => ¬ T241 k ∧
    ¬ D237 k) w243 (w252.setCell ⟨w229.heap.size, 0, none⟩ (.int .i64 (IntKind.i64.wrap (n258 + 1)))) ∧
    J238 (j240 + 1) T241 (w252.setCell ⟨w229.heap.size, 0, none⟩ (.int .i64 (IntKind.i64.wrap (n258 + 1)))))))))) ∧ (∀ (T279 : Nat →
    Prop) (w280 : World), J238 n236 T279 w280 → (∀ k, T279 k →
    ((w229.alloc (.cells #[.int .i64 0] 3)).setCell ⟨w229.heap.size, 0, none⟩ (.int .i64 0)).heap.size ≤ k) →
    w280.heap[((w229.alloc (.cells #[.int .i64 0] 3)).setCell ⟨w229.heap.size, 0, none⟩ (.int .i64 0)).heap.size]? = some (.deferred (some [])) →
    ∃ n281 : Int, w280.cell? ⟨w229.heap.size, 0, none⟩ = some (.int .i64 n281) ∧
    ∃ l282 : Slc, w280.cell? ⟨w68.heap.size, 0, none⟩ = some (.slice l282.a l282.len l282.cap) ∧
    br (decide (n281 = (l282.len : Int))) (Calls Try.prog 29 #[] w280 (Rv fun v283 w284 => ∃ b285 : Bool, v283 = .bool b285 ∧
    (∃ u, w284.cell? ⟨(((w.alloc (.cells #[.slice x_0.a x_0.len x_0.cap] 42)).alloc (.cells #[.int .i64 x_1] 3)).alloc (.cells #[.int .i64 x_2] 3)).heap.size, 0, none⟩ = some u) ∧
    w284.frozen? ⟨(((w.alloc (.cells #[.slice x_0.a x_0.len x_0.cap] 42)).alloc (.cells #[.int .i64 x_1] 3)).alloc (.cells #[.int .i64 x_2] 3)).heap.size, 0, none⟩ = false ∧
    (((w229.alloc (.cells #[.int .i64 0] 3)).setCell ⟨w229.heap.size, 0, none⟩ (.int .i64 0)).heap.size :: ([] : List Nat)).Nodup ∧
    (∀ D, D ∈ (((w229.alloc (.cells #[.int .i64 0] 3)).setCell ⟨w229.heap.size, 0, none⟩ (.int .i64 0)).heap.size :: ([] : List Nat)) →
    (w284.setCell ⟨(((w.alloc (.cells #[.slice x_0.a x_0.len x_0.cap] 42)).alloc (.cells #[.int .i64 x_1] 3)).alloc (.cells #[.int .i64 x_2] 3)).heap.size, 0, none⟩ (.bool b285)).heap[D]? = some (.deferred (some []))) ∧
    ∀ w286 : World, Kp (fun k =>
    k ∈ (((w229.alloc (.cells #[.int .i64 0] 3)).setCell ⟨w229.heap.size, 0, none⟩ (.int .i64 0)).heap.size :: ([] : List Nat))) (w284.setCell ⟨(((w.alloc (.cells #[.slice x_0.a x_0.len x_0.cap] 42)).alloc (.cells #[.int .i64 x_1] 3)).alloc (.cells #[.int .i64 x_2] 3)).heap.size, 0, none⟩ (.bool b285)) w286 →
    ∃ b287 : Bool, w286.cell? ⟨(((w.alloc (.cells #[.slice x_0.a x_0.len x_0.cap] 42)).alloc (.cells #[.int .i64 x_1] 3)).alloc (.cells #[.int .i64 x_2] 3)).heap.size, 0, none⟩ = some (.bool b287) ∧
    R (.bool b287) w286)) (∃ n288 : Int, w280.cell? ⟨w229.heap.size, 0, none⟩ = some (.int .i64 n288) ∧
    ∃ n289 : Int, w280.cell? ⟨((w.alloc (.cells #[.slice x_0.a x_0.len x_0.cap] 42)).alloc (.cells #[.int .i64 x_1] 3)).heap.size, 0, none⟩ = some (.int .i64 n289) ∧
    br (decide (n288 = n289)) (Calls Try.prog 29 #[] w280 (Rv fun v290 w291 => ∃ b292 : Bool, v290 = .bool b292 ∧
    (∃ u, w291.cell? ⟨(((w.alloc (.cells #[.slice x_0.a x_0.len x_0.cap] 42)).alloc (.cells #[.int .i64 x_1] 3)).alloc (.cells #[.int .i64 x_2] 3)).heap.size, 0, none⟩ = some u) ∧
    w291.frozen? ⟨(((w.alloc (.cells #[.slice x_0.a x_0.len x_0.cap] 42)).alloc (.cells #[.int .i64 x_1] 3)).alloc (.cells #[.int .i64 x_2] 3)).heap.size, 0, none⟩ = false ∧
    (((w229.alloc (.cells #[.int .i64 0] 3)).setCell ⟨w229.heap.size, 0, none⟩ (.int .i64 0)).heap.size :: ([] : List Nat)).Nodup ∧
    (∀ D, D ∈ (((w229.alloc (.cells #[.int .i64 0] 3)).setCell ⟨w229.heap.size, 0, none⟩ (.int .i64 0)).heap.size :: ([] : List Nat)) →
    (w291.setCell ⟨(((w.alloc (.cells #[.slice x_0.a x_0.len x_0.cap] 42)).alloc (.cells #[.int .i64 x_1] 3)).alloc (.cells #[.int .i64 x_2] 3)).heap.size, 0, none⟩ (.bool b292)).heap[D]? = some (.deferred (some []))) ∧
    ∀ w293 : World, Kp (fun k =>
    k ∈ (((w229.alloc (.cells #[.int .i64 0] 3)).setCell ⟨w229.heap.size, 0, none⟩ (.int .i64 0)).heap.size :: ([] : List Nat))) (w291.setCell ⟨(((w.alloc (.cells #[.slice x_0.a x_0.len x_0.cap] 42)).alloc (.cells #[.int .i64 x_1] 3)).alloc (.cells #[.int .i64 x_2] 3)).heap.size, 0, none⟩ (.bool b292)) w293 →
    ∃ b294 : Bool, w293.cell? ⟨(((w.alloc (.cells #[.slice x_0.a x_0.len x_0.cap] 42)).alloc (.cells #[.int .i64 x_1] 3)).alloc (.cells #[.int .i64 x_2] 3)).heap.size, 0, none⟩ = some (.bool b294) ∧
    R (.bool b294) w293)) ((∃ u, w280.cell? ⟨(((w.alloc (.cells #[.slice x_0.a x_0.len x_0.cap] 42)).alloc (.cells #[.int .i64 x_1] 3)).alloc (.cells #[.int .i64 x_2] 3)).heap.size, 0, none⟩ = some u) ∧
    w280.frozen? ⟨(((w.alloc (.cells #[.slice x_0.a x_0.len x_0.cap] 42)).alloc (.cells #[.int .i64 x_1] 3)).alloc (.cells #[.int .i64 x_2] 3)).heap.size, 0, none⟩ = false ∧
    (((w229.alloc (.cells #[.int .i64 0] 3)).setCell ⟨w229.heap.size, 0, none⟩ (.int .i64 0)).heap.size :: ([] : List Nat)).Nodup ∧
    (∀ D, D ∈ (((w229.alloc (.cells #[.int .i64 0] 3)).setCell ⟨w229.heap.size, 0, none⟩ (.int .i64 0)).heap.size :: ([] : List Nat)) →
    (w280.setCell ⟨(((w.alloc (.cells #[.slice x_0.a x_0.len x_0.cap] 42)).alloc (.cells #[.int .i64 x_1] 3)).alloc (.cells #[.int .i64 x_2] 3)).heap.size, 0, none⟩ (.bool false)).heap[D]? = some (.deferred (some []))) ∧
    ∀ w295 : World, Kp (fun k =>
    k ∈ (((w229.alloc (.cells #[.int .i64 0] 3)).setCell ⟨w229.heap.size, 0, none⟩ (.int .i64 0)).heap.size :: ([] : List Nat))) (w280.setCell ⟨(((w.alloc (.cells #[.slice x_0.a x_0.len x_0.cap] 42)).alloc (.cells #[.int .i64 x_1] 3)).alloc (.cells #[.int .i64 x_2] 3)).heap.size, 0, none⟩ (.bool false)) w295 →
    ∃ b296 : Bool, w295.cell? ⟨(((w.alloc (.cells #[.slice x_0.a x_0.len x_0.cap] 42)).alloc (.cells #[.int .i64 x_1] 3)).alloc (.cells #[.int .i64 x_2] 3)).heap.size, 0, none⟩ = some (.bool b296) ∧
    R (.bool b296) w295))) ∧ (∀ (T297 : Nat → Prop) (w298 : World), X239 none T297 w298 → (∀ k, T297 k →
    ((w229.alloc (.cells #[.int .i64 0] 3)).setCell ⟨w229.heap.size, 0, none⟩ (.int .i64 0)).heap.size ≤ k) →
    w298.heap[((w229.alloc (.cells #[.int .i64 0] 3)).setCell ⟨w229.heap.size, 0, none⟩ (.int .i64 0)).heap.size]? = some (.deferred (some [])) →
    (((w229.alloc (.cells #[.int .i64 0] 3)).setCell ⟨w229.heap.size, 0, none⟩ (.int .i64 0)).heap.size :: ([] : List Nat)).Nodup ∧
    (∀ D, D ∈ (((w229.alloc (.cells #[.int .i64 0] 3)).setCell ⟨w229.heap.size, 0, none⟩ (.int .i64 0)).heap.size :: ([] : List Nat)) →
    w298.heap[D]? = some (.deferred (some []))) ∧ ∀ w299 : World, Kp (fun k =>
    k ∈ (((w229.alloc (.cells #[.int .i64 0] 3)).setCell ⟨w229.heap.size, 0, none⟩ (.int .i64 0)).heap.size :: ([] : List Nat))) w298 w299 →
    ∃ b300 : Bool, w299.cell? ⟨(((w.alloc (.cells #[.slice x_0.a x_0.len x_0.cap] 42)).alloc (.cells #[.int .i64 x_1] 3)).alloc (.cells #[.int .i64 x_2] 3)).heap.size, 0, none⟩ = some (.bool b300) ∧
    R (.bool b300) w299) ∧ (∀ (T261 : Nat → Prop) (w262 : World), X239 (some 0) T261 w262 → (∀ k, T261 k →
    ((w229.alloc (.cells #[.int .i64 0] 3)).setCell ⟨w229.heap.size, 0, none⟩ (.int .i64 0)).heap.size ≤ k) →
    w262.heap[((w229.alloc (.cells #[.int .i64 0] 3)).setCell ⟨w229.heap.size, 0, none⟩ (.int .i64 0)).heap.size]? = some (.deferred (some [])) →
    ∃ n263 : Int, w262.cell? ⟨w229.heap.size, 0, none⟩ = some (.int .i64 n263) ∧
    ∃ l264 : Slc, w262.cell? ⟨w68.heap.size, 0, none⟩ = some (.slice l264.a l264.len l264.cap) ∧
    br (decide (n263 = (l264.len : Int))) (Calls Try.prog 29 #[] w262 (Rv fun v265 w266 => ∃ b267 : Bool, v265 = .bool b267 ∧
    (∃ u, w266.cell? ⟨(((w.alloc (.cells #[.slice x_0.a x_0.len x_0.cap] 42)).alloc (.cells #[.int .i64 x_1] 3)).alloc (.cells #[.int .i64 x_2] 3)).heap.size, 0, none⟩ = some u) ∧
    w266.frozen? ⟨(((w.alloc (.cells #[.slice x_0.a x_0.len x_0.cap] 42)).alloc (.cells #[.int .i64 x_1] 3)).alloc (.cells #[.int .i64 x_2] 3)).heap.size, 0, none⟩ = false ∧
    (((w229.alloc (.cells #[.int .i64 0] 3)).setCell ⟨w229.heap.size, 0, none⟩ (.int .i64 0)).heap.size :: ([] : List Nat)).Nodup ∧
    (∀ D, D ∈ (((w229.alloc (.cells #[.int .i64 0] 3)).setCell ⟨w229.heap.size, 0, none⟩ (.int .i64 0)).heap.size :: ([] : List Nat)) →
    (w266.setCell ⟨(((w.alloc (.cells #[.slice x_0.a x_0.len x_0.cap] 42)).alloc (.cells #[.int .i64 x_1] 3)).alloc (.cells #[.int .i64 x_2] 3)).heap.size, 0, none⟩ (.bool b267)).heap[D]? = some (.deferred (some []))) ∧
    ∀ w268 : World, Kp (fun k =>
    k ∈ (((w229.alloc (.cells #[.int .i64 0] 3)).setCell ⟨w229.heap.size, 0, none⟩ (.int .i64 0)).heap.size :: ([] : List Nat))) (w266.setCell ⟨(((w.alloc (.cells #[.slice x_0.a x_0.len x_0.cap] 42)).alloc (.cells #[.int .i64 x_1] 3)).alloc (.cells #[.int .i64 x_2] 3)).heap.size, 0, none⟩ (.bool b267)) w268 →
    ∃ b269 : Bool, w268.cell? ⟨(((w.alloc (.cells #[.slice x_0.a x_0.len x_0.cap] 42)).alloc (.cells #[.int .i64 x_1] 3)).alloc (.cells #[.int .i64 x_2] 3)).heap.size, 0, none⟩ = some (.bool b269) ∧
    R (.bool b269) w268)) (∃ n270 : Int, w262.cell? ⟨w229.heap.size, 0, none⟩ = some (.int .i64 n270) ∧
    ∃ n271 : Int, w262.cell? ⟨((w.alloc (.cells #[.slice x_0.a x_0.len x_0.cap] 42)).alloc (.cells #[.int .i64 x_1] 3)).heap.size, 0, none⟩ = some (.int .i64 n271) ∧
    br (decide (n270 = n271)) (Calls Try.prog 29 #[] w262 (Rv fun v272 w273 => ∃ b274 : Bool, v272 = .bool b274 ∧
    (∃ u, w273.cell? ⟨(((w.alloc (.cells #[.slice x_0.a x_0.len x_0.cap] 42)).alloc (.cells #[.int .i64 x_1] 3)).alloc (.cells #[.int .i64 x_2] 3)).heap.size, 0, none⟩ = some u) ∧
    w273.frozen? ⟨(((w.alloc (.cells #[.slice x_0.a x_0.len x_0.cap] 42)).alloc (.cells #[.int .i64 x_1] 3)).alloc (.cells #[.int .i64 x_2] 3)).heap.size, 0, none⟩ = false ∧
    (((w229.alloc (.cells #[.int .i64 0] 3)).setCell ⟨w229.heap.size, 0, none⟩ (.int .i64 0)).heap.size :: ([] : List Nat)).Nodup ∧
    (∀ D, D ∈ (((w229.alloc (.cells #[.int .i64 0] 3)).setCell ⟨w229.heap.size, 0, none⟩ (.int .i64 0)).heap.size :: ([] : List Nat)) →
    (w273.setCell ⟨(((w.alloc (.cells #[.slice x_0.a x_0.len x_0.cap] 42)).alloc (.cells #[.int .i64 x_1] 3)).alloc (.cells #[.int .i64 x_2] 3)).heap.size, 0, none⟩ (.bool b274)).heap[D]? = some (.deferred (some []))) ∧
    ∀ w275 : World, Kp (fun k =>
    k ∈ (((w229.alloc (.cells #[.int .i64 0] 3)).setCell ⟨w229.heap.size, 0, none⟩ (.int .i64 0)).heap.size :: ([] : List Nat))) (w273.setCell ⟨(((w.alloc (.cells #[.slice x_0.a x_0.len x_0.cap] 42)).alloc (.cells #[.int .i64 x_1] 3)).alloc (.cells #[.int .i64 x_2] 3)).heap.size, 0, none⟩ (.bool b274)) w275 →
    ∃ b276 : Bool, w275.cell? ⟨(((w.alloc (.cells #[.slice x_0.a x_0.len x_0.cap] 42)).alloc (.cells #[.int .i64 x_1] 3)).alloc (.cells #[.int .i64 x_2] 3)).heap.size, 0, none⟩ = some (.bool b276) ∧
    R (.bool b276) w275)) ((∃ u, w262.cell? ⟨(((w.alloc (.cells #[.slice x_0.a x_0.len x_0.cap] 42)).alloc (.cells #[.int .i64 x_1] 3)).alloc (.cells #[.int .i64 x_2] 3)).heap.size, 0, none⟩ = some u) ∧
    w262.frozen? ⟨(((w.alloc (.cells #[.slice x_0.a x_0.len x_0.cap] 42)).alloc (.cells #[.int .i64 x_1] 3)).alloc (.cells #[.int .i64 x_2] 3)).heap.size, 0, none⟩ = false ∧
    (((w229.alloc (.cells #[.int .i64 0] 3)).setCell ⟨w229.heap.size, 0, none⟩ (.int .i64 0)).heap.size :: ([] : List Nat)).Nodup ∧
    (∀ D, D ∈ (((w229.alloc (.cells #[.int .i64 0] 3)).setCell ⟨w229.heap.size, 0, none⟩ (.int .i64 0)).heap.size :: ([] : List Nat)) →
    (w262.setCell ⟨(((w.alloc (.cells #[.slice x_0.a x_0.len x_0.cap] 42)).alloc (.cells #[.int .i64 x_1] 3)).alloc (.cells #[.int .i64 x_2] 3)).heap.size, 0, none⟩ (.bool false)).heap[D]? = some (.deferred (some []))) ∧
    ∀ w277 : World, Kp (fun k =>
    k ∈ (((w229.alloc (.cells #[.int .i64 0] 3)).setCell ⟨w229.heap.size, 0, none⟩ (.int .i64 0)).heap.size :: ([] : List Nat))) (w262.setCell ⟨(((w.alloc (.cells #[.slice x_0.a x_0.len x_0.cap] 42)).alloc (.cells #[.int .i64 x_1] 3)).alloc (.cells #[.int .i64 x_2] 3)).heap.size, 0, none⟩ (.bool false)) w277 →
    ∃ b278 : Bool, w277.cell? ⟨(((w.alloc (.cells #[.slice x_0.a x_0.len x_0.cap] 42)).alloc (.cells #[.int .i64 x_1] 3)).alloc (.cells #[.int .i64 x_2] 3)).heap.size, 0, none⟩ = some (.bool b278) ∧
    R (.bool b278) w277))))))))))))))))))))))))))))
theorem B10_eq : @B10 = fun (x_0 : Slc) (x_1 : Int) (x_2 : Int) (w : World) (R : Value → World → Prop) => trFT Try.prog G (lk [(1000018, [(98, .int .i64), (99, .int .i64)])]) Try.f10 [.slice x_0.a x_0.len x_0.cap, .int .i64 x_1, .int .i64 x_2] w R := by kernel_rfl
theorem c10 (x_0 : Slc) (x_1 : Int) (x_2 : Int) (w : World) (R : Value → World → Prop) (h : B10 x_0 x_1 x_2 w R) : Calls Try.prog 10 #[.slice x_0.a x_0.len x_0.cap, .int .i64 x_1, .int .i64 x_2] w (Rv R) := calls_of_trT (L := lk [(1000018, [(98, .int .i64), (99, .int .i64)])]) Try.func10 hG hM (by rw [B10_eq] at h; exact h)

/-- locution/locutionlaw33.small -/
def B27 (x_0 : Slc) (w : World) (R : Value → World → Prop) : Prop :=
  br (decide ((30 : Int) < (x_0.len : Int))) (R (.bool false) w) (∃ (I1 : Int → World → Prop) (μ2 : Int → World → Nat), I1 (0 : Int) w ∧
    ∀ x3 : Int, ∀ w4 : World, I1 x3 w4 → br (decide (x3 < (x_0.len : Int))) (0 ≤ x3 ∧ x3 < (x_0.len : Int) ∧ ∃ a5, x_0.a = some a5 ∧
    ∃ l6 : Slc, w4.cell? (Addr.add a5 (x3.toNat * 1)) = some (.slice l6.a l6.len l6.cap) ∧
    br (decide ((20 : Int) < (l6.len : Int))) (R (.bool false) w4) (I1 (IntKind.i64.wrap (x3 + 1)) w4 ∧
    μ2 (IntKind.i64.wrap (x3 + 1)) w4 < μ2 x3 w4)) (R (.bool true) w4))
theorem B27_eq : @B27 = fun (x_0 : Slc) (w : World) (R : Value → World → Prop) => trF Try.prog G (lk [(4, [(3, .int .i64)])]) Try.f27 [.slice x_0.a x_0.len x_0.cap] w R := by kernel_rfl
theorem c27 (x_0 : Slc) (w : World) (R : Value → World → Prop) (h : B27 x_0 w R) : Calls Try.prog 27 #[.slice x_0.a x_0.len x_0.cap] w (Rv R) := calls_of_tr (L := lk [(4, [(3, .int .i64)])]) Try.func27 hG hM (by rw [B27_eq] at h; exact h)

/-- locution/locutionlaw33.live -/
def B29  (w : World) (R : Value → World → Prop) : Prop :=
  
    Calls Try.prog 30 #[.slice (some ⟨((w.alloc (.cells #[.int .i64 2, .int .i64 5] 3)).alloc (.cells #[.int .i64 1] 3)).heap.size, 0, none⟩) 3 3] (((w.alloc (.cells #[.int .i64 2, .int .i64 5] 3)).alloc (.cells #[.int .i64 1] 3)).alloc (.cells #[.slice (some ⟨w.heap.size, 0, none⟩) 2 2, .slice none 0 0, .slice (some ⟨(w.alloc (.cells #[.int .i64 2, .int .i64 5] 3)).heap.size, 0, none⟩) 1 1] 22)) (Rv fun v1 w2 =>
    ∃ p3 : Option Addr, ∃ n4 : Int, v1 = .tuple #[.pointer p3, .int .i64 n4] ∧ Calls Try.prog 31 #[.pointer p3, .int .i64 1] w2 (Rv fun v5 w6 =>
    ∃ n7 : Int, ∃ n8 : Int, v5 = .tuple #[.int .i64 n7, .int .i64 n8] ∧
    br (decide (n4 = (0 : Int))) (br (decide (n7 = (2 : Int))) (br (decide (n8 = (2 : Int))) (Calls Try.prog 32 #[.pointer p3, .int .i64 2, .int .i64 1] w6 (Rv fun v9 w10 =>
    ∃ n11 : Int, v9 = .int .i64 n11 ∧ br (decide (n11 = (2 : Int))) (Calls Try.prog 36 #[.pointer p3, .int .i64 1] w10 (Rv fun v12 w13 =>
    ∃ n14 : Int, v12 = .int .i64 n14 ∧ br (decide (n14 = (5 : Int))) (Calls Try.prog 37 #[.pointer p3, .int .i64 2] w13 (Rv fun v15 w16 =>
    ∃ n17 : Int, v15 = .int .i64 n17 ∧ br (decide (n17 = (2 : Int))) (Calls Try.prog 38 #[.pointer p3] w16 (Rv fun v18 w19 => ∃ n20 : Int, v18 = .int .i64 n20 ∧
    br (decide (n20 = (3 : Int))) (Calls Try.prog 39 #[.pointer p3] w19 (Rv fun v21 w22 => ∃ n23 : Int, v21 = .int .i64 n23 ∧
    R (.bool (decide (n23 = (3 : Int)))) w22)) (R (.bool false) w19))) (R (.bool false) w16))) (R (.bool false) w13))) (R (.bool false) w10))) (R (.bool false) w6)) (R (.bool false) w6)) (R (.bool false) w6)))
theorem B29_eq : @B29 = fun (w : World) (R : Value → World → Prop) => trF Try.prog G (lk []) Try.f29 [] w R := by kernel_rfl
theorem c29  (w : World) (R : Value → World → Prop) (h : B29  w R) : Calls Try.prog 29 #[] w (Rv R) := calls_of_tr (L := lk []) Try.func29 hG hM (by rw [B29_eq] at h; exact h)

/-- locution/locutionlaw33.sums -/
def B43 (x_0 : Slc) (w : World) (R : Value → World → Prop) : Prop :=
  Calls Try.prog 45 #[.slice x_0.a x_0.len x_0.cap] w (Rv fun v1 w2 => ∃ l3 : Slc, ∃ b4 : Bool, v1 = .tuple #[.slice l3.a l3.len l3.cap, .bool b4] ∧
    R (.slice l3.a l3.len l3.cap) w2)
theorem B43_eq : @B43 = fun (x_0 : Slc) (w : World) (R : Value → World → Prop) => trF Try.prog G (lk []) Try.f43 [.slice x_0.a x_0.len x_0.cap] w R := by kernel_rfl
theorem c43 (x_0 : Slc) (w : World) (R : Value → World → Prop) (h : B43 x_0 w R) : Calls Try.prog 43 #[.slice x_0.a x_0.len x_0.cap] w (Rv R) := calls_of_tr (L := lk []) Try.func43 hG hM (by rw [B43_eq] at h; exact h)

/-- (*locution/rows.Rows).Groups -/
def B38n  (w : World) (R : Value → World → Prop) : Prop :=
  R (.int .i64 0) w
theorem B38n_eq : @B38n = fun (w : World) (R : Value → World → Prop) => trF Try.prog G (lk []) Try.f38 [.pointer none] w R := by kernel_rfl
theorem c38n  (w : World) (R : Value → World → Prop) (h : B38n  w R) : Calls Try.prog 38 #[.pointer none] w (Rv R) := calls_of_tr (L := lk []) Try.func38 hG hM (by rw [B38n_eq] at h; exact h)

/-- (*locution/rows.Rows).Len -/
def B39n  (w : World) (R : Value → World → Prop) : Prop :=
  R (.int .i64 0) w
theorem B39n_eq : @B39n = fun (w : World) (R : Value → World → Prop) => trF Try.prog G (lk []) Try.f39 [.pointer none] w R := by kernel_rfl
theorem c39n  (w : World) (R : Value → World → Prop) (h : B39n  w R) : Calls Try.prog 39 #[.pointer none] w (Rv R) := calls_of_tr (L := lk []) Try.func39 hG hM (by rw [B39n_eq] at h; exact h)

/-- (*locution/rows.Rows).Span -/
def B31n (x_1 : Int) (w : World) (R : Value → World → Prop) : Prop :=
  br (decide (x_1 < (0 : Int))) (R (.tuple #[.int .i64 0, .int .i64 0]) w) (Calls Try.prog 38 #[.pointer none] w (Rv fun v1 w2 => ∃ n3 : Int, v1 = .int .i64 n3 ∧
    br (decide (n3 ≤ x_1)) (R (.tuple #[.int .i64 0, .int .i64 0]) w2) (False)))
theorem B31n_eq : @B31n = fun (x_1 : Int) (w : World) (R : Value → World → Prop) => trF Try.prog G (lk []) Try.f31 [.pointer none, .int .i64 x_1] w R := by kernel_rfl
theorem c31n (x_1 : Int) (w : World) (R : Value → World → Prop) (h : B31n x_1 w R) : Calls Try.prog 31 #[.pointer none, .int .i64 x_1] w (Rv R) := calls_of_tr (L := lk []) Try.func31 hG hM (by rw [B31n_eq] at h; exact h)

/-- (*locution/rows.Rows).At -/
def B36n (x_1 : Int) (w : World) (R : Value → World → Prop) : Prop :=
  Calls Try.prog 37 #[.pointer none, .int .i64 x_1] w (Rv fun v1 w2 => ∃ n3 : Int, v1 = .int .i64 n3 ∧
    br (decide (n3 < (0 : Int))) (R (.int .i64 (-1)) w2) (Calls Try.prog 31 #[.pointer none, .int .i64 n3] w2 (Rv fun v4 w5 =>
    ∃ n6 : Int, ∃ n7 : Int, v4 = .tuple #[.int .i64 n6, .int .i64 n7] ∧ False)))
theorem B36n_eq : @B36n = fun (x_1 : Int) (w : World) (R : Value → World → Prop) => trF Try.prog G (lk []) Try.f36 [.pointer none, .int .i64 x_1] w R := by kernel_rfl
theorem c36n (x_1 : Int) (w : World) (R : Value → World → Prop) (h : B36n x_1 w R) : Calls Try.prog 36 #[.pointer none, .int .i64 x_1] w (Rv R) := calls_of_tr (L := lk []) Try.func36 hG hM (by rw [B36n_eq] at h; exact h)

/-- (*locution/rows.Rows).Group -/
def B37n (x_1 : Int) (w : World) (R : Value → World → Prop) : Prop :=
  br (decide (x_1 < (0 : Int))) (R (.int .i64 (-1)) w) (Calls Try.prog 39 #[.pointer none] w (Rv fun v1 w2 => ∃ n3 : Int, v1 = .int .i64 n3 ∧
    br (decide (n3 ≤ x_1)) (R (.int .i64 (-1)) w2) (False)))
theorem B37n_eq : @B37n = fun (x_1 : Int) (w : World) (R : Value → World → Prop) => trF Try.prog G (lk []) Try.f37 [.pointer none, .int .i64 x_1] w R := by kernel_rfl
theorem c37n (x_1 : Int) (w : World) (R : Value → World → Prop) (h : B37n x_1 w R) : Calls Try.prog 37 #[.pointer none, .int .i64 x_1] w (Rv R) := calls_of_tr (L := lk []) Try.func37 hG hM (by rw [B37n_eq] at h; exact h)

/-- (*locution/rows.Rows).Where -/
def B32n (x_1 : Int) (x_2 : Int) (w : World) (R : Value → World → Prop) : Prop :=
  Calls Try.prog 31 #[.pointer none, .int .i64 x_1] w (Rv fun v1 w2 => ∃ n3 : Int, ∃ n4 : Int, v1 = .tuple #[.int .i64 n3, .int .i64 n4] ∧
    br (decide (n3 = n4)) (R (.int .i64 (-1)) w2) (br (decide (x_2 < (0 : Int))) (R (.int .i64 (-1)) w2) (br (decide ((65536 : Int) ≤ x_2)) (R (.int .i64 (-1)) w2) (False))))
theorem B32n_eq : @B32n = fun (x_1 : Int) (x_2 : Int) (w : World) (R : Value → World → Prop) => trF Try.prog G (lk []) Try.f32 [.pointer none, .int .i64 x_1, .int .i64 x_2] w R := by kernel_rfl
theorem c32n (x_1 : Int) (x_2 : Int) (w : World) (R : Value → World → Prop) (h : B32n x_1 x_2 w R) : Calls Try.prog 32 #[.pointer none, .int .i64 x_1, .int .i64 x_2] w (Rv R) := calls_of_tr (L := lk []) Try.func32 hG hM (by rw [B32n_eq] at h; exact h)

/-- (*locution/rows.Rows).Size -/
def B40n  (w : World) (R : Value → World → Prop) : Prop :=
  R (.int .i64 0) w
theorem B40n_eq : @B40n = fun (w : World) (R : Value → World → Prop) => trF Try.prog G (lk []) Try.f40 [.pointer none] w R := by kernel_rfl
theorem c40n  (w : World) (R : Value → World → Prop) (h : B40n  w R) : Calls Try.prog 40 #[.pointer none] w (Rv R) := calls_of_tr (L := lk []) Try.func40 hG hM (by rw [B40n_eq] at h; exact h)

/-- (*locution/rows.Rows).Parts -/
def B50n  (w : World) (R : Value → World → Prop) : Prop :=
  Calls Try.prog 46 #[.slice none 0 0] w (Rv fun v1 w2 => ∃ p3 : Option Addr, ∃ n4 : Int, v1 = .tuple #[.pointer p3, .int .i64 n4] ∧
    Calls Try.prog 47 #[.slice none 0 0] w2 (Rv fun v5 w6 => ∃ p7 : Option Addr, ∃ n8 : Int, v5 = .tuple #[.pointer p7, .int .i64 n8] ∧
    R (.tuple #[.pointer p3, .pointer p7]) w6))
theorem B50n_eq : @B50n = fun (w : World) (R : Value → World → Prop) => trF Try.prog G (lk []) Try.f50 [.pointer none] w R := by kernel_rfl
theorem c50n  (w : World) (R : Value → World → Prop) (h : B50n  w R) : Calls Try.prog 50 #[.pointer none] w (Rv R) := calls_of_tr (L := lk []) Try.func50 hG hM (by rw [B50n_eq] at h; exact h)

end Go.Proofs.Ytmpgklgjmkcpdaa.V
