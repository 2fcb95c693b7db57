/- The verification conditions of functions, printed by a program of this work (pr.py) and checked here by the kernel. -/
import Derived.Test.YtlobkadfmgnlmaaBL
set_option maxRecDepth 100000
set_option linter.unusedVariables false
namespace Go.Proofs.Ytlobkadfmgnlmaa.V
open Go Go.VC

/-- (*locution/bitrow.Row).Bit -/
def B44 (a_0 : Addr) (x_1 : Int) (w : World) (R : Value → World → Prop) : Prop :=
  br (decide (x_1 < (0 : Int))) (R (.bool false) w) (∃ n1 : Int, w.cell? (Addr.add a_0 1) = some (.int .i64 n1) ∧
    br (decide (n1 ≤ x_1)) (R (.bool false) w) (∃ l2 : Slc, w.cell? (Addr.add a_0 0) = some (.slice l2.a l2.len l2.cap) ∧ (64 : Int) ≠ 0 ∧
    0 ≤ (IntKind.i64.wrap (Int.tdiv x_1 64)) ∧ (IntKind.i64.wrap (Int.tdiv x_1 64)) < (l2.len : Int) ∧ ∃ a3, l2.a = some a3 ∧
    ∃ n4 : Int, w.cell? (Addr.add a3 ((IntKind.i64.wrap (Int.tdiv x_1 64)).toNat * 1)) = some (.int .u64 n4) ∧ (64 : Int) ≠ 0 ∧
    0 ≤ (IntKind.u64.wrap (Int.tmod x_1 64)) ∧ R (.bool (decide ((bAnd .u64 (shR .u64 n4 (IntKind.u64.wrap (Int.tmod x_1 64))) 1) = (1 : Int)))) w))
theorem B44_eq : @B44 = fun (a_0 : Addr) (x_1 : Int) (w : World) (R : Value → World → Prop) => trF Try.prog G (lk []) Try.f44 [.pointer (some a_0), .int .i64 x_1] w R := by kernel_rfl
theorem c44 (a_0 : Addr) (x_1 : Int) (w : World) (R : Value → World → Prop) (h : B44 a_0 x_1 w R) : Calls Try.prog 44 #[.pointer (some a_0), .int .i64 x_1] w (Rv R) := calls_of_tr (L := lk []) Try.func44 hG hM (by rw [B44_eq] at h; exact h)

/-- (*locution/bitrow.Row).Cut -/
def B46 (a_0 : Addr) (x_1 : Int) (x_2 : Int) (w : World) (R : Value → World → Prop) : Prop :=
  br (decide (x_2 < (1 : Int))) (R (.int .u64 0) w) (∃ n1 : Int, w.cell? (Addr.add a_0 1) = some (.int .i64 n1) ∧
    br (decide (n1 ≤ x_1)) (R (.int .u64 0) w) (br (decide (x_1 ≤ (-64))) (R (.int .u64 0) w) (br (decide (x_1 < (0 : Int))) (Calls Try.prog 84 #[.pointer (some a_0), .int .i64 0] w (Rv fun v2 w3 =>
    ∃ n4 : Int, v2 = .int .u64 n4 ∧ 0 ≤ (IntKind.u64.wrap (IntKind.i64.wrap (0 - x_1))) ∧ Calls Try.prog 23 #[.int .i64 (min x_2 (64 : Int))] w3 (Rv fun v5 w6 =>
    ∃ n7 : Int, v5 = .int .u64 n7 ∧ R (.int .u64 (bAnd .u64 (shL .u64 n4 (IntKind.u64.wrap (IntKind.i64.wrap (0 - x_1)))) n7)) w6))) ((64 : Int) ≠ 0 ∧
    (64 : Int) ≠ 0 ∧ Calls Try.prog 84 #[.pointer (some a_0), .int .i64 (IntKind.i64.wrap (Int.tdiv x_1 64))] w (Rv fun v8 w9 => ∃ n10 : Int, v8 = .int .u64 n10 ∧
    0 ≤ (IntKind.u64.wrap (Int.tmod x_1 64)) ∧
    br (decide ((0 : Int) < (Int.tmod x_1 64))) (Calls Try.prog 84 #[.pointer (some a_0), .int .i64 (IntKind.i64.wrap ((IntKind.i64.wrap (Int.tdiv x_1 64)) + 1))] w9 (Rv fun v11 w12 =>
    ∃ n13 : Int, v11 = .int .u64 n13 ∧ 0 ≤ (IntKind.u64.wrap (IntKind.i64.wrap (64 - (Int.tmod x_1 64)))) ∧
    Calls Try.prog 23 #[.int .i64 (min x_2 (64 : Int))] w12 (Rv fun v14 w15 => ∃ n16 : Int, v14 = .int .u64 n16 ∧
    R (.int .u64 (bAnd .u64 (bOr .u64 (shR .u64 n10 (IntKind.u64.wrap (Int.tmod x_1 64))) (shL .u64 n13 (IntKind.u64.wrap (IntKind.i64.wrap (64 - (Int.tmod x_1 64)))))) n16)) w15))) (Calls Try.prog 23 #[.int .i64 (min x_2 (64 : Int))] w9 (Rv fun v17 w18 =>
    ∃ n19 : Int, v17 = .int .u64 n19 ∧ R (.int .u64 (bAnd .u64 (shR .u64 n10 (IntKind.u64.wrap (Int.tmod x_1 64))) n19)) w18)))))))
theorem B46_eq : @B46 = fun (a_0 : Addr) (x_1 : Int) (x_2 : Int) (w : World) (R : Value → World → Prop) => trF Try.prog G (lk []) Try.f46 [.pointer (some a_0), .int .i64 x_1, .int .i64 x_2] w R := by kernel_rfl
theorem c46 (a_0 : Addr) (x_1 : Int) (x_2 : Int) (w : World) (R : Value → World → Prop) (h : B46 a_0 x_1 x_2 w R) : Calls Try.prog 46 #[.pointer (some a_0), .int .i64 x_1, .int .i64 x_2] w (Rv R) := calls_of_tr (L := lk []) Try.func46 hG hM (by rw [B46_eq] at h; exact h)

/-- (*locution/bitrow.Row).Ones -/
def B48 (a_0 : Addr) (w : World) (R : Value → World → Prop) : Prop :=
  ∃ l1 : Slc, w.cell? (Addr.add a_0 0) = some (.slice l1.a l1.len l1.cap) ∧ ∃ (I2 : Int → Int → World → Prop) (μ3 : Int → Int → World →
    Nat), I2 (0 : Int) (0 : Int) w ∧ ∀ x4 : Int, ∀ x5 : Int, ∀ w6 : World, I2 x4 x5 w6 →
    br (decide (x5 < (l1.len : Int))) (∃ l7 : Slc, w6.cell? (Addr.add a_0 0) = some (.slice l7.a l7.len l7.cap) ∧ 0 ≤ x5 ∧ x5 < (l7.len : Int) ∧
    ∃ a8, l7.a = some a8 ∧ ∃ n9 : Int, w6.cell? (Addr.add a8 (x5.toNat * 1)) = some (.int .u64 n9) ∧ Calls Try.prog 14 #[.int .u64 n9] w6 (Rv fun v10 w11 =>
    ∃ n12 : Int, v10 = .int .i64 n12 ∧ I2 (IntKind.i64.wrap (x4 + n12)) (IntKind.i64.wrap (x5 + 1)) w11 ∧
    μ3 (IntKind.i64.wrap (x4 + n12)) (IntKind.i64.wrap (x5 + 1)) w11 < μ3 x4 x5 w6)) (R (.int .i64 x4) w6)
theorem B48_eq : @B48 = fun (a_0 : Addr) (w : World) (R : Value → World → Prop) => trF Try.prog G (lk [(5, [(3, .int .i64), (13, .int .i64)])]) Try.f48 [.pointer (some a_0)] w R := by kernel_rfl
theorem c48 (a_0 : Addr) (w : World) (R : Value → World → Prop) (h : B48 a_0 w R) : Calls Try.prog 48 #[.pointer (some a_0)] w (Rv R) := calls_of_tr (L := lk [(5, [(3, .int .i64), (13, .int .i64)])]) Try.func48 hG hM (by rw [B48_eq] at h; exact h)

/-- (*locution/bitrow.Row).Next -/
def B50 (a_0 : Addr) (x_1 : Int) (w : World) (R : Value → World → Prop) : Prop :=
  ∃ n1 : Int, w.cell? (Addr.add a_0 1) = some (.int .i64 n1) ∧
    br (decide (n1 ≤ (max x_1 (0 : Int)))) (R (.int .i64 (-1)) w) (∃ l2 : Slc, w.cell? (Addr.add a_0 0) = some (.slice l2.a l2.len l2.cap) ∧ (64 : Int) ≠ 0 ∧
    0 ≤ (IntKind.i64.wrap (Int.tdiv (max x_1 (0 : Int)) 64)) ∧ (IntKind.i64.wrap (Int.tdiv (max x_1 (0 : Int)) 64)) < (l2.len : Int) ∧ ∃ a3, l2.a = some a3 ∧
    ∃ n4 : Int, w.cell? (Addr.add a3 ((IntKind.i64.wrap (Int.tdiv (max x_1 (0 : Int)) 64)).toNat * 1)) = some (.int .u64 n4) ∧ (64 : Int) ≠ 0 ∧
    0 ≤ (IntKind.u64.wrap (Int.tmod (max x_1 (0 : Int)) 64)) ∧
    br (!(decide ((shR .u64 n4 (IntKind.u64.wrap (Int.tmod (max x_1 (0 : Int)) 64))) = (0 : Int)))) (Calls Try.prog 18 #[.int .u64 (shR .u64 n4 (IntKind.u64.wrap (Int.tmod (max x_1 (0 : Int)) 64))), .int .i64 0] w (Rv fun v5 w6 =>
    ∃ n7 : Int, v5 = .int .i64 n7 ∧
    R (.int .i64 (IntKind.i64.wrap ((max x_1 (0 : Int)) + n7))) w6)) (∃ l8 : Slc, w.cell? (Addr.add a_0 0) = some (.slice l8.a l8.len l8.cap) ∧ ∃ (I9 : Int → World →
    Prop) (μ10 : Int → World → Nat), I9 (0 : Int) w ∧ ∀ x11 : Int, ∀ w12 : World, I9 x11 w12 → br (decide (x11 < (l8.len : Int))) ((64 : Int) ≠ 0 ∧
    br (decide ((IntKind.i64.wrap (Int.tdiv (max x_1 (0 : Int)) 64)) < x11)) (∃ l13 : Slc, w12.cell? (Addr.add a_0 0) = some (.slice l13.a l13.len l13.cap) ∧
    0 ≤ x11 ∧ x11 < (l13.len : Int) ∧ ∃ a14, l13.a = some a14 ∧ ∃ n15 : Int, w12.cell? (Addr.add a14 (x11.toNat * 1)) = some (.int .u64 n15) ∧
    br (!(decide (n15 = (0 : Int)))) (∃ l16 : Slc, w12.cell? (Addr.add a_0 0) = some (.slice l16.a l16.len l16.cap) ∧ 0 ≤ x11 ∧ x11 < (l16.len : Int) ∧
    ∃ a17, l16.a = some a17 ∧ ∃ n18 : Int, w12.cell? (Addr.add a17 (x11.toNat * 1)) = some (.int .u64 n18) ∧
    Calls Try.prog 18 #[.int .u64 n18, .int .i64 0] w12 (Rv fun v19 w20 => ∃ n21 : Int, v19 = .int .i64 n21 ∧
    R (.int .i64 (IntKind.i64.wrap ((IntKind.i64.wrap (x11 * 64)) + n21))) w20)) (I9 (IntKind.i64.wrap (x11 + 1)) w12 ∧
    μ10 (IntKind.i64.wrap (x11 + 1)) w12 < μ10 x11 w12)) (I9 (IntKind.i64.wrap (x11 + 1)) w12 ∧
    μ10 (IntKind.i64.wrap (x11 + 1)) w12 < μ10 x11 w12)) (R (.int .i64 (-1)) w12)))
theorem B50_eq : @B50 = fun (a_0 : Addr) (x_1 : Int) (w : World) (R : Value → World → Prop) => trF Try.prog G (lk [(8, [(42, .int .i64)])]) Try.f50 [.pointer (some a_0), .int .i64 x_1] w R := by kernel_rfl
theorem c50 (a_0 : Addr) (x_1 : Int) (w : World) (R : Value → World → Prop) (h : B50 a_0 x_1 w R) : Calls Try.prog 50 #[.pointer (some a_0), .int .i64 x_1] w (Rv R) := calls_of_tr (L := lk [(8, [(42, .int .i64)])]) Try.func50 hG hM (by rw [B50_eq] at h; exact h)

/-- (*locution/bitrow.Row).Len -/
def B52 (a_0 : Addr) (w : World) (R : Value → World → Prop) : Prop :=
  ∃ n1 : Int, w.cell? (Addr.add a_0 1) = some (.int .i64 n1) ∧ R (.int .i64 n1) w
theorem B52_eq : @B52 = fun (a_0 : Addr) (w : World) (R : Value → World → Prop) => trF Try.prog G (lk []) Try.f52 [.pointer (some a_0)] w R := by kernel_rfl
theorem c52 (a_0 : Addr) (w : World) (R : Value → World → Prop) (h : B52 a_0 w R) : Calls Try.prog 52 #[.pointer (some a_0)] w (Rv R) := calls_of_tr (L := lk []) Try.func52 hG hM (by rw [B52_eq] at h; exact h)

/-- (*locution/bitrow.Row).Words -/
def B54 (a_0 : Addr) (w : World) (R : Value → World → Prop) : Prop :=
  ∃ l1 : Slc, w.cell? (Addr.add a_0 0) = some (.slice l1.a l1.len l1.cap) ∧ Calls Try.prog 85 #[.slice l1.a l1.len l1.cap] w (Rv fun v2 w3 =>
    ∃ l4 : Slc, v2 = .slice l4.a l4.len l4.cap ∧ R (.slice l4.a l4.len l4.cap) w3)
theorem B54_eq : @B54 = fun (a_0 : Addr) (w : World) (R : Value → World → Prop) => trF Try.prog G (lk []) Try.f54 [.pointer (some a_0)] w R := by kernel_rfl
theorem c54 (a_0 : Addr) (w : World) (R : Value → World → Prop) (h : B54 a_0 w R) : Calls Try.prog 54 #[.pointer (some a_0)] w (Rv R) := calls_of_tr (L := lk []) Try.func54 hG hM (by rw [B54_eq] at h; exact h)

/-- locution/bitrow.Same -/
def B56 (a_0 : Addr) (a_1 : Addr) (w : World) (R : Value → World → Prop) : Prop :=
  Calls Try.prog 52 #[.pointer (some a_0)] w (Rv fun v1 w2 => ∃ n3 : Int, v1 = .int .i64 n3 ∧ Calls Try.prog 52 #[.pointer (some a_1)] w2 (Rv fun v4 w5 =>
    ∃ n6 : Int, v4 = .int .i64 n6 ∧ br (!(decide (n3 = n6))) (Calls Try.prog 52 #[.pointer (some a_0)] w5 (Rv fun v7 w8 => ∃ n9 : Int, v7 = .int .i64 n9 ∧
    Calls Try.prog 52 #[.pointer (some a_1)] w8 (Rv fun v10 w11 => ∃ n12 : Int, v10 = .int .i64 n12 ∧
    R (.bool (decide (n9 = n12))) w11))) (Calls Try.prog 52 #[.pointer (some a_0)] w5 (Rv fun v13 w14 => ∃ n15 : Int, v13 = .int .i64 n15 ∧
    br (decide (n15 = (0 : Int))) (Calls Try.prog 52 #[.pointer (some a_0)] w14 (Rv fun v16 w17 => ∃ n18 : Int, v16 = .int .i64 n18 ∧
    Calls Try.prog 52 #[.pointer (some a_1)] w17 (Rv fun v19 w20 => ∃ n21 : Int, v19 = .int .i64 n21 ∧
    R (.bool (decide (n18 = n21))) w20))) (∃ l22 : Slc, (World.drew w14).cell? (Addr.add a_0 0) = some (.slice l22.a l22.len l22.cap) ∧
    ∃ l23 : Slc, (World.drew w14).cell? (Addr.add a_1 0) = some (.slice l23.a l23.len l23.cap) ∧
    Calls Try.prog 86 #[.slice l22.a l22.len l22.cap, .slice l23.a l23.len l23.cap] (World.drew w14) (Rv fun v24 w25 => ∃ b26 : Bool, v24 = .bool b26 ∧
    R (.bool b26) w25))))))
theorem B56_eq : @B56 = fun (a_0 : Addr) (a_1 : Addr) (w : World) (R : Value → World → Prop) => trF Try.prog G (lk []) Try.f56 [.pointer (some a_0), .pointer (some a_1)] w R := by kernel_rfl
theorem c56 (a_0 : Addr) (a_1 : Addr) (w : World) (R : Value → World → Prop) (h : B56 a_0 a_1 w R) : Calls Try.prog 56 #[.pointer (some a_0), .pointer (some a_1)] w (Rv R) := calls_of_tr (L := lk []) Try.func56 hG hM (by rw [B56_eq] at h; exact h)

/-- (*locution/bitrow.Row).Add -/
def B57 (a_0 : Addr) (x_1 : Int) (x_2 : Int) (w : World) (R : Value → World → Prop) : Prop :=
  br (decide (x_2 < (0 : Int))) (R (.int .i64 1) w) (br (decide ((64 : Int) < x_2)) (R (.int .i64 1) w) (Calls Try.prog 25 #[.int .u64 x_1] w (Rv fun v1 w2 =>
    ∃ n3 : Int, v1 = .int .i64 n3 ∧ br (decide (x_2 < n3)) (R (.int .i64 8) w2) (∃ n4 : Int, w2.cell? (Addr.add a_0 1) = some (.int .i64 n4) ∧ (64 : Int) ≠ 0 ∧
    ∃ n5 : Int, w2.cell? (Addr.add a_0 1) = some (.int .i64 n5) ∧ (∃ u, w2.cell? (Addr.add a_0 1) = some u) ∧ w2.frozen? (Addr.add a_0 1) = false ∧
    br (decide ((0 : Int) < (Int.tmod n4 64))) (∃ l6 : Slc, (World.drew (w2.setCell (Addr.add a_0 1) (.int .i64 (IntKind.i64.wrap (n5 + x_2))))).cell? (Addr.add a_0 0) = some (.slice l6.a l6.len l6.cap) ∧
    ∃ l7 : Slc, (World.drew (w2.setCell (Addr.add a_0 1) (.int .i64 (IntKind.i64.wrap (n5 + x_2))))).cell? (Addr.add a_0 0) = some (.slice l7.a l7.len l7.cap) ∧
    0 ≤ (IntKind.i64.wrap ((l7.len : Int) - 1)) ∧ (IntKind.i64.wrap ((l7.len : Int) - 1)) < (l6.len : Int) ∧ ∃ a8, l6.a = some a8 ∧
    ∃ n9 : Int, (World.drew (w2.setCell (Addr.add a_0 1) (.int .i64 (IntKind.i64.wrap (n5 + x_2))))).cell? (Addr.add a8 ((IntKind.i64.wrap ((l7.len : Int) - 1)).toNat * 1)) = some (.int .u64 n9) ∧
    0 ≤ (IntKind.u64.wrap (Int.tmod n4 64)) ∧ 0 ≤ (IntKind.i64.wrap ((l7.len : Int) - 1)) ∧ (IntKind.i64.wrap ((l7.len : Int) - 1)) < (l6.len : Int) ∧
    ∃ a10, l6.a = some a10 ∧
    (∃ u, (World.drew (w2.setCell (Addr.add a_0 1) (.int .i64 (IntKind.i64.wrap (n5 + x_2))))).cell? (Addr.add a10 ((IntKind.i64.wrap ((l7.len : Int) - 1)).toNat * 1)) = some u) ∧
    (World.drew (w2.setCell (Addr.add a_0 1) (.int .i64 (IntKind.i64.wrap (n5 + x_2))))).frozen? (Addr.add a10 ((IntKind.i64.wrap ((l7.len : Int) - 1)).toNat * 1)) = false ∧
    ∃ (I11 : World → Prop) (μ12 : World →
    Nat), I11 ((World.drew (w2.setCell (Addr.add a_0 1) (.int .i64 (IntKind.i64.wrap (n5 + x_2))))).setCell (Addr.add a10 ((IntKind.i64.wrap ((l7.len : Int) - 1)).toNat * 1)) (.int .u64 (bOr .u64 n9 (shL .u64 x_1 (IntKind.u64.wrap (Int.tmod n4 64)))))) ∧
    ∀ w13 : World, I11 w13 → ∃ l14 : Slc, (World.drew w13).cell? (Addr.add a_0 0) = some (.slice l14.a l14.len l14.cap) ∧
    ∃ n15 : Int, (World.drew w13).cell? (Addr.add a_0 1) = some (.int .i64 n15) ∧ Calls Try.prog 87 #[.int .i64 n15] (World.drew w13) (Rv fun v16 w17 =>
    ∃ n18 : Int, v16 = .int .i64 n18 ∧ w17.cell? (Addr.add a_0 0) = some (.slice l14.a l14.len l14.cap) ∧
    br (decide ((l14.len : Int) < n18)) (br (decide ((0 : Int) < (Int.tmod n4 64))) (∃ l19 : Slc, w17.cell? (Addr.add a_0 0) = some (.slice l19.a l19.len l19.cap) ∧
    0 ≤ (IntKind.u64.wrap (IntKind.i64.wrap (64 - (Int.tmod n4 64)))) ∧
    ∃ w20 : World, ∃ l21 : Slc, (Builtin.append_ #[69, 69] 69 #[.slice l19.a l19.len l19.cap, .slice (some ⟨w17.heap.size, 0, none⟩) 1 1]).run Try.prog (w17.alloc (.cells #[.int .u64 (shR .u64 x_1 (IntKind.u64.wrap (IntKind.i64.wrap (64 - (Int.tmod n4 64)))))] 22)) = .ok (.slice l21.a l21.len l21.cap) w20 ∧
    (∃ u, w20.cell? (Addr.add a_0 0) = some u) ∧ w20.frozen? (Addr.add a_0 0) = false ∧ I11 (w20.setCell (Addr.add a_0 0) (.slice l21.a l21.len l21.cap)) ∧
    μ12 (w20.setCell (Addr.add a_0 0) (.slice l21.a l21.len l21.cap)) < μ12 w13) (∃ l22 : Slc, w17.cell? (Addr.add a_0 0) = some (.slice l22.a l22.len l22.cap) ∧
    ∃ w23 : World, ∃ l24 : Slc, (Builtin.append_ #[69, 69] 69 #[.slice l22.a l22.len l22.cap, .slice (some ⟨w17.heap.size, 0, none⟩) 1 1]).run Try.prog (w17.alloc (.cells #[.int .u64 x_1] 22)) = .ok (.slice l24.a l24.len l24.cap) w23 ∧
    (∃ u, w23.cell? (Addr.add a_0 0) = some u) ∧ w23.frozen? (Addr.add a_0 0) = false ∧ I11 (w23.setCell (Addr.add a_0 0) (.slice l24.a l24.len l24.cap)) ∧
    μ12 (w23.setCell (Addr.add a_0 0) (.slice l24.a l24.len l24.cap)) < μ12 w13)) (R (.int .i64 0) w17))) (∃ (I25 : World → Prop) (μ26 : World →
    Nat), I25 (w2.setCell (Addr.add a_0 1) (.int .i64 (IntKind.i64.wrap (n5 + x_2)))) ∧ ∀ w27 : World, I25 w27 →
    ∃ l28 : Slc, (World.drew w27).cell? (Addr.add a_0 0) = some (.slice l28.a l28.len l28.cap) ∧
    ∃ n29 : Int, (World.drew w27).cell? (Addr.add a_0 1) = some (.int .i64 n29) ∧ Calls Try.prog 87 #[.int .i64 n29] (World.drew w27) (Rv fun v30 w31 =>
    ∃ n32 : Int, v30 = .int .i64 n32 ∧ w31.cell? (Addr.add a_0 0) = some (.slice l28.a l28.len l28.cap) ∧
    br (decide ((l28.len : Int) < n32)) (br (decide ((0 : Int) < (Int.tmod n4 64))) (∃ l33 : Slc, w31.cell? (Addr.add a_0 0) = some (.slice l33.a l33.len l33.cap) ∧
    0 ≤ (IntKind.u64.wrap (IntKind.i64.wrap (64 - (Int.tmod n4 64)))) ∧
    ∃ w34 : World, ∃ l35 : Slc, (Builtin.append_ #[69, 69] 69 #[.slice l33.a l33.len l33.cap, .slice (some ⟨w31.heap.size, 0, none⟩) 1 1]).run Try.prog (w31.alloc (.cells #[.int .u64 (shR .u64 x_1 (IntKind.u64.wrap (IntKind.i64.wrap (64 - (Int.tmod n4 64)))))] 22)) = .ok (.slice l35.a l35.len l35.cap) w34 ∧
    (∃ u, w34.cell? (Addr.add a_0 0) = some u) ∧ w34.frozen? (Addr.add a_0 0) = false ∧ I25 (w34.setCell (Addr.add a_0 0) (.slice l35.a l35.len l35.cap)) ∧
    μ26 (w34.setCell (Addr.add a_0 0) (.slice l35.a l35.len l35.cap)) < μ26 w27) (∃ l36 : Slc, w31.cell? (Addr.add a_0 0) = some (.slice l36.a l36.len l36.cap) ∧
    ∃ w37 : World, ∃ l38 : Slc, (Builtin.append_ #[69, 69] 69 #[.slice l36.a l36.len l36.cap, .slice (some ⟨w31.heap.size, 0, none⟩) 1 1]).run Try.prog (w31.alloc (.cells #[.int .u64 x_1] 22)) = .ok (.slice l38.a l38.len l38.cap) w37 ∧
    (∃ u, w37.cell? (Addr.add a_0 0) = some u) ∧ w37.frozen? (Addr.add a_0 0) = false ∧ I25 (w37.setCell (Addr.add a_0 0) (.slice l38.a l38.len l38.cap)) ∧
    μ26 (w37.setCell (Addr.add a_0 0) (.slice l38.a l38.len l38.cap)) < μ26 w27)) (R (.int .i64 0) w31)))))))
theorem B57_eq : @B57 = fun (a_0 : Addr) (x_1 : Int) (x_2 : Int) (w : World) (R : Value → World → Prop) => trF Try.prog G (lk [(11, [])]) Try.f57 [.pointer (some a_0), .int .u64 x_1, .int .i64 x_2] w R := by kernel_rfl
theorem c57 (a_0 : Addr) (x_1 : Int) (x_2 : Int) (w : World) (R : Value → World → Prop) (h : B57 a_0 x_1 x_2 w R) : Calls Try.prog 57 #[.pointer (some a_0), .int .u64 x_1, .int .i64 x_2] w (Rv R) := calls_of_tr (L := lk [(11, [])]) Try.func57 hG hM (by rw [B57_eq] at h; exact h)

/-- locution/bitrow.Of -/
def B58 (x_0 : Slc) (x_1 : Int) (w : World) (R : Value → World → Prop) : Prop :=
  br (decide (x_1 < (0 : Int))) (R (.tuple #[.pointer none, .int .i64 1]) w) (Calls Try.prog 87 #[.int .i64 x_1] w (Rv fun v1 w2 => ∃ n3 : Int, v1 = .int .i64 n3 ∧
    br (!(decide (n3 = (x_0.len : Int)))) (R (.tuple #[.pointer none, .int .i64 1]) w2) ((64 : Int) ≠ 0 ∧
    br (!(decide ((Int.tmod x_1 64) = (0 : Int)))) (0 ≤ (IntKind.i64.wrap ((x_0.len : Int) - 1)) ∧ (IntKind.i64.wrap ((x_0.len : Int) - 1)) < (x_0.len : Int) ∧
    ∃ a4, x_0.a = some a4 ∧ ∃ n5 : Int, w2.cell? (Addr.add a4 ((IntKind.i64.wrap ((x_0.len : Int) - 1)).toNat * 1)) = some (.int .u64 n5) ∧ (64 : Int) ≠ 0 ∧
    0 ≤ (IntKind.u64.wrap (Int.tmod x_1 64)) ∧
    br (!(decide ((shR .u64 n5 (IntKind.u64.wrap (Int.tmod x_1 64))) = (0 : Int)))) (R (.tuple #[.pointer none, .int .i64 3]) w2) (Calls Try.prog 85 #[.slice x_0.a x_0.len x_0.cap] w2 (Rv fun v6 w7 =>
    ∃ l8 : Slc, v6 = .slice l8.a l8.len l8.cap ∧
    R (.tuple #[.pointer (some ⟨w7.heap.size, 0, none⟩), .int .i64 0]) (w7.alloc (.cells #[.slice l8.a l8.len l8.cap, .int .i64 x_1] 98))))) (Calls Try.prog 85 #[.slice x_0.a x_0.len x_0.cap] w2 (Rv fun v9 w10 =>
    ∃ l11 : Slc, v9 = .slice l11.a l11.len l11.cap ∧
    R (.tuple #[.pointer (some ⟨w10.heap.size, 0, none⟩), .int .i64 0]) (w10.alloc (.cells #[.slice l11.a l11.len l11.cap, .int .i64 x_1] 98)))))))
theorem B58_eq : @B58 = fun (x_0 : Slc) (x_1 : Int) (w : World) (R : Value → World → Prop) => trF Try.prog G (lk []) Try.f58 [.slice x_0.a x_0.len x_0.cap, .int .i64 x_1] w R := by kernel_rfl
theorem c58 (x_0 : Slc) (x_1 : Int) (w : World) (R : Value → World → Prop) (h : B58 x_0 x_1 w R) : Calls Try.prog 58 #[.slice x_0.a x_0.len x_0.cap, .int .i64 x_1] w (Rv R) := calls_of_tr (L := lk []) Try.func58 hG hM (by rw [B58_eq] at h; exact h)

/-- locution/bitrow.New -/
def B81  (w : World) (R : Value → World → Prop) : Prop :=
  R (.pointer (some ⟨w.heap.size, 0, none⟩)) (w.alloc (.cells #[.slice none 0 0, .int .i64 0] 98))
theorem B81_eq : @B81 = fun (w : World) (R : Value → World → Prop) => trF Try.prog G (lk []) Try.f81 [] w R := by kernel_rfl
theorem c81  (w : World) (R : Value → World → Prop) (h : B81  w R) : Calls Try.prog 81 #[] w (Rv R) := calls_of_tr (L := lk []) Try.func81 hG hM (by rw [B81_eq] at h; exact h)

/-- (*locution/bitrow.Row).word -/
def B84 (a_0 : Addr) (x_1 : Int) (w : World) (R : Value → World → Prop) : Prop :=
  br (decide (x_1 < (0 : Int))) (R (.int .u64 0) w) (∃ l1 : Slc, w.cell? (Addr.add a_0 0) = some (.slice l1.a l1.len l1.cap) ∧
    br (decide ((l1.len : Int) ≤ x_1)) (R (.int .u64 0) w) (∃ l2 : Slc, w.cell? (Addr.add a_0 0) = some (.slice l2.a l2.len l2.cap) ∧ 0 ≤ x_1 ∧
    x_1 < (l2.len : Int) ∧ ∃ a3, l2.a = some a3 ∧ ∃ n4 : Int, w.cell? (Addr.add a3 (x_1.toNat * 1)) = some (.int .u64 n4) ∧ R (.int .u64 n4) w))
theorem B84_eq : @B84 = fun (a_0 : Addr) (x_1 : Int) (w : World) (R : Value → World → Prop) => trF Try.prog G (lk []) Try.f84 [.pointer (some a_0), .int .i64 x_1] w R := by kernel_rfl
theorem c84 (a_0 : Addr) (x_1 : Int) (w : World) (R : Value → World → Prop) (h : B84 a_0 x_1 w R) : Calls Try.prog 84 #[.pointer (some a_0), .int .i64 x_1] w (Rv R) := calls_of_tr (L := lk []) Try.func84 hG hM (by rw [B84_eq] at h; exact h)

/-- locution/bitrow.need -/
def B87 (x_0 : Int) (w : World) (R : Value → World → Prop) : Prop :=
  (64 : Int) ≠ 0 ∧ (64 : Int) ≠ 0 ∧ R (.int .i64 (IntKind.i64.wrap ((IntKind.i64.wrap (Int.tdiv x_0 64)) + (min (Int.tmod x_0 64) (1 : Int))))) w
theorem B87_eq : @B87 = fun (x_0 : Int) (w : World) (R : Value → World → Prop) => trF Try.prog G (lk []) Try.f87 [.int .i64 x_0] w R := by kernel_rfl
theorem c87 (x_0 : Int) (w : World) (R : Value → World → Prop) (h : B87 x_0 w R) : Calls Try.prog 87 #[.int .i64 x_0] w (Rv R) := calls_of_tr (L := lk []) Try.func87 hG hM (by rw [B87_eq] at h; exact h)

/-- locution/locutionref02.Bit -/
def B45 (x_0 : Slc) (x_1 : Int) (w : World) (R : Value → World → Prop) : Prop :=
  br (decide ((0 : Int) ≤ x_1)) (br (decide (x_1 < (x_0.len : Int))) (0 ≤ x_1 ∧ x_1 < (x_0.len : Int) ∧ ∃ a1, x_0.a = some a1 ∧
    ∃ b2 : Bool, w.cell? (Addr.add a1 (x_1.toNat * 1)) = some (.bool b2) ∧ R (.bool b2) w) (R (.bool false) w)) (R (.bool false) w)
theorem B45_eq : @B45 = fun (x_0 : Slc) (x_1 : Int) (w : World) (R : Value → World → Prop) => trF Try.prog G (lk []) Try.f45 [.slice x_0.a x_0.len x_0.cap, .int .i64 x_1] w R := by kernel_rfl
theorem c45 (x_0 : Slc) (x_1 : Int) (w : World) (R : Value → World → Prop) (h : B45 x_0 x_1 w R) : Calls Try.prog 45 #[.slice x_0.a x_0.len x_0.cap, .int .i64 x_1] w (Rv R) := calls_of_tr (L := lk []) Try.func45 hG hM (by rw [B45_eq] at h; exact h)

/-- locution/locutionref02.Cut -/
def B47 (x_0 : Slc) (x_1 : Int) (x_2 : Int) (w : World) (R : Value → World → Prop) : Prop :=
  ∃ (I1 : Int → Int → Int → World → Prop) (μ2 : Int → Int → Int → World → Nat), I1 (0 : Int) (1 : Int) (0 : Int) w ∧
    ∀ x3 : Int, ∀ x4 : Int, ∀ x5 : Int, ∀ w6 : World, I1 x3 x4 x5 w6 →
    br (decide (x5 < (64 : Int))) (br (decide (x5 < x_2)) (br (decide ((-63) ≤ x_1)) (br (decide (x_1 < (x_0.len : Int))) (Calls Try.prog 45 #[.slice x_0.a x_0.len x_0.cap, .int .i64 (IntKind.i64.wrap (x_1 + x5))] w6 (Rv fun v7 w8 =>
    ∃ b9 : Bool, v7 = .bool b9 ∧ br b9 (I1 (IntKind.u64.wrap (x3 + x4)) (IntKind.u64.wrap (x4 * 2)) (IntKind.i64.wrap (x5 + 1)) w8 ∧
    μ2 (IntKind.u64.wrap (x3 + x4)) (IntKind.u64.wrap (x4 * 2)) (IntKind.i64.wrap (x5 + 1)) w8 < μ2 x3 x4 x5 w6) (I1 x3 (IntKind.u64.wrap (x4 * 2)) (IntKind.i64.wrap (x5 + 1)) w8 ∧
    μ2 x3 (IntKind.u64.wrap (x4 * 2)) (IntKind.i64.wrap (x5 + 1)) w8 < μ2 x3 x4 x5 w6))) (I1 x3 (IntKind.u64.wrap (x4 * 2)) (IntKind.i64.wrap (x5 + 1)) w6 ∧
    μ2 x3 (IntKind.u64.wrap (x4 * 2)) (IntKind.i64.wrap (x5 + 1)) w6 < μ2 x3 x4 x5 w6)) (I1 x3 (IntKind.u64.wrap (x4 * 2)) (IntKind.i64.wrap (x5 + 1)) w6 ∧
    μ2 x3 (IntKind.u64.wrap (x4 * 2)) (IntKind.i64.wrap (x5 + 1)) w6 < μ2 x3 x4 x5 w6)) (R (.int .u64 x3) w6)) (R (.int .u64 x3) w6)
theorem B47_eq : @B47 = fun (x_0 : Slc) (x_1 : Int) (x_2 : Int) (w : World) (R : Value → World → Prop) => trF Try.prog G (lk [(4, [(7, .int .u64), (8, .int .u64), (9, .int .i64)])]) Try.f47 [.slice x_0.a x_0.len x_0.cap, .int .i64 x_1, .int .i64 x_2] w R := by kernel_rfl
theorem c47 (x_0 : Slc) (x_1 : Int) (x_2 : Int) (w : World) (R : Value → World → Prop) (h : B47 x_0 x_1 x_2 w R) : Calls Try.prog 47 #[.slice x_0.a x_0.len x_0.cap, .int .i64 x_1, .int .i64 x_2] w (Rv R) := calls_of_tr (L := lk [(4, [(7, .int .u64), (8, .int .u64), (9, .int .i64)])]) Try.func47 hG hM (by rw [B47_eq] at h; exact h)

/-- locution/locutionref02.Ones -/
def B49 (x_0 : Slc) (w : World) (R : Value → World → Prop) : Prop :=
  ∃ (I1 : Int → Int → World → Prop) (μ2 : Int → Int → World → Nat), I1 (0 : Int) (0 : Int) w ∧ ∀ x3 : Int, ∀ x4 : Int, ∀ w5 : World, I1 x3 x4 w5 →
    br (decide (x4 < (x_0.len : Int))) (0 ≤ x4 ∧ x4 < (x_0.len : Int) ∧ ∃ a6, x_0.a = some a6 ∧
    ∃ b7 : Bool, w5.cell? (Addr.add a6 (x4.toNat * 1)) = some (.bool b7) ∧ br b7 (I1 (IntKind.i64.wrap (x3 + 1)) (IntKind.i64.wrap (x4 + 1)) w5 ∧
    μ2 (IntKind.i64.wrap (x3 + 1)) (IntKind.i64.wrap (x4 + 1)) w5 < μ2 x3 x4 w5) (I1 x3 (IntKind.i64.wrap (x4 + 1)) w5 ∧
    μ2 x3 (IntKind.i64.wrap (x4 + 1)) w5 < μ2 x3 x4 w5)) (R (.int .i64 x3) w5)
theorem B49_eq : @B49 = fun (x_0 : Slc) (w : World) (R : Value → World → Prop) => trF Try.prog G (lk [(3, [(3, .int .i64), (4, .int .i64)])]) Try.f49 [.slice x_0.a x_0.len x_0.cap] w R := by kernel_rfl
theorem c49 (x_0 : Slc) (w : World) (R : Value → World → Prop) (h : B49 x_0 w R) : Calls Try.prog 49 #[.slice x_0.a x_0.len x_0.cap] w (Rv R) := calls_of_tr (L := lk [(3, [(3, .int .i64), (4, .int .i64)])]) Try.func49 hG hM (by rw [B49_eq] at h; exact h)

/-- locution/locutionref02.Next -/
def B51 (x_0 : Slc) (x_1 : Int) (w : World) (R : Value → World → Prop) : Prop :=
  ∃ (I1 : Int → World → Prop) (μ2 : Int → World → Nat), I1 (0 : Int) w ∧ ∀ x3 : Int, ∀ w4 : World, I1 x3 w4 →
    br (decide (x3 < (x_0.len : Int))) (br (decide (x_1 ≤ x3)) (0 ≤ x3 ∧ x3 < (x_0.len : Int) ∧ ∃ a5, x_0.a = some a5 ∧
    ∃ b6 : Bool, w4.cell? (Addr.add a5 (x3.toNat * 1)) = some (.bool b6) ∧ br b6 (R (.int .i64 x3) w4) (I1 (IntKind.i64.wrap (x3 + 1)) w4 ∧
    μ2 (IntKind.i64.wrap (x3 + 1)) w4 < μ2 x3 w4)) (I1 (IntKind.i64.wrap (x3 + 1)) w4 ∧ μ2 (IntKind.i64.wrap (x3 + 1)) w4 < μ2 x3 w4)) (R (.int .i64 (-1)) w4)
theorem B51_eq : @B51 = fun (x_0 : Slc) (x_1 : Int) (w : World) (R : Value → World → Prop) => trF Try.prog G (lk [(2, [(5, .int .i64)])]) Try.f51 [.slice x_0.a x_0.len x_0.cap, .int .i64 x_1] w R := by kernel_rfl
theorem c51 (x_0 : Slc) (x_1 : Int) (w : World) (R : Value → World → Prop) (h : B51 x_0 x_1 w R) : Calls Try.prog 51 #[.slice x_0.a x_0.len x_0.cap, .int .i64 x_1] w (Rv R) := calls_of_tr (L := lk [(2, [(5, .int .i64)])]) Try.func51 hG hM (by rw [B51_eq] at h; exact h)

/-- locution/locutionref02.Same -/
def B53 (x_0 : Slc) (x_1 : Slc) (w : World) (R : Value → World → Prop) : Prop :=
  br (!(decide ((x_0.len : Int) = (x_1.len : Int)))) (R (.bool false) w) (∃ (I1 : Int → World → Prop) (μ2 : Int → World → Nat), I1 (0 : Int) w ∧
    ∀ x3 : Int, ∀ w4 : World, I1 x3 w4 → br (decide (x3 < (x_0.len : Int))) (0 ≤ x3 ∧ x3 < (x_0.len : Int) ∧ ∃ a5, x_0.a = some a5 ∧
    ∃ n6 : Int, (World.drew w4).cell? (Addr.add a5 (x3.toNat * 1)) = some (.int .u64 n6) ∧ 0 ≤ x3 ∧ x3 < (x_1.len : Int) ∧ ∃ a7, x_1.a = some a7 ∧
    ∃ n8 : Int, (World.drew w4).cell? (Addr.add a7 (x3.toNat * 1)) = some (.int .u64 n8) ∧
    br (!(decide (n6 = n8))) (R (.bool false) (World.drew w4)) (I1 (IntKind.i64.wrap (x3 + 1)) (World.drew w4) ∧
    μ2 (IntKind.i64.wrap (x3 + 1)) (World.drew w4) < μ2 x3 w4)) (R (.bool true) w4))
theorem B53_eq : @B53 = fun (x_0 : Slc) (x_1 : Slc) (w : World) (R : Value → World → Prop) => trF Try.prog G (lk [(4, [(5, .int .i64)])]) Try.f53 [.slice x_0.a x_0.len x_0.cap, .slice x_1.a x_1.len x_1.cap] w R := by kernel_rfl
theorem c53 (x_0 : Slc) (x_1 : Slc) (w : World) (R : Value → World → Prop) (h : B53 x_0 x_1 w R) : Calls Try.prog 53 #[.slice x_0.a x_0.len x_0.cap, .slice x_1.a x_1.len x_1.cap] w (Rv R) := calls_of_tr (L := lk [(4, [(5, .int .i64)])]) Try.func53 hG hM (by rw [B53_eq] at h; exact h)

/-- locution/locutionref02.Words -/
def B55 (x_0 : Slc) (w : World) (R : Value → World → Prop) : Prop :=
  ∃ (I1 : Slc → Int → World → Prop) (μ2 : Slc → Int → World → Nat), I1 ⟨none, 0, 0⟩ (0 : Int) w ∧ ∀ x3 : Slc, ∀ x4 : Int, ∀ w5 : World, I1 x3 x4 w5 →
    br (decide (x4 < (x_0.len : Int))) (Calls Try.prog 47 #[.slice x_0.a x_0.len x_0.cap, .int .i64 x4, .int .i64 64] w5 (Rv fun v6 w7 => ∃ n8 : Int, v6 = .int .u64 n8 ∧
    ∃ w9 : World, ∃ l10 : Slc, (Builtin.append_ #[69, 69] 69 #[.slice x3.a x3.len x3.cap, .slice (some ⟨w7.heap.size, 0, none⟩) 1 1]).run Try.prog (w7.alloc (.cells #[.int .u64 n8] 22)) = .ok (.slice l10.a l10.len l10.cap) w9 ∧
    I1 l10 (IntKind.i64.wrap (x4 + 64)) w9 ∧ μ2 l10 (IntKind.i64.wrap (x4 + 64)) w9 < μ2 x3 x4 w5)) (R (.slice x3.a x3.len x3.cap) w5)
theorem B55_eq : @B55 = fun (x_0 : Slc) (w : World) (R : Value → World → Prop) => trF Try.prog G (lk [(3, [(3, .slc), (4, .int .i64)])]) Try.f55 [.slice x_0.a x_0.len x_0.cap] w R := by kernel_rfl
theorem c55 (x_0 : Slc) (w : World) (R : Value → World → Prop) (h : B55 x_0 w R) : Calls Try.prog 55 #[.slice x_0.a x_0.len x_0.cap] w (Rv R) := calls_of_tr (L := lk [(3, [(3, .slc), (4, .int .i64)])]) Try.func55 hG hM (by rw [B55_eq] at h; exact h)

/-- locution/locutionref02.Of -/
def B59 (x_0 : Slc) (x_1 : Int) (w : World) (R : Value → World → Prop) : Prop :=
  
    br (decide (x_1 < (0 : Int))) (R (.tuple #[.slice none 0 0, .bool false]) w) (br (decide ((IntKind.i64.wrap (64 * (x_0.len : Int))) < x_1)) (R (.tuple #[.slice none 0 0, .bool false]) w) (∃ (I1 : Slc →
    Int → World → Prop) (μ2 : Slc → Int → World → Nat), I1 ⟨none, 0, 0⟩ (0 : Int) w ∧ ∀ x3 : Slc, ∀ x4 : Int, ∀ w5 : World, I1 x3 x4 w5 →
    br (decide (x4 < x_1)) ((64 : Int) ≠ 0 ∧ 0 ≤ (IntKind.i64.wrap (Int.tdiv x4 64)) ∧ (IntKind.i64.wrap (Int.tdiv x4 64)) < (x_0.len : Int) ∧
    ∃ a6, x_0.a = some a6 ∧ ∃ n7 : Int, w5.cell? (Addr.add a6 ((IntKind.i64.wrap (Int.tdiv x4 64)).toNat * 1)) = some (.int .u64 n7) ∧ (64 : Int) ≠ 0 ∧
    Calls Try.prog 20 #[.int .u64 n7, .int .i64 (Int.tmod x4 64)] w5 (Rv fun v8 w9 => ∃ b10 : Bool, v8 = .bool b10 ∧
    ∃ w11 : World, ∃ l12 : Slc, (Builtin.append_ #[57, 57] 57 #[.slice x3.a x3.len x3.cap, .slice (some ⟨w9.heap.size, 0, none⟩) 1 1]).run Try.prog (w9.alloc (.cells #[.bool b10] 4)) = .ok (.slice l12.a l12.len l12.cap) w11 ∧
    I1 l12 (IntKind.i64.wrap (x4 + 1)) w11 ∧ μ2 l12 (IntKind.i64.wrap (x4 + 1)) w11 < μ2 x3 x4 w5)) (Calls Try.prog 55 #[.slice x3.a x3.len x3.cap] w5 (Rv fun v13 w14 =>
    ∃ l15 : Slc, v13 = .slice l15.a l15.len l15.cap ∧ Calls Try.prog 53 #[.slice l15.a l15.len l15.cap, .slice x_0.a x_0.len x_0.cap] w14 (Rv fun v16 w17 =>
    ∃ b18 : Bool, v16 = .bool b18 ∧ R (.tuple #[.slice x3.a x3.len x3.cap, .bool b18]) w17)))))
theorem B59_eq : @B59 = fun (x_0 : Slc) (x_1 : Int) (w : World) (R : Value → World → Prop) => trF Try.prog G (lk [(5, [(6, .slc), (7, .int .i64)])]) Try.f59 [.slice x_0.a x_0.len x_0.cap, .int .i64 x_1] w R := by kernel_rfl
theorem c59 (x_0 : Slc) (x_1 : Int) (w : World) (R : Value → World → Prop) (h : B59 x_0 x_1 w R) : Calls Try.prog 59 #[.slice x_0.a x_0.len x_0.cap, .int .i64 x_1] w (Rv R) := calls_of_tr (L := lk [(5, [(6, .slc), (7, .int .i64)])]) Try.func59 hG hM (by rw [B59_eq] at h; exact h)

/-- locution/locutionref02.May -/
def B82 (x_0 : Int) (x_1 : Int) (w : World) (R : Value → World → Prop) : Prop :=
  br (decide ((0 : Int) ≤ x_1)) (br (decide (x_1 ≤ (64 : Int))) (Calls Try.prog 26 #[.int .u64 x_0] w (Rv fun v1 w2 => ∃ n3 : Int, v1 = .int .i64 n3 ∧
    R (.bool (decide (n3 ≤ x_1))) w2)) (R (.bool false) w)) (R (.bool false) w)
theorem B82_eq : @B82 = fun (x_0 : Int) (x_1 : Int) (w : World) (R : Value → World → Prop) => trF Try.prog G (lk []) Try.f82 [.int .u64 x_0, .int .i64 x_1] w R := by kernel_rfl
theorem c82 (x_0 : Int) (x_1 : Int) (w : World) (R : Value → World → Prop) (h : B82 x_0 x_1 w R) : Calls Try.prog 82 #[.int .u64 x_0, .int .i64 x_1] w (Rv R) := calls_of_tr (L := lk []) Try.func82 hG hM (by rw [B82_eq] at h; exact h)

/-- locution/locutionref02.Add -/
def B83 (x_0 : Slc) (x_1 : Int) (x_2 : Int) (w : World) (R : Value → World → Prop) : Prop :=
  
    ∃ w1 : World, ∃ l2 : Slc, (Builtin.append_ #[57, 57] 57 #[.slice (some ⟨w.heap.size, 0, none⟩) 0 0, .slice x_0.a x_0.len x_0.cap]).run Try.prog (w.alloc (.cells #[] 4)) = .ok (.slice l2.a l2.len l2.cap) w1 ∧
    ∃ (I3 : Slc → Int → World → Prop) (μ4 : Slc → Int → World → Nat), I3 l2 (0 : Int) w1 ∧ ∀ x5 : Slc, ∀ x6 : Int, ∀ w7 : World, I3 x5 x6 w7 →
    br (decide (x6 < x_2)) (Calls Try.prog 20 #[.int .u64 x_1, .int .i64 x6] w7 (Rv fun v8 w9 => ∃ b10 : Bool, v8 = .bool b10 ∧
    ∃ w11 : World, ∃ l12 : Slc, (Builtin.append_ #[57, 57] 57 #[.slice x5.a x5.len x5.cap, .slice (some ⟨w9.heap.size, 0, none⟩) 1 1]).run Try.prog (w9.alloc (.cells #[.bool b10] 4)) = .ok (.slice l12.a l12.len l12.cap) w11 ∧
    I3 l12 (IntKind.i64.wrap (x6 + 1)) w11 ∧ μ4 l12 (IntKind.i64.wrap (x6 + 1)) w11 < μ4 x5 x6 w7)) (R (.slice x5.a x5.len x5.cap) w7)
theorem B83_eq : @B83 = fun (x_0 : Slc) (x_1 : Int) (x_2 : Int) (w : World) (R : Value → World → Prop) => trF Try.prog G (lk [(3, [(7, .slc), (8, .int .i64)])]) Try.f83 [.slice x_0.a x_0.len x_0.cap, .int .u64 x_1, .int .i64 x_2] w R := by kernel_rfl
theorem c83 (x_0 : Slc) (x_1 : Int) (x_2 : Int) (w : World) (R : Value → World → Prop) (h : B83 x_0 x_1 x_2 w R) : Calls Try.prog 83 #[.slice x_0.a x_0.len x_0.cap, .int .u64 x_1, .int .i64 x_2] w (Rv R) := calls_of_tr (L := lk [(3, [(7, .slc), (8, .int .i64)])]) Try.func83 hG hM (by rw [B83_eq] at h; exact h)

/-- locution/locutionlaw02.RowTells -/
def B10 (x_0 : Slc) (x_1 : Int) (x_2 : Int) (w : World) (R : Value → World → Prop) : Prop :=
  br (decide ((40 : Int) < (x_0.len : Int))) (Calls Try.prog 42 #[] w (Rv fun v1 w2 => ∃ b3 : Bool, v1 = .bool b3 ∧
    R (.bool b3) w2)) (Calls Try.prog 43 #[.slice x_0.a x_0.len x_0.cap] w (Rv fun v4 w5 =>
    ∃ p6 : Option Addr, ∃ l7 : Slc, ∃ b8 : Bool, v4 = .tuple #[.pointer p6, .slice l7.a l7.len l7.cap, .bool b8] ∧
    br (!b8) (R (.bool false) w5) (Calls Try.prog 44 #[.pointer p6, .int .i64 x_1] w5 (Rv fun v9 w10 => ∃ b11 : Bool, v9 = .bool b11 ∧
    Calls Try.prog 45 #[.slice l7.a l7.len l7.cap, .int .i64 x_1] w10 (Rv fun v12 w13 => ∃ b14 : Bool, v12 = .bool b14 ∧
    br (!(b11 == b14)) (R (.bool false) w13) (Calls Try.prog 46 #[.pointer p6, .int .i64 x_1, .int .i64 x_2] w13 (Rv fun v15 w16 => ∃ n17 : Int, v15 = .int .u64 n17 ∧
    Calls Try.prog 47 #[.slice l7.a l7.len l7.cap, .int .i64 x_1, .int .i64 x_2] w16 (Rv fun v18 w19 => ∃ n20 : Int, v18 = .int .u64 n20 ∧
    br (!(decide (n17 = n20))) (R (.bool false) w19) (Calls Try.prog 48 #[.pointer p6] w19 (Rv fun v21 w22 => ∃ n23 : Int, v21 = .int .i64 n23 ∧
    Calls Try.prog 49 #[.slice l7.a l7.len l7.cap] w22 (Rv fun v24 w25 => ∃ n26 : Int, v24 = .int .i64 n26 ∧
    br (decide (n23 = n26)) (Calls Try.prog 50 #[.pointer p6, .int .i64 x_1] w25 (Rv fun v27 w28 => ∃ n29 : Int, v27 = .int .i64 n29 ∧
    Calls Try.prog 51 #[.slice l7.a l7.len l7.cap, .int .i64 x_1] w28 (Rv fun v30 w31 => ∃ n32 : Int, v30 = .int .i64 n32 ∧
    br (decide (n29 = n32)) (Calls Try.prog 42 #[] w31 (Rv fun v33 w34 => ∃ b35 : Bool, v33 = .bool b35 ∧
    R (.bool b35) w34)) (R (.bool false) w31)))) (R (.bool false) w25))))))))))))
theorem B10_eq : @B10 = fun (x_0 : Slc) (x_1 : Int) (x_2 : Int) (w : World) (R : Value → World → Prop) => trF Try.prog G (lk []) Try.f10 [.slice x_0.a x_0.len x_0.cap, .int .i64 x_1, .int .i64 x_2] w R := by kernel_rfl
theorem c10 (x_0 : Slc) (x_1 : Int) (x_2 : Int) (w : World) (R : Value → World → Prop) (h : B10 x_0 x_1 x_2 w R) : Calls Try.prog 10 #[.slice x_0.a x_0.len x_0.cap, .int .i64 x_1, .int .i64 x_2] w (Rv R) := calls_of_tr (L := lk []) Try.func10 hG hM (by rw [B10_eq] at h; exact h)

/-- locution/locutionlaw02.RowAdds -/
def B11 (x_0 : Slc) (w : World) (R : Value → World → Prop) : Prop :=
  br (decide ((100 : Int) < (x_0.len : Int))) (Calls Try.prog 42 #[] w (Rv fun v1 w2 => ∃ b3 : Bool, v1 = .bool b3 ∧
    R (.bool b3) w2)) (Calls Try.prog 43 #[.slice x_0.a x_0.len x_0.cap] w (Rv fun v4 w5 =>
    ∃ p6 : Option Addr, ∃ l7 : Slc, ∃ b8 : Bool, v4 = .tuple #[.pointer p6, .slice l7.a l7.len l7.cap, .bool b8] ∧
    br b8 (Calls Try.prog 52 #[.pointer p6] w5 (Rv fun v9 w10 => ∃ n11 : Int, v9 = .int .i64 n11 ∧
    br (decide (n11 = (l7.len : Int))) (Calls Try.prog 54 #[.pointer p6] w10 (Rv fun v12 w13 => ∃ l14 : Slc, v12 = .slice l14.a l14.len l14.cap ∧
    Calls Try.prog 55 #[.slice l7.a l7.len l7.cap] w13 (Rv fun v15 w16 => ∃ l17 : Slc, v15 = .slice l17.a l17.len l17.cap ∧
    Calls Try.prog 53 #[.slice l14.a l14.len l14.cap, .slice l17.a l17.len l17.cap] w16 (Rv fun v18 w19 => ∃ b20 : Bool, v18 = .bool b20 ∧
    br b20 (Calls Try.prog 42 #[] w19 (Rv fun v21 w22 => ∃ b23 : Bool, v21 = .bool b23 ∧
    R (.bool b23) w22)) (R (.bool false) w19))))) (R (.bool false) w10))) (R (.bool false) w5)))
theorem B11_eq : @B11 = fun (x_0 : Slc) (w : World) (R : Value → World → Prop) => trF Try.prog G (lk []) Try.f11 [.slice x_0.a x_0.len x_0.cap] w R := by kernel_rfl
theorem c11 (x_0 : Slc) (w : World) (R : Value → World → Prop) (h : B11 x_0 w R) : Calls Try.prog 11 #[.slice x_0.a x_0.len x_0.cap] w (Rv R) := calls_of_tr (L := lk []) Try.func11 hG hM (by rw [B11_eq] at h; exact h)

/-- locution/locutionlaw02.RowSame -/
def B12 (x_0 : Slc) (x_1 : Slc) (x_2 : Int) (w : World) (R : Value → World → Prop) : Prop :=
  br (decide ((20 : Int) < (x_0.len : Int))) (Calls Try.prog 42 #[] w (Rv fun v1 w2 => ∃ b3 : Bool, v1 = .bool b3 ∧
    R (.bool b3) w2)) (br (decide ((20 : Int) < (x_1.len : Int))) (Calls Try.prog 42 #[] w (Rv fun v4 w5 => ∃ b6 : Bool, v4 = .bool b6 ∧
    R (.bool b6) w5)) (Calls Try.prog 43 #[.slice x_0.a x_0.len x_0.cap] w (Rv fun v7 w8 =>
    ∃ p9 : Option Addr, ∃ l10 : Slc, ∃ b11 : Bool, v7 = .tuple #[.pointer p9, .slice l10.a l10.len l10.cap, .bool b11] ∧
    Calls Try.prog 43 #[.slice x_1.a x_1.len x_1.cap] w8 (Rv fun v12 w13 =>
    ∃ p14 : Option Addr, ∃ l15 : Slc, ∃ b16 : Bool, v12 = .tuple #[.pointer p14, .slice l15.a l15.len l15.cap, .bool b16] ∧
    br (!b11) (R (.bool false) w13) (br (!b16) (R (.bool false) w13) (br (decide ((l10.len : Int) = (l15.len : Int))) (Calls Try.prog 55 #[.slice l10.a l10.len l10.cap] w13 (Rv fun v17 w18 =>
    ∃ l19 : Slc, v17 = .slice l19.a l19.len l19.cap ∧ Calls Try.prog 55 #[.slice l15.a l15.len l15.cap] w18 (Rv fun v20 w21 =>
    ∃ l22 : Slc, v20 = .slice l22.a l22.len l22.cap ∧ Calls Try.prog 53 #[.slice l19.a l19.len l19.cap, .slice l22.a l22.len l22.cap] w21 (Rv fun v23 w24 =>
    ∃ b25 : Bool, v23 = .bool b25 ∧ Calls Try.prog 56 #[.pointer p9, .pointer p14] w24 (Rv fun v26 w27 => ∃ b28 : Bool, v26 = .bool b28 ∧
    br (!(b28 == b25)) (R (.bool false) w27) (Calls Try.prog 56 #[.pointer none, .pointer p9] w27 (Rv fun v29 w30 => ∃ b31 : Bool, v29 = .bool b31 ∧
    br (!(b31 == (decide ((l10.len : Int) = (0 : Int))))) (R (.bool false) w30) (Calls Try.prog 56 #[.pointer p14, .pointer none] w30 (Rv fun v32 w33 =>
    ∃ b34 : Bool, v32 = .bool b34 ∧
    br (!(b34 == (decide ((l15.len : Int) = (0 : Int))))) (R (.bool false) w33) (Calls Try.prog 57 #[.pointer none, .int .u64 0, .int .i64 0] w33 (Rv fun v35 w36 =>
    ∃ n37 : Int, v35 = .int .i64 n37 ∧ br (decide (n37 = (11 : Int))) (Calls Try.prog 52 #[.pointer none] w36 (Rv fun v38 w39 => ∃ n40 : Int, v38 = .int .i64 n40 ∧
    br (decide (n40 = (0 : Int))) (Calls Try.prog 44 #[.pointer none, .int .i64 x_2] w39 (Rv fun v41 w42 => ∃ b43 : Bool, v41 = .bool b43 ∧
    br (!b43) (Calls Try.prog 46 #[.pointer none, .int .i64 x_2, .int .i64 64] w42 (Rv fun v44 w45 => ∃ n46 : Int, v44 = .int .u64 n46 ∧
    br (decide (n46 = (0 : Int))) (Calls Try.prog 48 #[.pointer none] w45 (Rv fun v47 w48 => ∃ n49 : Int, v47 = .int .i64 n49 ∧
    br (decide (n49 = (0 : Int))) (Calls Try.prog 50 #[.pointer none, .int .i64 x_2] w48 (Rv fun v50 w51 => ∃ n52 : Int, v50 = .int .i64 n52 ∧
    br (decide (n52 = (-1))) (Calls Try.prog 54 #[.pointer none] w51 (Rv fun v53 w54 => ∃ l55 : Slc, v53 = .slice l55.a l55.len l55.cap ∧
    br (decide ((l55.len : Int) = (0 : Int))) (Calls Try.prog 42 #[] w54 (Rv fun v56 w57 => ∃ b58 : Bool, v56 = .bool b58 ∧
    R (.bool b58) w57)) (R (.bool false) w54))) (R (.bool false) w51))) (R (.bool false) w48))) (R (.bool false) w45))) (R (.bool false) w42))) (R (.bool false) w39))) (R (.bool false) w36)))))))))))) (Calls Try.prog 56 #[.pointer p9, .pointer p14] w13 (Rv fun v59 w60 =>
    ∃ b61 : Bool, v59 = .bool b61 ∧ br (!(b61 == false)) (R (.bool false) w60) (Calls Try.prog 56 #[.pointer none, .pointer p9] w60 (Rv fun v62 w63 =>
    ∃ b64 : Bool, v62 = .bool b64 ∧
    br (!(b64 == (decide ((l10.len : Int) = (0 : Int))))) (R (.bool false) w63) (Calls Try.prog 56 #[.pointer p14, .pointer none] w63 (Rv fun v65 w66 =>
    ∃ b67 : Bool, v65 = .bool b67 ∧
    br (!(b67 == (decide ((l15.len : Int) = (0 : Int))))) (R (.bool false) w66) (Calls Try.prog 57 #[.pointer none, .int .u64 0, .int .i64 0] w66 (Rv fun v68 w69 =>
    ∃ n70 : Int, v68 = .int .i64 n70 ∧ br (decide (n70 = (11 : Int))) (Calls Try.prog 52 #[.pointer none] w69 (Rv fun v71 w72 => ∃ n73 : Int, v71 = .int .i64 n73 ∧
    br (decide (n73 = (0 : Int))) (Calls Try.prog 44 #[.pointer none, .int .i64 x_2] w72 (Rv fun v74 w75 => ∃ b76 : Bool, v74 = .bool b76 ∧
    br (!b76) (Calls Try.prog 46 #[.pointer none, .int .i64 x_2, .int .i64 64] w75 (Rv fun v77 w78 => ∃ n79 : Int, v77 = .int .u64 n79 ∧
    br (decide (n79 = (0 : Int))) (Calls Try.prog 48 #[.pointer none] w78 (Rv fun v80 w81 => ∃ n82 : Int, v80 = .int .i64 n82 ∧
    br (decide (n82 = (0 : Int))) (Calls Try.prog 50 #[.pointer none, .int .i64 x_2] w81 (Rv fun v83 w84 => ∃ n85 : Int, v83 = .int .i64 n85 ∧
    br (decide (n85 = (-1))) (Calls Try.prog 54 #[.pointer none] w84 (Rv fun v86 w87 => ∃ l88 : Slc, v86 = .slice l88.a l88.len l88.cap ∧
    br (decide ((l88.len : Int) = (0 : Int))) (Calls Try.prog 42 #[] w87 (Rv fun v89 w90 => ∃ b91 : Bool, v89 = .bool b91 ∧
    R (.bool b91) w90)) (R (.bool false) w87))) (R (.bool false) w84))) (R (.bool false) w81))) (R (.bool false) w78))) (R (.bool false) w75))) (R (.bool false) w72))) (R (.bool false) w69)))))))))))))))
theorem B12_eq : @B12 = fun (x_0 : Slc) (x_1 : Slc) (x_2 : Int) (w : World) (R : Value → World → Prop) => trF Try.prog G (lk []) Try.f12 [.slice x_0.a x_0.len x_0.cap, .slice x_1.a x_1.len x_1.cap, .int .i64 x_2] w R := by kernel_rfl
theorem c12 (x_0 : Slc) (x_1 : Slc) (x_2 : Int) (w : World) (R : Value → World → Prop) (h : B12 x_0 x_1 x_2 w R) : Calls Try.prog 12 #[.slice x_0.a x_0.len x_0.cap, .slice x_1.a x_1.len x_1.cap, .int .i64 x_2] w (Rv R) := calls_of_tr (L := lk []) Try.func12 hG hM (by rw [B12_eq] at h; exact h)

/-- locution/locutionlaw02.RowOf -/
def B13 (x_0 : Slc) (x_1 : Int) (w : World) (R : Value → World → Prop) : Prop :=
  br (decide ((60 : Int) < (x_0.len : Int))) (Calls Try.prog 42 #[] w (Rv fun v1 w2 => ∃ b3 : Bool, v1 = .bool b3 ∧
    R (.bool b3) w2)) (Calls Try.prog 58 #[.slice x_0.a x_0.len x_0.cap, .int .i64 x_1] w (Rv fun v4 w5 =>
    ∃ p6 : Option Addr, ∃ n7 : Int, v4 = .tuple #[.pointer p6, .int .i64 n7] ∧ Calls Try.prog 59 #[.slice x_0.a x_0.len x_0.cap, .int .i64 x_1] w5 (Rv fun v8 w9 =>
    ∃ l10 : Slc, ∃ b11 : Bool, v8 = .tuple #[.slice l10.a l10.len l10.cap, .bool b11] ∧
    br b11 (br (decide (n7 = (0 : Int))) (br (!p6.isNone) (Calls Try.prog 52 #[.pointer p6] w9 (Rv fun v12 w13 => ∃ n14 : Int, v12 = .int .i64 n14 ∧
    br (decide (n14 = x_1)) (Calls Try.prog 54 #[.pointer p6] w13 (Rv fun v15 w16 => ∃ l17 : Slc, v15 = .slice l17.a l17.len l17.cap ∧
    Calls Try.prog 53 #[.slice l17.a l17.len l17.cap, .slice x_0.a x_0.len x_0.cap] w16 (Rv fun v18 w19 => ∃ b20 : Bool, v18 = .bool b20 ∧
    br b20 (Calls Try.prog 48 #[.pointer p6] w19 (Rv fun v21 w22 => ∃ n23 : Int, v21 = .int .i64 n23 ∧
    Calls Try.prog 49 #[.slice l10.a l10.len l10.cap] w22 (Rv fun v24 w25 => ∃ n26 : Int, v24 = .int .i64 n26 ∧
    br (decide (n23 = n26)) (Calls Try.prog 56 #[.pointer p6, .pointer p6] w25 (Rv fun v27 w28 => ∃ b29 : Bool, v27 = .bool b29 ∧
    br b29 (Calls Try.prog 42 #[] w28 (Rv fun v30 w31 => ∃ b32 : Bool, v30 = .bool b32 ∧
    R (.bool b32) w31)) (R (.bool false) w28))) (R (.bool false) w25)))) (R (.bool false) w19)))) (R (.bool false) w13))) (R (.bool false) w9)) (R (.bool false) w9)) (br (decide (x_1 < (0 : Int))) (br p6.isNone (br ((decide (n7 = (1 : Int))) == true) (br ((decide (n7 = (3 : Int))) == false) (Calls Try.prog 42 #[] w9 (Rv fun v33 w34 =>
    ∃ b35 : Bool, v33 = .bool b35 ∧
    R (.bool b35) w34)) (R (.bool false) w9)) (R (.bool false) w9)) (R (.bool false) w9)) (br (decide ((IntKind.i64.wrap (64 * (x_0.len : Int))) < x_1)) (br p6.isNone (br ((decide (n7 = (1 : Int))) == true) (br ((decide (n7 = (3 : Int))) == false) (Calls Try.prog 42 #[] w9 (Rv fun v36 w37 =>
    ∃ b38 : Bool, v36 = .bool b38 ∧
    R (.bool b38) w37)) (R (.bool false) w9)) (R (.bool false) w9)) (R (.bool false) w9)) (br p6.isNone (br ((decide (n7 = (1 : Int))) == (decide (x_1 ≤ (IntKind.i64.wrap (64 * (IntKind.i64.wrap ((x_0.len : Int) - 1))))))) (br ((decide (n7 = (3 : Int))) == (!(decide (x_1 ≤ (IntKind.i64.wrap (64 * (IntKind.i64.wrap ((x_0.len : Int) - 1)))))))) (Calls Try.prog 42 #[] w9 (Rv fun v39 w40 =>
    ∃ b41 : Bool, v39 = .bool b41 ∧ R (.bool b41) w40)) (R (.bool false) w9)) (R (.bool false) w9)) (R (.bool false) w9)))))))
theorem B13_eq : @B13 = fun (x_0 : Slc) (x_1 : Int) (w : World) (R : Value → World → Prop) => trF Try.prog G (lk []) Try.f13 [.slice x_0.a x_0.len x_0.cap, .int .i64 x_1] w R := by kernel_rfl
theorem c13 (x_0 : Slc) (x_1 : Int) (w : World) (R : Value → World → Prop) (h : B13 x_0 x_1 w R) : Calls Try.prog 13 #[.slice x_0.a x_0.len x_0.cap, .int .i64 x_1] w (Rv R) := calls_of_tr (L := lk []) Try.func13 hG hM (by rw [B13_eq] at h; exact h)

/-- locution/locutionlaw02.live -/
def B42  (w : World) (R : Value → World → Prop) : Prop :=
  Calls Try.prog 81 #[] w (Rv fun v1 w2 => ∃ p3 : Option Addr, v1 = .pointer p3 ∧
    br (!p3.isNone) (Calls Try.prog 57 #[.pointer p3, .int .u64 5, .int .i64 3] w2 (Rv fun v4 w5 => ∃ n6 : Int, v4 = .int .i64 n6 ∧
    br (decide (n6 = (0 : Int))) (Calls Try.prog 57 #[.pointer p3, .int .u64 1, .int .i64 2] w5 (Rv fun v7 w8 => ∃ n9 : Int, v7 = .int .i64 n9 ∧
    br (decide (n9 = (0 : Int))) (Calls Try.prog 52 #[.pointer p3] w8 (Rv fun v10 w11 => ∃ n12 : Int, v10 = .int .i64 n12 ∧
    br (decide (n12 = (5 : Int))) (Calls Try.prog 46 #[.pointer p3, .int .i64 1, .int .i64 3] w11 (Rv fun v13 w14 => ∃ n15 : Int, v13 = .int .u64 n15 ∧
    br (decide (n15 = (6 : Int))) (Calls Try.prog 50 #[.pointer p3, .int .i64 1] w14 (Rv fun v16 w17 => ∃ n18 : Int, v16 = .int .i64 n18 ∧
    br (decide (n18 = (2 : Int))) (Calls Try.prog 48 #[.pointer p3] w17 (Rv fun v19 w20 => ∃ n21 : Int, v19 = .int .i64 n21 ∧
    R (.bool (decide (n21 = (3 : Int)))) w20)) (R (.bool false) w17))) (R (.bool false) w14))) (R (.bool false) w11))) (R (.bool false) w8))) (R (.bool false) w5))) (R (.bool false) w2))
theorem B42_eq : @B42 = fun (w : World) (R : Value → World → Prop) => trF Try.prog G (lk []) Try.f42 [] w R := by kernel_rfl
theorem c42  (w : World) (R : Value → World → Prop) (h : B42  w R) : Calls Try.prog 42 #[] w (Rv R) := calls_of_tr (L := lk []) Try.func42 hG hM (by rw [B42_eq] at h; exact h)

/-- locution/locutionlaw02.Built -/
def B43 (x_0 : Slc) (w : World) (R : Value → World → Prop) : Prop :=
  Calls Try.prog 81 #[] w (Rv fun v1 w2 => ∃ p3 : Option Addr, v1 = .pointer p3 ∧ ∃ (I4 : Slc → Int → World → Prop) (μ5 : Slc → Int → World →
    Nat), I4 ⟨none, 0, 0⟩ (0 : Int) w2 ∧ ∀ x6 : Slc, ∀ x7 : Int, ∀ w8 : World, I4 x6 x7 w8 → br (decide (x7 < (x_0.len : Int))) (0 ≤ x7 ∧ x7 < (x_0.len : Int) ∧
    ∃ a9, x_0.a = some a9 ∧ ∃ n10 : Int, (World.drew w8).cell? (Addr.add (Addr.add a9 (x7.toNat * 2)) 0) = some (.int .u64 n10) ∧ 0 ≤ x7 ∧ x7 < (x_0.len : Int) ∧
    ∃ a11, x_0.a = some a11 ∧ ∃ n12 : Int, (World.drew w8).cell? (Addr.add (Addr.add a11 (x7.toNat * 2)) 1) = some (.int .i64 n12) ∧
    Calls Try.prog 57 #[.pointer p3, .int .u64 n10, .int .i64 n12] (World.drew w8) (Rv fun v13 w14 => ∃ n15 : Int, v13 = .int .i64 n15 ∧ 0 ≤ x7 ∧ x7 < (x_0.len : Int) ∧
    ∃ a16, x_0.a = some a16 ∧ ∃ n17 : Int, w14.cell? (Addr.add (Addr.add a16 (x7.toNat * 2)) 1) = some (.int .i64 n17) ∧
    br (decide (n17 < (0 : Int))) (br (!(decide (n15 = (1 : Int)))) (R (.tuple #[.pointer p3, .slice x6.a x6.len x6.cap, .bool false]) w14) (I4 x6 (IntKind.i64.wrap (x7 + 1)) w14 ∧
    μ5 x6 (IntKind.i64.wrap (x7 + 1)) w14 < μ5 x6 x7 w8)) (0 ≤ x7 ∧ x7 < (x_0.len : Int) ∧ ∃ a18, x_0.a = some a18 ∧
    ∃ n19 : Int, w14.cell? (Addr.add (Addr.add a18 (x7.toNat * 2)) 1) = some (.int .i64 n19) ∧
    br (decide ((64 : Int) < n19)) (br (!(decide (n15 = (1 : Int)))) (R (.tuple #[.pointer p3, .slice x6.a x6.len x6.cap, .bool false]) w14) (I4 x6 (IntKind.i64.wrap (x7 + 1)) w14 ∧
    μ5 x6 (IntKind.i64.wrap (x7 + 1)) w14 < μ5 x6 x7 w8)) (0 ≤ x7 ∧ x7 < (x_0.len : Int) ∧ ∃ a20, x_0.a = some a20 ∧
    ∃ n21 : Int, (World.drew w14).cell? (Addr.add (Addr.add a20 (x7.toNat * 2)) 0) = some (.int .u64 n21) ∧ 0 ≤ x7 ∧ x7 < (x_0.len : Int) ∧ ∃ a22, x_0.a = some a22 ∧
    ∃ n23 : Int, (World.drew w14).cell? (Addr.add (Addr.add a22 (x7.toNat * 2)) 1) = some (.int .i64 n23) ∧
    Calls Try.prog 82 #[.int .u64 n21, .int .i64 n23] (World.drew w14) (Rv fun v24 w25 => ∃ b26 : Bool, v24 = .bool b26 ∧
    br (!b26) (br (!(decide (n15 = (8 : Int)))) (R (.tuple #[.pointer p3, .slice x6.a x6.len x6.cap, .bool false]) w25) (I4 x6 (IntKind.i64.wrap (x7 + 1)) w25 ∧
    μ5 x6 (IntKind.i64.wrap (x7 + 1)) w25 < μ5 x6 x7 w8)) (0 ≤ x7 ∧ x7 < (x_0.len : Int) ∧ ∃ a27, x_0.a = some a27 ∧
    ∃ n28 : Int, (World.drew w25).cell? (Addr.add (Addr.add a27 (x7.toNat * 2)) 0) = some (.int .u64 n28) ∧ 0 ≤ x7 ∧ x7 < (x_0.len : Int) ∧ ∃ a29, x_0.a = some a29 ∧
    ∃ n30 : Int, (World.drew w25).cell? (Addr.add (Addr.add a29 (x7.toNat * 2)) 1) = some (.int .i64 n30) ∧
    Calls Try.prog 83 #[.slice x6.a x6.len x6.cap, .int .u64 n28, .int .i64 n30] (World.drew w25) (Rv fun v31 w32 => ∃ l33 : Slc, v31 = .slice l33.a l33.len l33.cap ∧
    br (!(decide (n15 = (0 : Int)))) (R (.tuple #[.pointer p3, .slice l33.a l33.len l33.cap, .bool false]) w32) (I4 l33 (IntKind.i64.wrap (x7 + 1)) w32 ∧
    μ5 l33 (IntKind.i64.wrap (x7 + 1)) w32 < μ5 x6 x7 w8)))))))) (R (.tuple #[.pointer p3, .slice x6.a x6.len x6.cap, .bool (!p3.isNone)]) w8))
theorem B43_eq : @B43 = fun (x_0 : Slc) (w : World) (R : Value → World → Prop) => trF Try.prog G (lk [(4, [(6, .slc), (7, .int .i64)])]) Try.f43 [.slice x_0.a x_0.len x_0.cap] w R := by kernel_rfl
theorem c43 (x_0 : Slc) (w : World) (R : Value → World → Prop) (h : B43 x_0 w R) : Calls Try.prog 43 #[.slice x_0.a x_0.len x_0.cap] w (Rv R) := calls_of_tr (L := lk [(4, [(6, .slc), (7, .int .i64)])]) Try.func43 hG hM (by rw [B43_eq] at h; exact h)

/-- slices.Clone[[]uint64,uint64] -/
def B85 (x_0 : Slc) (w : World) (R : Value → World → Prop) : Prop :=
  
    br x_0.a.isNone (R (.slice none 0 0) w) (∃ w1 : World, ∃ l2 : Slc, (Builtin.append_ #[69, 69] 69 #[.slice (some ⟨w.heap.size, 0, none⟩) 0 0, .slice x_0.a x_0.len x_0.cap]).run Try.prog (w.alloc (.cells #[] 22)) = .ok (.slice l2.a l2.len l2.cap) w1 ∧
    R (.slice l2.a l2.len l2.cap) w1)
theorem B85_eq : @B85 = fun (x_0 : Slc) (w : World) (R : Value → World → Prop) => trF Try.prog G (lk []) Try.f85 [.slice x_0.a x_0.len x_0.cap] w R := by kernel_rfl
theorem c85 (x_0 : Slc) (w : World) (R : Value → World → Prop) (h : B85 x_0 w R) : Calls Try.prog 85 #[.slice x_0.a x_0.len x_0.cap] w (Rv R) := calls_of_tr (L := lk []) Try.func85 hG hM (by rw [B85_eq] at h; exact h)

/-- slices.Equal[[]uint64,uint64] -/
def B86 (x_0 : Slc) (x_1 : Slc) (w : World) (R : Value → World → Prop) : Prop :=
  br (!(decide ((x_0.len : Int) = (x_1.len : Int)))) (R (.bool false) w) (∃ (I1 : Int → World → Prop) (μ2 : Int → World → Nat), I1 (0 : Int) w ∧
    ∀ x3 : Int, ∀ w4 : World, I1 x3 w4 → br (decide (x3 < (x_0.len : Int))) (0 ≤ x3 ∧ x3 < (x_0.len : Int) ∧ ∃ a5, x_0.a = some a5 ∧
    ∃ n6 : Int, (World.drew w4).cell? (Addr.add a5 (x3.toNat * 1)) = some (.int .u64 n6) ∧ 0 ≤ x3 ∧ x3 < (x_1.len : Int) ∧ ∃ a7, x_1.a = some a7 ∧
    ∃ n8 : Int, (World.drew w4).cell? (Addr.add a7 (x3.toNat * 1)) = some (.int .u64 n8) ∧
    br (!(decide (n6 = n8))) (R (.bool false) (World.drew w4)) (I1 (IntKind.i64.wrap (x3 + 1)) (World.drew w4) ∧
    μ2 (IntKind.i64.wrap (x3 + 1)) (World.drew w4) < μ2 x3 w4)) (R (.bool true) w4))
theorem B86_eq : @B86 = fun (x_0 : Slc) (x_1 : Slc) (w : World) (R : Value → World → Prop) => trF Try.prog G (lk [(4, [(13, .int .i64)])]) Try.f86 [.slice x_0.a x_0.len x_0.cap, .slice x_1.a x_1.len x_1.cap] w R := by kernel_rfl
theorem c86 (x_0 : Slc) (x_1 : Slc) (w : World) (R : Value → World → Prop) (h : B86 x_0 x_1 w R) : Calls Try.prog 86 #[.slice x_0.a x_0.len x_0.cap, .slice x_1.a x_1.len x_1.cap] w (Rv R) := calls_of_tr (L := lk [(4, [(13, .int .i64)])]) Try.func86 hG hM (by rw [B86_eq] at h; exact h)

/-- (*locution/bitrow.Row).Add -/
def B57n (x_1 : Int) (x_2 : Int) (w : World) (R : Value → World → Prop) : Prop :=
  R (.int .i64 11) w
theorem B57n_eq : @B57n = fun (x_1 : Int) (x_2 : Int) (w : World) (R : Value → World → Prop) => trF Try.prog G (lk []) Try.f57 [.pointer none, .int .u64 x_1, .int .i64 x_2] w R := by kernel_rfl
theorem c57n (x_1 : Int) (x_2 : Int) (w : World) (R : Value → World → Prop) (h : B57n x_1 x_2 w R) : Calls Try.prog 57 #[.pointer none, .int .u64 x_1, .int .i64 x_2] w (Rv R) := calls_of_tr (L := lk []) Try.func57 hG hM (by rw [B57n_eq] at h; exact h)

/-- (*locution/bitrow.Row).Len -/
def B52n  (w : World) (R : Value → World → Prop) : Prop :=
  R (.int .i64 0) w
theorem B52n_eq : @B52n = fun (w : World) (R : Value → World → Prop) => trF Try.prog G (lk []) Try.f52 [.pointer none] w R := by kernel_rfl
theorem c52n  (w : World) (R : Value → World → Prop) (h : B52n  w R) : Calls Try.prog 52 #[.pointer none] w (Rv R) := calls_of_tr (L := lk []) Try.func52 hG hM (by rw [B52n_eq] at h; exact h)

/-- (*locution/bitrow.Row).Bit -/
def B44n (x_1 : Int) (w : World) (R : Value → World → Prop) : Prop :=
  R (.bool false) w
theorem B44n_eq : @B44n = fun (x_1 : Int) (w : World) (R : Value → World → Prop) => trF Try.prog G (lk []) Try.f44 [.pointer none, .int .i64 x_1] w R := by kernel_rfl
theorem c44n (x_1 : Int) (w : World) (R : Value → World → Prop) (h : B44n x_1 w R) : Calls Try.prog 44 #[.pointer none, .int .i64 x_1] w (Rv R) := calls_of_tr (L := lk []) Try.func44 hG hM (by rw [B44n_eq] at h; exact h)

/-- (*locution/bitrow.Row).Cut -/
def B46n (x_1 : Int) (x_2 : Int) (w : World) (R : Value → World → Prop) : Prop :=
  R (.int .u64 0) w
theorem B46n_eq : @B46n = fun (x_1 : Int) (x_2 : Int) (w : World) (R : Value → World → Prop) => trF Try.prog G (lk []) Try.f46 [.pointer none, .int .i64 x_1, .int .i64 x_2] w R := by kernel_rfl
theorem c46n (x_1 : Int) (x_2 : Int) (w : World) (R : Value → World → Prop) (h : B46n x_1 x_2 w R) : Calls Try.prog 46 #[.pointer none, .int .i64 x_1, .int .i64 x_2] w (Rv R) := calls_of_tr (L := lk []) Try.func46 hG hM (by rw [B46n_eq] at h; exact h)

/-- (*locution/bitrow.Row).Ones -/
def B48n  (w : World) (R : Value → World → Prop) : Prop :=
  R (.int .i64 0) w
theorem B48n_eq : @B48n = fun (w : World) (R : Value → World → Prop) => trF Try.prog G (lk []) Try.f48 [.pointer none] w R := by kernel_rfl
theorem c48n  (w : World) (R : Value → World → Prop) (h : B48n  w R) : Calls Try.prog 48 #[.pointer none] w (Rv R) := calls_of_tr (L := lk []) Try.func48 hG hM (by rw [B48n_eq] at h; exact h)

/-- (*locution/bitrow.Row).Next -/
def B50n (x_1 : Int) (w : World) (R : Value → World → Prop) : Prop :=
  R (.int .i64 (-1)) w
theorem B50n_eq : @B50n = fun (x_1 : Int) (w : World) (R : Value → World → Prop) => trF Try.prog G (lk []) Try.f50 [.pointer none, .int .i64 x_1] w R := by kernel_rfl
theorem c50n (x_1 : Int) (w : World) (R : Value → World → Prop) (h : B50n x_1 w R) : Calls Try.prog 50 #[.pointer none, .int .i64 x_1] w (Rv R) := calls_of_tr (L := lk []) Try.func50 hG hM (by rw [B50n_eq] at h; exact h)

/-- (*locution/bitrow.Row).Words -/
def B54n  (w : World) (R : Value → World → Prop) : Prop :=
  R (.slice none 0 0) w
theorem B54n_eq : @B54n = fun (w : World) (R : Value → World → Prop) => trF Try.prog G (lk []) Try.f54 [.pointer none] w R := by kernel_rfl
theorem c54n  (w : World) (R : Value → World → Prop) (h : B54n  w R) : Calls Try.prog 54 #[.pointer none] w (Rv R) := calls_of_tr (L := lk []) Try.func54 hG hM (by rw [B54n_eq] at h; exact h)

/-- locution/bitrow.Same -/
def B56n (a_1 : Addr) (w : World) (R : Value → World → Prop) : Prop :=
  Calls Try.prog 52 #[.pointer none] w (Rv fun v1 w2 => ∃ n3 : Int, v1 = .int .i64 n3 ∧ Calls Try.prog 52 #[.pointer (some a_1)] w2 (Rv fun v4 w5 =>
    ∃ n6 : Int, v4 = .int .i64 n6 ∧ br (!(decide (n3 = n6))) (Calls Try.prog 52 #[.pointer none] w5 (Rv fun v7 w8 => ∃ n9 : Int, v7 = .int .i64 n9 ∧
    Calls Try.prog 52 #[.pointer (some a_1)] w8 (Rv fun v10 w11 => ∃ n12 : Int, v10 = .int .i64 n12 ∧
    R (.bool (decide (n9 = n12))) w11))) (Calls Try.prog 52 #[.pointer none] w5 (Rv fun v13 w14 => ∃ n15 : Int, v13 = .int .i64 n15 ∧
    br (decide (n15 = (0 : Int))) (Calls Try.prog 52 #[.pointer none] w14 (Rv fun v16 w17 => ∃ n18 : Int, v16 = .int .i64 n18 ∧
    Calls Try.prog 52 #[.pointer (some a_1)] w17 (Rv fun v19 w20 => ∃ n21 : Int, v19 = .int .i64 n21 ∧ R (.bool (decide (n18 = n21))) w20))) (False)))))
theorem B56n_eq : @B56n = fun (a_1 : Addr) (w : World) (R : Value → World → Prop) => trF Try.prog G (lk []) Try.f56 [.pointer none, .pointer (some a_1)] w R := by kernel_rfl
theorem c56n (a_1 : Addr) (w : World) (R : Value → World → Prop) (h : B56n a_1 w R) : Calls Try.prog 56 #[.pointer none, .pointer (some a_1)] w (Rv R) := calls_of_tr (L := lk []) Try.func56 hG hM (by rw [B56n_eq] at h; exact h)

/-- locution/bitrow.Same -/
def B56n1 (a_0 : Addr) (w : World) (R : Value → World → Prop) : Prop :=
  Calls Try.prog 52 #[.pointer (some a_0)] w (Rv fun v1 w2 => ∃ n3 : Int, v1 = .int .i64 n3 ∧ Calls Try.prog 52 #[.pointer none] w2 (Rv fun v4 w5 =>
    ∃ n6 : Int, v4 = .int .i64 n6 ∧ br (!(decide (n3 = n6))) (Calls Try.prog 52 #[.pointer (some a_0)] w5 (Rv fun v7 w8 => ∃ n9 : Int, v7 = .int .i64 n9 ∧
    Calls Try.prog 52 #[.pointer none] w8 (Rv fun v10 w11 => ∃ n12 : Int, v10 = .int .i64 n12 ∧
    R (.bool (decide (n9 = n12))) w11))) (Calls Try.prog 52 #[.pointer (some a_0)] w5 (Rv fun v13 w14 => ∃ n15 : Int, v13 = .int .i64 n15 ∧
    br (decide (n15 = (0 : Int))) (Calls Try.prog 52 #[.pointer (some a_0)] w14 (Rv fun v16 w17 => ∃ n18 : Int, v16 = .int .i64 n18 ∧
    Calls Try.prog 52 #[.pointer none] w17 (Rv fun v19 w20 => ∃ n21 : Int, v19 = .int .i64 n21 ∧
    R (.bool (decide (n18 = n21))) w20))) (∃ l22 : Slc, (World.drew w14).cell? (Addr.add a_0 0) = some (.slice l22.a l22.len l22.cap) ∧ False)))))
theorem B56n1_eq : @B56n1 = fun (a_0 : Addr) (w : World) (R : Value → World → Prop) => trF Try.prog G (lk []) Try.f56 [.pointer (some a_0), .pointer none] w R := by kernel_rfl
theorem c56n1 (a_0 : Addr) (w : World) (R : Value → World → Prop) (h : B56n1 a_0 w R) : Calls Try.prog 56 #[.pointer (some a_0), .pointer none] w (Rv R) := calls_of_tr (L := lk []) Try.func56 hG hM (by rw [B56n1_eq] at h; exact h)

end Go.Proofs.Ytlobkadfmgnlmaa.V
