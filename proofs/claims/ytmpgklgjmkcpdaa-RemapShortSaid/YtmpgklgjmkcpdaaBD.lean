/- The verification conditions of functions, printed by a program of this work (pr.py) and checked here by the kernel. -/
import Derived.Test.YtmpgklgjmkcpdaaBR
set_option maxRecDepth 100000
set_option linter.unusedVariables false
namespace Go.Proofs.Ytmpgklgjmkcpdaa.V
open Go Go.VC

/-- locution/rankdir.New -/
def B95 (a_0 : Addr) (w : World) (R : Value → World → Prop) : Prop :=
  Calls Try.prog 113 #[.pointer (some a_0)] w (Rv fun v1 w2 => ∃ l3 : Slc, v1 = .slice l3.a l3.len l3.cap ∧ Calls Try.prog 106 #[.pointer (some a_0)] w2 (Rv fun v4 w5 =>
    ∃ n6 : Int, v4 = .int .i64 n6 ∧
    ∃ l7 : Slc, (w5.alloc (.cells #[.slice l3.a l3.len l3.cap, .slice none 0 0, .slice none 0 0, .int .i64 n6] 134)).cell? (Addr.add ⟨w5.heap.size, 0, none⟩ 0) = some (.slice l7.a l7.len l7.cap) ∧
    ∃ w8 : World, ∃ l9 : Slc, (Instr.makeSlice 132 (.int .i64 (l7.len : Int)) (.int .i64 (l7.len : Int))).run Try.prog (w5.alloc (.cells #[.slice l3.a l3.len l3.cap, .slice none 0 0, .slice none 0 0, .int .i64 n6] 134)) = .ok (.slice l9.a l9.len l9.cap) w8 ∧
    (∃ u, w8.cell? (Addr.add ⟨w5.heap.size, 0, none⟩ 2) = some u) ∧ w8.frozen? (Addr.add ⟨w5.heap.size, 0, none⟩ 2) = false ∧
    ∃ l10 : Slc, (w8.setCell (Addr.add ⟨w5.heap.size, 0, none⟩ 2) (.slice l9.a l9.len l9.cap)).cell? (Addr.add ⟨w5.heap.size, 0, none⟩ 0) = some (.slice l10.a l10.len l10.cap) ∧
    ∃ (I11 : Int → Int → Int → World → Prop) (μ12 : Int → Int → Int → World →
    Nat), I11 (0 : Int) (0 : Int) (0 : Int) (w8.setCell (Addr.add ⟨w5.heap.size, 0, none⟩ 2) (.slice l9.a l9.len l9.cap)) ∧
    ∀ x13 : Int, ∀ x14 : Int, ∀ x15 : Int, ∀ w16 : World, I11 x13 x14 x15 w16 → br (decide (x15 < (l10.len : Int))) ((8 : Int) ≠ 0 ∧
    br (decide ((Int.tmod x15 8) = (0 : Int))) (∃ l17 : Slc, w16.cell? (Addr.add ⟨w5.heap.size, 0, none⟩ 1) = some (.slice l17.a l17.len l17.cap) ∧
    ∃ w18 : World, ∃ l19 : Slc, (Builtin.append_ #[22, 22] 22 #[.slice l17.a l17.len l17.cap, .slice (some ⟨w16.heap.size, 0, none⟩) 1 1]).run Try.prog (w16.alloc (.cells #[.int .i64 x13] 3)) = .ok (.slice l19.a l19.len l19.cap) w18 ∧
    (∃ u, w18.cell? (Addr.add ⟨w5.heap.size, 0, none⟩ 1) = some u) ∧ w18.frozen? (Addr.add ⟨w5.heap.size, 0, none⟩ 1) = false ∧
    ∃ l20 : Slc, (w18.setCell (Addr.add ⟨w5.heap.size, 0, none⟩ 1) (.slice l19.a l19.len l19.cap)).cell? (Addr.add ⟨w5.heap.size, 0, none⟩ 2) = some (.slice l20.a l20.len l20.cap) ∧
    0 ≤ x15 ∧ x15 < (l20.len : Int) ∧ ∃ a21, l20.a = some a21 ∧
    (∃ u, (w18.setCell (Addr.add ⟨w5.heap.size, 0, none⟩ 1) (.slice l19.a l19.len l19.cap)).cell? (Addr.add a21 (x15.toNat * 1)) = some u) ∧
    (w18.setCell (Addr.add ⟨w5.heap.size, 0, none⟩ 1) (.slice l19.a l19.len l19.cap)).frozen? (Addr.add a21 (x15.toNat * 1)) = false ∧
    ∃ l22 : Slc, ((w18.setCell (Addr.add ⟨w5.heap.size, 0, none⟩ 1) (.slice l19.a l19.len l19.cap)).setCell (Addr.add a21 (x15.toNat * 1)) (.int .u16 (IntKind.u16.wrap (0 : Int)))).cell? (Addr.add ⟨w5.heap.size, 0, none⟩ 0) = some (.slice l22.a l22.len l22.cap) ∧
    0 ≤ x15 ∧ x15 < (l22.len : Int) ∧ ∃ a23, l22.a = some a23 ∧
    ∃ n24 : Int, ((w18.setCell (Addr.add ⟨w5.heap.size, 0, none⟩ 1) (.slice l19.a l19.len l19.cap)).setCell (Addr.add a21 (x15.toNat * 1)) (.int .u16 (IntKind.u16.wrap (0 : Int)))).cell? (Addr.add a23 (x15.toNat * 1)) = some (.int .u64 n24) ∧
    Calls Try.prog 114 #[.int .u64 n24] ((w18.setCell (Addr.add ⟨w5.heap.size, 0, none⟩ 1) (.slice l19.a l19.len l19.cap)).setCell (Addr.add a21 (x15.toNat * 1)) (.int .u16 (IntKind.u16.wrap (0 : Int)))) (Rv fun v25 w26 =>
    ∃ n27 : Int, v25 = .int .i64 n27 ∧ I11 (IntKind.i64.wrap (x13 + n27)) (IntKind.i64.wrap (0 + n27)) (IntKind.i64.wrap (x15 + 1)) w26 ∧
    μ12 (IntKind.i64.wrap (x13 + n27)) (IntKind.i64.wrap (0 + n27)) (IntKind.i64.wrap (x15 + 1)) w26 < μ12 x13 x14 x15 w16)) (∃ l28 : Slc, w16.cell? (Addr.add ⟨w5.heap.size, 0, none⟩ 2) = some (.slice l28.a l28.len l28.cap) ∧
    0 ≤ x15 ∧ x15 < (l28.len : Int) ∧ ∃ a29, l28.a = some a29 ∧ (∃ u, w16.cell? (Addr.add a29 (x15.toNat * 1)) = some u) ∧
    w16.frozen? (Addr.add a29 (x15.toNat * 1)) = false ∧
    ∃ l30 : Slc, (w16.setCell (Addr.add a29 (x15.toNat * 1)) (.int .u16 (IntKind.u16.wrap x14))).cell? (Addr.add ⟨w5.heap.size, 0, none⟩ 0) = some (.slice l30.a l30.len l30.cap) ∧
    0 ≤ x15 ∧ x15 < (l30.len : Int) ∧ ∃ a31, l30.a = some a31 ∧
    ∃ n32 : Int, (w16.setCell (Addr.add a29 (x15.toNat * 1)) (.int .u16 (IntKind.u16.wrap x14))).cell? (Addr.add a31 (x15.toNat * 1)) = some (.int .u64 n32) ∧
    Calls Try.prog 114 #[.int .u64 n32] (w16.setCell (Addr.add a29 (x15.toNat * 1)) (.int .u16 (IntKind.u16.wrap x14))) (Rv fun v33 w34 =>
    ∃ n35 : Int, v33 = .int .i64 n35 ∧ I11 (IntKind.i64.wrap (x13 + n35)) (IntKind.i64.wrap (x14 + n35)) (IntKind.i64.wrap (x15 + 1)) w34 ∧
    μ12 (IntKind.i64.wrap (x13 + n35)) (IntKind.i64.wrap (x14 + n35)) (IntKind.i64.wrap (x15 + 1)) w34 < μ12 x13 x14 x15 w16))) (∃ l36 : Slc, w16.cell? (Addr.add ⟨w5.heap.size, 0, none⟩ 1) = some (.slice l36.a l36.len l36.cap) ∧
    ∃ w37 : World, ∃ l38 : Slc, (Builtin.append_ #[22, 22] 22 #[.slice l36.a l36.len l36.cap, .slice (some ⟨w16.heap.size, 0, none⟩) 1 1]).run Try.prog (w16.alloc (.cells #[.int .i64 x13] 3)) = .ok (.slice l38.a l38.len l38.cap) w37 ∧
    (∃ u, w37.cell? (Addr.add ⟨w5.heap.size, 0, none⟩ 1) = some u) ∧ w37.frozen? (Addr.add ⟨w5.heap.size, 0, none⟩ 1) = false ∧
    R (.pointer (some ⟨w5.heap.size, 0, none⟩)) (w37.setCell (Addr.add ⟨w5.heap.size, 0, none⟩ 1) (.slice l38.a l38.len l38.cap)))))
theorem B95_eq : @B95 = fun (a_0 : Addr) (w : World) (R : Value → World → Prop) => trF Try.prog G (lk [(5, [(4, .int .i64), (5, .int .i64), (28, .int .i64)])]) Try.f95 [.pointer (some a_0)] w R := by kernel_rfl
theorem c95 (a_0 : Addr) (w : World) (R : Value → World → Prop) (h : B95 a_0 w R) : Calls Try.prog 95 #[.pointer (some a_0)] w (Rv R) := calls_of_tr (L := lk [(5, [(4, .int .i64), (5, .int .i64), (28, .int .i64)])]) Try.func95 hG hM (by rw [B95_eq] at h; exact h)

/-- (*locution/rankdir.Dir).Rank -/
def B119 (a_0 : Addr) (x_1 : Int) (w : World) (R : Value → World → Prop) : Prop :=
  br (decide (x_1 ≤ (0 : Int))) (R (.int .i64 0) w) (∃ n1 : Int, w.cell? (Addr.add a_0 3) = some (.int .i64 n1) ∧
    br (decide (n1 = (0 : Int))) (R (.int .i64 0) w) (∃ n2 : Int, w.cell? (Addr.add a_0 3) = some (.int .i64 n2) ∧
    br (decide (n2 ≤ x_1)) (∃ l3 : Slc, (World.drew w).cell? (Addr.add a_0 1) = some (.slice l3.a l3.len l3.cap) ∧
    ∃ l4 : Slc, (World.drew w).cell? (Addr.add a_0 1) = some (.slice l4.a l4.len l4.cap) ∧ 0 ≤ (IntKind.i64.wrap ((l4.len : Int) - 1)) ∧
    (IntKind.i64.wrap ((l4.len : Int) - 1)) < (l3.len : Int) ∧ ∃ a5, l3.a = some a5 ∧
    ∃ n6 : Int, (World.drew w).cell? (Addr.add a5 ((IntKind.i64.wrap ((l4.len : Int) - 1)).toNat * 1)) = some (.int .i64 n6) ∧
    R (.int .i64 n6) (World.drew w)) (∃ l7 : Slc, (World.drew w).cell? (Addr.add a_0 1) = some (.slice l7.a l7.len l7.cap) ∧ (512 : Int) ≠ 0 ∧
    0 ≤ (IntKind.i64.wrap (Int.tdiv x_1 512)) ∧ (IntKind.i64.wrap (Int.tdiv x_1 512)) < (l7.len : Int) ∧ ∃ a8, l7.a = some a8 ∧
    ∃ n9 : Int, (World.drew w).cell? (Addr.add a8 ((IntKind.i64.wrap (Int.tdiv x_1 512)).toNat * 1)) = some (.int .i64 n9) ∧
    ∃ l10 : Slc, (World.drew w).cell? (Addr.add a_0 2) = some (.slice l10.a l10.len l10.cap) ∧ (64 : Int) ≠ 0 ∧ 0 ≤ (IntKind.i64.wrap (Int.tdiv x_1 64)) ∧
    (IntKind.i64.wrap (Int.tdiv x_1 64)) < (l10.len : Int) ∧ ∃ a11, l10.a = some a11 ∧
    ∃ n12 : Int, (World.drew w).cell? (Addr.add a11 ((IntKind.i64.wrap (Int.tdiv x_1 64)).toNat * 1)) = some (.int .u16 n12) ∧
    ∃ l13 : Slc, (World.drew w).cell? (Addr.add a_0 0) = some (.slice l13.a l13.len l13.cap) ∧ (64 : Int) ≠ 0 ∧ 0 ≤ (IntKind.i64.wrap (Int.tdiv x_1 64)) ∧
    (IntKind.i64.wrap (Int.tdiv x_1 64)) < (l13.len : Int) ∧ ∃ a14, l13.a = some a14 ∧
    ∃ n15 : Int, (World.drew w).cell? (Addr.add a14 ((IntKind.i64.wrap (Int.tdiv x_1 64)).toNat * 1)) = some (.int .u64 n15) ∧ (64 : Int) ≠ 0 ∧
    Calls Try.prog 129 #[.int .u64 n15, .int .i64 (Int.tmod x_1 64)] (World.drew w) (Rv fun v16 w17 => ∃ n18 : Int, v16 = .int .i64 n18 ∧
    w17.cell? (Addr.add a11 ((IntKind.i64.wrap (Int.tdiv x_1 64)).toNat * 1)) = some (.int .u16 n12) ∧
    w17.cell? (Addr.add a_0 2) = some (.slice l10.a l10.len l10.cap) ∧
    w17.cell? (Addr.add a8 ((IntKind.i64.wrap (Int.tdiv x_1 512)).toNat * 1)) = some (.int .i64 n9) ∧ w17.cell? (Addr.add a_0 1) = some (.slice l7.a l7.len l7.cap) ∧
    R (.int .i64 (IntKind.i64.wrap ((IntKind.i64.wrap (n9 + (IntKind.i64.wrap n12))) + n18))) w17))))
theorem B119_eq : @B119 = fun (a_0 : Addr) (x_1 : Int) (w : World) (R : Value → World → Prop) => trF Try.prog G (lk []) Try.f119 [.pointer (some a_0), .int .i64 x_1] w R := by kernel_rfl
theorem c119 (a_0 : Addr) (x_1 : Int) (w : World) (R : Value → World → Prop) (h : B119 a_0 x_1 w R) : Calls Try.prog 119 #[.pointer (some a_0), .int .i64 x_1] w (Rv R) := calls_of_tr (L := lk []) Try.func119 hG hM (by rw [B119_eq] at h; exact h)

/-- (*locution/rankdir.Dir).Zeros -/
def B132 (a_0 : Addr) (x_1 : Int) (w : World) (R : Value → World → Prop) : Prop :=
  Calls Try.prog 135 #[.pointer (some a_0)] w (Rv fun v1 w2 => ∃ n3 : Int, v1 = .int .i64 n3 ∧ Calls Try.prog 119 #[.pointer (some a_0), .int .i64 x_1] w2 (Rv fun v4 w5 =>
    ∃ n6 : Int, v4 = .int .i64 n6 ∧ R (.int .i64 (IntKind.i64.wrap ((min (max x_1 (0 : Int)) n3) - n6))) w5))
theorem B132_eq : @B132 = fun (a_0 : Addr) (x_1 : Int) (w : World) (R : Value → World → Prop) => trF Try.prog G (lk []) Try.f132 [.pointer (some a_0), .int .i64 x_1] w R := by kernel_rfl
theorem c132 (a_0 : Addr) (x_1 : Int) (w : World) (R : Value → World → Prop) (h : B132 a_0 x_1 w R) : Calls Try.prog 132 #[.pointer (some a_0), .int .i64 x_1] w (Rv R) := calls_of_tr (L := lk []) Try.func132 hG hM (by rw [B132_eq] at h; exact h)

/-- (*locution/rankdir.Dir).Len -/
def B135 (a_0 : Addr) (w : World) (R : Value → World → Prop) : Prop :=
  ∃ n1 : Int, w.cell? (Addr.add a_0 3) = some (.int .i64 n1) ∧ R (.int .i64 n1) w
theorem B135_eq : @B135 = fun (a_0 : Addr) (w : World) (R : Value → World → Prop) => trF Try.prog G (lk []) Try.f135 [.pointer (some a_0)] w R := by kernel_rfl
theorem c135 (a_0 : Addr) (w : World) (R : Value → World → Prop) (h : B135 a_0 w R) : Calls Try.prog 135 #[.pointer (some a_0)] w (Rv R) := calls_of_tr (L := lk []) Try.func135 hG hM (by rw [B135_eq] at h; exact h)

/-- locution/locutionref04.Ints -/
def B71 (x_0 : Slc) (x_1 : Slc) (w : World) (R : Value → World → Prop) : Prop :=
  br (!(decide ((x_0.len : Int) = (x_1.len : Int)))) (R (.bool false) w) (∃ (I1 : Int → World → Prop) (μ2 : Int → World → Nat), I1 (0 : Int) w ∧
    ∀ x3 : Int, ∀ w4 : World, I1 x3 w4 → br (decide (x3 < (x_0.len : Int))) (0 ≤ x3 ∧ x3 < (x_0.len : Int) ∧ ∃ a5, x_0.a = some a5 ∧
    ∃ n6 : Int, (World.drew w4).cell? (Addr.add a5 (x3.toNat * 1)) = some (.int .i64 n6) ∧ 0 ≤ x3 ∧ x3 < (x_1.len : Int) ∧ ∃ a7, x_1.a = some a7 ∧
    ∃ n8 : Int, (World.drew w4).cell? (Addr.add a7 (x3.toNat * 1)) = some (.int .i64 n8) ∧
    br (!(decide (n6 = n8))) (R (.bool false) (World.drew w4)) (I1 (IntKind.i64.wrap (x3 + 1)) (World.drew w4) ∧
    μ2 (IntKind.i64.wrap (x3 + 1)) (World.drew w4) < μ2 x3 w4)) (R (.bool true) w4))
theorem B71_eq : @B71 = fun (x_0 : Slc) (x_1 : Slc) (w : World) (R : Value → World → Prop) => trF Try.prog G (lk [(4, [(5, .int .i64)])]) Try.f71 [.slice x_0.a x_0.len x_0.cap, .slice x_1.a x_1.len x_1.cap] w R := by kernel_rfl
theorem c71 (x_0 : Slc) (x_1 : Slc) (w : World) (R : Value → World → Prop) (h : B71 x_0 x_1 w R) : Calls Try.prog 71 #[.slice x_0.a x_0.len x_0.cap, .slice x_1.a x_1.len x_1.cap] w (Rv R) := calls_of_tr (L := lk [(4, [(5, .int .i64)])]) Try.func71 hG hM (by rw [B71_eq] at h; exact h)

/-- (*locution/rankdir.Dir).Len -/
def B135n  (w : World) (R : Value → World → Prop) : Prop :=
  R (.int .i64 0) w
theorem B135n_eq : @B135n = fun (w : World) (R : Value → World → Prop) => trF Try.prog G (lk []) Try.f135 [.pointer none] w R := by kernel_rfl
theorem c135n  (w : World) (R : Value → World → Prop) (h : B135n  w R) : Calls Try.prog 135 #[.pointer none] w (Rv R) := calls_of_tr (L := lk []) Try.func135 hG hM (by rw [B135n_eq] at h; exact h)

/-- (*locution/rankdir.Dir).Rank -/
def B119n (x_1 : Int) (w : World) (R : Value → World → Prop) : Prop :=
  R (.int .i64 0) w
theorem B119n_eq : @B119n = fun (x_1 : Int) (w : World) (R : Value → World → Prop) => trF Try.prog G (lk []) Try.f119 [.pointer none, .int .i64 x_1] w R := by kernel_rfl
theorem c119n (x_1 : Int) (w : World) (R : Value → World → Prop) (h : B119n x_1 w R) : Calls Try.prog 119 #[.pointer none, .int .i64 x_1] w (Rv R) := calls_of_tr (L := lk []) Try.func119 hG hM (by rw [B119n_eq] at h; exact h)

/-- (*locution/rankdir.Dir).Zeros -/
def B132n (x_1 : Int) (w : World) (R : Value → World → Prop) : Prop :=
  Calls Try.prog 135 #[.pointer none] w (Rv fun v1 w2 => ∃ n3 : Int, v1 = .int .i64 n3 ∧ Calls Try.prog 119 #[.pointer none, .int .i64 x_1] w2 (Rv fun v4 w5 =>
    ∃ n6 : Int, v4 = .int .i64 n6 ∧ R (.int .i64 (IntKind.i64.wrap ((min (max x_1 (0 : Int)) n3) - n6))) w5))
theorem B132n_eq : @B132n = fun (x_1 : Int) (w : World) (R : Value → World → Prop) => trF Try.prog G (lk []) Try.f132 [.pointer none, .int .i64 x_1] w R := by kernel_rfl
theorem c132n (x_1 : Int) (w : World) (R : Value → World → Prop) (h : B132n x_1 w R) : Calls Try.prog 132 #[.pointer none, .int .i64 x_1] w (Rv R) := calls_of_tr (L := lk []) Try.func132 hG hM (by rw [B132n_eq] at h; exact h)

/-- locution/rankdir.New -/
def B95n  (w : World) (R : Value → World → Prop) : Prop :=
  Calls Try.prog 113 #[.pointer none] w (Rv fun v1 w2 => ∃ l3 : Slc, v1 = .slice l3.a l3.len l3.cap ∧ Calls Try.prog 106 #[.pointer none] w2 (Rv fun v4 w5 =>
    ∃ n6 : Int, v4 = .int .i64 n6 ∧
    ∃ l7 : Slc, (w5.alloc (.cells #[.slice l3.a l3.len l3.cap, .slice none 0 0, .slice none 0 0, .int .i64 n6] 134)).cell? (Addr.add ⟨w5.heap.size, 0, none⟩ 0) = some (.slice l7.a l7.len l7.cap) ∧
    ∃ w8 : World, ∃ l9 : Slc, (Instr.makeSlice 132 (.int .i64 (l7.len : Int)) (.int .i64 (l7.len : Int))).run Try.prog (w5.alloc (.cells #[.slice l3.a l3.len l3.cap, .slice none 0 0, .slice none 0 0, .int .i64 n6] 134)) = .ok (.slice l9.a l9.len l9.cap) w8 ∧
    (∃ u, w8.cell? (Addr.add ⟨w5.heap.size, 0, none⟩ 2) = some u) ∧ w8.frozen? (Addr.add ⟨w5.heap.size, 0, none⟩ 2) = false ∧
    ∃ l10 : Slc, (w8.setCell (Addr.add ⟨w5.heap.size, 0, none⟩ 2) (.slice l9.a l9.len l9.cap)).cell? (Addr.add ⟨w5.heap.size, 0, none⟩ 0) = some (.slice l10.a l10.len l10.cap) ∧
    ∃ (I11 : Int → Int → Int → World → Prop) (μ12 : Int → Int → Int → World →
    Nat), I11 (0 : Int) (0 : Int) (0 : Int) (w8.setCell (Addr.add ⟨w5.heap.size, 0, none⟩ 2) (.slice l9.a l9.len l9.cap)) ∧
    ∀ x13 : Int, ∀ x14 : Int, ∀ x15 : Int, ∀ w16 : World, I11 x13 x14 x15 w16 → br (decide (x15 < (l10.len : Int))) ((8 : Int) ≠ 0 ∧
    br (decide ((Int.tmod x15 8) = (0 : Int))) (∃ l17 : Slc, w16.cell? (Addr.add ⟨w5.heap.size, 0, none⟩ 1) = some (.slice l17.a l17.len l17.cap) ∧
    ∃ w18 : World, ∃ l19 : Slc, (Builtin.append_ #[22, 22] 22 #[.slice l17.a l17.len l17.cap, .slice (some ⟨w16.heap.size, 0, none⟩) 1 1]).run Try.prog (w16.alloc (.cells #[.int .i64 x13] 3)) = .ok (.slice l19.a l19.len l19.cap) w18 ∧
    (∃ u, w18.cell? (Addr.add ⟨w5.heap.size, 0, none⟩ 1) = some u) ∧ w18.frozen? (Addr.add ⟨w5.heap.size, 0, none⟩ 1) = false ∧
    ∃ l20 : Slc, (w18.setCell (Addr.add ⟨w5.heap.size, 0, none⟩ 1) (.slice l19.a l19.len l19.cap)).cell? (Addr.add ⟨w5.heap.size, 0, none⟩ 2) = some (.slice l20.a l20.len l20.cap) ∧
    0 ≤ x15 ∧ x15 < (l20.len : Int) ∧ ∃ a21, l20.a = some a21 ∧
    (∃ u, (w18.setCell (Addr.add ⟨w5.heap.size, 0, none⟩ 1) (.slice l19.a l19.len l19.cap)).cell? (Addr.add a21 (x15.toNat * 1)) = some u) ∧
    (w18.setCell (Addr.add ⟨w5.heap.size, 0, none⟩ 1) (.slice l19.a l19.len l19.cap)).frozen? (Addr.add a21 (x15.toNat * 1)) = false ∧
    ∃ l22 : Slc, ((w18.setCell (Addr.add ⟨w5.heap.size, 0, none⟩ 1) (.slice l19.a l19.len l19.cap)).setCell (Addr.add a21 (x15.toNat * 1)) (.int .u16 (IntKind.u16.wrap (0 : Int)))).cell? (Addr.add ⟨w5.heap.size, 0, none⟩ 0) = some (.slice l22.a l22.len l22.cap) ∧
    0 ≤ x15 ∧ x15 < (l22.len : Int) ∧ ∃ a23, l22.a = some a23 ∧
    ∃ n24 : Int, ((w18.setCell (Addr.add ⟨w5.heap.size, 0, none⟩ 1) (.slice l19.a l19.len l19.cap)).setCell (Addr.add a21 (x15.toNat * 1)) (.int .u16 (IntKind.u16.wrap (0 : Int)))).cell? (Addr.add a23 (x15.toNat * 1)) = some (.int .u64 n24) ∧
    Calls Try.prog 114 #[.int .u64 n24] ((w18.setCell (Addr.add ⟨w5.heap.size, 0, none⟩ 1) (.slice l19.a l19.len l19.cap)).setCell (Addr.add a21 (x15.toNat * 1)) (.int .u16 (IntKind.u16.wrap (0 : Int)))) (Rv fun v25 w26 =>
    ∃ n27 : Int, v25 = .int .i64 n27 ∧ I11 (IntKind.i64.wrap (x13 + n27)) (IntKind.i64.wrap (0 + n27)) (IntKind.i64.wrap (x15 + 1)) w26 ∧
    μ12 (IntKind.i64.wrap (x13 + n27)) (IntKind.i64.wrap (0 + n27)) (IntKind.i64.wrap (x15 + 1)) w26 < μ12 x13 x14 x15 w16)) (∃ l28 : Slc, w16.cell? (Addr.add ⟨w5.heap.size, 0, none⟩ 2) = some (.slice l28.a l28.len l28.cap) ∧
    0 ≤ x15 ∧ x15 < (l28.len : Int) ∧ ∃ a29, l28.a = some a29 ∧ (∃ u, w16.cell? (Addr.add a29 (x15.toNat * 1)) = some u) ∧
    w16.frozen? (Addr.add a29 (x15.toNat * 1)) = false ∧
    ∃ l30 : Slc, (w16.setCell (Addr.add a29 (x15.toNat * 1)) (.int .u16 (IntKind.u16.wrap x14))).cell? (Addr.add ⟨w5.heap.size, 0, none⟩ 0) = some (.slice l30.a l30.len l30.cap) ∧
    0 ≤ x15 ∧ x15 < (l30.len : Int) ∧ ∃ a31, l30.a = some a31 ∧
    ∃ n32 : Int, (w16.setCell (Addr.add a29 (x15.toNat * 1)) (.int .u16 (IntKind.u16.wrap x14))).cell? (Addr.add a31 (x15.toNat * 1)) = some (.int .u64 n32) ∧
    Calls Try.prog 114 #[.int .u64 n32] (w16.setCell (Addr.add a29 (x15.toNat * 1)) (.int .u16 (IntKind.u16.wrap x14))) (Rv fun v33 w34 =>
    ∃ n35 : Int, v33 = .int .i64 n35 ∧ I11 (IntKind.i64.wrap (x13 + n35)) (IntKind.i64.wrap (x14 + n35)) (IntKind.i64.wrap (x15 + 1)) w34 ∧
    μ12 (IntKind.i64.wrap (x13 + n35)) (IntKind.i64.wrap (x14 + n35)) (IntKind.i64.wrap (x15 + 1)) w34 < μ12 x13 x14 x15 w16))) (∃ l36 : Slc, w16.cell? (Addr.add ⟨w5.heap.size, 0, none⟩ 1) = some (.slice l36.a l36.len l36.cap) ∧
    ∃ w37 : World, ∃ l38 : Slc, (Builtin.append_ #[22, 22] 22 #[.slice l36.a l36.len l36.cap, .slice (some ⟨w16.heap.size, 0, none⟩) 1 1]).run Try.prog (w16.alloc (.cells #[.int .i64 x13] 3)) = .ok (.slice l38.a l38.len l38.cap) w37 ∧
    (∃ u, w37.cell? (Addr.add ⟨w5.heap.size, 0, none⟩ 1) = some u) ∧ w37.frozen? (Addr.add ⟨w5.heap.size, 0, none⟩ 1) = false ∧
    R (.pointer (some ⟨w5.heap.size, 0, none⟩)) (w37.setCell (Addr.add ⟨w5.heap.size, 0, none⟩ 1) (.slice l38.a l38.len l38.cap)))))
theorem B95n_eq : @B95n = fun (w : World) (R : Value → World → Prop) => trF Try.prog G (lk [(5, [(4, .int .i64), (5, .int .i64), (28, .int .i64)])]) Try.f95 [.pointer none] w R := by kernel_rfl
theorem c95n  (w : World) (R : Value → World → Prop) (h : B95n  w R) : Calls Try.prog 95 #[.pointer none] w (Rv R) := calls_of_tr (L := lk [(5, [(4, .int .i64), (5, .int .i64), (28, .int .i64)])]) Try.func95 hG hM (by rw [B95n_eq] at h; exact h)

end Go.Proofs.Ytmpgklgjmkcpdaa.V
