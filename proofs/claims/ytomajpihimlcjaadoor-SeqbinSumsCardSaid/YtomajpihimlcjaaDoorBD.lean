/- The verification conditions of functions, printed by a program of this work (pr.py) and checked here by the kernel. -/
import Derived.Test.YtomajpihimlcjaaDoorBR
set_option maxRecDepth 100000
set_option linter.unusedVariables false
namespace Go.Proofs.YtomajpihimlcjaaDoor.V
open Go Go.VC

/-- locution/rankdir.New -/
def B84 (a_0 : Addr) (w : World) (R : Value → World → Prop) : Prop :=
  Calls Tryd.prog 56 #[.pointer (some a_0)] w (Rv fun v1 w2 => ∃ l3 : Slc, v1 = .slice l3.a l3.len l3.cap ∧ Calls Tryd.prog 54 #[.pointer (some a_0)] w2 (Rv fun v4 w5 =>
    ∃ n6 : Int, v4 = .int .i64 n6 ∧
    ∃ l7 : Slc, (w5.alloc (.cells #[.slice l3.a l3.len l3.cap, .slice none 0 0, .slice none 0 0, .int .i64 n6] 155)).cell? (Addr.add ⟨w5.heap.size, 0, none⟩ 0) = some (.slice l7.a l7.len l7.cap) ∧
    ∃ w8 : World, ∃ l9 : Slc, (Instr.makeSlice 153 (.int .i64 (l7.len : Int)) (.int .i64 (l7.len : Int))).run Tryd.prog (w5.alloc (.cells #[.slice l3.a l3.len l3.cap, .slice none 0 0, .slice none 0 0, .int .i64 n6] 155)) = .ok (.slice l9.a l9.len l9.cap) w8 ∧
    (∃ u, w8.cell? (Addr.add ⟨w5.heap.size, 0, none⟩ 2) = some u) ∧ w8.frozen? (Addr.add ⟨w5.heap.size, 0, none⟩ 2) = false ∧
    ∃ l10 : Slc, (w8.setCell (Addr.add ⟨w5.heap.size, 0, none⟩ 2) (.slice l9.a l9.len l9.cap)).cell? (Addr.add ⟨w5.heap.size, 0, none⟩ 0) = some (.slice l10.a l10.len l10.cap) ∧
    ∃ (I11 : Int → Int → Int → World → Prop) (μ12 : Int → Int → Int → World →
    Nat), I11 (0 : Int) (0 : Int) (0 : Int) (w8.setCell (Addr.add ⟨w5.heap.size, 0, none⟩ 2) (.slice l9.a l9.len l9.cap)) ∧
    ∀ x13 : Int, ∀ x14 : Int, ∀ x15 : Int, ∀ w16 : World, I11 x13 x14 x15 w16 → br (decide (x15 < (l10.len : Int))) ((8 : Int) ≠ 0 ∧
    br (decide ((Int.tmod x15 8) = (0 : Int))) (∃ l17 : Slc, w16.cell? (Addr.add ⟨w5.heap.size, 0, none⟩ 1) = some (.slice l17.a l17.len l17.cap) ∧
    ∃ w18 : World, ∃ l19 : Slc, (Builtin.append_ #[37, 37] 37 #[.slice l17.a l17.len l17.cap, .slice (some ⟨w16.heap.size, 0, none⟩) 1 1]).run Tryd.prog (w16.alloc (.cells #[.int .i64 x13] 3)) = .ok (.slice l19.a l19.len l19.cap) w18 ∧
    (∃ u, w18.cell? (Addr.add ⟨w5.heap.size, 0, none⟩ 1) = some u) ∧ w18.frozen? (Addr.add ⟨w5.heap.size, 0, none⟩ 1) = false ∧
    ∃ l20 : Slc, (w18.setCell (Addr.add ⟨w5.heap.size, 0, none⟩ 1) (.slice l19.a l19.len l19.cap)).cell? (Addr.add ⟨w5.heap.size, 0, none⟩ 2) = some (.slice l20.a l20.len l20.cap) ∧
    0 ≤ x15 ∧ x15 < (l20.len : Int) ∧ ∃ a21, l20.a = some a21 ∧
    (∃ u, (w18.setCell (Addr.add ⟨w5.heap.size, 0, none⟩ 1) (.slice l19.a l19.len l19.cap)).cell? (Addr.add a21 (x15.toNat * 1)) = some u) ∧
    (w18.setCell (Addr.add ⟨w5.heap.size, 0, none⟩ 1) (.slice l19.a l19.len l19.cap)).frozen? (Addr.add a21 (x15.toNat * 1)) = false ∧
    ∃ l22 : Slc, ((w18.setCell (Addr.add ⟨w5.heap.size, 0, none⟩ 1) (.slice l19.a l19.len l19.cap)).setCell (Addr.add a21 (x15.toNat * 1)) (.int .u16 (IntKind.u16.wrap (0 : Int)))).cell? (Addr.add ⟨w5.heap.size, 0, none⟩ 0) = some (.slice l22.a l22.len l22.cap) ∧
    0 ≤ x15 ∧ x15 < (l22.len : Int) ∧ ∃ a23, l22.a = some a23 ∧
    ∃ n24 : Int, ((w18.setCell (Addr.add ⟨w5.heap.size, 0, none⟩ 1) (.slice l19.a l19.len l19.cap)).setCell (Addr.add a21 (x15.toNat * 1)) (.int .u16 (IntKind.u16.wrap (0 : Int)))).cell? (Addr.add a23 (x15.toNat * 1)) = some (.int .u64 n24) ∧
    Calls Tryd.prog 77 #[.int .u64 n24] ((w18.setCell (Addr.add ⟨w5.heap.size, 0, none⟩ 1) (.slice l19.a l19.len l19.cap)).setCell (Addr.add a21 (x15.toNat * 1)) (.int .u16 (IntKind.u16.wrap (0 : Int)))) (Rv fun v25 w26 =>
    ∃ n27 : Int, v25 = .int .i64 n27 ∧ I11 (IntKind.i64.wrap (x13 + n27)) (IntKind.i64.wrap (0 + n27)) (IntKind.i64.wrap (x15 + 1)) w26 ∧
    μ12 (IntKind.i64.wrap (x13 + n27)) (IntKind.i64.wrap (0 + n27)) (IntKind.i64.wrap (x15 + 1)) w26 < μ12 x13 x14 x15 w16)) (∃ l28 : Slc, w16.cell? (Addr.add ⟨w5.heap.size, 0, none⟩ 2) = some (.slice l28.a l28.len l28.cap) ∧
    0 ≤ x15 ∧ x15 < (l28.len : Int) ∧ ∃ a29, l28.a = some a29 ∧ (∃ u, w16.cell? (Addr.add a29 (x15.toNat * 1)) = some u) ∧
    w16.frozen? (Addr.add a29 (x15.toNat * 1)) = false ∧
    ∃ l30 : Slc, (w16.setCell (Addr.add a29 (x15.toNat * 1)) (.int .u16 (IntKind.u16.wrap x14))).cell? (Addr.add ⟨w5.heap.size, 0, none⟩ 0) = some (.slice l30.a l30.len l30.cap) ∧
    0 ≤ x15 ∧ x15 < (l30.len : Int) ∧ ∃ a31, l30.a = some a31 ∧
    ∃ n32 : Int, (w16.setCell (Addr.add a29 (x15.toNat * 1)) (.int .u16 (IntKind.u16.wrap x14))).cell? (Addr.add a31 (x15.toNat * 1)) = some (.int .u64 n32) ∧
    Calls Tryd.prog 77 #[.int .u64 n32] (w16.setCell (Addr.add a29 (x15.toNat * 1)) (.int .u16 (IntKind.u16.wrap x14))) (Rv fun v33 w34 =>
    ∃ n35 : Int, v33 = .int .i64 n35 ∧ I11 (IntKind.i64.wrap (x13 + n35)) (IntKind.i64.wrap (x14 + n35)) (IntKind.i64.wrap (x15 + 1)) w34 ∧
    μ12 (IntKind.i64.wrap (x13 + n35)) (IntKind.i64.wrap (x14 + n35)) (IntKind.i64.wrap (x15 + 1)) w34 < μ12 x13 x14 x15 w16))) (∃ l36 : Slc, w16.cell? (Addr.add ⟨w5.heap.size, 0, none⟩ 1) = some (.slice l36.a l36.len l36.cap) ∧
    ∃ w37 : World, ∃ l38 : Slc, (Builtin.append_ #[37, 37] 37 #[.slice l36.a l36.len l36.cap, .slice (some ⟨w16.heap.size, 0, none⟩) 1 1]).run Tryd.prog (w16.alloc (.cells #[.int .i64 x13] 3)) = .ok (.slice l38.a l38.len l38.cap) w37 ∧
    (∃ u, w37.cell? (Addr.add ⟨w5.heap.size, 0, none⟩ 1) = some u) ∧ w37.frozen? (Addr.add ⟨w5.heap.size, 0, none⟩ 1) = false ∧
    R (.pointer (some ⟨w5.heap.size, 0, none⟩)) (w37.setCell (Addr.add ⟨w5.heap.size, 0, none⟩ 1) (.slice l38.a l38.len l38.cap)))))
theorem B84_eq : @B84 = fun (a_0 : Addr) (w : World) (R : Value → World → Prop) => trF Tryd.prog G (lk [(5, [(4, .int .i64), (5, .int .i64), (28, .int .i64)])]) Tryd.f84 [.pointer (some a_0)] w R := by kernel_rfl
theorem c84 (a_0 : Addr) (w : World) (R : Value → World → Prop) (h : B84 a_0 w R) : Calls Tryd.prog 84 #[.pointer (some a_0)] w (Rv R) := calls_of_tr (L := lk [(5, [(4, .int .i64), (5, .int .i64), (28, .int .i64)])]) Tryd.func84 hG hM (by rw [B84_eq] at h; exact h)

/-- (*locution/rankdir.Dir).Rank -/
def B89 (a_0 : Addr) (x_1 : Int) (w : World) (R : Value → World → Prop) : Prop :=
  br (decide (x_1 ≤ (0 : Int))) (R (.int .i64 0) w) (∃ n1 : Int, w.cell? (Addr.add a_0 3) = some (.int .i64 n1) ∧
    br (decide (n1 = (0 : Int))) (R (.int .i64 0) w) (∃ n2 : Int, w.cell? (Addr.add a_0 3) = some (.int .i64 n2) ∧
    br (decide (n2 ≤ x_1)) (∃ l3 : Slc, (World.drew w).cell? (Addr.add a_0 1) = some (.slice l3.a l3.len l3.cap) ∧
    ∃ l4 : Slc, (World.drew w).cell? (Addr.add a_0 1) = some (.slice l4.a l4.len l4.cap) ∧ 0 ≤ (IntKind.i64.wrap ((l4.len : Int) - 1)) ∧
    (IntKind.i64.wrap ((l4.len : Int) - 1)) < (l3.len : Int) ∧ ∃ a5, l3.a = some a5 ∧
    ∃ n6 : Int, (World.drew w).cell? (Addr.add a5 ((IntKind.i64.wrap ((l4.len : Int) - 1)).toNat * 1)) = some (.int .i64 n6) ∧
    R (.int .i64 n6) (World.drew w)) (∃ l7 : Slc, (World.drew w).cell? (Addr.add a_0 1) = some (.slice l7.a l7.len l7.cap) ∧ (512 : Int) ≠ 0 ∧
    0 ≤ (IntKind.i64.wrap (Int.tdiv x_1 512)) ∧ (IntKind.i64.wrap (Int.tdiv x_1 512)) < (l7.len : Int) ∧ ∃ a8, l7.a = some a8 ∧
    ∃ n9 : Int, (World.drew w).cell? (Addr.add a8 ((IntKind.i64.wrap (Int.tdiv x_1 512)).toNat * 1)) = some (.int .i64 n9) ∧
    ∃ l10 : Slc, (World.drew w).cell? (Addr.add a_0 2) = some (.slice l10.a l10.len l10.cap) ∧ (64 : Int) ≠ 0 ∧ 0 ≤ (IntKind.i64.wrap (Int.tdiv x_1 64)) ∧
    (IntKind.i64.wrap (Int.tdiv x_1 64)) < (l10.len : Int) ∧ ∃ a11, l10.a = some a11 ∧
    ∃ n12 : Int, (World.drew w).cell? (Addr.add a11 ((IntKind.i64.wrap (Int.tdiv x_1 64)).toNat * 1)) = some (.int .u16 n12) ∧
    ∃ l13 : Slc, (World.drew w).cell? (Addr.add a_0 0) = some (.slice l13.a l13.len l13.cap) ∧ (64 : Int) ≠ 0 ∧ 0 ≤ (IntKind.i64.wrap (Int.tdiv x_1 64)) ∧
    (IntKind.i64.wrap (Int.tdiv x_1 64)) < (l13.len : Int) ∧ ∃ a14, l13.a = some a14 ∧
    ∃ n15 : Int, (World.drew w).cell? (Addr.add a14 ((IntKind.i64.wrap (Int.tdiv x_1 64)).toNat * 1)) = some (.int .u64 n15) ∧ (64 : Int) ≠ 0 ∧
    Calls Tryd.prog 78 #[.int .u64 n15, .int .i64 (Int.tmod x_1 64)] (World.drew w) (Rv fun v16 w17 => ∃ n18 : Int, v16 = .int .i64 n18 ∧
    w17.cell? (Addr.add a11 ((IntKind.i64.wrap (Int.tdiv x_1 64)).toNat * 1)) = some (.int .u16 n12) ∧
    w17.cell? (Addr.add a_0 2) = some (.slice l10.a l10.len l10.cap) ∧
    w17.cell? (Addr.add a8 ((IntKind.i64.wrap (Int.tdiv x_1 512)).toNat * 1)) = some (.int .i64 n9) ∧ w17.cell? (Addr.add a_0 1) = some (.slice l7.a l7.len l7.cap) ∧
    R (.int .i64 (IntKind.i64.wrap ((IntKind.i64.wrap (n9 + (IntKind.i64.wrap n12))) + n18))) w17))))
theorem B89_eq : @B89 = fun (a_0 : Addr) (x_1 : Int) (w : World) (R : Value → World → Prop) => trF Tryd.prog G (lk []) Tryd.f89 [.pointer (some a_0), .int .i64 x_1] w R := by kernel_rfl
theorem c89 (a_0 : Addr) (x_1 : Int) (w : World) (R : Value → World → Prop) (h : B89 a_0 x_1 w R) : Calls Tryd.prog 89 #[.pointer (some a_0), .int .i64 x_1] w (Rv R) := calls_of_tr (L := lk []) Tryd.func89 hG hM (by rw [B89_eq] at h; exact h)

/-- (*locution/rankdir.Dir).Zeros -/
def B93 (a_0 : Addr) (x_1 : Int) (w : World) (R : Value → World → Prop) : Prop :=
  Calls Tryd.prog 136 #[.pointer (some a_0)] w (Rv fun v1 w2 => ∃ n3 : Int, v1 = .int .i64 n3 ∧ Calls Tryd.prog 89 #[.pointer (some a_0), .int .i64 x_1] w2 (Rv fun v4 w5 =>
    ∃ n6 : Int, v4 = .int .i64 n6 ∧ R (.int .i64 (IntKind.i64.wrap ((min (max x_1 (0 : Int)) n3) - n6))) w5))
theorem B93_eq : @B93 = fun (a_0 : Addr) (x_1 : Int) (w : World) (R : Value → World → Prop) => trF Tryd.prog G (lk []) Tryd.f93 [.pointer (some a_0), .int .i64 x_1] w R := by kernel_rfl
theorem c93 (a_0 : Addr) (x_1 : Int) (w : World) (R : Value → World → Prop) (h : B93 a_0 x_1 w R) : Calls Tryd.prog 93 #[.pointer (some a_0), .int .i64 x_1] w (Rv R) := calls_of_tr (L := lk []) Tryd.func93 hG hM (by rw [B93_eq] at h; exact h)

/-- (*locution/rankdir.Dir).Len -/
def B136 (a_0 : Addr) (w : World) (R : Value → World → Prop) : Prop :=
  ∃ n1 : Int, w.cell? (Addr.add a_0 3) = some (.int .i64 n1) ∧ R (.int .i64 n1) w
theorem B136_eq : @B136 = fun (a_0 : Addr) (w : World) (R : Value → World → Prop) => trF Tryd.prog G (lk []) Tryd.f136 [.pointer (some a_0)] w R := by kernel_rfl
theorem c136 (a_0 : Addr) (w : World) (R : Value → World → Prop) (h : B136 a_0 w R) : Calls Tryd.prog 136 #[.pointer (some a_0)] w (Rv R) := calls_of_tr (L := lk []) Tryd.func136 hG hM (by rw [B136_eq] at h; exact h)

/-- locution/locutionref04.Row -/
def B85 (x_0 : Slc) (x_1 : Int) (x_2 : Int) (x_3 : Int) (w : World) (R : Value → World → Prop) : Prop :=
  ∃ (I1 : Slc → Int → World → Prop) (μ2 : Slc → Int → World → Nat), I1 ⟨none, 0, 0⟩ (0 : Int) w ∧ ∀ x3 : Slc, ∀ x4 : Int, ∀ w5 : World, I1 x3 x4 w5 →
    br (decide (x4 < x_1)) (∃ (I6 : Slc → Int → World → Prop) (μ7 : Slc → Int → World → Nat), I6 x3 (0 : Int) w5 ∧
    ∀ x8 : Slc, ∀ x9 : Int, ∀ w10 : World, I6 x8 x9 w10 → br (decide (x9 < (x_0.len : Int))) (0 ≤ x9 ∧ x9 < (x_0.len : Int) ∧ ∃ a11, x_0.a = some a11 ∧
    ∃ n12 : Int, w10.cell? (Addr.add a11 (x9.toNat * 1)) = some (.int .u64 n12) ∧
    Calls Tryd.prog 117 #[.slice x8.a x8.len x8.cap, .int .u64 n12, .int .i64 64] w10 (Rv fun v13 w14 => ∃ l15 : Slc, v13 = .slice l15.a l15.len l15.cap ∧
    I6 l15 (IntKind.i64.wrap (x9 + 1)) w14 ∧ μ7 l15 (IntKind.i64.wrap (x9 + 1)) w14 < μ7 x8 x9 w10)) (I1 x8 (IntKind.i64.wrap (x4 + 1)) w10 ∧
    μ2 x8 (IntKind.i64.wrap (x4 + 1)) w10 < μ2 x3 x4 w5)) (Calls Tryd.prog 117 #[.slice x3.a x3.len x3.cap, .int .u64 x_2, .int .i64 x_3] w5 (Rv fun v16 w17 =>
    ∃ l18 : Slc, v16 = .slice l18.a l18.len l18.cap ∧ R (.slice l18.a l18.len l18.cap) w17))
theorem B85_eq : @B85 = fun (x_0 : Slc) (x_1 : Int) (x_2 : Int) (x_3 : Int) (w : World) (R : Value → World → Prop) => trF Tryd.prog G (lk [(3, [(9, .slc), (10, .int .i64)]), (6, [(9, .slc), (11, .int .i64)])]) Tryd.f85 [.slice x_0.a x_0.len x_0.cap, .int .i64 x_1, .int .u64 x_2, .int .i64 x_3] w R := by kernel_rfl
theorem c85 (x_0 : Slc) (x_1 : Int) (x_2 : Int) (x_3 : Int) (w : World) (R : Value → World → Prop) (h : B85 x_0 x_1 x_2 x_3 w R) : Calls Tryd.prog 85 #[.slice x_0.a x_0.len x_0.cap, .int .i64 x_1, .int .u64 x_2, .int .i64 x_3] w (Rv R) := calls_of_tr (L := lk [(3, [(9, .slc), (10, .int .i64)]), (6, [(9, .slc), (11, .int .i64)])]) Tryd.func85 hG hM (by rw [B85_eq] at h; exact h)

/-- locution/locutionlaw04.Small -/
def B16 (x0_0 : Slc) (x0_1 : Int) (x0_2 : Int) (x0_3 : Int) (w : World) (R : Value → World → Prop) : Prop :=
  
    ∃ l1 : Slc, (w.alloc (.cells #[.slice x0_0.a x0_0.len x0_0.cap, .int .u8 x0_1, .int .u64 x0_2, .int .u8 x0_3] 31)).cell? (Addr.add ⟨w.heap.size, 0, none⟩ 0) = some (.slice l1.a l1.len l1.cap) ∧
    br (decide ((l1.len : Int) ≤ (6 : Int))) (∃ n2 : Int, (w.alloc (.cells #[.slice x0_0.a x0_0.len x0_0.cap, .int .u8 x0_1, .int .u64 x0_2, .int .u8 x0_3] 31)).cell? (Addr.add ⟨w.heap.size, 0, none⟩ 1) = some (.int .u8 n2) ∧
    br (decide (n2 ≤ (40 : Int))) (∃ n3 : Int, (w.alloc (.cells #[.slice x0_0.a x0_0.len x0_0.cap, .int .u8 x0_1, .int .u64 x0_2, .int .u8 x0_3] 31)).cell? (Addr.add ⟨w.heap.size, 0, none⟩ 3) = some (.int .u8 n3) ∧
    R (.bool (decide (n3 ≤ (64 : Int)))) (w.alloc (.cells #[.slice x0_0.a x0_0.len x0_0.cap, .int .u8 x0_1, .int .u64 x0_2, .int .u8 x0_3] 31))) (R (.bool false) (w.alloc (.cells #[.slice x0_0.a x0_0.len x0_0.cap, .int .u8 x0_1, .int .u64 x0_2, .int .u8 x0_3] 31)))) (R (.bool false) (w.alloc (.cells #[.slice x0_0.a x0_0.len x0_0.cap, .int .u8 x0_1, .int .u64 x0_2, .int .u8 x0_3] 31)))
theorem B16_eq : @B16 = fun (x0_0 : Slc) (x0_1 : Int) (x0_2 : Int) (x0_3 : Int) (w : World) (R : Value → World → Prop) => trF Tryd.prog G (lk []) Tryd.f16 [.agg #[.slice x0_0.a x0_0.len x0_0.cap, .int .u8 x0_1, .int .u64 x0_2, .int .u8 x0_3]] w R := by kernel_rfl
theorem c16 (x0_0 : Slc) (x0_1 : Int) (x0_2 : Int) (x0_3 : Int) (w : World) (R : Value → World → Prop) (h : B16 x0_0 x0_1 x0_2 x0_3 w R) : Calls Tryd.prog 16 #[.agg #[.slice x0_0.a x0_0.len x0_0.cap, .int .u8 x0_1, .int .u64 x0_2, .int .u8 x0_3]] w (Rv R) := calls_of_tr (L := lk []) Tryd.func16 hG hM (by rw [B16_eq] at h; exact h)

/-- locution/locutionlaw04.Row -/
def B18 (x0_0 : Slc) (x0_1 : Int) (x0_2 : Int) (x0_3 : Int) (w : World) (R : Value → World → Prop) : Prop :=
  Calls Tryd.prog 82 #[] (w.alloc (.cells #[.slice x0_0.a x0_0.len x0_0.cap, .int .u8 x0_1, .int .u64 x0_2, .int .u8 x0_3] 31)) (Rv fun v1 w2 =>
    ∃ p3 : Option Addr, v1 = .pointer p3 ∧ ∃ (I4 : Int → World → Prop) (μ5 : Int → World → Nat), I4 (0 : Int) w2 ∧ ∀ x6 : Int, ∀ w7 : World, I4 x6 w7 →
    ∃ n8 : Int, w7.cell? (Addr.add ⟨w.heap.size, 0, none⟩ 1) = some (.int .u8 n8) ∧ br (decide (x6 < (IntKind.i64.wrap n8))) (∃ (I9 : Int → World →
    Prop) (μ10 : Int → World → Nat), I9 (0 : Int) w7 ∧ ∀ x11 : Int, ∀ w12 : World, I9 x11 w12 →
    ∃ l13 : Slc, w12.cell? (Addr.add ⟨w.heap.size, 0, none⟩ 0) = some (.slice l13.a l13.len l13.cap) ∧
    br (decide (x11 < (l13.len : Int))) (∃ l14 : Slc, w12.cell? (Addr.add ⟨w.heap.size, 0, none⟩ 0) = some (.slice l14.a l14.len l14.cap) ∧ 0 ≤ x11 ∧
    x11 < (l14.len : Int) ∧ ∃ a15, l14.a = some a15 ∧ ∃ n16 : Int, w12.cell? (Addr.add a15 (x11.toNat * 1)) = some (.int .u64 n16) ∧
    Calls Tryd.prog 22 #[.pointer p3, .int .u64 n16, .int .i64 64] w12 (Rv fun v17 w18 => ∃ n19 : Int, v17 = .int .i64 n19 ∧ I9 (IntKind.i64.wrap (x11 + 1)) w18 ∧
    μ10 (IntKind.i64.wrap (x11 + 1)) w18 < μ10 x11 w12)) (I4 (IntKind.i64.wrap (x6 + 1)) w12 ∧
    μ5 (IntKind.i64.wrap (x6 + 1)) w12 < μ5 x6 w7)) (∃ n20 : Int, (World.drew w7).cell? (Addr.add ⟨w.heap.size, 0, none⟩ 2) = some (.int .u64 n20) ∧
    ∃ n21 : Int, (World.drew w7).cell? (Addr.add ⟨w.heap.size, 0, none⟩ 3) = some (.int .u8 n21) ∧
    ∃ n22 : Int, (World.drew w7).cell? (Addr.add ⟨w.heap.size, 0, none⟩ 3) = some (.int .u8 n22) ∧
    Calls Tryd.prog 83 #[.int .u64 n20, .int .i64 0, .int .i64 (IntKind.i64.wrap n21)] (World.drew w7) (Rv fun v23 w24 => ∃ n25 : Int, v23 = .int .u64 n25 ∧
    w24.cell? (Addr.add ⟨w.heap.size, 0, none⟩ 3) = some (.int .u8 n22) ∧
    Calls Tryd.prog 22 #[.pointer p3, .int .u64 n25, .int .i64 (IntKind.i64.wrap n22)] w24 (Rv fun v26 w27 => ∃ n28 : Int, v26 = .int .i64 n28 ∧ R (.pointer p3) w27))))
theorem B18_eq : @B18 = fun (x0_0 : Slc) (x0_1 : Int) (x0_2 : Int) (x0_3 : Int) (w : World) (R : Value → World → Prop) => trF Tryd.prog G (lk [(3, [(4, .int .i64)]), (6, [(5, .int .i64)])]) Tryd.f18 [.agg #[.slice x0_0.a x0_0.len x0_0.cap, .int .u8 x0_1, .int .u64 x0_2, .int .u8 x0_3]] w R := by kernel_rfl
theorem c18 (x0_0 : Slc) (x0_1 : Int) (x0_2 : Int) (x0_3 : Int) (w : World) (R : Value → World → Prop) (h : B18 x0_0 x0_1 x0_2 x0_3 w R) : Calls Tryd.prog 18 #[.agg #[.slice x0_0.a x0_0.len x0_0.cap, .int .u8 x0_1, .int .u64 x0_2, .int .u8 x0_3]] w (Rv R) := calls_of_tr (L := lk [(3, [(4, .int .i64)]), (6, [(5, .int .i64)])]) Tryd.func18 hG hM (by rw [B18_eq] at h; exact h)

/-- locution/locutionlaw04.Bits -/
def B21 (x0_0 : Slc) (x0_1 : Int) (x0_2 : Int) (x0_3 : Int) (w : World) (R : Value → World → Prop) : Prop :=
  
    ∃ l1 : Slc, (World.drew (w.alloc (.cells #[.slice x0_0.a x0_0.len x0_0.cap, .int .u8 x0_1, .int .u64 x0_2, .int .u8 x0_3] 31))).cell? (Addr.add ⟨w.heap.size, 0, none⟩ 0) = some (.slice l1.a l1.len l1.cap) ∧
    ∃ n2 : Int, (World.drew (w.alloc (.cells #[.slice x0_0.a x0_0.len x0_0.cap, .int .u8 x0_1, .int .u64 x0_2, .int .u8 x0_3] 31))).cell? (Addr.add ⟨w.heap.size, 0, none⟩ 1) = some (.int .u8 n2) ∧
    ∃ n3 : Int, (World.drew (w.alloc (.cells #[.slice x0_0.a x0_0.len x0_0.cap, .int .u8 x0_1, .int .u64 x0_2, .int .u8 x0_3] 31))).cell? (Addr.add ⟨w.heap.size, 0, none⟩ 2) = some (.int .u64 n3) ∧
    ∃ n4 : Int, (World.drew (w.alloc (.cells #[.slice x0_0.a x0_0.len x0_0.cap, .int .u8 x0_1, .int .u64 x0_2, .int .u8 x0_3] 31))).cell? (Addr.add ⟨w.heap.size, 0, none⟩ 3) = some (.int .u8 n4) ∧
    ∃ n5 : Int, (World.drew (w.alloc (.cells #[.slice x0_0.a x0_0.len x0_0.cap, .int .u8 x0_1, .int .u64 x0_2, .int .u8 x0_3] 31))).cell? (Addr.add ⟨w.heap.size, 0, none⟩ 3) = some (.int .u8 n5) ∧
    Calls Tryd.prog 83 #[.int .u64 n3, .int .i64 0, .int .i64 (IntKind.i64.wrap n4)] (World.drew (w.alloc (.cells #[.slice x0_0.a x0_0.len x0_0.cap, .int .u8 x0_1, .int .u64 x0_2, .int .u8 x0_3] 31))) (Rv fun v6 w7 =>
    ∃ n8 : Int, v6 = .int .u64 n8 ∧ w7.cell? (Addr.add ⟨w.heap.size, 0, none⟩ 3) = some (.int .u8 n5) ∧
    w7.cell? (Addr.add ⟨w.heap.size, 0, none⟩ 1) = some (.int .u8 n2) ∧ w7.cell? (Addr.add ⟨w.heap.size, 0, none⟩ 0) = some (.slice l1.a l1.len l1.cap) ∧
    Calls Tryd.prog 85 #[.slice l1.a l1.len l1.cap, .int .i64 (IntKind.i64.wrap n2), .int .u64 n8, .int .i64 (IntKind.i64.wrap n5)] w7 (Rv fun v9 w10 =>
    ∃ l11 : Slc, v9 = .slice l11.a l11.len l11.cap ∧ R (.slice l11.a l11.len l11.cap) w10))
theorem B21_eq : @B21 = fun (x0_0 : Slc) (x0_1 : Int) (x0_2 : Int) (x0_3 : Int) (w : World) (R : Value → World → Prop) => trF Tryd.prog G (lk []) Tryd.f21 [.agg #[.slice x0_0.a x0_0.len x0_0.cap, .int .u8 x0_1, .int .u64 x0_2, .int .u8 x0_3]] w R := by kernel_rfl
theorem c21 (x0_0 : Slc) (x0_1 : Int) (x0_2 : Int) (x0_3 : Int) (w : World) (R : Value → World → Prop) (h : B21 x0_0 x0_1 x0_2 x0_3 w R) : Calls Tryd.prog 21 #[.agg #[.slice x0_0.a x0_0.len x0_0.cap, .int .u8 x0_1, .int .u64 x0_2, .int .u8 x0_3]] w (Rv R) := calls_of_tr (L := lk []) Tryd.func21 hG hM (by rw [B21_eq] at h; exact h)

/-- (*locution/rankdir.Dir).Len -/
def B136n  (w : World) (R : Value → World → Prop) : Prop :=
  R (.int .i64 0) w
theorem B136n_eq : @B136n = fun (w : World) (R : Value → World → Prop) => trF Tryd.prog G (lk []) Tryd.f136 [.pointer none] w R := by kernel_rfl
theorem c136n  (w : World) (R : Value → World → Prop) (h : B136n  w R) : Calls Tryd.prog 136 #[.pointer none] w (Rv R) := calls_of_tr (L := lk []) Tryd.func136 hG hM (by rw [B136n_eq] at h; exact h)

/-- (*locution/rankdir.Dir).Rank -/
def B89n (x_1 : Int) (w : World) (R : Value → World → Prop) : Prop :=
  R (.int .i64 0) w
theorem B89n_eq : @B89n = fun (x_1 : Int) (w : World) (R : Value → World → Prop) => trF Tryd.prog G (lk []) Tryd.f89 [.pointer none, .int .i64 x_1] w R := by kernel_rfl
theorem c89n (x_1 : Int) (w : World) (R : Value → World → Prop) (h : B89n x_1 w R) : Calls Tryd.prog 89 #[.pointer none, .int .i64 x_1] w (Rv R) := calls_of_tr (L := lk []) Tryd.func89 hG hM (by rw [B89n_eq] at h; exact h)

/-- (*locution/rankdir.Dir).Zeros -/
def B93n (x_1 : Int) (w : World) (R : Value → World → Prop) : Prop :=
  Calls Tryd.prog 136 #[.pointer none] w (Rv fun v1 w2 => ∃ n3 : Int, v1 = .int .i64 n3 ∧ Calls Tryd.prog 89 #[.pointer none, .int .i64 x_1] w2 (Rv fun v4 w5 =>
    ∃ n6 : Int, v4 = .int .i64 n6 ∧ R (.int .i64 (IntKind.i64.wrap ((min (max x_1 (0 : Int)) n3) - n6))) w5))
theorem B93n_eq : @B93n = fun (x_1 : Int) (w : World) (R : Value → World → Prop) => trF Tryd.prog G (lk []) Tryd.f93 [.pointer none, .int .i64 x_1] w R := by kernel_rfl
theorem c93n (x_1 : Int) (w : World) (R : Value → World → Prop) (h : B93n x_1 w R) : Calls Tryd.prog 93 #[.pointer none, .int .i64 x_1] w (Rv R) := calls_of_tr (L := lk []) Tryd.func93 hG hM (by rw [B93n_eq] at h; exact h)

/-- locution/rankdir.New -/
def B84n  (w : World) (R : Value → World → Prop) : Prop :=
  Calls Tryd.prog 56 #[.pointer none] w (Rv fun v1 w2 => ∃ l3 : Slc, v1 = .slice l3.a l3.len l3.cap ∧ Calls Tryd.prog 54 #[.pointer none] w2 (Rv fun v4 w5 =>
    ∃ n6 : Int, v4 = .int .i64 n6 ∧
    ∃ l7 : Slc, (w5.alloc (.cells #[.slice l3.a l3.len l3.cap, .slice none 0 0, .slice none 0 0, .int .i64 n6] 155)).cell? (Addr.add ⟨w5.heap.size, 0, none⟩ 0) = some (.slice l7.a l7.len l7.cap) ∧
    ∃ w8 : World, ∃ l9 : Slc, (Instr.makeSlice 153 (.int .i64 (l7.len : Int)) (.int .i64 (l7.len : Int))).run Tryd.prog (w5.alloc (.cells #[.slice l3.a l3.len l3.cap, .slice none 0 0, .slice none 0 0, .int .i64 n6] 155)) = .ok (.slice l9.a l9.len l9.cap) w8 ∧
    (∃ u, w8.cell? (Addr.add ⟨w5.heap.size, 0, none⟩ 2) = some u) ∧ w8.frozen? (Addr.add ⟨w5.heap.size, 0, none⟩ 2) = false ∧
    ∃ l10 : Slc, (w8.setCell (Addr.add ⟨w5.heap.size, 0, none⟩ 2) (.slice l9.a l9.len l9.cap)).cell? (Addr.add ⟨w5.heap.size, 0, none⟩ 0) = some (.slice l10.a l10.len l10.cap) ∧
    ∃ (I11 : Int → Int → Int → World → Prop) (μ12 : Int → Int → Int → World →
    Nat), I11 (0 : Int) (0 : Int) (0 : Int) (w8.setCell (Addr.add ⟨w5.heap.size, 0, none⟩ 2) (.slice l9.a l9.len l9.cap)) ∧
    ∀ x13 : Int, ∀ x14 : Int, ∀ x15 : Int, ∀ w16 : World, I11 x13 x14 x15 w16 → br (decide (x15 < (l10.len : Int))) ((8 : Int) ≠ 0 ∧
    br (decide ((Int.tmod x15 8) = (0 : Int))) (∃ l17 : Slc, w16.cell? (Addr.add ⟨w5.heap.size, 0, none⟩ 1) = some (.slice l17.a l17.len l17.cap) ∧
    ∃ w18 : World, ∃ l19 : Slc, (Builtin.append_ #[37, 37] 37 #[.slice l17.a l17.len l17.cap, .slice (some ⟨w16.heap.size, 0, none⟩) 1 1]).run Tryd.prog (w16.alloc (.cells #[.int .i64 x13] 3)) = .ok (.slice l19.a l19.len l19.cap) w18 ∧
    (∃ u, w18.cell? (Addr.add ⟨w5.heap.size, 0, none⟩ 1) = some u) ∧ w18.frozen? (Addr.add ⟨w5.heap.size, 0, none⟩ 1) = false ∧
    ∃ l20 : Slc, (w18.setCell (Addr.add ⟨w5.heap.size, 0, none⟩ 1) (.slice l19.a l19.len l19.cap)).cell? (Addr.add ⟨w5.heap.size, 0, none⟩ 2) = some (.slice l20.a l20.len l20.cap) ∧
    0 ≤ x15 ∧ x15 < (l20.len : Int) ∧ ∃ a21, l20.a = some a21 ∧
    (∃ u, (w18.setCell (Addr.add ⟨w5.heap.size, 0, none⟩ 1) (.slice l19.a l19.len l19.cap)).cell? (Addr.add a21 (x15.toNat * 1)) = some u) ∧
    (w18.setCell (Addr.add ⟨w5.heap.size, 0, none⟩ 1) (.slice l19.a l19.len l19.cap)).frozen? (Addr.add a21 (x15.toNat * 1)) = false ∧
    ∃ l22 : Slc, ((w18.setCell (Addr.add ⟨w5.heap.size, 0, none⟩ 1) (.slice l19.a l19.len l19.cap)).setCell (Addr.add a21 (x15.toNat * 1)) (.int .u16 (IntKind.u16.wrap (0 : Int)))).cell? (Addr.add ⟨w5.heap.size, 0, none⟩ 0) = some (.slice l22.a l22.len l22.cap) ∧
    0 ≤ x15 ∧ x15 < (l22.len : Int) ∧ ∃ a23, l22.a = some a23 ∧
    ∃ n24 : Int, ((w18.setCell (Addr.add ⟨w5.heap.size, 0, none⟩ 1) (.slice l19.a l19.len l19.cap)).setCell (Addr.add a21 (x15.toNat * 1)) (.int .u16 (IntKind.u16.wrap (0 : Int)))).cell? (Addr.add a23 (x15.toNat * 1)) = some (.int .u64 n24) ∧
    Calls Tryd.prog 77 #[.int .u64 n24] ((w18.setCell (Addr.add ⟨w5.heap.size, 0, none⟩ 1) (.slice l19.a l19.len l19.cap)).setCell (Addr.add a21 (x15.toNat * 1)) (.int .u16 (IntKind.u16.wrap (0 : Int)))) (Rv fun v25 w26 =>
    ∃ n27 : Int, v25 = .int .i64 n27 ∧ I11 (IntKind.i64.wrap (x13 + n27)) (IntKind.i64.wrap (0 + n27)) (IntKind.i64.wrap (x15 + 1)) w26 ∧
    μ12 (IntKind.i64.wrap (x13 + n27)) (IntKind.i64.wrap (0 + n27)) (IntKind.i64.wrap (x15 + 1)) w26 < μ12 x13 x14 x15 w16)) (∃ l28 : Slc, w16.cell? (Addr.add ⟨w5.heap.size, 0, none⟩ 2) = some (.slice l28.a l28.len l28.cap) ∧
    0 ≤ x15 ∧ x15 < (l28.len : Int) ∧ ∃ a29, l28.a = some a29 ∧ (∃ u, w16.cell? (Addr.add a29 (x15.toNat * 1)) = some u) ∧
    w16.frozen? (Addr.add a29 (x15.toNat * 1)) = false ∧
    ∃ l30 : Slc, (w16.setCell (Addr.add a29 (x15.toNat * 1)) (.int .u16 (IntKind.u16.wrap x14))).cell? (Addr.add ⟨w5.heap.size, 0, none⟩ 0) = some (.slice l30.a l30.len l30.cap) ∧
    0 ≤ x15 ∧ x15 < (l30.len : Int) ∧ ∃ a31, l30.a = some a31 ∧
    ∃ n32 : Int, (w16.setCell (Addr.add a29 (x15.toNat * 1)) (.int .u16 (IntKind.u16.wrap x14))).cell? (Addr.add a31 (x15.toNat * 1)) = some (.int .u64 n32) ∧
    Calls Tryd.prog 77 #[.int .u64 n32] (w16.setCell (Addr.add a29 (x15.toNat * 1)) (.int .u16 (IntKind.u16.wrap x14))) (Rv fun v33 w34 =>
    ∃ n35 : Int, v33 = .int .i64 n35 ∧ I11 (IntKind.i64.wrap (x13 + n35)) (IntKind.i64.wrap (x14 + n35)) (IntKind.i64.wrap (x15 + 1)) w34 ∧
    μ12 (IntKind.i64.wrap (x13 + n35)) (IntKind.i64.wrap (x14 + n35)) (IntKind.i64.wrap (x15 + 1)) w34 < μ12 x13 x14 x15 w16))) (∃ l36 : Slc, w16.cell? (Addr.add ⟨w5.heap.size, 0, none⟩ 1) = some (.slice l36.a l36.len l36.cap) ∧
    ∃ w37 : World, ∃ l38 : Slc, (Builtin.append_ #[37, 37] 37 #[.slice l36.a l36.len l36.cap, .slice (some ⟨w16.heap.size, 0, none⟩) 1 1]).run Tryd.prog (w16.alloc (.cells #[.int .i64 x13] 3)) = .ok (.slice l38.a l38.len l38.cap) w37 ∧
    (∃ u, w37.cell? (Addr.add ⟨w5.heap.size, 0, none⟩ 1) = some u) ∧ w37.frozen? (Addr.add ⟨w5.heap.size, 0, none⟩ 1) = false ∧
    R (.pointer (some ⟨w5.heap.size, 0, none⟩)) (w37.setCell (Addr.add ⟨w5.heap.size, 0, none⟩ 1) (.slice l38.a l38.len l38.cap)))))
theorem B84n_eq : @B84n = fun (w : World) (R : Value → World → Prop) => trF Tryd.prog G (lk [(5, [(4, .int .i64), (5, .int .i64), (28, .int .i64)])]) Tryd.f84 [.pointer none] w R := by kernel_rfl
theorem c84n  (w : World) (R : Value → World → Prop) (h : B84n  w R) : Calls Tryd.prog 84 #[.pointer none] w (Rv R) := calls_of_tr (L := lk [(5, [(4, .int .i64), (5, .int .i64), (28, .int .i64)])]) Tryd.func84 hG hM (by rw [B84n_eq] at h; exact h)

end Go.Proofs.YtomajpihimlcjaaDoor.V
