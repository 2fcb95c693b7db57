/- The verification conditions of functions, printed by a program of this work (pr.py) and checked here by the kernel. -/
import Derived.Test.YtilccklocaeebaaBR
set_option maxRecDepth 100000
set_option linter.unusedVariables false
namespace Go.Proofs.Ytilccklocaeebaa.V
open Go Go.VC

/-- locution/rankdir.New -/
def B13 (a_0 : Addr) (w : World) (R : Value → World → Prop) : Prop :=
  Calls Try.prog 44 #[.pointer (some a_0)] w (Rv fun v1 w2 => ∃ l3 : Slc, v1 = .slice l3.a l3.len l3.cap ∧ Calls Try.prog 45 #[.pointer (some a_0)] w2 (Rv fun v4 w5 =>
    ∃ n6 : Int, v4 = .int .i64 n6 ∧
    ∃ l7 : Slc, (w5.alloc (.cells #[.slice l3.a l3.len l3.cap, .slice none 0 0, .slice none 0 0, .int .i64 n6] 69)).cell? (Addr.add ⟨w5.heap.size, 0, none⟩ 0) = some (.slice l7.a l7.len l7.cap) ∧
    ∃ w8 : World, ∃ l9 : Slc, (Instr.makeSlice 67 (.int .i64 (l7.len : Int)) (.int .i64 (l7.len : Int))).run Try.prog (w5.alloc (.cells #[.slice l3.a l3.len l3.cap, .slice none 0 0, .slice none 0 0, .int .i64 n6] 69)) = .ok (.slice l9.a l9.len l9.cap) w8 ∧
    (∃ u, w8.cell? (Addr.add ⟨w5.heap.size, 0, none⟩ 2) = some u) ∧ w8.frozen? (Addr.add ⟨w5.heap.size, 0, none⟩ 2) = false ∧
    ∃ l10 : Slc, (w8.setCell (Addr.add ⟨w5.heap.size, 0, none⟩ 2) (.slice l9.a l9.len l9.cap)).cell? (Addr.add ⟨w5.heap.size, 0, none⟩ 0) = some (.slice l10.a l10.len l10.cap) ∧
    ∃ (I11 : Int → Int → Int → World → Prop) (μ12 : Int → Int → Int → World →
    Nat), I11 (0 : Int) (0 : Int) (0 : Int) (w8.setCell (Addr.add ⟨w5.heap.size, 0, none⟩ 2) (.slice l9.a l9.len l9.cap)) ∧
    ∀ x13 : Int, ∀ x14 : Int, ∀ x15 : Int, ∀ w16 : World, I11 x13 x14 x15 w16 → br (decide (x15 < (l10.len : Int))) ((8 : Int) ≠ 0 ∧
    br (decide ((Int.tmod x15 8) = (0 : Int))) (∃ l17 : Slc, w16.cell? (Addr.add ⟨w5.heap.size, 0, none⟩ 1) = some (.slice l17.a l17.len l17.cap) ∧
    ∃ w18 : World, ∃ l19 : Slc, (Builtin.append_ #[38, 38] 38 #[.slice l17.a l17.len l17.cap, .slice (some ⟨w16.heap.size, 0, none⟩) 1 1]).run Try.prog (w16.alloc (.cells #[.int .i64 x13] 3)) = .ok (.slice l19.a l19.len l19.cap) w18 ∧
    (∃ u, w18.cell? (Addr.add ⟨w5.heap.size, 0, none⟩ 1) = some u) ∧ w18.frozen? (Addr.add ⟨w5.heap.size, 0, none⟩ 1) = false ∧
    ∃ l20 : Slc, (w18.setCell (Addr.add ⟨w5.heap.size, 0, none⟩ 1) (.slice l19.a l19.len l19.cap)).cell? (Addr.add ⟨w5.heap.size, 0, none⟩ 2) = some (.slice l20.a l20.len l20.cap) ∧
    0 ≤ x15 ∧ x15 < (l20.len : Int) ∧ ∃ a21, l20.a = some a21 ∧
    (∃ u, (w18.setCell (Addr.add ⟨w5.heap.size, 0, none⟩ 1) (.slice l19.a l19.len l19.cap)).cell? (Addr.add a21 (x15.toNat * 1)) = some u) ∧
    (w18.setCell (Addr.add ⟨w5.heap.size, 0, none⟩ 1) (.slice l19.a l19.len l19.cap)).frozen? (Addr.add a21 (x15.toNat * 1)) = false ∧
    ∃ l22 : Slc, ((w18.setCell (Addr.add ⟨w5.heap.size, 0, none⟩ 1) (.slice l19.a l19.len l19.cap)).setCell (Addr.add a21 (x15.toNat * 1)) (.int .u16 (IntKind.u16.wrap (0 : Int)))).cell? (Addr.add ⟨w5.heap.size, 0, none⟩ 0) = some (.slice l22.a l22.len l22.cap) ∧
    0 ≤ x15 ∧ x15 < (l22.len : Int) ∧ ∃ a23, l22.a = some a23 ∧
    ∃ n24 : Int, ((w18.setCell (Addr.add ⟨w5.heap.size, 0, none⟩ 1) (.slice l19.a l19.len l19.cap)).setCell (Addr.add a21 (x15.toNat * 1)) (.int .u16 (IntKind.u16.wrap (0 : Int)))).cell? (Addr.add a23 (x15.toNat * 1)) = some (.int .u64 n24) ∧
    Calls Try.prog 46 #[.int .u64 n24] ((w18.setCell (Addr.add ⟨w5.heap.size, 0, none⟩ 1) (.slice l19.a l19.len l19.cap)).setCell (Addr.add a21 (x15.toNat * 1)) (.int .u16 (IntKind.u16.wrap (0 : Int)))) (Rv fun v25 w26 =>
    ∃ n27 : Int, v25 = .int .i64 n27 ∧ I11 (IntKind.i64.wrap (x13 + n27)) (IntKind.i64.wrap (0 + n27)) (IntKind.i64.wrap (x15 + 1)) w26 ∧
    μ12 (IntKind.i64.wrap (x13 + n27)) (IntKind.i64.wrap (0 + n27)) (IntKind.i64.wrap (x15 + 1)) w26 < μ12 x13 x14 x15 w16)) (∃ l28 : Slc, w16.cell? (Addr.add ⟨w5.heap.size, 0, none⟩ 2) = some (.slice l28.a l28.len l28.cap) ∧
    0 ≤ x15 ∧ x15 < (l28.len : Int) ∧ ∃ a29, l28.a = some a29 ∧ (∃ u, w16.cell? (Addr.add a29 (x15.toNat * 1)) = some u) ∧
    w16.frozen? (Addr.add a29 (x15.toNat * 1)) = false ∧
    ∃ l30 : Slc, (w16.setCell (Addr.add a29 (x15.toNat * 1)) (.int .u16 (IntKind.u16.wrap x14))).cell? (Addr.add ⟨w5.heap.size, 0, none⟩ 0) = some (.slice l30.a l30.len l30.cap) ∧
    0 ≤ x15 ∧ x15 < (l30.len : Int) ∧ ∃ a31, l30.a = some a31 ∧
    ∃ n32 : Int, (w16.setCell (Addr.add a29 (x15.toNat * 1)) (.int .u16 (IntKind.u16.wrap x14))).cell? (Addr.add a31 (x15.toNat * 1)) = some (.int .u64 n32) ∧
    Calls Try.prog 46 #[.int .u64 n32] (w16.setCell (Addr.add a29 (x15.toNat * 1)) (.int .u16 (IntKind.u16.wrap x14))) (Rv fun v33 w34 =>
    ∃ n35 : Int, v33 = .int .i64 n35 ∧ I11 (IntKind.i64.wrap (x13 + n35)) (IntKind.i64.wrap (x14 + n35)) (IntKind.i64.wrap (x15 + 1)) w34 ∧
    μ12 (IntKind.i64.wrap (x13 + n35)) (IntKind.i64.wrap (x14 + n35)) (IntKind.i64.wrap (x15 + 1)) w34 < μ12 x13 x14 x15 w16))) (∃ l36 : Slc, w16.cell? (Addr.add ⟨w5.heap.size, 0, none⟩ 1) = some (.slice l36.a l36.len l36.cap) ∧
    ∃ w37 : World, ∃ l38 : Slc, (Builtin.append_ #[38, 38] 38 #[.slice l36.a l36.len l36.cap, .slice (some ⟨w16.heap.size, 0, none⟩) 1 1]).run Try.prog (w16.alloc (.cells #[.int .i64 x13] 3)) = .ok (.slice l38.a l38.len l38.cap) w37 ∧
    (∃ u, w37.cell? (Addr.add ⟨w5.heap.size, 0, none⟩ 1) = some u) ∧ w37.frozen? (Addr.add ⟨w5.heap.size, 0, none⟩ 1) = false ∧
    R (.pointer (some ⟨w5.heap.size, 0, none⟩)) (w37.setCell (Addr.add ⟨w5.heap.size, 0, none⟩ 1) (.slice l38.a l38.len l38.cap)))))
theorem B13_eq : @B13 = fun (a_0 : Addr) (w : World) (R : Value → World → Prop) => trF Try.prog G (lk [(5, [(4, .int .i64), (5, .int .i64), (28, .int .i64)])]) Try.f13 [.pointer (some a_0)] w R := by kernel_rfl
theorem c13 (a_0 : Addr) (w : World) (R : Value → World → Prop) (h : B13 a_0 w R) : Calls Try.prog 13 #[.pointer (some a_0)] w (Rv R) := calls_of_tr (L := lk [(5, [(4, .int .i64), (5, .int .i64), (28, .int .i64)])]) Try.func13 hG hM (by rw [B13_eq] at h; exact h)

/-- (*locution/rankdir.Dir).Len -/
def B16 (a_0 : Addr) (w : World) (R : Value → World → Prop) : Prop :=
  ∃ n1 : Int, w.cell? (Addr.add a_0 3) = some (.int .i64 n1) ∧ R (.int .i64 n1) w
theorem B16_eq : @B16 = fun (a_0 : Addr) (w : World) (R : Value → World → Prop) => trF Try.prog G (lk []) Try.f16 [.pointer (some a_0)] w R := by kernel_rfl
theorem c16 (a_0 : Addr) (w : World) (R : Value → World → Prop) (h : B16 a_0 w R) : Calls Try.prog 16 #[.pointer (some a_0)] w (Rv R) := calls_of_tr (L := lk []) Try.func16 hG hM (by rw [B16_eq] at h; exact h)

/-- (*locution/rankdir.Dir).Rank -/
def B17 (a_0 : Addr) (x_1 : Int) (w : World) (R : Value → World → Prop) : Prop :=
  br (decide (x_1 ≤ (0 : Int))) (R (.int .i64 0) w) (∃ n1 : Int, w.cell? (Addr.add a_0 3) = some (.int .i64 n1) ∧
    br (decide (n1 = (0 : Int))) (R (.int .i64 0) w) (∃ n2 : Int, w.cell? (Addr.add a_0 3) = some (.int .i64 n2) ∧
    br (decide (n2 ≤ x_1)) (∃ l3 : Slc, (World.drew w).cell? (Addr.add a_0 1) = some (.slice l3.a l3.len l3.cap) ∧
    ∃ l4 : Slc, (World.drew w).cell? (Addr.add a_0 1) = some (.slice l4.a l4.len l4.cap) ∧ 0 ≤ (IntKind.i64.wrap ((l4.len : Int) - 1)) ∧
    (IntKind.i64.wrap ((l4.len : Int) - 1)) < (l3.len : Int) ∧ ∃ a5, l3.a = some a5 ∧
    ∃ n6 : Int, (World.drew w).cell? (Addr.add a5 ((IntKind.i64.wrap ((l4.len : Int) - 1)).toNat * 1)) = some (.int .i64 n6) ∧
    R (.int .i64 n6) (World.drew w)) (∃ l7 : Slc, (World.drew w).cell? (Addr.add a_0 1) = some (.slice l7.a l7.len l7.cap) ∧ (512 : Int) ≠ 0 ∧
    0 ≤ (IntKind.i64.wrap (Int.tdiv x_1 512)) ∧ (IntKind.i64.wrap (Int.tdiv x_1 512)) < (l7.len : Int) ∧ ∃ a8, l7.a = some a8 ∧
    ∃ n9 : Int, (World.drew w).cell? (Addr.add a8 ((IntKind.i64.wrap (Int.tdiv x_1 512)).toNat * 1)) = some (.int .i64 n9) ∧
    ∃ l10 : Slc, (World.drew w).cell? (Addr.add a_0 2) = some (.slice l10.a l10.len l10.cap) ∧ (64 : Int) ≠ 0 ∧ 0 ≤ (IntKind.i64.wrap (Int.tdiv x_1 64)) ∧
    (IntKind.i64.wrap (Int.tdiv x_1 64)) < (l10.len : Int) ∧ ∃ a11, l10.a = some a11 ∧
    ∃ n12 : Int, (World.drew w).cell? (Addr.add a11 ((IntKind.i64.wrap (Int.tdiv x_1 64)).toNat * 1)) = some (.int .u16 n12) ∧
    ∃ l13 : Slc, (World.drew w).cell? (Addr.add a_0 0) = some (.slice l13.a l13.len l13.cap) ∧ (64 : Int) ≠ 0 ∧ 0 ≤ (IntKind.i64.wrap (Int.tdiv x_1 64)) ∧
    (IntKind.i64.wrap (Int.tdiv x_1 64)) < (l13.len : Int) ∧ ∃ a14, l13.a = some a14 ∧
    ∃ n15 : Int, (World.drew w).cell? (Addr.add a14 ((IntKind.i64.wrap (Int.tdiv x_1 64)).toNat * 1)) = some (.int .u64 n15) ∧ (64 : Int) ≠ 0 ∧
    Calls Try.prog 50 #[.int .u64 n15, .int .i64 (Int.tmod x_1 64)] (World.drew w) (Rv fun v16 w17 => ∃ n18 : Int, v16 = .int .i64 n18 ∧
    w17.cell? (Addr.add a11 ((IntKind.i64.wrap (Int.tdiv x_1 64)).toNat * 1)) = some (.int .u16 n12) ∧
    w17.cell? (Addr.add a_0 2) = some (.slice l10.a l10.len l10.cap) ∧
    w17.cell? (Addr.add a8 ((IntKind.i64.wrap (Int.tdiv x_1 512)).toNat * 1)) = some (.int .i64 n9) ∧ w17.cell? (Addr.add a_0 1) = some (.slice l7.a l7.len l7.cap) ∧
    R (.int .i64 (IntKind.i64.wrap ((IntKind.i64.wrap (n9 + (IntKind.i64.wrap n12))) + n18))) w17))))
theorem B17_eq : @B17 = fun (a_0 : Addr) (x_1 : Int) (w : World) (R : Value → World → Prop) => trF Try.prog G (lk []) Try.f17 [.pointer (some a_0), .int .i64 x_1] w R := by kernel_rfl
theorem c17 (a_0 : Addr) (x_1 : Int) (w : World) (R : Value → World → Prop) (h : B17 a_0 x_1 w R) : Calls Try.prog 17 #[.pointer (some a_0), .int .i64 x_1] w (Rv R) := calls_of_tr (L := lk []) Try.func17 hG hM (by rw [B17_eq] at h; exact h)

/-- (*locution/rankdir.Dir).Zeros -/
def B19 (a_0 : Addr) (x_1 : Int) (w : World) (R : Value → World → Prop) : Prop :=
  Calls Try.prog 16 #[.pointer (some a_0)] w (Rv fun v1 w2 => ∃ n3 : Int, v1 = .int .i64 n3 ∧ Calls Try.prog 17 #[.pointer (some a_0), .int .i64 x_1] w2 (Rv fun v4 w5 =>
    ∃ n6 : Int, v4 = .int .i64 n6 ∧ R (.int .i64 (IntKind.i64.wrap ((min (max x_1 (0 : Int)) n3) - n6))) w5))
theorem B19_eq : @B19 = fun (a_0 : Addr) (x_1 : Int) (w : World) (R : Value → World → Prop) => trF Try.prog G (lk []) Try.f19 [.pointer (some a_0), .int .i64 x_1] w R := by kernel_rfl
theorem c19 (a_0 : Addr) (x_1 : Int) (w : World) (R : Value → World → Prop) (h : B19 a_0 x_1 w R) : Calls Try.prog 19 #[.pointer (some a_0), .int .i64 x_1] w (Rv R) := calls_of_tr (L := lk []) Try.func19 hG hM (by rw [B19_eq] at h; exact h)

/-- (*locution/rankdir.Dir).Marks -/
def B21 (a_0 : Addr) (w : World) (R : Value → World → Prop) : Prop :=
  ∃ l1 : Slc, w.cell? (Addr.add a_0 1) = some (.slice l1.a l1.len l1.cap) ∧ Calls Try.prog 52 #[.slice l1.a l1.len l1.cap] w (Rv fun v2 w3 =>
    ∃ l4 : Slc, v2 = .slice l4.a l4.len l4.cap ∧ R (.slice l4.a l4.len l4.cap) w3)
theorem B21_eq : @B21 = fun (a_0 : Addr) (w : World) (R : Value → World → Prop) => trF Try.prog G (lk []) Try.f21 [.pointer (some a_0)] w R := by kernel_rfl
theorem c21 (a_0 : Addr) (w : World) (R : Value → World → Prop) (h : B21 a_0 w R) : Calls Try.prog 21 #[.pointer (some a_0)] w (Rv R) := calls_of_tr (L := lk []) Try.func21 hG hM (by rw [B21_eq] at h; exact h)

/-- locution/locutionref04.Rank -/
def B18 (x_0 : Slc) (x_1 : Int) (w : World) (R : Value → World → Prop) : Prop :=
  ∃ (I1 : Int → Int → World → Prop) (μ2 : Int → Int → World → Nat), I1 (0 : Int) (0 : Int) w ∧ ∀ x3 : Int, ∀ x4 : Int, ∀ w5 : World, I1 x3 x4 w5 →
    br (decide (x4 < (x_0.len : Int))) (br (decide (x4 < x_1)) (Calls Try.prog 51 #[.slice x_0.a x_0.len x_0.cap, .int .i64 x4] w5 (Rv fun v6 w7 =>
    ∃ b8 : Bool, v6 = .bool b8 ∧ br b8 (I1 (IntKind.i64.wrap (x3 + 1)) (IntKind.i64.wrap (x4 + 1)) w7 ∧
    μ2 (IntKind.i64.wrap (x3 + 1)) (IntKind.i64.wrap (x4 + 1)) w7 < μ2 x3 x4 w5) (I1 x3 (IntKind.i64.wrap (x4 + 1)) w7 ∧
    μ2 x3 (IntKind.i64.wrap (x4 + 1)) w7 < μ2 x3 x4 w5))) (I1 x3 (IntKind.i64.wrap (x4 + 1)) w5 ∧
    μ2 x3 (IntKind.i64.wrap (x4 + 1)) w5 < μ2 x3 x4 w5)) (R (.int .i64 x3) w5)
theorem B18_eq : @B18 = fun (x_0 : Slc) (x_1 : Int) (w : World) (R : Value → World → Prop) => trF Try.prog G (lk [(3, [(5, .int .i64), (6, .int .i64)])]) Try.f18 [.slice x_0.a x_0.len x_0.cap, .int .i64 x_1] w R := by kernel_rfl
theorem c18 (x_0 : Slc) (x_1 : Int) (w : World) (R : Value → World → Prop) (h : B18 x_0 x_1 w R) : Calls Try.prog 18 #[.slice x_0.a x_0.len x_0.cap, .int .i64 x_1] w (Rv R) := calls_of_tr (L := lk [(3, [(5, .int .i64), (6, .int .i64)])]) Try.func18 hG hM (by rw [B18_eq] at h; exact h)

/-- locution/locutionref04.Marks -/
def B20 (x_0 : Slc) (w : World) (R : Value → World → Prop) : Prop :=
  ∃ (I1 : Slc → Int → World → Prop) (μ2 : Slc → Int → World → Nat), I1 ⟨none, 0, 0⟩ (0 : Int) w ∧ ∀ x3 : Slc, ∀ x4 : Int, ∀ w5 : World, I1 x3 x4 w5 →
    br (decide (x4 < (x_0.len : Int))) (Calls Try.prog 18 #[.slice x_0.a x_0.len x_0.cap, .int .i64 x4] w5 (Rv fun v6 w7 => ∃ n8 : Int, v6 = .int .i64 n8 ∧
    ∃ w9 : World, ∃ l10 : Slc, (Builtin.append_ #[38, 38] 38 #[.slice x3.a x3.len x3.cap, .slice (some ⟨w7.heap.size, 0, none⟩) 1 1]).run Try.prog (w7.alloc (.cells #[.int .i64 n8] 3)) = .ok (.slice l10.a l10.len l10.cap) w9 ∧
    I1 l10 (IntKind.i64.wrap (x4 + 512)) w9 ∧
    μ2 l10 (IntKind.i64.wrap (x4 + 512)) w9 < μ2 x3 x4 w5)) (∃ w11 : World, ∃ l12 : Slc, (Builtin.append_ #[38, 38] 38 #[.slice (some ⟨w5.heap.size, 0, none⟩) 0 0, .slice x3.a x3.len x3.cap]).run Try.prog (w5.alloc (.cells #[] 3)) = .ok (.slice l12.a l12.len l12.cap) w11 ∧
    Calls Try.prog 18 #[.slice x_0.a x_0.len x_0.cap, .int .i64 (x_0.len : Int)] w11 (Rv fun v13 w14 => ∃ n15 : Int, v13 = .int .i64 n15 ∧
    ∃ w16 : World, ∃ l17 : Slc, (Builtin.append_ #[38, 38] 38 #[.slice l12.a l12.len l12.cap, .slice (some ⟨w14.heap.size, 0, none⟩) 1 1]).run Try.prog (w14.alloc (.cells #[.int .i64 n15] 3)) = .ok (.slice l17.a l17.len l17.cap) w16 ∧
    R (.slice l17.a l17.len l17.cap) w16))
theorem B20_eq : @B20 = fun (x_0 : Slc) (w : World) (R : Value → World → Prop) => trF Try.prog G (lk [(3, [(3, .slc), (4, .int .i64)])]) Try.f20 [.slice x_0.a x_0.len x_0.cap] w R := by kernel_rfl
theorem c20 (x_0 : Slc) (w : World) (R : Value → World → Prop) (h : B20 x_0 w R) : Calls Try.prog 20 #[.slice x_0.a x_0.len x_0.cap] w (Rv R) := calls_of_tr (L := lk [(3, [(3, .slc), (4, .int .i64)])]) Try.func20 hG hM (by rw [B20_eq] at h; exact h)

/-- locution/locutionref04.Ints -/
def B22 (x_0 : Slc) (x_1 : Slc) (w : World) (R : Value → World → Prop) : Prop :=
  br (!(decide ((x_0.len : Int) = (x_1.len : Int)))) (R (.bool false) w) (∃ (I1 : Int → World → Prop) (μ2 : Int → World → Nat), I1 (0 : Int) w ∧
    ∀ x3 : Int, ∀ w4 : World, I1 x3 w4 → br (decide (x3 < (x_0.len : Int))) (0 ≤ x3 ∧ x3 < (x_0.len : Int) ∧ ∃ a5, x_0.a = some a5 ∧
    ∃ n6 : Int, (World.drew w4).cell? (Addr.add a5 (x3.toNat * 1)) = some (.int .i64 n6) ∧ 0 ≤ x3 ∧ x3 < (x_1.len : Int) ∧ ∃ a7, x_1.a = some a7 ∧
    ∃ n8 : Int, (World.drew w4).cell? (Addr.add a7 (x3.toNat * 1)) = some (.int .i64 n8) ∧
    br (!(decide (n6 = n8))) (R (.bool false) (World.drew w4)) (I1 (IntKind.i64.wrap (x3 + 1)) (World.drew w4) ∧
    μ2 (IntKind.i64.wrap (x3 + 1)) (World.drew w4) < μ2 x3 w4)) (R (.bool true) w4))
theorem B22_eq : @B22 = fun (x_0 : Slc) (x_1 : Slc) (w : World) (R : Value → World → Prop) => trF Try.prog G (lk [(4, [(5, .int .i64)])]) Try.f22 [.slice x_0.a x_0.len x_0.cap, .slice x_1.a x_1.len x_1.cap] w R := by kernel_rfl
theorem c22 (x_0 : Slc) (x_1 : Slc) (w : World) (R : Value → World → Prop) (h : B22 x_0 x_1 w R) : Calls Try.prog 22 #[.slice x_0.a x_0.len x_0.cap, .slice x_1.a x_1.len x_1.cap] w (Rv R) := calls_of_tr (L := lk [(4, [(5, .int .i64)])]) Try.func22 hG hM (by rw [B22_eq] at h; exact h)

/-- locution/locutionref04.Row -/
def B49 (x_0 : Slc) (x_1 : Int) (x_2 : Int) (x_3 : Int) (w : World) (R : Value → World → Prop) : Prop :=
  ∃ (I1 : Slc → Int → World → Prop) (μ2 : Slc → Int → World → Nat), I1 ⟨none, 0, 0⟩ (0 : Int) w ∧ ∀ x3 : Slc, ∀ x4 : Int, ∀ w5 : World, I1 x3 x4 w5 →
    br (decide (x4 < x_1)) (∃ (I6 : Slc → Int → World → Prop) (μ7 : Slc → Int → World → Nat), I6 x3 (0 : Int) w5 ∧
    ∀ x8 : Slc, ∀ x9 : Int, ∀ w10 : World, I6 x8 x9 w10 → br (decide (x9 < (x_0.len : Int))) (0 ≤ x9 ∧ x9 < (x_0.len : Int) ∧ ∃ a11, x_0.a = some a11 ∧
    ∃ n12 : Int, w10.cell? (Addr.add a11 (x9.toNat * 1)) = some (.int .u64 n12) ∧
    Calls Try.prog 74 #[.slice x8.a x8.len x8.cap, .int .u64 n12, .int .i64 64] w10 (Rv fun v13 w14 => ∃ l15 : Slc, v13 = .slice l15.a l15.len l15.cap ∧
    I6 l15 (IntKind.i64.wrap (x9 + 1)) w14 ∧ μ7 l15 (IntKind.i64.wrap (x9 + 1)) w14 < μ7 x8 x9 w10)) (I1 x8 (IntKind.i64.wrap (x4 + 1)) w10 ∧
    μ2 x8 (IntKind.i64.wrap (x4 + 1)) w10 < μ2 x3 x4 w5)) (Calls Try.prog 74 #[.slice x3.a x3.len x3.cap, .int .u64 x_2, .int .i64 x_3] w5 (Rv fun v16 w17 =>
    ∃ l18 : Slc, v16 = .slice l18.a l18.len l18.cap ∧ R (.slice l18.a l18.len l18.cap) w17))
theorem B49_eq : @B49 = fun (x_0 : Slc) (x_1 : Int) (x_2 : Int) (x_3 : Int) (w : World) (R : Value → World → Prop) => trF Try.prog G (lk [(3, [(9, .slc), (10, .int .i64)]), (6, [(9, .slc), (11, .int .i64)])]) Try.f49 [.slice x_0.a x_0.len x_0.cap, .int .i64 x_1, .int .u64 x_2, .int .i64 x_3] w R := by kernel_rfl
theorem c49 (x_0 : Slc) (x_1 : Int) (x_2 : Int) (x_3 : Int) (w : World) (R : Value → World → Prop) (h : B49 x_0 x_1 x_2 x_3 w R) : Calls Try.prog 49 #[.slice x_0.a x_0.len x_0.cap, .int .i64 x_1, .int .u64 x_2, .int .i64 x_3] w (Rv R) := calls_of_tr (L := lk [(3, [(9, .slc), (10, .int .i64)]), (6, [(9, .slc), (11, .int .i64)])]) Try.func49 hG hM (by rw [B49_eq] at h; exact h)

/-- locution/locutionlaw04.DirRanks -/
def B3 (x0_0 : Slc) (x0_1 : Int) (x0_2 : Int) (x0_3 : Int) (x_1 : Int) (w : World) (R : Value → World → Prop) : Prop :=
  
    ∃ l1 : Slc, ∃ n2 : Int, ∃ n3 : Int, ∃ n4 : Int, (w.alloc (.cells #[.slice x0_0.a x0_0.len x0_0.cap, .int .u8 x0_1, .int .u64 x0_2, .int .u8 x0_3] 25)).cell? (Addr.add ⟨w.heap.size, 0, none⟩ 0) = some (.slice l1.a l1.len l1.cap) ∧
    (w.alloc (.cells #[.slice x0_0.a x0_0.len x0_0.cap, .int .u8 x0_1, .int .u64 x0_2, .int .u8 x0_3] 25)).cell? (Addr.add ⟨w.heap.size, 0, none⟩ 1) = some (.int .u8 n2) ∧
    (w.alloc (.cells #[.slice x0_0.a x0_0.len x0_0.cap, .int .u8 x0_1, .int .u64 x0_2, .int .u8 x0_3] 25)).cell? (Addr.add ⟨w.heap.size, 0, none⟩ 2) = some (.int .u64 n3) ∧
    (w.alloc (.cells #[.slice x0_0.a x0_0.len x0_0.cap, .int .u8 x0_1, .int .u64 x0_2, .int .u8 x0_3] 25)).cell? (Addr.add ⟨w.heap.size, 0, none⟩ 3) = some (.int .u8 n4) ∧
    Calls Try.prog 11 #[.agg #[.slice l1.a l1.len l1.cap, .int .u8 n2, .int .u64 n3, .int .u8 n4]] (w.alloc (.cells #[.slice x0_0.a x0_0.len x0_0.cap, .int .u8 x0_1, .int .u64 x0_2, .int .u8 x0_3] 25)) (Rv fun v5 w6 =>
    ∃ b7 : Bool, v5 = .bool b7 ∧ br (!b7) (Calls Try.prog 12 #[] w6 (Rv fun v8 w9 => ∃ b10 : Bool, v8 = .bool b10 ∧
    R (.bool b10) w9)) (∃ l11 : Slc, ∃ n12 : Int, ∃ n13 : Int, ∃ n14 : Int, w6.cell? (Addr.add ⟨w.heap.size, 0, none⟩ 0) = some (.slice l11.a l11.len l11.cap) ∧
    w6.cell? (Addr.add ⟨w.heap.size, 0, none⟩ 1) = some (.int .u8 n12) ∧ w6.cell? (Addr.add ⟨w.heap.size, 0, none⟩ 2) = some (.int .u64 n13) ∧
    w6.cell? (Addr.add ⟨w.heap.size, 0, none⟩ 3) = some (.int .u8 n14) ∧
    Calls Try.prog 14 #[.agg #[.slice l11.a l11.len l11.cap, .int .u8 n12, .int .u64 n13, .int .u8 n14]] w6 (Rv fun v15 w16 => ∃ p17 : Option Addr, v15 = .pointer p17 ∧
    Calls Try.prog 13 #[.pointer p17] w16 (Rv fun v18 w19 => ∃ p20 : Option Addr, v18 = .pointer p20 ∧
    ∃ l21 : Slc, ∃ n22 : Int, ∃ n23 : Int, ∃ n24 : Int, w19.cell? (Addr.add ⟨w.heap.size, 0, none⟩ 0) = some (.slice l21.a l21.len l21.cap) ∧
    w19.cell? (Addr.add ⟨w.heap.size, 0, none⟩ 1) = some (.int .u8 n22) ∧ w19.cell? (Addr.add ⟨w.heap.size, 0, none⟩ 2) = some (.int .u64 n23) ∧
    w19.cell? (Addr.add ⟨w.heap.size, 0, none⟩ 3) = some (.int .u8 n24) ∧
    Calls Try.prog 15 #[.agg #[.slice l21.a l21.len l21.cap, .int .u8 n22, .int .u64 n23, .int .u8 n24]] w19 (Rv fun v25 w26 =>
    ∃ l27 : Slc, v25 = .slice l27.a l27.len l27.cap ∧ Calls Try.prog 16 #[.pointer p20] w26 (Rv fun v28 w29 => ∃ n30 : Int, v28 = .int .i64 n30 ∧
    br (decide (n30 = (l27.len : Int))) (Calls Try.prog 17 #[.pointer p20, .int .i64 x_1] w29 (Rv fun v31 w32 => ∃ n33 : Int, v31 = .int .i64 n33 ∧
    Calls Try.prog 18 #[.slice l27.a l27.len l27.cap, .int .i64 x_1] w32 (Rv fun v34 w35 => ∃ n36 : Int, v34 = .int .i64 n36 ∧
    br (decide (n33 = n36)) (Calls Try.prog 19 #[.pointer p20, .int .i64 x_1] w35 (Rv fun v37 w38 => ∃ n39 : Int, v37 = .int .i64 n39 ∧
    Calls Try.prog 18 #[.slice l27.a l27.len l27.cap, .int .i64 x_1] w38 (Rv fun v40 w41 => ∃ n42 : Int, v40 = .int .i64 n42 ∧
    br (decide (n39 = (IntKind.i64.wrap ((min (max x_1 (0 : Int)) (l27.len : Int)) - n42)))) (Calls Try.prog 12 #[] w41 (Rv fun v43 w44 =>
    ∃ b45 : Bool, v43 = .bool b45 ∧ R (.bool b45) w44)) (R (.bool false) w41)))) (R (.bool false) w35)))) (R (.bool false) w29)))))))
theorem B3_eq : @B3 = fun (x0_0 : Slc) (x0_1 : Int) (x0_2 : Int) (x0_3 : Int) (x_1 : Int) (w : World) (R : Value → World → Prop) => trF Try.prog G (lk []) Try.f3 [.agg #[.slice x0_0.a x0_0.len x0_0.cap, .int .u8 x0_1, .int .u64 x0_2, .int .u8 x0_3], .int .i64 x_1] w R := by kernel_rfl
theorem c3 (x0_0 : Slc) (x0_1 : Int) (x0_2 : Int) (x0_3 : Int) (x_1 : Int) (w : World) (R : Value → World → Prop) (h : B3 x0_0 x0_1 x0_2 x0_3 x_1 w R) : Calls Try.prog 3 #[.agg #[.slice x0_0.a x0_0.len x0_0.cap, .int .u8 x0_1, .int .u64 x0_2, .int .u8 x0_3], .int .i64 x_1] w (Rv R) := calls_of_tr (L := lk []) Try.func3 hG hM (by rw [B3_eq] at h; exact h)

/-- locution/locutionlaw04.DirMarks -/
def B4 (x0_0 : Slc) (x0_1 : Int) (x0_2 : Int) (x0_3 : Int) (x_1 : Int) (w : World) (R : Value → World → Prop) : Prop :=
  
    ∃ l1 : Slc, ∃ n2 : Int, ∃ n3 : Int, ∃ n4 : Int, (w.alloc (.cells #[.slice x0_0.a x0_0.len x0_0.cap, .int .u8 x0_1, .int .u64 x0_2, .int .u8 x0_3] 25)).cell? (Addr.add ⟨w.heap.size, 0, none⟩ 0) = some (.slice l1.a l1.len l1.cap) ∧
    (w.alloc (.cells #[.slice x0_0.a x0_0.len x0_0.cap, .int .u8 x0_1, .int .u64 x0_2, .int .u8 x0_3] 25)).cell? (Addr.add ⟨w.heap.size, 0, none⟩ 1) = some (.int .u8 n2) ∧
    (w.alloc (.cells #[.slice x0_0.a x0_0.len x0_0.cap, .int .u8 x0_1, .int .u64 x0_2, .int .u8 x0_3] 25)).cell? (Addr.add ⟨w.heap.size, 0, none⟩ 2) = some (.int .u64 n3) ∧
    (w.alloc (.cells #[.slice x0_0.a x0_0.len x0_0.cap, .int .u8 x0_1, .int .u64 x0_2, .int .u8 x0_3] 25)).cell? (Addr.add ⟨w.heap.size, 0, none⟩ 3) = some (.int .u8 n4) ∧
    Calls Try.prog 11 #[.agg #[.slice l1.a l1.len l1.cap, .int .u8 n2, .int .u64 n3, .int .u8 n4]] (w.alloc (.cells #[.slice x0_0.a x0_0.len x0_0.cap, .int .u8 x0_1, .int .u64 x0_2, .int .u8 x0_3] 25)) (Rv fun v5 w6 =>
    ∃ b7 : Bool, v5 = .bool b7 ∧ br (!b7) (Calls Try.prog 12 #[] w6 (Rv fun v8 w9 => ∃ b10 : Bool, v8 = .bool b10 ∧
    R (.bool b10) w9)) (∃ l11 : Slc, ∃ n12 : Int, ∃ n13 : Int, ∃ n14 : Int, w6.cell? (Addr.add ⟨w.heap.size, 0, none⟩ 0) = some (.slice l11.a l11.len l11.cap) ∧
    w6.cell? (Addr.add ⟨w.heap.size, 0, none⟩ 1) = some (.int .u8 n12) ∧ w6.cell? (Addr.add ⟨w.heap.size, 0, none⟩ 2) = some (.int .u64 n13) ∧
    w6.cell? (Addr.add ⟨w.heap.size, 0, none⟩ 3) = some (.int .u8 n14) ∧
    Calls Try.prog 14 #[.agg #[.slice l11.a l11.len l11.cap, .int .u8 n12, .int .u64 n13, .int .u8 n14]] w6 (Rv fun v15 w16 => ∃ p17 : Option Addr, v15 = .pointer p17 ∧
    Calls Try.prog 13 #[.pointer p17] w16 (Rv fun v18 w19 => ∃ p20 : Option Addr, v18 = .pointer p20 ∧
    ∃ l21 : Slc, ∃ n22 : Int, ∃ n23 : Int, ∃ n24 : Int, w19.cell? (Addr.add ⟨w.heap.size, 0, none⟩ 0) = some (.slice l21.a l21.len l21.cap) ∧
    w19.cell? (Addr.add ⟨w.heap.size, 0, none⟩ 1) = some (.int .u8 n22) ∧ w19.cell? (Addr.add ⟨w.heap.size, 0, none⟩ 2) = some (.int .u64 n23) ∧
    w19.cell? (Addr.add ⟨w.heap.size, 0, none⟩ 3) = some (.int .u8 n24) ∧
    Calls Try.prog 15 #[.agg #[.slice l21.a l21.len l21.cap, .int .u8 n22, .int .u64 n23, .int .u8 n24]] w19 (Rv fun v25 w26 =>
    ∃ l27 : Slc, v25 = .slice l27.a l27.len l27.cap ∧ Calls Try.prog 20 #[.slice l27.a l27.len l27.cap] w26 (Rv fun v28 w29 =>
    ∃ l30 : Slc, v28 = .slice l30.a l30.len l30.cap ∧ Calls Try.prog 21 #[.pointer p20] w29 (Rv fun v31 w32 => ∃ l33 : Slc, v31 = .slice l33.a l33.len l33.cap ∧
    Calls Try.prog 22 #[.slice l33.a l33.len l33.cap, .slice l30.a l30.len l30.cap] w32 (Rv fun v34 w35 => ∃ b36 : Bool, v34 = .bool b36 ∧
    br (!b36) (R (.bool false) w35) (Calls Try.prog 23 #[.pointer p17, .int .u64 x_1, .int .i64 64] w35 (Rv fun v37 w38 => ∃ n39 : Int, v37 = .int .i64 n39 ∧
    br (!(decide (n39 = (0 : Int)))) (R (.bool false) w38) (∃ (I40 : Int → World → Prop) (μ41 : Int → World → Nat), I40 (0 : Int) w38 ∧
    ∀ x42 : Int, ∀ w43 : World, I40 x42 w43 → br (decide (x42 < (l33.len : Int))) (0 ≤ x42 ∧ x42 < (l33.len : Int) ∧ ∃ a44, l33.a = some a44 ∧
    (∃ u, w43.cell? (Addr.add a44 (x42.toNat * 1)) = some u) ∧ w43.frozen? (Addr.add a44 (x42.toNat * 1)) = false ∧
    I40 (IntKind.i64.wrap (x42 + 1)) (w43.setCell (Addr.add a44 (x42.toNat * 1)) (.int .i64 (-1))) ∧
    μ41 (IntKind.i64.wrap (x42 + 1)) (w43.setCell (Addr.add a44 (x42.toNat * 1)) (.int .i64 (-1))) < μ41 x42 w43) (Calls Try.prog 21 #[.pointer p20] (World.drew w43) (Rv fun v45 w46 =>
    ∃ l47 : Slc, v45 = .slice l47.a l47.len l47.cap ∧ Calls Try.prog 22 #[.slice l47.a l47.len l47.cap, .slice l30.a l30.len l30.cap] w46 (Rv fun v48 w49 =>
    ∃ b50 : Bool, v48 = .bool b50 ∧ br b50 (Calls Try.prog 16 #[.pointer p20] w49 (Rv fun v51 w52 => ∃ n53 : Int, v51 = .int .i64 n53 ∧
    br (decide (n53 = (l27.len : Int))) (Calls Try.prog 16 #[.pointer none] w52 (Rv fun v54 w55 => ∃ n56 : Int, v54 = .int .i64 n56 ∧
    br (decide (n56 = (0 : Int))) (Calls Try.prog 17 #[.pointer none, .int .i64 1] w55 (Rv fun v57 w58 => ∃ n59 : Int, v57 = .int .i64 n59 ∧
    br (decide (n59 = (0 : Int))) (Calls Try.prog 19 #[.pointer none, .int .i64 1] w58 (Rv fun v60 w61 => ∃ n62 : Int, v60 = .int .i64 n62 ∧
    br (decide (n62 = (0 : Int))) (Calls Try.prog 21 #[.pointer none] w61 (Rv fun v63 w64 => ∃ l65 : Slc, v63 = .slice l65.a l65.len l65.cap ∧
    br (decide ((l65.len : Int) = (0 : Int))) ((Calls Try.prog 13 #[.pointer none] w64 (Rv fun v66 w67 => ∃ p68 : Option Addr, v66 = .pointer p68 ∧
    (Calls Try.prog 21 #[.pointer p68] w67 (Rv fun v69 w70 => ∃ l71 : Slc, v69 = .slice l71.a l71.len l71.cap ∧
    Calls Try.prog 22 #[.slice l71.a l71.len l71.cap, .slice (some ⟨w70.heap.size, 0, none⟩) 1 1] (w70.alloc (.cells #[.int .i64 0] 3)) (Rv fun v72 w73 =>
    ∃ b74 : Bool, v72 = .bool b74 ∧ br b74 (0 ≤ (IntKind.i64.wrap ((l30.len : Int) - 1)) ∧ (IntKind.i64.wrap ((l30.len : Int) - 1)) < (l30.len : Int) ∧
    ∃ a75, l30.a = some a75 ∧ ∃ n76 : Int, w73.cell? (Addr.add a75 ((IntKind.i64.wrap ((l30.len : Int) - 1)).toNat * 1)) = some (.int .i64 n76) ∧
    Calls Try.prog 24 #[.slice l27.a l27.len l27.cap] w73 (Rv fun v77 w78 => ∃ n79 : Int, v77 = .int .i64 n79 ∧
    w78.cell? (Addr.add a75 ((IntKind.i64.wrap ((l30.len : Int) - 1)).toNat * 1)) = some (.int .i64 n76) ∧
    br (decide (n79 = n76)) (Calls Try.prog 12 #[] w78 (Rv fun v80 w81 => ∃ b82 : Bool, v80 = .bool b82 ∧
    R (.bool b82) w81)) (R (.bool false) w78))) (R (.bool false) w73)))) ∧ (Calls Try.prog 21 #[.pointer p68] (w67.alloc (.cells #[.int .i64 0] 3)) (Rv fun v83 w84 =>
    ∃ l85 : Slc, v83 = .slice l85.a l85.len l85.cap ∧
    Calls Try.prog 22 #[.slice l85.a l85.len l85.cap, .slice (some ⟨w67.heap.size, 0, none⟩) 1 1] w84 (Rv fun v86 w87 => ∃ b88 : Bool, v86 = .bool b88 ∧
    br b88 (0 ≤ (IntKind.i64.wrap ((l30.len : Int) - 1)) ∧ (IntKind.i64.wrap ((l30.len : Int) - 1)) < (l30.len : Int) ∧ ∃ a89, l30.a = some a89 ∧
    ∃ n90 : Int, w87.cell? (Addr.add a89 ((IntKind.i64.wrap ((l30.len : Int) - 1)).toNat * 1)) = some (.int .i64 n90) ∧
    Calls Try.prog 24 #[.slice l27.a l27.len l27.cap] w87 (Rv fun v91 w92 => ∃ n93 : Int, v91 = .int .i64 n93 ∧
    w92.cell? (Addr.add a89 ((IntKind.i64.wrap ((l30.len : Int) - 1)).toNat * 1)) = some (.int .i64 n90) ∧
    br (decide (n93 = n90)) (Calls Try.prog 12 #[] w92 (Rv fun v94 w95 => ∃ b96 : Bool, v94 = .bool b96 ∧
    R (.bool b96) w95)) (R (.bool false) w92))) (R (.bool false) w87)))))) ∧ (Calls Try.prog 13 #[.pointer none] (w64.alloc (.cells #[.int .i64 0] 3)) (Rv fun v97 w98 =>
    ∃ p99 : Option Addr, v97 = .pointer p99 ∧ Calls Try.prog 21 #[.pointer p99] w98 (Rv fun v100 w101 => ∃ l102 : Slc, v100 = .slice l102.a l102.len l102.cap ∧
    Calls Try.prog 22 #[.slice l102.a l102.len l102.cap, .slice (some ⟨w64.heap.size, 0, none⟩) 1 1] w101 (Rv fun v103 w104 => ∃ b105 : Bool, v103 = .bool b105 ∧
    br b105 (0 ≤ (IntKind.i64.wrap ((l30.len : Int) - 1)) ∧ (IntKind.i64.wrap ((l30.len : Int) - 1)) < (l30.len : Int) ∧ ∃ a106, l30.a = some a106 ∧
    ∃ n107 : Int, w104.cell? (Addr.add a106 ((IntKind.i64.wrap ((l30.len : Int) - 1)).toNat * 1)) = some (.int .i64 n107) ∧
    Calls Try.prog 24 #[.slice l27.a l27.len l27.cap] w104 (Rv fun v108 w109 => ∃ n110 : Int, v108 = .int .i64 n110 ∧
    w109.cell? (Addr.add a106 ((IntKind.i64.wrap ((l30.len : Int) - 1)).toNat * 1)) = some (.int .i64 n107) ∧
    br (decide (n110 = n107)) (Calls Try.prog 12 #[] w109 (Rv fun v111 w112 => ∃ b113 : Bool, v111 = .bool b113 ∧
    R (.bool b113) w112)) (R (.bool false) w109))) (R (.bool false) w104)))))) (((R (.bool false) w64) ∧ (R (.bool false) w64)) ∧
    (R (.bool false) w64)))) (((R (.bool false) w61) ∧ (R (.bool false) w61)) ∧ (R (.bool false) w61)))) (((R (.bool false) w58) ∧ (R (.bool false) w58)) ∧
    (R (.bool false) w58)))) (((R (.bool false) w55) ∧ (R (.bool false) w55)) ∧ (R (.bool false) w55)))) (((R (.bool false) w52) ∧ (R (.bool false) w52)) ∧
    (R (.bool false) w52)))) (((R (.bool false) w49) ∧ (R (.bool false) w49)) ∧ (R (.bool false) w49))))))))))))))))
theorem B4_eq : @B4 = fun (x0_0 : Slc) (x0_1 : Int) (x0_2 : Int) (x0_3 : Int) (x_1 : Int) (w : World) (R : Value → World → Prop) => trF Try.prog G (lk [(11, [(10, .int .i64)])]) Try.f4 [.agg #[.slice x0_0.a x0_0.len x0_0.cap, .int .u8 x0_1, .int .u64 x0_2, .int .u8 x0_3], .int .u64 x_1] w R := by kernel_rfl
theorem c4 (x0_0 : Slc) (x0_1 : Int) (x0_2 : Int) (x0_3 : Int) (x_1 : Int) (w : World) (R : Value → World → Prop) (h : B4 x0_0 x0_1 x0_2 x0_3 x_1 w R) : Calls Try.prog 4 #[.agg #[.slice x0_0.a x0_0.len x0_0.cap, .int .u8 x0_1, .int .u64 x0_2, .int .u8 x0_3], .int .u64 x_1] w (Rv R) := calls_of_tr (L := lk [(11, [(10, .int .i64)])]) Try.func4 hG hM (by rw [B4_eq] at h; exact h)

/-- locution/locutionlaw04.DirSteps -/
def B5 (x0_0 : Slc) (x0_1 : Int) (x0_2 : Int) (x0_3 : Int) (w : World) (R : Value → World → Prop) : Prop :=
  
    ∃ l1 : Slc, ∃ n2 : Int, ∃ n3 : Int, ∃ n4 : Int, (w.alloc (.cells #[.slice x0_0.a x0_0.len x0_0.cap, .int .u8 x0_1, .int .u64 x0_2, .int .u8 x0_3] 25)).cell? (Addr.add ⟨w.heap.size, 0, none⟩ 0) = some (.slice l1.a l1.len l1.cap) ∧
    (w.alloc (.cells #[.slice x0_0.a x0_0.len x0_0.cap, .int .u8 x0_1, .int .u64 x0_2, .int .u8 x0_3] 25)).cell? (Addr.add ⟨w.heap.size, 0, none⟩ 1) = some (.int .u8 n2) ∧
    (w.alloc (.cells #[.slice x0_0.a x0_0.len x0_0.cap, .int .u8 x0_1, .int .u64 x0_2, .int .u8 x0_3] 25)).cell? (Addr.add ⟨w.heap.size, 0, none⟩ 2) = some (.int .u64 n3) ∧
    (w.alloc (.cells #[.slice x0_0.a x0_0.len x0_0.cap, .int .u8 x0_1, .int .u64 x0_2, .int .u8 x0_3] 25)).cell? (Addr.add ⟨w.heap.size, 0, none⟩ 3) = some (.int .u8 n4) ∧
    Calls Try.prog 11 #[.agg #[.slice l1.a l1.len l1.cap, .int .u8 n2, .int .u64 n3, .int .u8 n4]] (w.alloc (.cells #[.slice x0_0.a x0_0.len x0_0.cap, .int .u8 x0_1, .int .u64 x0_2, .int .u8 x0_3] 25)) (Rv fun v5 w6 =>
    ∃ b7 : Bool, v5 = .bool b7 ∧ br (!b7) (Calls Try.prog 12 #[] w6 (Rv fun v8 w9 => ∃ b10 : Bool, v8 = .bool b10 ∧
    R (.bool b10) w9)) (∃ n11 : Int, w6.cell? (Addr.add ⟨w.heap.size, 0, none⟩ 1) = some (.int .u8 n11) ∧
    br (decide ((8 : Int) < n11)) (Calls Try.prog 12 #[] w6 (Rv fun v12 w13 => ∃ b14 : Bool, v12 = .bool b14 ∧
    R (.bool b14) w13)) (∃ l15 : Slc, ∃ n16 : Int, ∃ n17 : Int, ∃ n18 : Int, w6.cell? (Addr.add ⟨w.heap.size, 0, none⟩ 0) = some (.slice l15.a l15.len l15.cap) ∧
    w6.cell? (Addr.add ⟨w.heap.size, 0, none⟩ 1) = some (.int .u8 n16) ∧ w6.cell? (Addr.add ⟨w.heap.size, 0, none⟩ 2) = some (.int .u64 n17) ∧
    w6.cell? (Addr.add ⟨w.heap.size, 0, none⟩ 3) = some (.int .u8 n18) ∧
    Calls Try.prog 14 #[.agg #[.slice l15.a l15.len l15.cap, .int .u8 n16, .int .u64 n17, .int .u8 n18]] w6 (Rv fun v19 w20 => ∃ p21 : Option Addr, v19 = .pointer p21 ∧
    Calls Try.prog 13 #[.pointer p21] w20 (Rv fun v22 w23 => ∃ p24 : Option Addr, v22 = .pointer p24 ∧
    ∃ l25 : Slc, ∃ n26 : Int, ∃ n27 : Int, ∃ n28 : Int, w23.cell? (Addr.add ⟨w.heap.size, 0, none⟩ 0) = some (.slice l25.a l25.len l25.cap) ∧
    w23.cell? (Addr.add ⟨w.heap.size, 0, none⟩ 1) = some (.int .u8 n26) ∧ w23.cell? (Addr.add ⟨w.heap.size, 0, none⟩ 2) = some (.int .u64 n27) ∧
    w23.cell? (Addr.add ⟨w.heap.size, 0, none⟩ 3) = some (.int .u8 n28) ∧
    Calls Try.prog 15 #[.agg #[.slice l25.a l25.len l25.cap, .int .u8 n26, .int .u64 n27, .int .u8 n28]] w23 (Rv fun v29 w30 =>
    ∃ l31 : Slc, v29 = .slice l31.a l31.len l31.cap ∧ ∃ (I32 : Int → World → Prop) (μ33 : Int → World → Nat), I32 (0 : Int) w30 ∧
    ∀ x34 : Int, ∀ w35 : World, I32 x34 w35 →
    br (decide (x34 < (l31.len : Int))) (Calls Try.prog 17 #[.pointer p24, .int .i64 (IntKind.i64.wrap (x34 + 1))] w35 (Rv fun v36 w37 =>
    ∃ n38 : Int, v36 = .int .i64 n38 ∧ Calls Try.prog 17 #[.pointer p24, .int .i64 x34] w37 (Rv fun v39 w40 => ∃ n41 : Int, v39 = .int .i64 n41 ∧ 0 ≤ x34 ∧
    x34 < (l31.len : Int) ∧ ∃ a42, l31.a = some a42 ∧ ∃ b43 : Bool, w40.cell? (Addr.add a42 (x34.toNat * 1)) = some (.bool b43) ∧
    br (!((decide ((IntKind.i64.wrap (n38 - n41)) = (1 : Int))) == b43)) (R (.bool false) w40) (0 ≤ x34 ∧ x34 < (l31.len : Int) ∧ ∃ a44, l31.a = some a44 ∧
    ∃ b45 : Bool, w40.cell? (Addr.add a44 (x34.toNat * 1)) = some (.bool b45) ∧
    br (!((decide ((IntKind.i64.wrap (n38 - n41)) = (0 : Int))) == (!b45))) (R (.bool false) w40) (Calls Try.prog 17 #[.pointer p24, .int .i64 x34] w40 (Rv fun v46 w47 =>
    ∃ n48 : Int, v46 = .int .i64 n48 ∧ Calls Try.prog 19 #[.pointer p24, .int .i64 x34] w47 (Rv fun v49 w50 => ∃ n51 : Int, v49 = .int .i64 n51 ∧
    br (!(decide ((IntKind.i64.wrap (n48 + n51)) = x34))) (R (.bool false) w50) (I32 (IntKind.i64.wrap (x34 + 1)) w50 ∧
    μ33 (IntKind.i64.wrap (x34 + 1)) w50 < μ33 x34 w35)))))))) (Calls Try.prog 16 #[.pointer p24] w35 (Rv fun v52 w53 => ∃ n54 : Int, v52 = .int .i64 n54 ∧
    br (decide (n54 = (l31.len : Int))) (Calls Try.prog 12 #[] w53 (Rv fun v55 w56 => ∃ b57 : Bool, v55 = .bool b57 ∧ R (.bool b57) w56)) (R (.bool false) w53)))))))))
theorem B5_eq : @B5 = fun (x0_0 : Slc) (x0_1 : Int) (x0_2 : Int) (x0_3 : Int) (w : World) (R : Value → World → Prop) => trF Try.prog G (lk [(7, [(6, .int .i64)])]) Try.f5 [.agg #[.slice x0_0.a x0_0.len x0_0.cap, .int .u8 x0_1, .int .u64 x0_2, .int .u8 x0_3]] w R := by kernel_rfl
theorem c5 (x0_0 : Slc) (x0_1 : Int) (x0_2 : Int) (x0_3 : Int) (w : World) (R : Value → World → Prop) (h : B5 x0_0 x0_1 x0_2 x0_3 w R) : Calls Try.prog 5 #[.agg #[.slice x0_0.a x0_0.len x0_0.cap, .int .u8 x0_1, .int .u64 x0_2, .int .u8 x0_3]] w (Rv R) := calls_of_tr (L := lk [(7, [(6, .int .i64)])]) Try.func5 hG hM (by rw [B5_eq] at h; exact h)

/-- locution/locutionlaw04.Small -/
def B11 (x0_0 : Slc) (x0_1 : Int) (x0_2 : Int) (x0_3 : Int) (w : World) (R : Value → World → Prop) : Prop :=
  
    ∃ l1 : Slc, (w.alloc (.cells #[.slice x0_0.a x0_0.len x0_0.cap, .int .u8 x0_1, .int .u64 x0_2, .int .u8 x0_3] 25)).cell? (Addr.add ⟨w.heap.size, 0, none⟩ 0) = some (.slice l1.a l1.len l1.cap) ∧
    br (decide ((l1.len : Int) ≤ (6 : Int))) (∃ n2 : Int, (w.alloc (.cells #[.slice x0_0.a x0_0.len x0_0.cap, .int .u8 x0_1, .int .u64 x0_2, .int .u8 x0_3] 25)).cell? (Addr.add ⟨w.heap.size, 0, none⟩ 1) = some (.int .u8 n2) ∧
    br (decide (n2 ≤ (40 : Int))) (∃ n3 : Int, (w.alloc (.cells #[.slice x0_0.a x0_0.len x0_0.cap, .int .u8 x0_1, .int .u64 x0_2, .int .u8 x0_3] 25)).cell? (Addr.add ⟨w.heap.size, 0, none⟩ 3) = some (.int .u8 n3) ∧
    R (.bool (decide (n3 ≤ (64 : Int)))) (w.alloc (.cells #[.slice x0_0.a x0_0.len x0_0.cap, .int .u8 x0_1, .int .u64 x0_2, .int .u8 x0_3] 25))) (R (.bool false) (w.alloc (.cells #[.slice x0_0.a x0_0.len x0_0.cap, .int .u8 x0_1, .int .u64 x0_2, .int .u8 x0_3] 25)))) (R (.bool false) (w.alloc (.cells #[.slice x0_0.a x0_0.len x0_0.cap, .int .u8 x0_1, .int .u64 x0_2, .int .u8 x0_3] 25)))
theorem B11_eq : @B11 = fun (x0_0 : Slc) (x0_1 : Int) (x0_2 : Int) (x0_3 : Int) (w : World) (R : Value → World → Prop) => trF Try.prog G (lk []) Try.f11 [.agg #[.slice x0_0.a x0_0.len x0_0.cap, .int .u8 x0_1, .int .u64 x0_2, .int .u8 x0_3]] w R := by kernel_rfl
theorem c11 (x0_0 : Slc) (x0_1 : Int) (x0_2 : Int) (x0_3 : Int) (w : World) (R : Value → World → Prop) (h : B11 x0_0 x0_1 x0_2 x0_3 w R) : Calls Try.prog 11 #[.agg #[.slice x0_0.a x0_0.len x0_0.cap, .int .u8 x0_1, .int .u64 x0_2, .int .u8 x0_3]] w (Rv R) := calls_of_tr (L := lk []) Try.func11 hG hM (by rw [B11_eq] at h; exact h)

/-- locution/locutionlaw04.live -/
def B12  (w : World) (R : Value → World → Prop) : Prop :=
  Calls Try.prog 14 #[.agg #[.slice none 0 0, .int .u8 0, .int .u64 13, .int .u8 5]] w (Rv fun v1 w2 => ∃ p3 : Option Addr, v1 = .pointer p3 ∧
    Calls Try.prog 13 #[.pointer p3] w2 (Rv fun v4 w5 => ∃ p6 : Option Addr, v4 = .pointer p6 ∧ Calls Try.prog 17 #[.pointer p6, .int .i64 3] w5 (Rv fun v7 w8 =>
    ∃ n9 : Int, v7 = .int .i64 n9 ∧ br (decide (n9 = (2 : Int))) (Calls Try.prog 19 #[.pointer p6, .int .i64 3] w8 (Rv fun v10 w11 => ∃ n12 : Int, v10 = .int .i64 n12 ∧
    br (decide (n12 = (1 : Int))) (Calls Try.prog 17 #[.pointer p6, .int .i64 9] w11 (Rv fun v13 w14 => ∃ n15 : Int, v13 = .int .i64 n15 ∧
    br (decide (n15 = (3 : Int))) (Calls Try.prog 21 #[.pointer p6] w14 (Rv fun v16 w17 => ∃ l18 : Slc, v16 = .slice l18.a l18.len l18.cap ∧
    Calls Try.prog 22 #[.slice l18.a l18.len l18.cap, .slice (some ⟨w17.heap.size, 0, none⟩) 2 2] (w17.alloc (.cells #[.int .i64 0, .int .i64 3] 3)) (Rv fun v19 w20 =>
    ∃ b21 : Bool, v19 = .bool b21 ∧ br b21 (R (.bool true) w20) (R (.bool false) w20)))) (R (.bool false) w14))) (R (.bool false) w11))) (R (.bool false) w8))))
theorem B12_eq : @B12 = fun (w : World) (R : Value → World → Prop) => trF Try.prog G (lk []) Try.f12 [] w R := by kernel_rfl
theorem c12  (w : World) (R : Value → World → Prop) (h : B12  w R) : Calls Try.prog 12 #[] w (Rv R) := calls_of_tr (L := lk []) Try.func12 hG hM (by rw [B12_eq] at h; exact h)

/-- locution/locutionlaw04.Row -/
def B14 (x0_0 : Slc) (x0_1 : Int) (x0_2 : Int) (x0_3 : Int) (w : World) (R : Value → World → Prop) : Prop :=
  Calls Try.prog 47 #[] (w.alloc (.cells #[.slice x0_0.a x0_0.len x0_0.cap, .int .u8 x0_1, .int .u64 x0_2, .int .u8 x0_3] 25)) (Rv fun v1 w2 =>
    ∃ p3 : Option Addr, v1 = .pointer p3 ∧ ∃ (I4 : Int → World → Prop) (μ5 : Int → World → Nat), I4 (0 : Int) w2 ∧ ∀ x6 : Int, ∀ w7 : World, I4 x6 w7 →
    ∃ n8 : Int, w7.cell? (Addr.add ⟨w.heap.size, 0, none⟩ 1) = some (.int .u8 n8) ∧ br (decide (x6 < (IntKind.i64.wrap n8))) (∃ (I9 : Int → World →
    Prop) (μ10 : Int → World → Nat), I9 (0 : Int) w7 ∧ ∀ x11 : Int, ∀ w12 : World, I9 x11 w12 →
    ∃ l13 : Slc, w12.cell? (Addr.add ⟨w.heap.size, 0, none⟩ 0) = some (.slice l13.a l13.len l13.cap) ∧
    br (decide (x11 < (l13.len : Int))) (∃ l14 : Slc, w12.cell? (Addr.add ⟨w.heap.size, 0, none⟩ 0) = some (.slice l14.a l14.len l14.cap) ∧ 0 ≤ x11 ∧
    x11 < (l14.len : Int) ∧ ∃ a15, l14.a = some a15 ∧ ∃ n16 : Int, w12.cell? (Addr.add a15 (x11.toNat * 1)) = some (.int .u64 n16) ∧
    Calls Try.prog 23 #[.pointer p3, .int .u64 n16, .int .i64 64] w12 (Rv fun v17 w18 => ∃ n19 : Int, v17 = .int .i64 n19 ∧ I9 (IntKind.i64.wrap (x11 + 1)) w18 ∧
    μ10 (IntKind.i64.wrap (x11 + 1)) w18 < μ10 x11 w12)) (I4 (IntKind.i64.wrap (x6 + 1)) w12 ∧
    μ5 (IntKind.i64.wrap (x6 + 1)) w12 < μ5 x6 w7)) (∃ n20 : Int, (World.drew w7).cell? (Addr.add ⟨w.heap.size, 0, none⟩ 2) = some (.int .u64 n20) ∧
    ∃ n21 : Int, (World.drew w7).cell? (Addr.add ⟨w.heap.size, 0, none⟩ 3) = some (.int .u8 n21) ∧
    ∃ n22 : Int, (World.drew w7).cell? (Addr.add ⟨w.heap.size, 0, none⟩ 3) = some (.int .u8 n22) ∧
    Calls Try.prog 48 #[.int .u64 n20, .int .i64 0, .int .i64 (IntKind.i64.wrap n21)] (World.drew w7) (Rv fun v23 w24 => ∃ n25 : Int, v23 = .int .u64 n25 ∧
    w24.cell? (Addr.add ⟨w.heap.size, 0, none⟩ 3) = some (.int .u8 n22) ∧
    Calls Try.prog 23 #[.pointer p3, .int .u64 n25, .int .i64 (IntKind.i64.wrap n22)] w24 (Rv fun v26 w27 => ∃ n28 : Int, v26 = .int .i64 n28 ∧ R (.pointer p3) w27))))
theorem B14_eq : @B14 = fun (x0_0 : Slc) (x0_1 : Int) (x0_2 : Int) (x0_3 : Int) (w : World) (R : Value → World → Prop) => trF Try.prog G (lk [(3, [(4, .int .i64)]), (6, [(5, .int .i64)])]) Try.f14 [.agg #[.slice x0_0.a x0_0.len x0_0.cap, .int .u8 x0_1, .int .u64 x0_2, .int .u8 x0_3]] w R := by kernel_rfl
theorem c14 (x0_0 : Slc) (x0_1 : Int) (x0_2 : Int) (x0_3 : Int) (w : World) (R : Value → World → Prop) (h : B14 x0_0 x0_1 x0_2 x0_3 w R) : Calls Try.prog 14 #[.agg #[.slice x0_0.a x0_0.len x0_0.cap, .int .u8 x0_1, .int .u64 x0_2, .int .u8 x0_3]] w (Rv R) := calls_of_tr (L := lk [(3, [(4, .int .i64)]), (6, [(5, .int .i64)])]) Try.func14 hG hM (by rw [B14_eq] at h; exact h)

/-- locution/locutionlaw04.Bits -/
def B15 (x0_0 : Slc) (x0_1 : Int) (x0_2 : Int) (x0_3 : Int) (w : World) (R : Value → World → Prop) : Prop :=
  
    ∃ l1 : Slc, (World.drew (w.alloc (.cells #[.slice x0_0.a x0_0.len x0_0.cap, .int .u8 x0_1, .int .u64 x0_2, .int .u8 x0_3] 25))).cell? (Addr.add ⟨w.heap.size, 0, none⟩ 0) = some (.slice l1.a l1.len l1.cap) ∧
    ∃ n2 : Int, (World.drew (w.alloc (.cells #[.slice x0_0.a x0_0.len x0_0.cap, .int .u8 x0_1, .int .u64 x0_2, .int .u8 x0_3] 25))).cell? (Addr.add ⟨w.heap.size, 0, none⟩ 1) = some (.int .u8 n2) ∧
    ∃ n3 : Int, (World.drew (w.alloc (.cells #[.slice x0_0.a x0_0.len x0_0.cap, .int .u8 x0_1, .int .u64 x0_2, .int .u8 x0_3] 25))).cell? (Addr.add ⟨w.heap.size, 0, none⟩ 2) = some (.int .u64 n3) ∧
    ∃ n4 : Int, (World.drew (w.alloc (.cells #[.slice x0_0.a x0_0.len x0_0.cap, .int .u8 x0_1, .int .u64 x0_2, .int .u8 x0_3] 25))).cell? (Addr.add ⟨w.heap.size, 0, none⟩ 3) = some (.int .u8 n4) ∧
    ∃ n5 : Int, (World.drew (w.alloc (.cells #[.slice x0_0.a x0_0.len x0_0.cap, .int .u8 x0_1, .int .u64 x0_2, .int .u8 x0_3] 25))).cell? (Addr.add ⟨w.heap.size, 0, none⟩ 3) = some (.int .u8 n5) ∧
    Calls Try.prog 48 #[.int .u64 n3, .int .i64 0, .int .i64 (IntKind.i64.wrap n4)] (World.drew (w.alloc (.cells #[.slice x0_0.a x0_0.len x0_0.cap, .int .u8 x0_1, .int .u64 x0_2, .int .u8 x0_3] 25))) (Rv fun v6 w7 =>
    ∃ n8 : Int, v6 = .int .u64 n8 ∧ w7.cell? (Addr.add ⟨w.heap.size, 0, none⟩ 3) = some (.int .u8 n5) ∧
    w7.cell? (Addr.add ⟨w.heap.size, 0, none⟩ 1) = some (.int .u8 n2) ∧ w7.cell? (Addr.add ⟨w.heap.size, 0, none⟩ 0) = some (.slice l1.a l1.len l1.cap) ∧
    Calls Try.prog 49 #[.slice l1.a l1.len l1.cap, .int .i64 (IntKind.i64.wrap n2), .int .u64 n8, .int .i64 (IntKind.i64.wrap n5)] w7 (Rv fun v9 w10 =>
    ∃ l11 : Slc, v9 = .slice l11.a l11.len l11.cap ∧ R (.slice l11.a l11.len l11.cap) w10))
theorem B15_eq : @B15 = fun (x0_0 : Slc) (x0_1 : Int) (x0_2 : Int) (x0_3 : Int) (w : World) (R : Value → World → Prop) => trF Try.prog G (lk []) Try.f15 [.agg #[.slice x0_0.a x0_0.len x0_0.cap, .int .u8 x0_1, .int .u64 x0_2, .int .u8 x0_3]] w R := by kernel_rfl
theorem c15 (x0_0 : Slc) (x0_1 : Int) (x0_2 : Int) (x0_3 : Int) (w : World) (R : Value → World → Prop) (h : B15 x0_0 x0_1 x0_2 x0_3 w R) : Calls Try.prog 15 #[.agg #[.slice x0_0.a x0_0.len x0_0.cap, .int .u8 x0_1, .int .u64 x0_2, .int .u8 x0_3]] w (Rv R) := calls_of_tr (L := lk []) Try.func15 hG hM (by rw [B15_eq] at h; exact h)

/-- slices.Clone[[]int,int] -/
def B52 (x_0 : Slc) (w : World) (R : Value → World → Prop) : Prop :=
  
    br x_0.a.isNone (R (.slice none 0 0) w) (∃ w1 : World, ∃ l2 : Slc, (Builtin.append_ #[38, 38] 38 #[.slice (some ⟨w.heap.size, 0, none⟩) 0 0, .slice x_0.a x_0.len x_0.cap]).run Try.prog (w.alloc (.cells #[] 3)) = .ok (.slice l2.a l2.len l2.cap) w1 ∧
    R (.slice l2.a l2.len l2.cap) w1)
theorem B52_eq : @B52 = fun (x_0 : Slc) (w : World) (R : Value → World → Prop) => trF Try.prog G (lk []) Try.f52 [.slice x_0.a x_0.len x_0.cap] w R := by kernel_rfl
theorem c52 (x_0 : Slc) (w : World) (R : Value → World → Prop) (h : B52 x_0 w R) : Calls Try.prog 52 #[.slice x_0.a x_0.len x_0.cap] w (Rv R) := calls_of_tr (L := lk []) Try.func52 hG hM (by rw [B52_eq] at h; exact h)

/-- (*locution/rankdir.Dir).Len -/
def B16n  (w : World) (R : Value → World → Prop) : Prop :=
  R (.int .i64 0) w
theorem B16n_eq : @B16n = fun (w : World) (R : Value → World → Prop) => trF Try.prog G (lk []) Try.f16 [.pointer none] w R := by kernel_rfl
theorem c16n  (w : World) (R : Value → World → Prop) (h : B16n  w R) : Calls Try.prog 16 #[.pointer none] w (Rv R) := calls_of_tr (L := lk []) Try.func16 hG hM (by rw [B16n_eq] at h; exact h)

/-- (*locution/rankdir.Dir).Rank -/
def B17n (x_1 : Int) (w : World) (R : Value → World → Prop) : Prop :=
  R (.int .i64 0) w
theorem B17n_eq : @B17n = fun (x_1 : Int) (w : World) (R : Value → World → Prop) => trF Try.prog G (lk []) Try.f17 [.pointer none, .int .i64 x_1] w R := by kernel_rfl
theorem c17n (x_1 : Int) (w : World) (R : Value → World → Prop) (h : B17n x_1 w R) : Calls Try.prog 17 #[.pointer none, .int .i64 x_1] w (Rv R) := calls_of_tr (L := lk []) Try.func17 hG hM (by rw [B17n_eq] at h; exact h)

/-- (*locution/rankdir.Dir).Zeros -/
def B19n (x_1 : Int) (w : World) (R : Value → World → Prop) : Prop :=
  Calls Try.prog 16 #[.pointer none] w (Rv fun v1 w2 => ∃ n3 : Int, v1 = .int .i64 n3 ∧ Calls Try.prog 17 #[.pointer none, .int .i64 x_1] w2 (Rv fun v4 w5 =>
    ∃ n6 : Int, v4 = .int .i64 n6 ∧ R (.int .i64 (IntKind.i64.wrap ((min (max x_1 (0 : Int)) n3) - n6))) w5))
theorem B19n_eq : @B19n = fun (x_1 : Int) (w : World) (R : Value → World → Prop) => trF Try.prog G (lk []) Try.f19 [.pointer none, .int .i64 x_1] w R := by kernel_rfl
theorem c19n (x_1 : Int) (w : World) (R : Value → World → Prop) (h : B19n x_1 w R) : Calls Try.prog 19 #[.pointer none, .int .i64 x_1] w (Rv R) := calls_of_tr (L := lk []) Try.func19 hG hM (by rw [B19n_eq] at h; exact h)

/-- (*locution/rankdir.Dir).Marks -/
def B21n  (w : World) (R : Value → World → Prop) : Prop :=
  R (.slice none 0 0) w
theorem B21n_eq : @B21n = fun (w : World) (R : Value → World → Prop) => trF Try.prog G (lk []) Try.f21 [.pointer none] w R := by kernel_rfl
theorem c21n  (w : World) (R : Value → World → Prop) (h : B21n  w R) : Calls Try.prog 21 #[.pointer none] w (Rv R) := calls_of_tr (L := lk []) Try.func21 hG hM (by rw [B21n_eq] at h; exact h)

/-- locution/rankdir.New -/
def B13n  (w : World) (R : Value → World → Prop) : Prop :=
  Calls Try.prog 44 #[.pointer none] w (Rv fun v1 w2 => ∃ l3 : Slc, v1 = .slice l3.a l3.len l3.cap ∧ Calls Try.prog 45 #[.pointer none] w2 (Rv fun v4 w5 =>
    ∃ n6 : Int, v4 = .int .i64 n6 ∧
    ∃ l7 : Slc, (w5.alloc (.cells #[.slice l3.a l3.len l3.cap, .slice none 0 0, .slice none 0 0, .int .i64 n6] 69)).cell? (Addr.add ⟨w5.heap.size, 0, none⟩ 0) = some (.slice l7.a l7.len l7.cap) ∧
    ∃ w8 : World, ∃ l9 : Slc, (Instr.makeSlice 67 (.int .i64 (l7.len : Int)) (.int .i64 (l7.len : Int))).run Try.prog (w5.alloc (.cells #[.slice l3.a l3.len l3.cap, .slice none 0 0, .slice none 0 0, .int .i64 n6] 69)) = .ok (.slice l9.a l9.len l9.cap) w8 ∧
    (∃ u, w8.cell? (Addr.add ⟨w5.heap.size, 0, none⟩ 2) = some u) ∧ w8.frozen? (Addr.add ⟨w5.heap.size, 0, none⟩ 2) = false ∧
    ∃ l10 : Slc, (w8.setCell (Addr.add ⟨w5.heap.size, 0, none⟩ 2) (.slice l9.a l9.len l9.cap)).cell? (Addr.add ⟨w5.heap.size, 0, none⟩ 0) = some (.slice l10.a l10.len l10.cap) ∧
    ∃ (I11 : Int → Int → Int → World → Prop) (μ12 : Int → Int → Int → World →
    Nat), I11 (0 : Int) (0 : Int) (0 : Int) (w8.setCell (Addr.add ⟨w5.heap.size, 0, none⟩ 2) (.slice l9.a l9.len l9.cap)) ∧
    ∀ x13 : Int, ∀ x14 : Int, ∀ x15 : Int, ∀ w16 : World, I11 x13 x14 x15 w16 → br (decide (x15 < (l10.len : Int))) ((8 : Int) ≠ 0 ∧
    br (decide ((Int.tmod x15 8) = (0 : Int))) (∃ l17 : Slc, w16.cell? (Addr.add ⟨w5.heap.size, 0, none⟩ 1) = some (.slice l17.a l17.len l17.cap) ∧
    ∃ w18 : World, ∃ l19 : Slc, (Builtin.append_ #[38, 38] 38 #[.slice l17.a l17.len l17.cap, .slice (some ⟨w16.heap.size, 0, none⟩) 1 1]).run Try.prog (w16.alloc (.cells #[.int .i64 x13] 3)) = .ok (.slice l19.a l19.len l19.cap) w18 ∧
    (∃ u, w18.cell? (Addr.add ⟨w5.heap.size, 0, none⟩ 1) = some u) ∧ w18.frozen? (Addr.add ⟨w5.heap.size, 0, none⟩ 1) = false ∧
    ∃ l20 : Slc, (w18.setCell (Addr.add ⟨w5.heap.size, 0, none⟩ 1) (.slice l19.a l19.len l19.cap)).cell? (Addr.add ⟨w5.heap.size, 0, none⟩ 2) = some (.slice l20.a l20.len l20.cap) ∧
    0 ≤ x15 ∧ x15 < (l20.len : Int) ∧ ∃ a21, l20.a = some a21 ∧
    (∃ u, (w18.setCell (Addr.add ⟨w5.heap.size, 0, none⟩ 1) (.slice l19.a l19.len l19.cap)).cell? (Addr.add a21 (x15.toNat * 1)) = some u) ∧
    (w18.setCell (Addr.add ⟨w5.heap.size, 0, none⟩ 1) (.slice l19.a l19.len l19.cap)).frozen? (Addr.add a21 (x15.toNat * 1)) = false ∧
    ∃ l22 : Slc, ((w18.setCell (Addr.add ⟨w5.heap.size, 0, none⟩ 1) (.slice l19.a l19.len l19.cap)).setCell (Addr.add a21 (x15.toNat * 1)) (.int .u16 (IntKind.u16.wrap (0 : Int)))).cell? (Addr.add ⟨w5.heap.size, 0, none⟩ 0) = some (.slice l22.a l22.len l22.cap) ∧
    0 ≤ x15 ∧ x15 < (l22.len : Int) ∧ ∃ a23, l22.a = some a23 ∧
    ∃ n24 : Int, ((w18.setCell (Addr.add ⟨w5.heap.size, 0, none⟩ 1) (.slice l19.a l19.len l19.cap)).setCell (Addr.add a21 (x15.toNat * 1)) (.int .u16 (IntKind.u16.wrap (0 : Int)))).cell? (Addr.add a23 (x15.toNat * 1)) = some (.int .u64 n24) ∧
    Calls Try.prog 46 #[.int .u64 n24] ((w18.setCell (Addr.add ⟨w5.heap.size, 0, none⟩ 1) (.slice l19.a l19.len l19.cap)).setCell (Addr.add a21 (x15.toNat * 1)) (.int .u16 (IntKind.u16.wrap (0 : Int)))) (Rv fun v25 w26 =>
    ∃ n27 : Int, v25 = .int .i64 n27 ∧ I11 (IntKind.i64.wrap (x13 + n27)) (IntKind.i64.wrap (0 + n27)) (IntKind.i64.wrap (x15 + 1)) w26 ∧
    μ12 (IntKind.i64.wrap (x13 + n27)) (IntKind.i64.wrap (0 + n27)) (IntKind.i64.wrap (x15 + 1)) w26 < μ12 x13 x14 x15 w16)) (∃ l28 : Slc, w16.cell? (Addr.add ⟨w5.heap.size, 0, none⟩ 2) = some (.slice l28.a l28.len l28.cap) ∧
    0 ≤ x15 ∧ x15 < (l28.len : Int) ∧ ∃ a29, l28.a = some a29 ∧ (∃ u, w16.cell? (Addr.add a29 (x15.toNat * 1)) = some u) ∧
    w16.frozen? (Addr.add a29 (x15.toNat * 1)) = false ∧
    ∃ l30 : Slc, (w16.setCell (Addr.add a29 (x15.toNat * 1)) (.int .u16 (IntKind.u16.wrap x14))).cell? (Addr.add ⟨w5.heap.size, 0, none⟩ 0) = some (.slice l30.a l30.len l30.cap) ∧
    0 ≤ x15 ∧ x15 < (l30.len : Int) ∧ ∃ a31, l30.a = some a31 ∧
    ∃ n32 : Int, (w16.setCell (Addr.add a29 (x15.toNat * 1)) (.int .u16 (IntKind.u16.wrap x14))).cell? (Addr.add a31 (x15.toNat * 1)) = some (.int .u64 n32) ∧
    Calls Try.prog 46 #[.int .u64 n32] (w16.setCell (Addr.add a29 (x15.toNat * 1)) (.int .u16 (IntKind.u16.wrap x14))) (Rv fun v33 w34 =>
    ∃ n35 : Int, v33 = .int .i64 n35 ∧ I11 (IntKind.i64.wrap (x13 + n35)) (IntKind.i64.wrap (x14 + n35)) (IntKind.i64.wrap (x15 + 1)) w34 ∧
    μ12 (IntKind.i64.wrap (x13 + n35)) (IntKind.i64.wrap (x14 + n35)) (IntKind.i64.wrap (x15 + 1)) w34 < μ12 x13 x14 x15 w16))) (∃ l36 : Slc, w16.cell? (Addr.add ⟨w5.heap.size, 0, none⟩ 1) = some (.slice l36.a l36.len l36.cap) ∧
    ∃ w37 : World, ∃ l38 : Slc, (Builtin.append_ #[38, 38] 38 #[.slice l36.a l36.len l36.cap, .slice (some ⟨w16.heap.size, 0, none⟩) 1 1]).run Try.prog (w16.alloc (.cells #[.int .i64 x13] 3)) = .ok (.slice l38.a l38.len l38.cap) w37 ∧
    (∃ u, w37.cell? (Addr.add ⟨w5.heap.size, 0, none⟩ 1) = some u) ∧ w37.frozen? (Addr.add ⟨w5.heap.size, 0, none⟩ 1) = false ∧
    R (.pointer (some ⟨w5.heap.size, 0, none⟩)) (w37.setCell (Addr.add ⟨w5.heap.size, 0, none⟩ 1) (.slice l38.a l38.len l38.cap)))))
theorem B13n_eq : @B13n = fun (w : World) (R : Value → World → Prop) => trF Try.prog G (lk [(5, [(4, .int .i64), (5, .int .i64), (28, .int .i64)])]) Try.f13 [.pointer none] w R := by kernel_rfl
theorem c13n  (w : World) (R : Value → World → Prop) (h : B13n  w R) : Calls Try.prog 13 #[.pointer none] w (Rv R) := calls_of_tr (L := lk [(5, [(4, .int .i64), (5, .int .i64), (28, .int .i64)])]) Try.func13 hG hM (by rw [B13n_eq] at h; exact h)

end Go.Proofs.Ytilccklocaeebaa.V
