/- The verification conditions of functions, printed by a program of this work (pr.py) and checked here by the kernel. -/
import Derived.Test.YtilccklocaeebaaBD
set_option maxRecDepth 100000
set_option linter.unusedVariables false
namespace Go.Proofs.Ytilccklocaeebaa.V
open Go Go.VC

/-- locution/seldir.New -/
def B38 (a_0 : Addr) (w : World) (R : Value → World → Prop) : Prop :=
  Calls Try.prog 44 #[.pointer (some a_0)] w (Rv fun v1 w2 => ∃ l3 : Slc, v1 = .slice l3.a l3.len l3.cap ∧ Calls Try.prog 13 #[.pointer (some a_0)] w2 (Rv fun v4 w5 =>
    ∃ p6 : Option Addr, v4 = .pointer p6 ∧ Calls Try.prog 45 #[.pointer (some a_0)] w5 (Rv fun v7 w8 => ∃ n9 : Int, v7 = .int .i64 n9 ∧
    ∃ l10 : Slc, (w8.alloc (.cells #[.slice l3.a l3.len l3.cap, .pointer p6, .slice none 0 0, .slice none 0 0, .int .i64 n9] 97)).cell? (Addr.add ⟨w8.heap.size, 0, none⟩ 0) = some (.slice l10.a l10.len l10.cap) ∧
    ∃ (I11 : Int → Int → Int → World → Prop) (μ12 : Int → Int → Int → World →
    Nat), I11 (0 : Int) (0 : Int) (0 : Int) (w8.alloc (.cells #[.slice l3.a l3.len l3.cap, .pointer p6, .slice none 0 0, .slice none 0 0, .int .i64 n9] 97)) ∧
    ∀ x13 : Int, ∀ x14 : Int, ∀ x15 : Int, ∀ w16 : World, I11 x13 x14 x15 w16 →
    br (decide (x15 < (l10.len : Int))) (∃ l17 : Slc, w16.cell? (Addr.add ⟨w8.heap.size, 0, none⟩ 0) = some (.slice l17.a l17.len l17.cap) ∧ 0 ≤ x15 ∧
    x15 < (l17.len : Int) ∧ ∃ a18, l17.a = some a18 ∧ ∃ n19 : Int, w16.cell? (Addr.add a18 (x15.toNat * 1)) = some (.int .u64 n19) ∧
    Calls Try.prog 46 #[.int .u64 n19] w16 (Rv fun v20 w21 => ∃ n22 : Int, v20 = .int .i64 n22 ∧
    ∃ n23 : Int, w21.cell? (Addr.add ⟨w8.heap.size, 0, none⟩ 4) = some (.int .i64 n23) ∧ ∃ (I24 : World → Prop) (μ25 : World → Nat), I24 w21 ∧
    ∀ w26 : World, I24 w26 → ∃ l27 : Slc, w26.cell? (Addr.add ⟨w8.heap.size, 0, none⟩ 2) = some (.slice l27.a l27.len l27.cap) ∧
    br (decide ((IntKind.i64.wrap ((l27.len : Int) * 64)) < (IntKind.i64.wrap (x13 + n22)))) (∃ l28 : Slc, w26.cell? (Addr.add ⟨w8.heap.size, 0, none⟩ 2) = some (.slice l28.a l28.len l28.cap) ∧
    ∃ w29 : World, ∃ l30 : Slc, (Builtin.append_ #[95, 95] 95 #[.slice l28.a l28.len l28.cap, .slice (some ⟨w26.heap.size, 0, none⟩) 1 1]).run Try.prog (w26.alloc (.cells #[.int .i32 (IntKind.i32.wrap x15)] 21)) = .ok (.slice l30.a l30.len l30.cap) w29 ∧
    (∃ u, w29.cell? (Addr.add ⟨w8.heap.size, 0, none⟩ 2) = some u) ∧ w29.frozen? (Addr.add ⟨w8.heap.size, 0, none⟩ 2) = false ∧
    I24 (w29.setCell (Addr.add ⟨w8.heap.size, 0, none⟩ 2) (.slice l30.a l30.len l30.cap)) ∧
    μ25 (w29.setCell (Addr.add ⟨w8.heap.size, 0, none⟩ 2) (.slice l30.a l30.len l30.cap)) < μ25 w26) (∃ (I31 : World → Prop) (μ32 : World → Nat), I31 w26 ∧
    ∀ w33 : World, I31 w33 → ∃ l34 : Slc, w33.cell? (Addr.add ⟨w8.heap.size, 0, none⟩ 3) = some (.slice l34.a l34.len l34.cap) ∧
    br (decide ((IntKind.i64.wrap ((l34.len : Int) * 64)) < (IntKind.i64.wrap (x14 + (IntKind.i64.wrap ((min (64 : Int) (IntKind.i64.wrap (n23 - (IntKind.i64.wrap (x15 * 64))))) - n22)))))) (∃ l35 : Slc, w33.cell? (Addr.add ⟨w8.heap.size, 0, none⟩ 3) = some (.slice l35.a l35.len l35.cap) ∧
    ∃ w36 : World, ∃ l37 : Slc, (Builtin.append_ #[95, 95] 95 #[.slice l35.a l35.len l35.cap, .slice (some ⟨w33.heap.size, 0, none⟩) 1 1]).run Try.prog (w33.alloc (.cells #[.int .i32 (IntKind.i32.wrap x15)] 21)) = .ok (.slice l37.a l37.len l37.cap) w36 ∧
    (∃ u, w36.cell? (Addr.add ⟨w8.heap.size, 0, none⟩ 3) = some u) ∧ w36.frozen? (Addr.add ⟨w8.heap.size, 0, none⟩ 3) = false ∧
    I31 (w36.setCell (Addr.add ⟨w8.heap.size, 0, none⟩ 3) (.slice l37.a l37.len l37.cap)) ∧
    μ32 (w36.setCell (Addr.add ⟨w8.heap.size, 0, none⟩ 3) (.slice l37.a l37.len l37.cap)) < μ32 w33) (I11 (IntKind.i64.wrap (x13 + n22)) (IntKind.i64.wrap (x14 + (IntKind.i64.wrap ((min (64 : Int) (IntKind.i64.wrap (n23 - (IntKind.i64.wrap (x15 * 64))))) - n22)))) (IntKind.i64.wrap (x15 + 1)) w33 ∧
    μ12 (IntKind.i64.wrap (x13 + n22)) (IntKind.i64.wrap (x14 + (IntKind.i64.wrap ((min (64 : Int) (IntKind.i64.wrap (n23 - (IntKind.i64.wrap (x15 * 64))))) - n22)))) (IntKind.i64.wrap (x15 + 1)) w33 < μ12 x13 x14 x15 w16)))) (R (.pointer (some ⟨w8.heap.size, 0, none⟩)) w16))))
theorem B38_eq : @B38 = fun (a_0 : Addr) (w : World) (R : Value → World → Prop) => trF Try.prog G (lk [(4, [(4, .int .i64), (5, .int .i64), (22, .int .i64)]), (8, []), (10, [])]) Try.f38 [.pointer (some a_0)] w R := by kernel_rfl
theorem c38 (a_0 : Addr) (w : World) (R : Value → World → Prop) (h : B38 a_0 w R) : Calls Try.prog 38 #[.pointer (some a_0)] w (Rv R) := calls_of_tr (L := lk [(4, [(4, .int .i64), (5, .int .i64), (22, .int .i64)]), (8, []), (10, [])]) Try.func38 hG hM (by rw [B38_eq] at h; exact h)

/-- (*locution/seldir.Dir).Ones -/
def B40 (a_0 : Addr) (w : World) (R : Value → World → Prop) : Prop :=
  ∃ p1 : Option Addr, (World.drew w).cell? (Addr.add a_0 1) = some (.pointer p1) ∧ ∃ n2 : Int, (World.drew w).cell? (Addr.add a_0 4) = some (.int .i64 n2) ∧
    Calls Try.prog 17 #[.pointer p1, .int .i64 n2] (World.drew w) (Rv fun v3 w4 => ∃ n5 : Int, v3 = .int .i64 n5 ∧ R (.int .i64 n5) w4)
theorem B40_eq : @B40 = fun (a_0 : Addr) (w : World) (R : Value → World → Prop) => trF Try.prog G (lk []) Try.f40 [.pointer (some a_0)] w R := by kernel_rfl
theorem c40 (a_0 : Addr) (w : World) (R : Value → World → Prop) (h : B40 a_0 w R) : Calls Try.prog 40 #[.pointer (some a_0)] w (Rv R) := calls_of_tr (L := lk []) Try.func40 hG hM (by rw [B40_eq] at h; exact h)

/-- (*locution/seldir.Dir).One -/
def B41 (a_0 : Addr) (x_1 : Int) (w : World) (R : Value → World → Prop) : Prop :=
  
    br (decide (x_1 < (0 : Int))) (R (.int .i64 (-1)) (w.alloc (.cells #[.pointer (some a_0)] 63))) (∃ p1 : Option Addr, (w.alloc (.cells #[.pointer (some a_0)] 63)).cell? ⟨w.heap.size, 0, none⟩ = some (.pointer p1) ∧
    Calls Try.prog 40 #[.pointer p1] (w.alloc (.cells #[.pointer (some a_0)] 63)) (Rv fun v2 w3 => ∃ n4 : Int, v2 = .int .i64 n4 ∧
    br (decide (n4 ≤ x_1)) (R (.int .i64 (-1)) w3) (∃ p5 : Option Addr, (World.drew w3).cell? ⟨w.heap.size, 0, none⟩ = some (.pointer p5) ∧
    ∃ p6 : Option Addr, (World.drew w3).cell? ⟨w.heap.size, 0, none⟩ = some (.pointer p6) ∧ wa p6 fun a7 =>
    ∃ l8 : Slc, (World.drew w3).cell? (Addr.add a7 2) = some (.slice l8.a l8.len l8.cap) ∧
    Calls Try.prog 66 #[.pointer p5, .slice l8.a l8.len l8.cap, .int .i64 x_1] (World.drew w3) (Rv fun v9 w10 =>
    ∃ n11 : Int, ∃ n12 : Int, v9 = .tuple #[.int .i64 n11, .int .i64 n12] ∧
    Calls Try.prog 67 #[.int .i64 n11, .int .i64 n12, .int .i64 x_1, .func (.func 68) #[] #[.pointer (some ⟨w.heap.size, 0, none⟩)]] w10 (Rv fun v13 w14 =>
    ∃ n15 : Int, v13 = .int .i64 n15 ∧ ∃ p16 : Option Addr, (World.drew w14).cell? ⟨w.heap.size, 0, none⟩ = some (.pointer p16) ∧ wa p16 fun a17 =>
    ∃ l18 : Slc, (World.drew w14).cell? (Addr.add a17 0) = some (.slice l18.a l18.len l18.cap) ∧ 0 ≤ n15 ∧ n15 < (l18.len : Int) ∧ ∃ a19, l18.a = some a19 ∧
    ∃ n20 : Int, (World.drew w14).cell? (Addr.add a19 (n15.toNat * 1)) = some (.int .u64 n20) ∧
    ∃ p21 : Option Addr, (World.drew w14).cell? ⟨w.heap.size, 0, none⟩ = some (.pointer p21) ∧ wa p21 fun a22 =>
    ∃ p23 : Option Addr, (World.drew w14).cell? (Addr.add a22 1) = some (.pointer p23) ∧
    Calls Try.prog 17 #[.pointer p23, .int .i64 (IntKind.i64.wrap (n15 * 64))] (World.drew w14) (Rv fun v24 w25 => ∃ n26 : Int, v24 = .int .i64 n26 ∧
    w25.cell? (Addr.add a19 (n15.toNat * 1)) = some (.int .u64 n20) ∧ w25.cell? (Addr.add a17 0) = some (.slice l18.a l18.len l18.cap) ∧
    w25.cell? ⟨w.heap.size, 0, none⟩ = some (.pointer p16) ∧ Calls Try.prog 69 #[.int .u64 n20, .int .i64 (IntKind.i64.wrap (x_1 - n26))] w25 (Rv fun v27 w28 =>
    ∃ n29 : Int, v27 = .int .i64 n29 ∧ R (.int .i64 (IntKind.i64.wrap ((IntKind.i64.wrap (n15 * 64)) + n29))) w28)))))))
theorem B41_eq : @B41 = fun (a_0 : Addr) (x_1 : Int) (w : World) (R : Value → World → Prop) => trF Try.prog G (lk []) Try.f41 [.pointer (some a_0), .int .i64 x_1] w R := by kernel_rfl
theorem c41 (a_0 : Addr) (x_1 : Int) (w : World) (R : Value → World → Prop) (h : B41 a_0 x_1 w R) : Calls Try.prog 41 #[.pointer (some a_0), .int .i64 x_1] w (Rv R) := calls_of_tr (L := lk []) Try.func41 hG hM (by rw [B41_eq] at h; exact h)

/-- (*locution/seldir.Dir).Zero -/
def B43 (a_0 : Addr) (x_1 : Int) (w : World) (R : Value → World → Prop) : Prop :=
  ∃ p1 : Option Addr, (World.drew (w.alloc (.cells #[.pointer (some a_0)] 63))).cell? ⟨w.heap.size, 0, none⟩ = some (.pointer p1) ∧
    br p1.isNone (R (.int .i64 (-1)) (World.drew (w.alloc (.cells #[.pointer (some a_0)] 63)))) (br (decide (x_1 < (0 : Int))) (R (.int .i64 (-1)) (World.drew (w.alloc (.cells #[.pointer (some a_0)] 63)))) (∃ p2 : Option Addr, (World.drew (w.alloc (.cells #[.pointer (some a_0)] 63))).cell? ⟨w.heap.size, 0, none⟩ = some (.pointer p2) ∧
    wa p2 fun a3 => ∃ p4 : Option Addr, (World.drew (w.alloc (.cells #[.pointer (some a_0)] 63))).cell? (Addr.add a3 1) = some (.pointer p4) ∧
    ∃ p5 : Option Addr, (World.drew (w.alloc (.cells #[.pointer (some a_0)] 63))).cell? ⟨w.heap.size, 0, none⟩ = some (.pointer p5) ∧ wa p5 fun a6 =>
    ∃ n7 : Int, (World.drew (w.alloc (.cells #[.pointer (some a_0)] 63))).cell? (Addr.add a6 4) = some (.int .i64 n7) ∧
    Calls Try.prog 19 #[.pointer p4, .int .i64 n7] (World.drew (w.alloc (.cells #[.pointer (some a_0)] 63))) (Rv fun v8 w9 => ∃ n10 : Int, v8 = .int .i64 n10 ∧
    br (decide (n10 ≤ x_1)) (R (.int .i64 (-1)) w9) (∃ p11 : Option Addr, (World.drew w9).cell? ⟨w.heap.size, 0, none⟩ = some (.pointer p11) ∧
    ∃ p12 : Option Addr, (World.drew w9).cell? ⟨w.heap.size, 0, none⟩ = some (.pointer p12) ∧ wa p12 fun a13 =>
    ∃ l14 : Slc, (World.drew w9).cell? (Addr.add a13 3) = some (.slice l14.a l14.len l14.cap) ∧
    Calls Try.prog 66 #[.pointer p11, .slice l14.a l14.len l14.cap, .int .i64 x_1] (World.drew w9) (Rv fun v15 w16 =>
    ∃ n17 : Int, ∃ n18 : Int, v15 = .tuple #[.int .i64 n17, .int .i64 n18] ∧
    Calls Try.prog 67 #[.int .i64 n17, .int .i64 n18, .int .i64 x_1, .func (.func 70) #[] #[.pointer (some ⟨w.heap.size, 0, none⟩)]] w16 (Rv fun v19 w20 =>
    ∃ n21 : Int, v19 = .int .i64 n21 ∧ ∃ p22 : Option Addr, (World.drew w20).cell? ⟨w.heap.size, 0, none⟩ = some (.pointer p22) ∧ wa p22 fun a23 =>
    ∃ l24 : Slc, (World.drew w20).cell? (Addr.add a23 0) = some (.slice l24.a l24.len l24.cap) ∧ 0 ≤ n21 ∧ n21 < (l24.len : Int) ∧ ∃ a25, l24.a = some a25 ∧
    ∃ n26 : Int, (World.drew w20).cell? (Addr.add a25 (n21.toNat * 1)) = some (.int .u64 n26) ∧
    ∃ p27 : Option Addr, (World.drew w20).cell? ⟨w.heap.size, 0, none⟩ = some (.pointer p27) ∧ wa p27 fun a28 =>
    ∃ p29 : Option Addr, (World.drew w20).cell? (Addr.add a28 1) = some (.pointer p29) ∧
    Calls Try.prog 19 #[.pointer p29, .int .i64 (IntKind.i64.wrap (n21 * 64))] (World.drew w20) (Rv fun v30 w31 => ∃ n32 : Int, v30 = .int .i64 n32 ∧
    w31.cell? (Addr.add a25 (n21.toNat * 1)) = some (.int .u64 n26) ∧ w31.cell? (Addr.add a23 0) = some (.slice l24.a l24.len l24.cap) ∧
    w31.cell? ⟨w.heap.size, 0, none⟩ = some (.pointer p22) ∧
    Calls Try.prog 69 #[.int .u64 (bXor .u64 (if IntKind.u64.signed then -1 else IntKind.u64.max) n26), .int .i64 (IntKind.i64.wrap (x_1 - n32))] w31 (Rv fun v33 w34 =>
    ∃ n35 : Int, v33 = .int .i64 n35 ∧ R (.int .i64 (IntKind.i64.wrap ((IntKind.i64.wrap (n21 * 64)) + n35))) w34))))))))
theorem B43_eq : @B43 = fun (a_0 : Addr) (x_1 : Int) (w : World) (R : Value → World → Prop) => trF Try.prog G (lk []) Try.f43 [.pointer (some a_0), .int .i64 x_1] w R := by kernel_rfl
theorem c43 (a_0 : Addr) (x_1 : Int) (w : World) (R : Value → World → Prop) (h : B43 a_0 x_1 w R) : Calls Try.prog 43 #[.pointer (some a_0), .int .i64 x_1] w (Rv R) := calls_of_tr (L := lk []) Try.func43 hG hM (by rw [B43_eq] at h; exact h)

/-- (*locution/seldir.Dir).span -/
def B66 (a_0 : Addr) (x_1 : Slc) (x_2 : Int) (w : World) (R : Value → World → Prop) : Prop :=
  (64 : Int) ≠ 0 ∧ 0 ≤ (IntKind.i64.wrap (Int.tdiv x_2 64)) ∧ (IntKind.i64.wrap (Int.tdiv x_2 64)) < (x_1.len : Int) ∧ ∃ a1, x_1.a = some a1 ∧
    ∃ n2 : Int, (World.drew w).cell? (Addr.add a1 ((IntKind.i64.wrap (Int.tdiv x_2 64)).toNat * 1)) = some (.int .i32 n2) ∧
    ∃ l3 : Slc, (World.drew w).cell? (Addr.add a_0 0) = some (.slice l3.a l3.len l3.cap) ∧ (64 : Int) ≠ 0 ∧
    br (decide ((IntKind.i64.wrap ((IntKind.i64.wrap (Int.tdiv x_2 64)) + 1)) < (x_1.len : Int))) ((64 : Int) ≠ 0 ∧
    0 ≤ (IntKind.i64.wrap ((IntKind.i64.wrap (Int.tdiv x_2 64)) + 1)) ∧ (IntKind.i64.wrap ((IntKind.i64.wrap (Int.tdiv x_2 64)) + 1)) < (x_1.len : Int) ∧
    ∃ a4, x_1.a = some a4 ∧
    ∃ n5 : Int, (World.drew w).cell? (Addr.add a4 ((IntKind.i64.wrap ((IntKind.i64.wrap (Int.tdiv x_2 64)) + 1)).toNat * 1)) = some (.int .i32 n5) ∧
    R (.tuple #[.int .i64 (IntKind.i64.wrap n2), .int .i64 (IntKind.i64.wrap ((IntKind.i64.wrap n5) + 1))]) (World.drew w)) (R (.tuple #[.int .i64 (IntKind.i64.wrap n2), .int .i64 (l3.len : Int)]) (World.drew w))
theorem B66_eq : @B66 = fun (a_0 : Addr) (x_1 : Slc) (x_2 : Int) (w : World) (R : Value → World → Prop) => trF Try.prog G (lk []) Try.f66 [.pointer (some a_0), .slice x_1.a x_1.len x_1.cap, .int .i64 x_2] w R := by kernel_rfl
theorem c66 (a_0 : Addr) (x_1 : Slc) (x_2 : Int) (w : World) (R : Value → World → Prop) (h : B66 a_0 x_1 x_2 w R) : Calls Try.prog 66 #[.pointer (some a_0), .slice x_1.a x_1.len x_1.cap, .int .i64 x_2] w (Rv R) := calls_of_tr (L := lk []) Try.func66 hG hM (by rw [B66_eq] at h; exact h)

/-- locution/seldir.search -/
def B67 (x_0 : Int) (x_1 : Int) (x_2 : Int) (x_3 : Value) (w : World) (R : Value → World → Prop) : Prop :=
  ∃ (I1 : Int → Int → World → Prop) (μ2 : Int → Int → World → Nat), I1 x_0 x_1 w ∧ ∀ x3 : Int, ∀ x4 : Int, ∀ w5 : World, I1 x3 x4 w5 →
    br (decide ((1 : Int) < (IntKind.i64.wrap (x4 - x3)))) ((2 : Int) ≠ 0 ∧
    CallFV Try.prog G x_3 [.int .i64 (IntKind.i64.wrap ((IntKind.i64.wrap (x3 + (IntKind.i64.wrap (Int.tdiv (IntKind.i64.wrap (x4 - x3)) 2)))) * 64))] w5 fun v6 w7 =>
    ∃ n8 : Int, v6 = .int .i64 n8 ∧ br (decide (n8 ≤ x_2)) (I1 (IntKind.i64.wrap (x3 + (IntKind.i64.wrap (Int.tdiv (IntKind.i64.wrap (x4 - x3)) 2)))) x4 w7 ∧
    μ2 (IntKind.i64.wrap (x3 + (IntKind.i64.wrap (Int.tdiv (IntKind.i64.wrap (x4 - x3)) 2)))) x4 w7 < μ2 x3 x4 w5) (I1 x3 (IntKind.i64.wrap (x3 + (IntKind.i64.wrap (Int.tdiv (IntKind.i64.wrap (x4 - x3)) 2)))) w7 ∧
    μ2 x3 (IntKind.i64.wrap (x3 + (IntKind.i64.wrap (Int.tdiv (IntKind.i64.wrap (x4 - x3)) 2)))) w7 < μ2 x3 x4 w5)) (R (.int .i64 x3) w5)
theorem B67_eq : @B67 = fun (x_0 : Int) (x_1 : Int) (x_2 : Int) (x_3 : Value) (w : World) (R : Value → World → Prop) => trF Try.prog G (lk [(1, [(0, .int .i64), (1, .int .i64)])]) Try.f67 [.int .i64 x_0, .int .i64 x_1, .int .i64 x_2, x_3] w R := by kernel_rfl
theorem c67 (x_0 : Int) (x_1 : Int) (x_2 : Int) (x_3 : Value) (w : World) (R : Value → World → Prop) (h : B67 x_0 x_1 x_2 x_3 w R) : Calls Try.prog 67 #[.int .i64 x_0, .int .i64 x_1, .int .i64 x_2, x_3] w (Rv R) := calls_of_tr (L := lk [(1, [(0, .int .i64), (1, .int .i64)])]) Try.func67 hG hM (by rw [B67_eq] at h; exact h)

/-- (*locution/seldir.Dir).One$1 -/
def B68 (x_0 : Int) (a_1 : Addr) (w : World) (R : Value → World → Prop) : Prop :=
  ∃ p1 : Option Addr, w.cell? a_1 = some (.pointer p1) ∧ wa p1 fun a2 => ∃ p3 : Option Addr, w.cell? (Addr.add a2 1) = some (.pointer p3) ∧
    Calls Try.prog 17 #[.pointer p3, .int .i64 x_0] w (Rv fun v4 w5 => ∃ n6 : Int, v4 = .int .i64 n6 ∧ R (.int .i64 n6) w5)
theorem B68_eq : @B68 = fun (x_0 : Int) (a_1 : Addr) (w : World) (R : Value → World → Prop) => trF Try.prog G (lk []) Try.f68 [.int .i64 x_0, .pointer (some a_1)] w R := by kernel_rfl
theorem c68 (x_0 : Int) (a_1 : Addr) (w : World) (R : Value → World → Prop) (h : B68 x_0 a_1 w R) : Calls Try.prog 68 #[.int .i64 x_0, .pointer (some a_1)] w (Rv R) := calls_of_tr (L := lk []) Try.func68 hG hM (by rw [B68_eq] at h; exact h)

/-- (*locution/seldir.Dir).Zero$1 -/
def B70 (x_0 : Int) (a_1 : Addr) (w : World) (R : Value → World → Prop) : Prop :=
  ∃ p1 : Option Addr, w.cell? a_1 = some (.pointer p1) ∧ wa p1 fun a2 => ∃ p3 : Option Addr, w.cell? (Addr.add a2 1) = some (.pointer p3) ∧
    Calls Try.prog 19 #[.pointer p3, .int .i64 x_0] w (Rv fun v4 w5 => ∃ n6 : Int, v4 = .int .i64 n6 ∧ R (.int .i64 n6) w5)
theorem B70_eq : @B70 = fun (x_0 : Int) (a_1 : Addr) (w : World) (R : Value → World → Prop) => trF Try.prog G (lk []) Try.f70 [.int .i64 x_0, .pointer (some a_1)] w R := by kernel_rfl
theorem c70 (x_0 : Int) (a_1 : Addr) (w : World) (R : Value → World → Prop) (h : B70 x_0 a_1 w R) : Calls Try.prog 70 #[.int .i64 x_0, .pointer (some a_1)] w (Rv R) := calls_of_tr (L := lk []) Try.func70 hG hM (by rw [B70_eq] at h; exact h)

/-- locution/locutionref05.Places -/
def B39 (x_0 : Slc) (x_1 : Bool) (w : World) (R : Value → World → Prop) : Prop :=
  ∃ (I1 : Slc → Int → World → Prop) (μ2 : Slc → Int → World → Nat), I1 ⟨none, 0, 0⟩ (0 : Int) w ∧ ∀ x3 : Slc, ∀ x4 : Int, ∀ w5 : World, I1 x3 x4 w5 →
    br (decide (x4 < (x_0.len : Int))) (0 ≤ x4 ∧ x4 < (x_0.len : Int) ∧ ∃ a6, x_0.a = some a6 ∧
    ∃ b7 : Bool, w5.cell? (Addr.add a6 (x4.toNat * 1)) = some (.bool b7) ∧
    br (b7 == x_1) (∃ w8 : World, ∃ l9 : Slc, (Builtin.append_ #[38, 38] 38 #[.slice x3.a x3.len x3.cap, .slice (some ⟨w5.heap.size, 0, none⟩) 1 1]).run Try.prog (w5.alloc (.cells #[.int .i64 x4] 3)) = .ok (.slice l9.a l9.len l9.cap) w8 ∧
    I1 l9 (IntKind.i64.wrap (x4 + 1)) w8 ∧ μ2 l9 (IntKind.i64.wrap (x4 + 1)) w8 < μ2 x3 x4 w5) (I1 x3 (IntKind.i64.wrap (x4 + 1)) w5 ∧
    μ2 x3 (IntKind.i64.wrap (x4 + 1)) w5 < μ2 x3 x4 w5)) (R (.slice x3.a x3.len x3.cap) w5)
theorem B39_eq : @B39 = fun (x_0 : Slc) (x_1 : Bool) (w : World) (R : Value → World → Prop) => trF Try.prog G (lk [(3, [(5, .slc), (6, .int .i64)])]) Try.f39 [.slice x_0.a x_0.len x_0.cap, .bool x_1] w R := by kernel_rfl
theorem c39 (x_0 : Slc) (x_1 : Bool) (w : World) (R : Value → World → Prop) (h : B39 x_0 x_1 w R) : Calls Try.prog 39 #[.slice x_0.a x_0.len x_0.cap, .bool x_1] w (Rv R) := calls_of_tr (L := lk [(3, [(5, .slc), (6, .int .i64)])]) Try.func39 hG hM (by rw [B39_eq] at h; exact h)

/-- locution/locutionref05.At -/
def B42 (x_0 : Slc) (x_1 : Int) (w : World) (R : Value → World → Prop) : Prop :=
  br (decide (x_1 < (0 : Int))) (R (.int .i64 (-1)) w) (br (decide ((x_0.len : Int) ≤ x_1)) (R (.int .i64 (-1)) w) (0 ≤ x_1 ∧ x_1 < (x_0.len : Int) ∧
    ∃ a1, x_0.a = some a1 ∧ ∃ n2 : Int, w.cell? (Addr.add a1 (x_1.toNat * 1)) = some (.int .i64 n2) ∧ R (.int .i64 n2) w))
theorem B42_eq : @B42 = fun (x_0 : Slc) (x_1 : Int) (w : World) (R : Value → World → Prop) => trF Try.prog G (lk []) Try.f42 [.slice x_0.a x_0.len x_0.cap, .int .i64 x_1] w R := by kernel_rfl
theorem c42 (x_0 : Slc) (x_1 : Int) (w : World) (R : Value → World → Prop) (h : B42 x_0 x_1 w R) : Calls Try.prog 42 #[.slice x_0.a x_0.len x_0.cap, .int .i64 x_1] w (Rv R) := calls_of_tr (L := lk []) Try.func42 hG hM (by rw [B42_eq] at h; exact h)

/-- locution/locutionlaw05.DirOnes -/
def B9 (x0_0 : Slc) (x0_1 : Int) (x0_2 : Int) (x0_3 : Int) (x_1 : Int) (w : World) (R : Value → World → Prop) : Prop :=
  
    ∃ l1 : Slc, ∃ n2 : Int, ∃ n3 : Int, ∃ n4 : Int, (w.alloc (.cells #[.slice x0_0.a x0_0.len x0_0.cap, .int .u8 x0_1, .int .u64 x0_2, .int .u8 x0_3] 25)).cell? (Addr.add ⟨w.heap.size, 0, none⟩ 0) = some (.slice l1.a l1.len l1.cap) ∧
    (w.alloc (.cells #[.slice x0_0.a x0_0.len x0_0.cap, .int .u8 x0_1, .int .u64 x0_2, .int .u8 x0_3] 25)).cell? (Addr.add ⟨w.heap.size, 0, none⟩ 1) = some (.int .u8 n2) ∧
    (w.alloc (.cells #[.slice x0_0.a x0_0.len x0_0.cap, .int .u8 x0_1, .int .u64 x0_2, .int .u8 x0_3] 25)).cell? (Addr.add ⟨w.heap.size, 0, none⟩ 2) = some (.int .u64 n3) ∧
    (w.alloc (.cells #[.slice x0_0.a x0_0.len x0_0.cap, .int .u8 x0_1, .int .u64 x0_2, .int .u8 x0_3] 25)).cell? (Addr.add ⟨w.heap.size, 0, none⟩ 3) = some (.int .u8 n4) ∧
    Calls Try.prog 11 #[.agg #[.slice l1.a l1.len l1.cap, .int .u8 n2, .int .u64 n3, .int .u8 n4]] (w.alloc (.cells #[.slice x0_0.a x0_0.len x0_0.cap, .int .u8 x0_1, .int .u64 x0_2, .int .u8 x0_3] 25)) (Rv fun v5 w6 =>
    ∃ b7 : Bool, v5 = .bool b7 ∧ br (!b7) (Calls Try.prog 37 #[] w6 (Rv fun v8 w9 => ∃ b10 : Bool, v8 = .bool b10 ∧
    R (.bool b10) w9)) (∃ l11 : Slc, ∃ n12 : Int, ∃ n13 : Int, ∃ n14 : Int, w6.cell? (Addr.add ⟨w.heap.size, 0, none⟩ 0) = some (.slice l11.a l11.len l11.cap) ∧
    w6.cell? (Addr.add ⟨w.heap.size, 0, none⟩ 1) = some (.int .u8 n12) ∧ w6.cell? (Addr.add ⟨w.heap.size, 0, none⟩ 2) = some (.int .u64 n13) ∧
    w6.cell? (Addr.add ⟨w.heap.size, 0, none⟩ 3) = some (.int .u8 n14) ∧
    Calls Try.prog 14 #[.agg #[.slice l11.a l11.len l11.cap, .int .u8 n12, .int .u64 n13, .int .u8 n14]] w6 (Rv fun v15 w16 => ∃ p17 : Option Addr, v15 = .pointer p17 ∧
    Calls Try.prog 38 #[.pointer p17] w16 (Rv fun v18 w19 => ∃ p20 : Option Addr, v18 = .pointer p20 ∧
    ∃ l21 : Slc, ∃ n22 : Int, ∃ n23 : Int, ∃ n24 : Int, w19.cell? (Addr.add ⟨w.heap.size, 0, none⟩ 0) = some (.slice l21.a l21.len l21.cap) ∧
    w19.cell? (Addr.add ⟨w.heap.size, 0, none⟩ 1) = some (.int .u8 n22) ∧ w19.cell? (Addr.add ⟨w.heap.size, 0, none⟩ 2) = some (.int .u64 n23) ∧
    w19.cell? (Addr.add ⟨w.heap.size, 0, none⟩ 3) = some (.int .u8 n24) ∧
    Calls Try.prog 15 #[.agg #[.slice l21.a l21.len l21.cap, .int .u8 n22, .int .u64 n23, .int .u8 n24]] w19 (Rv fun v25 w26 =>
    ∃ l27 : Slc, v25 = .slice l27.a l27.len l27.cap ∧ Calls Try.prog 39 #[.slice l27.a l27.len l27.cap, .bool true] w26 (Rv fun v28 w29 =>
    ∃ l30 : Slc, v28 = .slice l30.a l30.len l30.cap ∧ Calls Try.prog 39 #[.slice l27.a l27.len l27.cap, .bool false] w29 (Rv fun v31 w32 =>
    ∃ l33 : Slc, v31 = .slice l33.a l33.len l33.cap ∧ Calls Try.prog 40 #[.pointer p20] w32 (Rv fun v34 w35 => ∃ n36 : Int, v34 = .int .i64 n36 ∧
    br (decide (n36 = (l30.len : Int))) (Calls Try.prog 41 #[.pointer p20, .int .i64 x_1] w35 (Rv fun v37 w38 => ∃ n39 : Int, v37 = .int .i64 n39 ∧
    Calls Try.prog 42 #[.slice l30.a l30.len l30.cap, .int .i64 x_1] w38 (Rv fun v40 w41 => ∃ n42 : Int, v40 = .int .i64 n42 ∧
    br (decide (n39 = n42)) (Calls Try.prog 43 #[.pointer p20, .int .i64 x_1] w41 (Rv fun v43 w44 => ∃ n45 : Int, v43 = .int .i64 n45 ∧
    Calls Try.prog 42 #[.slice l33.a l33.len l33.cap, .int .i64 x_1] w44 (Rv fun v46 w47 => ∃ n48 : Int, v46 = .int .i64 n48 ∧
    br (decide (n45 = n48)) (Calls Try.prog 37 #[] w47 (Rv fun v49 w50 => ∃ b51 : Bool, v49 = .bool b51 ∧
    R (.bool b51) w50)) (R (.bool false) w47)))) (R (.bool false) w41)))) (R (.bool false) w35)))))))))
theorem B9_eq : @B9 = fun (x0_0 : Slc) (x0_1 : Int) (x0_2 : Int) (x0_3 : Int) (x_1 : Int) (w : World) (R : Value → World → Prop) => trF Try.prog G (lk []) Try.f9 [.agg #[.slice x0_0.a x0_0.len x0_0.cap, .int .u8 x0_1, .int .u64 x0_2, .int .u8 x0_3], .int .i64 x_1] w R := by kernel_rfl
theorem c9 (x0_0 : Slc) (x0_1 : Int) (x0_2 : Int) (x0_3 : Int) (x_1 : Int) (w : World) (R : Value → World → Prop) (h : B9 x0_0 x0_1 x0_2 x0_3 x_1 w R) : Calls Try.prog 9 #[.agg #[.slice x0_0.a x0_0.len x0_0.cap, .int .u8 x0_1, .int .u64 x0_2, .int .u8 x0_3], .int .i64 x_1] w (Rv R) := calls_of_tr (L := lk []) Try.func9 hG hM (by rw [B9_eq] at h; exact h)

/-- locution/locutionlaw05.DirAll -/
def B10 (x0_0 : Slc) (x0_1 : Int) (x0_2 : Int) (x0_3 : Int) (w : World) (R : Value → World → Prop) : Prop :=
  
    ∃ l1 : Slc, ∃ n2 : Int, ∃ n3 : Int, ∃ n4 : Int, (w.alloc (.cells #[.slice x0_0.a x0_0.len x0_0.cap, .int .u8 x0_1, .int .u64 x0_2, .int .u8 x0_3] 25)).cell? (Addr.add ⟨w.heap.size, 0, none⟩ 0) = some (.slice l1.a l1.len l1.cap) ∧
    (w.alloc (.cells #[.slice x0_0.a x0_0.len x0_0.cap, .int .u8 x0_1, .int .u64 x0_2, .int .u8 x0_3] 25)).cell? (Addr.add ⟨w.heap.size, 0, none⟩ 1) = some (.int .u8 n2) ∧
    (w.alloc (.cells #[.slice x0_0.a x0_0.len x0_0.cap, .int .u8 x0_1, .int .u64 x0_2, .int .u8 x0_3] 25)).cell? (Addr.add ⟨w.heap.size, 0, none⟩ 2) = some (.int .u64 n3) ∧
    (w.alloc (.cells #[.slice x0_0.a x0_0.len x0_0.cap, .int .u8 x0_1, .int .u64 x0_2, .int .u8 x0_3] 25)).cell? (Addr.add ⟨w.heap.size, 0, none⟩ 3) = some (.int .u8 n4) ∧
    Calls Try.prog 11 #[.agg #[.slice l1.a l1.len l1.cap, .int .u8 n2, .int .u64 n3, .int .u8 n4]] (w.alloc (.cells #[.slice x0_0.a x0_0.len x0_0.cap, .int .u8 x0_1, .int .u64 x0_2, .int .u8 x0_3] 25)) (Rv fun v5 w6 =>
    ∃ b7 : Bool, v5 = .bool b7 ∧ br (!b7) (Calls Try.prog 37 #[] w6 (Rv fun v8 w9 => ∃ b10 : Bool, v8 = .bool b10 ∧
    R (.bool b10) w9)) (∃ n11 : Int, w6.cell? (Addr.add ⟨w.heap.size, 0, none⟩ 1) = some (.int .u8 n11) ∧
    br (decide ((8 : Int) < n11)) (Calls Try.prog 37 #[] w6 (Rv fun v12 w13 => ∃ b14 : Bool, v12 = .bool b14 ∧
    R (.bool b14) w13)) (∃ l15 : Slc, ∃ n16 : Int, ∃ n17 : Int, ∃ n18 : Int, w6.cell? (Addr.add ⟨w.heap.size, 0, none⟩ 0) = some (.slice l15.a l15.len l15.cap) ∧
    w6.cell? (Addr.add ⟨w.heap.size, 0, none⟩ 1) = some (.int .u8 n16) ∧ w6.cell? (Addr.add ⟨w.heap.size, 0, none⟩ 2) = some (.int .u64 n17) ∧
    w6.cell? (Addr.add ⟨w.heap.size, 0, none⟩ 3) = some (.int .u8 n18) ∧
    Calls Try.prog 14 #[.agg #[.slice l15.a l15.len l15.cap, .int .u8 n16, .int .u64 n17, .int .u8 n18]] w6 (Rv fun v19 w20 => ∃ p21 : Option Addr, v19 = .pointer p21 ∧
    Calls Try.prog 38 #[.pointer p21] w20 (Rv fun v22 w23 => ∃ p24 : Option Addr, v22 = .pointer p24 ∧
    ∃ l25 : Slc, ∃ n26 : Int, ∃ n27 : Int, ∃ n28 : Int, w23.cell? (Addr.add ⟨w.heap.size, 0, none⟩ 0) = some (.slice l25.a l25.len l25.cap) ∧
    w23.cell? (Addr.add ⟨w.heap.size, 0, none⟩ 1) = some (.int .u8 n26) ∧ w23.cell? (Addr.add ⟨w.heap.size, 0, none⟩ 2) = some (.int .u64 n27) ∧
    w23.cell? (Addr.add ⟨w.heap.size, 0, none⟩ 3) = some (.int .u8 n28) ∧
    Calls Try.prog 15 #[.agg #[.slice l25.a l25.len l25.cap, .int .u8 n26, .int .u64 n27, .int .u8 n28]] w23 (Rv fun v29 w30 =>
    ∃ l31 : Slc, v29 = .slice l31.a l31.len l31.cap ∧ Calls Try.prog 39 #[.slice l31.a l31.len l31.cap, .bool true] w30 (Rv fun v32 w33 =>
    ∃ l34 : Slc, v32 = .slice l34.a l34.len l34.cap ∧ Calls Try.prog 39 #[.slice l31.a l31.len l31.cap, .bool false] w33 (Rv fun v35 w36 =>
    ∃ l37 : Slc, v35 = .slice l37.a l37.len l37.cap ∧ ∃ (I38 : Int → World → Prop) (μ39 : Int → World → Nat), I38 (0 : Int) w36 ∧
    ∀ x40 : Int, ∀ w41 : World, I38 x40 w41 → br (decide (x40 < (l34.len : Int))) (0 ≤ x40 ∧ x40 < (l34.len : Int) ∧ ∃ a42, l34.a = some a42 ∧
    ∃ n43 : Int, (World.drew w41).cell? (Addr.add a42 (x40.toNat * 1)) = some (.int .i64 n43) ∧
    Calls Try.prog 41 #[.pointer p24, .int .i64 x40] (World.drew w41) (Rv fun v44 w45 => ∃ n46 : Int, v44 = .int .i64 n46 ∧
    w45.cell? (Addr.add a42 (x40.toNat * 1)) = some (.int .i64 n43) ∧ br (!(decide (n46 = n43))) (R (.bool false) w45) (I38 (IntKind.i64.wrap (x40 + 1)) w45 ∧
    μ39 (IntKind.i64.wrap (x40 + 1)) w45 < μ39 x40 w41))) (∃ (I47 : Int → World → Prop) (μ48 : Int → World → Nat), I47 (0 : Int) w41 ∧
    ∀ x49 : Int, ∀ w50 : World, I47 x49 w50 → br (decide (x49 < (l37.len : Int))) (0 ≤ x49 ∧ x49 < (l37.len : Int) ∧ ∃ a51, l37.a = some a51 ∧
    ∃ n52 : Int, (World.drew w50).cell? (Addr.add a51 (x49.toNat * 1)) = some (.int .i64 n52) ∧
    Calls Try.prog 43 #[.pointer p24, .int .i64 x49] (World.drew w50) (Rv fun v53 w54 => ∃ n55 : Int, v53 = .int .i64 n55 ∧
    w54.cell? (Addr.add a51 (x49.toNat * 1)) = some (.int .i64 n52) ∧ br (!(decide (n55 = n52))) (R (.bool false) w54) (I47 (IntKind.i64.wrap (x49 + 1)) w54 ∧
    μ48 (IntKind.i64.wrap (x49 + 1)) w54 < μ48 x49 w50))) (Calls Try.prog 41 #[.pointer p24, .int .i64 (l34.len : Int)] w50 (Rv fun v56 w57 =>
    ∃ n58 : Int, v56 = .int .i64 n58 ∧ br (decide (n58 = (-1))) (Calls Try.prog 43 #[.pointer p24, .int .i64 (l37.len : Int)] w57 (Rv fun v59 w60 =>
    ∃ n61 : Int, v59 = .int .i64 n61 ∧ br (decide (n61 = (-1))) (Calls Try.prog 37 #[] w60 (Rv fun v62 w63 => ∃ b64 : Bool, v62 = .bool b64 ∧
    R (.bool b64) w63)) (R (.bool false) w60))) (R (.bool false) w57))))))))))))
theorem B10_eq : @B10 = fun (x0_0 : Slc) (x0_1 : Int) (x0_2 : Int) (x0_3 : Int) (w : World) (R : Value → World → Prop) => trF Try.prog G (lk [(7, [(7, .int .i64)]), (12, [(8, .int .i64)])]) Try.f10 [.agg #[.slice x0_0.a x0_0.len x0_0.cap, .int .u8 x0_1, .int .u64 x0_2, .int .u8 x0_3]] w R := by kernel_rfl
theorem c10 (x0_0 : Slc) (x0_1 : Int) (x0_2 : Int) (x0_3 : Int) (w : World) (R : Value → World → Prop) (h : B10 x0_0 x0_1 x0_2 x0_3 w R) : Calls Try.prog 10 #[.agg #[.slice x0_0.a x0_0.len x0_0.cap, .int .u8 x0_1, .int .u64 x0_2, .int .u8 x0_3]] w (Rv R) := calls_of_tr (L := lk [(7, [(7, .int .i64)]), (12, [(8, .int .i64)])]) Try.func10 hG hM (by rw [B10_eq] at h; exact h)

/-- locution/locutionlaw05.live -/
def B37  (w : World) (R : Value → World → Prop) : Prop :=
  Calls Try.prog 14 #[.agg #[.slice none 0 0, .int .u8 0, .int .u64 13, .int .u8 5]] w (Rv fun v1 w2 => ∃ p3 : Option Addr, v1 = .pointer p3 ∧
    Calls Try.prog 38 #[.pointer p3] w2 (Rv fun v4 w5 => ∃ p6 : Option Addr, v4 = .pointer p6 ∧ Calls Try.prog 41 #[.pointer p6, .int .i64 1] w5 (Rv fun v7 w8 =>
    ∃ n9 : Int, v7 = .int .i64 n9 ∧ br (decide (n9 = (2 : Int))) (Calls Try.prog 43 #[.pointer p6, .int .i64 1] w8 (Rv fun v10 w11 => ∃ n12 : Int, v10 = .int .i64 n12 ∧
    br (decide (n12 = (4 : Int))) (Calls Try.prog 41 #[.pointer p6, .int .i64 3] w11 (Rv fun v13 w14 => ∃ n15 : Int, v13 = .int .i64 n15 ∧
    br (decide (n15 = (-1))) (Calls Try.prog 40 #[.pointer p6] w14 (Rv fun v16 w17 => ∃ n18 : Int, v16 = .int .i64 n18 ∧
    R (.bool (decide (n18 = (3 : Int)))) w17)) (R (.bool false) w14))) (R (.bool false) w11))) (R (.bool false) w8))))
theorem B37_eq : @B37 = fun (w : World) (R : Value → World → Prop) => trF Try.prog G (lk []) Try.f37 [] w R := by kernel_rfl
theorem c37  (w : World) (R : Value → World → Prop) (h : B37  w R) : Calls Try.prog 37 #[] w (Rv R) := calls_of_tr (L := lk []) Try.func37 hG hM (by rw [B37_eq] at h; exact h)

/-- (*locution/seldir.Dir).Ones -/
def B40n  (w : World) (R : Value → World → Prop) : Prop :=
  R (.int .i64 0) w
theorem B40n_eq : @B40n = fun (w : World) (R : Value → World → Prop) => trF Try.prog G (lk []) Try.f40 [.pointer none] w R := by kernel_rfl
theorem c40n  (w : World) (R : Value → World → Prop) (h : B40n  w R) : Calls Try.prog 40 #[.pointer none] w (Rv R) := calls_of_tr (L := lk []) Try.func40 hG hM (by rw [B40n_eq] at h; exact h)

/-- (*locution/seldir.Dir).One -/
def B41n (x_1 : Int) (w : World) (R : Value → World → Prop) : Prop :=
  
    br (decide (x_1 < (0 : Int))) (R (.int .i64 (-1)) (w.alloc (.cells #[.pointer none] 63))) (∃ p1 : Option Addr, (w.alloc (.cells #[.pointer none] 63)).cell? ⟨w.heap.size, 0, none⟩ = some (.pointer p1) ∧
    Calls Try.prog 40 #[.pointer p1] (w.alloc (.cells #[.pointer none] 63)) (Rv fun v2 w3 => ∃ n4 : Int, v2 = .int .i64 n4 ∧
    br (decide (n4 ≤ x_1)) (R (.int .i64 (-1)) w3) (∃ p5 : Option Addr, (World.drew w3).cell? ⟨w.heap.size, 0, none⟩ = some (.pointer p5) ∧
    ∃ p6 : Option Addr, (World.drew w3).cell? ⟨w.heap.size, 0, none⟩ = some (.pointer p6) ∧ wa p6 fun a7 =>
    ∃ l8 : Slc, (World.drew w3).cell? (Addr.add a7 2) = some (.slice l8.a l8.len l8.cap) ∧
    Calls Try.prog 66 #[.pointer p5, .slice l8.a l8.len l8.cap, .int .i64 x_1] (World.drew w3) (Rv fun v9 w10 =>
    ∃ n11 : Int, ∃ n12 : Int, v9 = .tuple #[.int .i64 n11, .int .i64 n12] ∧
    Calls Try.prog 67 #[.int .i64 n11, .int .i64 n12, .int .i64 x_1, .func (.func 68) #[] #[.pointer (some ⟨w.heap.size, 0, none⟩)]] w10 (Rv fun v13 w14 =>
    ∃ n15 : Int, v13 = .int .i64 n15 ∧ ∃ p16 : Option Addr, (World.drew w14).cell? ⟨w.heap.size, 0, none⟩ = some (.pointer p16) ∧ wa p16 fun a17 =>
    ∃ l18 : Slc, (World.drew w14).cell? (Addr.add a17 0) = some (.slice l18.a l18.len l18.cap) ∧ 0 ≤ n15 ∧ n15 < (l18.len : Int) ∧ ∃ a19, l18.a = some a19 ∧
    ∃ n20 : Int, (World.drew w14).cell? (Addr.add a19 (n15.toNat * 1)) = some (.int .u64 n20) ∧
    ∃ p21 : Option Addr, (World.drew w14).cell? ⟨w.heap.size, 0, none⟩ = some (.pointer p21) ∧ wa p21 fun a22 =>
    ∃ p23 : Option Addr, (World.drew w14).cell? (Addr.add a22 1) = some (.pointer p23) ∧
    Calls Try.prog 17 #[.pointer p23, .int .i64 (IntKind.i64.wrap (n15 * 64))] (World.drew w14) (Rv fun v24 w25 => ∃ n26 : Int, v24 = .int .i64 n26 ∧
    w25.cell? (Addr.add a19 (n15.toNat * 1)) = some (.int .u64 n20) ∧ w25.cell? (Addr.add a17 0) = some (.slice l18.a l18.len l18.cap) ∧
    w25.cell? ⟨w.heap.size, 0, none⟩ = some (.pointer p16) ∧ Calls Try.prog 69 #[.int .u64 n20, .int .i64 (IntKind.i64.wrap (x_1 - n26))] w25 (Rv fun v27 w28 =>
    ∃ n29 : Int, v27 = .int .i64 n29 ∧ R (.int .i64 (IntKind.i64.wrap ((IntKind.i64.wrap (n15 * 64)) + n29))) w28)))))))
theorem B41n_eq : @B41n = fun (x_1 : Int) (w : World) (R : Value → World → Prop) => trF Try.prog G (lk []) Try.f41 [.pointer none, .int .i64 x_1] w R := by kernel_rfl
theorem c41n (x_1 : Int) (w : World) (R : Value → World → Prop) (h : B41n x_1 w R) : Calls Try.prog 41 #[.pointer none, .int .i64 x_1] w (Rv R) := calls_of_tr (L := lk []) Try.func41 hG hM (by rw [B41n_eq] at h; exact h)

/-- (*locution/seldir.Dir).Zero -/
def B43n (x_1 : Int) (w : World) (R : Value → World → Prop) : Prop :=
  ∃ p1 : Option Addr, (World.drew (w.alloc (.cells #[.pointer none] 63))).cell? ⟨w.heap.size, 0, none⟩ = some (.pointer p1) ∧
    br p1.isNone (R (.int .i64 (-1)) (World.drew (w.alloc (.cells #[.pointer none] 63)))) (br (decide (x_1 < (0 : Int))) (R (.int .i64 (-1)) (World.drew (w.alloc (.cells #[.pointer none] 63)))) (∃ p2 : Option Addr, (World.drew (w.alloc (.cells #[.pointer none] 63))).cell? ⟨w.heap.size, 0, none⟩ = some (.pointer p2) ∧
    wa p2 fun a3 => ∃ p4 : Option Addr, (World.drew (w.alloc (.cells #[.pointer none] 63))).cell? (Addr.add a3 1) = some (.pointer p4) ∧
    ∃ p5 : Option Addr, (World.drew (w.alloc (.cells #[.pointer none] 63))).cell? ⟨w.heap.size, 0, none⟩ = some (.pointer p5) ∧ wa p5 fun a6 =>
    ∃ n7 : Int, (World.drew (w.alloc (.cells #[.pointer none] 63))).cell? (Addr.add a6 4) = some (.int .i64 n7) ∧
    Calls Try.prog 19 #[.pointer p4, .int .i64 n7] (World.drew (w.alloc (.cells #[.pointer none] 63))) (Rv fun v8 w9 => ∃ n10 : Int, v8 = .int .i64 n10 ∧
    br (decide (n10 ≤ x_1)) (R (.int .i64 (-1)) w9) (∃ p11 : Option Addr, (World.drew w9).cell? ⟨w.heap.size, 0, none⟩ = some (.pointer p11) ∧
    ∃ p12 : Option Addr, (World.drew w9).cell? ⟨w.heap.size, 0, none⟩ = some (.pointer p12) ∧ wa p12 fun a13 =>
    ∃ l14 : Slc, (World.drew w9).cell? (Addr.add a13 3) = some (.slice l14.a l14.len l14.cap) ∧
    Calls Try.prog 66 #[.pointer p11, .slice l14.a l14.len l14.cap, .int .i64 x_1] (World.drew w9) (Rv fun v15 w16 =>
    ∃ n17 : Int, ∃ n18 : Int, v15 = .tuple #[.int .i64 n17, .int .i64 n18] ∧
    Calls Try.prog 67 #[.int .i64 n17, .int .i64 n18, .int .i64 x_1, .func (.func 70) #[] #[.pointer (some ⟨w.heap.size, 0, none⟩)]] w16 (Rv fun v19 w20 =>
    ∃ n21 : Int, v19 = .int .i64 n21 ∧ ∃ p22 : Option Addr, (World.drew w20).cell? ⟨w.heap.size, 0, none⟩ = some (.pointer p22) ∧ wa p22 fun a23 =>
    ∃ l24 : Slc, (World.drew w20).cell? (Addr.add a23 0) = some (.slice l24.a l24.len l24.cap) ∧ 0 ≤ n21 ∧ n21 < (l24.len : Int) ∧ ∃ a25, l24.a = some a25 ∧
    ∃ n26 : Int, (World.drew w20).cell? (Addr.add a25 (n21.toNat * 1)) = some (.int .u64 n26) ∧
    ∃ p27 : Option Addr, (World.drew w20).cell? ⟨w.heap.size, 0, none⟩ = some (.pointer p27) ∧ wa p27 fun a28 =>
    ∃ p29 : Option Addr, (World.drew w20).cell? (Addr.add a28 1) = some (.pointer p29) ∧
    Calls Try.prog 19 #[.pointer p29, .int .i64 (IntKind.i64.wrap (n21 * 64))] (World.drew w20) (Rv fun v30 w31 => ∃ n32 : Int, v30 = .int .i64 n32 ∧
    w31.cell? (Addr.add a25 (n21.toNat * 1)) = some (.int .u64 n26) ∧ w31.cell? (Addr.add a23 0) = some (.slice l24.a l24.len l24.cap) ∧
    w31.cell? ⟨w.heap.size, 0, none⟩ = some (.pointer p22) ∧
    Calls Try.prog 69 #[.int .u64 (bXor .u64 (if IntKind.u64.signed then -1 else IntKind.u64.max) n26), .int .i64 (IntKind.i64.wrap (x_1 - n32))] w31 (Rv fun v33 w34 =>
    ∃ n35 : Int, v33 = .int .i64 n35 ∧ R (.int .i64 (IntKind.i64.wrap ((IntKind.i64.wrap (n21 * 64)) + n35))) w34))))))))
theorem B43n_eq : @B43n = fun (x_1 : Int) (w : World) (R : Value → World → Prop) => trF Try.prog G (lk []) Try.f43 [.pointer none, .int .i64 x_1] w R := by kernel_rfl
theorem c43n (x_1 : Int) (w : World) (R : Value → World → Prop) (h : B43n x_1 w R) : Calls Try.prog 43 #[.pointer none, .int .i64 x_1] w (Rv R) := calls_of_tr (L := lk []) Try.func43 hG hM (by rw [B43n_eq] at h; exact h)

end Go.Proofs.Ytilccklocaeebaa.V
