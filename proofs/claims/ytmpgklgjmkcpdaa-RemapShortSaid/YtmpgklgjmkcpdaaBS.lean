/- The verification conditions of functions, printed by a program of this work (pr.py) and checked here by the kernel. -/
import Derived.Test.YtmpgklgjmkcpdaaBD
set_option maxRecDepth 100000
set_option linter.unusedVariables false
namespace Go.Proofs.Ytmpgklgjmkcpdaa.V
open Go Go.VC

/-- locution/seldir.New -/
def B96 (a_0 : Addr) (w : World) (R : Value → World → Prop) : Prop :=
  Calls Try.prog 113 #[.pointer (some a_0)] w (Rv fun v1 w2 => ∃ l3 : Slc, v1 = .slice l3.a l3.len l3.cap ∧ Calls Try.prog 95 #[.pointer (some a_0)] w2 (Rv fun v4 w5 =>
    ∃ p6 : Option Addr, v4 = .pointer p6 ∧ Calls Try.prog 106 #[.pointer (some a_0)] w5 (Rv fun v7 w8 => ∃ n9 : Int, v7 = .int .i64 n9 ∧
    ∃ l10 : Slc, (w8.alloc (.cells #[.slice l3.a l3.len l3.cap, .pointer p6, .slice none 0 0, .slice none 0 0, .int .i64 n9] 138)).cell? (Addr.add ⟨w8.heap.size, 0, none⟩ 0) = some (.slice l10.a l10.len l10.cap) ∧
    ∃ (I11 : Int → Int → Int → World → Prop) (μ12 : Int → Int → Int → World →
    Nat), I11 (0 : Int) (0 : Int) (0 : Int) (w8.alloc (.cells #[.slice l3.a l3.len l3.cap, .pointer p6, .slice none 0 0, .slice none 0 0, .int .i64 n9] 138)) ∧
    ∀ x13 : Int, ∀ x14 : Int, ∀ x15 : Int, ∀ w16 : World, I11 x13 x14 x15 w16 →
    br (decide (x15 < (l10.len : Int))) (∃ l17 : Slc, w16.cell? (Addr.add ⟨w8.heap.size, 0, none⟩ 0) = some (.slice l17.a l17.len l17.cap) ∧ 0 ≤ x15 ∧
    x15 < (l17.len : Int) ∧ ∃ a18, l17.a = some a18 ∧ ∃ n19 : Int, w16.cell? (Addr.add a18 (x15.toNat * 1)) = some (.int .u64 n19) ∧
    Calls Try.prog 114 #[.int .u64 n19] w16 (Rv fun v20 w21 => ∃ n22 : Int, v20 = .int .i64 n22 ∧
    ∃ n23 : Int, w21.cell? (Addr.add ⟨w8.heap.size, 0, none⟩ 4) = some (.int .i64 n23) ∧ ∃ (I24 : World → Prop) (μ25 : World → Nat), I24 w21 ∧
    ∀ w26 : World, I24 w26 → ∃ l27 : Slc, w26.cell? (Addr.add ⟨w8.heap.size, 0, none⟩ 2) = some (.slice l27.a l27.len l27.cap) ∧
    br (decide ((IntKind.i64.wrap ((l27.len : Int) * 64)) < (IntKind.i64.wrap (x13 + n22)))) (∃ l28 : Slc, w26.cell? (Addr.add ⟨w8.heap.size, 0, none⟩ 2) = some (.slice l28.a l28.len l28.cap) ∧
    ∃ w29 : World, ∃ l30 : Slc, (Builtin.append_ #[136, 136] 136 #[.slice l28.a l28.len l28.cap, .slice (some ⟨w26.heap.size, 0, none⟩) 1 1]).run Try.prog (w26.alloc (.cells #[.int .i32 (IntKind.i32.wrap x15)] 21)) = .ok (.slice l30.a l30.len l30.cap) w29 ∧
    (∃ u, w29.cell? (Addr.add ⟨w8.heap.size, 0, none⟩ 2) = some u) ∧ w29.frozen? (Addr.add ⟨w8.heap.size, 0, none⟩ 2) = false ∧
    I24 (w29.setCell (Addr.add ⟨w8.heap.size, 0, none⟩ 2) (.slice l30.a l30.len l30.cap)) ∧
    μ25 (w29.setCell (Addr.add ⟨w8.heap.size, 0, none⟩ 2) (.slice l30.a l30.len l30.cap)) < μ25 w26) (∃ (I31 : World → Prop) (μ32 : World → Nat), I31 w26 ∧
    ∀ w33 : World, I31 w33 → ∃ l34 : Slc, w33.cell? (Addr.add ⟨w8.heap.size, 0, none⟩ 3) = some (.slice l34.a l34.len l34.cap) ∧
    br (decide ((IntKind.i64.wrap ((l34.len : Int) * 64)) < (IntKind.i64.wrap (x14 + (IntKind.i64.wrap ((min (64 : Int) (IntKind.i64.wrap (n23 - (IntKind.i64.wrap (x15 * 64))))) - n22)))))) (∃ l35 : Slc, w33.cell? (Addr.add ⟨w8.heap.size, 0, none⟩ 3) = some (.slice l35.a l35.len l35.cap) ∧
    ∃ w36 : World, ∃ l37 : Slc, (Builtin.append_ #[136, 136] 136 #[.slice l35.a l35.len l35.cap, .slice (some ⟨w33.heap.size, 0, none⟩) 1 1]).run Try.prog (w33.alloc (.cells #[.int .i32 (IntKind.i32.wrap x15)] 21)) = .ok (.slice l37.a l37.len l37.cap) w36 ∧
    (∃ u, w36.cell? (Addr.add ⟨w8.heap.size, 0, none⟩ 3) = some u) ∧ w36.frozen? (Addr.add ⟨w8.heap.size, 0, none⟩ 3) = false ∧
    I31 (w36.setCell (Addr.add ⟨w8.heap.size, 0, none⟩ 3) (.slice l37.a l37.len l37.cap)) ∧
    μ32 (w36.setCell (Addr.add ⟨w8.heap.size, 0, none⟩ 3) (.slice l37.a l37.len l37.cap)) < μ32 w33) (I11 (IntKind.i64.wrap (x13 + n22)) (IntKind.i64.wrap (x14 + (IntKind.i64.wrap ((min (64 : Int) (IntKind.i64.wrap (n23 - (IntKind.i64.wrap (x15 * 64))))) - n22)))) (IntKind.i64.wrap (x15 + 1)) w33 ∧
    μ12 (IntKind.i64.wrap (x13 + n22)) (IntKind.i64.wrap (x14 + (IntKind.i64.wrap ((min (64 : Int) (IntKind.i64.wrap (n23 - (IntKind.i64.wrap (x15 * 64))))) - n22)))) (IntKind.i64.wrap (x15 + 1)) w33 < μ12 x13 x14 x15 w16)))) (R (.pointer (some ⟨w8.heap.size, 0, none⟩)) w16))))
theorem B96_eq : @B96 = fun (a_0 : Addr) (w : World) (R : Value → World → Prop) => trF Try.prog G (lk [(4, [(4, .int .i64), (5, .int .i64), (22, .int .i64)]), (8, []), (10, [])]) Try.f96 [.pointer (some a_0)] w R := by kernel_rfl
theorem c96 (a_0 : Addr) (w : World) (R : Value → World → Prop) (h : B96 a_0 w R) : Calls Try.prog 96 #[.pointer (some a_0)] w (Rv R) := calls_of_tr (L := lk [(4, [(4, .int .i64), (5, .int .i64), (22, .int .i64)]), (8, []), (10, [])]) Try.func96 hG hM (by rw [B96_eq] at h; exact h)

/-- (*locution/seldir.Dir).One -/
def B97 (a_0 : Addr) (x_1 : Int) (w : World) (R : Value → World → Prop) : Prop :=
  
    br (decide (x_1 < (0 : Int))) (R (.int .i64 (-1)) (w.alloc (.cells #[.pointer (some a_0)] 103))) (∃ p1 : Option Addr, (w.alloc (.cells #[.pointer (some a_0)] 103)).cell? ⟨w.heap.size, 0, none⟩ = some (.pointer p1) ∧
    Calls Try.prog 115 #[.pointer p1] (w.alloc (.cells #[.pointer (some a_0)] 103)) (Rv fun v2 w3 => ∃ n4 : Int, v2 = .int .i64 n4 ∧
    br (decide (n4 ≤ x_1)) (R (.int .i64 (-1)) w3) (∃ p5 : Option Addr, (World.drew w3).cell? ⟨w.heap.size, 0, none⟩ = some (.pointer p5) ∧
    ∃ p6 : Option Addr, (World.drew w3).cell? ⟨w.heap.size, 0, none⟩ = some (.pointer p6) ∧ wa p6 fun a7 =>
    ∃ l8 : Slc, (World.drew w3).cell? (Addr.add a7 2) = some (.slice l8.a l8.len l8.cap) ∧
    Calls Try.prog 116 #[.pointer p5, .slice l8.a l8.len l8.cap, .int .i64 x_1] (World.drew w3) (Rv fun v9 w10 =>
    ∃ n11 : Int, ∃ n12 : Int, v9 = .tuple #[.int .i64 n11, .int .i64 n12] ∧
    Calls Try.prog 117 #[.int .i64 n11, .int .i64 n12, .int .i64 x_1, .func (.func 118) #[] #[.pointer (some ⟨w.heap.size, 0, none⟩)]] w10 (Rv fun v13 w14 =>
    ∃ n15 : Int, v13 = .int .i64 n15 ∧ ∃ p16 : Option Addr, (World.drew w14).cell? ⟨w.heap.size, 0, none⟩ = some (.pointer p16) ∧ wa p16 fun a17 =>
    ∃ l18 : Slc, (World.drew w14).cell? (Addr.add a17 0) = some (.slice l18.a l18.len l18.cap) ∧ 0 ≤ n15 ∧ n15 < (l18.len : Int) ∧ ∃ a19, l18.a = some a19 ∧
    ∃ n20 : Int, (World.drew w14).cell? (Addr.add a19 (n15.toNat * 1)) = some (.int .u64 n20) ∧
    ∃ p21 : Option Addr, (World.drew w14).cell? ⟨w.heap.size, 0, none⟩ = some (.pointer p21) ∧ wa p21 fun a22 =>
    ∃ p23 : Option Addr, (World.drew w14).cell? (Addr.add a22 1) = some (.pointer p23) ∧
    Calls Try.prog 119 #[.pointer p23, .int .i64 (IntKind.i64.wrap (n15 * 64))] (World.drew w14) (Rv fun v24 w25 => ∃ n26 : Int, v24 = .int .i64 n26 ∧
    w25.cell? (Addr.add a19 (n15.toNat * 1)) = some (.int .u64 n20) ∧ w25.cell? (Addr.add a17 0) = some (.slice l18.a l18.len l18.cap) ∧
    w25.cell? ⟨w.heap.size, 0, none⟩ = some (.pointer p16) ∧ Calls Try.prog 120 #[.int .u64 n20, .int .i64 (IntKind.i64.wrap (x_1 - n26))] w25 (Rv fun v27 w28 =>
    ∃ n29 : Int, v27 = .int .i64 n29 ∧ R (.int .i64 (IntKind.i64.wrap ((IntKind.i64.wrap (n15 * 64)) + n29))) w28)))))))
theorem B97_eq : @B97 = fun (a_0 : Addr) (x_1 : Int) (w : World) (R : Value → World → Prop) => trF Try.prog G (lk []) Try.f97 [.pointer (some a_0), .int .i64 x_1] w R := by kernel_rfl
theorem c97 (a_0 : Addr) (x_1 : Int) (w : World) (R : Value → World → Prop) (h : B97 a_0 x_1 w R) : Calls Try.prog 97 #[.pointer (some a_0), .int .i64 x_1] w (Rv R) := calls_of_tr (L := lk []) Try.func97 hG hM (by rw [B97_eq] at h; exact h)

/-- (*locution/seldir.Dir).Ones -/
def B115 (a_0 : Addr) (w : World) (R : Value → World → Prop) : Prop :=
  ∃ p1 : Option Addr, (World.drew w).cell? (Addr.add a_0 1) = some (.pointer p1) ∧ ∃ n2 : Int, (World.drew w).cell? (Addr.add a_0 4) = some (.int .i64 n2) ∧
    Calls Try.prog 119 #[.pointer p1, .int .i64 n2] (World.drew w) (Rv fun v3 w4 => ∃ n5 : Int, v3 = .int .i64 n5 ∧ R (.int .i64 n5) w4)
theorem B115_eq : @B115 = fun (a_0 : Addr) (w : World) (R : Value → World → Prop) => trF Try.prog G (lk []) Try.f115 [.pointer (some a_0)] w R := by kernel_rfl
theorem c115 (a_0 : Addr) (w : World) (R : Value → World → Prop) (h : B115 a_0 w R) : Calls Try.prog 115 #[.pointer (some a_0)] w (Rv R) := calls_of_tr (L := lk []) Try.func115 hG hM (by rw [B115_eq] at h; exact h)

/-- (*locution/seldir.Dir).span -/
def B116 (a_0 : Addr) (x_1 : Slc) (x_2 : Int) (w : World) (R : Value → World → Prop) : Prop :=
  (64 : Int) ≠ 0 ∧ 0 ≤ (IntKind.i64.wrap (Int.tdiv x_2 64)) ∧ (IntKind.i64.wrap (Int.tdiv x_2 64)) < (x_1.len : Int) ∧ ∃ a1, x_1.a = some a1 ∧
    ∃ n2 : Int, (World.drew w).cell? (Addr.add a1 ((IntKind.i64.wrap (Int.tdiv x_2 64)).toNat * 1)) = some (.int .i32 n2) ∧
    ∃ l3 : Slc, (World.drew w).cell? (Addr.add a_0 0) = some (.slice l3.a l3.len l3.cap) ∧ (64 : Int) ≠ 0 ∧
    br (decide ((IntKind.i64.wrap ((IntKind.i64.wrap (Int.tdiv x_2 64)) + 1)) < (x_1.len : Int))) ((64 : Int) ≠ 0 ∧
    0 ≤ (IntKind.i64.wrap ((IntKind.i64.wrap (Int.tdiv x_2 64)) + 1)) ∧ (IntKind.i64.wrap ((IntKind.i64.wrap (Int.tdiv x_2 64)) + 1)) < (x_1.len : Int) ∧
    ∃ a4, x_1.a = some a4 ∧
    ∃ n5 : Int, (World.drew w).cell? (Addr.add a4 ((IntKind.i64.wrap ((IntKind.i64.wrap (Int.tdiv x_2 64)) + 1)).toNat * 1)) = some (.int .i32 n5) ∧
    R (.tuple #[.int .i64 (IntKind.i64.wrap n2), .int .i64 (IntKind.i64.wrap ((IntKind.i64.wrap n5) + 1))]) (World.drew w)) (R (.tuple #[.int .i64 (IntKind.i64.wrap n2), .int .i64 (l3.len : Int)]) (World.drew w))
theorem B116_eq : @B116 = fun (a_0 : Addr) (x_1 : Slc) (x_2 : Int) (w : World) (R : Value → World → Prop) => trF Try.prog G (lk []) Try.f116 [.pointer (some a_0), .slice x_1.a x_1.len x_1.cap, .int .i64 x_2] w R := by kernel_rfl
theorem c116 (a_0 : Addr) (x_1 : Slc) (x_2 : Int) (w : World) (R : Value → World → Prop) (h : B116 a_0 x_1 x_2 w R) : Calls Try.prog 116 #[.pointer (some a_0), .slice x_1.a x_1.len x_1.cap, .int .i64 x_2] w (Rv R) := calls_of_tr (L := lk []) Try.func116 hG hM (by rw [B116_eq] at h; exact h)

/-- locution/seldir.search -/
def B117 (x_0 : Int) (x_1 : Int) (x_2 : Int) (x_3 : Value) (w : World) (R : Value → World → Prop) : Prop :=
  ∃ (I1 : Int → Int → World → Prop) (μ2 : Int → Int → World → Nat), I1 x_0 x_1 w ∧ ∀ x3 : Int, ∀ x4 : Int, ∀ w5 : World, I1 x3 x4 w5 →
    br (decide ((1 : Int) < (IntKind.i64.wrap (x4 - x3)))) ((2 : Int) ≠ 0 ∧
    CallFV Try.prog G x_3 [.int .i64 (IntKind.i64.wrap ((IntKind.i64.wrap (x3 + (IntKind.i64.wrap (Int.tdiv (IntKind.i64.wrap (x4 - x3)) 2)))) * 64))] w5 fun v6 w7 =>
    ∃ n8 : Int, v6 = .int .i64 n8 ∧ br (decide (n8 ≤ x_2)) (I1 (IntKind.i64.wrap (x3 + (IntKind.i64.wrap (Int.tdiv (IntKind.i64.wrap (x4 - x3)) 2)))) x4 w7 ∧
    μ2 (IntKind.i64.wrap (x3 + (IntKind.i64.wrap (Int.tdiv (IntKind.i64.wrap (x4 - x3)) 2)))) x4 w7 < μ2 x3 x4 w5) (I1 x3 (IntKind.i64.wrap (x3 + (IntKind.i64.wrap (Int.tdiv (IntKind.i64.wrap (x4 - x3)) 2)))) w7 ∧
    μ2 x3 (IntKind.i64.wrap (x3 + (IntKind.i64.wrap (Int.tdiv (IntKind.i64.wrap (x4 - x3)) 2)))) w7 < μ2 x3 x4 w5)) (R (.int .i64 x3) w5)
theorem B117_eq : @B117 = fun (x_0 : Int) (x_1 : Int) (x_2 : Int) (x_3 : Value) (w : World) (R : Value → World → Prop) => trF Try.prog G (lk [(1, [(0, .int .i64), (1, .int .i64)])]) Try.f117 [.int .i64 x_0, .int .i64 x_1, .int .i64 x_2, x_3] w R := by kernel_rfl
theorem c117 (x_0 : Int) (x_1 : Int) (x_2 : Int) (x_3 : Value) (w : World) (R : Value → World → Prop) (h : B117 x_0 x_1 x_2 x_3 w R) : Calls Try.prog 117 #[.int .i64 x_0, .int .i64 x_1, .int .i64 x_2, x_3] w (Rv R) := calls_of_tr (L := lk [(1, [(0, .int .i64), (1, .int .i64)])]) Try.func117 hG hM (by rw [B117_eq] at h; exact h)

/-- (*locution/seldir.Dir).One$1 -/
def B118 (x_0 : Int) (a_1 : Addr) (w : World) (R : Value → World → Prop) : Prop :=
  ∃ p1 : Option Addr, w.cell? a_1 = some (.pointer p1) ∧ wa p1 fun a2 => ∃ p3 : Option Addr, w.cell? (Addr.add a2 1) = some (.pointer p3) ∧
    Calls Try.prog 119 #[.pointer p3, .int .i64 x_0] w (Rv fun v4 w5 => ∃ n6 : Int, v4 = .int .i64 n6 ∧ R (.int .i64 n6) w5)
theorem B118_eq : @B118 = fun (x_0 : Int) (a_1 : Addr) (w : World) (R : Value → World → Prop) => trF Try.prog G (lk []) Try.f118 [.int .i64 x_0, .pointer (some a_1)] w R := by kernel_rfl
theorem c118 (x_0 : Int) (a_1 : Addr) (w : World) (R : Value → World → Prop) (h : B118 x_0 a_1 w R) : Calls Try.prog 118 #[.int .i64 x_0, .pointer (some a_1)] w (Rv R) := calls_of_tr (L := lk []) Try.func118 hG hM (by rw [B118_eq] at h; exact h)

/-- (*locution/seldir.Dir).Zero -/
def B124 (a_0 : Addr) (x_1 : Int) (w : World) (R : Value → World → Prop) : Prop :=
  ∃ p1 : Option Addr, (World.drew (w.alloc (.cells #[.pointer (some a_0)] 103))).cell? ⟨w.heap.size, 0, none⟩ = some (.pointer p1) ∧
    br p1.isNone (R (.int .i64 (-1)) (World.drew (w.alloc (.cells #[.pointer (some a_0)] 103)))) (br (decide (x_1 < (0 : Int))) (R (.int .i64 (-1)) (World.drew (w.alloc (.cells #[.pointer (some a_0)] 103)))) (∃ p2 : Option Addr, (World.drew (w.alloc (.cells #[.pointer (some a_0)] 103))).cell? ⟨w.heap.size, 0, none⟩ = some (.pointer p2) ∧
    wa p2 fun a3 => ∃ p4 : Option Addr, (World.drew (w.alloc (.cells #[.pointer (some a_0)] 103))).cell? (Addr.add a3 1) = some (.pointer p4) ∧
    ∃ p5 : Option Addr, (World.drew (w.alloc (.cells #[.pointer (some a_0)] 103))).cell? ⟨w.heap.size, 0, none⟩ = some (.pointer p5) ∧ wa p5 fun a6 =>
    ∃ n7 : Int, (World.drew (w.alloc (.cells #[.pointer (some a_0)] 103))).cell? (Addr.add a6 4) = some (.int .i64 n7) ∧
    Calls Try.prog 132 #[.pointer p4, .int .i64 n7] (World.drew (w.alloc (.cells #[.pointer (some a_0)] 103))) (Rv fun v8 w9 => ∃ n10 : Int, v8 = .int .i64 n10 ∧
    br (decide (n10 ≤ x_1)) (R (.int .i64 (-1)) w9) (∃ p11 : Option Addr, (World.drew w9).cell? ⟨w.heap.size, 0, none⟩ = some (.pointer p11) ∧
    ∃ p12 : Option Addr, (World.drew w9).cell? ⟨w.heap.size, 0, none⟩ = some (.pointer p12) ∧ wa p12 fun a13 =>
    ∃ l14 : Slc, (World.drew w9).cell? (Addr.add a13 3) = some (.slice l14.a l14.len l14.cap) ∧
    Calls Try.prog 116 #[.pointer p11, .slice l14.a l14.len l14.cap, .int .i64 x_1] (World.drew w9) (Rv fun v15 w16 =>
    ∃ n17 : Int, ∃ n18 : Int, v15 = .tuple #[.int .i64 n17, .int .i64 n18] ∧
    Calls Try.prog 117 #[.int .i64 n17, .int .i64 n18, .int .i64 x_1, .func (.func 133) #[] #[.pointer (some ⟨w.heap.size, 0, none⟩)]] w16 (Rv fun v19 w20 =>
    ∃ n21 : Int, v19 = .int .i64 n21 ∧ ∃ p22 : Option Addr, (World.drew w20).cell? ⟨w.heap.size, 0, none⟩ = some (.pointer p22) ∧ wa p22 fun a23 =>
    ∃ l24 : Slc, (World.drew w20).cell? (Addr.add a23 0) = some (.slice l24.a l24.len l24.cap) ∧ 0 ≤ n21 ∧ n21 < (l24.len : Int) ∧ ∃ a25, l24.a = some a25 ∧
    ∃ n26 : Int, (World.drew w20).cell? (Addr.add a25 (n21.toNat * 1)) = some (.int .u64 n26) ∧
    ∃ p27 : Option Addr, (World.drew w20).cell? ⟨w.heap.size, 0, none⟩ = some (.pointer p27) ∧ wa p27 fun a28 =>
    ∃ p29 : Option Addr, (World.drew w20).cell? (Addr.add a28 1) = some (.pointer p29) ∧
    Calls Try.prog 132 #[.pointer p29, .int .i64 (IntKind.i64.wrap (n21 * 64))] (World.drew w20) (Rv fun v30 w31 => ∃ n32 : Int, v30 = .int .i64 n32 ∧
    w31.cell? (Addr.add a25 (n21.toNat * 1)) = some (.int .u64 n26) ∧ w31.cell? (Addr.add a23 0) = some (.slice l24.a l24.len l24.cap) ∧
    w31.cell? ⟨w.heap.size, 0, none⟩ = some (.pointer p22) ∧
    Calls Try.prog 120 #[.int .u64 (bXor .u64 (if IntKind.u64.signed then -1 else IntKind.u64.max) n26), .int .i64 (IntKind.i64.wrap (x_1 - n32))] w31 (Rv fun v33 w34 =>
    ∃ n35 : Int, v33 = .int .i64 n35 ∧ R (.int .i64 (IntKind.i64.wrap ((IntKind.i64.wrap (n21 * 64)) + n35))) w34))))))))
theorem B124_eq : @B124 = fun (a_0 : Addr) (x_1 : Int) (w : World) (R : Value → World → Prop) => trF Try.prog G (lk []) Try.f124 [.pointer (some a_0), .int .i64 x_1] w R := by kernel_rfl
theorem c124 (a_0 : Addr) (x_1 : Int) (w : World) (R : Value → World → Prop) (h : B124 a_0 x_1 w R) : Calls Try.prog 124 #[.pointer (some a_0), .int .i64 x_1] w (Rv R) := calls_of_tr (L := lk []) Try.func124 hG hM (by rw [B124_eq] at h; exact h)

/-- (*locution/seldir.Dir).Zero$1 -/
def B133 (x_0 : Int) (a_1 : Addr) (w : World) (R : Value → World → Prop) : Prop :=
  ∃ p1 : Option Addr, w.cell? a_1 = some (.pointer p1) ∧ wa p1 fun a2 => ∃ p3 : Option Addr, w.cell? (Addr.add a2 1) = some (.pointer p3) ∧
    Calls Try.prog 132 #[.pointer p3, .int .i64 x_0] w (Rv fun v4 w5 => ∃ n6 : Int, v4 = .int .i64 n6 ∧ R (.int .i64 n6) w5)
theorem B133_eq : @B133 = fun (x_0 : Int) (a_1 : Addr) (w : World) (R : Value → World → Prop) => trF Try.prog G (lk []) Try.f133 [.int .i64 x_0, .pointer (some a_1)] w R := by kernel_rfl
theorem c133 (x_0 : Int) (a_1 : Addr) (w : World) (R : Value → World → Prop) (h : B133 x_0 a_1 w R) : Calls Try.prog 133 #[.int .i64 x_0, .pointer (some a_1)] w (Rv R) := calls_of_tr (L := lk []) Try.func133 hG hM (by rw [B133_eq] at h; exact h)

/-- (*locution/seldir.Dir).Ones -/
def B115n  (w : World) (R : Value → World → Prop) : Prop :=
  R (.int .i64 0) w
theorem B115n_eq : @B115n = fun (w : World) (R : Value → World → Prop) => trF Try.prog G (lk []) Try.f115 [.pointer none] w R := by kernel_rfl
theorem c115n  (w : World) (R : Value → World → Prop) (h : B115n  w R) : Calls Try.prog 115 #[.pointer none] w (Rv R) := calls_of_tr (L := lk []) Try.func115 hG hM (by rw [B115n_eq] at h; exact h)

/-- (*locution/seldir.Dir).One -/
def B97n (x_1 : Int) (w : World) (R : Value → World → Prop) : Prop :=
  
    br (decide (x_1 < (0 : Int))) (R (.int .i64 (-1)) (w.alloc (.cells #[.pointer none] 103))) (∃ p1 : Option Addr, (w.alloc (.cells #[.pointer none] 103)).cell? ⟨w.heap.size, 0, none⟩ = some (.pointer p1) ∧
    Calls Try.prog 115 #[.pointer p1] (w.alloc (.cells #[.pointer none] 103)) (Rv fun v2 w3 => ∃ n4 : Int, v2 = .int .i64 n4 ∧
    br (decide (n4 ≤ x_1)) (R (.int .i64 (-1)) w3) (∃ p5 : Option Addr, (World.drew w3).cell? ⟨w.heap.size, 0, none⟩ = some (.pointer p5) ∧
    ∃ p6 : Option Addr, (World.drew w3).cell? ⟨w.heap.size, 0, none⟩ = some (.pointer p6) ∧ wa p6 fun a7 =>
    ∃ l8 : Slc, (World.drew w3).cell? (Addr.add a7 2) = some (.slice l8.a l8.len l8.cap) ∧
    Calls Try.prog 116 #[.pointer p5, .slice l8.a l8.len l8.cap, .int .i64 x_1] (World.drew w3) (Rv fun v9 w10 =>
    ∃ n11 : Int, ∃ n12 : Int, v9 = .tuple #[.int .i64 n11, .int .i64 n12] ∧
    Calls Try.prog 117 #[.int .i64 n11, .int .i64 n12, .int .i64 x_1, .func (.func 118) #[] #[.pointer (some ⟨w.heap.size, 0, none⟩)]] w10 (Rv fun v13 w14 =>
    ∃ n15 : Int, v13 = .int .i64 n15 ∧ ∃ p16 : Option Addr, (World.drew w14).cell? ⟨w.heap.size, 0, none⟩ = some (.pointer p16) ∧ wa p16 fun a17 =>
    ∃ l18 : Slc, (World.drew w14).cell? (Addr.add a17 0) = some (.slice l18.a l18.len l18.cap) ∧ 0 ≤ n15 ∧ n15 < (l18.len : Int) ∧ ∃ a19, l18.a = some a19 ∧
    ∃ n20 : Int, (World.drew w14).cell? (Addr.add a19 (n15.toNat * 1)) = some (.int .u64 n20) ∧
    ∃ p21 : Option Addr, (World.drew w14).cell? ⟨w.heap.size, 0, none⟩ = some (.pointer p21) ∧ wa p21 fun a22 =>
    ∃ p23 : Option Addr, (World.drew w14).cell? (Addr.add a22 1) = some (.pointer p23) ∧
    Calls Try.prog 119 #[.pointer p23, .int .i64 (IntKind.i64.wrap (n15 * 64))] (World.drew w14) (Rv fun v24 w25 => ∃ n26 : Int, v24 = .int .i64 n26 ∧
    w25.cell? (Addr.add a19 (n15.toNat * 1)) = some (.int .u64 n20) ∧ w25.cell? (Addr.add a17 0) = some (.slice l18.a l18.len l18.cap) ∧
    w25.cell? ⟨w.heap.size, 0, none⟩ = some (.pointer p16) ∧ Calls Try.prog 120 #[.int .u64 n20, .int .i64 (IntKind.i64.wrap (x_1 - n26))] w25 (Rv fun v27 w28 =>
    ∃ n29 : Int, v27 = .int .i64 n29 ∧ R (.int .i64 (IntKind.i64.wrap ((IntKind.i64.wrap (n15 * 64)) + n29))) w28)))))))
theorem B97n_eq : @B97n = fun (x_1 : Int) (w : World) (R : Value → World → Prop) => trF Try.prog G (lk []) Try.f97 [.pointer none, .int .i64 x_1] w R := by kernel_rfl
theorem c97n (x_1 : Int) (w : World) (R : Value → World → Prop) (h : B97n x_1 w R) : Calls Try.prog 97 #[.pointer none, .int .i64 x_1] w (Rv R) := calls_of_tr (L := lk []) Try.func97 hG hM (by rw [B97n_eq] at h; exact h)

/-- (*locution/seldir.Dir).Zero -/
def B124n (x_1 : Int) (w : World) (R : Value → World → Prop) : Prop :=
  ∃ p1 : Option Addr, (World.drew (w.alloc (.cells #[.pointer none] 103))).cell? ⟨w.heap.size, 0, none⟩ = some (.pointer p1) ∧
    br p1.isNone (R (.int .i64 (-1)) (World.drew (w.alloc (.cells #[.pointer none] 103)))) (br (decide (x_1 < (0 : Int))) (R (.int .i64 (-1)) (World.drew (w.alloc (.cells #[.pointer none] 103)))) (∃ p2 : Option Addr, (World.drew (w.alloc (.cells #[.pointer none] 103))).cell? ⟨w.heap.size, 0, none⟩ = some (.pointer p2) ∧
    wa p2 fun a3 => ∃ p4 : Option Addr, (World.drew (w.alloc (.cells #[.pointer none] 103))).cell? (Addr.add a3 1) = some (.pointer p4) ∧
    ∃ p5 : Option Addr, (World.drew (w.alloc (.cells #[.pointer none] 103))).cell? ⟨w.heap.size, 0, none⟩ = some (.pointer p5) ∧ wa p5 fun a6 =>
    ∃ n7 : Int, (World.drew (w.alloc (.cells #[.pointer none] 103))).cell? (Addr.add a6 4) = some (.int .i64 n7) ∧
    Calls Try.prog 132 #[.pointer p4, .int .i64 n7] (World.drew (w.alloc (.cells #[.pointer none] 103))) (Rv fun v8 w9 => ∃ n10 : Int, v8 = .int .i64 n10 ∧
    br (decide (n10 ≤ x_1)) (R (.int .i64 (-1)) w9) (∃ p11 : Option Addr, (World.drew w9).cell? ⟨w.heap.size, 0, none⟩ = some (.pointer p11) ∧
    ∃ p12 : Option Addr, (World.drew w9).cell? ⟨w.heap.size, 0, none⟩ = some (.pointer p12) ∧ wa p12 fun a13 =>
    ∃ l14 : Slc, (World.drew w9).cell? (Addr.add a13 3) = some (.slice l14.a l14.len l14.cap) ∧
    Calls Try.prog 116 #[.pointer p11, .slice l14.a l14.len l14.cap, .int .i64 x_1] (World.drew w9) (Rv fun v15 w16 =>
    ∃ n17 : Int, ∃ n18 : Int, v15 = .tuple #[.int .i64 n17, .int .i64 n18] ∧
    Calls Try.prog 117 #[.int .i64 n17, .int .i64 n18, .int .i64 x_1, .func (.func 133) #[] #[.pointer (some ⟨w.heap.size, 0, none⟩)]] w16 (Rv fun v19 w20 =>
    ∃ n21 : Int, v19 = .int .i64 n21 ∧ ∃ p22 : Option Addr, (World.drew w20).cell? ⟨w.heap.size, 0, none⟩ = some (.pointer p22) ∧ wa p22 fun a23 =>
    ∃ l24 : Slc, (World.drew w20).cell? (Addr.add a23 0) = some (.slice l24.a l24.len l24.cap) ∧ 0 ≤ n21 ∧ n21 < (l24.len : Int) ∧ ∃ a25, l24.a = some a25 ∧
    ∃ n26 : Int, (World.drew w20).cell? (Addr.add a25 (n21.toNat * 1)) = some (.int .u64 n26) ∧
    ∃ p27 : Option Addr, (World.drew w20).cell? ⟨w.heap.size, 0, none⟩ = some (.pointer p27) ∧ wa p27 fun a28 =>
    ∃ p29 : Option Addr, (World.drew w20).cell? (Addr.add a28 1) = some (.pointer p29) ∧
    Calls Try.prog 132 #[.pointer p29, .int .i64 (IntKind.i64.wrap (n21 * 64))] (World.drew w20) (Rv fun v30 w31 => ∃ n32 : Int, v30 = .int .i64 n32 ∧
    w31.cell? (Addr.add a25 (n21.toNat * 1)) = some (.int .u64 n26) ∧ w31.cell? (Addr.add a23 0) = some (.slice l24.a l24.len l24.cap) ∧
    w31.cell? ⟨w.heap.size, 0, none⟩ = some (.pointer p22) ∧
    Calls Try.prog 120 #[.int .u64 (bXor .u64 (if IntKind.u64.signed then -1 else IntKind.u64.max) n26), .int .i64 (IntKind.i64.wrap (x_1 - n32))] w31 (Rv fun v33 w34 =>
    ∃ n35 : Int, v33 = .int .i64 n35 ∧ R (.int .i64 (IntKind.i64.wrap ((IntKind.i64.wrap (n21 * 64)) + n35))) w34))))))))
theorem B124n_eq : @B124n = fun (x_1 : Int) (w : World) (R : Value → World → Prop) => trF Try.prog G (lk []) Try.f124 [.pointer none, .int .i64 x_1] w R := by kernel_rfl
theorem c124n (x_1 : Int) (w : World) (R : Value → World → Prop) (h : B124n x_1 w R) : Calls Try.prog 124 #[.pointer none, .int .i64 x_1] w (Rv R) := calls_of_tr (L := lk []) Try.func124 hG hM (by rw [B124n_eq] at h; exact h)

end Go.Proofs.Ytmpgklgjmkcpdaa.V
