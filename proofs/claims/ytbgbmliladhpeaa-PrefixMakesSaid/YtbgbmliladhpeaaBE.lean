/- The verification conditions of functions, printed by a program of this work (pr.py) and checked here by the kernel. -/
import Derived.Test.YtbgbmliladhpeaaBP
set_option maxRecDepth 100000
set_option linter.unusedVariables false
namespace Go.Proofs.Ytbgbmliladhpeaa.V
open Go Go.VC

/-- locution/elias.New -/
def B33 (x_0 : Slc) (w : World) (R : Value → World → Prop) : Prop :=
  Calls Try.prog 82 #[.slice x_0.a x_0.len x_0.cap] w (Rv fun v1 w2 => ∃ n3 : Int, v1 = .int .i64 n3 ∧
    br (!(decide (n3 = (0 : Int)))) (R (.tuple #[.pointer none, .int .i64 n3]) w2) (Calls Try.prog 71 #[] w2 (Rv fun v4 w5 => ∃ p6 : Option Addr, v4 = .pointer p6 ∧
    ∃ n7 : Int, (w5.alloc (.cells #[.int .i64 (x_0.len : Int), .int .i64 (-1), .int .i64 0, .pointer none, .pointer p6, .pointer none, .pointer none] 107)).cell? (Addr.add ⟨w5.heap.size, 0, none⟩ 0) = some (.int .i64 n7) ∧
    br (decide ((0 : Int) < n7)) (∃ n8 : Int, (w5.alloc (.cells #[.int .i64 (x_0.len : Int), .int .i64 (-1), .int .i64 0, .pointer none, .pointer p6, .pointer none, .pointer none] 107)).cell? (Addr.add ⟨w5.heap.size, 0, none⟩ 0) = some (.int .i64 n8) ∧
    0 ≤ (IntKind.i64.wrap (n8 - 1)) ∧ (IntKind.i64.wrap (n8 - 1)) < (x_0.len : Int) ∧ ∃ a9, x_0.a = some a9 ∧
    ∃ n10 : Int, (w5.alloc (.cells #[.int .i64 (x_0.len : Int), .int .i64 (-1), .int .i64 0, .pointer none, .pointer p6, .pointer none, .pointer none] 107)).cell? (Addr.add a9 ((IntKind.i64.wrap (n8 - 1)).toNat * 1)) = some (.int .i64 n10) ∧
    (∃ u, (w5.alloc (.cells #[.int .i64 (x_0.len : Int), .int .i64 (-1), .int .i64 0, .pointer none, .pointer p6, .pointer none, .pointer none] 107)).cell? (Addr.add ⟨w5.heap.size, 0, none⟩ 1) = some u) ∧
    (w5.alloc (.cells #[.int .i64 (x_0.len : Int), .int .i64 (-1), .int .i64 0, .pointer none, .pointer p6, .pointer none, .pointer none] 107)).frozen? (Addr.add ⟨w5.heap.size, 0, none⟩ 1) = false ∧
    ∃ n11 : Int, (World.drew ((w5.alloc (.cells #[.int .i64 (x_0.len : Int), .int .i64 (-1), .int .i64 0, .pointer none, .pointer p6, .pointer none, .pointer none] 107)).setCell (Addr.add ⟨w5.heap.size, 0, none⟩ 1) (.int .i64 n10))).cell? (Addr.add ⟨w5.heap.size, 0, none⟩ 0) = some (.int .i64 n11) ∧
    ∃ n12 : Int, (World.drew ((w5.alloc (.cells #[.int .i64 (x_0.len : Int), .int .i64 (-1), .int .i64 0, .pointer none, .pointer p6, .pointer none, .pointer none] 107)).setCell (Addr.add ⟨w5.heap.size, 0, none⟩ 1) (.int .i64 n10))).cell? (Addr.add ⟨w5.heap.size, 0, none⟩ 1) = some (.int .i64 n12) ∧
    Calls Try.prog 43 #[.int .i64 n11, .int .i64 n12] (World.drew ((w5.alloc (.cells #[.int .i64 (x_0.len : Int), .int .i64 (-1), .int .i64 0, .pointer none, .pointer p6, .pointer none, .pointer none] 107)).setCell (Addr.add ⟨w5.heap.size, 0, none⟩ 1) (.int .i64 n10))) (Rv fun v13 w14 =>
    ∃ n15 : Int, v13 = .int .i64 n15 ∧ (∃ u, w14.cell? (Addr.add ⟨w5.heap.size, 0, none⟩ 2) = some u) ∧ w14.frozen? (Addr.add ⟨w5.heap.size, 0, none⟩ 2) = false ∧
    ∃ w16 : World, ∃ l17 : Slc, (Instr.makeSlice 40 (.int .i64 (x_0.len : Int)) (.int .i64 (x_0.len : Int))).run Try.prog (w14.setCell (Addr.add ⟨w5.heap.size, 0, none⟩ 2) (.int .i64 n15)) = .ok (.slice l17.a l17.len l17.cap) w16 ∧
    ∃ (I18 : Int → Int → World → Prop) (μ19 : Int → Int → World → Nat), I18 (0 : Int) (0 : Int) w16 ∧ ∀ x20 : Int, ∀ x21 : Int, ∀ w22 : World, I18 x20 x21 w22 →
    br (decide (x21 < (x_0.len : Int))) (0 ≤ x21 ∧ x21 < (x_0.len : Int) ∧ ∃ a23, x_0.a = some a23 ∧
    ∃ n24 : Int, w22.cell? (Addr.add a23 (x21.toNat * 1)) = some (.int .i64 n24) ∧
    ∃ n25 : Int, w22.cell? (Addr.add ⟨w5.heap.size, 0, none⟩ 2) = some (.int .i64 n25) ∧ Calls Try.prog 83 #[.int .i64 n25] w22 (Rv fun v26 w27 =>
    ∃ n28 : Int, v26 = .int .u64 n28 ∧ 0 ≤ x21 ∧ x21 < (l17.len : Int) ∧ ∃ a29, l17.a = some a29 ∧ (∃ u, w27.cell? (Addr.add a29 (x21.toNat * 1)) = some u) ∧
    w27.frozen? (Addr.add a29 (x21.toNat * 1)) = false ∧
    ∃ n30 : Int, (w27.setCell (Addr.add a29 (x21.toNat * 1)) (.int .u64 (bAnd .u64 (IntKind.u64.wrap n24) n28))).cell? (Addr.add ⟨w5.heap.size, 0, none⟩ 2) = some (.int .i64 n30) ∧
    0 ≤ (IntKind.u64.wrap n30) ∧ ∃ (I31 : Int → World → Prop) (μ32 : Int → World →
    Nat), I31 (IntKind.i64.wrap ((shR .i64 n24 (IntKind.u64.wrap n30)) - x20)) (w27.setCell (Addr.add a29 (x21.toNat * 1)) (.int .u64 (bAnd .u64 (IntKind.u64.wrap n24) n28))) ∧
    ∀ x33 : Int, ∀ w34 : World, I31 x33 w34 →
    br (decide ((64 : Int) ≤ x33)) (∃ p35 : Option Addr, w34.cell? (Addr.add ⟨w5.heap.size, 0, none⟩ 4) = some (.pointer p35) ∧
    Calls Try.prog 30 #[.pointer p35, .int .u64 0, .int .i64 64] w34 (Rv fun v36 w37 => ∃ n38 : Int, v36 = .int .i64 n38 ∧ I31 (IntKind.i64.wrap (x33 - 64)) w37 ∧
    μ32 (IntKind.i64.wrap (x33 - 64)) w37 < μ32 x33 w34)) (∃ p39 : Option Addr, w34.cell? (Addr.add ⟨w5.heap.size, 0, none⟩ 4) = some (.pointer p39) ∧
    Calls Try.prog 30 #[.pointer p39, .int .u64 0, .int .i64 x33] w34 (Rv fun v40 w41 => ∃ n42 : Int, v40 = .int .i64 n42 ∧
    ∃ p43 : Option Addr, w41.cell? (Addr.add ⟨w5.heap.size, 0, none⟩ 4) = some (.pointer p43) ∧
    Calls Try.prog 30 #[.pointer p43, .int .u64 1, .int .i64 1] w41 (Rv fun v44 w45 => ∃ n46 : Int, v44 = .int .i64 n46 ∧
    I18 (IntKind.i64.wrap (x20 + (IntKind.i64.wrap ((shR .i64 n24 (IntKind.u64.wrap n30)) - x20)))) (IntKind.i64.wrap (x21 + 1)) w45 ∧
    μ19 (IntKind.i64.wrap (x20 + (IntKind.i64.wrap ((shR .i64 n24 (IntKind.u64.wrap n30)) - x20)))) (IntKind.i64.wrap (x21 + 1)) w45 < μ19 x20 x21 w22))))) (∃ n47 : Int, w22.cell? (Addr.add ⟨w5.heap.size, 0, none⟩ 2) = some (.int .i64 n47) ∧
    Calls Try.prog 84 #[.int .i64 n47, .slice l17.a l17.len l17.cap] w22 (Rv fun v48 w49 =>
    ∃ p50 : Option Addr, ∃ n51 : Int, v48 = .tuple #[.pointer p50, .int .i64 n51] ∧ (∃ u, w49.cell? (Addr.add ⟨w5.heap.size, 0, none⟩ 3) = some u) ∧
    w49.frozen? (Addr.add ⟨w5.heap.size, 0, none⟩ 3) = false ∧
    ∃ p52 : Option Addr, (w49.setCell (Addr.add ⟨w5.heap.size, 0, none⟩ 3) (.pointer p50)).cell? (Addr.add ⟨w5.heap.size, 0, none⟩ 4) = some (.pointer p52) ∧
    Calls Try.prog 85 #[.pointer p52] (w49.setCell (Addr.add ⟨w5.heap.size, 0, none⟩ 3) (.pointer p50)) (Rv fun v53 w54 => ∃ p55 : Option Addr, v53 = .pointer p55 ∧
    (∃ u, w54.cell? (Addr.add ⟨w5.heap.size, 0, none⟩ 5) = some u) ∧ w54.frozen? (Addr.add ⟨w5.heap.size, 0, none⟩ 5) = false ∧
    ∃ p56 : Option Addr, (w54.setCell (Addr.add ⟨w5.heap.size, 0, none⟩ 5) (.pointer p55)).cell? (Addr.add ⟨w5.heap.size, 0, none⟩ 4) = some (.pointer p56) ∧
    Calls Try.prog 86 #[.pointer p56] (w54.setCell (Addr.add ⟨w5.heap.size, 0, none⟩ 5) (.pointer p55)) (Rv fun v57 w58 => ∃ p59 : Option Addr, v57 = .pointer p59 ∧
    (∃ u, w58.cell? (Addr.add ⟨w5.heap.size, 0, none⟩ 6) = some u) ∧ w58.frozen? (Addr.add ⟨w5.heap.size, 0, none⟩ 6) = false ∧
    R (.tuple #[.pointer (some ⟨w5.heap.size, 0, none⟩), .int .i64 0]) (w58.setCell (Addr.add ⟨w5.heap.size, 0, none⟩ 6) (.pointer p59)))))))) (∃ n60 : Int, (World.drew (w5.alloc (.cells #[.int .i64 (x_0.len : Int), .int .i64 (-1), .int .i64 0, .pointer none, .pointer p6, .pointer none, .pointer none] 107))).cell? (Addr.add ⟨w5.heap.size, 0, none⟩ 0) = some (.int .i64 n60) ∧
    ∃ n61 : Int, (World.drew (w5.alloc (.cells #[.int .i64 (x_0.len : Int), .int .i64 (-1), .int .i64 0, .pointer none, .pointer p6, .pointer none, .pointer none] 107))).cell? (Addr.add ⟨w5.heap.size, 0, none⟩ 1) = some (.int .i64 n61) ∧
    Calls Try.prog 43 #[.int .i64 n60, .int .i64 n61] (World.drew (w5.alloc (.cells #[.int .i64 (x_0.len : Int), .int .i64 (-1), .int .i64 0, .pointer none, .pointer p6, .pointer none, .pointer none] 107))) (Rv fun v62 w63 =>
    ∃ n64 : Int, v62 = .int .i64 n64 ∧ (∃ u, w63.cell? (Addr.add ⟨w5.heap.size, 0, none⟩ 2) = some u) ∧ w63.frozen? (Addr.add ⟨w5.heap.size, 0, none⟩ 2) = false ∧
    ∃ w65 : World, ∃ l66 : Slc, (Instr.makeSlice 40 (.int .i64 (x_0.len : Int)) (.int .i64 (x_0.len : Int))).run Try.prog (w63.setCell (Addr.add ⟨w5.heap.size, 0, none⟩ 2) (.int .i64 n64)) = .ok (.slice l66.a l66.len l66.cap) w65 ∧
    ∃ (I67 : Int → Int → World → Prop) (μ68 : Int → Int → World → Nat), I67 (0 : Int) (0 : Int) w65 ∧ ∀ x69 : Int, ∀ x70 : Int, ∀ w71 : World, I67 x69 x70 w71 →
    br (decide (x70 < (x_0.len : Int))) (0 ≤ x70 ∧ x70 < (x_0.len : Int) ∧ ∃ a72, x_0.a = some a72 ∧
    ∃ n73 : Int, w71.cell? (Addr.add a72 (x70.toNat * 1)) = some (.int .i64 n73) ∧
    ∃ n74 : Int, w71.cell? (Addr.add ⟨w5.heap.size, 0, none⟩ 2) = some (.int .i64 n74) ∧ Calls Try.prog 83 #[.int .i64 n74] w71 (Rv fun v75 w76 =>
    ∃ n77 : Int, v75 = .int .u64 n77 ∧ 0 ≤ x70 ∧ x70 < (l66.len : Int) ∧ ∃ a78, l66.a = some a78 ∧ (∃ u, w76.cell? (Addr.add a78 (x70.toNat * 1)) = some u) ∧
    w76.frozen? (Addr.add a78 (x70.toNat * 1)) = false ∧
    ∃ n79 : Int, (w76.setCell (Addr.add a78 (x70.toNat * 1)) (.int .u64 (bAnd .u64 (IntKind.u64.wrap n73) n77))).cell? (Addr.add ⟨w5.heap.size, 0, none⟩ 2) = some (.int .i64 n79) ∧
    0 ≤ (IntKind.u64.wrap n79) ∧ ∃ (I80 : Int → World → Prop) (μ81 : Int → World →
    Nat), I80 (IntKind.i64.wrap ((shR .i64 n73 (IntKind.u64.wrap n79)) - x69)) (w76.setCell (Addr.add a78 (x70.toNat * 1)) (.int .u64 (bAnd .u64 (IntKind.u64.wrap n73) n77))) ∧
    ∀ x82 : Int, ∀ w83 : World, I80 x82 w83 →
    br (decide ((64 : Int) ≤ x82)) (∃ p84 : Option Addr, w83.cell? (Addr.add ⟨w5.heap.size, 0, none⟩ 4) = some (.pointer p84) ∧
    Calls Try.prog 30 #[.pointer p84, .int .u64 0, .int .i64 64] w83 (Rv fun v85 w86 => ∃ n87 : Int, v85 = .int .i64 n87 ∧ I80 (IntKind.i64.wrap (x82 - 64)) w86 ∧
    μ81 (IntKind.i64.wrap (x82 - 64)) w86 < μ81 x82 w83)) (∃ p88 : Option Addr, w83.cell? (Addr.add ⟨w5.heap.size, 0, none⟩ 4) = some (.pointer p88) ∧
    Calls Try.prog 30 #[.pointer p88, .int .u64 0, .int .i64 x82] w83 (Rv fun v89 w90 => ∃ n91 : Int, v89 = .int .i64 n91 ∧
    ∃ p92 : Option Addr, w90.cell? (Addr.add ⟨w5.heap.size, 0, none⟩ 4) = some (.pointer p92) ∧
    Calls Try.prog 30 #[.pointer p92, .int .u64 1, .int .i64 1] w90 (Rv fun v93 w94 => ∃ n95 : Int, v93 = .int .i64 n95 ∧
    I67 (IntKind.i64.wrap (x69 + (IntKind.i64.wrap ((shR .i64 n73 (IntKind.u64.wrap n79)) - x69)))) (IntKind.i64.wrap (x70 + 1)) w94 ∧
    μ68 (IntKind.i64.wrap (x69 + (IntKind.i64.wrap ((shR .i64 n73 (IntKind.u64.wrap n79)) - x69)))) (IntKind.i64.wrap (x70 + 1)) w94 < μ68 x69 x70 w71))))) (∃ n96 : Int, w71.cell? (Addr.add ⟨w5.heap.size, 0, none⟩ 2) = some (.int .i64 n96) ∧
    Calls Try.prog 84 #[.int .i64 n96, .slice l66.a l66.len l66.cap] w71 (Rv fun v97 w98 =>
    ∃ p99 : Option Addr, ∃ n100 : Int, v97 = .tuple #[.pointer p99, .int .i64 n100] ∧ (∃ u, w98.cell? (Addr.add ⟨w5.heap.size, 0, none⟩ 3) = some u) ∧
    w98.frozen? (Addr.add ⟨w5.heap.size, 0, none⟩ 3) = false ∧
    ∃ p101 : Option Addr, (w98.setCell (Addr.add ⟨w5.heap.size, 0, none⟩ 3) (.pointer p99)).cell? (Addr.add ⟨w5.heap.size, 0, none⟩ 4) = some (.pointer p101) ∧
    Calls Try.prog 85 #[.pointer p101] (w98.setCell (Addr.add ⟨w5.heap.size, 0, none⟩ 3) (.pointer p99)) (Rv fun v102 w103 =>
    ∃ p104 : Option Addr, v102 = .pointer p104 ∧ (∃ u, w103.cell? (Addr.add ⟨w5.heap.size, 0, none⟩ 5) = some u) ∧
    w103.frozen? (Addr.add ⟨w5.heap.size, 0, none⟩ 5) = false ∧
    ∃ p105 : Option Addr, (w103.setCell (Addr.add ⟨w5.heap.size, 0, none⟩ 5) (.pointer p104)).cell? (Addr.add ⟨w5.heap.size, 0, none⟩ 4) = some (.pointer p105) ∧
    Calls Try.prog 86 #[.pointer p105] (w103.setCell (Addr.add ⟨w5.heap.size, 0, none⟩ 5) (.pointer p104)) (Rv fun v106 w107 =>
    ∃ p108 : Option Addr, v106 = .pointer p108 ∧ (∃ u, w107.cell? (Addr.add ⟨w5.heap.size, 0, none⟩ 6) = some u) ∧
    w107.frozen? (Addr.add ⟨w5.heap.size, 0, none⟩ 6) = false ∧
    R (.tuple #[.pointer (some ⟨w5.heap.size, 0, none⟩), .int .i64 0]) (w107.setCell (Addr.add ⟨w5.heap.size, 0, none⟩ 6) (.pointer p108)))))))))))
theorem B33_eq : @B33 = fun (x_0 : Slc) (w : World) (R : Value → World → Prop) => trF Try.prog G (lk [(11, [(7, .int .i64), (54, .int .i64)]), (16, [(10, .int .i64)])]) Try.f33 [.slice x_0.a x_0.len x_0.cap] w R := by kernel_rfl
theorem c33 (x_0 : Slc) (w : World) (R : Value → World → Prop) (h : B33 x_0 w R) : Calls Try.prog 33 #[.slice x_0.a x_0.len x_0.cap] w (Rv R) := calls_of_tr (L := lk [(11, [(7, .int .i64), (54, .int .i64)]), (16, [(10, .int .i64)])]) Try.func33 hG hM (by rw [B33_eq] at h; exact h)

/-- (*locution/elias.Seq).Next -/
def B34 (a_0 : Addr) (x_1 : Int) (w : World) (R : Value → World → Prop) : Prop :=
  Calls Try.prog 45 #[.pointer (some a_0)] w (Rv fun v1 w2 => ∃ n3 : Int, v1 = .int .i64 n3 ∧
    br (decide (n3 = (0 : Int))) (R (.tuple #[.int .i64 (-1), .int .i64 (-1)]) w2) (∃ n4 : Int, w2.cell? (Addr.add a_0 1) = some (.int .i64 n4) ∧
    br (decide (n4 < x_1)) (R (.tuple #[.int .i64 (-1), .int .i64 (-1)]) w2) (∃ n5 : Int, w2.cell? (Addr.add a_0 2) = some (.int .i64 n5) ∧
    0 ≤ (IntKind.u64.wrap n5) ∧ Calls Try.prog 87 #[.pointer (some a_0), .int .i64 (shR .i64 (max x_1 (0 : Int)) (IntKind.u64.wrap n5))] w2 (Rv fun v6 w7 =>
    ∃ n8 : Int, v6 = .int .i64 n8 ∧
    Calls Try.prog 87 #[.pointer (some a_0), .int .i64 (IntKind.i64.wrap ((shR .i64 (max x_1 (0 : Int)) (IntKind.u64.wrap n5)) + 1))] w7 (Rv fun v9 w10 =>
    ∃ n11 : Int, v9 = .int .i64 n11 ∧ ∃ p12 : Option Addr, (World.drew w10).cell? (Addr.add a_0 3) = some (.pointer p12) ∧
    ∃ n13 : Int, (World.drew w10).cell? (Addr.add a_0 2) = some (.int .i64 n13) ∧ Calls Try.prog 83 #[.int .i64 n13] (World.drew w10) (Rv fun v14 w15 =>
    ∃ n16 : Int, v14 = .int .u64 n16 ∧ w15.cell? (Addr.add a_0 3) = some (.pointer p12) ∧
    Calls Try.prog 88 #[.pointer p12, .int .i64 n8, .int .i64 n11, .int .u64 (bAnd .u64 (IntKind.u64.wrap (max x_1 (0 : Int))) n16)] w15 (Rv fun v17 w18 =>
    ∃ n19 : Int, v17 = .int .i64 n19 ∧ br (decide (n19 < (0 : Int))) (Calls Try.prog 46 #[.pointer (some a_0), .int .i64 n11] w18 (Rv fun v20 w21 =>
    ∃ n22 : Int, v20 = .int .i64 n22 ∧ R (.tuple #[.int .i64 n11, .int .i64 n22]) w21)) (Calls Try.prog 46 #[.pointer (some a_0), .int .i64 n19] w18 (Rv fun v23 w24 =>
    ∃ n25 : Int, v23 = .int .i64 n25 ∧ R (.tuple #[.int .i64 n19, .int .i64 n25]) w24)))))))))
theorem B34_eq : @B34 = fun (a_0 : Addr) (x_1 : Int) (w : World) (R : Value → World → Prop) => trF Try.prog G (lk []) Try.f34 [.pointer (some a_0), .int .i64 x_1] w R := by kernel_rfl
theorem c34 (a_0 : Addr) (x_1 : Int) (w : World) (R : Value → World → Prop) (h : B34 a_0 x_1 w R) : Calls Try.prog 34 #[.pointer (some a_0), .int .i64 x_1] w (Rv R) := calls_of_tr (L := lk []) Try.func34 hG hM (by rw [B34_eq] at h; exact h)

/-- (*locution/elias.Seq).Ahead -/
def B35 (a_0 : Addr) (x_1 : Int) (w : World) (R : Value → World → Prop) : Prop :=
  Calls Try.prog 45 #[.pointer (some a_0)] w (Rv fun v1 w2 => ∃ n3 : Int, v1 = .int .i64 n3 ∧
    br (decide (n3 = (0 : Int))) (R (.tuple #[.int .i64 (-1), .int .i64 (-1)]) w2) (br (decide (x_1 < (0 : Int))) (R (.tuple #[.int .i64 (-1), .int .i64 (-1)]) w2) (∃ n4 : Int, w2.cell? (Addr.add a_0 0) = some (.int .i64 n4) ∧
    ∃ n5 : Int, w2.cell? (Addr.add a_0 1) = some (.int .i64 n5) ∧
    br (decide (x_1 < n5)) (Calls Try.prog 34 #[.pointer (some a_0), .int .i64 (IntKind.i64.wrap (x_1 + 1))] w2 (Rv fun v6 w7 =>
    ∃ n8 : Int, ∃ n9 : Int, v6 = .tuple #[.int .i64 n8, .int .i64 n9] ∧
    Calls Try.prog 46 #[.pointer (some a_0), .int .i64 (IntKind.i64.wrap (n8 - 1))] w7 (Rv fun v10 w11 => ∃ n12 : Int, v10 = .int .i64 n12 ∧
    R (.tuple #[.int .i64 (IntKind.i64.wrap (n8 - 1)), .int .i64 n12]) w11))) (Calls Try.prog 46 #[.pointer (some a_0), .int .i64 (IntKind.i64.wrap (n4 - 1))] w2 (Rv fun v13 w14 =>
    ∃ n15 : Int, v13 = .int .i64 n15 ∧ R (.tuple #[.int .i64 (IntKind.i64.wrap (n4 - 1)), .int .i64 n15]) w14)))))
theorem B35_eq : @B35 = fun (a_0 : Addr) (x_1 : Int) (w : World) (R : Value → World → Prop) => trF Try.prog G (lk []) Try.f35 [.pointer (some a_0), .int .i64 x_1] w R := by kernel_rfl
theorem c35 (a_0 : Addr) (x_1 : Int) (w : World) (R : Value → World → Prop) (h : B35 a_0 x_1 w R) : Calls Try.prog 35 #[.pointer (some a_0), .int .i64 x_1] w (Rv R) := calls_of_tr (L := lk []) Try.func35 hG hM (by rw [B35_eq] at h; exact h)

/-- (*locution/elias.Seq).Find -/
def B39 (a_0 : Addr) (x_1 : Int) (x_2 : Int) (x_3 : Int) (w : World) (R : Value → World → Prop) : Prop :=
  Calls Try.prog 34 #[.pointer (some a_0), .int .i64 x_3] w (Rv fun v1 w2 => ∃ n3 : Int, ∃ n4 : Int, v1 = .tuple #[.int .i64 n3, .int .i64 n4] ∧
    br (!(decide (n4 = x_3))) (R (.int .i64 (-1)) w2) (br (decide (n3 < (0 : Int))) (R (.int .i64 (-1)) w2) (∃ n5 : Int, w2.cell? (Addr.add a_0 0) = some (.int .i64 n5) ∧
    br (decide ((min x_2 n5) ≤ (max n3 x_1))) (R (.int .i64 (-1)) w2) (Calls Try.prog 46 #[.pointer (some a_0), .int .i64 (max n3 x_1)] w2 (Rv fun v6 w7 =>
    ∃ n8 : Int, v6 = .int .i64 n8 ∧ br (!(decide (n8 = x_3))) (R (.int .i64 (-1)) w7) (R (.int .i64 (max n3 x_1)) w7))))))
theorem B39_eq : @B39 = fun (a_0 : Addr) (x_1 : Int) (x_2 : Int) (x_3 : Int) (w : World) (R : Value → World → Prop) => trF Try.prog G (lk []) Try.f39 [.pointer (some a_0), .int .i64 x_1, .int .i64 x_2, .int .i64 x_3] w R := by kernel_rfl
theorem c39 (a_0 : Addr) (x_1 : Int) (x_2 : Int) (x_3 : Int) (w : World) (R : Value → World → Prop) (h : B39 a_0 x_1 x_2 x_3 w R) : Calls Try.prog 39 #[.pointer (some a_0), .int .i64 x_1, .int .i64 x_2, .int .i64 x_3] w (Rv R) := calls_of_tr (L := lk []) Try.func39 hG hM (by rw [B39_eq] at h; exact h)

/-- (*locution/elias.Seq).Size -/
def B41 (a_0 : Addr) (w : World) (R : Value → World → Prop) : Prop :=
  ∃ n1 : Int, (World.drew w).cell? (Addr.add a_0 0) = some (.int .i64 n1) ∧ ∃ n2 : Int, (World.drew w).cell? (Addr.add a_0 2) = some (.int .i64 n2) ∧
    ∃ p3 : Option Addr, (World.drew w).cell? (Addr.add a_0 4) = some (.pointer p3) ∧ Calls Try.prog 19 #[.pointer p3] (World.drew w) (Rv fun v4 w5 =>
    ∃ n6 : Int, v4 = .int .i64 n6 ∧ w5.cell? (Addr.add a_0 2) = some (.int .i64 n2) ∧ w5.cell? (Addr.add a_0 0) = some (.int .i64 n1) ∧
    R (.int .i64 (IntKind.i64.wrap ((IntKind.i64.wrap (n1 * n2)) + n6))) w5)
theorem B41_eq : @B41 = fun (a_0 : Addr) (w : World) (R : Value → World → Prop) => trF Try.prog G (lk []) Try.f41 [.pointer (some a_0)] w R := by kernel_rfl
theorem c41 (a_0 : Addr) (w : World) (R : Value → World → Prop) (h : B41 a_0 w R) : Calls Try.prog 41 #[.pointer (some a_0)] w (Rv R) := calls_of_tr (L := lk []) Try.func41 hG hM (by rw [B41_eq] at h; exact h)

/-- locution/elias.Low -/
def B43 (x_0 : Int) (x_1 : Int) (w : World) (R : Value → World → Prop) : Prop :=
  br (decide (x_0 < (1 : Int))) (R (.int .i64 0) w) (br (decide (x_1 < x_0)) (R (.int .i64 0) w) (x_0 ≠ 0 ∧
    Calls Try.prog 80 #[.int .u64 (IntKind.u64.wrap (IntKind.i64.wrap (Int.tdiv x_1 x_0)))] w (Rv fun v1 w2 => ∃ n3 : Int, v1 = .int .i64 n3 ∧
    R (.int .i64 (IntKind.i64.wrap (n3 - 1))) w2)))
theorem B43_eq : @B43 = fun (x_0 : Int) (x_1 : Int) (w : World) (R : Value → World → Prop) => trF Try.prog G (lk []) Try.f43 [.int .i64 x_0, .int .i64 x_1] w R := by kernel_rfl
theorem c43 (x_0 : Int) (x_1 : Int) (w : World) (R : Value → World → Prop) (h : B43 x_0 x_1 w R) : Calls Try.prog 43 #[.int .i64 x_0, .int .i64 x_1] w (Rv R) := calls_of_tr (L := lk []) Try.func43 hG hM (by rw [B43_eq] at h; exact h)

/-- (*locution/elias.Seq).Len -/
def B45 (a_0 : Addr) (w : World) (R : Value → World → Prop) : Prop :=
  ∃ n1 : Int, w.cell? (Addr.add a_0 0) = some (.int .i64 n1) ∧ R (.int .i64 n1) w
theorem B45_eq : @B45 = fun (a_0 : Addr) (w : World) (R : Value → World → Prop) => trF Try.prog G (lk []) Try.f45 [.pointer (some a_0)] w R := by kernel_rfl
theorem c45 (a_0 : Addr) (w : World) (R : Value → World → Prop) (h : B45 a_0 w R) : Calls Try.prog 45 #[.pointer (some a_0)] w (Rv R) := calls_of_tr (L := lk []) Try.func45 hG hM (by rw [B45_eq] at h; exact h)

/-- (*locution/elias.Seq).At -/
def B46 (a_0 : Addr) (x_1 : Int) (w : World) (R : Value → World → Prop) : Prop :=
  br (decide (x_1 < (0 : Int))) (R (.int .i64 (-1)) w) (∃ n1 : Int, w.cell? (Addr.add a_0 0) = some (.int .i64 n1) ∧
    br (decide (n1 ≤ x_1)) (R (.int .i64 (-1)) w) (∃ p2 : Option Addr, (World.drew w).cell? (Addr.add a_0 6) = some (.pointer p2) ∧
    ∃ n3 : Int, (World.drew w).cell? (Addr.add a_0 2) = some (.int .i64 n3) ∧ ∃ p4 : Option Addr, (World.drew w).cell? (Addr.add a_0 3) = some (.pointer p4) ∧
    Calls Try.prog 89 #[.pointer p2, .int .i64 x_1] (World.drew w) (Rv fun v5 w6 => ∃ n7 : Int, v5 = .int .i64 n7 ∧ w6.cell? (Addr.add a_0 3) = some (.pointer p4) ∧
    w6.cell? (Addr.add a_0 2) = some (.int .i64 n3) ∧ 0 ≤ (IntKind.u64.wrap n3) ∧ Calls Try.prog 90 #[.pointer p4, .int .i64 x_1] w6 (Rv fun v8 w9 =>
    ∃ n10 : Int, v8 = .int .u64 n10 ∧ w9.cell? (Addr.add a_0 2) = some (.int .i64 n3) ∧
    R (.int .i64 (bOr .i64 (shL .i64 (IntKind.i64.wrap (n7 - x_1)) (IntKind.u64.wrap n3)) (IntKind.i64.wrap n10))) w9))))
theorem B46_eq : @B46 = fun (a_0 : Addr) (x_1 : Int) (w : World) (R : Value → World → Prop) => trF Try.prog G (lk []) Try.f46 [.pointer (some a_0), .int .i64 x_1] w R := by kernel_rfl
theorem c46 (a_0 : Addr) (x_1 : Int) (w : World) (R : Value → World → Prop) (h : B46 a_0 x_1 w R) : Calls Try.prog 46 #[.pointer (some a_0), .int .i64 x_1] w (Rv R) := calls_of_tr (L := lk []) Try.func46 hG hM (by rw [B46_eq] at h; exact h)

/-- (*locution/elias.Seq).Last -/
def B47 (a_0 : Addr) (w : World) (R : Value → World → Prop) : Prop :=
  Calls Try.prog 45 #[.pointer (some a_0)] w (Rv fun v1 w2 => ∃ n3 : Int, v1 = .int .i64 n3 ∧
    br (decide (n3 = (0 : Int))) (R (.int .i64 (-1)) w2) (∃ n4 : Int, w2.cell? (Addr.add a_0 1) = some (.int .i64 n4) ∧ R (.int .i64 n4) w2))
theorem B47_eq : @B47 = fun (a_0 : Addr) (w : World) (R : Value → World → Prop) => trF Try.prog G (lk []) Try.f47 [.pointer (some a_0)] w R := by kernel_rfl
theorem c47 (a_0 : Addr) (w : World) (R : Value → World → Prop) (h : B47 a_0 w R) : Calls Try.prog 47 #[.pointer (some a_0)] w (Rv R) := calls_of_tr (L := lk []) Try.func47 hG hM (by rw [B47_eq] at h; exact h)

/-- locution/elias.check -/
def B82 (x_0 : Slc) (w : World) (R : Value → World → Prop) : Prop :=
  ∃ (I1 : Int → World → Prop) (μ2 : Int → World → Nat), I1 (0 : Int) w ∧ ∀ x3 : Int, ∀ w4 : World, I1 x3 w4 → br (decide (x3 < (x_0.len : Int))) (0 ≤ x3 ∧
    x3 < (x_0.len : Int) ∧ ∃ a5, x_0.a = some a5 ∧ ∃ n6 : Int, w4.cell? (Addr.add a5 (x3.toNat * 1)) = some (.int .i64 n6) ∧
    br (decide (n6 < (0 : Int))) (R (.int .i64 8) w4) (br (decide ((1099511627776 : Int) < n6)) (R (.int .i64 8) w4) (br (decide ((0 : Int) < x3)) (0 ≤ (IntKind.i64.wrap (x3 - 1)) ∧
    (IntKind.i64.wrap (x3 - 1)) < (x_0.len : Int) ∧ ∃ a7, x_0.a = some a7 ∧
    ∃ n8 : Int, w4.cell? (Addr.add a7 ((IntKind.i64.wrap (x3 - 1)).toNat * 1)) = some (.int .i64 n8) ∧
    br (decide (n6 < n8)) (R (.int .i64 9) w4) (I1 (IntKind.i64.wrap (x3 + 1)) w4 ∧
    μ2 (IntKind.i64.wrap (x3 + 1)) w4 < μ2 x3 w4)) (I1 (IntKind.i64.wrap (x3 + 1)) w4 ∧ μ2 (IntKind.i64.wrap (x3 + 1)) w4 < μ2 x3 w4)))) (R (.int .i64 0) w4)
theorem B82_eq : @B82 = fun (x_0 : Slc) (w : World) (R : Value → World → Prop) => trF Try.prog G (lk [(2, [(7, .int .i64)])]) Try.f82 [.slice x_0.a x_0.len x_0.cap] w R := by kernel_rfl
theorem c82 (x_0 : Slc) (w : World) (R : Value → World → Prop) (h : B82 x_0 w R) : Calls Try.prog 82 #[.slice x_0.a x_0.len x_0.cap] w (Rv R) := calls_of_tr (L := lk [(2, [(7, .int .i64)])]) Try.func82 hG hM (by rw [B82_eq] at h; exact h)

/-- (*locution/elias.Seq).ahead -/
def B87 (a_0 : Addr) (x_1 : Int) (w : World) (R : Value → World → Prop) : Prop :=
  br (decide (x_1 = (0 : Int))) (R (.int .i64 0) w) (∃ p1 : Option Addr, w.cell? (Addr.add a_0 6) = some (.pointer p1) ∧
    Calls Try.prog 108 #[.pointer p1, .int .i64 (IntKind.i64.wrap (x_1 - 1))] w (Rv fun v2 w3 => ∃ n4 : Int, v2 = .int .i64 n4 ∧
    br (decide (n4 < (0 : Int))) (∃ n5 : Int, w3.cell? (Addr.add a_0 0) = some (.int .i64 n5) ∧
    R (.int .i64 n5) w3) (∃ p6 : Option Addr, w3.cell? (Addr.add a_0 5) = some (.pointer p6) ∧ Calls Try.prog 109 #[.pointer p6, .int .i64 n4] w3 (Rv fun v7 w8 =>
    ∃ n9 : Int, v7 = .int .i64 n9 ∧ R (.int .i64 n9) w8))))
theorem B87_eq : @B87 = fun (a_0 : Addr) (x_1 : Int) (w : World) (R : Value → World → Prop) => trF Try.prog G (lk []) Try.f87 [.pointer (some a_0), .int .i64 x_1] w R := by kernel_rfl
theorem c87 (a_0 : Addr) (x_1 : Int) (w : World) (R : Value → World → Prop) (h : B87 a_0 x_1 w R) : Calls Try.prog 87 #[.pointer (some a_0), .int .i64 x_1] w (Rv R) := calls_of_tr (L := lk []) Try.func87 hG hM (by rw [B87_eq] at h; exact h)

/-- locution/locutionref07.Wrong -/
def B31 (x_0 : Slc) (w : World) (R : Value → World → Prop) : Prop :=
  ∃ (I1 : Int → World → Prop) (μ2 : Int → World → Nat), I1 (0 : Int) w ∧ ∀ x3 : Int, ∀ w4 : World, I1 x3 w4 → br (decide (x3 < (x_0.len : Int))) (0 ≤ x3 ∧
    x3 < (x_0.len : Int) ∧ ∃ a5, x_0.a = some a5 ∧ ∃ n6 : Int, w4.cell? (Addr.add a5 (x3.toNat * 1)) = some (.int .i64 n6) ∧
    br (decide (n6 < (0 : Int))) (R (.int .i64 8) w4) (0 ≤ x3 ∧ x3 < (x_0.len : Int) ∧ ∃ a7, x_0.a = some a7 ∧
    ∃ n8 : Int, w4.cell? (Addr.add a7 (x3.toNat * 1)) = some (.int .i64 n8) ∧
    br (decide ((1099511627776 : Int) < n8)) (R (.int .i64 8) w4) (br (decide ((0 : Int) < x3)) (0 ≤ x3 ∧ x3 < (x_0.len : Int) ∧ ∃ a9, x_0.a = some a9 ∧
    ∃ n10 : Int, (World.drew w4).cell? (Addr.add a9 (x3.toNat * 1)) = some (.int .i64 n10) ∧ 0 ≤ (IntKind.i64.wrap (x3 - 1)) ∧
    (IntKind.i64.wrap (x3 - 1)) < (x_0.len : Int) ∧ ∃ a11, x_0.a = some a11 ∧
    ∃ n12 : Int, (World.drew w4).cell? (Addr.add a11 ((IntKind.i64.wrap (x3 - 1)).toNat * 1)) = some (.int .i64 n12) ∧
    br (decide (n10 < n12)) (R (.int .i64 9) (World.drew w4)) (I1 (IntKind.i64.wrap (x3 + 1)) (World.drew w4) ∧
    μ2 (IntKind.i64.wrap (x3 + 1)) (World.drew w4) < μ2 x3 w4)) (I1 (IntKind.i64.wrap (x3 + 1)) (World.drew w4) ∧
    μ2 (IntKind.i64.wrap (x3 + 1)) (World.drew w4) < μ2 x3 w4)))) (R (.int .i64 0) w4)
theorem B31_eq : @B31 = fun (x_0 : Slc) (w : World) (R : Value → World → Prop) => trF Try.prog G (lk [(2, [(3, .int .i64)])]) Try.f31 [.slice x_0.a x_0.len x_0.cap] w R := by kernel_rfl
theorem c31 (x_0 : Slc) (w : World) (R : Value → World → Prop) (h : B31 x_0 w R) : Calls Try.prog 31 #[.slice x_0.a x_0.len x_0.cap] w (Rv R) := calls_of_tr (L := lk [(2, [(3, .int .i64)])]) Try.func31 hG hM (by rw [B31_eq] at h; exact h)

/-- locution/locutionref07.Next -/
def B36 (x_0 : Slc) (x_1 : Int) (w : World) (R : Value → World → Prop) : Prop :=
  ∃ (I1 : Int → World → Prop) (μ2 : Int → World → Nat), I1 (0 : Int) w ∧ ∀ x3 : Int, ∀ w4 : World, I1 x3 w4 → br (decide (x3 < (x_0.len : Int))) (0 ≤ x3 ∧
    x3 < (x_0.len : Int) ∧ ∃ a5, x_0.a = some a5 ∧ ∃ n6 : Int, w4.cell? (Addr.add a5 (x3.toNat * 1)) = some (.int .i64 n6) ∧
    br (decide (x_1 ≤ n6)) (R (.int .i64 x3) w4) (I1 (IntKind.i64.wrap (x3 + 1)) w4 ∧ μ2 (IntKind.i64.wrap (x3 + 1)) w4 < μ2 x3 w4)) (R (.int .i64 (-1)) w4)
theorem B36_eq : @B36 = fun (x_0 : Slc) (x_1 : Int) (w : World) (R : Value → World → Prop) => trF Try.prog G (lk [(2, [(5, .int .i64)])]) Try.f36 [.slice x_0.a x_0.len x_0.cap, .int .i64 x_1] w R := by kernel_rfl
theorem c36 (x_0 : Slc) (x_1 : Int) (w : World) (R : Value → World → Prop) (h : B36 x_0 x_1 w R) : Calls Try.prog 36 #[.slice x_0.a x_0.len x_0.cap, .int .i64 x_1] w (Rv R) := calls_of_tr (L := lk [(2, [(5, .int .i64)])]) Try.func36 hG hM (by rw [B36_eq] at h; exact h)

/-- locution/locutionref07.Ahead -/
def B37 (x_0 : Slc) (x_1 : Int) (w : World) (R : Value → World → Prop) : Prop :=
  ∃ (I1 : Int → Int → World → Prop) (μ2 : Int → Int → World → Nat), I1 (-1 : Int) (0 : Int) w ∧ ∀ x3 : Int, ∀ x4 : Int, ∀ w5 : World, I1 x3 x4 w5 →
    br (decide (x4 < (x_0.len : Int))) (0 ≤ x4 ∧ x4 < (x_0.len : Int) ∧ ∃ a6, x_0.a = some a6 ∧
    ∃ n7 : Int, w5.cell? (Addr.add a6 (x4.toNat * 1)) = some (.int .i64 n7) ∧ br (decide (n7 ≤ x_1)) (I1 x4 (IntKind.i64.wrap (x4 + 1)) w5 ∧
    μ2 x4 (IntKind.i64.wrap (x4 + 1)) w5 < μ2 x3 x4 w5) (I1 x3 (IntKind.i64.wrap (x4 + 1)) w5 ∧
    μ2 x3 (IntKind.i64.wrap (x4 + 1)) w5 < μ2 x3 x4 w5)) (R (.int .i64 x3) w5)
theorem B37_eq : @B37 = fun (x_0 : Slc) (x_1 : Int) (w : World) (R : Value → World → Prop) => trF Try.prog G (lk [(3, [(5, .int .i64), (6, .int .i64)])]) Try.f37 [.slice x_0.a x_0.len x_0.cap, .int .i64 x_1] w R := by kernel_rfl
theorem c37 (x_0 : Slc) (x_1 : Int) (w : World) (R : Value → World → Prop) (h : B37 x_0 x_1 w R) : Calls Try.prog 37 #[.slice x_0.a x_0.len x_0.cap, .int .i64 x_1] w (Rv R) := calls_of_tr (L := lk [(3, [(5, .int .i64), (6, .int .i64)])]) Try.func37 hG hM (by rw [B37_eq] at h; exact h)

/-- locution/locutionref07.At -/
def B38 (x_0 : Slc) (x_1 : Int) (w : World) (R : Value → World → Prop) : Prop :=
  br (decide (x_1 < (0 : Int))) (R (.int .i64 (-1)) w) (br (decide ((x_0.len : Int) ≤ x_1)) (R (.int .i64 (-1)) w) (0 ≤ x_1 ∧ x_1 < (x_0.len : Int) ∧
    ∃ a1, x_0.a = some a1 ∧ ∃ n2 : Int, w.cell? (Addr.add a1 (x_1.toNat * 1)) = some (.int .i64 n2) ∧ R (.int .i64 n2) w))
theorem B38_eq : @B38 = fun (x_0 : Slc) (x_1 : Int) (w : World) (R : Value → World → Prop) => trF Try.prog G (lk []) Try.f38 [.slice x_0.a x_0.len x_0.cap, .int .i64 x_1] w R := by kernel_rfl
theorem c38 (x_0 : Slc) (x_1 : Int) (w : World) (R : Value → World → Prop) (h : B38 x_0 x_1 w R) : Calls Try.prog 38 #[.slice x_0.a x_0.len x_0.cap, .int .i64 x_1] w (Rv R) := calls_of_tr (L := lk []) Try.func38 hG hM (by rw [B38_eq] at h; exact h)

/-- locution/locutionref07.Find -/
def B40 (x_0 : Slc) (x_1 : Int) (x_2 : Int) (x_3 : Int) (w : World) (R : Value → World → Prop) : Prop :=
  ∃ (I1 : Int → World → Prop) (μ2 : Int → World → Nat), I1 (0 : Int) w ∧ ∀ x3 : Int, ∀ w4 : World, I1 x3 w4 →
    br (decide (x3 < (x_0.len : Int))) (br (decide (x_1 ≤ x3)) (br (decide (x3 < x_2)) (0 ≤ x3 ∧ x3 < (x_0.len : Int) ∧ ∃ a5, x_0.a = some a5 ∧
    ∃ n6 : Int, w4.cell? (Addr.add a5 (x3.toNat * 1)) = some (.int .i64 n6) ∧ br (decide (n6 = x_3)) (R (.int .i64 x3) w4) (I1 (IntKind.i64.wrap (x3 + 1)) w4 ∧
    μ2 (IntKind.i64.wrap (x3 + 1)) w4 < μ2 x3 w4)) (I1 (IntKind.i64.wrap (x3 + 1)) w4 ∧
    μ2 (IntKind.i64.wrap (x3 + 1)) w4 < μ2 x3 w4)) (I1 (IntKind.i64.wrap (x3 + 1)) w4 ∧ μ2 (IntKind.i64.wrap (x3 + 1)) w4 < μ2 x3 w4)) (R (.int .i64 (-1)) w4)
theorem B40_eq : @B40 = fun (x_0 : Slc) (x_1 : Int) (x_2 : Int) (x_3 : Int) (w : World) (R : Value → World → Prop) => trF Try.prog G (lk [(2, [(9, .int .i64)])]) Try.f40 [.slice x_0.a x_0.len x_0.cap, .int .i64 x_1, .int .i64 x_2, .int .i64 x_3] w R := by kernel_rfl
theorem c40 (x_0 : Slc) (x_1 : Int) (x_2 : Int) (x_3 : Int) (w : World) (R : Value → World → Prop) (h : B40 x_0 x_1 x_2 x_3 w R) : Calls Try.prog 40 #[.slice x_0.a x_0.len x_0.cap, .int .i64 x_1, .int .i64 x_2, .int .i64 x_3] w (Rv R) := calls_of_tr (L := lk [(2, [(9, .int .i64)])]) Try.func40 hG hM (by rw [B40_eq] at h; exact h)

/-- locution/locutionref07.Size -/
def B42 (x_0 : Slc) (w : World) (R : Value → World → Prop) : Prop :=
  br (decide ((x_0.len : Int) = (0 : Int))) (R (.int .i64 0) w) (0 ≤ (IntKind.i64.wrap ((x_0.len : Int) - 1)) ∧
    (IntKind.i64.wrap ((x_0.len : Int) - 1)) < (x_0.len : Int) ∧ ∃ a1, x_0.a = some a1 ∧
    ∃ n2 : Int, w.cell? (Addr.add a1 ((IntKind.i64.wrap ((x_0.len : Int) - 1)).toNat * 1)) = some (.int .i64 n2) ∧
    Calls Try.prog 44 #[.int .i64 (x_0.len : Int), .int .i64 n2] w (Rv fun v3 w4 => ∃ n5 : Int, v3 = .int .i64 n5 ∧ ∃ (I6 : Int → Int → World → Prop) (μ7 : Int → Int →
    World → Nat), I6 n2 (0 : Int) w4 ∧ ∀ x8 : Int, ∀ x9 : Int, ∀ w10 : World, I6 x8 x9 w10 → br (decide (x9 < n5)) ((2 : Int) ≠ 0 ∧
    I6 (IntKind.i64.wrap (Int.tdiv x8 2)) (IntKind.i64.wrap (x9 + 1)) w10 ∧
    μ7 (IntKind.i64.wrap (Int.tdiv x8 2)) (IntKind.i64.wrap (x9 + 1)) w10 < μ7 x8 x9 w10) (R (.int .i64 (IntKind.i64.wrap ((IntKind.i64.wrap ((IntKind.i64.wrap ((x_0.len : Int) * n5)) + x8)) + (x_0.len : Int)))) w10)))
theorem B42_eq : @B42 = fun (x_0 : Slc) (w : World) (R : Value → World → Prop) => trF Try.prog G (lk [(6, [(3, .int .i64), (5, .int .i64)])]) Try.f42 [.slice x_0.a x_0.len x_0.cap] w R := by kernel_rfl
theorem c42 (x_0 : Slc) (w : World) (R : Value → World → Prop) (h : B42 x_0 w R) : Calls Try.prog 42 #[.slice x_0.a x_0.len x_0.cap] w (Rv R) := calls_of_tr (L := lk [(6, [(3, .int .i64), (5, .int .i64)])]) Try.func42 hG hM (by rw [B42_eq] at h; exact h)

/-- locution/locutionref07.Low -/
def B44 (x_0 : Int) (x_1 : Int) (w : World) (R : Value → World → Prop) : Prop :=
  br (decide (x_0 < (1 : Int))) (R (.int .i64 0) w) (br (decide (x_1 < (1 : Int))) (R (.int .i64 0) w) (∃ (I1 : Int → Int → World → Prop) (μ2 : Int → Int → World →
    Nat), I1 x_1 (0 : Int) w ∧ ∀ x3 : Int, ∀ x4 : Int, ∀ w5 : World, I1 x3 x4 w5 → (2 : Int) ≠ 0 ∧
    br (decide (x_0 ≤ (IntKind.i64.wrap (Int.tdiv x3 2)))) ((2 : Int) ≠ 0 ∧ I1 (IntKind.i64.wrap (Int.tdiv x3 2)) (IntKind.i64.wrap (x4 + 1)) w5 ∧
    μ2 (IntKind.i64.wrap (Int.tdiv x3 2)) (IntKind.i64.wrap (x4 + 1)) w5 < μ2 x3 x4 w5) (R (.int .i64 x4) w5)))
theorem B44_eq : @B44 = fun (x_0 : Int) (x_1 : Int) (w : World) (R : Value → World → Prop) => trF Try.prog G (lk [(4, [(1, .int .i64), (5, .int .i64)])]) Try.f44 [.int .i64 x_0, .int .i64 x_1] w R := by kernel_rfl
theorem c44 (x_0 : Int) (x_1 : Int) (w : World) (R : Value → World → Prop) (h : B44 x_0 x_1 w R) : Calls Try.prog 44 #[.int .i64 x_0, .int .i64 x_1] w (Rv R) := calls_of_tr (L := lk [(4, [(1, .int .i64), (5, .int .i64)])]) Try.func44 hG hM (by rw [B44_eq] at h; exact h)

/-- locution/locutionlaw07.SeqNext -/
def B7 (x_0 : Slc) (x_1 : Int) (w : World) (R : Value → World → Prop) : Prop :=
  br (decide ((80 : Int) < (x_0.len : Int))) (Calls Try.prog 32 #[] w (Rv fun v1 w2 => ∃ b3 : Bool, v1 = .bool b3 ∧
    R (.bool b3) w2)) (Calls Try.prog 31 #[.slice x_0.a x_0.len x_0.cap] w (Rv fun v4 w5 => ∃ n6 : Int, v4 = .int .i64 n6 ∧
    br (!(decide (n6 = (0 : Int)))) (Calls Try.prog 32 #[] w5 (Rv fun v7 w8 => ∃ b9 : Bool, v7 = .bool b9 ∧
    R (.bool b9) w8)) (Calls Try.prog 33 #[.slice x_0.a x_0.len x_0.cap] w5 (Rv fun v10 w11 =>
    ∃ p12 : Option Addr, ∃ n13 : Int, v10 = .tuple #[.pointer p12, .int .i64 n13] ∧ Calls Try.prog 34 #[.pointer p12, .int .i64 x_1] w11 (Rv fun v14 w15 =>
    ∃ n16 : Int, ∃ n17 : Int, v14 = .tuple #[.int .i64 n16, .int .i64 n17] ∧ Calls Try.prog 35 #[.pointer p12, .int .i64 x_1] w15 (Rv fun v18 w19 =>
    ∃ n20 : Int, ∃ n21 : Int, v18 = .tuple #[.int .i64 n20, .int .i64 n21] ∧ Calls Try.prog 34 #[.pointer none, .int .i64 x_1] w19 (Rv fun v22 w23 =>
    ∃ n24 : Int, ∃ n25 : Int, v22 = .tuple #[.int .i64 n24, .int .i64 n25] ∧ Calls Try.prog 35 #[.pointer none, .int .i64 x_1] w23 (Rv fun v26 w27 =>
    ∃ n28 : Int, ∃ n29 : Int, v26 = .tuple #[.int .i64 n28, .int .i64 n29] ∧ Calls Try.prog 36 #[.slice x_0.a x_0.len x_0.cap, .int .i64 x_1] w27 (Rv fun v30 w31 =>
    ∃ n32 : Int, v30 = .int .i64 n32 ∧ Calls Try.prog 37 #[.slice x_0.a x_0.len x_0.cap, .int .i64 x_1] w31 (Rv fun v33 w34 => ∃ n35 : Int, v33 = .int .i64 n35 ∧
    br (decide (n16 = n32)) (Calls Try.prog 38 #[.slice x_0.a x_0.len x_0.cap, .int .i64 n32] w34 (Rv fun v36 w37 => ∃ n38 : Int, v36 = .int .i64 n38 ∧
    br (decide (n17 = n38)) (br (decide (n20 = n35)) (Calls Try.prog 38 #[.slice x_0.a x_0.len x_0.cap, .int .i64 n35] w37 (Rv fun v39 w40 =>
    ∃ n41 : Int, v39 = .int .i64 n41 ∧
    br (decide (n21 = n41)) (br (decide (n24 = (-1))) (br (decide (n25 = (-1))) (br (decide (n28 = (-1))) (br (decide (n29 = (-1))) (Calls Try.prog 32 #[] w40 (Rv fun v42 w43 =>
    ∃ b44 : Bool, v42 = .bool b44 ∧
    R (.bool b44) w43)) (R (.bool false) w40)) (R (.bool false) w40)) (R (.bool false) w40)) (R (.bool false) w40)) (R (.bool false) w40))) (R (.bool false) w37)) (R (.bool false) w37))) (R (.bool false) w34)))))))))))
theorem B7_eq : @B7 = fun (x_0 : Slc) (x_1 : Int) (w : World) (R : Value → World → Prop) => trF Try.prog G (lk []) Try.f7 [.slice x_0.a x_0.len x_0.cap, .int .i64 x_1] w R := by kernel_rfl
theorem c7 (x_0 : Slc) (x_1 : Int) (w : World) (R : Value → World → Prop) (h : B7 x_0 x_1 w R) : Calls Try.prog 7 #[.slice x_0.a x_0.len x_0.cap, .int .i64 x_1] w (Rv R) := calls_of_tr (L := lk []) Try.func7 hG hM (by rw [B7_eq] at h; exact h)

/-- locution/locutionlaw07.SeqFinds -/
def B8 (x_0 : Slc) (x1_0 : Int) (x1_1 : Int) (x_2 : Int) (w : World) (R : Value → World → Prop) : Prop :=
  br (decide ((80 : Int) < (x_0.len : Int))) (Calls Try.prog 32 #[] (w.alloc (.cells #[.int .i64 x1_0, .int .i64 x1_1] 65)) (Rv fun v1 w2 =>
    ∃ b3 : Bool, v1 = .bool b3 ∧
    R (.bool b3) w2)) (Calls Try.prog 31 #[.slice x_0.a x_0.len x_0.cap] (w.alloc (.cells #[.int .i64 x1_0, .int .i64 x1_1] 65)) (Rv fun v4 w5 =>
    ∃ n6 : Int, v4 = .int .i64 n6 ∧ br (!(decide (n6 = (0 : Int)))) (Calls Try.prog 32 #[] w5 (Rv fun v7 w8 => ∃ b9 : Bool, v7 = .bool b9 ∧
    R (.bool b9) w8)) (Calls Try.prog 33 #[.slice x_0.a x_0.len x_0.cap] w5 (Rv fun v10 w11 =>
    ∃ p12 : Option Addr, ∃ n13 : Int, v10 = .tuple #[.pointer p12, .int .i64 n13] ∧ 0 ≤ (0 : Int) ∧ 0 < (2 : Int) ∧ ∃ a14, (some ⟨w.heap.size, 0, none⟩) = some a14 ∧
    ∃ n15 : Int, (World.drew w11).cell? (Addr.add a14 ((0 : Int).toNat * 1)) = some (.int .i64 n15) ∧ 0 ≤ (1 : Int) ∧ 1 < (2 : Int) ∧
    ∃ a16, (some ⟨w.heap.size, 0, none⟩) = some a16 ∧ ∃ n17 : Int, (World.drew w11).cell? (Addr.add a16 ((1 : Int).toNat * 1)) = some (.int .i64 n17) ∧
    0 ≤ (0 : Int) ∧ 0 < (2 : Int) ∧ ∃ a18, (some ⟨w.heap.size, 0, none⟩) = some a18 ∧
    ∃ n19 : Int, (World.drew w11).cell? (Addr.add a18 ((0 : Int).toNat * 1)) = some (.int .i64 n19) ∧ 0 ≤ (1 : Int) ∧ 1 < (2 : Int) ∧
    ∃ a20, (some ⟨w.heap.size, 0, none⟩) = some a20 ∧ ∃ n21 : Int, (World.drew w11).cell? (Addr.add a20 ((1 : Int).toNat * 1)) = some (.int .i64 n21) ∧
    Calls Try.prog 39 #[.pointer p12, .int .i64 n15, .int .i64 n17, .int .i64 x_2] (World.drew w11) (Rv fun v22 w23 => ∃ n24 : Int, v22 = .int .i64 n24 ∧
    w23.cell? (Addr.add a20 ((1 : Int).toNat * 1)) = some (.int .i64 n21) ∧ w23.cell? (Addr.add a18 ((0 : Int).toNat * 1)) = some (.int .i64 n19) ∧
    Calls Try.prog 40 #[.slice x_0.a x_0.len x_0.cap, .int .i64 n19, .int .i64 n21, .int .i64 x_2] w23 (Rv fun v25 w26 => ∃ n27 : Int, v25 = .int .i64 n27 ∧
    br (decide (n24 = n27)) (0 ≤ (0 : Int) ∧ 0 < (2 : Int) ∧ ∃ a28, (some ⟨w.heap.size, 0, none⟩) = some a28 ∧
    ∃ n29 : Int, w26.cell? (Addr.add a28 ((0 : Int).toNat * 1)) = some (.int .i64 n29) ∧ 0 ≤ (1 : Int) ∧ 1 < (2 : Int) ∧
    ∃ a30, (some ⟨w.heap.size, 0, none⟩) = some a30 ∧ ∃ n31 : Int, w26.cell? (Addr.add a30 ((1 : Int).toNat * 1)) = some (.int .i64 n31) ∧
    Calls Try.prog 39 #[.pointer none, .int .i64 n29, .int .i64 n31, .int .i64 x_2] w26 (Rv fun v32 w33 => ∃ n34 : Int, v32 = .int .i64 n34 ∧
    br (decide (n34 = (-1))) (Calls Try.prog 32 #[] w33 (Rv fun v35 w36 => ∃ b37 : Bool, v35 = .bool b37 ∧
    R (.bool b37) w36)) (R (.bool false) w33))) (R (.bool false) w26)))))))
theorem B8_eq : @B8 = fun (x_0 : Slc) (x1_0 : Int) (x1_1 : Int) (x_2 : Int) (w : World) (R : Value → World → Prop) => trF Try.prog G (lk []) Try.f8 [.slice x_0.a x_0.len x_0.cap, .agg #[.int .i64 x1_0, .int .i64 x1_1], .int .i64 x_2] w R := by kernel_rfl
theorem c8 (x_0 : Slc) (x1_0 : Int) (x1_1 : Int) (x_2 : Int) (w : World) (R : Value → World → Prop) (h : B8 x_0 x1_0 x1_1 x_2 w R) : Calls Try.prog 8 #[.slice x_0.a x_0.len x_0.cap, .agg #[.int .i64 x1_0, .int .i64 x1_1], .int .i64 x_2] w (Rv R) := calls_of_tr (L := lk []) Try.func8 hG hM (by rw [B8_eq] at h; exact h)

/-- locution/locutionlaw07.SeqSize -/
def B9 (x_0 : Slc) (x_1 : Int) (x_2 : Int) (w : World) (R : Value → World → Prop) : Prop :=
  br (decide ((200 : Int) < (x_0.len : Int))) (Calls Try.prog 32 #[] w (Rv fun v1 w2 => ∃ b3 : Bool, v1 = .bool b3 ∧
    R (.bool b3) w2)) (Calls Try.prog 31 #[.slice x_0.a x_0.len x_0.cap] w (Rv fun v4 w5 => ∃ n6 : Int, v4 = .int .i64 n6 ∧
    br (!(decide (n6 = (0 : Int)))) (Calls Try.prog 32 #[] w5 (Rv fun v7 w8 => ∃ b9 : Bool, v7 = .bool b9 ∧
    R (.bool b9) w8)) (Calls Try.prog 33 #[.slice x_0.a x_0.len x_0.cap] w5 (Rv fun v10 w11 =>
    ∃ p12 : Option Addr, ∃ n13 : Int, v10 = .tuple #[.pointer p12, .int .i64 n13] ∧ Calls Try.prog 41 #[.pointer p12] w11 (Rv fun v14 w15 =>
    ∃ n16 : Int, v14 = .int .i64 n16 ∧ Calls Try.prog 42 #[.slice x_0.a x_0.len x_0.cap] w15 (Rv fun v17 w18 => ∃ n19 : Int, v17 = .int .i64 n19 ∧
    br (!(decide (n16 = n19))) (R (.bool false) w18) (Calls Try.prog 41 #[.pointer none] w18 (Rv fun v20 w21 => ∃ n22 : Int, v20 = .int .i64 n22 ∧
    br (!(decide (n22 = (0 : Int)))) (R (.bool false) w21) (Calls Try.prog 43 #[.int .i64 x_1, .int .i64 x_2] w21 (Rv fun v23 w24 => ∃ n25 : Int, v23 = .int .i64 n25 ∧
    Calls Try.prog 44 #[.int .i64 x_1, .int .i64 x_2] w24 (Rv fun v26 w27 => ∃ n28 : Int, v26 = .int .i64 n28 ∧
    br (!(decide (n25 = n28))) (R (.bool false) w27) (br (decide ((x_0.len : Int) = (0 : Int))) (Calls Try.prog 32 #[] w27 (Rv fun v29 w30 =>
    ∃ b31 : Bool, v29 = .bool b31 ∧ R (.bool b31) w30)) (0 ≤ (IntKind.i64.wrap ((x_0.len : Int) - 1)) ∧ (IntKind.i64.wrap ((x_0.len : Int) - 1)) < (x_0.len : Int) ∧
    ∃ a32, x_0.a = some a32 ∧ ∃ n33 : Int, w27.cell? (Addr.add a32 ((IntKind.i64.wrap ((x_0.len : Int) - 1)).toNat * 1)) = some (.int .i64 n33) ∧
    Calls Try.prog 44 #[.int .i64 (x_0.len : Int), .int .i64 n33] w27 (Rv fun v34 w35 => ∃ n36 : Int, v34 = .int .i64 n36 ∧
    br (decide (n16 < (IntKind.i64.wrap ((x_0.len : Int) * (IntKind.i64.wrap (n36 + 3)))))) (Calls Try.prog 32 #[] w35 (Rv fun v37 w38 => ∃ b39 : Bool, v37 = .bool b39 ∧
    R (.bool b39) w38)) (R (.bool false) w35)))))))))))))))
theorem B9_eq : @B9 = fun (x_0 : Slc) (x_1 : Int) (x_2 : Int) (w : World) (R : Value → World → Prop) => trF Try.prog G (lk []) Try.f9 [.slice x_0.a x_0.len x_0.cap, .int .i64 x_1, .int .i64 x_2] w R := by kernel_rfl
theorem c9 (x_0 : Slc) (x_1 : Int) (x_2 : Int) (w : World) (R : Value → World → Prop) (h : B9 x_0 x_1 x_2 w R) : Calls Try.prog 9 #[.slice x_0.a x_0.len x_0.cap, .int .i64 x_1, .int .i64 x_2] w (Rv R) := calls_of_tr (L := lk []) Try.func9 hG hM (by rw [B9_eq] at h; exact h)

/-- locution/locutionlaw07.SeqMakes -/
def B10 (x_0 : Slc) (x_1 : Int) (w : World) (R : Value → World → Prop) : Prop :=
  br (decide ((80 : Int) < (x_0.len : Int))) (Calls Try.prog 32 #[] w (Rv fun v1 w2 => ∃ b3 : Bool, v1 = .bool b3 ∧
    R (.bool b3) w2)) (Calls Try.prog 33 #[.slice x_0.a x_0.len x_0.cap] w (Rv fun v4 w5 => ∃ p6 : Option Addr, ∃ n7 : Int, v4 = .tuple #[.pointer p6, .int .i64 n7] ∧
    Calls Try.prog 31 #[.slice x_0.a x_0.len x_0.cap] w5 (Rv fun v8 w9 => ∃ n10 : Int, v8 = .int .i64 n10 ∧
    br (!(decide (n7 = n10))) (R (.bool false) w9) (Calls Try.prog 45 #[.pointer none] w9 (Rv fun v11 w12 => ∃ n13 : Int, v11 = .int .i64 n13 ∧
    br (!(decide (n13 = (0 : Int)))) (R (.bool false) w12) (Calls Try.prog 46 #[.pointer none, .int .i64 x_1] w12 (Rv fun v14 w15 => ∃ n16 : Int, v14 = .int .i64 n16 ∧
    br (!(decide (n16 = (-1)))) (R (.bool false) w15) (Calls Try.prog 47 #[.pointer none] w15 (Rv fun v17 w18 => ∃ n19 : Int, v17 = .int .i64 n19 ∧
    br (!(decide (n19 = (-1)))) (R (.bool false) w18) (br (!(decide (n10 = (0 : Int)))) (br p6.isNone (Calls Try.prog 32 #[] w18 (Rv fun v20 w21 =>
    ∃ b22 : Bool, v20 = .bool b22 ∧ R (.bool b22) w21)) (R (.bool false) w18)) (∃ (I23 : Int → World → Prop) (μ24 : Int → World → Nat), I23 (0 : Int) w18 ∧
    ∀ x25 : Int, ∀ w26 : World, I23 x25 w26 → br (decide (x25 < (x_0.len : Int))) (0 ≤ x25 ∧ x25 < (x_0.len : Int) ∧ ∃ a27, x_0.a = some a27 ∧
    ∃ n28 : Int, (World.drew w26).cell? (Addr.add a27 (x25.toNat * 1)) = some (.int .i64 n28) ∧
    Calls Try.prog 46 #[.pointer p6, .int .i64 x25] (World.drew w26) (Rv fun v29 w30 => ∃ n31 : Int, v29 = .int .i64 n31 ∧
    w30.cell? (Addr.add a27 (x25.toNat * 1)) = some (.int .i64 n28) ∧ br (!(decide (n31 = n28))) (R (.bool false) w30) (I23 (IntKind.i64.wrap (x25 + 1)) w30 ∧
    μ24 (IntKind.i64.wrap (x25 + 1)) w30 < μ24 x25 w26))) (Calls Try.prog 45 #[.pointer p6] w26 (Rv fun v32 w33 => ∃ n34 : Int, v32 = .int .i64 n34 ∧
    br (decide (n34 = (x_0.len : Int))) (Calls Try.prog 46 #[.pointer p6, .int .i64 x_1] w33 (Rv fun v35 w36 => ∃ n37 : Int, v35 = .int .i64 n37 ∧
    Calls Try.prog 38 #[.slice x_0.a x_0.len x_0.cap, .int .i64 x_1] w36 (Rv fun v38 w39 => ∃ n40 : Int, v38 = .int .i64 n40 ∧
    br (decide (n37 = n40)) (Calls Try.prog 47 #[.pointer p6] w39 (Rv fun v41 w42 => ∃ n43 : Int, v41 = .int .i64 n43 ∧
    Calls Try.prog 38 #[.slice x_0.a x_0.len x_0.cap, .int .i64 (IntKind.i64.wrap ((x_0.len : Int) - 1))] w42 (Rv fun v44 w45 => ∃ n46 : Int, v44 = .int .i64 n46 ∧
    br (decide (n43 = n46)) (Calls Try.prog 32 #[] w45 (Rv fun v47 w48 => ∃ b49 : Bool, v47 = .bool b49 ∧
    R (.bool b49) w48)) (R (.bool false) w45)))) (R (.bool false) w39)))) (R (.bool false) w33))))))))))))))
theorem B10_eq : @B10 = fun (x_0 : Slc) (x_1 : Int) (w : World) (R : Value → World → Prop) => trF Try.prog G (lk [(11, [(9, .int .i64)])]) Try.f10 [.slice x_0.a x_0.len x_0.cap, .int .i64 x_1] w R := by kernel_rfl
theorem c10 (x_0 : Slc) (x_1 : Int) (w : World) (R : Value → World → Prop) (h : B10 x_0 x_1 w R) : Calls Try.prog 10 #[.slice x_0.a x_0.len x_0.cap, .int .i64 x_1] w (Rv R) := calls_of_tr (L := lk [(11, [(9, .int .i64)])]) Try.func10 hG hM (by rw [B10_eq] at h; exact h)

/-- locution/locutionlaw07.live -/
def B32  (w : World) (R : Value → World → Prop) : Prop :=
  
    Calls Try.prog 33 #[.slice (some ⟨w.heap.size, 0, none⟩) 8 8] (w.alloc (.cells #[.int .i64 3, .int .i64 4, .int .i64 7, .int .i64 13, .int .i64 14, .int .i64 15, .int .i64 21, .int .i64 43] 3)) (Rv fun v1 w2 =>
    ∃ p3 : Option Addr, ∃ n4 : Int, v1 = .tuple #[.pointer p3, .int .i64 n4] ∧ Calls Try.prog 34 #[.pointer p3, .int .i64 8] w2 (Rv fun v5 w6 =>
    ∃ n7 : Int, ∃ n8 : Int, v5 = .tuple #[.int .i64 n7, .int .i64 n8] ∧ Calls Try.prog 35 #[.pointer p3, .int .i64 12] w6 (Rv fun v9 w10 =>
    ∃ n11 : Int, ∃ n12 : Int, v9 = .tuple #[.int .i64 n11, .int .i64 n12] ∧
    br (decide (n7 = (3 : Int))) (br (decide (n8 = (13 : Int))) (br (decide (n11 = (2 : Int))) (br (decide (n12 = (7 : Int))) (Calls Try.prog 39 #[.pointer p3, .int .i64 2, .int .i64 6, .int .i64 14] w10 (Rv fun v13 w14 =>
    ∃ n15 : Int, v13 = .int .i64 n15 ∧ br (decide (n15 = (4 : Int))) (Calls Try.prog 41 #[.pointer p3] w14 (Rv fun v16 w17 => ∃ n18 : Int, v16 = .int .i64 n18 ∧
    R (.bool (decide (n18 = (34 : Int)))) w17)) (R (.bool false) w14))) (R (.bool false) w10)) (R (.bool false) w10)) (R (.bool false) w10)) (R (.bool false) w10))))
theorem B32_eq : @B32 = fun (w : World) (R : Value → World → Prop) => trF Try.prog G (lk []) Try.f32 [] w R := by kernel_rfl
theorem c32  (w : World) (R : Value → World → Prop) (h : B32  w R) : Calls Try.prog 32 #[] w (Rv R) := calls_of_tr (L := lk []) Try.func32 hG hM (by rw [B32_eq] at h; exact h)

/-- (*locution/elias.Seq).Len -/
def B45n  (w : World) (R : Value → World → Prop) : Prop :=
  R (.int .i64 0) w
theorem B45n_eq : @B45n = fun (w : World) (R : Value → World → Prop) => trF Try.prog G (lk []) Try.f45 [.pointer none] w R := by kernel_rfl
theorem c45n  (w : World) (R : Value → World → Prop) (h : B45n  w R) : Calls Try.prog 45 #[.pointer none] w (Rv R) := calls_of_tr (L := lk []) Try.func45 hG hM (by rw [B45n_eq] at h; exact h)

/-- (*locution/elias.Seq).Last -/
def B47n  (w : World) (R : Value → World → Prop) : Prop :=
  Calls Try.prog 45 #[.pointer none] w (Rv fun v1 w2 => ∃ n3 : Int, v1 = .int .i64 n3 ∧ br (decide (n3 = (0 : Int))) (R (.int .i64 (-1)) w2) (False))
theorem B47n_eq : @B47n = fun (w : World) (R : Value → World → Prop) => trF Try.prog G (lk []) Try.f47 [.pointer none] w R := by kernel_rfl
theorem c47n  (w : World) (R : Value → World → Prop) (h : B47n  w R) : Calls Try.prog 47 #[.pointer none] w (Rv R) := calls_of_tr (L := lk []) Try.func47 hG hM (by rw [B47n_eq] at h; exact h)

/-- (*locution/elias.Seq).At -/
def B46n (x_1 : Int) (w : World) (R : Value → World → Prop) : Prop :=
  R (.int .i64 (-1)) w
theorem B46n_eq : @B46n = fun (x_1 : Int) (w : World) (R : Value → World → Prop) => trF Try.prog G (lk []) Try.f46 [.pointer none, .int .i64 x_1] w R := by kernel_rfl
theorem c46n (x_1 : Int) (w : World) (R : Value → World → Prop) (h : B46n x_1 w R) : Calls Try.prog 46 #[.pointer none, .int .i64 x_1] w (Rv R) := calls_of_tr (L := lk []) Try.func46 hG hM (by rw [B46n_eq] at h; exact h)

/-- (*locution/elias.Seq).Next -/
def B34n (x_1 : Int) (w : World) (R : Value → World → Prop) : Prop :=
  Calls Try.prog 45 #[.pointer none] w (Rv fun v1 w2 => ∃ n3 : Int, v1 = .int .i64 n3 ∧
    br (decide (n3 = (0 : Int))) (R (.tuple #[.int .i64 (-1), .int .i64 (-1)]) w2) (False))
theorem B34n_eq : @B34n = fun (x_1 : Int) (w : World) (R : Value → World → Prop) => trF Try.prog G (lk []) Try.f34 [.pointer none, .int .i64 x_1] w R := by kernel_rfl
theorem c34n (x_1 : Int) (w : World) (R : Value → World → Prop) (h : B34n x_1 w R) : Calls Try.prog 34 #[.pointer none, .int .i64 x_1] w (Rv R) := calls_of_tr (L := lk []) Try.func34 hG hM (by rw [B34n_eq] at h; exact h)

/-- (*locution/elias.Seq).Ahead -/
def B35n (x_1 : Int) (w : World) (R : Value → World → Prop) : Prop :=
  Calls Try.prog 45 #[.pointer none] w (Rv fun v1 w2 => ∃ n3 : Int, v1 = .int .i64 n3 ∧
    br (decide (n3 = (0 : Int))) (R (.tuple #[.int .i64 (-1), .int .i64 (-1)]) w2) (br (decide (x_1 < (0 : Int))) (R (.tuple #[.int .i64 (-1), .int .i64 (-1)]) w2) (False)))
theorem B35n_eq : @B35n = fun (x_1 : Int) (w : World) (R : Value → World → Prop) => trF Try.prog G (lk []) Try.f35 [.pointer none, .int .i64 x_1] w R := by kernel_rfl
theorem c35n (x_1 : Int) (w : World) (R : Value → World → Prop) (h : B35n x_1 w R) : Calls Try.prog 35 #[.pointer none, .int .i64 x_1] w (Rv R) := calls_of_tr (L := lk []) Try.func35 hG hM (by rw [B35n_eq] at h; exact h)

/-- (*locution/elias.Seq).Find -/
def B39n (x_1 : Int) (x_2 : Int) (x_3 : Int) (w : World) (R : Value → World → Prop) : Prop :=
  Calls Try.prog 34 #[.pointer none, .int .i64 x_3] w (Rv fun v1 w2 => ∃ n3 : Int, ∃ n4 : Int, v1 = .tuple #[.int .i64 n3, .int .i64 n4] ∧
    br (!(decide (n4 = x_3))) (R (.int .i64 (-1)) w2) (br (decide (n3 < (0 : Int))) (R (.int .i64 (-1)) w2) (False)))
theorem B39n_eq : @B39n = fun (x_1 : Int) (x_2 : Int) (x_3 : Int) (w : World) (R : Value → World → Prop) => trF Try.prog G (lk []) Try.f39 [.pointer none, .int .i64 x_1, .int .i64 x_2, .int .i64 x_3] w R := by kernel_rfl
theorem c39n (x_1 : Int) (x_2 : Int) (x_3 : Int) (w : World) (R : Value → World → Prop) (h : B39n x_1 x_2 x_3 w R) : Calls Try.prog 39 #[.pointer none, .int .i64 x_1, .int .i64 x_2, .int .i64 x_3] w (Rv R) := calls_of_tr (L := lk []) Try.func39 hG hM (by rw [B39n_eq] at h; exact h)

/-- (*locution/elias.Seq).Size -/
def B41n  (w : World) (R : Value → World → Prop) : Prop :=
  R (.int .i64 0) w
theorem B41n_eq : @B41n = fun (w : World) (R : Value → World → Prop) => trF Try.prog G (lk []) Try.f41 [.pointer none] w R := by kernel_rfl
theorem c41n  (w : World) (R : Value → World → Prop) (h : B41n  w R) : Calls Try.prog 41 #[.pointer none] w (Rv R) := calls_of_tr (L := lk []) Try.func41 hG hM (by rw [B41n_eq] at h; exact h)

end Go.Proofs.Ytbgbmliladhpeaa.V
