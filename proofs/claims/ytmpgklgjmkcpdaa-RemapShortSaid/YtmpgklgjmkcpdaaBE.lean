/- The verification conditions of functions, printed by a program of this work (pr.py) and checked here by the kernel. -/
import Derived.Test.YtmpgklgjmkcpdaaBP
set_option maxRecDepth 100000
set_option linter.unusedVariables false
namespace Go.Proofs.Ytmpgklgjmkcpdaa.V
open Go Go.VC

/-- locution/elias.New -/
def B47 (x_0 : Slc) (w : World) (R : Value → World → Prop) : Prop :=
  Calls Try.prog 89 #[.slice x_0.a x_0.len x_0.cap] w (Rv fun v1 w2 => ∃ n3 : Int, v1 = .int .i64 n3 ∧
    br (!(decide (n3 = (0 : Int)))) (R (.tuple #[.pointer none, .int .i64 n3]) w2) (Calls Try.prog 90 #[] w2 (Rv fun v4 w5 => ∃ p6 : Option Addr, v4 = .pointer p6 ∧
    ∃ n7 : Int, (w5.alloc (.cells #[.int .i64 (x_0.len : Int), .int .i64 (-1), .int .i64 0, .pointer none, .pointer p6, .pointer none, .pointer none] 105)).cell? (Addr.add ⟨w5.heap.size, 0, none⟩ 0) = some (.int .i64 n7) ∧
    br (decide ((0 : Int) < n7)) (∃ n8 : Int, (w5.alloc (.cells #[.int .i64 (x_0.len : Int), .int .i64 (-1), .int .i64 0, .pointer none, .pointer p6, .pointer none, .pointer none] 105)).cell? (Addr.add ⟨w5.heap.size, 0, none⟩ 0) = some (.int .i64 n8) ∧
    0 ≤ (IntKind.i64.wrap (n8 - 1)) ∧ (IntKind.i64.wrap (n8 - 1)) < (x_0.len : Int) ∧ ∃ a9, x_0.a = some a9 ∧
    ∃ n10 : Int, (w5.alloc (.cells #[.int .i64 (x_0.len : Int), .int .i64 (-1), .int .i64 0, .pointer none, .pointer p6, .pointer none, .pointer none] 105)).cell? (Addr.add a9 ((IntKind.i64.wrap (n8 - 1)).toNat * 1)) = some (.int .i64 n10) ∧
    (∃ u, (w5.alloc (.cells #[.int .i64 (x_0.len : Int), .int .i64 (-1), .int .i64 0, .pointer none, .pointer p6, .pointer none, .pointer none] 105)).cell? (Addr.add ⟨w5.heap.size, 0, none⟩ 1) = some u) ∧
    (w5.alloc (.cells #[.int .i64 (x_0.len : Int), .int .i64 (-1), .int .i64 0, .pointer none, .pointer p6, .pointer none, .pointer none] 105)).frozen? (Addr.add ⟨w5.heap.size, 0, none⟩ 1) = false ∧
    ∃ n11 : Int, (World.drew ((w5.alloc (.cells #[.int .i64 (x_0.len : Int), .int .i64 (-1), .int .i64 0, .pointer none, .pointer p6, .pointer none, .pointer none] 105)).setCell (Addr.add ⟨w5.heap.size, 0, none⟩ 1) (.int .i64 n10))).cell? (Addr.add ⟨w5.heap.size, 0, none⟩ 0) = some (.int .i64 n11) ∧
    ∃ n12 : Int, (World.drew ((w5.alloc (.cells #[.int .i64 (x_0.len : Int), .int .i64 (-1), .int .i64 0, .pointer none, .pointer p6, .pointer none, .pointer none] 105)).setCell (Addr.add ⟨w5.heap.size, 0, none⟩ 1) (.int .i64 n10))).cell? (Addr.add ⟨w5.heap.size, 0, none⟩ 1) = some (.int .i64 n12) ∧
    Calls Try.prog 91 #[.int .i64 n11, .int .i64 n12] (World.drew ((w5.alloc (.cells #[.int .i64 (x_0.len : Int), .int .i64 (-1), .int .i64 0, .pointer none, .pointer p6, .pointer none, .pointer none] 105)).setCell (Addr.add ⟨w5.heap.size, 0, none⟩ 1) (.int .i64 n10))) (Rv fun v13 w14 =>
    ∃ n15 : Int, v13 = .int .i64 n15 ∧ (∃ u, w14.cell? (Addr.add ⟨w5.heap.size, 0, none⟩ 2) = some u) ∧ w14.frozen? (Addr.add ⟨w5.heap.size, 0, none⟩ 2) = false ∧
    ∃ w16 : World, ∃ l17 : Slc, (Instr.makeSlice 106 (.int .i64 (x_0.len : Int)) (.int .i64 (x_0.len : Int))).run Try.prog (w14.setCell (Addr.add ⟨w5.heap.size, 0, none⟩ 2) (.int .i64 n15)) = .ok (.slice l17.a l17.len l17.cap) w16 ∧
    ∃ (I18 : Int → Int → World → Prop) (μ19 : Int → Int → World → Nat), I18 (0 : Int) (0 : Int) w16 ∧ ∀ x20 : Int, ∀ x21 : Int, ∀ w22 : World, I18 x20 x21 w22 →
    br (decide (x21 < (x_0.len : Int))) (0 ≤ x21 ∧ x21 < (x_0.len : Int) ∧ ∃ a23, x_0.a = some a23 ∧
    ∃ n24 : Int, w22.cell? (Addr.add a23 (x21.toNat * 1)) = some (.int .i64 n24) ∧
    ∃ n25 : Int, w22.cell? (Addr.add ⟨w5.heap.size, 0, none⟩ 2) = some (.int .i64 n25) ∧ Calls Try.prog 92 #[.int .i64 n25] w22 (Rv fun v26 w27 =>
    ∃ n28 : Int, v26 = .int .u64 n28 ∧ 0 ≤ x21 ∧ x21 < (l17.len : Int) ∧ ∃ a29, l17.a = some a29 ∧ (∃ u, w27.cell? (Addr.add a29 (x21.toNat * 1)) = some u) ∧
    w27.frozen? (Addr.add a29 (x21.toNat * 1)) = false ∧
    ∃ n30 : Int, (w27.setCell (Addr.add a29 (x21.toNat * 1)) (.int .u64 (bAnd .u64 (IntKind.u64.wrap n24) n28))).cell? (Addr.add ⟨w5.heap.size, 0, none⟩ 2) = some (.int .i64 n30) ∧
    0 ≤ (IntKind.u64.wrap n30) ∧ ∃ (I31 : Int → World → Prop) (μ32 : Int → World →
    Nat), I31 (IntKind.i64.wrap ((shR .i64 n24 (IntKind.u64.wrap n30)) - x20)) (w27.setCell (Addr.add a29 (x21.toNat * 1)) (.int .u64 (bAnd .u64 (IntKind.u64.wrap n24) n28))) ∧
    ∀ x33 : Int, ∀ w34 : World, I31 x33 w34 →
    br (decide ((64 : Int) ≤ x33)) (∃ p35 : Option Addr, w34.cell? (Addr.add ⟨w5.heap.size, 0, none⟩ 4) = some (.pointer p35) ∧
    Calls Try.prog 93 #[.pointer p35, .int .u64 0, .int .i64 64] w34 (Rv fun v36 w37 => ∃ n38 : Int, v36 = .int .i64 n38 ∧ I31 (IntKind.i64.wrap (x33 - 64)) w37 ∧
    μ32 (IntKind.i64.wrap (x33 - 64)) w37 < μ32 x33 w34)) (∃ p39 : Option Addr, w34.cell? (Addr.add ⟨w5.heap.size, 0, none⟩ 4) = some (.pointer p39) ∧
    Calls Try.prog 93 #[.pointer p39, .int .u64 0, .int .i64 x33] w34 (Rv fun v40 w41 => ∃ n42 : Int, v40 = .int .i64 n42 ∧
    ∃ p43 : Option Addr, w41.cell? (Addr.add ⟨w5.heap.size, 0, none⟩ 4) = some (.pointer p43) ∧
    Calls Try.prog 93 #[.pointer p43, .int .u64 1, .int .i64 1] w41 (Rv fun v44 w45 => ∃ n46 : Int, v44 = .int .i64 n46 ∧
    I18 (IntKind.i64.wrap (x20 + (IntKind.i64.wrap ((shR .i64 n24 (IntKind.u64.wrap n30)) - x20)))) (IntKind.i64.wrap (x21 + 1)) w45 ∧
    μ19 (IntKind.i64.wrap (x20 + (IntKind.i64.wrap ((shR .i64 n24 (IntKind.u64.wrap n30)) - x20)))) (IntKind.i64.wrap (x21 + 1)) w45 < μ19 x20 x21 w22))))) (∃ n47 : Int, w22.cell? (Addr.add ⟨w5.heap.size, 0, none⟩ 2) = some (.int .i64 n47) ∧
    Calls Try.prog 94 #[.int .i64 n47, .slice l17.a l17.len l17.cap] w22 (Rv fun v48 w49 =>
    ∃ p50 : Option Addr, ∃ n51 : Int, v48 = .tuple #[.pointer p50, .int .i64 n51] ∧ (∃ u, w49.cell? (Addr.add ⟨w5.heap.size, 0, none⟩ 3) = some u) ∧
    w49.frozen? (Addr.add ⟨w5.heap.size, 0, none⟩ 3) = false ∧
    ∃ p52 : Option Addr, (w49.setCell (Addr.add ⟨w5.heap.size, 0, none⟩ 3) (.pointer p50)).cell? (Addr.add ⟨w5.heap.size, 0, none⟩ 4) = some (.pointer p52) ∧
    Calls Try.prog 95 #[.pointer p52] (w49.setCell (Addr.add ⟨w5.heap.size, 0, none⟩ 3) (.pointer p50)) (Rv fun v53 w54 => ∃ p55 : Option Addr, v53 = .pointer p55 ∧
    (∃ u, w54.cell? (Addr.add ⟨w5.heap.size, 0, none⟩ 5) = some u) ∧ w54.frozen? (Addr.add ⟨w5.heap.size, 0, none⟩ 5) = false ∧
    ∃ p56 : Option Addr, (w54.setCell (Addr.add ⟨w5.heap.size, 0, none⟩ 5) (.pointer p55)).cell? (Addr.add ⟨w5.heap.size, 0, none⟩ 4) = some (.pointer p56) ∧
    Calls Try.prog 96 #[.pointer p56] (w54.setCell (Addr.add ⟨w5.heap.size, 0, none⟩ 5) (.pointer p55)) (Rv fun v57 w58 => ∃ p59 : Option Addr, v57 = .pointer p59 ∧
    (∃ u, w58.cell? (Addr.add ⟨w5.heap.size, 0, none⟩ 6) = some u) ∧ w58.frozen? (Addr.add ⟨w5.heap.size, 0, none⟩ 6) = false ∧
    R (.tuple #[.pointer (some ⟨w5.heap.size, 0, none⟩), .int .i64 0]) (w58.setCell (Addr.add ⟨w5.heap.size, 0, none⟩ 6) (.pointer p59)))))))) (∃ n60 : Int, (World.drew (w5.alloc (.cells #[.int .i64 (x_0.len : Int), .int .i64 (-1), .int .i64 0, .pointer none, .pointer p6, .pointer none, .pointer none] 105))).cell? (Addr.add ⟨w5.heap.size, 0, none⟩ 0) = some (.int .i64 n60) ∧
    ∃ n61 : Int, (World.drew (w5.alloc (.cells #[.int .i64 (x_0.len : Int), .int .i64 (-1), .int .i64 0, .pointer none, .pointer p6, .pointer none, .pointer none] 105))).cell? (Addr.add ⟨w5.heap.size, 0, none⟩ 1) = some (.int .i64 n61) ∧
    Calls Try.prog 91 #[.int .i64 n60, .int .i64 n61] (World.drew (w5.alloc (.cells #[.int .i64 (x_0.len : Int), .int .i64 (-1), .int .i64 0, .pointer none, .pointer p6, .pointer none, .pointer none] 105))) (Rv fun v62 w63 =>
    ∃ n64 : Int, v62 = .int .i64 n64 ∧ (∃ u, w63.cell? (Addr.add ⟨w5.heap.size, 0, none⟩ 2) = some u) ∧ w63.frozen? (Addr.add ⟨w5.heap.size, 0, none⟩ 2) = false ∧
    ∃ w65 : World, ∃ l66 : Slc, (Instr.makeSlice 106 (.int .i64 (x_0.len : Int)) (.int .i64 (x_0.len : Int))).run Try.prog (w63.setCell (Addr.add ⟨w5.heap.size, 0, none⟩ 2) (.int .i64 n64)) = .ok (.slice l66.a l66.len l66.cap) w65 ∧
    ∃ (I67 : Int → Int → World → Prop) (μ68 : Int → Int → World → Nat), I67 (0 : Int) (0 : Int) w65 ∧ ∀ x69 : Int, ∀ x70 : Int, ∀ w71 : World, I67 x69 x70 w71 →
    br (decide (x70 < (x_0.len : Int))) (0 ≤ x70 ∧ x70 < (x_0.len : Int) ∧ ∃ a72, x_0.a = some a72 ∧
    ∃ n73 : Int, w71.cell? (Addr.add a72 (x70.toNat * 1)) = some (.int .i64 n73) ∧
    ∃ n74 : Int, w71.cell? (Addr.add ⟨w5.heap.size, 0, none⟩ 2) = some (.int .i64 n74) ∧ Calls Try.prog 92 #[.int .i64 n74] w71 (Rv fun v75 w76 =>
    ∃ n77 : Int, v75 = .int .u64 n77 ∧ 0 ≤ x70 ∧ x70 < (l66.len : Int) ∧ ∃ a78, l66.a = some a78 ∧ (∃ u, w76.cell? (Addr.add a78 (x70.toNat * 1)) = some u) ∧
    w76.frozen? (Addr.add a78 (x70.toNat * 1)) = false ∧
    ∃ n79 : Int, (w76.setCell (Addr.add a78 (x70.toNat * 1)) (.int .u64 (bAnd .u64 (IntKind.u64.wrap n73) n77))).cell? (Addr.add ⟨w5.heap.size, 0, none⟩ 2) = some (.int .i64 n79) ∧
    0 ≤ (IntKind.u64.wrap n79) ∧ ∃ (I80 : Int → World → Prop) (μ81 : Int → World →
    Nat), I80 (IntKind.i64.wrap ((shR .i64 n73 (IntKind.u64.wrap n79)) - x69)) (w76.setCell (Addr.add a78 (x70.toNat * 1)) (.int .u64 (bAnd .u64 (IntKind.u64.wrap n73) n77))) ∧
    ∀ x82 : Int, ∀ w83 : World, I80 x82 w83 →
    br (decide ((64 : Int) ≤ x82)) (∃ p84 : Option Addr, w83.cell? (Addr.add ⟨w5.heap.size, 0, none⟩ 4) = some (.pointer p84) ∧
    Calls Try.prog 93 #[.pointer p84, .int .u64 0, .int .i64 64] w83 (Rv fun v85 w86 => ∃ n87 : Int, v85 = .int .i64 n87 ∧ I80 (IntKind.i64.wrap (x82 - 64)) w86 ∧
    μ81 (IntKind.i64.wrap (x82 - 64)) w86 < μ81 x82 w83)) (∃ p88 : Option Addr, w83.cell? (Addr.add ⟨w5.heap.size, 0, none⟩ 4) = some (.pointer p88) ∧
    Calls Try.prog 93 #[.pointer p88, .int .u64 0, .int .i64 x82] w83 (Rv fun v89 w90 => ∃ n91 : Int, v89 = .int .i64 n91 ∧
    ∃ p92 : Option Addr, w90.cell? (Addr.add ⟨w5.heap.size, 0, none⟩ 4) = some (.pointer p92) ∧
    Calls Try.prog 93 #[.pointer p92, .int .u64 1, .int .i64 1] w90 (Rv fun v93 w94 => ∃ n95 : Int, v93 = .int .i64 n95 ∧
    I67 (IntKind.i64.wrap (x69 + (IntKind.i64.wrap ((shR .i64 n73 (IntKind.u64.wrap n79)) - x69)))) (IntKind.i64.wrap (x70 + 1)) w94 ∧
    μ68 (IntKind.i64.wrap (x69 + (IntKind.i64.wrap ((shR .i64 n73 (IntKind.u64.wrap n79)) - x69)))) (IntKind.i64.wrap (x70 + 1)) w94 < μ68 x69 x70 w71))))) (∃ n96 : Int, w71.cell? (Addr.add ⟨w5.heap.size, 0, none⟩ 2) = some (.int .i64 n96) ∧
    Calls Try.prog 94 #[.int .i64 n96, .slice l66.a l66.len l66.cap] w71 (Rv fun v97 w98 =>
    ∃ p99 : Option Addr, ∃ n100 : Int, v97 = .tuple #[.pointer p99, .int .i64 n100] ∧ (∃ u, w98.cell? (Addr.add ⟨w5.heap.size, 0, none⟩ 3) = some u) ∧
    w98.frozen? (Addr.add ⟨w5.heap.size, 0, none⟩ 3) = false ∧
    ∃ p101 : Option Addr, (w98.setCell (Addr.add ⟨w5.heap.size, 0, none⟩ 3) (.pointer p99)).cell? (Addr.add ⟨w5.heap.size, 0, none⟩ 4) = some (.pointer p101) ∧
    Calls Try.prog 95 #[.pointer p101] (w98.setCell (Addr.add ⟨w5.heap.size, 0, none⟩ 3) (.pointer p99)) (Rv fun v102 w103 =>
    ∃ p104 : Option Addr, v102 = .pointer p104 ∧ (∃ u, w103.cell? (Addr.add ⟨w5.heap.size, 0, none⟩ 5) = some u) ∧
    w103.frozen? (Addr.add ⟨w5.heap.size, 0, none⟩ 5) = false ∧
    ∃ p105 : Option Addr, (w103.setCell (Addr.add ⟨w5.heap.size, 0, none⟩ 5) (.pointer p104)).cell? (Addr.add ⟨w5.heap.size, 0, none⟩ 4) = some (.pointer p105) ∧
    Calls Try.prog 96 #[.pointer p105] (w103.setCell (Addr.add ⟨w5.heap.size, 0, none⟩ 5) (.pointer p104)) (Rv fun v106 w107 =>
    ∃ p108 : Option Addr, v106 = .pointer p108 ∧ (∃ u, w107.cell? (Addr.add ⟨w5.heap.size, 0, none⟩ 6) = some u) ∧
    w107.frozen? (Addr.add ⟨w5.heap.size, 0, none⟩ 6) = false ∧
    R (.tuple #[.pointer (some ⟨w5.heap.size, 0, none⟩), .int .i64 0]) (w107.setCell (Addr.add ⟨w5.heap.size, 0, none⟩ 6) (.pointer p108)))))))))))
theorem B47_eq : @B47 = fun (x_0 : Slc) (w : World) (R : Value → World → Prop) => trF Try.prog G (lk [(11, [(7, .int .i64), (54, .int .i64)]), (16, [(10, .int .i64)])]) Try.f47 [.slice x_0.a x_0.len x_0.cap] w R := by kernel_rfl
theorem c47 (x_0 : Slc) (w : World) (R : Value → World → Prop) (h : B47 x_0 w R) : Calls Try.prog 47 #[.slice x_0.a x_0.len x_0.cap] w (Rv R) := calls_of_tr (L := lk [(11, [(7, .int .i64), (54, .int .i64)]), (16, [(10, .int .i64)])]) Try.func47 hG hM (by rw [B47_eq] at h; exact h)

/-- (*locution/elias.Seq).At -/
def B51 (a_0 : Addr) (x_1 : Int) (w : World) (R : Value → World → Prop) : Prop :=
  br (decide (x_1 < (0 : Int))) (R (.int .i64 (-1)) w) (∃ n1 : Int, w.cell? (Addr.add a_0 0) = some (.int .i64 n1) ∧
    br (decide (n1 ≤ x_1)) (R (.int .i64 (-1)) w) (∃ p2 : Option Addr, (World.drew w).cell? (Addr.add a_0 6) = some (.pointer p2) ∧
    ∃ n3 : Int, (World.drew w).cell? (Addr.add a_0 2) = some (.int .i64 n3) ∧ ∃ p4 : Option Addr, (World.drew w).cell? (Addr.add a_0 3) = some (.pointer p4) ∧
    Calls Try.prog 97 #[.pointer p2, .int .i64 x_1] (World.drew w) (Rv fun v5 w6 => ∃ n7 : Int, v5 = .int .i64 n7 ∧ w6.cell? (Addr.add a_0 3) = some (.pointer p4) ∧
    w6.cell? (Addr.add a_0 2) = some (.int .i64 n3) ∧ 0 ≤ (IntKind.u64.wrap n3) ∧ Calls Try.prog 98 #[.pointer p4, .int .i64 x_1] w6 (Rv fun v8 w9 =>
    ∃ n10 : Int, v8 = .int .u64 n10 ∧ w9.cell? (Addr.add a_0 2) = some (.int .i64 n3) ∧
    R (.int .i64 (bOr .i64 (shL .i64 (IntKind.i64.wrap (n7 - x_1)) (IntKind.u64.wrap n3)) (IntKind.i64.wrap n10))) w9))))
theorem B51_eq : @B51 = fun (a_0 : Addr) (x_1 : Int) (w : World) (R : Value → World → Prop) => trF Try.prog G (lk []) Try.f51 [.pointer (some a_0), .int .i64 x_1] w R := by kernel_rfl
theorem c51 (a_0 : Addr) (x_1 : Int) (w : World) (R : Value → World → Prop) (h : B51 a_0 x_1 w R) : Calls Try.prog 51 #[.pointer (some a_0), .int .i64 x_1] w (Rv R) := calls_of_tr (L := lk []) Try.func51 hG hM (by rw [B51_eq] at h; exact h)

/-- (*locution/elias.Seq).Len -/
def B54 (a_0 : Addr) (w : World) (R : Value → World → Prop) : Prop :=
  ∃ n1 : Int, w.cell? (Addr.add a_0 0) = some (.int .i64 n1) ∧ R (.int .i64 n1) w
theorem B54_eq : @B54 = fun (a_0 : Addr) (w : World) (R : Value → World → Prop) => trF Try.prog G (lk []) Try.f54 [.pointer (some a_0)] w R := by kernel_rfl
theorem c54 (a_0 : Addr) (w : World) (R : Value → World → Prop) (h : B54 a_0 w R) : Calls Try.prog 54 #[.pointer (some a_0)] w (Rv R) := calls_of_tr (L := lk []) Try.func54 hG hM (by rw [B54_eq] at h; exact h)

/-- (*locution/elias.Seq).Next -/
def B74 (a_0 : Addr) (x_1 : Int) (w : World) (R : Value → World → Prop) : Prop :=
  Calls Try.prog 54 #[.pointer (some a_0)] w (Rv fun v1 w2 => ∃ n3 : Int, v1 = .int .i64 n3 ∧
    br (decide (n3 = (0 : Int))) (R (.tuple #[.int .i64 (-1), .int .i64 (-1)]) w2) (∃ n4 : Int, w2.cell? (Addr.add a_0 1) = some (.int .i64 n4) ∧
    br (decide (n4 < x_1)) (R (.tuple #[.int .i64 (-1), .int .i64 (-1)]) w2) (∃ n5 : Int, w2.cell? (Addr.add a_0 2) = some (.int .i64 n5) ∧
    0 ≤ (IntKind.u64.wrap n5) ∧ Calls Try.prog 104 #[.pointer (some a_0), .int .i64 (shR .i64 (max x_1 (0 : Int)) (IntKind.u64.wrap n5))] w2 (Rv fun v6 w7 =>
    ∃ n8 : Int, v6 = .int .i64 n8 ∧
    Calls Try.prog 104 #[.pointer (some a_0), .int .i64 (IntKind.i64.wrap ((shR .i64 (max x_1 (0 : Int)) (IntKind.u64.wrap n5)) + 1))] w7 (Rv fun v9 w10 =>
    ∃ n11 : Int, v9 = .int .i64 n11 ∧ ∃ p12 : Option Addr, (World.drew w10).cell? (Addr.add a_0 3) = some (.pointer p12) ∧
    ∃ n13 : Int, (World.drew w10).cell? (Addr.add a_0 2) = some (.int .i64 n13) ∧ Calls Try.prog 92 #[.int .i64 n13] (World.drew w10) (Rv fun v14 w15 =>
    ∃ n16 : Int, v14 = .int .u64 n16 ∧ w15.cell? (Addr.add a_0 3) = some (.pointer p12) ∧
    Calls Try.prog 105 #[.pointer p12, .int .i64 n8, .int .i64 n11, .int .u64 (bAnd .u64 (IntKind.u64.wrap (max x_1 (0 : Int))) n16)] w15 (Rv fun v17 w18 =>
    ∃ n19 : Int, v17 = .int .i64 n19 ∧ br (decide (n19 < (0 : Int))) (Calls Try.prog 51 #[.pointer (some a_0), .int .i64 n11] w18 (Rv fun v20 w21 =>
    ∃ n22 : Int, v20 = .int .i64 n22 ∧ R (.tuple #[.int .i64 n11, .int .i64 n22]) w21)) (Calls Try.prog 51 #[.pointer (some a_0), .int .i64 n19] w18 (Rv fun v23 w24 =>
    ∃ n25 : Int, v23 = .int .i64 n25 ∧ R (.tuple #[.int .i64 n19, .int .i64 n25]) w24)))))))))
theorem B74_eq : @B74 = fun (a_0 : Addr) (x_1 : Int) (w : World) (R : Value → World → Prop) => trF Try.prog G (lk []) Try.f74 [.pointer (some a_0), .int .i64 x_1] w R := by kernel_rfl
theorem c74 (a_0 : Addr) (x_1 : Int) (w : World) (R : Value → World → Prop) (h : B74 a_0 x_1 w R) : Calls Try.prog 74 #[.pointer (some a_0), .int .i64 x_1] w (Rv R) := calls_of_tr (L := lk []) Try.func74 hG hM (by rw [B74_eq] at h; exact h)

/-- (*locution/elias.Seq).Size -/
def B76 (a_0 : Addr) (w : World) (R : Value → World → Prop) : Prop :=
  ∃ n1 : Int, (World.drew w).cell? (Addr.add a_0 0) = some (.int .i64 n1) ∧ ∃ n2 : Int, (World.drew w).cell? (Addr.add a_0 2) = some (.int .i64 n2) ∧
    ∃ p3 : Option Addr, (World.drew w).cell? (Addr.add a_0 4) = some (.pointer p3) ∧ Calls Try.prog 106 #[.pointer p3] (World.drew w) (Rv fun v4 w5 =>
    ∃ n6 : Int, v4 = .int .i64 n6 ∧ w5.cell? (Addr.add a_0 2) = some (.int .i64 n2) ∧ w5.cell? (Addr.add a_0 0) = some (.int .i64 n1) ∧
    R (.int .i64 (IntKind.i64.wrap ((IntKind.i64.wrap (n1 * n2)) + n6))) w5)
theorem B76_eq : @B76 = fun (a_0 : Addr) (w : World) (R : Value → World → Prop) => trF Try.prog G (lk []) Try.f76 [.pointer (some a_0)] w R := by kernel_rfl
theorem c76 (a_0 : Addr) (w : World) (R : Value → World → Prop) (h : B76 a_0 w R) : Calls Try.prog 76 #[.pointer (some a_0)] w (Rv R) := calls_of_tr (L := lk []) Try.func76 hG hM (by rw [B76_eq] at h; exact h)

/-- (*locution/elias.Seq).Find -/
def B83 (a_0 : Addr) (x_1 : Int) (x_2 : Int) (x_3 : Int) (w : World) (R : Value → World → Prop) : Prop :=
  Calls Try.prog 74 #[.pointer (some a_0), .int .i64 x_3] w (Rv fun v1 w2 => ∃ n3 : Int, ∃ n4 : Int, v1 = .tuple #[.int .i64 n3, .int .i64 n4] ∧
    br (!(decide (n4 = x_3))) (R (.int .i64 (-1)) w2) (br (decide (n3 < (0 : Int))) (R (.int .i64 (-1)) w2) (∃ n5 : Int, w2.cell? (Addr.add a_0 0) = some (.int .i64 n5) ∧
    br (decide ((min x_2 n5) ≤ (max n3 x_1))) (R (.int .i64 (-1)) w2) (Calls Try.prog 51 #[.pointer (some a_0), .int .i64 (max n3 x_1)] w2 (Rv fun v6 w7 =>
    ∃ n8 : Int, v6 = .int .i64 n8 ∧ br (!(decide (n8 = x_3))) (R (.int .i64 (-1)) w7) (R (.int .i64 (max n3 x_1)) w7))))))
theorem B83_eq : @B83 = fun (a_0 : Addr) (x_1 : Int) (x_2 : Int) (x_3 : Int) (w : World) (R : Value → World → Prop) => trF Try.prog G (lk []) Try.f83 [.pointer (some a_0), .int .i64 x_1, .int .i64 x_2, .int .i64 x_3] w R := by kernel_rfl
theorem c83 (a_0 : Addr) (x_1 : Int) (x_2 : Int) (x_3 : Int) (w : World) (R : Value → World → Prop) (h : B83 a_0 x_1 x_2 x_3 w R) : Calls Try.prog 83 #[.pointer (some a_0), .int .i64 x_1, .int .i64 x_2, .int .i64 x_3] w (Rv R) := calls_of_tr (L := lk []) Try.func83 hG hM (by rw [B83_eq] at h; exact h)

/-- locution/elias.check -/
def B89 (x_0 : Slc) (w : World) (R : Value → World → Prop) : Prop :=
  ∃ (I1 : Int → World → Prop) (μ2 : Int → World → Nat), I1 (0 : Int) w ∧ ∀ x3 : Int, ∀ w4 : World, I1 x3 w4 → br (decide (x3 < (x_0.len : Int))) (0 ≤ x3 ∧
    x3 < (x_0.len : Int) ∧ ∃ a5, x_0.a = some a5 ∧ ∃ n6 : Int, w4.cell? (Addr.add a5 (x3.toNat * 1)) = some (.int .i64 n6) ∧
    br (decide (n6 < (0 : Int))) (R (.int .i64 8) w4) (br (decide ((1099511627776 : Int) < n6)) (R (.int .i64 8) w4) (br (decide ((0 : Int) < x3)) (0 ≤ (IntKind.i64.wrap (x3 - 1)) ∧
    (IntKind.i64.wrap (x3 - 1)) < (x_0.len : Int) ∧ ∃ a7, x_0.a = some a7 ∧
    ∃ n8 : Int, w4.cell? (Addr.add a7 ((IntKind.i64.wrap (x3 - 1)).toNat * 1)) = some (.int .i64 n8) ∧
    br (decide (n6 < n8)) (R (.int .i64 9) w4) (I1 (IntKind.i64.wrap (x3 + 1)) w4 ∧
    μ2 (IntKind.i64.wrap (x3 + 1)) w4 < μ2 x3 w4)) (I1 (IntKind.i64.wrap (x3 + 1)) w4 ∧ μ2 (IntKind.i64.wrap (x3 + 1)) w4 < μ2 x3 w4)))) (R (.int .i64 0) w4)
theorem B89_eq : @B89 = fun (x_0 : Slc) (w : World) (R : Value → World → Prop) => trF Try.prog G (lk [(2, [(7, .int .i64)])]) Try.f89 [.slice x_0.a x_0.len x_0.cap] w R := by kernel_rfl
theorem c89 (x_0 : Slc) (w : World) (R : Value → World → Prop) (h : B89 x_0 w R) : Calls Try.prog 89 #[.slice x_0.a x_0.len x_0.cap] w (Rv R) := calls_of_tr (L := lk [(2, [(7, .int .i64)])]) Try.func89 hG hM (by rw [B89_eq] at h; exact h)

/-- locution/elias.Low -/
def B91 (x_0 : Int) (x_1 : Int) (w : World) (R : Value → World → Prop) : Prop :=
  br (decide (x_0 < (1 : Int))) (R (.int .i64 0) w) (br (decide (x_1 < x_0)) (R (.int .i64 0) w) (x_0 ≠ 0 ∧
    Calls Try.prog 108 #[.int .u64 (IntKind.u64.wrap (IntKind.i64.wrap (Int.tdiv x_1 x_0)))] w (Rv fun v1 w2 => ∃ n3 : Int, v1 = .int .i64 n3 ∧
    R (.int .i64 (IntKind.i64.wrap (n3 - 1))) w2)))
theorem B91_eq : @B91 = fun (x_0 : Int) (x_1 : Int) (w : World) (R : Value → World → Prop) => trF Try.prog G (lk []) Try.f91 [.int .i64 x_0, .int .i64 x_1] w R := by kernel_rfl
theorem c91 (x_0 : Int) (x_1 : Int) (w : World) (R : Value → World → Prop) (h : B91 x_0 x_1 w R) : Calls Try.prog 91 #[.int .i64 x_0, .int .i64 x_1] w (Rv R) := calls_of_tr (L := lk []) Try.func91 hG hM (by rw [B91_eq] at h; exact h)

/-- (*locution/elias.Seq).Last -/
def B99 (a_0 : Addr) (w : World) (R : Value → World → Prop) : Prop :=
  Calls Try.prog 54 #[.pointer (some a_0)] w (Rv fun v1 w2 => ∃ n3 : Int, v1 = .int .i64 n3 ∧
    br (decide (n3 = (0 : Int))) (R (.int .i64 (-1)) w2) (∃ n4 : Int, w2.cell? (Addr.add a_0 1) = some (.int .i64 n4) ∧ R (.int .i64 n4) w2))
theorem B99_eq : @B99 = fun (a_0 : Addr) (w : World) (R : Value → World → Prop) => trF Try.prog G (lk []) Try.f99 [.pointer (some a_0)] w R := by kernel_rfl
theorem c99 (a_0 : Addr) (w : World) (R : Value → World → Prop) (h : B99 a_0 w R) : Calls Try.prog 99 #[.pointer (some a_0)] w (Rv R) := calls_of_tr (L := lk []) Try.func99 hG hM (by rw [B99_eq] at h; exact h)

/-- (*locution/elias.Seq).ahead -/
def B104 (a_0 : Addr) (x_1 : Int) (w : World) (R : Value → World → Prop) : Prop :=
  br (decide (x_1 = (0 : Int))) (R (.int .i64 0) w) (∃ p1 : Option Addr, w.cell? (Addr.add a_0 6) = some (.pointer p1) ∧
    Calls Try.prog 124 #[.pointer p1, .int .i64 (IntKind.i64.wrap (x_1 - 1))] w (Rv fun v2 w3 => ∃ n4 : Int, v2 = .int .i64 n4 ∧
    br (decide (n4 < (0 : Int))) (∃ n5 : Int, w3.cell? (Addr.add a_0 0) = some (.int .i64 n5) ∧
    R (.int .i64 n5) w3) (∃ p6 : Option Addr, w3.cell? (Addr.add a_0 5) = some (.pointer p6) ∧ Calls Try.prog 119 #[.pointer p6, .int .i64 n4] w3 (Rv fun v7 w8 =>
    ∃ n9 : Int, v7 = .int .i64 n9 ∧ R (.int .i64 n9) w8))))
theorem B104_eq : @B104 = fun (a_0 : Addr) (x_1 : Int) (w : World) (R : Value → World → Prop) => trF Try.prog G (lk []) Try.f104 [.pointer (some a_0), .int .i64 x_1] w R := by kernel_rfl
theorem c104 (a_0 : Addr) (x_1 : Int) (w : World) (R : Value → World → Prop) (h : B104 a_0 x_1 w R) : Calls Try.prog 104 #[.pointer (some a_0), .int .i64 x_1] w (Rv R) := calls_of_tr (L := lk []) Try.func104 hG hM (by rw [B104_eq] at h; exact h)

/-- (*locution/elias.Seq).Ahead -/
def B107 (a_0 : Addr) (x_1 : Int) (w : World) (R : Value → World → Prop) : Prop :=
  Calls Try.prog 54 #[.pointer (some a_0)] w (Rv fun v1 w2 => ∃ n3 : Int, v1 = .int .i64 n3 ∧
    br (decide (n3 = (0 : Int))) (R (.tuple #[.int .i64 (-1), .int .i64 (-1)]) w2) (br (decide (x_1 < (0 : Int))) (R (.tuple #[.int .i64 (-1), .int .i64 (-1)]) w2) (∃ n4 : Int, w2.cell? (Addr.add a_0 0) = some (.int .i64 n4) ∧
    ∃ n5 : Int, w2.cell? (Addr.add a_0 1) = some (.int .i64 n5) ∧
    br (decide (x_1 < n5)) (Calls Try.prog 74 #[.pointer (some a_0), .int .i64 (IntKind.i64.wrap (x_1 + 1))] w2 (Rv fun v6 w7 =>
    ∃ n8 : Int, ∃ n9 : Int, v6 = .tuple #[.int .i64 n8, .int .i64 n9] ∧
    Calls Try.prog 51 #[.pointer (some a_0), .int .i64 (IntKind.i64.wrap (n8 - 1))] w7 (Rv fun v10 w11 => ∃ n12 : Int, v10 = .int .i64 n12 ∧
    R (.tuple #[.int .i64 (IntKind.i64.wrap (n8 - 1)), .int .i64 n12]) w11))) (Calls Try.prog 51 #[.pointer (some a_0), .int .i64 (IntKind.i64.wrap (n4 - 1))] w2 (Rv fun v13 w14 =>
    ∃ n15 : Int, v13 = .int .i64 n15 ∧ R (.tuple #[.int .i64 (IntKind.i64.wrap (n4 - 1)), .int .i64 n15]) w14)))))
theorem B107_eq : @B107 = fun (a_0 : Addr) (x_1 : Int) (w : World) (R : Value → World → Prop) => trF Try.prog G (lk []) Try.f107 [.pointer (some a_0), .int .i64 x_1] w R := by kernel_rfl
theorem c107 (a_0 : Addr) (x_1 : Int) (w : World) (R : Value → World → Prop) (h : B107 a_0 x_1 w R) : Calls Try.prog 107 #[.pointer (some a_0), .int .i64 x_1] w (Rv R) := calls_of_tr (L := lk []) Try.func107 hG hM (by rw [B107_eq] at h; exact h)

/-- locution/locutionref07.Wrong -/
def B14 (x_0 : Slc) (w : World) (R : Value → World → Prop) : Prop :=
  ∃ (I1 : Int → World → Prop) (μ2 : Int → World → Nat), I1 (0 : Int) w ∧ ∀ x3 : Int, ∀ w4 : World, I1 x3 w4 → br (decide (x3 < (x_0.len : Int))) (0 ≤ x3 ∧
    x3 < (x_0.len : Int) ∧ ∃ a5, x_0.a = some a5 ∧ ∃ n6 : Int, w4.cell? (Addr.add a5 (x3.toNat * 1)) = some (.int .i64 n6) ∧
    br (decide (n6 < (0 : Int))) (R (.int .i64 8) w4) (0 ≤ x3 ∧ x3 < (x_0.len : Int) ∧ ∃ a7, x_0.a = some a7 ∧
    ∃ n8 : Int, w4.cell? (Addr.add a7 (x3.toNat * 1)) = some (.int .i64 n8) ∧
    br (decide ((1099511627776 : Int) < n8)) (R (.int .i64 8) w4) (br (decide ((0 : Int) < x3)) (0 ≤ x3 ∧ x3 < (x_0.len : Int) ∧ ∃ a9, x_0.a = some a9 ∧
    ∃ n10 : Int, (World.drew w4).cell? (Addr.add a9 (x3.toNat * 1)) = some (.int .i64 n10) ∧ 0 ≤ (IntKind.i64.wrap (x3 - 1)) ∧
    (IntKind.i64.wrap (x3 - 1)) < (x_0.len : Int) ∧ ∃ a11, x_0.a = some a11 ∧
    ∃ n12 : Int, (World.drew w4).cell? (Addr.add a11 ((IntKind.i64.wrap (x3 - 1)).toNat * 1)) = some (.int .i64 n12) ∧
    br (decide (n10 < n12)) (R (.int .i64 9) (World.drew w4)) (I1 (IntKind.i64.wrap (x3 + 1)) (World.drew w4) ∧
    μ2 (IntKind.i64.wrap (x3 + 1)) (World.drew w4) < μ2 x3 w4)) (I1 (IntKind.i64.wrap (x3 + 1)) (World.drew w4) ∧
    μ2 (IntKind.i64.wrap (x3 + 1)) (World.drew w4) < μ2 x3 w4)))) (R (.int .i64 0) w4)
theorem B14_eq : @B14 = fun (x_0 : Slc) (w : World) (R : Value → World → Prop) => trF Try.prog G (lk [(2, [(3, .int .i64)])]) Try.f14 [.slice x_0.a x_0.len x_0.cap] w R := by kernel_rfl
theorem c14 (x_0 : Slc) (w : World) (R : Value → World → Prop) (h : B14 x_0 w R) : Calls Try.prog 14 #[.slice x_0.a x_0.len x_0.cap] w (Rv R) := calls_of_tr (L := lk [(2, [(3, .int .i64)])]) Try.func14 hG hM (by rw [B14_eq] at h; exact h)

/-- locution/locutionref07.Next -/
def B18 (x_0 : Slc) (x_1 : Int) (w : World) (R : Value → World → Prop) : Prop :=
  ∃ (I1 : Int → World → Prop) (μ2 : Int → World → Nat), I1 (0 : Int) w ∧ ∀ x3 : Int, ∀ w4 : World, I1 x3 w4 → br (decide (x3 < (x_0.len : Int))) (0 ≤ x3 ∧
    x3 < (x_0.len : Int) ∧ ∃ a5, x_0.a = some a5 ∧ ∃ n6 : Int, w4.cell? (Addr.add a5 (x3.toNat * 1)) = some (.int .i64 n6) ∧
    br (decide (x_1 ≤ n6)) (R (.int .i64 x3) w4) (I1 (IntKind.i64.wrap (x3 + 1)) w4 ∧ μ2 (IntKind.i64.wrap (x3 + 1)) w4 < μ2 x3 w4)) (R (.int .i64 (-1)) w4)
theorem B18_eq : @B18 = fun (x_0 : Slc) (x_1 : Int) (w : World) (R : Value → World → Prop) => trF Try.prog G (lk [(2, [(5, .int .i64)])]) Try.f18 [.slice x_0.a x_0.len x_0.cap, .int .i64 x_1] w R := by kernel_rfl
theorem c18 (x_0 : Slc) (x_1 : Int) (w : World) (R : Value → World → Prop) (h : B18 x_0 x_1 w R) : Calls Try.prog 18 #[.slice x_0.a x_0.len x_0.cap, .int .i64 x_1] w (Rv R) := calls_of_tr (L := lk [(2, [(5, .int .i64)])]) Try.func18 hG hM (by rw [B18_eq] at h; exact h)

/-- locution/locutionref07.At -/
def B19 (x_0 : Slc) (x_1 : Int) (w : World) (R : Value → World → Prop) : Prop :=
  br (decide (x_1 < (0 : Int))) (R (.int .i64 (-1)) w) (br (decide ((x_0.len : Int) ≤ x_1)) (R (.int .i64 (-1)) w) (0 ≤ x_1 ∧ x_1 < (x_0.len : Int) ∧
    ∃ a1, x_0.a = some a1 ∧ ∃ n2 : Int, w.cell? (Addr.add a1 (x_1.toNat * 1)) = some (.int .i64 n2) ∧ R (.int .i64 n2) w))
theorem B19_eq : @B19 = fun (x_0 : Slc) (x_1 : Int) (w : World) (R : Value → World → Prop) => trF Try.prog G (lk []) Try.f19 [.slice x_0.a x_0.len x_0.cap, .int .i64 x_1] w R := by kernel_rfl
theorem c19 (x_0 : Slc) (x_1 : Int) (w : World) (R : Value → World → Prop) (h : B19 x_0 x_1 w R) : Calls Try.prog 19 #[.slice x_0.a x_0.len x_0.cap, .int .i64 x_1] w (Rv R) := calls_of_tr (L := lk []) Try.func19 hG hM (by rw [B19_eq] at h; exact h)

/-- locution/locutionref07.Size -/
def B41 (x_0 : Slc) (w : World) (R : Value → World → Prop) : Prop :=
  br (decide ((x_0.len : Int) = (0 : Int))) (R (.int .i64 0) w) (0 ≤ (IntKind.i64.wrap ((x_0.len : Int) - 1)) ∧
    (IntKind.i64.wrap ((x_0.len : Int) - 1)) < (x_0.len : Int) ∧ ∃ a1, x_0.a = some a1 ∧
    ∃ n2 : Int, w.cell? (Addr.add a1 ((IntKind.i64.wrap ((x_0.len : Int) - 1)).toNat * 1)) = some (.int .i64 n2) ∧
    Calls Try.prog 87 #[.int .i64 (x_0.len : Int), .int .i64 n2] w (Rv fun v3 w4 => ∃ n5 : Int, v3 = .int .i64 n5 ∧ ∃ (I6 : Int → Int → World → Prop) (μ7 : Int → Int →
    World → Nat), I6 n2 (0 : Int) w4 ∧ ∀ x8 : Int, ∀ x9 : Int, ∀ w10 : World, I6 x8 x9 w10 → br (decide (x9 < n5)) ((2 : Int) ≠ 0 ∧
    I6 (IntKind.i64.wrap (Int.tdiv x8 2)) (IntKind.i64.wrap (x9 + 1)) w10 ∧
    μ7 (IntKind.i64.wrap (Int.tdiv x8 2)) (IntKind.i64.wrap (x9 + 1)) w10 < μ7 x8 x9 w10) (R (.int .i64 (IntKind.i64.wrap ((IntKind.i64.wrap ((IntKind.i64.wrap ((x_0.len : Int) * n5)) + x8)) + (x_0.len : Int)))) w10)))
theorem B41_eq : @B41 = fun (x_0 : Slc) (w : World) (R : Value → World → Prop) => trF Try.prog G (lk [(6, [(3, .int .i64), (5, .int .i64)])]) Try.f41 [.slice x_0.a x_0.len x_0.cap] w R := by kernel_rfl
theorem c41 (x_0 : Slc) (w : World) (R : Value → World → Prop) (h : B41 x_0 w R) : Calls Try.prog 41 #[.slice x_0.a x_0.len x_0.cap] w (Rv R) := calls_of_tr (L := lk [(6, [(3, .int .i64), (5, .int .i64)])]) Try.func41 hG hM (by rw [B41_eq] at h; exact h)

/-- locution/locutionref07.Low -/
def B87 (x_0 : Int) (x_1 : Int) (w : World) (R : Value → World → Prop) : Prop :=
  br (decide (x_0 < (1 : Int))) (R (.int .i64 0) w) (br (decide (x_1 < (1 : Int))) (R (.int .i64 0) w) (∃ (I1 : Int → Int → World → Prop) (μ2 : Int → Int → World →
    Nat), I1 x_1 (0 : Int) w ∧ ∀ x3 : Int, ∀ x4 : Int, ∀ w5 : World, I1 x3 x4 w5 → (2 : Int) ≠ 0 ∧
    br (decide (x_0 ≤ (IntKind.i64.wrap (Int.tdiv x3 2)))) ((2 : Int) ≠ 0 ∧ I1 (IntKind.i64.wrap (Int.tdiv x3 2)) (IntKind.i64.wrap (x4 + 1)) w5 ∧
    μ2 (IntKind.i64.wrap (Int.tdiv x3 2)) (IntKind.i64.wrap (x4 + 1)) w5 < μ2 x3 x4 w5) (R (.int .i64 x4) w5)))
theorem B87_eq : @B87 = fun (x_0 : Int) (x_1 : Int) (w : World) (R : Value → World → Prop) => trF Try.prog G (lk [(4, [(1, .int .i64), (5, .int .i64)])]) Try.f87 [.int .i64 x_0, .int .i64 x_1] w R := by kernel_rfl
theorem c87 (x_0 : Int) (x_1 : Int) (w : World) (R : Value → World → Prop) (h : B87 x_0 x_1 w R) : Calls Try.prog 87 #[.int .i64 x_0, .int .i64 x_1] w (Rv R) := calls_of_tr (L := lk [(4, [(1, .int .i64), (5, .int .i64)])]) Try.func87 hG hM (by rw [B87_eq] at h; exact h)

/-- (*locution/elias.Seq).Len -/
def B54n  (w : World) (R : Value → World → Prop) : Prop :=
  R (.int .i64 0) w
theorem B54n_eq : @B54n = fun (w : World) (R : Value → World → Prop) => trF Try.prog G (lk []) Try.f54 [.pointer none] w R := by kernel_rfl
theorem c54n  (w : World) (R : Value → World → Prop) (h : B54n  w R) : Calls Try.prog 54 #[.pointer none] w (Rv R) := calls_of_tr (L := lk []) Try.func54 hG hM (by rw [B54n_eq] at h; exact h)

/-- (*locution/elias.Seq).Last -/
def B99n  (w : World) (R : Value → World → Prop) : Prop :=
  Calls Try.prog 54 #[.pointer none] w (Rv fun v1 w2 => ∃ n3 : Int, v1 = .int .i64 n3 ∧ br (decide (n3 = (0 : Int))) (R (.int .i64 (-1)) w2) (False))
theorem B99n_eq : @B99n = fun (w : World) (R : Value → World → Prop) => trF Try.prog G (lk []) Try.f99 [.pointer none] w R := by kernel_rfl
theorem c99n  (w : World) (R : Value → World → Prop) (h : B99n  w R) : Calls Try.prog 99 #[.pointer none] w (Rv R) := calls_of_tr (L := lk []) Try.func99 hG hM (by rw [B99n_eq] at h; exact h)

/-- (*locution/elias.Seq).At -/
def B51n (x_1 : Int) (w : World) (R : Value → World → Prop) : Prop :=
  R (.int .i64 (-1)) w
theorem B51n_eq : @B51n = fun (x_1 : Int) (w : World) (R : Value → World → Prop) => trF Try.prog G (lk []) Try.f51 [.pointer none, .int .i64 x_1] w R := by kernel_rfl
theorem c51n (x_1 : Int) (w : World) (R : Value → World → Prop) (h : B51n x_1 w R) : Calls Try.prog 51 #[.pointer none, .int .i64 x_1] w (Rv R) := calls_of_tr (L := lk []) Try.func51 hG hM (by rw [B51n_eq] at h; exact h)

/-- (*locution/elias.Seq).Next -/
def B74n (x_1 : Int) (w : World) (R : Value → World → Prop) : Prop :=
  Calls Try.prog 54 #[.pointer none] w (Rv fun v1 w2 => ∃ n3 : Int, v1 = .int .i64 n3 ∧
    br (decide (n3 = (0 : Int))) (R (.tuple #[.int .i64 (-1), .int .i64 (-1)]) w2) (False))
theorem B74n_eq : @B74n = fun (x_1 : Int) (w : World) (R : Value → World → Prop) => trF Try.prog G (lk []) Try.f74 [.pointer none, .int .i64 x_1] w R := by kernel_rfl
theorem c74n (x_1 : Int) (w : World) (R : Value → World → Prop) (h : B74n x_1 w R) : Calls Try.prog 74 #[.pointer none, .int .i64 x_1] w (Rv R) := calls_of_tr (L := lk []) Try.func74 hG hM (by rw [B74n_eq] at h; exact h)

/-- (*locution/elias.Seq).Ahead -/
def B107n (x_1 : Int) (w : World) (R : Value → World → Prop) : Prop :=
  Calls Try.prog 54 #[.pointer none] w (Rv fun v1 w2 => ∃ n3 : Int, v1 = .int .i64 n3 ∧
    br (decide (n3 = (0 : Int))) (R (.tuple #[.int .i64 (-1), .int .i64 (-1)]) w2) (br (decide (x_1 < (0 : Int))) (R (.tuple #[.int .i64 (-1), .int .i64 (-1)]) w2) (False)))
theorem B107n_eq : @B107n = fun (x_1 : Int) (w : World) (R : Value → World → Prop) => trF Try.prog G (lk []) Try.f107 [.pointer none, .int .i64 x_1] w R := by kernel_rfl
theorem c107n (x_1 : Int) (w : World) (R : Value → World → Prop) (h : B107n x_1 w R) : Calls Try.prog 107 #[.pointer none, .int .i64 x_1] w (Rv R) := calls_of_tr (L := lk []) Try.func107 hG hM (by rw [B107n_eq] at h; exact h)

/-- (*locution/elias.Seq).Find -/
def B83n (x_1 : Int) (x_2 : Int) (x_3 : Int) (w : World) (R : Value → World → Prop) : Prop :=
  Calls Try.prog 74 #[.pointer none, .int .i64 x_3] w (Rv fun v1 w2 => ∃ n3 : Int, ∃ n4 : Int, v1 = .tuple #[.int .i64 n3, .int .i64 n4] ∧
    br (!(decide (n4 = x_3))) (R (.int .i64 (-1)) w2) (br (decide (n3 < (0 : Int))) (R (.int .i64 (-1)) w2) (False)))
theorem B83n_eq : @B83n = fun (x_1 : Int) (x_2 : Int) (x_3 : Int) (w : World) (R : Value → World → Prop) => trF Try.prog G (lk []) Try.f83 [.pointer none, .int .i64 x_1, .int .i64 x_2, .int .i64 x_3] w R := by kernel_rfl
theorem c83n (x_1 : Int) (x_2 : Int) (x_3 : Int) (w : World) (R : Value → World → Prop) (h : B83n x_1 x_2 x_3 w R) : Calls Try.prog 83 #[.pointer none, .int .i64 x_1, .int .i64 x_2, .int .i64 x_3] w (Rv R) := calls_of_tr (L := lk []) Try.func83 hG hM (by rw [B83n_eq] at h; exact h)

/-- (*locution/elias.Seq).Size -/
def B76n  (w : World) (R : Value → World → Prop) : Prop :=
  R (.int .i64 0) w
theorem B76n_eq : @B76n = fun (w : World) (R : Value → World → Prop) => trF Try.prog G (lk []) Try.f76 [.pointer none] w R := by kernel_rfl
theorem c76n  (w : World) (R : Value → World → Prop) (h : B76n  w R) : Calls Try.prog 76 #[.pointer none] w (Rv R) := calls_of_tr (L := lk []) Try.func76 hG hM (by rw [B76n_eq] at h; exact h)

end Go.Proofs.Ytmpgklgjmkcpdaa.V
