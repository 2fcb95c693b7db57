/- The verification conditions of functions, printed by a program of this work (pr.py) and checked here by the kernel. -/
import Derived.Test.YtomajpihimlcjaaDoorVb
import Derived.Test.YtomajpihimlcjaaDoorBP
set_option maxRecDepth 100000
set_option linter.unusedVariables false
namespace Go.Proofs.YtomajpihimlcjaaDoor.V
open Go Go.VC

/-- locution/elias.New -/
def B29 (x_0 : Slc) (w : World) (R : Value → World → Prop) : Prop :=
  Calls Tryd.prog 98 #[.slice x_0.a x_0.len x_0.cap] w (Rv fun v1 w2 => ∃ n3 : Int, v1 = .int .i64 n3 ∧
    br (!(decide (n3 = (0 : Int)))) (R (.tuple #[.pointer none, .int .i64 n3]) w2) (Calls Tryd.prog 82 #[] w2 (Rv fun v4 w5 => ∃ p6 : Option Addr, v4 = .pointer p6 ∧
    ∃ n7 : Int, (w5.alloc (.cells #[.int .i64 (x_0.len : Int), .int .i64 (-1), .int .i64 0, .pointer none, .pointer p6, .pointer none, .pointer none] 121)).cell? (Addr.add ⟨w5.heap.size, 0, none⟩ 0) = some (.int .i64 n7) ∧
    br (decide ((0 : Int) < n7)) (∃ n8 : Int, (w5.alloc (.cells #[.int .i64 (x_0.len : Int), .int .i64 (-1), .int .i64 0, .pointer none, .pointer p6, .pointer none, .pointer none] 121)).cell? (Addr.add ⟨w5.heap.size, 0, none⟩ 0) = some (.int .i64 n8) ∧
    0 ≤ (IntKind.i64.wrap (n8 - 1)) ∧ (IntKind.i64.wrap (n8 - 1)) < (x_0.len : Int) ∧ ∃ a9, x_0.a = some a9 ∧
    ∃ n10 : Int, (w5.alloc (.cells #[.int .i64 (x_0.len : Int), .int .i64 (-1), .int .i64 0, .pointer none, .pointer p6, .pointer none, .pointer none] 121)).cell? (Addr.add a9 ((IntKind.i64.wrap (n8 - 1)).toNat * 1)) = some (.int .i64 n10) ∧
    (∃ u, (w5.alloc (.cells #[.int .i64 (x_0.len : Int), .int .i64 (-1), .int .i64 0, .pointer none, .pointer p6, .pointer none, .pointer none] 121)).cell? (Addr.add ⟨w5.heap.size, 0, none⟩ 1) = some u) ∧
    (w5.alloc (.cells #[.int .i64 (x_0.len : Int), .int .i64 (-1), .int .i64 0, .pointer none, .pointer p6, .pointer none, .pointer none] 121)).frozen? (Addr.add ⟨w5.heap.size, 0, none⟩ 1) = false ∧
    ∃ n11 : Int, (World.drew ((w5.alloc (.cells #[.int .i64 (x_0.len : Int), .int .i64 (-1), .int .i64 0, .pointer none, .pointer p6, .pointer none, .pointer none] 121)).setCell (Addr.add ⟨w5.heap.size, 0, none⟩ 1) (.int .i64 n10))).cell? (Addr.add ⟨w5.heap.size, 0, none⟩ 0) = some (.int .i64 n11) ∧
    ∃ n12 : Int, (World.drew ((w5.alloc (.cells #[.int .i64 (x_0.len : Int), .int .i64 (-1), .int .i64 0, .pointer none, .pointer p6, .pointer none, .pointer none] 121)).setCell (Addr.add ⟨w5.heap.size, 0, none⟩ 1) (.int .i64 n10))).cell? (Addr.add ⟨w5.heap.size, 0, none⟩ 1) = some (.int .i64 n12) ∧
    Calls Tryd.prog 99 #[.int .i64 n11, .int .i64 n12] (World.drew ((w5.alloc (.cells #[.int .i64 (x_0.len : Int), .int .i64 (-1), .int .i64 0, .pointer none, .pointer p6, .pointer none, .pointer none] 121)).setCell (Addr.add ⟨w5.heap.size, 0, none⟩ 1) (.int .i64 n10))) (Rv fun v13 w14 =>
    ∃ n15 : Int, v13 = .int .i64 n15 ∧ (∃ u, w14.cell? (Addr.add ⟨w5.heap.size, 0, none⟩ 2) = some u) ∧ w14.frozen? (Addr.add ⟨w5.heap.size, 0, none⟩ 2) = false ∧
    ∃ w16 : World, ∃ l17 : Slc, (Instr.makeSlice 29 (.int .i64 (x_0.len : Int)) (.int .i64 (x_0.len : Int))).run Tryd.prog (w14.setCell (Addr.add ⟨w5.heap.size, 0, none⟩ 2) (.int .i64 n15)) = .ok (.slice l17.a l17.len l17.cap) w16 ∧
    ∃ (I18 : Int → Int → World → Prop) (μ19 : Int → Int → World → Nat), I18 (0 : Int) (0 : Int) w16 ∧ ∀ x20 : Int, ∀ x21 : Int, ∀ w22 : World, I18 x20 x21 w22 →
    br (decide (x21 < (x_0.len : Int))) (0 ≤ x21 ∧ x21 < (x_0.len : Int) ∧ ∃ a23, x_0.a = some a23 ∧
    ∃ n24 : Int, w22.cell? (Addr.add a23 (x21.toNat * 1)) = some (.int .i64 n24) ∧
    ∃ n25 : Int, w22.cell? (Addr.add ⟨w5.heap.size, 0, none⟩ 2) = some (.int .i64 n25) ∧ Calls Tryd.prog 88 #[.int .i64 n25] w22 (Rv fun v26 w27 =>
    ∃ n28 : Int, v26 = .int .u64 n28 ∧ 0 ≤ x21 ∧ x21 < (l17.len : Int) ∧ ∃ a29, l17.a = some a29 ∧ (∃ u, w27.cell? (Addr.add a29 (x21.toNat * 1)) = some u) ∧
    w27.frozen? (Addr.add a29 (x21.toNat * 1)) = false ∧
    ∃ n30 : Int, (w27.setCell (Addr.add a29 (x21.toNat * 1)) (.int .u64 (bAnd .u64 (IntKind.u64.wrap n24) n28))).cell? (Addr.add ⟨w5.heap.size, 0, none⟩ 2) = some (.int .i64 n30) ∧
    0 ≤ (IntKind.u64.wrap n30) ∧ ∃ (I31 : Int → World → Prop) (μ32 : Int → World →
    Nat), I31 (IntKind.i64.wrap ((shR .i64 n24 (IntKind.u64.wrap n30)) - x20)) (w27.setCell (Addr.add a29 (x21.toNat * 1)) (.int .u64 (bAnd .u64 (IntKind.u64.wrap n24) n28))) ∧
    ∀ x33 : Int, ∀ w34 : World, I31 x33 w34 →
    br (decide ((64 : Int) ≤ x33)) (∃ p35 : Option Addr, w34.cell? (Addr.add ⟨w5.heap.size, 0, none⟩ 4) = some (.pointer p35) ∧
    Calls Tryd.prog 22 #[.pointer p35, .int .u64 0, .int .i64 64] w34 (Rv fun v36 w37 => ∃ n38 : Int, v36 = .int .i64 n38 ∧ I31 (IntKind.i64.wrap (x33 - 64)) w37 ∧
    μ32 (IntKind.i64.wrap (x33 - 64)) w37 < μ32 x33 w34)) (∃ p39 : Option Addr, w34.cell? (Addr.add ⟨w5.heap.size, 0, none⟩ 4) = some (.pointer p39) ∧
    Calls Tryd.prog 22 #[.pointer p39, .int .u64 0, .int .i64 x33] w34 (Rv fun v40 w41 => ∃ n42 : Int, v40 = .int .i64 n42 ∧
    ∃ p43 : Option Addr, w41.cell? (Addr.add ⟨w5.heap.size, 0, none⟩ 4) = some (.pointer p43) ∧
    Calls Tryd.prog 22 #[.pointer p43, .int .u64 1, .int .i64 1] w41 (Rv fun v44 w45 => ∃ n46 : Int, v44 = .int .i64 n46 ∧
    I18 (IntKind.i64.wrap (x20 + (IntKind.i64.wrap ((shR .i64 n24 (IntKind.u64.wrap n30)) - x20)))) (IntKind.i64.wrap (x21 + 1)) w45 ∧
    μ19 (IntKind.i64.wrap (x20 + (IntKind.i64.wrap ((shR .i64 n24 (IntKind.u64.wrap n30)) - x20)))) (IntKind.i64.wrap (x21 + 1)) w45 < μ19 x20 x21 w22))))) (∃ n47 : Int, w22.cell? (Addr.add ⟨w5.heap.size, 0, none⟩ 2) = some (.int .i64 n47) ∧
    Calls Tryd.prog 100 #[.int .i64 n47, .slice l17.a l17.len l17.cap] w22 (Rv fun v48 w49 =>
    ∃ p50 : Option Addr, ∃ n51 : Int, v48 = .tuple #[.pointer p50, .int .i64 n51] ∧ (∃ u, w49.cell? (Addr.add ⟨w5.heap.size, 0, none⟩ 3) = some u) ∧
    w49.frozen? (Addr.add ⟨w5.heap.size, 0, none⟩ 3) = false ∧
    ∃ p52 : Option Addr, (w49.setCell (Addr.add ⟨w5.heap.size, 0, none⟩ 3) (.pointer p50)).cell? (Addr.add ⟨w5.heap.size, 0, none⟩ 4) = some (.pointer p52) ∧
    Calls Tryd.prog 84 #[.pointer p52] (w49.setCell (Addr.add ⟨w5.heap.size, 0, none⟩ 3) (.pointer p50)) (Rv fun v53 w54 => ∃ p55 : Option Addr, v53 = .pointer p55 ∧
    (∃ u, w54.cell? (Addr.add ⟨w5.heap.size, 0, none⟩ 5) = some u) ∧ w54.frozen? (Addr.add ⟨w5.heap.size, 0, none⟩ 5) = false ∧
    ∃ p56 : Option Addr, (w54.setCell (Addr.add ⟨w5.heap.size, 0, none⟩ 5) (.pointer p55)).cell? (Addr.add ⟨w5.heap.size, 0, none⟩ 4) = some (.pointer p56) ∧
    Calls Tryd.prog 19 #[.pointer p56] (w54.setCell (Addr.add ⟨w5.heap.size, 0, none⟩ 5) (.pointer p55)) (Rv fun v57 w58 => ∃ p59 : Option Addr, v57 = .pointer p59 ∧
    (∃ u, w58.cell? (Addr.add ⟨w5.heap.size, 0, none⟩ 6) = some u) ∧ w58.frozen? (Addr.add ⟨w5.heap.size, 0, none⟩ 6) = false ∧
    R (.tuple #[.pointer (some ⟨w5.heap.size, 0, none⟩), .int .i64 0]) (w58.setCell (Addr.add ⟨w5.heap.size, 0, none⟩ 6) (.pointer p59)))))))) (∃ n60 : Int, (World.drew (w5.alloc (.cells #[.int .i64 (x_0.len : Int), .int .i64 (-1), .int .i64 0, .pointer none, .pointer p6, .pointer none, .pointer none] 121))).cell? (Addr.add ⟨w5.heap.size, 0, none⟩ 0) = some (.int .i64 n60) ∧
    ∃ n61 : Int, (World.drew (w5.alloc (.cells #[.int .i64 (x_0.len : Int), .int .i64 (-1), .int .i64 0, .pointer none, .pointer p6, .pointer none, .pointer none] 121))).cell? (Addr.add ⟨w5.heap.size, 0, none⟩ 1) = some (.int .i64 n61) ∧
    Calls Tryd.prog 99 #[.int .i64 n60, .int .i64 n61] (World.drew (w5.alloc (.cells #[.int .i64 (x_0.len : Int), .int .i64 (-1), .int .i64 0, .pointer none, .pointer p6, .pointer none, .pointer none] 121))) (Rv fun v62 w63 =>
    ∃ n64 : Int, v62 = .int .i64 n64 ∧ (∃ u, w63.cell? (Addr.add ⟨w5.heap.size, 0, none⟩ 2) = some u) ∧ w63.frozen? (Addr.add ⟨w5.heap.size, 0, none⟩ 2) = false ∧
    ∃ w65 : World, ∃ l66 : Slc, (Instr.makeSlice 29 (.int .i64 (x_0.len : Int)) (.int .i64 (x_0.len : Int))).run Tryd.prog (w63.setCell (Addr.add ⟨w5.heap.size, 0, none⟩ 2) (.int .i64 n64)) = .ok (.slice l66.a l66.len l66.cap) w65 ∧
    ∃ (I67 : Int → Int → World → Prop) (μ68 : Int → Int → World → Nat), I67 (0 : Int) (0 : Int) w65 ∧ ∀ x69 : Int, ∀ x70 : Int, ∀ w71 : World, I67 x69 x70 w71 →
    br (decide (x70 < (x_0.len : Int))) (0 ≤ x70 ∧ x70 < (x_0.len : Int) ∧ ∃ a72, x_0.a = some a72 ∧
    ∃ n73 : Int, w71.cell? (Addr.add a72 (x70.toNat * 1)) = some (.int .i64 n73) ∧
    ∃ n74 : Int, w71.cell? (Addr.add ⟨w5.heap.size, 0, none⟩ 2) = some (.int .i64 n74) ∧ Calls Tryd.prog 88 #[.int .i64 n74] w71 (Rv fun v75 w76 =>
    ∃ n77 : Int, v75 = .int .u64 n77 ∧ 0 ≤ x70 ∧ x70 < (l66.len : Int) ∧ ∃ a78, l66.a = some a78 ∧ (∃ u, w76.cell? (Addr.add a78 (x70.toNat * 1)) = some u) ∧
    w76.frozen? (Addr.add a78 (x70.toNat * 1)) = false ∧
    ∃ n79 : Int, (w76.setCell (Addr.add a78 (x70.toNat * 1)) (.int .u64 (bAnd .u64 (IntKind.u64.wrap n73) n77))).cell? (Addr.add ⟨w5.heap.size, 0, none⟩ 2) = some (.int .i64 n79) ∧
    0 ≤ (IntKind.u64.wrap n79) ∧ ∃ (I80 : Int → World → Prop) (μ81 : Int → World →
    Nat), I80 (IntKind.i64.wrap ((shR .i64 n73 (IntKind.u64.wrap n79)) - x69)) (w76.setCell (Addr.add a78 (x70.toNat * 1)) (.int .u64 (bAnd .u64 (IntKind.u64.wrap n73) n77))) ∧
    ∀ x82 : Int, ∀ w83 : World, I80 x82 w83 →
    br (decide ((64 : Int) ≤ x82)) (∃ p84 : Option Addr, w83.cell? (Addr.add ⟨w5.heap.size, 0, none⟩ 4) = some (.pointer p84) ∧
    Calls Tryd.prog 22 #[.pointer p84, .int .u64 0, .int .i64 64] w83 (Rv fun v85 w86 => ∃ n87 : Int, v85 = .int .i64 n87 ∧ I80 (IntKind.i64.wrap (x82 - 64)) w86 ∧
    μ81 (IntKind.i64.wrap (x82 - 64)) w86 < μ81 x82 w83)) (∃ p88 : Option Addr, w83.cell? (Addr.add ⟨w5.heap.size, 0, none⟩ 4) = some (.pointer p88) ∧
    Calls Tryd.prog 22 #[.pointer p88, .int .u64 0, .int .i64 x82] w83 (Rv fun v89 w90 => ∃ n91 : Int, v89 = .int .i64 n91 ∧
    ∃ p92 : Option Addr, w90.cell? (Addr.add ⟨w5.heap.size, 0, none⟩ 4) = some (.pointer p92) ∧
    Calls Tryd.prog 22 #[.pointer p92, .int .u64 1, .int .i64 1] w90 (Rv fun v93 w94 => ∃ n95 : Int, v93 = .int .i64 n95 ∧
    I67 (IntKind.i64.wrap (x69 + (IntKind.i64.wrap ((shR .i64 n73 (IntKind.u64.wrap n79)) - x69)))) (IntKind.i64.wrap (x70 + 1)) w94 ∧
    μ68 (IntKind.i64.wrap (x69 + (IntKind.i64.wrap ((shR .i64 n73 (IntKind.u64.wrap n79)) - x69)))) (IntKind.i64.wrap (x70 + 1)) w94 < μ68 x69 x70 w71))))) (∃ n96 : Int, w71.cell? (Addr.add ⟨w5.heap.size, 0, none⟩ 2) = some (.int .i64 n96) ∧
    Calls Tryd.prog 100 #[.int .i64 n96, .slice l66.a l66.len l66.cap] w71 (Rv fun v97 w98 =>
    ∃ p99 : Option Addr, ∃ n100 : Int, v97 = .tuple #[.pointer p99, .int .i64 n100] ∧ (∃ u, w98.cell? (Addr.add ⟨w5.heap.size, 0, none⟩ 3) = some u) ∧
    w98.frozen? (Addr.add ⟨w5.heap.size, 0, none⟩ 3) = false ∧
    ∃ p101 : Option Addr, (w98.setCell (Addr.add ⟨w5.heap.size, 0, none⟩ 3) (.pointer p99)).cell? (Addr.add ⟨w5.heap.size, 0, none⟩ 4) = some (.pointer p101) ∧
    Calls Tryd.prog 84 #[.pointer p101] (w98.setCell (Addr.add ⟨w5.heap.size, 0, none⟩ 3) (.pointer p99)) (Rv fun v102 w103 =>
    ∃ p104 : Option Addr, v102 = .pointer p104 ∧ (∃ u, w103.cell? (Addr.add ⟨w5.heap.size, 0, none⟩ 5) = some u) ∧
    w103.frozen? (Addr.add ⟨w5.heap.size, 0, none⟩ 5) = false ∧
    ∃ p105 : Option Addr, (w103.setCell (Addr.add ⟨w5.heap.size, 0, none⟩ 5) (.pointer p104)).cell? (Addr.add ⟨w5.heap.size, 0, none⟩ 4) = some (.pointer p105) ∧
    Calls Tryd.prog 19 #[.pointer p105] (w103.setCell (Addr.add ⟨w5.heap.size, 0, none⟩ 5) (.pointer p104)) (Rv fun v106 w107 =>
    ∃ p108 : Option Addr, v106 = .pointer p108 ∧ (∃ u, w107.cell? (Addr.add ⟨w5.heap.size, 0, none⟩ 6) = some u) ∧
    w107.frozen? (Addr.add ⟨w5.heap.size, 0, none⟩ 6) = false ∧
    R (.tuple #[.pointer (some ⟨w5.heap.size, 0, none⟩), .int .i64 0]) (w107.setCell (Addr.add ⟨w5.heap.size, 0, none⟩ 6) (.pointer p108)))))))))))
theorem B29_eq : @B29 = fun (x_0 : Slc) (w : World) (R : Value → World → Prop) => trF Tryd.prog G (lk [(11, [(7, .int .i64), (54, .int .i64)]), (16, [(10, .int .i64)])]) Tryd.f29 [.slice x_0.a x_0.len x_0.cap] w R := by kernel_rfl
theorem c29 (x_0 : Slc) (w : World) (R : Value → World → Prop) (h : B29 x_0 w R) : Calls Tryd.prog 29 #[.slice x_0.a x_0.len x_0.cap] w (Rv R) := calls_of_tr (L := lk [(11, [(7, .int .i64), (54, .int .i64)]), (16, [(10, .int .i64)])]) Tryd.func29 hG hM (by rw [B29_eq] at h; exact h)

/-- (*locution/elias.Seq).All -/
def B30 (a_0 : Addr) (w : World) (R : Value → World → Prop) : Prop :=
  R (.func (.func 101) #[] #[.pointer (some ⟨w.heap.size, 0, none⟩)]) (w.alloc (.cells #[.pointer (some a_0)] 48))
theorem B30_eq : @B30 = fun (a_0 : Addr) (w : World) (R : Value → World → Prop) => trF Tryd.prog G (lk []) Tryd.f30 [.pointer (some a_0)] w R := by kernel_rfl
theorem c30 (a_0 : Addr) (w : World) (R : Value → World → Prop) (h : B30 a_0 w R) : Calls Tryd.prog 30 #[.pointer (some a_0)] w (Rv R) := calls_of_tr (L := lk []) Tryd.func30 hG hM (by rw [B30_eq] at h; exact h)

/-- (*locution/elias.Seq).At -/
def B42 (a_0 : Addr) (x_1 : Int) (w : World) (R : Value → World → Prop) : Prop :=
  br (decide (x_1 < (0 : Int))) (R (.int .i64 (-1)) w) (∃ n1 : Int, w.cell? (Addr.add a_0 0) = some (.int .i64 n1) ∧
    br (decide (n1 ≤ x_1)) (R (.int .i64 (-1)) w) (∃ p2 : Option Addr, (World.drew w).cell? (Addr.add a_0 6) = some (.pointer p2) ∧
    ∃ n3 : Int, (World.drew w).cell? (Addr.add a_0 2) = some (.int .i64 n3) ∧ ∃ p4 : Option Addr, (World.drew w).cell? (Addr.add a_0 3) = some (.pointer p4) ∧
    Calls Tryd.prog 25 #[.pointer p2, .int .i64 x_1] (World.drew w) (Rv fun v5 w6 => ∃ n7 : Int, v5 = .int .i64 n7 ∧ w6.cell? (Addr.add a_0 3) = some (.pointer p4) ∧
    w6.cell? (Addr.add a_0 2) = some (.int .i64 n3) ∧ 0 ≤ (IntKind.u64.wrap n3) ∧ Calls Tryd.prog 102 #[.pointer p4, .int .i64 x_1] w6 (Rv fun v8 w9 =>
    ∃ n10 : Int, v8 = .int .u64 n10 ∧ w9.cell? (Addr.add a_0 2) = some (.int .i64 n3) ∧
    R (.int .i64 (bOr .i64 (shL .i64 (IntKind.i64.wrap (n7 - x_1)) (IntKind.u64.wrap n3)) (IntKind.i64.wrap n10))) w9))))
theorem B42_eq : @B42 = fun (a_0 : Addr) (x_1 : Int) (w : World) (R : Value → World → Prop) => trF Tryd.prog G (lk []) Tryd.f42 [.pointer (some a_0), .int .i64 x_1] w R := by kernel_rfl
theorem c42 (a_0 : Addr) (x_1 : Int) (w : World) (R : Value → World → Prop) (h : B42 a_0 x_1 w R) : Calls Tryd.prog 42 #[.pointer (some a_0), .int .i64 x_1] w (Rv R) := calls_of_tr (L := lk []) Tryd.func42 hG hM (by rw [B42_eq] at h; exact h)

/-- (*locution/elias.Seq).Len -/
def B43 (a_0 : Addr) (w : World) (R : Value → World → Prop) : Prop :=
  ∃ n1 : Int, w.cell? (Addr.add a_0 0) = some (.int .i64 n1) ∧ R (.int .i64 n1) w
theorem B43_eq : @B43 = fun (a_0 : Addr) (w : World) (R : Value → World → Prop) => trF Tryd.prog G (lk []) Tryd.f43 [.pointer (some a_0)] w R := by kernel_rfl
theorem c43 (a_0 : Addr) (w : World) (R : Value → World → Prop) (h : B43 a_0 w R) : Calls Tryd.prog 43 #[.pointer (some a_0)] w (Rv R) := calls_of_tr (L := lk []) Tryd.func43 hG hM (by rw [B43_eq] at h; exact h)

/-- (*locution/elias.Seq).Size -/
def B44 (a_0 : Addr) (w : World) (R : Value → World → Prop) : Prop :=
  ∃ n1 : Int, (World.drew w).cell? (Addr.add a_0 0) = some (.int .i64 n1) ∧ ∃ n2 : Int, (World.drew w).cell? (Addr.add a_0 2) = some (.int .i64 n2) ∧
    ∃ p3 : Option Addr, (World.drew w).cell? (Addr.add a_0 4) = some (.pointer p3) ∧ Calls Tryd.prog 54 #[.pointer p3] (World.drew w) (Rv fun v4 w5 =>
    ∃ n6 : Int, v4 = .int .i64 n6 ∧ w5.cell? (Addr.add a_0 2) = some (.int .i64 n2) ∧ w5.cell? (Addr.add a_0 0) = some (.int .i64 n1) ∧
    R (.int .i64 (IntKind.i64.wrap ((IntKind.i64.wrap (n1 * n2)) + n6))) w5)
theorem B44_eq : @B44 = fun (a_0 : Addr) (w : World) (R : Value → World → Prop) => trF Tryd.prog G (lk []) Tryd.f44 [.pointer (some a_0)] w R := by kernel_rfl
theorem c44 (a_0 : Addr) (w : World) (R : Value → World → Prop) (h : B44 a_0 w R) : Calls Tryd.prog 44 #[.pointer (some a_0)] w (Rv R) := calls_of_tr (L := lk []) Tryd.func44 hG hM (by rw [B44_eq] at h; exact h)

/-- (*locution/elias.Seq).Next -/
def B95 (a_0 : Addr) (x_1 : Int) (w : World) (R : Value → World → Prop) : Prop :=
  Calls Tryd.prog 43 #[.pointer (some a_0)] w (Rv fun v1 w2 => ∃ n3 : Int, v1 = .int .i64 n3 ∧
    br (decide (n3 = (0 : Int))) (R (.tuple #[.int .i64 (-1), .int .i64 (-1)]) w2) (∃ n4 : Int, w2.cell? (Addr.add a_0 1) = some (.int .i64 n4) ∧
    br (decide (n4 < x_1)) (R (.tuple #[.int .i64 (-1), .int .i64 (-1)]) w2) (∃ n5 : Int, w2.cell? (Addr.add a_0 2) = some (.int .i64 n5) ∧
    0 ≤ (IntKind.u64.wrap n5) ∧ Calls Tryd.prog 137 #[.pointer (some a_0), .int .i64 (shR .i64 (max x_1 (0 : Int)) (IntKind.u64.wrap n5))] w2 (Rv fun v6 w7 =>
    ∃ n8 : Int, v6 = .int .i64 n8 ∧
    Calls Tryd.prog 137 #[.pointer (some a_0), .int .i64 (IntKind.i64.wrap ((shR .i64 (max x_1 (0 : Int)) (IntKind.u64.wrap n5)) + 1))] w7 (Rv fun v9 w10 =>
    ∃ n11 : Int, v9 = .int .i64 n11 ∧ ∃ p12 : Option Addr, (World.drew w10).cell? (Addr.add a_0 3) = some (.pointer p12) ∧
    ∃ n13 : Int, (World.drew w10).cell? (Addr.add a_0 2) = some (.int .i64 n13) ∧ Calls Tryd.prog 88 #[.int .i64 n13] (World.drew w10) (Rv fun v14 w15 =>
    ∃ n16 : Int, v14 = .int .u64 n16 ∧ w15.cell? (Addr.add a_0 3) = some (.pointer p12) ∧
    Calls Tryd.prog 138 #[.pointer p12, .int .i64 n8, .int .i64 n11, .int .u64 (bAnd .u64 (IntKind.u64.wrap (max x_1 (0 : Int))) n16)] w15 (Rv fun v17 w18 =>
    ∃ n19 : Int, v17 = .int .i64 n19 ∧ br (decide (n19 < (0 : Int))) (Calls Tryd.prog 42 #[.pointer (some a_0), .int .i64 n11] w18 (Rv fun v20 w21 =>
    ∃ n22 : Int, v20 = .int .i64 n22 ∧ R (.tuple #[.int .i64 n11, .int .i64 n22]) w21)) (Calls Tryd.prog 42 #[.pointer (some a_0), .int .i64 n19] w18 (Rv fun v23 w24 =>
    ∃ n25 : Int, v23 = .int .i64 n25 ∧ R (.tuple #[.int .i64 n19, .int .i64 n25]) w24)))))))))
theorem B95_eq : @B95 = fun (a_0 : Addr) (x_1 : Int) (w : World) (R : Value → World → Prop) => trF Tryd.prog G (lk []) Tryd.f95 [.pointer (some a_0), .int .i64 x_1] w R := by kernel_rfl
theorem c95 (a_0 : Addr) (x_1 : Int) (w : World) (R : Value → World → Prop) (h : B95 a_0 x_1 w R) : Calls Tryd.prog 95 #[.pointer (some a_0), .int .i64 x_1] w (Rv R) := calls_of_tr (L := lk []) Tryd.func95 hG hM (by rw [B95_eq] at h; exact h)

/-- (*locution/elias.Seq).Ahead -/
def B96 (a_0 : Addr) (x_1 : Int) (w : World) (R : Value → World → Prop) : Prop :=
  Calls Tryd.prog 43 #[.pointer (some a_0)] w (Rv fun v1 w2 => ∃ n3 : Int, v1 = .int .i64 n3 ∧
    br (decide (n3 = (0 : Int))) (R (.tuple #[.int .i64 (-1), .int .i64 (-1)]) w2) (br (decide (x_1 < (0 : Int))) (R (.tuple #[.int .i64 (-1), .int .i64 (-1)]) w2) (∃ n4 : Int, w2.cell? (Addr.add a_0 0) = some (.int .i64 n4) ∧
    ∃ n5 : Int, w2.cell? (Addr.add a_0 1) = some (.int .i64 n5) ∧
    br (decide (x_1 < n5)) (Calls Tryd.prog 95 #[.pointer (some a_0), .int .i64 (IntKind.i64.wrap (x_1 + 1))] w2 (Rv fun v6 w7 =>
    ∃ n8 : Int, ∃ n9 : Int, v6 = .tuple #[.int .i64 n8, .int .i64 n9] ∧
    Calls Tryd.prog 42 #[.pointer (some a_0), .int .i64 (IntKind.i64.wrap (n8 - 1))] w7 (Rv fun v10 w11 => ∃ n12 : Int, v10 = .int .i64 n12 ∧
    R (.tuple #[.int .i64 (IntKind.i64.wrap (n8 - 1)), .int .i64 n12]) w11))) (Calls Tryd.prog 42 #[.pointer (some a_0), .int .i64 (IntKind.i64.wrap (n4 - 1))] w2 (Rv fun v13 w14 =>
    ∃ n15 : Int, v13 = .int .i64 n15 ∧ R (.tuple #[.int .i64 (IntKind.i64.wrap (n4 - 1)), .int .i64 n15]) w14)))))
theorem B96_eq : @B96 = fun (a_0 : Addr) (x_1 : Int) (w : World) (R : Value → World → Prop) => trF Tryd.prog G (lk []) Tryd.f96 [.pointer (some a_0), .int .i64 x_1] w R := by kernel_rfl
theorem c96 (a_0 : Addr) (x_1 : Int) (w : World) (R : Value → World → Prop) (h : B96 a_0 x_1 w R) : Calls Tryd.prog 96 #[.pointer (some a_0), .int .i64 x_1] w (Rv R) := calls_of_tr (L := lk []) Tryd.func96 hG hM (by rw [B96_eq] at h; exact h)

/-- (*locution/elias.Seq).Find -/
def B97 (a_0 : Addr) (x_1 : Int) (x_2 : Int) (x_3 : Int) (w : World) (R : Value → World → Prop) : Prop :=
  Calls Tryd.prog 95 #[.pointer (some a_0), .int .i64 x_3] w (Rv fun v1 w2 => ∃ n3 : Int, ∃ n4 : Int, v1 = .tuple #[.int .i64 n3, .int .i64 n4] ∧
    br (!(decide (n4 = x_3))) (R (.int .i64 (-1)) w2) (br (decide (n3 < (0 : Int))) (R (.int .i64 (-1)) w2) (∃ n5 : Int, w2.cell? (Addr.add a_0 0) = some (.int .i64 n5) ∧
    br (decide ((min x_2 n5) ≤ (max n3 x_1))) (R (.int .i64 (-1)) w2) (Calls Tryd.prog 42 #[.pointer (some a_0), .int .i64 (max n3 x_1)] w2 (Rv fun v6 w7 =>
    ∃ n8 : Int, v6 = .int .i64 n8 ∧ br (!(decide (n8 = x_3))) (R (.int .i64 (-1)) w7) (R (.int .i64 (max n3 x_1)) w7))))))
theorem B97_eq : @B97 = fun (a_0 : Addr) (x_1 : Int) (x_2 : Int) (x_3 : Int) (w : World) (R : Value → World → Prop) => trF Tryd.prog G (lk []) Tryd.f97 [.pointer (some a_0), .int .i64 x_1, .int .i64 x_2, .int .i64 x_3] w R := by kernel_rfl
theorem c97 (a_0 : Addr) (x_1 : Int) (x_2 : Int) (x_3 : Int) (w : World) (R : Value → World → Prop) (h : B97 a_0 x_1 x_2 x_3 w R) : Calls Tryd.prog 97 #[.pointer (some a_0), .int .i64 x_1, .int .i64 x_2, .int .i64 x_3] w (Rv R) := calls_of_tr (L := lk []) Tryd.func97 hG hM (by rw [B97_eq] at h; exact h)

/-- locution/elias.check -/
def B98 (x_0 : Slc) (w : World) (R : Value → World → Prop) : Prop :=
  ∃ (I1 : Int → World → Prop) (μ2 : Int → World → Nat), I1 (0 : Int) w ∧ ∀ x3 : Int, ∀ w4 : World, I1 x3 w4 → br (decide (x3 < (x_0.len : Int))) (0 ≤ x3 ∧
    x3 < (x_0.len : Int) ∧ ∃ a5, x_0.a = some a5 ∧ ∃ n6 : Int, w4.cell? (Addr.add a5 (x3.toNat * 1)) = some (.int .i64 n6) ∧
    br (decide (n6 < (0 : Int))) (R (.int .i64 8) w4) (br (decide ((1099511627776 : Int) < n6)) (R (.int .i64 8) w4) (br (decide ((0 : Int) < x3)) (0 ≤ (IntKind.i64.wrap (x3 - 1)) ∧
    (IntKind.i64.wrap (x3 - 1)) < (x_0.len : Int) ∧ ∃ a7, x_0.a = some a7 ∧
    ∃ n8 : Int, w4.cell? (Addr.add a7 ((IntKind.i64.wrap (x3 - 1)).toNat * 1)) = some (.int .i64 n8) ∧
    br (decide (n6 < n8)) (R (.int .i64 9) w4) (I1 (IntKind.i64.wrap (x3 + 1)) w4 ∧
    μ2 (IntKind.i64.wrap (x3 + 1)) w4 < μ2 x3 w4)) (I1 (IntKind.i64.wrap (x3 + 1)) w4 ∧ μ2 (IntKind.i64.wrap (x3 + 1)) w4 < μ2 x3 w4)))) (R (.int .i64 0) w4)
theorem B98_eq : @B98 = fun (x_0 : Slc) (w : World) (R : Value → World → Prop) => trF Tryd.prog G (lk [(2, [(7, .int .i64)])]) Tryd.f98 [.slice x_0.a x_0.len x_0.cap] w R := by kernel_rfl
theorem c98 (x_0 : Slc) (w : World) (R : Value → World → Prop) (h : B98 x_0 w R) : Calls Tryd.prog 98 #[.slice x_0.a x_0.len x_0.cap] w (Rv R) := calls_of_tr (L := lk [(2, [(7, .int .i64)])]) Tryd.func98 hG hM (by rw [B98_eq] at h; exact h)

/-- locution/elias.Low -/
def B99 (x_0 : Int) (x_1 : Int) (w : World) (R : Value → World → Prop) : Prop :=
  br (decide (x_0 < (1 : Int))) (R (.int .i64 0) w) (br (decide (x_1 < x_0)) (R (.int .i64 0) w) (x_0 ≠ 0 ∧
    Calls Tryd.prog 81 #[.int .u64 (IntKind.u64.wrap (IntKind.i64.wrap (Int.tdiv x_1 x_0)))] w (Rv fun v1 w2 => ∃ n3 : Int, v1 = .int .i64 n3 ∧
    R (.int .i64 (IntKind.i64.wrap (n3 - 1))) w2)))
theorem B99_eq : @B99 = fun (x_0 : Int) (x_1 : Int) (w : World) (R : Value → World → Prop) => trF Tryd.prog G (lk []) Tryd.f99 [.int .i64 x_0, .int .i64 x_1] w R := by kernel_rfl
theorem c99 (x_0 : Int) (x_1 : Int) (w : World) (R : Value → World → Prop) (h : B99 x_0 x_1 w R) : Calls Tryd.prog 99 #[.int .i64 x_0, .int .i64 x_1] w (Rv R) := calls_of_tr (L := lk []) Tryd.func99 hG hM (by rw [B99_eq] at h; exact h)

/-- (*locution/elias.Seq).All$1 -/
def B101 (x_0 : Value) (a_1 : Addr) (w : World) (R : Value → World → Prop) : Prop :=
  ∃ p1 : Option Addr, (w.alloc (.cells ⟨cellsL x_0⟩ 100)).cell? a_1 = some (.pointer p1) ∧ br p1.isNone (([] : List Nat).Nodup ∧ (∀ D, D ∈ ([] : List Nat) →
    (w.alloc (.cells ⟨cellsL x_0⟩ 100)).heap[D]? = some (.deferred (some []))) ∧ ∀ w2 : World, Kp (fun k =>
    k ∈ ([] : List Nat)) (w.alloc (.cells ⟨cellsL x_0⟩ 100)) w2 →
    R (.tuple #[]) w2) (∃ p3 : Option Addr, (w.alloc (.cells ⟨cellsL x_0⟩ 100)).cell? a_1 = some (.pointer p3) ∧ wa p3 fun a4 =>
    ∃ p5 : Option Addr, (w.alloc (.cells ⟨cellsL x_0⟩ 100)).cell? (Addr.add a4 6) = some (.pointer p5) ∧
    Calls Tryd.prog 23 #[.pointer p5, .int .i64 0] (w.alloc (.cells ⟨cellsL x_0⟩ 100)) (Rv fun v6 w7 => ∃ v8 : Value, v6 = v8 ∧
    ∃ (g9 : Nat) (A10 C11 : Array Value), v8 = .func (.func g9) A10 C11 ∧ G g9 = true ∧ ∃ n12 : Nat, ∃ f20 : Nat → Int, ∃ f21 : Nat → Int, ∃ (D13 : Nat →
    Prop) (J14 : Nat → (Nat → Prop) → World → Prop) (X15 : Option Nat → (Nat → Prop) → World → Prop), Iter Tryd.prog g9 A10.toList C11.toList w7 n12 (fun j =>
    [.int .i64 (f20 j), .int .i64 (f21 j)]) D13 ∧ (∀ k, D13 k → k < w7.heap.size) ∧ (∀ j, Stab (J14 j)) ∧ (∀ o, Stab (X15 o)) ∧ J14 0 (fun _ => False) w7 ∧
    (∀ (j16 : Nat) (T17 : Nat → Prop) (w18 : World), j16 < n12 → J14 j16 T17 w18 → (∀ k, T17 k → w7.heap.size ≤ k) → T17 w7.heap.size → T17 (w7.heap.size + 1) →
    (∀ k, T17 k → k < w18.heap.size) → Kp (fun k => ¬ T17 k ∧ ¬ D13 k) w18 w18 ∧ ∀ w19 : World, Kp (fun k => k = w7.heap.size + 1) w18 w19 →
    ∃ v22 : Value, (World.drew w19).cell? ⟨w.heap.size, 0, none⟩ = some (v22) ∧ ∃ p23 : Option Addr, (World.drew w19).cell? a_1 = some (.pointer p23) ∧
    wa p23 fun a24 => ∃ n25 : Int, (World.drew w19).cell? (Addr.add a24 2) = some (.int .i64 n25) ∧ 0 ≤ (IntKind.u64.wrap n25) ∧
    ∃ p26 : Option Addr, (World.drew w19).cell? a_1 = some (.pointer p26) ∧ wa p26 fun a27 =>
    ∃ p28 : Option Addr, (World.drew w19).cell? (Addr.add a27 3) = some (.pointer p28) ∧
    Calls Tryd.prog 102 #[.pointer p28, .int .i64 (f20 j16)] (World.drew w19) (Rv fun v29 w30 => ∃ n31 : Int, v29 = .int .u64 n31 ∧
    w30.cell? (Addr.add a24 2) = some (.int .i64 n25) ∧ w30.cell? a_1 = some (.pointer p23) ∧ w30.cell? ⟨w.heap.size, 0, none⟩ = some (v22) ∧
    CallFV Tryd.prog G v22 [.int .i64 (f20 j16), .int .i64 (bOr .i64 (shL .i64 (IntKind.i64.wrap ((f21 j16) - (f20 j16))) (IntKind.u64.wrap n25)) (IntKind.i64.wrap n31))] w30 fun v32 w33 =>
    ∃ b34 : Bool, v32 = .bool b34 ∧ br (!b34) (Kp (fun k => ¬ T17 k ∧ ¬ D13 k) w19 w33 ∧ X15 none T17 w33) (Kp (fun k => ¬ T17 k ∧ ¬ D13 k) w19 w33 ∧
    J14 (j16 + 1) T17 w33))) ∧ (∀ (T35 : Nat → Prop) (w36 : World), J14 n12 T35 w36 → ((∀ k, T35 k → w7.heap.size ≤ k ∧ k < w36.heap.size) ∧ T35 w7.heap.size) →
    w36.heap[w7.heap.size]? = some (.deferred (some [])) → (w7.heap.size :: ([] : List Nat)).Nodup ∧ (∀ D, D ∈ (w7.heap.size :: ([] : List Nat)) →
    w36.heap[D]? = some (.deferred (some []))) ∧ ∀ w37 : World, Kp (fun k => k ∈ (w7.heap.size :: ([] : List Nat))) w36 w37 → R (.tuple #[]) w37) ∧ (∀ (T38 : Nat →
    Prop) (w39 : World), X15 none T38 w39 → ((∀ k, T38 k → w7.heap.size ≤ k ∧ k < w39.heap.size) ∧ T38 w7.heap.size) →
    w39.heap[w7.heap.size]? = some (.deferred (some [])) → (w7.heap.size :: ([] : List Nat)).Nodup ∧ (∀ D, D ∈ (w7.heap.size :: ([] : List Nat)) →
    w39.heap[D]? = some (.deferred (some []))) ∧ ∀ w40 : World, Kp (fun k => k ∈ (w7.heap.size :: ([] : List Nat))) w39 w40 → R (.tuple #[]) w40) ∧ True))
theorem B101_eq : @B101 = fun (x_0 : Value) (a_1 : Addr) (w : World) (R : Value → World → Prop) => trFT Tryd.prog G (lk [(1000005, [(12, .int .i64), (13, .int .i64)])]) Tryd.f101 [x_0, .pointer (some a_1)] w R := by kernel_rfl
theorem c101 (x_0 : Value) (a_1 : Addr) (w : World) (R : Value → World → Prop) (h : B101 x_0 a_1 w R) : Calls Tryd.prog 101 #[x_0, .pointer (some a_1)] w (Rv R) := calls_of_trT (L := lk [(1000005, [(12, .int .i64), (13, .int .i64)])]) Tryd.func101 hG hM (by rw [B101_eq] at h; exact h)

/-- (*locution/elias.Seq).Last -/
def B107 (a_0 : Addr) (w : World) (R : Value → World → Prop) : Prop :=
  Calls Tryd.prog 43 #[.pointer (some a_0)] w (Rv fun v1 w2 => ∃ n3 : Int, v1 = .int .i64 n3 ∧
    br (decide (n3 = (0 : Int))) (R (.int .i64 (-1)) w2) (∃ n4 : Int, w2.cell? (Addr.add a_0 1) = some (.int .i64 n4) ∧ R (.int .i64 n4) w2))
theorem B107_eq : @B107 = fun (a_0 : Addr) (w : World) (R : Value → World → Prop) => trF Tryd.prog G (lk []) Tryd.f107 [.pointer (some a_0)] w R := by kernel_rfl
theorem c107 (a_0 : Addr) (w : World) (R : Value → World → Prop) (h : B107 a_0 w R) : Calls Tryd.prog 107 #[.pointer (some a_0)] w (Rv R) := calls_of_tr (L := lk []) Tryd.func107 hG hM (by rw [B107_eq] at h; exact h)

/-- (*locution/elias.Seq).ahead -/
def B137 (a_0 : Addr) (x_1 : Int) (w : World) (R : Value → World → Prop) : Prop :=
  br (decide (x_1 = (0 : Int))) (R (.int .i64 0) w) (∃ p1 : Option Addr, w.cell? (Addr.add a_0 6) = some (.pointer p1) ∧
    Calls Tryd.prog 26 #[.pointer p1, .int .i64 (IntKind.i64.wrap (x_1 - 1))] w (Rv fun v2 w3 => ∃ n4 : Int, v2 = .int .i64 n4 ∧
    br (decide (n4 < (0 : Int))) (∃ n5 : Int, w3.cell? (Addr.add a_0 0) = some (.int .i64 n5) ∧
    R (.int .i64 n5) w3) (∃ p6 : Option Addr, w3.cell? (Addr.add a_0 5) = some (.pointer p6) ∧ Calls Tryd.prog 89 #[.pointer p6, .int .i64 n4] w3 (Rv fun v7 w8 =>
    ∃ n9 : Int, v7 = .int .i64 n9 ∧ R (.int .i64 n9) w8))))
theorem B137_eq : @B137 = fun (a_0 : Addr) (x_1 : Int) (w : World) (R : Value → World → Prop) => trF Tryd.prog G (lk []) Tryd.f137 [.pointer (some a_0), .int .i64 x_1] w R := by kernel_rfl
theorem c137 (a_0 : Addr) (x_1 : Int) (w : World) (R : Value → World → Prop) (h : B137 a_0 x_1 w R) : Calls Tryd.prog 137 #[.pointer (some a_0), .int .i64 x_1] w (Rv R) := calls_of_tr (L := lk []) Tryd.func137 hG hM (by rw [B137_eq] at h; exact h)

/-- locution/locutionref07.Wrong -/
def B27 (x_0 : Slc) (w : World) (R : Value → World → Prop) : Prop :=
  ∃ (I1 : Int → World → Prop) (μ2 : Int → World → Nat), I1 (0 : Int) w ∧ ∀ x3 : Int, ∀ w4 : World, I1 x3 w4 → br (decide (x3 < (x_0.len : Int))) (0 ≤ x3 ∧
    x3 < (x_0.len : Int) ∧ ∃ a5, x_0.a = some a5 ∧ ∃ n6 : Int, w4.cell? (Addr.add a5 (x3.toNat * 1)) = some (.int .i64 n6) ∧
    br (decide (n6 < (0 : Int))) (R (.int .i64 8) w4) (0 ≤ x3 ∧ x3 < (x_0.len : Int) ∧ ∃ a7, x_0.a = some a7 ∧
    ∃ n8 : Int, w4.cell? (Addr.add a7 (x3.toNat * 1)) = some (.int .i64 n8) ∧
    br (decide ((1099511627776 : Int) < n8)) (R (.int .i64 8) w4) (br (decide ((0 : Int) < x3)) (0 ≤ x3 ∧ x3 < (x_0.len : Int) ∧ ∃ a9, x_0.a = some a9 ∧
    ∃ n10 : Int, (World.drew w4).cell? (Addr.add a9 (x3.toNat * 1)) = some (.int .i64 n10) ∧ 0 ≤ (IntKind.i64.wrap (x3 - 1)) ∧
    (IntKind.i64.wrap (x3 - 1)) < (x_0.len : Int) ∧ ∃ a11, x_0.a = some a11 ∧
    ∃ n12 : Int, (World.drew w4).cell? (Addr.add a11 ((IntKind.i64.wrap (x3 - 1)).toNat * 1)) = some (.int .i64 n12) ∧
    br (decide (n10 < n12)) (R (.int .i64 9) (World.drew w4)) (I1 (IntKind.i64.wrap (x3 + 1)) (World.drew w4) ∧
    μ2 (IntKind.i64.wrap (x3 + 1)) (World.drew w4) < μ2 x3 w4)) (I1 (IntKind.i64.wrap (x3 + 1)) (World.drew w4) ∧
    μ2 (IntKind.i64.wrap (x3 + 1)) (World.drew w4) < μ2 x3 w4)))) (R (.int .i64 0) w4)
theorem B27_eq : @B27 = fun (x_0 : Slc) (w : World) (R : Value → World → Prop) => trF Tryd.prog G (lk [(2, [(3, .int .i64)])]) Tryd.f27 [.slice x_0.a x_0.len x_0.cap] w R := by kernel_rfl
theorem c27 (x_0 : Slc) (w : World) (R : Value → World → Prop) (h : B27 x_0 w R) : Calls Tryd.prog 27 #[.slice x_0.a x_0.len x_0.cap] w (Rv R) := calls_of_tr (L := lk [(2, [(3, .int .i64)])]) Tryd.func27 hG hM (by rw [B27_eq] at h; exact h)

/-- locution/locutionref07.At -/
def B31 (x_0 : Slc) (x_1 : Int) (w : World) (R : Value → World → Prop) : Prop :=
  br (decide (x_1 < (0 : Int))) (R (.int .i64 (-1)) w) (br (decide ((x_0.len : Int) ≤ x_1)) (R (.int .i64 (-1)) w) (0 ≤ x_1 ∧ x_1 < (x_0.len : Int) ∧
    ∃ a1, x_0.a = some a1 ∧ ∃ n2 : Int, w.cell? (Addr.add a1 (x_1.toNat * 1)) = some (.int .i64 n2) ∧ R (.int .i64 n2) w))
theorem B31_eq : @B31 = fun (x_0 : Slc) (x_1 : Int) (w : World) (R : Value → World → Prop) => trF Tryd.prog G (lk []) Tryd.f31 [.slice x_0.a x_0.len x_0.cap, .int .i64 x_1] w R := by kernel_rfl
theorem c31 (x_0 : Slc) (x_1 : Int) (w : World) (R : Value → World → Prop) (h : B31 x_0 x_1 w R) : Calls Tryd.prog 31 #[.slice x_0.a x_0.len x_0.cap, .int .i64 x_1] w (Rv R) := calls_of_tr (L := lk []) Tryd.func31 hG hM (by rw [B31_eq] at h; exact h)

/-- locution/locutionref07.Size -/
def B45 (x_0 : Slc) (w : World) (R : Value → World → Prop) : Prop :=
  br (decide ((x_0.len : Int) = (0 : Int))) (R (.int .i64 0) w) (0 ≤ (IntKind.i64.wrap ((x_0.len : Int) - 1)) ∧
    (IntKind.i64.wrap ((x_0.len : Int) - 1)) < (x_0.len : Int) ∧ ∃ a1, x_0.a = some a1 ∧
    ∃ n2 : Int, w.cell? (Addr.add a1 ((IntKind.i64.wrap ((x_0.len : Int) - 1)).toNat * 1)) = some (.int .i64 n2) ∧
    Calls Tryd.prog 115 #[.int .i64 (x_0.len : Int), .int .i64 n2] w (Rv fun v3 w4 => ∃ n5 : Int, v3 = .int .i64 n5 ∧ ∃ (I6 : Int → Int → World → Prop) (μ7 : Int → Int →
    World → Nat), I6 n2 (0 : Int) w4 ∧ ∀ x8 : Int, ∀ x9 : Int, ∀ w10 : World, I6 x8 x9 w10 → br (decide (x9 < n5)) ((2 : Int) ≠ 0 ∧
    I6 (IntKind.i64.wrap (Int.tdiv x8 2)) (IntKind.i64.wrap (x9 + 1)) w10 ∧
    μ7 (IntKind.i64.wrap (Int.tdiv x8 2)) (IntKind.i64.wrap (x9 + 1)) w10 < μ7 x8 x9 w10) (R (.int .i64 (IntKind.i64.wrap ((IntKind.i64.wrap ((IntKind.i64.wrap ((x_0.len : Int) * n5)) + x8)) + (x_0.len : Int)))) w10)))
theorem B45_eq : @B45 = fun (x_0 : Slc) (w : World) (R : Value → World → Prop) => trF Tryd.prog G (lk [(6, [(3, .int .i64), (5, .int .i64)])]) Tryd.f45 [.slice x_0.a x_0.len x_0.cap] w R := by kernel_rfl
theorem c45 (x_0 : Slc) (w : World) (R : Value → World → Prop) (h : B45 x_0 w R) : Calls Tryd.prog 45 #[.slice x_0.a x_0.len x_0.cap] w (Rv R) := calls_of_tr (L := lk [(6, [(3, .int .i64), (5, .int .i64)])]) Tryd.func45 hG hM (by rw [B45_eq] at h; exact h)

/-- locution/locutionref07.Low -/
def B115 (x_0 : Int) (x_1 : Int) (w : World) (R : Value → World → Prop) : Prop :=
  br (decide (x_0 < (1 : Int))) (R (.int .i64 0) w) (br (decide (x_1 < (1 : Int))) (R (.int .i64 0) w) (∃ (I1 : Int → Int → World → Prop) (μ2 : Int → Int → World →
    Nat), I1 x_1 (0 : Int) w ∧ ∀ x3 : Int, ∀ x4 : Int, ∀ w5 : World, I1 x3 x4 w5 → (2 : Int) ≠ 0 ∧
    br (decide (x_0 ≤ (IntKind.i64.wrap (Int.tdiv x3 2)))) ((2 : Int) ≠ 0 ∧ I1 (IntKind.i64.wrap (Int.tdiv x3 2)) (IntKind.i64.wrap (x4 + 1)) w5 ∧
    μ2 (IntKind.i64.wrap (Int.tdiv x3 2)) (IntKind.i64.wrap (x4 + 1)) w5 < μ2 x3 x4 w5) (R (.int .i64 x4) w5)))
theorem B115_eq : @B115 = fun (x_0 : Int) (x_1 : Int) (w : World) (R : Value → World → Prop) => trF Tryd.prog G (lk [(4, [(1, .int .i64), (5, .int .i64)])]) Tryd.f115 [.int .i64 x_0, .int .i64 x_1] w R := by kernel_rfl
theorem c115 (x_0 : Int) (x_1 : Int) (w : World) (R : Value → World → Prop) (h : B115 x_0 x_1 w R) : Calls Tryd.prog 115 #[.int .i64 x_0, .int .i64 x_1] w (Rv R) := calls_of_tr (L := lk [(4, [(1, .int .i64), (5, .int .i64)])]) Tryd.func115 hG hM (by rw [B115_eq] at h; exact h)

/-- locution/locutionlaw07.live -/
def B28  (w : World) (R : Value → World → Prop) : Prop :=
  
    Calls Tryd.prog 29 #[.slice (some ⟨w.heap.size, 0, none⟩) 8 8] (w.alloc (.cells #[.int .i64 3, .int .i64 4, .int .i64 7, .int .i64 13, .int .i64 14, .int .i64 15, .int .i64 21, .int .i64 43] 3)) (Rv fun v1 w2 =>
    ∃ p3 : Option Addr, ∃ n4 : Int, v1 = .tuple #[.pointer p3, .int .i64 n4] ∧ Calls Tryd.prog 95 #[.pointer p3, .int .i64 8] w2 (Rv fun v5 w6 =>
    ∃ n7 : Int, ∃ n8 : Int, v5 = .tuple #[.int .i64 n7, .int .i64 n8] ∧ Calls Tryd.prog 96 #[.pointer p3, .int .i64 12] w6 (Rv fun v9 w10 =>
    ∃ n11 : Int, ∃ n12 : Int, v9 = .tuple #[.int .i64 n11, .int .i64 n12] ∧
    br (decide (n7 = (3 : Int))) (br (decide (n8 = (13 : Int))) (br (decide (n11 = (2 : Int))) (br (decide (n12 = (7 : Int))) (Calls Tryd.prog 97 #[.pointer p3, .int .i64 2, .int .i64 6, .int .i64 14] w10 (Rv fun v13 w14 =>
    ∃ n15 : Int, v13 = .int .i64 n15 ∧ br (decide (n15 = (4 : Int))) (Calls Tryd.prog 44 #[.pointer p3] w14 (Rv fun v16 w17 => ∃ n18 : Int, v16 = .int .i64 n18 ∧
    R (.bool (decide (n18 = (34 : Int)))) w17)) (R (.bool false) w14))) (R (.bool false) w10)) (R (.bool false) w10)) (R (.bool false) w10)) (R (.bool false) w10))))
theorem B28_eq : @B28 = fun (w : World) (R : Value → World → Prop) => trF Tryd.prog G (lk []) Tryd.f28 [] w R := by kernel_rfl
theorem c28  (w : World) (R : Value → World → Prop) (h : B28  w R) : Calls Tryd.prog 28 #[] w (Rv R) := calls_of_tr (L := lk []) Tryd.func28 hG hM (by rw [B28_eq] at h; exact h)

/-- (*locution/elias.Seq).Len -/
def B43n  (w : World) (R : Value → World → Prop) : Prop :=
  R (.int .i64 0) w
theorem B43n_eq : @B43n = fun (w : World) (R : Value → World → Prop) => trF Tryd.prog G (lk []) Tryd.f43 [.pointer none] w R := by kernel_rfl
theorem c43n  (w : World) (R : Value → World → Prop) (h : B43n  w R) : Calls Tryd.prog 43 #[.pointer none] w (Rv R) := calls_of_tr (L := lk []) Tryd.func43 hG hM (by rw [B43n_eq] at h; exact h)

/-- (*locution/elias.Seq).Last -/
def B107n  (w : World) (R : Value → World → Prop) : Prop :=
  Calls Tryd.prog 43 #[.pointer none] w (Rv fun v1 w2 => ∃ n3 : Int, v1 = .int .i64 n3 ∧ br (decide (n3 = (0 : Int))) (R (.int .i64 (-1)) w2) (False))
theorem B107n_eq : @B107n = fun (w : World) (R : Value → World → Prop) => trF Tryd.prog G (lk []) Tryd.f107 [.pointer none] w R := by kernel_rfl
theorem c107n  (w : World) (R : Value → World → Prop) (h : B107n  w R) : Calls Tryd.prog 107 #[.pointer none] w (Rv R) := calls_of_tr (L := lk []) Tryd.func107 hG hM (by rw [B107n_eq] at h; exact h)

/-- (*locution/elias.Seq).At -/
def B42n (x_1 : Int) (w : World) (R : Value → World → Prop) : Prop :=
  R (.int .i64 (-1)) w
theorem B42n_eq : @B42n = fun (x_1 : Int) (w : World) (R : Value → World → Prop) => trF Tryd.prog G (lk []) Tryd.f42 [.pointer none, .int .i64 x_1] w R := by kernel_rfl
theorem c42n (x_1 : Int) (w : World) (R : Value → World → Prop) (h : B42n x_1 w R) : Calls Tryd.prog 42 #[.pointer none, .int .i64 x_1] w (Rv R) := calls_of_tr (L := lk []) Tryd.func42 hG hM (by rw [B42n_eq] at h; exact h)

/-- (*locution/elias.Seq).Next -/
def B95n (x_1 : Int) (w : World) (R : Value → World → Prop) : Prop :=
  Calls Tryd.prog 43 #[.pointer none] w (Rv fun v1 w2 => ∃ n3 : Int, v1 = .int .i64 n3 ∧
    br (decide (n3 = (0 : Int))) (R (.tuple #[.int .i64 (-1), .int .i64 (-1)]) w2) (False))
theorem B95n_eq : @B95n = fun (x_1 : Int) (w : World) (R : Value → World → Prop) => trF Tryd.prog G (lk []) Tryd.f95 [.pointer none, .int .i64 x_1] w R := by kernel_rfl
theorem c95n (x_1 : Int) (w : World) (R : Value → World → Prop) (h : B95n x_1 w R) : Calls Tryd.prog 95 #[.pointer none, .int .i64 x_1] w (Rv R) := calls_of_tr (L := lk []) Tryd.func95 hG hM (by rw [B95n_eq] at h; exact h)

/-- (*locution/elias.Seq).Ahead -/
def B96n (x_1 : Int) (w : World) (R : Value → World → Prop) : Prop :=
  Calls Tryd.prog 43 #[.pointer none] w (Rv fun v1 w2 => ∃ n3 : Int, v1 = .int .i64 n3 ∧
    br (decide (n3 = (0 : Int))) (R (.tuple #[.int .i64 (-1), .int .i64 (-1)]) w2) (br (decide (x_1 < (0 : Int))) (R (.tuple #[.int .i64 (-1), .int .i64 (-1)]) w2) (False)))
theorem B96n_eq : @B96n = fun (x_1 : Int) (w : World) (R : Value → World → Prop) => trF Tryd.prog G (lk []) Tryd.f96 [.pointer none, .int .i64 x_1] w R := by kernel_rfl
theorem c96n (x_1 : Int) (w : World) (R : Value → World → Prop) (h : B96n x_1 w R) : Calls Tryd.prog 96 #[.pointer none, .int .i64 x_1] w (Rv R) := calls_of_tr (L := lk []) Tryd.func96 hG hM (by rw [B96n_eq] at h; exact h)

/-- (*locution/elias.Seq).Find -/
def B97n (x_1 : Int) (x_2 : Int) (x_3 : Int) (w : World) (R : Value → World → Prop) : Prop :=
  Calls Tryd.prog 95 #[.pointer none, .int .i64 x_3] w (Rv fun v1 w2 => ∃ n3 : Int, ∃ n4 : Int, v1 = .tuple #[.int .i64 n3, .int .i64 n4] ∧
    br (!(decide (n4 = x_3))) (R (.int .i64 (-1)) w2) (br (decide (n3 < (0 : Int))) (R (.int .i64 (-1)) w2) (False)))
theorem B97n_eq : @B97n = fun (x_1 : Int) (x_2 : Int) (x_3 : Int) (w : World) (R : Value → World → Prop) => trF Tryd.prog G (lk []) Tryd.f97 [.pointer none, .int .i64 x_1, .int .i64 x_2, .int .i64 x_3] w R := by kernel_rfl
theorem c97n (x_1 : Int) (x_2 : Int) (x_3 : Int) (w : World) (R : Value → World → Prop) (h : B97n x_1 x_2 x_3 w R) : Calls Tryd.prog 97 #[.pointer none, .int .i64 x_1, .int .i64 x_2, .int .i64 x_3] w (Rv R) := calls_of_tr (L := lk []) Tryd.func97 hG hM (by rw [B97n_eq] at h; exact h)

/-- (*locution/elias.Seq).Size -/
def B44n  (w : World) (R : Value → World → Prop) : Prop :=
  R (.int .i64 0) w
theorem B44n_eq : @B44n = fun (w : World) (R : Value → World → Prop) => trF Tryd.prog G (lk []) Tryd.f44 [.pointer none] w R := by kernel_rfl
theorem c44n  (w : World) (R : Value → World → Prop) (h : B44n  w R) : Calls Tryd.prog 44 #[.pointer none] w (Rv R) := calls_of_tr (L := lk []) Tryd.func44 hG hM (by rw [B44n_eq] at h; exact h)

end Go.Proofs.YtomajpihimlcjaaDoor.V
