/- The verification conditions of functions, printed by a program of this work (pr.py) and checked here by the kernel. -/
import Derived.Test.YtomajpihimlcjaaDoorVb
import Derived.Test.YtomajpihimlcjaaDoorBD
set_option maxRecDepth 100000
set_option linter.unusedVariables false
namespace Go.Proofs.YtomajpihimlcjaaDoor.V
open Go Go.VC

/-- locution/seldir.New -/
def B19 (a_0 : Addr) (w : World) (R : Value → World → Prop) : Prop :=
  Calls Tryd.prog 56 #[.pointer (some a_0)] w (Rv fun v1 w2 => ∃ l3 : Slc, v1 = .slice l3.a l3.len l3.cap ∧ Calls Tryd.prog 84 #[.pointer (some a_0)] w2 (Rv fun v4 w5 =>
    ∃ p6 : Option Addr, v4 = .pointer p6 ∧ Calls Tryd.prog 54 #[.pointer (some a_0)] w5 (Rv fun v7 w8 => ∃ n9 : Int, v7 = .int .i64 n9 ∧
    ∃ l10 : Slc, (w8.alloc (.cells #[.slice l3.a l3.len l3.cap, .pointer p6, .slice none 0 0, .slice none 0 0, .int .i64 n9] 108)).cell? (Addr.add ⟨w8.heap.size, 0, none⟩ 0) = some (.slice l10.a l10.len l10.cap) ∧
    ∃ (I11 : Int → Int → Int → World → Prop) (μ12 : Int → Int → Int → World →
    Nat), I11 (0 : Int) (0 : Int) (0 : Int) (w8.alloc (.cells #[.slice l3.a l3.len l3.cap, .pointer p6, .slice none 0 0, .slice none 0 0, .int .i64 n9] 108)) ∧
    ∀ x13 : Int, ∀ x14 : Int, ∀ x15 : Int, ∀ w16 : World, I11 x13 x14 x15 w16 →
    br (decide (x15 < (l10.len : Int))) (∃ l17 : Slc, w16.cell? (Addr.add ⟨w8.heap.size, 0, none⟩ 0) = some (.slice l17.a l17.len l17.cap) ∧ 0 ≤ x15 ∧
    x15 < (l17.len : Int) ∧ ∃ a18, l17.a = some a18 ∧ ∃ n19 : Int, w16.cell? (Addr.add a18 (x15.toNat * 1)) = some (.int .u64 n19) ∧
    Calls Tryd.prog 77 #[.int .u64 n19] w16 (Rv fun v20 w21 => ∃ n22 : Int, v20 = .int .i64 n22 ∧
    ∃ n23 : Int, w21.cell? (Addr.add ⟨w8.heap.size, 0, none⟩ 4) = some (.int .i64 n23) ∧ ∃ (I24 : World → Prop) (μ25 : World → Nat), I24 w21 ∧
    ∀ w26 : World, I24 w26 → ∃ l27 : Slc, w26.cell? (Addr.add ⟨w8.heap.size, 0, none⟩ 2) = some (.slice l27.a l27.len l27.cap) ∧
    br (decide ((IntKind.i64.wrap ((l27.len : Int) * 64)) < (IntKind.i64.wrap (x13 + n22)))) (∃ l28 : Slc, w26.cell? (Addr.add ⟨w8.heap.size, 0, none⟩ 2) = some (.slice l28.a l28.len l28.cap) ∧
    ∃ w29 : World, ∃ l30 : Slc, (Builtin.append_ #[106, 106] 106 #[.slice l28.a l28.len l28.cap, .slice (some ⟨w26.heap.size, 0, none⟩) 1 1]).run Tryd.prog (w26.alloc (.cells #[.int .i32 (IntKind.i32.wrap x15)] 21)) = .ok (.slice l30.a l30.len l30.cap) w29 ∧
    (∃ u, w29.cell? (Addr.add ⟨w8.heap.size, 0, none⟩ 2) = some u) ∧ w29.frozen? (Addr.add ⟨w8.heap.size, 0, none⟩ 2) = false ∧
    I24 (w29.setCell (Addr.add ⟨w8.heap.size, 0, none⟩ 2) (.slice l30.a l30.len l30.cap)) ∧
    μ25 (w29.setCell (Addr.add ⟨w8.heap.size, 0, none⟩ 2) (.slice l30.a l30.len l30.cap)) < μ25 w26) (∃ (I31 : World → Prop) (μ32 : World → Nat), I31 w26 ∧
    ∀ w33 : World, I31 w33 → ∃ l34 : Slc, w33.cell? (Addr.add ⟨w8.heap.size, 0, none⟩ 3) = some (.slice l34.a l34.len l34.cap) ∧
    br (decide ((IntKind.i64.wrap ((l34.len : Int) * 64)) < (IntKind.i64.wrap (x14 + (IntKind.i64.wrap ((min (64 : Int) (IntKind.i64.wrap (n23 - (IntKind.i64.wrap (x15 * 64))))) - n22)))))) (∃ l35 : Slc, w33.cell? (Addr.add ⟨w8.heap.size, 0, none⟩ 3) = some (.slice l35.a l35.len l35.cap) ∧
    ∃ w36 : World, ∃ l37 : Slc, (Builtin.append_ #[106, 106] 106 #[.slice l35.a l35.len l35.cap, .slice (some ⟨w33.heap.size, 0, none⟩) 1 1]).run Tryd.prog (w33.alloc (.cells #[.int .i32 (IntKind.i32.wrap x15)] 21)) = .ok (.slice l37.a l37.len l37.cap) w36 ∧
    (∃ u, w36.cell? (Addr.add ⟨w8.heap.size, 0, none⟩ 3) = some u) ∧ w36.frozen? (Addr.add ⟨w8.heap.size, 0, none⟩ 3) = false ∧
    I31 (w36.setCell (Addr.add ⟨w8.heap.size, 0, none⟩ 3) (.slice l37.a l37.len l37.cap)) ∧
    μ32 (w36.setCell (Addr.add ⟨w8.heap.size, 0, none⟩ 3) (.slice l37.a l37.len l37.cap)) < μ32 w33) (I11 (IntKind.i64.wrap (x13 + n22)) (IntKind.i64.wrap (x14 + (IntKind.i64.wrap ((min (64 : Int) (IntKind.i64.wrap (n23 - (IntKind.i64.wrap (x15 * 64))))) - n22)))) (IntKind.i64.wrap (x15 + 1)) w33 ∧
    μ12 (IntKind.i64.wrap (x13 + n22)) (IntKind.i64.wrap (x14 + (IntKind.i64.wrap ((min (64 : Int) (IntKind.i64.wrap (n23 - (IntKind.i64.wrap (x15 * 64))))) - n22)))) (IntKind.i64.wrap (x15 + 1)) w33 < μ12 x13 x14 x15 w16)))) (R (.pointer (some ⟨w8.heap.size, 0, none⟩)) w16))))
theorem B19_eq : @B19 = fun (a_0 : Addr) (w : World) (R : Value → World → Prop) => trF Tryd.prog G (lk [(4, [(4, .int .i64), (5, .int .i64), (22, .int .i64)]), (8, []), (10, [])]) Tryd.f19 [.pointer (some a_0)] w R := by kernel_rfl
theorem c19 (a_0 : Addr) (w : World) (R : Value → World → Prop) (h : B19 a_0 w R) : Calls Tryd.prog 19 #[.pointer (some a_0)] w (Rv R) := calls_of_tr (L := lk [(4, [(4, .int .i64), (5, .int .i64), (22, .int .i64)]), (8, []), (10, [])]) Tryd.func19 hG hM (by rw [B19_eq] at h; exact h)

/-- (*locution/seldir.Dir).From -/
def B23 (a_0 : Addr) (x_1 : Int) (w : World) (R : Value → World → Prop) : Prop :=
  
    R (.func (.func 87) #[] #[.pointer (some ⟨(w.alloc (.cells #[.pointer (some a_0)] 35)).heap.size, 0, none⟩), .pointer (some ⟨w.heap.size, 0, none⟩)]) ((w.alloc (.cells #[.pointer (some a_0)] 35)).alloc (.cells #[.int .i64 x_1] 3))
theorem B23_eq : @B23 = fun (a_0 : Addr) (x_1 : Int) (w : World) (R : Value → World → Prop) => trF Tryd.prog G (lk []) Tryd.f23 [.pointer (some a_0), .int .i64 x_1] w R := by kernel_rfl
theorem c23 (a_0 : Addr) (x_1 : Int) (w : World) (R : Value → World → Prop) (h : B23 a_0 x_1 w R) : Calls Tryd.prog 23 #[.pointer (some a_0), .int .i64 x_1] w (Rv R) := calls_of_tr (L := lk []) Tryd.func23 hG hM (by rw [B23_eq] at h; exact h)

/-- (*locution/seldir.Dir).Ones -/
def B24 (a_0 : Addr) (w : World) (R : Value → World → Prop) : Prop :=
  ∃ p1 : Option Addr, (World.drew w).cell? (Addr.add a_0 1) = some (.pointer p1) ∧ ∃ n2 : Int, (World.drew w).cell? (Addr.add a_0 4) = some (.int .i64 n2) ∧
    Calls Tryd.prog 89 #[.pointer p1, .int .i64 n2] (World.drew w) (Rv fun v3 w4 => ∃ n5 : Int, v3 = .int .i64 n5 ∧ R (.int .i64 n5) w4)
theorem B24_eq : @B24 = fun (a_0 : Addr) (w : World) (R : Value → World → Prop) => trF Tryd.prog G (lk []) Tryd.f24 [.pointer (some a_0)] w R := by kernel_rfl
theorem c24 (a_0 : Addr) (w : World) (R : Value → World → Prop) (h : B24 a_0 w R) : Calls Tryd.prog 24 #[.pointer (some a_0)] w (Rv R) := calls_of_tr (L := lk []) Tryd.func24 hG hM (by rw [B24_eq] at h; exact h)

/-- (*locution/seldir.Dir).One -/
def B25 (a_0 : Addr) (x_1 : Int) (w : World) (R : Value → World → Prop) : Prop :=
  
    br (decide (x_1 < (0 : Int))) (R (.int .i64 (-1)) (w.alloc (.cells #[.pointer (some a_0)] 35))) (∃ p1 : Option Addr, (w.alloc (.cells #[.pointer (some a_0)] 35)).cell? ⟨w.heap.size, 0, none⟩ = some (.pointer p1) ∧
    Calls Tryd.prog 24 #[.pointer p1] (w.alloc (.cells #[.pointer (some a_0)] 35)) (Rv fun v2 w3 => ∃ n4 : Int, v2 = .int .i64 n4 ∧
    br (decide (n4 ≤ x_1)) (R (.int .i64 (-1)) w3) (∃ p5 : Option Addr, (World.drew w3).cell? ⟨w.heap.size, 0, none⟩ = some (.pointer p5) ∧
    ∃ p6 : Option Addr, (World.drew w3).cell? ⟨w.heap.size, 0, none⟩ = some (.pointer p6) ∧ wa p6 fun a7 =>
    ∃ l8 : Slc, (World.drew w3).cell? (Addr.add a7 2) = some (.slice l8.a l8.len l8.cap) ∧
    Calls Tryd.prog 90 #[.pointer p5, .slice l8.a l8.len l8.cap, .int .i64 x_1] (World.drew w3) (Rv fun v9 w10 =>
    ∃ n11 : Int, ∃ n12 : Int, v9 = .tuple #[.int .i64 n11, .int .i64 n12] ∧
    Calls Tryd.prog 91 #[.int .i64 n11, .int .i64 n12, .int .i64 x_1, .func (.func 92) #[] #[.pointer (some ⟨w.heap.size, 0, none⟩)]] w10 (Rv fun v13 w14 =>
    ∃ n15 : Int, v13 = .int .i64 n15 ∧ ∃ p16 : Option Addr, (World.drew w14).cell? ⟨w.heap.size, 0, none⟩ = some (.pointer p16) ∧ wa p16 fun a17 =>
    ∃ l18 : Slc, (World.drew w14).cell? (Addr.add a17 0) = some (.slice l18.a l18.len l18.cap) ∧ 0 ≤ n15 ∧ n15 < (l18.len : Int) ∧ ∃ a19, l18.a = some a19 ∧
    ∃ n20 : Int, (World.drew w14).cell? (Addr.add a19 (n15.toNat * 1)) = some (.int .u64 n20) ∧
    ∃ p21 : Option Addr, (World.drew w14).cell? ⟨w.heap.size, 0, none⟩ = some (.pointer p21) ∧ wa p21 fun a22 =>
    ∃ p23 : Option Addr, (World.drew w14).cell? (Addr.add a22 1) = some (.pointer p23) ∧
    Calls Tryd.prog 89 #[.pointer p23, .int .i64 (IntKind.i64.wrap (n15 * 64))] (World.drew w14) (Rv fun v24 w25 => ∃ n26 : Int, v24 = .int .i64 n26 ∧
    w25.cell? (Addr.add a19 (n15.toNat * 1)) = some (.int .u64 n20) ∧ w25.cell? (Addr.add a17 0) = some (.slice l18.a l18.len l18.cap) ∧
    w25.cell? ⟨w.heap.size, 0, none⟩ = some (.pointer p16) ∧ Calls Tryd.prog 79 #[.int .u64 n20, .int .i64 (IntKind.i64.wrap (x_1 - n26))] w25 (Rv fun v27 w28 =>
    ∃ n29 : Int, v27 = .int .i64 n29 ∧ R (.int .i64 (IntKind.i64.wrap ((IntKind.i64.wrap (n15 * 64)) + n29))) w28)))))))
theorem B25_eq : @B25 = fun (a_0 : Addr) (x_1 : Int) (w : World) (R : Value → World → Prop) => trF Tryd.prog G (lk []) Tryd.f25 [.pointer (some a_0), .int .i64 x_1] w R := by kernel_rfl
theorem c25 (a_0 : Addr) (x_1 : Int) (w : World) (R : Value → World → Prop) (h : B25 a_0 x_1 w R) : Calls Tryd.prog 25 #[.pointer (some a_0), .int .i64 x_1] w (Rv R) := calls_of_tr (L := lk []) Tryd.func25 hG hM (by rw [B25_eq] at h; exact h)

/-- (*locution/seldir.Dir).Zero -/
def B26 (a_0 : Addr) (x_1 : Int) (w : World) (R : Value → World → Prop) : Prop :=
  ∃ p1 : Option Addr, (World.drew (w.alloc (.cells #[.pointer (some a_0)] 35))).cell? ⟨w.heap.size, 0, none⟩ = some (.pointer p1) ∧
    br p1.isNone (R (.int .i64 (-1)) (World.drew (w.alloc (.cells #[.pointer (some a_0)] 35)))) (br (decide (x_1 < (0 : Int))) (R (.int .i64 (-1)) (World.drew (w.alloc (.cells #[.pointer (some a_0)] 35)))) (∃ p2 : Option Addr, (World.drew (w.alloc (.cells #[.pointer (some a_0)] 35))).cell? ⟨w.heap.size, 0, none⟩ = some (.pointer p2) ∧
    wa p2 fun a3 => ∃ p4 : Option Addr, (World.drew (w.alloc (.cells #[.pointer (some a_0)] 35))).cell? (Addr.add a3 1) = some (.pointer p4) ∧
    ∃ p5 : Option Addr, (World.drew (w.alloc (.cells #[.pointer (some a_0)] 35))).cell? ⟨w.heap.size, 0, none⟩ = some (.pointer p5) ∧ wa p5 fun a6 =>
    ∃ n7 : Int, (World.drew (w.alloc (.cells #[.pointer (some a_0)] 35))).cell? (Addr.add a6 4) = some (.int .i64 n7) ∧
    Calls Tryd.prog 93 #[.pointer p4, .int .i64 n7] (World.drew (w.alloc (.cells #[.pointer (some a_0)] 35))) (Rv fun v8 w9 => ∃ n10 : Int, v8 = .int .i64 n10 ∧
    br (decide (n10 ≤ x_1)) (R (.int .i64 (-1)) w9) (∃ p11 : Option Addr, (World.drew w9).cell? ⟨w.heap.size, 0, none⟩ = some (.pointer p11) ∧
    ∃ p12 : Option Addr, (World.drew w9).cell? ⟨w.heap.size, 0, none⟩ = some (.pointer p12) ∧ wa p12 fun a13 =>
    ∃ l14 : Slc, (World.drew w9).cell? (Addr.add a13 3) = some (.slice l14.a l14.len l14.cap) ∧
    Calls Tryd.prog 90 #[.pointer p11, .slice l14.a l14.len l14.cap, .int .i64 x_1] (World.drew w9) (Rv fun v15 w16 =>
    ∃ n17 : Int, ∃ n18 : Int, v15 = .tuple #[.int .i64 n17, .int .i64 n18] ∧
    Calls Tryd.prog 91 #[.int .i64 n17, .int .i64 n18, .int .i64 x_1, .func (.func 94) #[] #[.pointer (some ⟨w.heap.size, 0, none⟩)]] w16 (Rv fun v19 w20 =>
    ∃ n21 : Int, v19 = .int .i64 n21 ∧ ∃ p22 : Option Addr, (World.drew w20).cell? ⟨w.heap.size, 0, none⟩ = some (.pointer p22) ∧ wa p22 fun a23 =>
    ∃ l24 : Slc, (World.drew w20).cell? (Addr.add a23 0) = some (.slice l24.a l24.len l24.cap) ∧ 0 ≤ n21 ∧ n21 < (l24.len : Int) ∧ ∃ a25, l24.a = some a25 ∧
    ∃ n26 : Int, (World.drew w20).cell? (Addr.add a25 (n21.toNat * 1)) = some (.int .u64 n26) ∧
    ∃ p27 : Option Addr, (World.drew w20).cell? ⟨w.heap.size, 0, none⟩ = some (.pointer p27) ∧ wa p27 fun a28 =>
    ∃ p29 : Option Addr, (World.drew w20).cell? (Addr.add a28 1) = some (.pointer p29) ∧
    Calls Tryd.prog 93 #[.pointer p29, .int .i64 (IntKind.i64.wrap (n21 * 64))] (World.drew w20) (Rv fun v30 w31 => ∃ n32 : Int, v30 = .int .i64 n32 ∧
    w31.cell? (Addr.add a25 (n21.toNat * 1)) = some (.int .u64 n26) ∧ w31.cell? (Addr.add a23 0) = some (.slice l24.a l24.len l24.cap) ∧
    w31.cell? ⟨w.heap.size, 0, none⟩ = some (.pointer p22) ∧
    Calls Tryd.prog 79 #[.int .u64 (bXor .u64 (if IntKind.u64.signed then -1 else IntKind.u64.max) n26), .int .i64 (IntKind.i64.wrap (x_1 - n32))] w31 (Rv fun v33 w34 =>
    ∃ n35 : Int, v33 = .int .i64 n35 ∧ R (.int .i64 (IntKind.i64.wrap ((IntKind.i64.wrap (n21 * 64)) + n35))) w34))))))))
theorem B26_eq : @B26 = fun (a_0 : Addr) (x_1 : Int) (w : World) (R : Value → World → Prop) => trF Tryd.prog G (lk []) Tryd.f26 [.pointer (some a_0), .int .i64 x_1] w R := by kernel_rfl
theorem c26 (a_0 : Addr) (x_1 : Int) (w : World) (R : Value → World → Prop) (h : B26 a_0 x_1 w R) : Calls Tryd.prog 26 #[.pointer (some a_0), .int .i64 x_1] w (Rv R) := calls_of_tr (L := lk []) Tryd.func26 hG hM (by rw [B26_eq] at h; exact h)

/-- (*locution/seldir.Dir).From$1 -/
def B87 (x_0 : Value) (a_1 : Addr) (a_2 : Addr) (w : World) (R : Value → World → Prop) : Prop :=
  ∃ n1 : Int, (w.alloc (.cells ⟨cellsL x_0⟩ 100)).cell? a_1 = some (.int .i64 n1) ∧
    (∃ u, ((w.alloc (.cells ⟨cellsL x_0⟩ 100)).alloc (.cells #[.int .i64 0] 3)).cell? ⟨(w.alloc (.cells ⟨cellsL x_0⟩ 100)).heap.size, 0, none⟩ = some u) ∧
    ((w.alloc (.cells ⟨cellsL x_0⟩ 100)).alloc (.cells #[.int .i64 0] 3)).frozen? ⟨(w.alloc (.cells ⟨cellsL x_0⟩ 100)).heap.size, 0, none⟩ = false ∧
    ∃ p2 : Option Addr, (((w.alloc (.cells ⟨cellsL x_0⟩ 100)).alloc (.cells #[.int .i64 0] 3)).setCell ⟨(w.alloc (.cells ⟨cellsL x_0⟩ 100)).heap.size, 0, none⟩ (.int .i64 (max n1 (0 : Int)))).cell? a_2 = some (.pointer p2) ∧
    ∃ n3 : Int, (((w.alloc (.cells ⟨cellsL x_0⟩ 100)).alloc (.cells #[.int .i64 0] 3)).setCell ⟨(w.alloc (.cells ⟨cellsL x_0⟩ 100)).heap.size, 0, none⟩ (.int .i64 (max n1 (0 : Int)))).cell? ⟨(w.alloc (.cells ⟨cellsL x_0⟩ 100)).heap.size, 0, none⟩ = some (.int .i64 n3) ∧
    Calls Tryd.prog 25 #[.pointer p2, .int .i64 n3] (((w.alloc (.cells ⟨cellsL x_0⟩ 100)).alloc (.cells #[.int .i64 0] 3)).setCell ⟨(w.alloc (.cells ⟨cellsL x_0⟩ 100)).heap.size, 0, none⟩ (.int .i64 (max n1 (0 : Int)))) (Rv fun v4 w5 =>
    ∃ n6 : Int, v4 = .int .i64 n6 ∧ br (decide (n6 < (0 : Int))) (([] : List Nat).Nodup ∧ (∀ D, D ∈ ([] : List Nat) → w5.heap[D]? = some (.deferred (some []))) ∧
    ∀ w7 : World, Kp (fun k => k ∈ ([] : List Nat)) w5 w7 → R (.tuple #[]) w7) ((64 : Int) ≠ 0 ∧
    (∃ u, (w5.alloc (.cells #[.int .i64 0] 3)).cell? ⟨w5.heap.size, 0, none⟩ = some u) ∧
    (w5.alloc (.cells #[.int .i64 0] 3)).frozen? ⟨w5.heap.size, 0, none⟩ = false ∧
    ∃ p8 : Option Addr, (World.drew ((w5.alloc (.cells #[.int .i64 0] 3)).setCell ⟨w5.heap.size, 0, none⟩ (.int .i64 (IntKind.i64.wrap (Int.tdiv n6 64))))).cell? a_2 = some (.pointer p8) ∧
    wa p8 fun a9 =>
    ∃ l10 : Slc, (World.drew ((w5.alloc (.cells #[.int .i64 0] 3)).setCell ⟨w5.heap.size, 0, none⟩ (.int .i64 (IntKind.i64.wrap (Int.tdiv n6 64))))).cell? (Addr.add a9 0) = some (.slice l10.a l10.len l10.cap) ∧
    ∃ n11 : Int, (World.drew ((w5.alloc (.cells #[.int .i64 0] 3)).setCell ⟨w5.heap.size, 0, none⟩ (.int .i64 (IntKind.i64.wrap (Int.tdiv n6 64))))).cell? ⟨w5.heap.size, 0, none⟩ = some (.int .i64 n11) ∧
    0 ≤ n11 ∧ n11 < (l10.len : Int) ∧ ∃ a12, l10.a = some a12 ∧
    ∃ n13 : Int, (World.drew ((w5.alloc (.cells #[.int .i64 0] 3)).setCell ⟨w5.heap.size, 0, none⟩ (.int .i64 (IntKind.i64.wrap (Int.tdiv n6 64))))).cell? (Addr.add a12 (n11.toNat * 1)) = some (.int .u64 n13) ∧
    (64 : Int) ≠ 0 ∧
    Calls Tryd.prog 88 #[.int .i64 (Int.tmod n6 64)] (World.drew ((w5.alloc (.cells #[.int .i64 0] 3)).setCell ⟨w5.heap.size, 0, none⟩ (.int .i64 (IntKind.i64.wrap (Int.tdiv n6 64))))) (Rv fun v14 w15 =>
    ∃ n16 : Int, v14 = .int .u64 n16 ∧ w15.cell? (Addr.add a12 (n11.toNat * 1)) = some (.int .u64 n13) ∧ w15.cell? ⟨w5.heap.size, 0, none⟩ = some (.int .i64 n11) ∧
    w15.cell? (Addr.add a9 0) = some (.slice l10.a l10.len l10.cap) ∧ w15.cell? a_2 = some (.pointer p8) ∧ ∃ (I17 : List Nat → Int → World → Prop) (μ18 : Int →
    World → Nat), I17 ([] : List Nat) (bAndNot .u64 n13 n16) w15 ∧ ∀ d21 : List Nat, ∀ x19 : Int, ∀ w20 : World, I17 d21 x19 w20 →
    Calls Tryd.prog 12 #[.int .u64 x19] w20 (Rv fun v22 w23 => ∃ v24 : Value, v22 = v24 ∧ ∃ (g25 : Nat) (A26 C27 : Array Value), v24 = .func (.func g25) A26 C27 ∧
    G g25 = true ∧ ∃ n28 : Nat, ∃ f36 : Nat → Int, ∃ f37 : Nat → Int, ∃ (D29 : Nat → Prop) (J30 : Nat → (Nat → Prop) → World → Prop) (X31 : Option Nat → (Nat →
    Prop) → World → Prop), Iter Tryd.prog g25 A26.toList C27.toList w23 n28 (fun j => [.int .i64 (f36 j), .int .i64 (f37 j)]) D29 ∧ (∀ k, D29 k → k < w23.heap.size) ∧
    (∀ j, Stab (J30 j)) ∧ (∀ o, Stab (X31 o)) ∧ J30 0 (fun _ => False) w23 ∧ (∀ (j32 : Nat) (T33 : Nat → Prop) (w34 : World), j32 < n28 → J30 j32 T33 w34 →
    (∀ k, T33 k → w23.heap.size ≤ k) → T33 w23.heap.size → T33 (w23.heap.size + 1) → (∀ k, T33 k → k < w34.heap.size) → Kp (fun k => ¬ T33 k ∧ ¬ D29 k) w34 w34 ∧
    ∀ w35 : World, Kp (fun k => k = w23.heap.size + 1) w34 w35 → ∃ v38 : Value, w35.cell? ⟨w.heap.size, 0, none⟩ = some (v38) ∧
    ∃ n39 : Int, w35.cell? ⟨(w.alloc (.cells ⟨cellsL x_0⟩ 100)).heap.size, 0, none⟩ = some (.int .i64 n39) ∧
    ∃ n40 : Int, w35.cell? ⟨w5.heap.size, 0, none⟩ = some (.int .i64 n40) ∧
    CallFV Tryd.prog G v38 [.int .i64 n39, .int .i64 (IntKind.i64.wrap ((IntKind.i64.wrap (n40 * 64)) + (f37 j32)))] w35 fun v41 w42 => ∃ b43 : Bool, v41 = .bool b43 ∧
    br (!b43) (Kp (fun k => ¬ T33 k ∧ ¬ D29 k) w35 w42 ∧
    X31 none T33 w42) (∃ n44 : Int, w42.cell? ⟨(w.alloc (.cells ⟨cellsL x_0⟩ 100)).heap.size, 0, none⟩ = some (.int .i64 n44) ∧
    (∃ u, w42.cell? ⟨(w.alloc (.cells ⟨cellsL x_0⟩ 100)).heap.size, 0, none⟩ = some u) ∧
    w42.frozen? ⟨(w.alloc (.cells ⟨cellsL x_0⟩ 100)).heap.size, 0, none⟩ = false ∧ Kp (fun k => ¬ T33 k ∧
    ¬ D29 k) w35 (w42.setCell ⟨(w.alloc (.cells ⟨cellsL x_0⟩ 100)).heap.size, 0, none⟩ (.int .i64 (IntKind.i64.wrap (n44 + 1)))) ∧
    J30 (j32 + 1) T33 (w42.setCell ⟨(w.alloc (.cells ⟨cellsL x_0⟩ 100)).heap.size, 0, none⟩ (.int .i64 (IntKind.i64.wrap (n44 + 1)))))) ∧ (∀ (T45 : Nat →
    Prop) (w46 : World), J30 n28 T45 w46 → ((∀ k, T45 k → w23.heap.size ≤ k ∧ k < w46.heap.size) ∧ T45 w23.heap.size) →
    w46.heap[w23.heap.size]? = some (.deferred (some [])) → ∃ n47 : Int, w46.cell? ⟨w5.heap.size, 0, none⟩ = some (.int .i64 n47) ∧
    (∃ u, w46.cell? ⟨w5.heap.size, 0, none⟩ = some u) ∧ w46.frozen? ⟨w5.heap.size, 0, none⟩ = false ∧
    ∃ n48 : Int, (World.drew (w46.setCell ⟨w5.heap.size, 0, none⟩ (.int .i64 (IntKind.i64.wrap (n47 + 1))))).cell? ⟨w5.heap.size, 0, none⟩ = some (.int .i64 n48) ∧
    ∃ p49 : Option Addr, (World.drew (w46.setCell ⟨w5.heap.size, 0, none⟩ (.int .i64 (IntKind.i64.wrap (n47 + 1))))).cell? a_2 = some (.pointer p49) ∧
    wa p49 fun a50 =>
    ∃ l51 : Slc, (World.drew (w46.setCell ⟨w5.heap.size, 0, none⟩ (.int .i64 (IntKind.i64.wrap (n47 + 1))))).cell? (Addr.add a50 0) = some (.slice l51.a l51.len l51.cap) ∧
    br (decide (n48 = (l51.len : Int))) (((w23.heap.size :: d21) ++ []).Nodup ∧ (∀ D, D ∈ ((w23.heap.size :: d21) ++ []) →
    (World.drew (w46.setCell ⟨w5.heap.size, 0, none⟩ (.int .i64 (IntKind.i64.wrap (n47 + 1))))).heap[D]? = some (.deferred (some []))) ∧ ∀ w52 : World, Kp (fun k =>
    k ∈ ((w23.heap.size :: d21) ++ [])) (World.drew (w46.setCell ⟨w5.heap.size, 0, none⟩ (.int .i64 (IntKind.i64.wrap (n47 + 1))))) w52 →
    R (.tuple #[]) w52) (∃ p53 : Option Addr, (World.drew (World.drew (w46.setCell ⟨w5.heap.size, 0, none⟩ (.int .i64 (IntKind.i64.wrap (n47 + 1)))))).cell? a_2 = some (.pointer p53) ∧
    wa p53 fun a54 =>
    ∃ l55 : Slc, (World.drew (World.drew (w46.setCell ⟨w5.heap.size, 0, none⟩ (.int .i64 (IntKind.i64.wrap (n47 + 1)))))).cell? (Addr.add a54 0) = some (.slice l55.a l55.len l55.cap) ∧
    ∃ n56 : Int, (World.drew (World.drew (w46.setCell ⟨w5.heap.size, 0, none⟩ (.int .i64 (IntKind.i64.wrap (n47 + 1)))))).cell? ⟨w5.heap.size, 0, none⟩ = some (.int .i64 n56) ∧
    0 ≤ n56 ∧ n56 < (l55.len : Int) ∧ ∃ a57, l55.a = some a57 ∧
    ∃ n58 : Int, (World.drew (World.drew (w46.setCell ⟨w5.heap.size, 0, none⟩ (.int .i64 (IntKind.i64.wrap (n47 + 1)))))).cell? (Addr.add a57 (n56.toNat * 1)) = some (.int .u64 n58) ∧
    I17 (w23.heap.size :: d21) n58 (World.drew (World.drew (w46.setCell ⟨w5.heap.size, 0, none⟩ (.int .i64 (IntKind.i64.wrap (n47 + 1)))))) ∧
    μ18 n58 (World.drew (World.drew (w46.setCell ⟨w5.heap.size, 0, none⟩ (.int .i64 (IntKind.i64.wrap (n47 + 1)))))) < μ18 x19 w20)) ∧ (∀ (T59 : Nat →
    Prop) (w60 : World), X31 none T59 w60 → ((∀ k, T59 k → w23.heap.size ≤ k ∧ k < w60.heap.size) ∧ T59 w23.heap.size) →
    w60.heap[w23.heap.size]? = some (.deferred (some [])) → (w23.heap.size :: d21).Nodup ∧ (∀ D, D ∈ (w23.heap.size :: d21) →
    w60.heap[D]? = some (.deferred (some []))) ∧ ∀ w61 : World, Kp (fun k => k ∈ (w23.heap.size :: d21)) w60 w61 → R (.tuple #[]) w61) ∧ True))))
theorem B87_eq : @B87 = fun (x_0 : Value) (a_1 : Addr) (a_2 : Addr) (w : World) (R : Value → World → Prop) => trFT Tryd.prog G (lk [(6, [(7, .int .u64)]), (1000008, [(32, .int .i64), (33, .int .i64)])]) Tryd.f87 [x_0, .pointer (some a_1), .pointer (some a_2)] w R := by kernel_rfl
theorem c87 (x_0 : Value) (a_1 : Addr) (a_2 : Addr) (w : World) (R : Value → World → Prop) (h : B87 x_0 a_1 a_2 w R) : Calls Tryd.prog 87 #[x_0, .pointer (some a_1), .pointer (some a_2)] w (Rv R) := calls_of_trT (L := lk [(6, [(7, .int .u64)]), (1000008, [(32, .int .i64), (33, .int .i64)])]) Tryd.func87 hG hM (by rw [B87_eq] at h; exact h)

/-- (*locution/seldir.Dir).span -/
def B90 (a_0 : Addr) (x_1 : Slc) (x_2 : Int) (w : World) (R : Value → World → Prop) : Prop :=
  (64 : Int) ≠ 0 ∧ 0 ≤ (IntKind.i64.wrap (Int.tdiv x_2 64)) ∧ (IntKind.i64.wrap (Int.tdiv x_2 64)) < (x_1.len : Int) ∧ ∃ a1, x_1.a = some a1 ∧
    ∃ n2 : Int, (World.drew w).cell? (Addr.add a1 ((IntKind.i64.wrap (Int.tdiv x_2 64)).toNat * 1)) = some (.int .i32 n2) ∧
    ∃ l3 : Slc, (World.drew w).cell? (Addr.add a_0 0) = some (.slice l3.a l3.len l3.cap) ∧ (64 : Int) ≠ 0 ∧
    br (decide ((IntKind.i64.wrap ((IntKind.i64.wrap (Int.tdiv x_2 64)) + 1)) < (x_1.len : Int))) ((64 : Int) ≠ 0 ∧
    0 ≤ (IntKind.i64.wrap ((IntKind.i64.wrap (Int.tdiv x_2 64)) + 1)) ∧ (IntKind.i64.wrap ((IntKind.i64.wrap (Int.tdiv x_2 64)) + 1)) < (x_1.len : Int) ∧
    ∃ a4, x_1.a = some a4 ∧
    ∃ n5 : Int, (World.drew w).cell? (Addr.add a4 ((IntKind.i64.wrap ((IntKind.i64.wrap (Int.tdiv x_2 64)) + 1)).toNat * 1)) = some (.int .i32 n5) ∧
    R (.tuple #[.int .i64 (IntKind.i64.wrap n2), .int .i64 (IntKind.i64.wrap ((IntKind.i64.wrap n5) + 1))]) (World.drew w)) (R (.tuple #[.int .i64 (IntKind.i64.wrap n2), .int .i64 (l3.len : Int)]) (World.drew w))
theorem B90_eq : @B90 = fun (a_0 : Addr) (x_1 : Slc) (x_2 : Int) (w : World) (R : Value → World → Prop) => trF Tryd.prog G (lk []) Tryd.f90 [.pointer (some a_0), .slice x_1.a x_1.len x_1.cap, .int .i64 x_2] w R := by kernel_rfl
theorem c90 (a_0 : Addr) (x_1 : Slc) (x_2 : Int) (w : World) (R : Value → World → Prop) (h : B90 a_0 x_1 x_2 w R) : Calls Tryd.prog 90 #[.pointer (some a_0), .slice x_1.a x_1.len x_1.cap, .int .i64 x_2] w (Rv R) := calls_of_tr (L := lk []) Tryd.func90 hG hM (by rw [B90_eq] at h; exact h)

/-- locution/seldir.search -/
def B91 (x_0 : Int) (x_1 : Int) (x_2 : Int) (x_3 : Value) (w : World) (R : Value → World → Prop) : Prop :=
  ∃ (I1 : Int → Int → World → Prop) (μ2 : Int → Int → World → Nat), I1 x_0 x_1 w ∧ ∀ x3 : Int, ∀ x4 : Int, ∀ w5 : World, I1 x3 x4 w5 →
    br (decide ((1 : Int) < (IntKind.i64.wrap (x4 - x3)))) ((2 : Int) ≠ 0 ∧
    CallFV Tryd.prog G x_3 [.int .i64 (IntKind.i64.wrap ((IntKind.i64.wrap (x3 + (IntKind.i64.wrap (Int.tdiv (IntKind.i64.wrap (x4 - x3)) 2)))) * 64))] w5 fun v6 w7 =>
    ∃ n8 : Int, v6 = .int .i64 n8 ∧ br (decide (n8 ≤ x_2)) (I1 (IntKind.i64.wrap (x3 + (IntKind.i64.wrap (Int.tdiv (IntKind.i64.wrap (x4 - x3)) 2)))) x4 w7 ∧
    μ2 (IntKind.i64.wrap (x3 + (IntKind.i64.wrap (Int.tdiv (IntKind.i64.wrap (x4 - x3)) 2)))) x4 w7 < μ2 x3 x4 w5) (I1 x3 (IntKind.i64.wrap (x3 + (IntKind.i64.wrap (Int.tdiv (IntKind.i64.wrap (x4 - x3)) 2)))) w7 ∧
    μ2 x3 (IntKind.i64.wrap (x3 + (IntKind.i64.wrap (Int.tdiv (IntKind.i64.wrap (x4 - x3)) 2)))) w7 < μ2 x3 x4 w5)) (R (.int .i64 x3) w5)
theorem B91_eq : @B91 = fun (x_0 : Int) (x_1 : Int) (x_2 : Int) (x_3 : Value) (w : World) (R : Value → World → Prop) => trF Tryd.prog G (lk [(1, [(0, .int .i64), (1, .int .i64)])]) Tryd.f91 [.int .i64 x_0, .int .i64 x_1, .int .i64 x_2, x_3] w R := by kernel_rfl
theorem c91 (x_0 : Int) (x_1 : Int) (x_2 : Int) (x_3 : Value) (w : World) (R : Value → World → Prop) (h : B91 x_0 x_1 x_2 x_3 w R) : Calls Tryd.prog 91 #[.int .i64 x_0, .int .i64 x_1, .int .i64 x_2, x_3] w (Rv R) := calls_of_tr (L := lk [(1, [(0, .int .i64), (1, .int .i64)])]) Tryd.func91 hG hM (by rw [B91_eq] at h; exact h)

/-- (*locution/seldir.Dir).One$1 -/
def B92 (x_0 : Int) (a_1 : Addr) (w : World) (R : Value → World → Prop) : Prop :=
  ∃ p1 : Option Addr, w.cell? a_1 = some (.pointer p1) ∧ wa p1 fun a2 => ∃ p3 : Option Addr, w.cell? (Addr.add a2 1) = some (.pointer p3) ∧
    Calls Tryd.prog 89 #[.pointer p3, .int .i64 x_0] w (Rv fun v4 w5 => ∃ n6 : Int, v4 = .int .i64 n6 ∧ R (.int .i64 n6) w5)
theorem B92_eq : @B92 = fun (x_0 : Int) (a_1 : Addr) (w : World) (R : Value → World → Prop) => trF Tryd.prog G (lk []) Tryd.f92 [.int .i64 x_0, .pointer (some a_1)] w R := by kernel_rfl
theorem c92 (x_0 : Int) (a_1 : Addr) (w : World) (R : Value → World → Prop) (h : B92 x_0 a_1 w R) : Calls Tryd.prog 92 #[.int .i64 x_0, .pointer (some a_1)] w (Rv R) := calls_of_tr (L := lk []) Tryd.func92 hG hM (by rw [B92_eq] at h; exact h)

/-- (*locution/seldir.Dir).Zero$1 -/
def B94 (x_0 : Int) (a_1 : Addr) (w : World) (R : Value → World → Prop) : Prop :=
  ∃ p1 : Option Addr, w.cell? a_1 = some (.pointer p1) ∧ wa p1 fun a2 => ∃ p3 : Option Addr, w.cell? (Addr.add a2 1) = some (.pointer p3) ∧
    Calls Tryd.prog 93 #[.pointer p3, .int .i64 x_0] w (Rv fun v4 w5 => ∃ n6 : Int, v4 = .int .i64 n6 ∧ R (.int .i64 n6) w5)
theorem B94_eq : @B94 = fun (x_0 : Int) (a_1 : Addr) (w : World) (R : Value → World → Prop) => trF Tryd.prog G (lk []) Tryd.f94 [.int .i64 x_0, .pointer (some a_1)] w R := by kernel_rfl
theorem c94 (x_0 : Int) (a_1 : Addr) (w : World) (R : Value → World → Prop) (h : B94 x_0 a_1 w R) : Calls Tryd.prog 94 #[.int .i64 x_0, .pointer (some a_1)] w (Rv R) := calls_of_tr (L := lk []) Tryd.func94 hG hM (by rw [B94_eq] at h; exact h)

/-- locution/locutionref05.Places -/
def B20 (x_0 : Slc) (x_1 : Bool) (w : World) (R : Value → World → Prop) : Prop :=
  ∃ (I1 : Slc → Int → World → Prop) (μ2 : Slc → Int → World → Nat), I1 ⟨none, 0, 0⟩ (0 : Int) w ∧ ∀ x3 : Slc, ∀ x4 : Int, ∀ w5 : World, I1 x3 x4 w5 →
    br (decide (x4 < (x_0.len : Int))) (0 ≤ x4 ∧ x4 < (x_0.len : Int) ∧ ∃ a6, x_0.a = some a6 ∧
    ∃ b7 : Bool, w5.cell? (Addr.add a6 (x4.toNat * 1)) = some (.bool b7) ∧
    br (b7 == x_1) (∃ w8 : World, ∃ l9 : Slc, (Builtin.append_ #[37, 37] 37 #[.slice x3.a x3.len x3.cap, .slice (some ⟨w5.heap.size, 0, none⟩) 1 1]).run Tryd.prog (w5.alloc (.cells #[.int .i64 x4] 3)) = .ok (.slice l9.a l9.len l9.cap) w8 ∧
    I1 l9 (IntKind.i64.wrap (x4 + 1)) w8 ∧ μ2 l9 (IntKind.i64.wrap (x4 + 1)) w8 < μ2 x3 x4 w5) (I1 x3 (IntKind.i64.wrap (x4 + 1)) w5 ∧
    μ2 x3 (IntKind.i64.wrap (x4 + 1)) w5 < μ2 x3 x4 w5)) (R (.slice x3.a x3.len x3.cap) w5)
theorem B20_eq : @B20 = fun (x_0 : Slc) (x_1 : Bool) (w : World) (R : Value → World → Prop) => trF Tryd.prog G (lk [(3, [(5, .slc), (6, .int .i64)])]) Tryd.f20 [.slice x_0.a x_0.len x_0.cap, .bool x_1] w R := by kernel_rfl
theorem c20 (x_0 : Slc) (x_1 : Bool) (w : World) (R : Value → World → Prop) (h : B20 x_0 x_1 w R) : Calls Tryd.prog 20 #[.slice x_0.a x_0.len x_0.cap, .bool x_1] w (Rv R) := calls_of_tr (L := lk [(3, [(5, .slc), (6, .int .i64)])]) Tryd.func20 hG hM (by rw [B20_eq] at h; exact h)

/-- locution/locutionlaw05.live -/
def B17  (w : World) (R : Value → World → Prop) : Prop :=
  Calls Tryd.prog 18 #[.agg #[.slice none 0 0, .int .u8 0, .int .u64 13, .int .u8 5]] w (Rv fun v1 w2 => ∃ p3 : Option Addr, v1 = .pointer p3 ∧
    Calls Tryd.prog 19 #[.pointer p3] w2 (Rv fun v4 w5 => ∃ p6 : Option Addr, v4 = .pointer p6 ∧ Calls Tryd.prog 25 #[.pointer p6, .int .i64 1] w5 (Rv fun v7 w8 =>
    ∃ n9 : Int, v7 = .int .i64 n9 ∧ br (decide (n9 = (2 : Int))) (Calls Tryd.prog 26 #[.pointer p6, .int .i64 1] w8 (Rv fun v10 w11 => ∃ n12 : Int, v10 = .int .i64 n12 ∧
    br (decide (n12 = (4 : Int))) (Calls Tryd.prog 25 #[.pointer p6, .int .i64 3] w11 (Rv fun v13 w14 => ∃ n15 : Int, v13 = .int .i64 n15 ∧
    br (decide (n15 = (-1))) (Calls Tryd.prog 24 #[.pointer p6] w14 (Rv fun v16 w17 => ∃ n18 : Int, v16 = .int .i64 n18 ∧
    R (.bool (decide (n18 = (3 : Int)))) w17)) (R (.bool false) w14))) (R (.bool false) w11))) (R (.bool false) w8))))
theorem B17_eq : @B17 = fun (w : World) (R : Value → World → Prop) => trF Tryd.prog G (lk []) Tryd.f17 [] w R := by kernel_rfl
theorem c17  (w : World) (R : Value → World → Prop) (h : B17  w R) : Calls Tryd.prog 17 #[] w (Rv R) := calls_of_tr (L := lk []) Tryd.func17 hG hM (by rw [B17_eq] at h; exact h)

/-- (*locution/seldir.Dir).Ones -/
def B24n  (w : World) (R : Value → World → Prop) : Prop :=
  R (.int .i64 0) w
theorem B24n_eq : @B24n = fun (w : World) (R : Value → World → Prop) => trF Tryd.prog G (lk []) Tryd.f24 [.pointer none] w R := by kernel_rfl
theorem c24n  (w : World) (R : Value → World → Prop) (h : B24n  w R) : Calls Tryd.prog 24 #[.pointer none] w (Rv R) := calls_of_tr (L := lk []) Tryd.func24 hG hM (by rw [B24n_eq] at h; exact h)

/-- (*locution/seldir.Dir).One -/
def B25n (x_1 : Int) (w : World) (R : Value → World → Prop) : Prop :=
  
    br (decide (x_1 < (0 : Int))) (R (.int .i64 (-1)) (w.alloc (.cells #[.pointer none] 35))) (∃ p1 : Option Addr, (w.alloc (.cells #[.pointer none] 35)).cell? ⟨w.heap.size, 0, none⟩ = some (.pointer p1) ∧
    Calls Tryd.prog 24 #[.pointer p1] (w.alloc (.cells #[.pointer none] 35)) (Rv fun v2 w3 => ∃ n4 : Int, v2 = .int .i64 n4 ∧
    br (decide (n4 ≤ x_1)) (R (.int .i64 (-1)) w3) (∃ p5 : Option Addr, (World.drew w3).cell? ⟨w.heap.size, 0, none⟩ = some (.pointer p5) ∧
    ∃ p6 : Option Addr, (World.drew w3).cell? ⟨w.heap.size, 0, none⟩ = some (.pointer p6) ∧ wa p6 fun a7 =>
    ∃ l8 : Slc, (World.drew w3).cell? (Addr.add a7 2) = some (.slice l8.a l8.len l8.cap) ∧
    Calls Tryd.prog 90 #[.pointer p5, .slice l8.a l8.len l8.cap, .int .i64 x_1] (World.drew w3) (Rv fun v9 w10 =>
    ∃ n11 : Int, ∃ n12 : Int, v9 = .tuple #[.int .i64 n11, .int .i64 n12] ∧
    Calls Tryd.prog 91 #[.int .i64 n11, .int .i64 n12, .int .i64 x_1, .func (.func 92) #[] #[.pointer (some ⟨w.heap.size, 0, none⟩)]] w10 (Rv fun v13 w14 =>
    ∃ n15 : Int, v13 = .int .i64 n15 ∧ ∃ p16 : Option Addr, (World.drew w14).cell? ⟨w.heap.size, 0, none⟩ = some (.pointer p16) ∧ wa p16 fun a17 =>
    ∃ l18 : Slc, (World.drew w14).cell? (Addr.add a17 0) = some (.slice l18.a l18.len l18.cap) ∧ 0 ≤ n15 ∧ n15 < (l18.len : Int) ∧ ∃ a19, l18.a = some a19 ∧
    ∃ n20 : Int, (World.drew w14).cell? (Addr.add a19 (n15.toNat * 1)) = some (.int .u64 n20) ∧
    ∃ p21 : Option Addr, (World.drew w14).cell? ⟨w.heap.size, 0, none⟩ = some (.pointer p21) ∧ wa p21 fun a22 =>
    ∃ p23 : Option Addr, (World.drew w14).cell? (Addr.add a22 1) = some (.pointer p23) ∧
    Calls Tryd.prog 89 #[.pointer p23, .int .i64 (IntKind.i64.wrap (n15 * 64))] (World.drew w14) (Rv fun v24 w25 => ∃ n26 : Int, v24 = .int .i64 n26 ∧
    w25.cell? (Addr.add a19 (n15.toNat * 1)) = some (.int .u64 n20) ∧ w25.cell? (Addr.add a17 0) = some (.slice l18.a l18.len l18.cap) ∧
    w25.cell? ⟨w.heap.size, 0, none⟩ = some (.pointer p16) ∧ Calls Tryd.prog 79 #[.int .u64 n20, .int .i64 (IntKind.i64.wrap (x_1 - n26))] w25 (Rv fun v27 w28 =>
    ∃ n29 : Int, v27 = .int .i64 n29 ∧ R (.int .i64 (IntKind.i64.wrap ((IntKind.i64.wrap (n15 * 64)) + n29))) w28)))))))
theorem B25n_eq : @B25n = fun (x_1 : Int) (w : World) (R : Value → World → Prop) => trF Tryd.prog G (lk []) Tryd.f25 [.pointer none, .int .i64 x_1] w R := by kernel_rfl
theorem c25n (x_1 : Int) (w : World) (R : Value → World → Prop) (h : B25n x_1 w R) : Calls Tryd.prog 25 #[.pointer none, .int .i64 x_1] w (Rv R) := calls_of_tr (L := lk []) Tryd.func25 hG hM (by rw [B25n_eq] at h; exact h)

/-- (*locution/seldir.Dir).Zero -/
def B26n (x_1 : Int) (w : World) (R : Value → World → Prop) : Prop :=
  ∃ p1 : Option Addr, (World.drew (w.alloc (.cells #[.pointer none] 35))).cell? ⟨w.heap.size, 0, none⟩ = some (.pointer p1) ∧
    br p1.isNone (R (.int .i64 (-1)) (World.drew (w.alloc (.cells #[.pointer none] 35)))) (br (decide (x_1 < (0 : Int))) (R (.int .i64 (-1)) (World.drew (w.alloc (.cells #[.pointer none] 35)))) (∃ p2 : Option Addr, (World.drew (w.alloc (.cells #[.pointer none] 35))).cell? ⟨w.heap.size, 0, none⟩ = some (.pointer p2) ∧
    wa p2 fun a3 => ∃ p4 : Option Addr, (World.drew (w.alloc (.cells #[.pointer none] 35))).cell? (Addr.add a3 1) = some (.pointer p4) ∧
    ∃ p5 : Option Addr, (World.drew (w.alloc (.cells #[.pointer none] 35))).cell? ⟨w.heap.size, 0, none⟩ = some (.pointer p5) ∧ wa p5 fun a6 =>
    ∃ n7 : Int, (World.drew (w.alloc (.cells #[.pointer none] 35))).cell? (Addr.add a6 4) = some (.int .i64 n7) ∧
    Calls Tryd.prog 93 #[.pointer p4, .int .i64 n7] (World.drew (w.alloc (.cells #[.pointer none] 35))) (Rv fun v8 w9 => ∃ n10 : Int, v8 = .int .i64 n10 ∧
    br (decide (n10 ≤ x_1)) (R (.int .i64 (-1)) w9) (∃ p11 : Option Addr, (World.drew w9).cell? ⟨w.heap.size, 0, none⟩ = some (.pointer p11) ∧
    ∃ p12 : Option Addr, (World.drew w9).cell? ⟨w.heap.size, 0, none⟩ = some (.pointer p12) ∧ wa p12 fun a13 =>
    ∃ l14 : Slc, (World.drew w9).cell? (Addr.add a13 3) = some (.slice l14.a l14.len l14.cap) ∧
    Calls Tryd.prog 90 #[.pointer p11, .slice l14.a l14.len l14.cap, .int .i64 x_1] (World.drew w9) (Rv fun v15 w16 =>
    ∃ n17 : Int, ∃ n18 : Int, v15 = .tuple #[.int .i64 n17, .int .i64 n18] ∧
    Calls Tryd.prog 91 #[.int .i64 n17, .int .i64 n18, .int .i64 x_1, .func (.func 94) #[] #[.pointer (some ⟨w.heap.size, 0, none⟩)]] w16 (Rv fun v19 w20 =>
    ∃ n21 : Int, v19 = .int .i64 n21 ∧ ∃ p22 : Option Addr, (World.drew w20).cell? ⟨w.heap.size, 0, none⟩ = some (.pointer p22) ∧ wa p22 fun a23 =>
    ∃ l24 : Slc, (World.drew w20).cell? (Addr.add a23 0) = some (.slice l24.a l24.len l24.cap) ∧ 0 ≤ n21 ∧ n21 < (l24.len : Int) ∧ ∃ a25, l24.a = some a25 ∧
    ∃ n26 : Int, (World.drew w20).cell? (Addr.add a25 (n21.toNat * 1)) = some (.int .u64 n26) ∧
    ∃ p27 : Option Addr, (World.drew w20).cell? ⟨w.heap.size, 0, none⟩ = some (.pointer p27) ∧ wa p27 fun a28 =>
    ∃ p29 : Option Addr, (World.drew w20).cell? (Addr.add a28 1) = some (.pointer p29) ∧
    Calls Tryd.prog 93 #[.pointer p29, .int .i64 (IntKind.i64.wrap (n21 * 64))] (World.drew w20) (Rv fun v30 w31 => ∃ n32 : Int, v30 = .int .i64 n32 ∧
    w31.cell? (Addr.add a25 (n21.toNat * 1)) = some (.int .u64 n26) ∧ w31.cell? (Addr.add a23 0) = some (.slice l24.a l24.len l24.cap) ∧
    w31.cell? ⟨w.heap.size, 0, none⟩ = some (.pointer p22) ∧
    Calls Tryd.prog 79 #[.int .u64 (bXor .u64 (if IntKind.u64.signed then -1 else IntKind.u64.max) n26), .int .i64 (IntKind.i64.wrap (x_1 - n32))] w31 (Rv fun v33 w34 =>
    ∃ n35 : Int, v33 = .int .i64 n35 ∧ R (.int .i64 (IntKind.i64.wrap ((IntKind.i64.wrap (n21 * 64)) + n35))) w34))))))))
theorem B26n_eq : @B26n = fun (x_1 : Int) (w : World) (R : Value → World → Prop) => trF Tryd.prog G (lk []) Tryd.f26 [.pointer none, .int .i64 x_1] w R := by kernel_rfl
theorem c26n (x_1 : Int) (w : World) (R : Value → World → Prop) (h : B26n x_1 w R) : Calls Tryd.prog 26 #[.pointer none, .int .i64 x_1] w (Rv R) := calls_of_tr (L := lk []) Tryd.func26 hG hM (by rw [B26n_eq] at h; exact h)

end Go.Proofs.YtomajpihimlcjaaDoor.V
