/- The verification conditions of functions, printed by a program of this work (pr.py) and checked here by the kernel. -/
import Derived.Test.YtomajpihimlcjaaDoorBL
set_option maxRecDepth 100000
set_option linter.unusedVariables false
namespace Go.Proofs.YtomajpihimlcjaaDoor.V
open Go Go.VC

/-- (*locution/bitrow.Row).Add -/
def B22 (a_0 : Addr) (x_1 : Int) (x_2 : Int) (w : World) (R : Value → World → Prop) : Prop :=
  br (decide (x_2 < (0 : Int))) (R (.int .i64 1) w) (br (decide ((64 : Int) < x_2)) (R (.int .i64 1) w) (Calls Tryd.prog 81 #[.int .u64 x_1] w (Rv fun v1 w2 =>
    ∃ n3 : Int, v1 = .int .i64 n3 ∧ br (decide (x_2 < n3)) (R (.int .i64 8) w2) (∃ n4 : Int, w2.cell? (Addr.add a_0 1) = some (.int .i64 n4) ∧ (64 : Int) ≠ 0 ∧
    ∃ n5 : Int, w2.cell? (Addr.add a_0 1) = some (.int .i64 n5) ∧ (∃ u, w2.cell? (Addr.add a_0 1) = some u) ∧ w2.frozen? (Addr.add a_0 1) = false ∧
    br (decide ((0 : Int) < (Int.tmod n4 64))) (∃ l6 : Slc, (World.drew (w2.setCell (Addr.add a_0 1) (.int .i64 (IntKind.i64.wrap (n5 + x_2))))).cell? (Addr.add a_0 0) = some (.slice l6.a l6.len l6.cap) ∧
    ∃ l7 : Slc, (World.drew (w2.setCell (Addr.add a_0 1) (.int .i64 (IntKind.i64.wrap (n5 + x_2))))).cell? (Addr.add a_0 0) = some (.slice l7.a l7.len l7.cap) ∧
    0 ≤ (IntKind.i64.wrap ((l7.len : Int) - 1)) ∧ (IntKind.i64.wrap ((l7.len : Int) - 1)) < (l6.len : Int) ∧ ∃ a8, l6.a = some a8 ∧
    ∃ n9 : Int, (World.drew (w2.setCell (Addr.add a_0 1) (.int .i64 (IntKind.i64.wrap (n5 + x_2))))).cell? (Addr.add a8 ((IntKind.i64.wrap ((l7.len : Int) - 1)).toNat * 1)) = some (.int .u64 n9) ∧
    0 ≤ (IntKind.u64.wrap (Int.tmod n4 64)) ∧ 0 ≤ (IntKind.i64.wrap ((l7.len : Int) - 1)) ∧ (IntKind.i64.wrap ((l7.len : Int) - 1)) < (l6.len : Int) ∧
    ∃ a10, l6.a = some a10 ∧
    (∃ u, (World.drew (w2.setCell (Addr.add a_0 1) (.int .i64 (IntKind.i64.wrap (n5 + x_2))))).cell? (Addr.add a10 ((IntKind.i64.wrap ((l7.len : Int) - 1)).toNat * 1)) = some u) ∧
    (World.drew (w2.setCell (Addr.add a_0 1) (.int .i64 (IntKind.i64.wrap (n5 + x_2))))).frozen? (Addr.add a10 ((IntKind.i64.wrap ((l7.len : Int) - 1)).toNat * 1)) = false ∧
    ∃ (I11 : World → Prop) (μ12 : World →
    Nat), I11 ((World.drew (w2.setCell (Addr.add a_0 1) (.int .i64 (IntKind.i64.wrap (n5 + x_2))))).setCell (Addr.add a10 ((IntKind.i64.wrap ((l7.len : Int) - 1)).toNat * 1)) (.int .u64 (bOr .u64 n9 (shL .u64 x_1 (IntKind.u64.wrap (Int.tmod n4 64)))))) ∧
    ∀ w13 : World, I11 w13 → ∃ l14 : Slc, (World.drew w13).cell? (Addr.add a_0 0) = some (.slice l14.a l14.len l14.cap) ∧
    ∃ n15 : Int, (World.drew w13).cell? (Addr.add a_0 1) = some (.int .i64 n15) ∧ Calls Tryd.prog 86 #[.int .i64 n15] (World.drew w13) (Rv fun v16 w17 =>
    ∃ n18 : Int, v16 = .int .i64 n18 ∧ w17.cell? (Addr.add a_0 0) = some (.slice l14.a l14.len l14.cap) ∧
    br (decide ((l14.len : Int) < n18)) (br (decide ((0 : Int) < (Int.tmod n4 64))) (∃ l19 : Slc, w17.cell? (Addr.add a_0 0) = some (.slice l19.a l19.len l19.cap) ∧
    0 ≤ (IntKind.u64.wrap (IntKind.i64.wrap (64 - (Int.tmod n4 64)))) ∧
    ∃ w20 : World, ∃ l21 : Slc, (Builtin.append_ #[29, 29] 29 #[.slice l19.a l19.len l19.cap, .slice (some ⟨w17.heap.size, 0, none⟩) 1 1]).run Tryd.prog (w17.alloc (.cells #[.int .u64 (shR .u64 x_1 (IntKind.u64.wrap (IntKind.i64.wrap (64 - (Int.tmod n4 64)))))] 22)) = .ok (.slice l21.a l21.len l21.cap) w20 ∧
    (∃ u, w20.cell? (Addr.add a_0 0) = some u) ∧ w20.frozen? (Addr.add a_0 0) = false ∧ I11 (w20.setCell (Addr.add a_0 0) (.slice l21.a l21.len l21.cap)) ∧
    μ12 (w20.setCell (Addr.add a_0 0) (.slice l21.a l21.len l21.cap)) < μ12 w13) (∃ l22 : Slc, w17.cell? (Addr.add a_0 0) = some (.slice l22.a l22.len l22.cap) ∧
    ∃ w23 : World, ∃ l24 : Slc, (Builtin.append_ #[29, 29] 29 #[.slice l22.a l22.len l22.cap, .slice (some ⟨w17.heap.size, 0, none⟩) 1 1]).run Tryd.prog (w17.alloc (.cells #[.int .u64 x_1] 22)) = .ok (.slice l24.a l24.len l24.cap) w23 ∧
    (∃ u, w23.cell? (Addr.add a_0 0) = some u) ∧ w23.frozen? (Addr.add a_0 0) = false ∧ I11 (w23.setCell (Addr.add a_0 0) (.slice l24.a l24.len l24.cap)) ∧
    μ12 (w23.setCell (Addr.add a_0 0) (.slice l24.a l24.len l24.cap)) < μ12 w13)) (R (.int .i64 0) w17))) (∃ (I25 : World → Prop) (μ26 : World →
    Nat), I25 (w2.setCell (Addr.add a_0 1) (.int .i64 (IntKind.i64.wrap (n5 + x_2)))) ∧ ∀ w27 : World, I25 w27 →
    ∃ l28 : Slc, (World.drew w27).cell? (Addr.add a_0 0) = some (.slice l28.a l28.len l28.cap) ∧
    ∃ n29 : Int, (World.drew w27).cell? (Addr.add a_0 1) = some (.int .i64 n29) ∧ Calls Tryd.prog 86 #[.int .i64 n29] (World.drew w27) (Rv fun v30 w31 =>
    ∃ n32 : Int, v30 = .int .i64 n32 ∧ w31.cell? (Addr.add a_0 0) = some (.slice l28.a l28.len l28.cap) ∧
    br (decide ((l28.len : Int) < n32)) (br (decide ((0 : Int) < (Int.tmod n4 64))) (∃ l33 : Slc, w31.cell? (Addr.add a_0 0) = some (.slice l33.a l33.len l33.cap) ∧
    0 ≤ (IntKind.u64.wrap (IntKind.i64.wrap (64 - (Int.tmod n4 64)))) ∧
    ∃ w34 : World, ∃ l35 : Slc, (Builtin.append_ #[29, 29] 29 #[.slice l33.a l33.len l33.cap, .slice (some ⟨w31.heap.size, 0, none⟩) 1 1]).run Tryd.prog (w31.alloc (.cells #[.int .u64 (shR .u64 x_1 (IntKind.u64.wrap (IntKind.i64.wrap (64 - (Int.tmod n4 64)))))] 22)) = .ok (.slice l35.a l35.len l35.cap) w34 ∧
    (∃ u, w34.cell? (Addr.add a_0 0) = some u) ∧ w34.frozen? (Addr.add a_0 0) = false ∧ I25 (w34.setCell (Addr.add a_0 0) (.slice l35.a l35.len l35.cap)) ∧
    μ26 (w34.setCell (Addr.add a_0 0) (.slice l35.a l35.len l35.cap)) < μ26 w27) (∃ l36 : Slc, w31.cell? (Addr.add a_0 0) = some (.slice l36.a l36.len l36.cap) ∧
    ∃ w37 : World, ∃ l38 : Slc, (Builtin.append_ #[29, 29] 29 #[.slice l36.a l36.len l36.cap, .slice (some ⟨w31.heap.size, 0, none⟩) 1 1]).run Tryd.prog (w31.alloc (.cells #[.int .u64 x_1] 22)) = .ok (.slice l38.a l38.len l38.cap) w37 ∧
    (∃ u, w37.cell? (Addr.add a_0 0) = some u) ∧ w37.frozen? (Addr.add a_0 0) = false ∧ I25 (w37.setCell (Addr.add a_0 0) (.slice l38.a l38.len l38.cap)) ∧
    μ26 (w37.setCell (Addr.add a_0 0) (.slice l38.a l38.len l38.cap)) < μ26 w27)) (R (.int .i64 0) w31)))))))
theorem B22_eq : @B22 = fun (a_0 : Addr) (x_1 : Int) (x_2 : Int) (w : World) (R : Value → World → Prop) => trF Tryd.prog G (lk [(11, [])]) Tryd.f22 [.pointer (some a_0), .int .u64 x_1, .int .i64 x_2] w R := by kernel_rfl
theorem c22 (a_0 : Addr) (x_1 : Int) (x_2 : Int) (w : World) (R : Value → World → Prop) (h : B22 a_0 x_1 x_2 w R) : Calls Tryd.prog 22 #[.pointer (some a_0), .int .u64 x_1, .int .i64 x_2] w (Rv R) := calls_of_tr (L := lk [(11, [])]) Tryd.func22 hG hM (by rw [B22_eq] at h; exact h)

/-- locution/bitrow.Same -/
def B52 (a_0 : Addr) (a_1 : Addr) (w : World) (R : Value → World → Prop) : Prop :=
  Calls Tryd.prog 54 #[.pointer (some a_0)] w (Rv fun v1 w2 => ∃ n3 : Int, v1 = .int .i64 n3 ∧ Calls Tryd.prog 54 #[.pointer (some a_1)] w2 (Rv fun v4 w5 =>
    ∃ n6 : Int, v4 = .int .i64 n6 ∧ br (!(decide (n3 = n6))) (Calls Tryd.prog 54 #[.pointer (some a_0)] w5 (Rv fun v7 w8 => ∃ n9 : Int, v7 = .int .i64 n9 ∧
    Calls Tryd.prog 54 #[.pointer (some a_1)] w8 (Rv fun v10 w11 => ∃ n12 : Int, v10 = .int .i64 n12 ∧
    R (.bool (decide (n9 = n12))) w11))) (Calls Tryd.prog 54 #[.pointer (some a_0)] w5 (Rv fun v13 w14 => ∃ n15 : Int, v13 = .int .i64 n15 ∧
    br (decide (n15 = (0 : Int))) (Calls Tryd.prog 54 #[.pointer (some a_0)] w14 (Rv fun v16 w17 => ∃ n18 : Int, v16 = .int .i64 n18 ∧
    Calls Tryd.prog 54 #[.pointer (some a_1)] w17 (Rv fun v19 w20 => ∃ n21 : Int, v19 = .int .i64 n21 ∧
    R (.bool (decide (n18 = n21))) w20))) (∃ l22 : Slc, (World.drew w14).cell? (Addr.add a_0 0) = some (.slice l22.a l22.len l22.cap) ∧
    ∃ l23 : Slc, (World.drew w14).cell? (Addr.add a_1 0) = some (.slice l23.a l23.len l23.cap) ∧
    Calls Tryd.prog 122 #[.slice l22.a l22.len l22.cap, .slice l23.a l23.len l23.cap] (World.drew w14) (Rv fun v24 w25 => ∃ b26 : Bool, v24 = .bool b26 ∧
    R (.bool b26) w25))))))
theorem B52_eq : @B52 = fun (a_0 : Addr) (a_1 : Addr) (w : World) (R : Value → World → Prop) => trF Tryd.prog G (lk []) Tryd.f52 [.pointer (some a_0), .pointer (some a_1)] w R := by kernel_rfl
theorem c52 (a_0 : Addr) (a_1 : Addr) (w : World) (R : Value → World → Prop) (h : B52 a_0 a_1 w R) : Calls Tryd.prog 52 #[.pointer (some a_0), .pointer (some a_1)] w (Rv R) := calls_of_tr (L := lk []) Tryd.func52 hG hM (by rw [B52_eq] at h; exact h)

/-- (*locution/bitrow.Row).Len -/
def B54 (a_0 : Addr) (w : World) (R : Value → World → Prop) : Prop :=
  ∃ n1 : Int, w.cell? (Addr.add a_0 1) = some (.int .i64 n1) ∧ R (.int .i64 n1) w
theorem B54_eq : @B54 = fun (a_0 : Addr) (w : World) (R : Value → World → Prop) => trF Tryd.prog G (lk []) Tryd.f54 [.pointer (some a_0)] w R := by kernel_rfl
theorem c54 (a_0 : Addr) (w : World) (R : Value → World → Prop) (h : B54 a_0 w R) : Calls Tryd.prog 54 #[.pointer (some a_0)] w (Rv R) := calls_of_tr (L := lk []) Tryd.func54 hG hM (by rw [B54_eq] at h; exact h)

/-- (*locution/bitrow.Row).Words -/
def B56 (a_0 : Addr) (w : World) (R : Value → World → Prop) : Prop :=
  ∃ l1 : Slc, w.cell? (Addr.add a_0 0) = some (.slice l1.a l1.len l1.cap) ∧ Calls Tryd.prog 124 #[.slice l1.a l1.len l1.cap] w (Rv fun v2 w3 =>
    ∃ l4 : Slc, v2 = .slice l4.a l4.len l4.cap ∧ R (.slice l4.a l4.len l4.cap) w3)
theorem B56_eq : @B56 = fun (a_0 : Addr) (w : World) (R : Value → World → Prop) => trF Tryd.prog G (lk []) Tryd.f56 [.pointer (some a_0)] w R := by kernel_rfl
theorem c56 (a_0 : Addr) (w : World) (R : Value → World → Prop) (h : B56 a_0 w R) : Calls Tryd.prog 56 #[.pointer (some a_0)] w (Rv R) := calls_of_tr (L := lk []) Tryd.func56 hG hM (by rw [B56_eq] at h; exact h)

/-- locution/bitrow.New -/
def B82  (w : World) (R : Value → World → Prop) : Prop :=
  R (.pointer (some ⟨w.heap.size, 0, none⟩)) (w.alloc (.cells #[.slice none 0 0, .int .i64 0] 111))
theorem B82_eq : @B82 = fun (w : World) (R : Value → World → Prop) => trF Tryd.prog G (lk []) Tryd.f82 [] w R := by kernel_rfl
theorem c82  (w : World) (R : Value → World → Prop) (h : B82  w R) : Calls Tryd.prog 82 #[] w (Rv R) := calls_of_tr (L := lk []) Tryd.func82 hG hM (by rw [B82_eq] at h; exact h)

/-- locution/bitrow.need -/
def B86 (x_0 : Int) (w : World) (R : Value → World → Prop) : Prop :=
  (64 : Int) ≠ 0 ∧ (64 : Int) ≠ 0 ∧ R (.int .i64 (IntKind.i64.wrap ((IntKind.i64.wrap (Int.tdiv x_0 64)) + (min (Int.tmod x_0 64) (1 : Int))))) w
theorem B86_eq : @B86 = fun (x_0 : Int) (w : World) (R : Value → World → Prop) => trF Tryd.prog G (lk []) Tryd.f86 [.int .i64 x_0] w R := by kernel_rfl
theorem c86 (x_0 : Int) (w : World) (R : Value → World → Prop) (h : B86 x_0 w R) : Calls Tryd.prog 86 #[.int .i64 x_0] w (Rv R) := calls_of_tr (L := lk []) Tryd.func86 hG hM (by rw [B86_eq] at h; exact h)

/-- (*locution/bitrow.Row).Cut -/
def B118 (a_0 : Addr) (x_1 : Int) (x_2 : Int) (w : World) (R : Value → World → Prop) : Prop :=
  br (decide (x_2 < (1 : Int))) (R (.int .u64 0) w) (∃ n1 : Int, w.cell? (Addr.add a_0 1) = some (.int .i64 n1) ∧
    br (decide (n1 ≤ x_1)) (R (.int .u64 0) w) (br (decide (x_1 ≤ (-64))) (R (.int .u64 0) w) (br (decide (x_1 < (0 : Int))) (Calls Tryd.prog 144 #[.pointer (some a_0), .int .i64 0] w (Rv fun v2 w3 =>
    ∃ n4 : Int, v2 = .int .u64 n4 ∧ 0 ≤ (IntKind.u64.wrap (IntKind.i64.wrap (0 - x_1))) ∧ Calls Tryd.prog 88 #[.int .i64 (min x_2 (64 : Int))] w3 (Rv fun v5 w6 =>
    ∃ n7 : Int, v5 = .int .u64 n7 ∧ R (.int .u64 (bAnd .u64 (shL .u64 n4 (IntKind.u64.wrap (IntKind.i64.wrap (0 - x_1)))) n7)) w6))) ((64 : Int) ≠ 0 ∧
    (64 : Int) ≠ 0 ∧ Calls Tryd.prog 144 #[.pointer (some a_0), .int .i64 (IntKind.i64.wrap (Int.tdiv x_1 64))] w (Rv fun v8 w9 => ∃ n10 : Int, v8 = .int .u64 n10 ∧
    0 ≤ (IntKind.u64.wrap (Int.tmod x_1 64)) ∧
    br (decide ((0 : Int) < (Int.tmod x_1 64))) (Calls Tryd.prog 144 #[.pointer (some a_0), .int .i64 (IntKind.i64.wrap ((IntKind.i64.wrap (Int.tdiv x_1 64)) + 1))] w9 (Rv fun v11 w12 =>
    ∃ n13 : Int, v11 = .int .u64 n13 ∧ 0 ≤ (IntKind.u64.wrap (IntKind.i64.wrap (64 - (Int.tmod x_1 64)))) ∧
    Calls Tryd.prog 88 #[.int .i64 (min x_2 (64 : Int))] w12 (Rv fun v14 w15 => ∃ n16 : Int, v14 = .int .u64 n16 ∧
    R (.int .u64 (bAnd .u64 (bOr .u64 (shR .u64 n10 (IntKind.u64.wrap (Int.tmod x_1 64))) (shL .u64 n13 (IntKind.u64.wrap (IntKind.i64.wrap (64 - (Int.tmod x_1 64)))))) n16)) w15))) (Calls Tryd.prog 88 #[.int .i64 (min x_2 (64 : Int))] w9 (Rv fun v17 w18 =>
    ∃ n19 : Int, v17 = .int .u64 n19 ∧ R (.int .u64 (bAnd .u64 (shR .u64 n10 (IntKind.u64.wrap (Int.tmod x_1 64))) n19)) w18)))))))
theorem B118_eq : @B118 = fun (a_0 : Addr) (x_1 : Int) (x_2 : Int) (w : World) (R : Value → World → Prop) => trF Tryd.prog G (lk []) Tryd.f118 [.pointer (some a_0), .int .i64 x_1, .int .i64 x_2] w R := by kernel_rfl
theorem c118 (a_0 : Addr) (x_1 : Int) (x_2 : Int) (w : World) (R : Value → World → Prop) (h : B118 a_0 x_1 x_2 w R) : Calls Tryd.prog 118 #[.pointer (some a_0), .int .i64 x_1, .int .i64 x_2] w (Rv R) := calls_of_tr (L := lk []) Tryd.func118 hG hM (by rw [B118_eq] at h; exact h)

/-- locution/bitrow.Of -/
def B125 (x_0 : Slc) (x_1 : Int) (w : World) (R : Value → World → Prop) : Prop :=
  br (decide (x_1 < (0 : Int))) (R (.tuple #[.pointer none, .int .i64 1]) w) (Calls Tryd.prog 86 #[.int .i64 x_1] w (Rv fun v1 w2 => ∃ n3 : Int, v1 = .int .i64 n3 ∧
    br (!(decide (n3 = (x_0.len : Int)))) (R (.tuple #[.pointer none, .int .i64 1]) w2) ((64 : Int) ≠ 0 ∧
    br (!(decide ((Int.tmod x_1 64) = (0 : Int)))) (0 ≤ (IntKind.i64.wrap ((x_0.len : Int) - 1)) ∧ (IntKind.i64.wrap ((x_0.len : Int) - 1)) < (x_0.len : Int) ∧
    ∃ a4, x_0.a = some a4 ∧ ∃ n5 : Int, w2.cell? (Addr.add a4 ((IntKind.i64.wrap ((x_0.len : Int) - 1)).toNat * 1)) = some (.int .u64 n5) ∧ (64 : Int) ≠ 0 ∧
    0 ≤ (IntKind.u64.wrap (Int.tmod x_1 64)) ∧
    br (!(decide ((shR .u64 n5 (IntKind.u64.wrap (Int.tmod x_1 64))) = (0 : Int)))) (R (.tuple #[.pointer none, .int .i64 3]) w2) (Calls Tryd.prog 124 #[.slice x_0.a x_0.len x_0.cap] w2 (Rv fun v6 w7 =>
    ∃ l8 : Slc, v6 = .slice l8.a l8.len l8.cap ∧
    R (.tuple #[.pointer (some ⟨w7.heap.size, 0, none⟩), .int .i64 0]) (w7.alloc (.cells #[.slice l8.a l8.len l8.cap, .int .i64 x_1] 111))))) (Calls Tryd.prog 124 #[.slice x_0.a x_0.len x_0.cap] w2 (Rv fun v9 w10 =>
    ∃ l11 : Slc, v9 = .slice l11.a l11.len l11.cap ∧
    R (.tuple #[.pointer (some ⟨w10.heap.size, 0, none⟩), .int .i64 0]) (w10.alloc (.cells #[.slice l11.a l11.len l11.cap, .int .i64 x_1] 111)))))))
theorem B125_eq : @B125 = fun (x_0 : Slc) (x_1 : Int) (w : World) (R : Value → World → Prop) => trF Tryd.prog G (lk []) Tryd.f125 [.slice x_0.a x_0.len x_0.cap, .int .i64 x_1] w R := by kernel_rfl
theorem c125 (x_0 : Slc) (x_1 : Int) (w : World) (R : Value → World → Prop) (h : B125 x_0 x_1 w R) : Calls Tryd.prog 125 #[.slice x_0.a x_0.len x_0.cap, .int .i64 x_1] w (Rv R) := calls_of_tr (L := lk []) Tryd.func125 hG hM (by rw [B125_eq] at h; exact h)

/-- (*locution/bitrow.Row).Bit -/
def B142 (a_0 : Addr) (x_1 : Int) (w : World) (R : Value → World → Prop) : Prop :=
  br (decide (x_1 < (0 : Int))) (R (.bool false) w) (∃ n1 : Int, w.cell? (Addr.add a_0 1) = some (.int .i64 n1) ∧
    br (decide (n1 ≤ x_1)) (R (.bool false) w) (∃ l2 : Slc, w.cell? (Addr.add a_0 0) = some (.slice l2.a l2.len l2.cap) ∧ (64 : Int) ≠ 0 ∧
    0 ≤ (IntKind.i64.wrap (Int.tdiv x_1 64)) ∧ (IntKind.i64.wrap (Int.tdiv x_1 64)) < (l2.len : Int) ∧ ∃ a3, l2.a = some a3 ∧
    ∃ n4 : Int, w.cell? (Addr.add a3 ((IntKind.i64.wrap (Int.tdiv x_1 64)).toNat * 1)) = some (.int .u64 n4) ∧ (64 : Int) ≠ 0 ∧
    0 ≤ (IntKind.u64.wrap (Int.tmod x_1 64)) ∧ R (.bool (decide ((bAnd .u64 (shR .u64 n4 (IntKind.u64.wrap (Int.tmod x_1 64))) 1) = (1 : Int)))) w))
theorem B142_eq : @B142 = fun (a_0 : Addr) (x_1 : Int) (w : World) (R : Value → World → Prop) => trF Tryd.prog G (lk []) Tryd.f142 [.pointer (some a_0), .int .i64 x_1] w R := by kernel_rfl
theorem c142 (a_0 : Addr) (x_1 : Int) (w : World) (R : Value → World → Prop) (h : B142 a_0 x_1 w R) : Calls Tryd.prog 142 #[.pointer (some a_0), .int .i64 x_1] w (Rv R) := calls_of_tr (L := lk []) Tryd.func142 hG hM (by rw [B142_eq] at h; exact h)

/-- (*locution/bitrow.Row).word -/
def B144 (a_0 : Addr) (x_1 : Int) (w : World) (R : Value → World → Prop) : Prop :=
  br (decide (x_1 < (0 : Int))) (R (.int .u64 0) w) (∃ l1 : Slc, w.cell? (Addr.add a_0 0) = some (.slice l1.a l1.len l1.cap) ∧
    br (decide ((l1.len : Int) ≤ x_1)) (R (.int .u64 0) w) (∃ l2 : Slc, w.cell? (Addr.add a_0 0) = some (.slice l2.a l2.len l2.cap) ∧ 0 ≤ x_1 ∧
    x_1 < (l2.len : Int) ∧ ∃ a3, l2.a = some a3 ∧ ∃ n4 : Int, w.cell? (Addr.add a3 (x_1.toNat * 1)) = some (.int .u64 n4) ∧ R (.int .u64 n4) w))
theorem B144_eq : @B144 = fun (a_0 : Addr) (x_1 : Int) (w : World) (R : Value → World → Prop) => trF Tryd.prog G (lk []) Tryd.f144 [.pointer (some a_0), .int .i64 x_1] w R := by kernel_rfl
theorem c144 (a_0 : Addr) (x_1 : Int) (w : World) (R : Value → World → Prop) (h : B144 a_0 x_1 w R) : Calls Tryd.prog 144 #[.pointer (some a_0), .int .i64 x_1] w (Rv R) := calls_of_tr (L := lk []) Tryd.func144 hG hM (by rw [B144_eq] at h; exact h)

/-- locution/locutionref02.Same -/
def B55 (x_0 : Slc) (x_1 : Slc) (w : World) (R : Value → World → Prop) : Prop :=
  br (!(decide ((x_0.len : Int) = (x_1.len : Int)))) (R (.bool false) w) (∃ (I1 : Int → World → Prop) (μ2 : Int → World → Nat), I1 (0 : Int) w ∧
    ∀ x3 : Int, ∀ w4 : World, I1 x3 w4 → br (decide (x3 < (x_0.len : Int))) (0 ≤ x3 ∧ x3 < (x_0.len : Int) ∧ ∃ a5, x_0.a = some a5 ∧
    ∃ n6 : Int, (World.drew w4).cell? (Addr.add a5 (x3.toNat * 1)) = some (.int .u64 n6) ∧ 0 ≤ x3 ∧ x3 < (x_1.len : Int) ∧ ∃ a7, x_1.a = some a7 ∧
    ∃ n8 : Int, (World.drew w4).cell? (Addr.add a7 (x3.toNat * 1)) = some (.int .u64 n8) ∧
    br (!(decide (n6 = n8))) (R (.bool false) (World.drew w4)) (I1 (IntKind.i64.wrap (x3 + 1)) (World.drew w4) ∧
    μ2 (IntKind.i64.wrap (x3 + 1)) (World.drew w4) < μ2 x3 w4)) (R (.bool true) w4))
theorem B55_eq : @B55 = fun (x_0 : Slc) (x_1 : Slc) (w : World) (R : Value → World → Prop) => trF Tryd.prog G (lk [(4, [(5, .int .i64)])]) Tryd.f55 [.slice x_0.a x_0.len x_0.cap, .slice x_1.a x_1.len x_1.cap] w R := by kernel_rfl
theorem c55 (x_0 : Slc) (x_1 : Slc) (w : World) (R : Value → World → Prop) (h : B55 x_0 x_1 w R) : Calls Tryd.prog 55 #[.slice x_0.a x_0.len x_0.cap, .slice x_1.a x_1.len x_1.cap] w (Rv R) := calls_of_tr (L := lk [(4, [(5, .int .i64)])]) Tryd.func55 hG hM (by rw [B55_eq] at h; exact h)

/-- locution/locutionref02.Words -/
def B57 (x_0 : Slc) (w : World) (R : Value → World → Prop) : Prop :=
  ∃ (I1 : Slc → Int → World → Prop) (μ2 : Slc → Int → World → Nat), I1 ⟨none, 0, 0⟩ (0 : Int) w ∧ ∀ x3 : Slc, ∀ x4 : Int, ∀ w5 : World, I1 x3 x4 w5 →
    br (decide (x4 < (x_0.len : Int))) (Calls Tryd.prog 121 #[.slice x_0.a x_0.len x_0.cap, .int .i64 x4, .int .i64 64] w5 (Rv fun v6 w7 =>
    ∃ n8 : Int, v6 = .int .u64 n8 ∧
    ∃ w9 : World, ∃ l10 : Slc, (Builtin.append_ #[29, 29] 29 #[.slice x3.a x3.len x3.cap, .slice (some ⟨w7.heap.size, 0, none⟩) 1 1]).run Tryd.prog (w7.alloc (.cells #[.int .u64 n8] 22)) = .ok (.slice l10.a l10.len l10.cap) w9 ∧
    I1 l10 (IntKind.i64.wrap (x4 + 64)) w9 ∧ μ2 l10 (IntKind.i64.wrap (x4 + 64)) w9 < μ2 x3 x4 w5)) (R (.slice x3.a x3.len x3.cap) w5)
theorem B57_eq : @B57 = fun (x_0 : Slc) (w : World) (R : Value → World → Prop) => trF Tryd.prog G (lk [(3, [(3, .slc), (4, .int .i64)])]) Tryd.f57 [.slice x_0.a x_0.len x_0.cap] w R := by kernel_rfl
theorem c57 (x_0 : Slc) (w : World) (R : Value → World → Prop) (h : B57 x_0 w R) : Calls Tryd.prog 57 #[.slice x_0.a x_0.len x_0.cap] w (Rv R) := calls_of_tr (L := lk [(3, [(3, .slc), (4, .int .i64)])]) Tryd.func57 hG hM (by rw [B57_eq] at h; exact h)

/-- locution/locutionref02.May -/
def B116 (x_0 : Int) (x_1 : Int) (w : World) (R : Value → World → Prop) : Prop :=
  br (decide ((0 : Int) ≤ x_1)) (br (decide (x_1 ≤ (64 : Int))) (Calls Tryd.prog 128 #[.int .u64 x_0] w (Rv fun v1 w2 => ∃ n3 : Int, v1 = .int .i64 n3 ∧
    R (.bool (decide (n3 ≤ x_1))) w2)) (R (.bool false) w)) (R (.bool false) w)
theorem B116_eq : @B116 = fun (x_0 : Int) (x_1 : Int) (w : World) (R : Value → World → Prop) => trF Tryd.prog G (lk []) Tryd.f116 [.int .u64 x_0, .int .i64 x_1] w R := by kernel_rfl
theorem c116 (x_0 : Int) (x_1 : Int) (w : World) (R : Value → World → Prop) (h : B116 x_0 x_1 w R) : Calls Tryd.prog 116 #[.int .u64 x_0, .int .i64 x_1] w (Rv R) := calls_of_tr (L := lk []) Tryd.func116 hG hM (by rw [B116_eq] at h; exact h)

/-- locution/locutionref02.Add -/
def B117 (x_0 : Slc) (x_1 : Int) (x_2 : Int) (w : World) (R : Value → World → Prop) : Prop :=
  
    ∃ w1 : World, ∃ l2 : Slc, (Builtin.append_ #[39, 39] 39 #[.slice (some ⟨w.heap.size, 0, none⟩) 0 0, .slice x_0.a x_0.len x_0.cap]).run Tryd.prog (w.alloc (.cells #[] 4)) = .ok (.slice l2.a l2.len l2.cap) w1 ∧
    ∃ (I3 : Slc → Int → World → Prop) (μ4 : Slc → Int → World → Nat), I3 l2 (0 : Int) w1 ∧ ∀ x5 : Slc, ∀ x6 : Int, ∀ w7 : World, I3 x5 x6 w7 →
    br (decide (x6 < x_2)) (Calls Tryd.prog 76 #[.int .u64 x_1, .int .i64 x6] w7 (Rv fun v8 w9 => ∃ b10 : Bool, v8 = .bool b10 ∧
    ∃ w11 : World, ∃ l12 : Slc, (Builtin.append_ #[39, 39] 39 #[.slice x5.a x5.len x5.cap, .slice (some ⟨w9.heap.size, 0, none⟩) 1 1]).run Tryd.prog (w9.alloc (.cells #[.bool b10] 4)) = .ok (.slice l12.a l12.len l12.cap) w11 ∧
    I3 l12 (IntKind.i64.wrap (x6 + 1)) w11 ∧ μ4 l12 (IntKind.i64.wrap (x6 + 1)) w11 < μ4 x5 x6 w7)) (R (.slice x5.a x5.len x5.cap) w7)
theorem B117_eq : @B117 = fun (x_0 : Slc) (x_1 : Int) (x_2 : Int) (w : World) (R : Value → World → Prop) => trF Tryd.prog G (lk [(3, [(7, .slc), (8, .int .i64)])]) Tryd.f117 [.slice x_0.a x_0.len x_0.cap, .int .u64 x_1, .int .i64 x_2] w R := by kernel_rfl
theorem c117 (x_0 : Slc) (x_1 : Int) (x_2 : Int) (w : World) (R : Value → World → Prop) (h : B117 x_0 x_1 x_2 w R) : Calls Tryd.prog 117 #[.slice x_0.a x_0.len x_0.cap, .int .u64 x_1, .int .i64 x_2] w (Rv R) := calls_of_tr (L := lk [(3, [(7, .slc), (8, .int .i64)])]) Tryd.func117 hG hM (by rw [B117_eq] at h; exact h)

/-- locution/locutionref02.Cut -/
def B121 (x_0 : Slc) (x_1 : Int) (x_2 : Int) (w : World) (R : Value → World → Prop) : Prop :=
  ∃ (I1 : Int → Int → Int → World → Prop) (μ2 : Int → Int → Int → World → Nat), I1 (0 : Int) (1 : Int) (0 : Int) w ∧
    ∀ x3 : Int, ∀ x4 : Int, ∀ x5 : Int, ∀ w6 : World, I1 x3 x4 x5 w6 →
    br (decide (x5 < (64 : Int))) (br (decide (x5 < x_2)) (br (decide ((-63) ≤ x_1)) (br (decide (x_1 < (x_0.len : Int))) (Calls Tryd.prog 146 #[.slice x_0.a x_0.len x_0.cap, .int .i64 (IntKind.i64.wrap (x_1 + x5))] w6 (Rv fun v7 w8 =>
    ∃ b9 : Bool, v7 = .bool b9 ∧ br b9 (I1 (IntKind.u64.wrap (x3 + x4)) (IntKind.u64.wrap (x4 * 2)) (IntKind.i64.wrap (x5 + 1)) w8 ∧
    μ2 (IntKind.u64.wrap (x3 + x4)) (IntKind.u64.wrap (x4 * 2)) (IntKind.i64.wrap (x5 + 1)) w8 < μ2 x3 x4 x5 w6) (I1 x3 (IntKind.u64.wrap (x4 * 2)) (IntKind.i64.wrap (x5 + 1)) w8 ∧
    μ2 x3 (IntKind.u64.wrap (x4 * 2)) (IntKind.i64.wrap (x5 + 1)) w8 < μ2 x3 x4 x5 w6))) (I1 x3 (IntKind.u64.wrap (x4 * 2)) (IntKind.i64.wrap (x5 + 1)) w6 ∧
    μ2 x3 (IntKind.u64.wrap (x4 * 2)) (IntKind.i64.wrap (x5 + 1)) w6 < μ2 x3 x4 x5 w6)) (I1 x3 (IntKind.u64.wrap (x4 * 2)) (IntKind.i64.wrap (x5 + 1)) w6 ∧
    μ2 x3 (IntKind.u64.wrap (x4 * 2)) (IntKind.i64.wrap (x5 + 1)) w6 < μ2 x3 x4 x5 w6)) (R (.int .u64 x3) w6)) (R (.int .u64 x3) w6)
theorem B121_eq : @B121 = fun (x_0 : Slc) (x_1 : Int) (x_2 : Int) (w : World) (R : Value → World → Prop) => trF Tryd.prog G (lk [(4, [(7, .int .u64), (8, .int .u64), (9, .int .i64)])]) Tryd.f121 [.slice x_0.a x_0.len x_0.cap, .int .i64 x_1, .int .i64 x_2] w R := by kernel_rfl
theorem c121 (x_0 : Slc) (x_1 : Int) (x_2 : Int) (w : World) (R : Value → World → Prop) (h : B121 x_0 x_1 x_2 w R) : Calls Tryd.prog 121 #[.slice x_0.a x_0.len x_0.cap, .int .i64 x_1, .int .i64 x_2] w (Rv R) := calls_of_tr (L := lk [(4, [(7, .int .u64), (8, .int .u64), (9, .int .i64)])]) Tryd.func121 hG hM (by rw [B121_eq] at h; exact h)

/-- locution/locutionref02.Bit -/
def B146 (x_0 : Slc) (x_1 : Int) (w : World) (R : Value → World → Prop) : Prop :=
  br (decide ((0 : Int) ≤ x_1)) (br (decide (x_1 < (x_0.len : Int))) (0 ≤ x_1 ∧ x_1 < (x_0.len : Int) ∧ ∃ a1, x_0.a = some a1 ∧
    ∃ b2 : Bool, w.cell? (Addr.add a1 (x_1.toNat * 1)) = some (.bool b2) ∧ R (.bool b2) w) (R (.bool false) w)) (R (.bool false) w)
theorem B146_eq : @B146 = fun (x_0 : Slc) (x_1 : Int) (w : World) (R : Value → World → Prop) => trF Tryd.prog G (lk []) Tryd.f146 [.slice x_0.a x_0.len x_0.cap, .int .i64 x_1] w R := by kernel_rfl
theorem c146 (x_0 : Slc) (x_1 : Int) (w : World) (R : Value → World → Prop) (h : B146 x_0 x_1 w R) : Calls Tryd.prog 146 #[.slice x_0.a x_0.len x_0.cap, .int .i64 x_1] w (Rv R) := calls_of_tr (L := lk []) Tryd.func146 hG hM (by rw [B146_eq] at h; exact h)

/-- locution/locutionlaw02.Built -/
def B48 (x_0 : Slc) (w : World) (R : Value → World → Prop) : Prop :=
  Calls Tryd.prog 82 #[] w (Rv fun v1 w2 => ∃ p3 : Option Addr, v1 = .pointer p3 ∧ ∃ (I4 : Slc → Int → World → Prop) (μ5 : Slc → Int → World →
    Nat), I4 ⟨none, 0, 0⟩ (0 : Int) w2 ∧ ∀ x6 : Slc, ∀ x7 : Int, ∀ w8 : World, I4 x6 x7 w8 → br (decide (x7 < (x_0.len : Int))) (0 ≤ x7 ∧ x7 < (x_0.len : Int) ∧
    ∃ a9, x_0.a = some a9 ∧ ∃ n10 : Int, (World.drew w8).cell? (Addr.add (Addr.add a9 (x7.toNat * 2)) 0) = some (.int .u64 n10) ∧ 0 ≤ x7 ∧ x7 < (x_0.len : Int) ∧
    ∃ a11, x_0.a = some a11 ∧ ∃ n12 : Int, (World.drew w8).cell? (Addr.add (Addr.add a11 (x7.toNat * 2)) 1) = some (.int .i64 n12) ∧
    Calls Tryd.prog 22 #[.pointer p3, .int .u64 n10, .int .i64 n12] (World.drew w8) (Rv fun v13 w14 => ∃ n15 : Int, v13 = .int .i64 n15 ∧ 0 ≤ x7 ∧ x7 < (x_0.len : Int) ∧
    ∃ a16, x_0.a = some a16 ∧ ∃ n17 : Int, w14.cell? (Addr.add (Addr.add a16 (x7.toNat * 2)) 1) = some (.int .i64 n17) ∧
    br (decide (n17 < (0 : Int))) (br (!(decide (n15 = (1 : Int)))) (R (.tuple #[.pointer p3, .slice x6.a x6.len x6.cap, .bool false]) w14) (I4 x6 (IntKind.i64.wrap (x7 + 1)) w14 ∧
    μ5 x6 (IntKind.i64.wrap (x7 + 1)) w14 < μ5 x6 x7 w8)) (0 ≤ x7 ∧ x7 < (x_0.len : Int) ∧ ∃ a18, x_0.a = some a18 ∧
    ∃ n19 : Int, w14.cell? (Addr.add (Addr.add a18 (x7.toNat * 2)) 1) = some (.int .i64 n19) ∧
    br (decide ((64 : Int) < n19)) (br (!(decide (n15 = (1 : Int)))) (R (.tuple #[.pointer p3, .slice x6.a x6.len x6.cap, .bool false]) w14) (I4 x6 (IntKind.i64.wrap (x7 + 1)) w14 ∧
    μ5 x6 (IntKind.i64.wrap (x7 + 1)) w14 < μ5 x6 x7 w8)) (0 ≤ x7 ∧ x7 < (x_0.len : Int) ∧ ∃ a20, x_0.a = some a20 ∧
    ∃ n21 : Int, (World.drew w14).cell? (Addr.add (Addr.add a20 (x7.toNat * 2)) 0) = some (.int .u64 n21) ∧ 0 ≤ x7 ∧ x7 < (x_0.len : Int) ∧ ∃ a22, x_0.a = some a22 ∧
    ∃ n23 : Int, (World.drew w14).cell? (Addr.add (Addr.add a22 (x7.toNat * 2)) 1) = some (.int .i64 n23) ∧
    Calls Tryd.prog 116 #[.int .u64 n21, .int .i64 n23] (World.drew w14) (Rv fun v24 w25 => ∃ b26 : Bool, v24 = .bool b26 ∧
    br (!b26) (br (!(decide (n15 = (8 : Int)))) (R (.tuple #[.pointer p3, .slice x6.a x6.len x6.cap, .bool false]) w25) (I4 x6 (IntKind.i64.wrap (x7 + 1)) w25 ∧
    μ5 x6 (IntKind.i64.wrap (x7 + 1)) w25 < μ5 x6 x7 w8)) (0 ≤ x7 ∧ x7 < (x_0.len : Int) ∧ ∃ a27, x_0.a = some a27 ∧
    ∃ n28 : Int, (World.drew w25).cell? (Addr.add (Addr.add a27 (x7.toNat * 2)) 0) = some (.int .u64 n28) ∧ 0 ≤ x7 ∧ x7 < (x_0.len : Int) ∧ ∃ a29, x_0.a = some a29 ∧
    ∃ n30 : Int, (World.drew w25).cell? (Addr.add (Addr.add a29 (x7.toNat * 2)) 1) = some (.int .i64 n30) ∧
    Calls Tryd.prog 117 #[.slice x6.a x6.len x6.cap, .int .u64 n28, .int .i64 n30] (World.drew w25) (Rv fun v31 w32 => ∃ l33 : Slc, v31 = .slice l33.a l33.len l33.cap ∧
    br (!(decide (n15 = (0 : Int)))) (R (.tuple #[.pointer p3, .slice l33.a l33.len l33.cap, .bool false]) w32) (I4 l33 (IntKind.i64.wrap (x7 + 1)) w32 ∧
    μ5 l33 (IntKind.i64.wrap (x7 + 1)) w32 < μ5 x6 x7 w8)))))))) (R (.tuple #[.pointer p3, .slice x6.a x6.len x6.cap, .bool (!p3.isNone)]) w8))
theorem B48_eq : @B48 = fun (x_0 : Slc) (w : World) (R : Value → World → Prop) => trF Tryd.prog G (lk [(4, [(6, .slc), (7, .int .i64)])]) Tryd.f48 [.slice x_0.a x_0.len x_0.cap] w R := by kernel_rfl
theorem c48 (x_0 : Slc) (w : World) (R : Value → World → Prop) (h : B48 x_0 w R) : Calls Tryd.prog 48 #[.slice x_0.a x_0.len x_0.cap] w (Rv R) := calls_of_tr (L := lk [(4, [(6, .slc), (7, .int .i64)])]) Tryd.func48 hG hM (by rw [B48_eq] at h; exact h)

/-- slices.Clone[[]uint64,uint64] -/
def B124 (x_0 : Slc) (w : World) (R : Value → World → Prop) : Prop :=
  
    br x_0.a.isNone (R (.slice none 0 0) w) (∃ w1 : World, ∃ l2 : Slc, (Builtin.append_ #[29, 29] 29 #[.slice (some ⟨w.heap.size, 0, none⟩) 0 0, .slice x_0.a x_0.len x_0.cap]).run Tryd.prog (w.alloc (.cells #[] 22)) = .ok (.slice l2.a l2.len l2.cap) w1 ∧
    R (.slice l2.a l2.len l2.cap) w1)
theorem B124_eq : @B124 = fun (x_0 : Slc) (w : World) (R : Value → World → Prop) => trF Tryd.prog G (lk []) Tryd.f124 [.slice x_0.a x_0.len x_0.cap] w R := by kernel_rfl
theorem c124 (x_0 : Slc) (w : World) (R : Value → World → Prop) (h : B124 x_0 w R) : Calls Tryd.prog 124 #[.slice x_0.a x_0.len x_0.cap] w (Rv R) := calls_of_tr (L := lk []) Tryd.func124 hG hM (by rw [B124_eq] at h; exact h)

/-- slices.Equal[[]uint64,uint64] -/
def B122 (x_0 : Slc) (x_1 : Slc) (w : World) (R : Value → World → Prop) : Prop :=
  br (!(decide ((x_0.len : Int) = (x_1.len : Int)))) (R (.bool false) w) (∃ (I1 : Int → World → Prop) (μ2 : Int → World → Nat), I1 (0 : Int) w ∧
    ∀ x3 : Int, ∀ w4 : World, I1 x3 w4 → br (decide (x3 < (x_0.len : Int))) (0 ≤ x3 ∧ x3 < (x_0.len : Int) ∧ ∃ a5, x_0.a = some a5 ∧
    ∃ n6 : Int, (World.drew w4).cell? (Addr.add a5 (x3.toNat * 1)) = some (.int .u64 n6) ∧ 0 ≤ x3 ∧ x3 < (x_1.len : Int) ∧ ∃ a7, x_1.a = some a7 ∧
    ∃ n8 : Int, (World.drew w4).cell? (Addr.add a7 (x3.toNat * 1)) = some (.int .u64 n8) ∧
    br (!(decide (n6 = n8))) (R (.bool false) (World.drew w4)) (I1 (IntKind.i64.wrap (x3 + 1)) (World.drew w4) ∧
    μ2 (IntKind.i64.wrap (x3 + 1)) (World.drew w4) < μ2 x3 w4)) (R (.bool true) w4))
theorem B122_eq : @B122 = fun (x_0 : Slc) (x_1 : Slc) (w : World) (R : Value → World → Prop) => trF Tryd.prog G (lk [(4, [(13, .int .i64)])]) Tryd.f122 [.slice x_0.a x_0.len x_0.cap, .slice x_1.a x_1.len x_1.cap] w R := by kernel_rfl
theorem c122 (x_0 : Slc) (x_1 : Slc) (w : World) (R : Value → World → Prop) (h : B122 x_0 x_1 w R) : Calls Tryd.prog 122 #[.slice x_0.a x_0.len x_0.cap, .slice x_1.a x_1.len x_1.cap] w (Rv R) := calls_of_tr (L := lk [(4, [(13, .int .i64)])]) Tryd.func122 hG hM (by rw [B122_eq] at h; exact h)

/-- (*locution/bitrow.Row).Add -/
def B22n (x_1 : Int) (x_2 : Int) (w : World) (R : Value → World → Prop) : Prop :=
  R (.int .i64 11) w
theorem B22n_eq : @B22n = fun (x_1 : Int) (x_2 : Int) (w : World) (R : Value → World → Prop) => trF Tryd.prog G (lk []) Tryd.f22 [.pointer none, .int .u64 x_1, .int .i64 x_2] w R := by kernel_rfl
theorem c22n (x_1 : Int) (x_2 : Int) (w : World) (R : Value → World → Prop) (h : B22n x_1 x_2 w R) : Calls Tryd.prog 22 #[.pointer none, .int .u64 x_1, .int .i64 x_2] w (Rv R) := calls_of_tr (L := lk []) Tryd.func22 hG hM (by rw [B22n_eq] at h; exact h)

/-- (*locution/bitrow.Row).Len -/
def B54n  (w : World) (R : Value → World → Prop) : Prop :=
  R (.int .i64 0) w
theorem B54n_eq : @B54n = fun (w : World) (R : Value → World → Prop) => trF Tryd.prog G (lk []) Tryd.f54 [.pointer none] w R := by kernel_rfl
theorem c54n  (w : World) (R : Value → World → Prop) (h : B54n  w R) : Calls Tryd.prog 54 #[.pointer none] w (Rv R) := calls_of_tr (L := lk []) Tryd.func54 hG hM (by rw [B54n_eq] at h; exact h)

/-- (*locution/bitrow.Row).Bit -/
def B142n (x_1 : Int) (w : World) (R : Value → World → Prop) : Prop :=
  R (.bool false) w
theorem B142n_eq : @B142n = fun (x_1 : Int) (w : World) (R : Value → World → Prop) => trF Tryd.prog G (lk []) Tryd.f142 [.pointer none, .int .i64 x_1] w R := by kernel_rfl
theorem c142n (x_1 : Int) (w : World) (R : Value → World → Prop) (h : B142n x_1 w R) : Calls Tryd.prog 142 #[.pointer none, .int .i64 x_1] w (Rv R) := calls_of_tr (L := lk []) Tryd.func142 hG hM (by rw [B142n_eq] at h; exact h)

/-- (*locution/bitrow.Row).Cut -/
def B118n (x_1 : Int) (x_2 : Int) (w : World) (R : Value → World → Prop) : Prop :=
  R (.int .u64 0) w
theorem B118n_eq : @B118n = fun (x_1 : Int) (x_2 : Int) (w : World) (R : Value → World → Prop) => trF Tryd.prog G (lk []) Tryd.f118 [.pointer none, .int .i64 x_1, .int .i64 x_2] w R := by kernel_rfl
theorem c118n (x_1 : Int) (x_2 : Int) (w : World) (R : Value → World → Prop) (h : B118n x_1 x_2 w R) : Calls Tryd.prog 118 #[.pointer none, .int .i64 x_1, .int .i64 x_2] w (Rv R) := calls_of_tr (L := lk []) Tryd.func118 hG hM (by rw [B118n_eq] at h; exact h)

/-- (*locution/bitrow.Row).Words -/
def B56n  (w : World) (R : Value → World → Prop) : Prop :=
  R (.slice none 0 0) w
theorem B56n_eq : @B56n = fun (w : World) (R : Value → World → Prop) => trF Tryd.prog G (lk []) Tryd.f56 [.pointer none] w R := by kernel_rfl
theorem c56n  (w : World) (R : Value → World → Prop) (h : B56n  w R) : Calls Tryd.prog 56 #[.pointer none] w (Rv R) := calls_of_tr (L := lk []) Tryd.func56 hG hM (by rw [B56n_eq] at h; exact h)

/-- locution/bitrow.Same -/
def B52n (a_1 : Addr) (w : World) (R : Value → World → Prop) : Prop :=
  Calls Tryd.prog 54 #[.pointer none] w (Rv fun v1 w2 => ∃ n3 : Int, v1 = .int .i64 n3 ∧ Calls Tryd.prog 54 #[.pointer (some a_1)] w2 (Rv fun v4 w5 =>
    ∃ n6 : Int, v4 = .int .i64 n6 ∧ br (!(decide (n3 = n6))) (Calls Tryd.prog 54 #[.pointer none] w5 (Rv fun v7 w8 => ∃ n9 : Int, v7 = .int .i64 n9 ∧
    Calls Tryd.prog 54 #[.pointer (some a_1)] w8 (Rv fun v10 w11 => ∃ n12 : Int, v10 = .int .i64 n12 ∧
    R (.bool (decide (n9 = n12))) w11))) (Calls Tryd.prog 54 #[.pointer none] w5 (Rv fun v13 w14 => ∃ n15 : Int, v13 = .int .i64 n15 ∧
    br (decide (n15 = (0 : Int))) (Calls Tryd.prog 54 #[.pointer none] w14 (Rv fun v16 w17 => ∃ n18 : Int, v16 = .int .i64 n18 ∧
    Calls Tryd.prog 54 #[.pointer (some a_1)] w17 (Rv fun v19 w20 => ∃ n21 : Int, v19 = .int .i64 n21 ∧ R (.bool (decide (n18 = n21))) w20))) (False)))))
theorem B52n_eq : @B52n = fun (a_1 : Addr) (w : World) (R : Value → World → Prop) => trF Tryd.prog G (lk []) Tryd.f52 [.pointer none, .pointer (some a_1)] w R := by kernel_rfl
theorem c52n (a_1 : Addr) (w : World) (R : Value → World → Prop) (h : B52n a_1 w R) : Calls Tryd.prog 52 #[.pointer none, .pointer (some a_1)] w (Rv R) := calls_of_tr (L := lk []) Tryd.func52 hG hM (by rw [B52n_eq] at h; exact h)

/-- locution/bitrow.Same -/
def B52n1 (a_0 : Addr) (w : World) (R : Value → World → Prop) : Prop :=
  Calls Tryd.prog 54 #[.pointer (some a_0)] w (Rv fun v1 w2 => ∃ n3 : Int, v1 = .int .i64 n3 ∧ Calls Tryd.prog 54 #[.pointer none] w2 (Rv fun v4 w5 =>
    ∃ n6 : Int, v4 = .int .i64 n6 ∧ br (!(decide (n3 = n6))) (Calls Tryd.prog 54 #[.pointer (some a_0)] w5 (Rv fun v7 w8 => ∃ n9 : Int, v7 = .int .i64 n9 ∧
    Calls Tryd.prog 54 #[.pointer none] w8 (Rv fun v10 w11 => ∃ n12 : Int, v10 = .int .i64 n12 ∧
    R (.bool (decide (n9 = n12))) w11))) (Calls Tryd.prog 54 #[.pointer (some a_0)] w5 (Rv fun v13 w14 => ∃ n15 : Int, v13 = .int .i64 n15 ∧
    br (decide (n15 = (0 : Int))) (Calls Tryd.prog 54 #[.pointer (some a_0)] w14 (Rv fun v16 w17 => ∃ n18 : Int, v16 = .int .i64 n18 ∧
    Calls Tryd.prog 54 #[.pointer none] w17 (Rv fun v19 w20 => ∃ n21 : Int, v19 = .int .i64 n21 ∧
    R (.bool (decide (n18 = n21))) w20))) (∃ l22 : Slc, (World.drew w14).cell? (Addr.add a_0 0) = some (.slice l22.a l22.len l22.cap) ∧ False)))))
theorem B52n1_eq : @B52n1 = fun (a_0 : Addr) (w : World) (R : Value → World → Prop) => trF Tryd.prog G (lk []) Tryd.f52 [.pointer (some a_0), .pointer none] w R := by kernel_rfl
theorem c52n1 (a_0 : Addr) (w : World) (R : Value → World → Prop) (h : B52n1 a_0 w R) : Calls Tryd.prog 52 #[.pointer (some a_0), .pointer none] w (Rv R) := calls_of_tr (L := lk []) Tryd.func52 hG hM (by rw [B52n1_eq] at h; exact h)

end Go.Proofs.YtomajpihimlcjaaDoor.V
