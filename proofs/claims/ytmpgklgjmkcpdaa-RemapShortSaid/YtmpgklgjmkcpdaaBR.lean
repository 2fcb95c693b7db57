/- The verification conditions of functions, printed by a program of this work (pr.py) and checked here by the kernel. -/
import Derived.Test.YtmpgklgjmkcpdaaBL
set_option maxRecDepth 100000
set_option linter.unusedVariables false
namespace Go.Proofs.Ytmpgklgjmkcpdaa.V
open Go Go.VC

/-- locution/bitrow.New -/
def B90  (w : World) (R : Value → World → Prop) : Prop :=
  R (.pointer (some ⟨w.heap.size, 0, none⟩)) (w.alloc (.cells #[.slice none 0 0, .int .i64 0] 127))
theorem B90_eq : @B90 = fun (w : World) (R : Value → World → Prop) => trF Try.prog G (lk []) Try.f90 [] w R := by kernel_rfl
theorem c90  (w : World) (R : Value → World → Prop) (h : B90  w R) : Calls Try.prog 90 #[] w (Rv R) := calls_of_tr (L := lk []) Try.func90 hG hM (by rw [B90_eq] at h; exact h)

/-- (*locution/bitrow.Row).Add -/
def B93 (a_0 : Addr) (x_1 : Int) (x_2 : Int) (w : World) (R : Value → World → Prop) : Prop :=
  br (decide (x_2 < (0 : Int))) (R (.int .i64 1) w) (br (decide ((64 : Int) < x_2)) (R (.int .i64 1) w) (Calls Try.prog 108 #[.int .u64 x_1] w (Rv fun v1 w2 =>
    ∃ n3 : Int, v1 = .int .i64 n3 ∧ br (decide (x_2 < n3)) (R (.int .i64 8) w2) (∃ n4 : Int, w2.cell? (Addr.add a_0 1) = some (.int .i64 n4) ∧ (64 : Int) ≠ 0 ∧
    ∃ n5 : Int, w2.cell? (Addr.add a_0 1) = some (.int .i64 n5) ∧ (∃ u, w2.cell? (Addr.add a_0 1) = some u) ∧ w2.frozen? (Addr.add a_0 1) = false ∧
    br (decide ((0 : Int) < (Int.tmod n4 64))) (∃ l6 : Slc, (World.drew (w2.setCell (Addr.add a_0 1) (.int .i64 (IntKind.i64.wrap (n5 + x_2))))).cell? (Addr.add a_0 0) = some (.slice l6.a l6.len l6.cap) ∧
    ∃ l7 : Slc, (World.drew (w2.setCell (Addr.add a_0 1) (.int .i64 (IntKind.i64.wrap (n5 + x_2))))).cell? (Addr.add a_0 0) = some (.slice l7.a l7.len l7.cap) ∧
    0 ≤ (IntKind.i64.wrap ((l7.len : Int) - 1)) ∧ (IntKind.i64.wrap ((l7.len : Int) - 1)) < (l6.len : Int) ∧ ∃ a8, l6.a = some a8 ∧
    ∃ n9 : Int, (World.drew (w2.setCell (Addr.add a_0 1) (.int .i64 (IntKind.i64.wrap (n5 + x_2))))).cell? (Addr.add a8 ((IntKind.i64.wrap ((l7.len : Int) - 1)).toNat * 1)) = some (.int .u64 n9) ∧
    0 ≤ (IntKind.u64.wrap (Int.tmod n4 64)) ∧ 0 ≤ (IntKind.i64.wrap ((l7.len : Int) - 1)) ∧ (IntKind.i64.wrap ((l7.len : Int) - 1)) < (l6.len : Int) ∧
    ∃ a10, l6.a = some a10 ∧
    (∃ u, (World.drew (w2.setCell (Addr.add a_0 1) (.int .i64 (IntKind.i64.wrap (n5 + x_2))))).cell? (Addr.add a10 ((IntKind.i64.wrap ((l7.len : Int) - 1)).toNat * 1)) = some u) ∧
    (World.drew (w2.setCell (Addr.add a_0 1) (.int .i64 (IntKind.i64.wrap (n5 + x_2))))).frozen? (Addr.add a10 ((IntKind.i64.wrap ((l7.len : Int) - 1)).toNat * 1)) = false ∧
    ∃ (I11 : World → Prop) (μ12 : World →
    Nat), I11 ((World.drew (w2.setCell (Addr.add a_0 1) (.int .i64 (IntKind.i64.wrap (n5 + x_2))))).setCell (Addr.add a10 ((IntKind.i64.wrap ((l7.len : Int) - 1)).toNat * 1)) (.int .u64 (bOr .u64 n9 (shL .u64 x_1 (IntKind.u64.wrap (Int.tmod n4 64)))))) ∧
    ∀ w13 : World, I11 w13 → ∃ l14 : Slc, (World.drew w13).cell? (Addr.add a_0 0) = some (.slice l14.a l14.len l14.cap) ∧
    ∃ n15 : Int, (World.drew w13).cell? (Addr.add a_0 1) = some (.int .i64 n15) ∧ Calls Try.prog 110 #[.int .i64 n15] (World.drew w13) (Rv fun v16 w17 =>
    ∃ n18 : Int, v16 = .int .i64 n18 ∧ w17.cell? (Addr.add a_0 0) = some (.slice l14.a l14.len l14.cap) ∧
    br (decide ((l14.len : Int) < n18)) (br (decide ((0 : Int) < (Int.tmod n4 64))) (∃ l19 : Slc, w17.cell? (Addr.add a_0 0) = some (.slice l19.a l19.len l19.cap) ∧
    0 ≤ (IntKind.u64.wrap (IntKind.i64.wrap (64 - (Int.tmod n4 64)))) ∧
    ∃ w20 : World, ∃ l21 : Slc, (Builtin.append_ #[106, 106] 106 #[.slice l19.a l19.len l19.cap, .slice (some ⟨w17.heap.size, 0, none⟩) 1 1]).run Try.prog (w17.alloc (.cells #[.int .u64 (shR .u64 x_1 (IntKind.u64.wrap (IntKind.i64.wrap (64 - (Int.tmod n4 64)))))] 107)) = .ok (.slice l21.a l21.len l21.cap) w20 ∧
    (∃ u, w20.cell? (Addr.add a_0 0) = some u) ∧ w20.frozen? (Addr.add a_0 0) = false ∧ I11 (w20.setCell (Addr.add a_0 0) (.slice l21.a l21.len l21.cap)) ∧
    μ12 (w20.setCell (Addr.add a_0 0) (.slice l21.a l21.len l21.cap)) < μ12 w13) (∃ l22 : Slc, w17.cell? (Addr.add a_0 0) = some (.slice l22.a l22.len l22.cap) ∧
    ∃ w23 : World, ∃ l24 : Slc, (Builtin.append_ #[106, 106] 106 #[.slice l22.a l22.len l22.cap, .slice (some ⟨w17.heap.size, 0, none⟩) 1 1]).run Try.prog (w17.alloc (.cells #[.int .u64 x_1] 107)) = .ok (.slice l24.a l24.len l24.cap) w23 ∧
    (∃ u, w23.cell? (Addr.add a_0 0) = some u) ∧ w23.frozen? (Addr.add a_0 0) = false ∧ I11 (w23.setCell (Addr.add a_0 0) (.slice l24.a l24.len l24.cap)) ∧
    μ12 (w23.setCell (Addr.add a_0 0) (.slice l24.a l24.len l24.cap)) < μ12 w13)) (R (.int .i64 0) w17))) (∃ (I25 : World → Prop) (μ26 : World →
    Nat), I25 (w2.setCell (Addr.add a_0 1) (.int .i64 (IntKind.i64.wrap (n5 + x_2)))) ∧ ∀ w27 : World, I25 w27 →
    ∃ l28 : Slc, (World.drew w27).cell? (Addr.add a_0 0) = some (.slice l28.a l28.len l28.cap) ∧
    ∃ n29 : Int, (World.drew w27).cell? (Addr.add a_0 1) = some (.int .i64 n29) ∧ Calls Try.prog 110 #[.int .i64 n29] (World.drew w27) (Rv fun v30 w31 =>
    ∃ n32 : Int, v30 = .int .i64 n32 ∧ w31.cell? (Addr.add a_0 0) = some (.slice l28.a l28.len l28.cap) ∧
    br (decide ((l28.len : Int) < n32)) (br (decide ((0 : Int) < (Int.tmod n4 64))) (∃ l33 : Slc, w31.cell? (Addr.add a_0 0) = some (.slice l33.a l33.len l33.cap) ∧
    0 ≤ (IntKind.u64.wrap (IntKind.i64.wrap (64 - (Int.tmod n4 64)))) ∧
    ∃ w34 : World, ∃ l35 : Slc, (Builtin.append_ #[106, 106] 106 #[.slice l33.a l33.len l33.cap, .slice (some ⟨w31.heap.size, 0, none⟩) 1 1]).run Try.prog (w31.alloc (.cells #[.int .u64 (shR .u64 x_1 (IntKind.u64.wrap (IntKind.i64.wrap (64 - (Int.tmod n4 64)))))] 107)) = .ok (.slice l35.a l35.len l35.cap) w34 ∧
    (∃ u, w34.cell? (Addr.add a_0 0) = some u) ∧ w34.frozen? (Addr.add a_0 0) = false ∧ I25 (w34.setCell (Addr.add a_0 0) (.slice l35.a l35.len l35.cap)) ∧
    μ26 (w34.setCell (Addr.add a_0 0) (.slice l35.a l35.len l35.cap)) < μ26 w27) (∃ l36 : Slc, w31.cell? (Addr.add a_0 0) = some (.slice l36.a l36.len l36.cap) ∧
    ∃ w37 : World, ∃ l38 : Slc, (Builtin.append_ #[106, 106] 106 #[.slice l36.a l36.len l36.cap, .slice (some ⟨w31.heap.size, 0, none⟩) 1 1]).run Try.prog (w31.alloc (.cells #[.int .u64 x_1] 107)) = .ok (.slice l38.a l38.len l38.cap) w37 ∧
    (∃ u, w37.cell? (Addr.add a_0 0) = some u) ∧ w37.frozen? (Addr.add a_0 0) = false ∧ I25 (w37.setCell (Addr.add a_0 0) (.slice l38.a l38.len l38.cap)) ∧
    μ26 (w37.setCell (Addr.add a_0 0) (.slice l38.a l38.len l38.cap)) < μ26 w27)) (R (.int .i64 0) w31)))))))
theorem B93_eq : @B93 = fun (a_0 : Addr) (x_1 : Int) (x_2 : Int) (w : World) (R : Value → World → Prop) => trF Try.prog G (lk [(11, [])]) Try.f93 [.pointer (some a_0), .int .u64 x_1, .int .i64 x_2] w R := by kernel_rfl
theorem c93 (a_0 : Addr) (x_1 : Int) (x_2 : Int) (w : World) (R : Value → World → Prop) (h : B93 a_0 x_1 x_2 w R) : Calls Try.prog 93 #[.pointer (some a_0), .int .u64 x_1, .int .i64 x_2] w (Rv R) := calls_of_tr (L := lk [(11, [])]) Try.func93 hG hM (by rw [B93_eq] at h; exact h)

/-- (*locution/bitrow.Row).Len -/
def B106 (a_0 : Addr) (w : World) (R : Value → World → Prop) : Prop :=
  ∃ n1 : Int, w.cell? (Addr.add a_0 1) = some (.int .i64 n1) ∧ R (.int .i64 n1) w
theorem B106_eq : @B106 = fun (a_0 : Addr) (w : World) (R : Value → World → Prop) => trF Try.prog G (lk []) Try.f106 [.pointer (some a_0)] w R := by kernel_rfl
theorem c106 (a_0 : Addr) (w : World) (R : Value → World → Prop) (h : B106 a_0 w R) : Calls Try.prog 106 #[.pointer (some a_0)] w (Rv R) := calls_of_tr (L := lk []) Try.func106 hG hM (by rw [B106_eq] at h; exact h)

/-- locution/bitrow.need -/
def B110 (x_0 : Int) (w : World) (R : Value → World → Prop) : Prop :=
  (64 : Int) ≠ 0 ∧ (64 : Int) ≠ 0 ∧ R (.int .i64 (IntKind.i64.wrap ((IntKind.i64.wrap (Int.tdiv x_0 64)) + (min (Int.tmod x_0 64) (1 : Int))))) w
theorem B110_eq : @B110 = fun (x_0 : Int) (w : World) (R : Value → World → Prop) => trF Try.prog G (lk []) Try.f110 [.int .i64 x_0] w R := by kernel_rfl
theorem c110 (x_0 : Int) (w : World) (R : Value → World → Prop) (h : B110 x_0 w R) : Calls Try.prog 110 #[.int .i64 x_0] w (Rv R) := calls_of_tr (L := lk []) Try.func110 hG hM (by rw [B110_eq] at h; exact h)

/-- (*locution/bitrow.Row).Words -/
def B113 (a_0 : Addr) (w : World) (R : Value → World → Prop) : Prop :=
  ∃ l1 : Slc, w.cell? (Addr.add a_0 0) = some (.slice l1.a l1.len l1.cap) ∧ Calls Try.prog 127 #[.slice l1.a l1.len l1.cap] w (Rv fun v2 w3 =>
    ∃ l4 : Slc, v2 = .slice l4.a l4.len l4.cap ∧ R (.slice l4.a l4.len l4.cap) w3)
theorem B113_eq : @B113 = fun (a_0 : Addr) (w : World) (R : Value → World → Prop) => trF Try.prog G (lk []) Try.f113 [.pointer (some a_0)] w R := by kernel_rfl
theorem c113 (a_0 : Addr) (w : World) (R : Value → World → Prop) (h : B113 a_0 w R) : Calls Try.prog 113 #[.pointer (some a_0)] w (Rv R) := calls_of_tr (L := lk []) Try.func113 hG hM (by rw [B113_eq] at h; exact h)

/-- (*locution/bitrow.Row).Cut -/
def B121 (a_0 : Addr) (x_1 : Int) (x_2 : Int) (w : World) (R : Value → World → Prop) : Prop :=
  br (decide (x_2 < (1 : Int))) (R (.int .u64 0) w) (∃ n1 : Int, w.cell? (Addr.add a_0 1) = some (.int .i64 n1) ∧
    br (decide (n1 ≤ x_1)) (R (.int .u64 0) w) (br (decide (x_1 ≤ (-64))) (R (.int .u64 0) w) (br (decide (x_1 < (0 : Int))) (Calls Try.prog 130 #[.pointer (some a_0), .int .i64 0] w (Rv fun v2 w3 =>
    ∃ n4 : Int, v2 = .int .u64 n4 ∧ 0 ≤ (IntKind.u64.wrap (IntKind.i64.wrap (0 - x_1))) ∧ Calls Try.prog 92 #[.int .i64 (min x_2 (64 : Int))] w3 (Rv fun v5 w6 =>
    ∃ n7 : Int, v5 = .int .u64 n7 ∧ R (.int .u64 (bAnd .u64 (shL .u64 n4 (IntKind.u64.wrap (IntKind.i64.wrap (0 - x_1)))) n7)) w6))) ((64 : Int) ≠ 0 ∧
    (64 : Int) ≠ 0 ∧ Calls Try.prog 130 #[.pointer (some a_0), .int .i64 (IntKind.i64.wrap (Int.tdiv x_1 64))] w (Rv fun v8 w9 => ∃ n10 : Int, v8 = .int .u64 n10 ∧
    0 ≤ (IntKind.u64.wrap (Int.tmod x_1 64)) ∧
    br (decide ((0 : Int) < (Int.tmod x_1 64))) (Calls Try.prog 130 #[.pointer (some a_0), .int .i64 (IntKind.i64.wrap ((IntKind.i64.wrap (Int.tdiv x_1 64)) + 1))] w9 (Rv fun v11 w12 =>
    ∃ n13 : Int, v11 = .int .u64 n13 ∧ 0 ≤ (IntKind.u64.wrap (IntKind.i64.wrap (64 - (Int.tmod x_1 64)))) ∧
    Calls Try.prog 92 #[.int .i64 (min x_2 (64 : Int))] w12 (Rv fun v14 w15 => ∃ n16 : Int, v14 = .int .u64 n16 ∧
    R (.int .u64 (bAnd .u64 (bOr .u64 (shR .u64 n10 (IntKind.u64.wrap (Int.tmod x_1 64))) (shL .u64 n13 (IntKind.u64.wrap (IntKind.i64.wrap (64 - (Int.tmod x_1 64)))))) n16)) w15))) (Calls Try.prog 92 #[.int .i64 (min x_2 (64 : Int))] w9 (Rv fun v17 w18 =>
    ∃ n19 : Int, v17 = .int .u64 n19 ∧ R (.int .u64 (bAnd .u64 (shR .u64 n10 (IntKind.u64.wrap (Int.tmod x_1 64))) n19)) w18)))))))
theorem B121_eq : @B121 = fun (a_0 : Addr) (x_1 : Int) (x_2 : Int) (w : World) (R : Value → World → Prop) => trF Try.prog G (lk []) Try.f121 [.pointer (some a_0), .int .i64 x_1, .int .i64 x_2] w R := by kernel_rfl
theorem c121 (a_0 : Addr) (x_1 : Int) (x_2 : Int) (w : World) (R : Value → World → Prop) (h : B121 a_0 x_1 x_2 w R) : Calls Try.prog 121 #[.pointer (some a_0), .int .i64 x_1, .int .i64 x_2] w (Rv R) := calls_of_tr (L := lk []) Try.func121 hG hM (by rw [B121_eq] at h; exact h)

/-- (*locution/bitrow.Row).word -/
def B130 (a_0 : Addr) (x_1 : Int) (w : World) (R : Value → World → Prop) : Prop :=
  br (decide (x_1 < (0 : Int))) (R (.int .u64 0) w) (∃ l1 : Slc, w.cell? (Addr.add a_0 0) = some (.slice l1.a l1.len l1.cap) ∧
    br (decide ((l1.len : Int) ≤ x_1)) (R (.int .u64 0) w) (∃ l2 : Slc, w.cell? (Addr.add a_0 0) = some (.slice l2.a l2.len l2.cap) ∧ 0 ≤ x_1 ∧
    x_1 < (l2.len : Int) ∧ ∃ a3, l2.a = some a3 ∧ ∃ n4 : Int, w.cell? (Addr.add a3 (x_1.toNat * 1)) = some (.int .u64 n4) ∧ R (.int .u64 n4) w))
theorem B130_eq : @B130 = fun (a_0 : Addr) (x_1 : Int) (w : World) (R : Value → World → Prop) => trF Try.prog G (lk []) Try.f130 [.pointer (some a_0), .int .i64 x_1] w R := by kernel_rfl
theorem c130 (a_0 : Addr) (x_1 : Int) (w : World) (R : Value → World → Prop) (h : B130 a_0 x_1 w R) : Calls Try.prog 130 #[.pointer (some a_0), .int .i64 x_1] w (Rv R) := calls_of_tr (L := lk []) Try.func130 hG hM (by rw [B130_eq] at h; exact h)

/-- slices.Clone[[]uint64,uint64] -/
def B127 (x_0 : Slc) (w : World) (R : Value → World → Prop) : Prop :=
  
    br x_0.a.isNone (R (.slice none 0 0) w) (∃ w1 : World, ∃ l2 : Slc, (Builtin.append_ #[106, 106] 106 #[.slice (some ⟨w.heap.size, 0, none⟩) 0 0, .slice x_0.a x_0.len x_0.cap]).run Try.prog (w.alloc (.cells #[] 107)) = .ok (.slice l2.a l2.len l2.cap) w1 ∧
    R (.slice l2.a l2.len l2.cap) w1)
theorem B127_eq : @B127 = fun (x_0 : Slc) (w : World) (R : Value → World → Prop) => trF Try.prog G (lk []) Try.f127 [.slice x_0.a x_0.len x_0.cap] w R := by kernel_rfl
theorem c127 (x_0 : Slc) (w : World) (R : Value → World → Prop) (h : B127 x_0 w R) : Calls Try.prog 127 #[.slice x_0.a x_0.len x_0.cap] w (Rv R) := calls_of_tr (L := lk []) Try.func127 hG hM (by rw [B127_eq] at h; exact h)

/-- (*locution/bitrow.Row).Add -/
def B93n (x_1 : Int) (x_2 : Int) (w : World) (R : Value → World → Prop) : Prop :=
  R (.int .i64 11) w
theorem B93n_eq : @B93n = fun (x_1 : Int) (x_2 : Int) (w : World) (R : Value → World → Prop) => trF Try.prog G (lk []) Try.f93 [.pointer none, .int .u64 x_1, .int .i64 x_2] w R := by kernel_rfl
theorem c93n (x_1 : Int) (x_2 : Int) (w : World) (R : Value → World → Prop) (h : B93n x_1 x_2 w R) : Calls Try.prog 93 #[.pointer none, .int .u64 x_1, .int .i64 x_2] w (Rv R) := calls_of_tr (L := lk []) Try.func93 hG hM (by rw [B93n_eq] at h; exact h)

/-- (*locution/bitrow.Row).Len -/
def B106n  (w : World) (R : Value → World → Prop) : Prop :=
  R (.int .i64 0) w
theorem B106n_eq : @B106n = fun (w : World) (R : Value → World → Prop) => trF Try.prog G (lk []) Try.f106 [.pointer none] w R := by kernel_rfl
theorem c106n  (w : World) (R : Value → World → Prop) (h : B106n  w R) : Calls Try.prog 106 #[.pointer none] w (Rv R) := calls_of_tr (L := lk []) Try.func106 hG hM (by rw [B106n_eq] at h; exact h)

/-- (*locution/bitrow.Row).Cut -/
def B121n (x_1 : Int) (x_2 : Int) (w : World) (R : Value → World → Prop) : Prop :=
  R (.int .u64 0) w
theorem B121n_eq : @B121n = fun (x_1 : Int) (x_2 : Int) (w : World) (R : Value → World → Prop) => trF Try.prog G (lk []) Try.f121 [.pointer none, .int .i64 x_1, .int .i64 x_2] w R := by kernel_rfl
theorem c121n (x_1 : Int) (x_2 : Int) (w : World) (R : Value → World → Prop) (h : B121n x_1 x_2 w R) : Calls Try.prog 121 #[.pointer none, .int .i64 x_1, .int .i64 x_2] w (Rv R) := calls_of_tr (L := lk []) Try.func121 hG hM (by rw [B121n_eq] at h; exact h)

/-- (*locution/bitrow.Row).Words -/
def B113n  (w : World) (R : Value → World → Prop) : Prop :=
  R (.slice none 0 0) w
theorem B113n_eq : @B113n = fun (w : World) (R : Value → World → Prop) => trF Try.prog G (lk []) Try.f113 [.pointer none] w R := by kernel_rfl
theorem c113n  (w : World) (R : Value → World → Prop) (h : B113n  w R) : Calls Try.prog 113 #[.pointer none] w (Rv R) := calls_of_tr (L := lk []) Try.func113 hG hM (by rw [B113n_eq] at h; exact h)

end Go.Proofs.Ytmpgklgjmkcpdaa.V
