/- The verification conditions of functions, printed by a program of this work (pr.py) and checked here by the kernel. -/
import Derived.Test.YtbgbmliladhpeaaBE
set_option maxRecDepth 100000
set_option linter.unusedVariables false
namespace Go.Proofs.Ytbgbmliladhpeaa.V
open Go Go.VC

/-- locution/prefix.New -/
def B50 (x_0 : Slc) (w : World) (R : Value → World → Prop) : Prop :=
  Calls Try.prog 91 #[.slice x_0.a x_0.len x_0.cap, .int .i64 1099511627776] w (Rv fun v1 w2 => ∃ l3 : Slc, v1 = .slice l3.a l3.len l3.cap ∧
    br l3.a.isNone (R (.tuple #[.pointer none, .int .i64 8]) w2) (Calls Try.prog 33 #[.slice l3.a l3.len l3.cap] w2 (Rv fun v4 w5 =>
    ∃ p6 : Option Addr, ∃ n7 : Int, v4 = .tuple #[.pointer p6, .int .i64 n7] ∧
    br (!(decide (n7 = (0 : Int)))) (R (.tuple #[.pointer none, .int .i64 n7]) w5) (R (.tuple #[.pointer (some ⟨w5.heap.size, 0, none⟩), .int .i64 0]) (w5.alloc (.cells #[.pointer p6] 115))))))
theorem B50_eq : @B50 = fun (x_0 : Slc) (w : World) (R : Value → World → Prop) => trF Try.prog G (lk []) Try.f50 [.slice x_0.a x_0.len x_0.cap] w R := by kernel_rfl
theorem c50 (x_0 : Slc) (w : World) (R : Value → World → Prop) (h : B50 x_0 w R) : Calls Try.prog 50 #[.slice x_0.a x_0.len x_0.cap] w (Rv R) := calls_of_tr (L := lk []) Try.func50 hG hM (by rw [B50_eq] at h; exact h)

/-- (*locution/prefix.Seq).Sum -/
def B51 (a_0 : Addr) (x_1 : Int) (x_2 : Int) (w : World) (R : Value → World → Prop) : Prop :=
  Calls Try.prog 56 #[.pointer (some a_0)] w (Rv fun v1 w2 => ∃ n3 : Int, v1 = .int .i64 n3 ∧
    br (decide ((min x_2 n3) ≤ (max x_1 (0 : Int)))) (R (.int .i64 0) w2) (∃ p4 : Option Addr, (World.drew w2).cell? (Addr.add a_0 0) = some (.pointer p4) ∧
    ∃ p5 : Option Addr, (World.drew w2).cell? (Addr.add a_0 0) = some (.pointer p5) ∧
    Calls Try.prog 46 #[.pointer p4, .int .i64 (min x_2 n3)] (World.drew w2) (Rv fun v6 w7 => ∃ n8 : Int, v6 = .int .i64 n8 ∧
    w7.cell? (Addr.add a_0 0) = some (.pointer p5) ∧ Calls Try.prog 46 #[.pointer p5, .int .i64 (max x_1 (0 : Int))] w7 (Rv fun v9 w10 =>
    ∃ n11 : Int, v9 = .int .i64 n11 ∧ R (.int .i64 (IntKind.i64.wrap (n8 - n11))) w10))))
theorem B51_eq : @B51 = fun (a_0 : Addr) (x_1 : Int) (x_2 : Int) (w : World) (R : Value → World → Prop) => trF Try.prog G (lk []) Try.f51 [.pointer (some a_0), .int .i64 x_1, .int .i64 x_2] w R := by kernel_rfl
theorem c51 (a_0 : Addr) (x_1 : Int) (x_2 : Int) (w : World) (R : Value → World → Prop) (h : B51 a_0 x_1 x_2 w R) : Calls Try.prog 51 #[.pointer (some a_0), .int .i64 x_1, .int .i64 x_2] w (Rv R) := calls_of_tr (L := lk []) Try.func51 hG hM (by rw [B51_eq] at h; exact h)

/-- (*locution/prefix.Seq).Where -/
def B53 (a_0 : Addr) (x_1 : Int) (w : World) (R : Value → World → Prop) : Prop :=
  br (decide (x_1 < (0 : Int))) (R (.int .i64 (-1)) w) (Calls Try.prog 55 #[.pointer (some a_0)] w (Rv fun v1 w2 => ∃ n3 : Int, v1 = .int .i64 n3 ∧
    br (decide (n3 ≤ x_1)) (R (.int .i64 (-1)) w2) (∃ p4 : Option Addr, w2.cell? (Addr.add a_0 0) = some (.pointer p4) ∧
    Calls Try.prog 35 #[.pointer p4, .int .i64 x_1] w2 (Rv fun v5 w6 => ∃ n7 : Int, ∃ n8 : Int, v5 = .tuple #[.int .i64 n7, .int .i64 n8] ∧ R (.int .i64 n7) w6))))
theorem B53_eq : @B53 = fun (a_0 : Addr) (x_1 : Int) (w : World) (R : Value → World → Prop) => trF Try.prog G (lk []) Try.f53 [.pointer (some a_0), .int .i64 x_1] w R := by kernel_rfl
theorem c53 (a_0 : Addr) (x_1 : Int) (w : World) (R : Value → World → Prop) (h : B53 a_0 x_1 w R) : Calls Try.prog 53 #[.pointer (some a_0), .int .i64 x_1] w (Rv R) := calls_of_tr (L := lk []) Try.func53 hG hM (by rw [B53_eq] at h; exact h)

/-- (*locution/prefix.Seq).Total -/
def B55 (a_0 : Addr) (w : World) (R : Value → World → Prop) : Prop :=
  ∃ p1 : Option Addr, w.cell? (Addr.add a_0 0) = some (.pointer p1) ∧ Calls Try.prog 47 #[.pointer p1] w (Rv fun v2 w3 => ∃ n4 : Int, v2 = .int .i64 n4 ∧
    R (.int .i64 (max n4 (0 : Int))) w3)
theorem B55_eq : @B55 = fun (a_0 : Addr) (w : World) (R : Value → World → Prop) => trF Try.prog G (lk []) Try.f55 [.pointer (some a_0)] w R := by kernel_rfl
theorem c55 (a_0 : Addr) (w : World) (R : Value → World → Prop) (h : B55 a_0 w R) : Calls Try.prog 55 #[.pointer (some a_0)] w (Rv R) := calls_of_tr (L := lk []) Try.func55 hG hM (by rw [B55_eq] at h; exact h)

/-- (*locution/prefix.Seq).Len -/
def B56 (a_0 : Addr) (w : World) (R : Value → World → Prop) : Prop :=
  ∃ p1 : Option Addr, w.cell? (Addr.add a_0 0) = some (.pointer p1) ∧ Calls Try.prog 45 #[.pointer p1] w (Rv fun v2 w3 => ∃ n4 : Int, v2 = .int .i64 n4 ∧
    R (.int .i64 (max (IntKind.i64.wrap (n4 - 1)) (0 : Int))) w3)
theorem B56_eq : @B56 = fun (a_0 : Addr) (w : World) (R : Value → World → Prop) => trF Try.prog G (lk []) Try.f56 [.pointer (some a_0)] w R := by kernel_rfl
theorem c56 (a_0 : Addr) (w : World) (R : Value → World → Prop) (h : B56 a_0 w R) : Calls Try.prog 56 #[.pointer (some a_0)] w (Rv R) := calls_of_tr (L := lk []) Try.func56 hG hM (by rw [B56_eq] at h; exact h)

/-- (*locution/prefix.Seq).At -/
def B57 (a_0 : Addr) (x_1 : Int) (w : World) (R : Value → World → Prop) : Prop :=
  br (decide (x_1 < (0 : Int))) (R (.int .i64 (-1)) w) (Calls Try.prog 56 #[.pointer (some a_0)] w (Rv fun v1 w2 => ∃ n3 : Int, v1 = .int .i64 n3 ∧
    br (decide (n3 ≤ x_1)) (R (.int .i64 (-1)) w2) (∃ p4 : Option Addr, (World.drew w2).cell? (Addr.add a_0 0) = some (.pointer p4) ∧
    ∃ p5 : Option Addr, (World.drew w2).cell? (Addr.add a_0 0) = some (.pointer p5) ∧
    Calls Try.prog 46 #[.pointer p4, .int .i64 (IntKind.i64.wrap (x_1 + 1))] (World.drew w2) (Rv fun v6 w7 => ∃ n8 : Int, v6 = .int .i64 n8 ∧
    w7.cell? (Addr.add a_0 0) = some (.pointer p5) ∧ Calls Try.prog 46 #[.pointer p5, .int .i64 x_1] w7 (Rv fun v9 w10 => ∃ n11 : Int, v9 = .int .i64 n11 ∧
    R (.int .i64 (IntKind.i64.wrap (n8 - n11))) w10)))))
theorem B57_eq : @B57 = fun (a_0 : Addr) (x_1 : Int) (w : World) (R : Value → World → Prop) => trF Try.prog G (lk []) Try.f57 [.pointer (some a_0), .int .i64 x_1] w R := by kernel_rfl
theorem c57 (a_0 : Addr) (x_1 : Int) (w : World) (R : Value → World → Prop) (h : B57 a_0 x_1 w R) : Calls Try.prog 57 #[.pointer (some a_0), .int .i64 x_1] w (Rv R) := calls_of_tr (L := lk []) Try.func57 hG hM (by rw [B57_eq] at h; exact h)

/-- (*locution/prefix.Seq).Size -/
def B58 (a_0 : Addr) (w : World) (R : Value → World → Prop) : Prop :=
  ∃ p1 : Option Addr, w.cell? (Addr.add a_0 0) = some (.pointer p1) ∧ Calls Try.prog 41 #[.pointer p1] w (Rv fun v2 w3 => ∃ n4 : Int, v2 = .int .i64 n4 ∧
    R (.int .i64 n4) w3)
theorem B58_eq : @B58 = fun (a_0 : Addr) (w : World) (R : Value → World → Prop) => trF Try.prog G (lk []) Try.f58 [.pointer (some a_0)] w R := by kernel_rfl
theorem c58 (a_0 : Addr) (w : World) (R : Value → World → Prop) (h : B58 a_0 w R) : Calls Try.prog 58 #[.pointer (some a_0)] w (Rv R) := calls_of_tr (L := lk []) Try.func58 hG hM (by rw [B58_eq] at h; exact h)

/-- locution/prefix.running[int] -/
def B91 (x_0 : Slc) (x_1 : Int) (w : World) (R : Value → World → Prop) : Prop :=
  
    ∃ w1 : World, ∃ l2 : Slc, (Instr.makeSlice 56 (.int .i64 1) (.int .i64 (IntKind.i64.wrap ((x_0.len : Int) + 1)))).run Try.prog w = .ok (.slice l2.a l2.len l2.cap) w1 ∧
    ∃ (I3 : Slc → Int → Int → World → Prop) (μ4 : Slc → Int → Int → World → Nat), I3 l2 (0 : Int) (0 : Int) w1 ∧
    ∀ x5 : Slc, ∀ x6 : Int, ∀ x7 : Int, ∀ w8 : World, I3 x5 x6 x7 w8 → br (decide (x7 < (x_0.len : Int))) (0 ≤ x7 ∧ x7 < (x_0.len : Int) ∧ ∃ a9, x_0.a = some a9 ∧
    ∃ n10 : Int, w8.cell? (Addr.add a9 (x7.toNat * 1)) = some (.int .i64 n10) ∧
    br (decide (n10 < (0 : Int))) (R (.slice none 0 0) w8) (br (decide ((IntKind.i64.wrap (x_1 - x6)) < n10)) (R (.slice none 0 0) w8) (∃ w11 : World, ∃ l12 : Slc, (Builtin.append_ #[56, 56] 56 #[.slice x5.a x5.len x5.cap, .slice (some ⟨w8.heap.size, 0, none⟩) 1 1]).run Try.prog (w8.alloc (.cells #[.int .i64 (IntKind.i64.wrap (x6 + n10))] 3)) = .ok (.slice l12.a l12.len l12.cap) w11 ∧
    I3 l12 (IntKind.i64.wrap (x6 + n10)) (IntKind.i64.wrap (x7 + 1)) w11 ∧
    μ4 l12 (IntKind.i64.wrap (x6 + n10)) (IntKind.i64.wrap (x7 + 1)) w11 < μ4 x5 x6 x7 w8))) (R (.slice x5.a x5.len x5.cap) w8)
theorem B91_eq : @B91 = fun (x_0 : Slc) (x_1 : Int) (w : World) (R : Value → World → Prop) => trF Try.prog G (lk [(4, [(5, .slc), (6, .int .i64), (15, .int .i64)])]) Try.f91 [.slice x_0.a x_0.len x_0.cap, .int .i64 x_1] w R := by kernel_rfl
theorem c91 (x_0 : Slc) (x_1 : Int) (w : World) (R : Value → World → Prop) (h : B91 x_0 x_1 w R) : Calls Try.prog 91 #[.slice x_0.a x_0.len x_0.cap, .int .i64 x_1] w (Rv R) := calls_of_tr (L := lk [(4, [(5, .slc), (6, .int .i64), (15, .int .i64)])]) Try.func91 hG hM (by rw [B91_eq] at h; exact h)

/-- locution/locutionref09.Sums -/
def B49 (x_0 : Slc) (w : World) (R : Value → World → Prop) : Prop :=
  ∃ (I1 : Slc → Int → Int → World → Prop) (μ2 : Slc → Int → Int → World →
    Nat), I1 ⟨(some ⟨w.heap.size, 0, none⟩), 1, 1⟩ (0 : Int) (0 : Int) (w.alloc (.cells #[.int .i64 0] 3)) ∧
    ∀ x3 : Slc, ∀ x4 : Int, ∀ x5 : Int, ∀ w6 : World, I1 x3 x4 x5 w6 → br (decide (x5 < (x_0.len : Int))) (0 ≤ x5 ∧ x5 < (x_0.len : Int) ∧ ∃ a7, x_0.a = some a7 ∧
    ∃ n8 : Int, w6.cell? (Addr.add a7 (x5.toNat * 1)) = some (.int .i64 n8) ∧ br (decide (n8 < (0 : Int))) (R (.tuple #[.slice none 0 0, .bool false]) w6) (0 ≤ x5 ∧
    x5 < (x_0.len : Int) ∧ ∃ a9, x_0.a = some a9 ∧ ∃ n10 : Int, w6.cell? (Addr.add a9 (x5.toNat * 1)) = some (.int .i64 n10) ∧
    br (decide ((IntKind.i64.wrap (1099511627776 - x4)) < n10)) (R (.tuple #[.slice none 0 0, .bool false]) w6) (0 ≤ x5 ∧ x5 < (x_0.len : Int) ∧
    ∃ a11, x_0.a = some a11 ∧ ∃ n12 : Int, w6.cell? (Addr.add a11 (x5.toNat * 1)) = some (.int .i64 n12) ∧
    ∃ w13 : World, ∃ l14 : Slc, (Builtin.append_ #[56, 56] 56 #[.slice x3.a x3.len x3.cap, .slice (some ⟨w6.heap.size, 0, none⟩) 1 1]).run Try.prog (w6.alloc (.cells #[.int .i64 (IntKind.i64.wrap (x4 + n12))] 3)) = .ok (.slice l14.a l14.len l14.cap) w13 ∧
    I1 l14 (IntKind.i64.wrap (x4 + n12)) (IntKind.i64.wrap (x5 + 1)) w13 ∧
    μ2 l14 (IntKind.i64.wrap (x4 + n12)) (IntKind.i64.wrap (x5 + 1)) w13 < μ2 x3 x4 x5 w6))) (R (.tuple #[.slice x3.a x3.len x3.cap, .bool true]) w6)
theorem B49_eq : @B49 = fun (x_0 : Slc) (w : World) (R : Value → World → Prop) => trF Try.prog G (lk [(4, [(4, .slc), (5, .int .i64), (6, .int .i64)])]) Try.f49 [.slice x_0.a x_0.len x_0.cap] w R := by kernel_rfl
theorem c49 (x_0 : Slc) (w : World) (R : Value → World → Prop) (h : B49 x_0 w R) : Calls Try.prog 49 #[.slice x_0.a x_0.len x_0.cap] w (Rv R) := calls_of_tr (L := lk [(4, [(4, .slc), (5, .int .i64), (6, .int .i64)])]) Try.func49 hG hM (by rw [B49_eq] at h; exact h)

/-- locution/locutionref09.Sum -/
def B52 (x_0 : Slc) (x_1 : Int) (x_2 : Int) (w : World) (R : Value → World → Prop) : Prop :=
  ∃ (I1 : Int → Int → World → Prop) (μ2 : Int → Int → World → Nat), I1 (0 : Int) (0 : Int) w ∧ ∀ x3 : Int, ∀ x4 : Int, ∀ w5 : World, I1 x3 x4 w5 →
    br (decide (x4 < (x_0.len : Int))) (br (decide (x_1 ≤ x4)) (br (decide (x4 < x_2)) (0 ≤ x4 ∧ x4 < (x_0.len : Int) ∧ ∃ a6, x_0.a = some a6 ∧
    ∃ n7 : Int, w5.cell? (Addr.add a6 (x4.toNat * 1)) = some (.int .i64 n7) ∧ I1 (IntKind.i64.wrap (x3 + n7)) (IntKind.i64.wrap (x4 + 1)) w5 ∧
    μ2 (IntKind.i64.wrap (x3 + n7)) (IntKind.i64.wrap (x4 + 1)) w5 < μ2 x3 x4 w5) (I1 x3 (IntKind.i64.wrap (x4 + 1)) w5 ∧
    μ2 x3 (IntKind.i64.wrap (x4 + 1)) w5 < μ2 x3 x4 w5)) (I1 x3 (IntKind.i64.wrap (x4 + 1)) w5 ∧
    μ2 x3 (IntKind.i64.wrap (x4 + 1)) w5 < μ2 x3 x4 w5)) (R (.int .i64 x3) w5)
theorem B52_eq : @B52 = fun (x_0 : Slc) (x_1 : Int) (x_2 : Int) (w : World) (R : Value → World → Prop) => trF Try.prog G (lk [(3, [(7, .int .i64), (8, .int .i64)])]) Try.f52 [.slice x_0.a x_0.len x_0.cap, .int .i64 x_1, .int .i64 x_2] w R := by kernel_rfl
theorem c52 (x_0 : Slc) (x_1 : Int) (x_2 : Int) (w : World) (R : Value → World → Prop) (h : B52 x_0 x_1 x_2 w R) : Calls Try.prog 52 #[.slice x_0.a x_0.len x_0.cap, .int .i64 x_1, .int .i64 x_2] w (Rv R) := calls_of_tr (L := lk [(3, [(7, .int .i64), (8, .int .i64)])]) Try.func52 hG hM (by rw [B52_eq] at h; exact h)

/-- locution/locutionref09.Where -/
def B54 (x_0 : Slc) (x_1 : Int) (w : World) (R : Value → World → Prop) : Prop :=
  br (decide (x_1 < (0 : Int))) (R (.int .i64 (-1)) w) (∃ (I1 : Int → Int → World → Prop) (μ2 : Int → Int → World → Nat), I1 x_1 (0 : Int) w ∧
    ∀ x3 : Int, ∀ x4 : Int, ∀ w5 : World, I1 x3 x4 w5 → br (decide (x4 < (x_0.len : Int))) (0 ≤ x4 ∧ x4 < (x_0.len : Int) ∧ ∃ a6, x_0.a = some a6 ∧
    ∃ n7 : Int, w5.cell? (Addr.add a6 (x4.toNat * 1)) = some (.int .i64 n7) ∧ br (decide (x3 < n7)) (R (.int .i64 x4) w5) (0 ≤ x4 ∧ x4 < (x_0.len : Int) ∧
    ∃ a8, x_0.a = some a8 ∧ ∃ n9 : Int, w5.cell? (Addr.add a8 (x4.toNat * 1)) = some (.int .i64 n9) ∧
    I1 (IntKind.i64.wrap (x3 - n9)) (IntKind.i64.wrap (x4 + 1)) w5 ∧
    μ2 (IntKind.i64.wrap (x3 - n9)) (IntKind.i64.wrap (x4 + 1)) w5 < μ2 x3 x4 w5)) (R (.int .i64 (-1)) w5))
theorem B54_eq : @B54 = fun (x_0 : Slc) (x_1 : Int) (w : World) (R : Value → World → Prop) => trF Try.prog G (lk [(4, [(1, .int .i64), (5, .int .i64)])]) Try.f54 [.slice x_0.a x_0.len x_0.cap, .int .i64 x_1] w R := by kernel_rfl
theorem c54 (x_0 : Slc) (x_1 : Int) (w : World) (R : Value → World → Prop) (h : B54 x_0 x_1 w R) : Calls Try.prog 54 #[.slice x_0.a x_0.len x_0.cap, .int .i64 x_1] w (Rv R) := calls_of_tr (L := lk [(4, [(1, .int .i64), (5, .int .i64)])]) Try.func54 hG hM (by rw [B54_eq] at h; exact h)

/-- locution/locutionlaw09.PrefixSums -/
def B11 (x_0 : Slc) (x1_0 : Int) (x1_1 : Int) (x_2 : Int) (w : World) (R : Value → World → Prop) : Prop :=
  br (decide ((80 : Int) < (x_0.len : Int))) (Calls Try.prog 48 #[] (w.alloc (.cells #[.int .i64 x1_0, .int .i64 x1_1] 65)) (Rv fun v1 w2 =>
    ∃ b3 : Bool, v1 = .bool b3 ∧
    R (.bool b3) w2)) (Calls Try.prog 49 #[.slice x_0.a x_0.len x_0.cap] (w.alloc (.cells #[.int .i64 x1_0, .int .i64 x1_1] 65)) (Rv fun v4 w5 =>
    ∃ l6 : Slc, ∃ b7 : Bool, v4 = .tuple #[.slice l6.a l6.len l6.cap, .bool b7] ∧ br (!b7) (Calls Try.prog 48 #[] w5 (Rv fun v8 w9 => ∃ b10 : Bool, v8 = .bool b10 ∧
    R (.bool b10) w9)) (Calls Try.prog 50 #[.slice x_0.a x_0.len x_0.cap] w5 (Rv fun v11 w12 =>
    ∃ p13 : Option Addr, ∃ n14 : Int, v11 = .tuple #[.pointer p13, .int .i64 n14] ∧ 0 ≤ (0 : Int) ∧ 0 < (2 : Int) ∧ ∃ a15, (some ⟨w.heap.size, 0, none⟩) = some a15 ∧
    ∃ n16 : Int, (World.drew w12).cell? (Addr.add a15 ((0 : Int).toNat * 1)) = some (.int .i64 n16) ∧ 0 ≤ (1 : Int) ∧ 1 < (2 : Int) ∧
    ∃ a17, (some ⟨w.heap.size, 0, none⟩) = some a17 ∧ ∃ n18 : Int, (World.drew w12).cell? (Addr.add a17 ((1 : Int).toNat * 1)) = some (.int .i64 n18) ∧
    0 ≤ (0 : Int) ∧ 0 < (2 : Int) ∧ ∃ a19, (some ⟨w.heap.size, 0, none⟩) = some a19 ∧
    ∃ n20 : Int, (World.drew w12).cell? (Addr.add a19 ((0 : Int).toNat * 1)) = some (.int .i64 n20) ∧ 0 ≤ (1 : Int) ∧ 1 < (2 : Int) ∧
    ∃ a21, (some ⟨w.heap.size, 0, none⟩) = some a21 ∧ ∃ n22 : Int, (World.drew w12).cell? (Addr.add a21 ((1 : Int).toNat * 1)) = some (.int .i64 n22) ∧
    Calls Try.prog 51 #[.pointer p13, .int .i64 n16, .int .i64 n18] (World.drew w12) (Rv fun v23 w24 => ∃ n25 : Int, v23 = .int .i64 n25 ∧
    w24.cell? (Addr.add a21 ((1 : Int).toNat * 1)) = some (.int .i64 n22) ∧ w24.cell? (Addr.add a19 ((0 : Int).toNat * 1)) = some (.int .i64 n20) ∧
    Calls Try.prog 52 #[.slice x_0.a x_0.len x_0.cap, .int .i64 n20, .int .i64 n22] w24 (Rv fun v26 w27 => ∃ n28 : Int, v26 = .int .i64 n28 ∧
    br (decide (n25 = n28)) (Calls Try.prog 53 #[.pointer p13, .int .i64 x_2] w27 (Rv fun v29 w30 => ∃ n31 : Int, v29 = .int .i64 n31 ∧
    Calls Try.prog 54 #[.slice x_0.a x_0.len x_0.cap, .int .i64 x_2] w30 (Rv fun v32 w33 => ∃ n34 : Int, v32 = .int .i64 n34 ∧ br (decide (n31 = n34)) (0 ≤ (0 : Int) ∧
    0 < (2 : Int) ∧ ∃ a35, (some ⟨w.heap.size, 0, none⟩) = some a35 ∧ ∃ n36 : Int, w33.cell? (Addr.add a35 ((0 : Int).toNat * 1)) = some (.int .i64 n36) ∧
    0 ≤ (1 : Int) ∧ 1 < (2 : Int) ∧ ∃ a37, (some ⟨w.heap.size, 0, none⟩) = some a37 ∧
    ∃ n38 : Int, w33.cell? (Addr.add a37 ((1 : Int).toNat * 1)) = some (.int .i64 n38) ∧
    Calls Try.prog 51 #[.pointer none, .int .i64 n36, .int .i64 n38] w33 (Rv fun v39 w40 => ∃ n41 : Int, v39 = .int .i64 n41 ∧
    br (decide (n41 = (0 : Int))) (Calls Try.prog 53 #[.pointer none, .int .i64 x_2] w40 (Rv fun v42 w43 => ∃ n44 : Int, v42 = .int .i64 n44 ∧
    br (decide (n44 = (-1))) (Calls Try.prog 48 #[] w43 (Rv fun v45 w46 => ∃ b47 : Bool, v45 = .bool b47 ∧
    R (.bool b47) w46)) (R (.bool false) w43))) (R (.bool false) w40))) (R (.bool false) w33)))) (R (.bool false) w27)))))))
theorem B11_eq : @B11 = fun (x_0 : Slc) (x1_0 : Int) (x1_1 : Int) (x_2 : Int) (w : World) (R : Value → World → Prop) => trF Try.prog G (lk []) Try.f11 [.slice x_0.a x_0.len x_0.cap, .agg #[.int .i64 x1_0, .int .i64 x1_1], .int .i64 x_2] w R := by kernel_rfl
theorem c11 (x_0 : Slc) (x1_0 : Int) (x1_1 : Int) (x_2 : Int) (w : World) (R : Value → World → Prop) (h : B11 x_0 x1_0 x1_1 x_2 w R) : Calls Try.prog 11 #[.slice x_0.a x_0.len x_0.cap, .agg #[.int .i64 x1_0, .int .i64 x1_1], .int .i64 x_2] w (Rv R) := calls_of_tr (L := lk []) Try.func11 hG hM (by rw [B11_eq] at h; exact h)

/-- locution/locutionlaw09.PrefixUnits -/
def B12 (x_0 : Slc) (w : World) (R : Value → World → Prop) : Prop :=
  br (decide ((20 : Int) < (x_0.len : Int))) (Calls Try.prog 48 #[] w (Rv fun v1 w2 => ∃ b3 : Bool, v1 = .bool b3 ∧ R (.bool b3) w2)) (∃ (I4 : Int → World →
    Prop) (μ5 : Int → World → Nat), I4 (0 : Int) w ∧ ∀ x6 : Int, ∀ w7 : World, I4 x6 w7 → br (decide (x6 < (x_0.len : Int))) (0 ≤ x6 ∧ x6 < (x_0.len : Int) ∧
    ∃ a8, x_0.a = some a8 ∧ ∃ n9 : Int, w7.cell? (Addr.add a8 (x6.toNat * 1)) = some (.int .i64 n9) ∧
    br (decide (n9 < (0 : Int))) (Calls Try.prog 48 #[] w7 (Rv fun v10 w11 => ∃ b12 : Bool, v10 = .bool b12 ∧ R (.bool b12) w11)) (0 ≤ x6 ∧ x6 < (x_0.len : Int) ∧
    ∃ a13, x_0.a = some a13 ∧ ∃ n14 : Int, w7.cell? (Addr.add a13 (x6.toNat * 1)) = some (.int .i64 n14) ∧
    br (decide ((49 : Int) < n14)) (Calls Try.prog 48 #[] w7 (Rv fun v15 w16 => ∃ b17 : Bool, v15 = .bool b17 ∧ R (.bool b17) w16)) (I4 (IntKind.i64.wrap (x6 + 1)) w7 ∧
    μ5 (IntKind.i64.wrap (x6 + 1)) w7 < μ5 x6 w7))) (Calls Try.prog 50 #[.slice x_0.a x_0.len x_0.cap] w7 (Rv fun v18 w19 =>
    ∃ p20 : Option Addr, ∃ n21 : Int, v18 = .tuple #[.pointer p20, .int .i64 n21] ∧ ∃ (I22 : Int → Int → World → Prop) (μ23 : Int → Int → World →
    Nat), I22 (0 : Int) (0 : Int) w19 ∧ ∀ x24 : Int, ∀ x25 : Int, ∀ w26 : World, I22 x24 x25 w26 → br (decide (x25 < (x_0.len : Int))) (∃ (I27 : Int → Int → World →
    Prop) (μ28 : Int → Int → World → Nat), I27 x24 (0 : Int) w26 ∧ ∀ x29 : Int, ∀ x30 : Int, ∀ w31 : World, I27 x29 x30 w31 → 0 ≤ x25 ∧ x25 < (x_0.len : Int) ∧
    ∃ a32, x_0.a = some a32 ∧ ∃ n33 : Int, w31.cell? (Addr.add a32 (x25.toNat * 1)) = some (.int .i64 n33) ∧
    br (decide (x30 < n33)) (Calls Try.prog 53 #[.pointer p20, .int .i64 x29] w31 (Rv fun v34 w35 => ∃ n36 : Int, v34 = .int .i64 n36 ∧
    br (!(decide (n36 = x25))) (R (.bool false) w35) (I27 (IntKind.i64.wrap (x29 + 1)) (IntKind.i64.wrap (x30 + 1)) w35 ∧
    μ28 (IntKind.i64.wrap (x29 + 1)) (IntKind.i64.wrap (x30 + 1)) w35 < μ28 x29 x30 w31))) (I22 x29 (IntKind.i64.wrap (x25 + 1)) w31 ∧
    μ23 x29 (IntKind.i64.wrap (x25 + 1)) w31 < μ23 x24 x25 w26)) (Calls Try.prog 53 #[.pointer p20, .int .i64 x24] w26 (Rv fun v37 w38 =>
    ∃ n39 : Int, v37 = .int .i64 n39 ∧ br (decide (n39 = (-1))) (Calls Try.prog 55 #[.pointer p20] w38 (Rv fun v40 w41 => ∃ n42 : Int, v40 = .int .i64 n42 ∧
    br (decide (n42 = x24)) (Calls Try.prog 48 #[] w41 (Rv fun v43 w44 => ∃ b45 : Bool, v43 = .bool b45 ∧
    R (.bool b45) w44)) (R (.bool false) w41))) (R (.bool false) w38))))))
theorem B12_eq : @B12 = fun (x_0 : Slc) (w : World) (R : Value → World → Prop) => trF Try.prog G (lk [(4, [(3, .int .i64)]), (11, [(6, .int .i64), (7, .int .i64)]), (14, [(6, .int .i64), (8, .int .i64)])]) Try.f12 [.slice x_0.a x_0.len x_0.cap] w R := by kernel_rfl
theorem c12 (x_0 : Slc) (w : World) (R : Value → World → Prop) (h : B12 x_0 w R) : Calls Try.prog 12 #[.slice x_0.a x_0.len x_0.cap] w (Rv R) := calls_of_tr (L := lk [(4, [(3, .int .i64)]), (11, [(6, .int .i64), (7, .int .i64)]), (14, [(6, .int .i64), (8, .int .i64)])]) Try.func12 hG hM (by rw [B12_eq] at h; exact h)

/-- locution/locutionlaw09.PrefixMakes -/
def B13 (x_0 : Slc) (x_1 : Int) (w : World) (R : Value → World → Prop) : Prop :=
  br (decide ((80 : Int) < (x_0.len : Int))) (Calls Try.prog 48 #[] w (Rv fun v1 w2 => ∃ b3 : Bool, v1 = .bool b3 ∧
    R (.bool b3) w2)) (Calls Try.prog 50 #[.slice x_0.a x_0.len x_0.cap] w (Rv fun v4 w5 => ∃ p6 : Option Addr, ∃ n7 : Int, v4 = .tuple #[.pointer p6, .int .i64 n7] ∧
    Calls Try.prog 49 #[.slice x_0.a x_0.len x_0.cap] w5 (Rv fun v8 w9 => ∃ l10 : Slc, ∃ b11 : Bool, v8 = .tuple #[.slice l10.a l10.len l10.cap, .bool b11] ∧
    Calls Try.prog 56 #[.pointer none] w9 (Rv fun v12 w13 => ∃ n14 : Int, v12 = .int .i64 n14 ∧
    br (!(decide (n14 = (0 : Int)))) (R (.bool false) w13) (Calls Try.prog 57 #[.pointer none, .int .i64 x_1] w13 (Rv fun v15 w16 => ∃ n17 : Int, v15 = .int .i64 n17 ∧
    br (!(decide (n17 = (-1)))) (R (.bool false) w16) (Calls Try.prog 55 #[.pointer none] w16 (Rv fun v18 w19 => ∃ n20 : Int, v18 = .int .i64 n20 ∧
    br (!(decide (n20 = (0 : Int)))) (R (.bool false) w19) (Calls Try.prog 58 #[.pointer none] w19 (Rv fun v21 w22 => ∃ n23 : Int, v21 = .int .i64 n23 ∧
    br (!(decide (n23 = (0 : Int)))) (R (.bool false) w22) (br (!b11) (br p6.isNone (br (decide (n7 = (8 : Int))) (Calls Try.prog 48 #[] w22 (Rv fun v24 w25 =>
    ∃ b26 : Bool, v24 = .bool b26 ∧ R (.bool b26) w25)) (R (.bool false) w22)) (R (.bool false) w22)) (∃ (I27 : Int → World → Prop) (μ28 : Int → World →
    Nat), I27 (0 : Int) w22 ∧ ∀ x29 : Int, ∀ w30 : World, I27 x29 w30 → br (decide (x29 < (x_0.len : Int))) (0 ≤ x29 ∧ x29 < (x_0.len : Int) ∧
    ∃ a31, x_0.a = some a31 ∧ ∃ n32 : Int, (World.drew w30).cell? (Addr.add a31 (x29.toNat * 1)) = some (.int .i64 n32) ∧
    Calls Try.prog 57 #[.pointer p6, .int .i64 x29] (World.drew w30) (Rv fun v33 w34 => ∃ n35 : Int, v33 = .int .i64 n35 ∧
    w34.cell? (Addr.add a31 (x29.toNat * 1)) = some (.int .i64 n32) ∧ br (!(decide (n35 = n32))) (R (.bool false) w34) (I27 (IntKind.i64.wrap (x29 + 1)) w34 ∧
    μ28 (IntKind.i64.wrap (x29 + 1)) w34 < μ28 x29 w30))) (br (decide (n7 = (0 : Int))) (Calls Try.prog 56 #[.pointer p6] (World.drew w30) (Rv fun v36 w37 =>
    ∃ n38 : Int, v36 = .int .i64 n38 ∧ br (decide (n38 = (x_0.len : Int))) (Calls Try.prog 57 #[.pointer p6, .int .i64 x_1] w37 (Rv fun v39 w40 =>
    ∃ n41 : Int, v39 = .int .i64 n41 ∧ Calls Try.prog 38 #[.slice x_0.a x_0.len x_0.cap, .int .i64 x_1] w40 (Rv fun v42 w43 => ∃ n44 : Int, v42 = .int .i64 n44 ∧
    br (decide (n41 = n44)) (0 ≤ (x_0.len : Int) ∧ (x_0.len : Int) < (l10.len : Int) ∧ ∃ a45, l10.a = some a45 ∧
    ∃ n46 : Int, w43.cell? (Addr.add a45 ((x_0.len : Int).toNat * 1)) = some (.int .i64 n46) ∧ Calls Try.prog 55 #[.pointer p6] w43 (Rv fun v47 w48 =>
    ∃ n49 : Int, v47 = .int .i64 n49 ∧ w48.cell? (Addr.add a45 ((x_0.len : Int).toNat * 1)) = some (.int .i64 n46) ∧
    br (decide (n49 = n46)) (Calls Try.prog 58 #[.pointer p6] w48 (Rv fun v50 w51 => ∃ n52 : Int, v50 = .int .i64 n52 ∧
    Calls Try.prog 42 #[.slice l10.a l10.len l10.cap] w51 (Rv fun v53 w54 => ∃ n55 : Int, v53 = .int .i64 n55 ∧
    br (decide (n52 = n55)) (Calls Try.prog 48 #[] w54 (Rv fun v56 w57 => ∃ b58 : Bool, v56 = .bool b58 ∧
    R (.bool b58) w57)) (R (.bool false) w54)))) (R (.bool false) w48))) (R (.bool false) w43)))) (R (.bool false) w37))) (R (.bool false) (World.drew w30)))))))))))))))
theorem B13_eq : @B13 = fun (x_0 : Slc) (x_1 : Int) (w : World) (R : Value → World → Prop) => trF Try.prog G (lk [(11, [(10, .int .i64)])]) Try.f13 [.slice x_0.a x_0.len x_0.cap, .int .i64 x_1] w R := by kernel_rfl
theorem c13 (x_0 : Slc) (x_1 : Int) (w : World) (R : Value → World → Prop) (h : B13 x_0 x_1 w R) : Calls Try.prog 13 #[.slice x_0.a x_0.len x_0.cap, .int .i64 x_1] w (Rv R) := calls_of_tr (L := lk [(11, [(10, .int .i64)])]) Try.func13 hG hM (by rw [B13_eq] at h; exact h)

/-- locution/locutionlaw09.live -/
def B48  (w : World) (R : Value → World → Prop) : Prop :=
  Calls Try.prog 50 #[.slice (some ⟨w.heap.size, 0, none⟩) 3 3] (w.alloc (.cells #[.int .i64 2, .int .i64 0, .int .i64 3] 3)) (Rv fun v1 w2 =>
    ∃ p3 : Option Addr, ∃ n4 : Int, v1 = .tuple #[.pointer p3, .int .i64 n4] ∧ Calls Try.prog 55 #[.pointer p3] w2 (Rv fun v5 w6 => ∃ n7 : Int, v5 = .int .i64 n7 ∧
    br (decide (n7 = (5 : Int))) (Calls Try.prog 51 #[.pointer p3, .int .i64 1, .int .i64 3] w6 (Rv fun v8 w9 => ∃ n10 : Int, v8 = .int .i64 n10 ∧
    br (decide (n10 = (3 : Int))) (Calls Try.prog 53 #[.pointer p3, .int .i64 1] w9 (Rv fun v11 w12 => ∃ n13 : Int, v11 = .int .i64 n13 ∧
    br (decide (n13 = (0 : Int))) (Calls Try.prog 53 #[.pointer p3, .int .i64 2] w12 (Rv fun v14 w15 => ∃ n16 : Int, v14 = .int .i64 n16 ∧
    br (decide (n16 = (2 : Int))) (Calls Try.prog 53 #[.pointer p3, .int .i64 5] w15 (Rv fun v17 w18 => ∃ n19 : Int, v17 = .int .i64 n19 ∧
    R (.bool (decide (n19 = (-1)))) w18)) (R (.bool false) w15))) (R (.bool false) w12))) (R (.bool false) w9))) (R (.bool false) w6)))
theorem B48_eq : @B48 = fun (w : World) (R : Value → World → Prop) => trF Try.prog G (lk []) Try.f48 [] w R := by kernel_rfl
theorem c48  (w : World) (R : Value → World → Prop) (h : B48  w R) : Calls Try.prog 48 #[] w (Rv R) := calls_of_tr (L := lk []) Try.func48 hG hM (by rw [B48_eq] at h; exact h)

/-- (*locution/prefix.Seq).Len -/
def B56n  (w : World) (R : Value → World → Prop) : Prop :=
  R (.int .i64 0) w
theorem B56n_eq : @B56n = fun (w : World) (R : Value → World → Prop) => trF Try.prog G (lk []) Try.f56 [.pointer none] w R := by kernel_rfl
theorem c56n  (w : World) (R : Value → World → Prop) (h : B56n  w R) : Calls Try.prog 56 #[.pointer none] w (Rv R) := calls_of_tr (L := lk []) Try.func56 hG hM (by rw [B56n_eq] at h; exact h)

/-- (*locution/prefix.Seq).At -/
def B57n (x_1 : Int) (w : World) (R : Value → World → Prop) : Prop :=
  br (decide (x_1 < (0 : Int))) (R (.int .i64 (-1)) w) (Calls Try.prog 56 #[.pointer none] w (Rv fun v1 w2 => ∃ n3 : Int, v1 = .int .i64 n3 ∧
    br (decide (n3 ≤ x_1)) (R (.int .i64 (-1)) w2) (False)))
theorem B57n_eq : @B57n = fun (x_1 : Int) (w : World) (R : Value → World → Prop) => trF Try.prog G (lk []) Try.f57 [.pointer none, .int .i64 x_1] w R := by kernel_rfl
theorem c57n (x_1 : Int) (w : World) (R : Value → World → Prop) (h : B57n x_1 w R) : Calls Try.prog 57 #[.pointer none, .int .i64 x_1] w (Rv R) := calls_of_tr (L := lk []) Try.func57 hG hM (by rw [B57n_eq] at h; exact h)

/-- (*locution/prefix.Seq).Total -/
def B55n  (w : World) (R : Value → World → Prop) : Prop :=
  R (.int .i64 0) w
theorem B55n_eq : @B55n = fun (w : World) (R : Value → World → Prop) => trF Try.prog G (lk []) Try.f55 [.pointer none] w R := by kernel_rfl
theorem c55n  (w : World) (R : Value → World → Prop) (h : B55n  w R) : Calls Try.prog 55 #[.pointer none] w (Rv R) := calls_of_tr (L := lk []) Try.func55 hG hM (by rw [B55n_eq] at h; exact h)

/-- (*locution/prefix.Seq).Size -/
def B58n  (w : World) (R : Value → World → Prop) : Prop :=
  R (.int .i64 0) w
theorem B58n_eq : @B58n = fun (w : World) (R : Value → World → Prop) => trF Try.prog G (lk []) Try.f58 [.pointer none] w R := by kernel_rfl
theorem c58n  (w : World) (R : Value → World → Prop) (h : B58n  w R) : Calls Try.prog 58 #[.pointer none] w (Rv R) := calls_of_tr (L := lk []) Try.func58 hG hM (by rw [B58n_eq] at h; exact h)

/-- (*locution/prefix.Seq).Sum -/
def B51n (x_1 : Int) (x_2 : Int) (w : World) (R : Value → World → Prop) : Prop :=
  Calls Try.prog 56 #[.pointer none] w (Rv fun v1 w2 => ∃ n3 : Int, v1 = .int .i64 n3 ∧ br (decide ((min x_2 n3) ≤ (max x_1 (0 : Int)))) (R (.int .i64 0) w2) (False))
theorem B51n_eq : @B51n = fun (x_1 : Int) (x_2 : Int) (w : World) (R : Value → World → Prop) => trF Try.prog G (lk []) Try.f51 [.pointer none, .int .i64 x_1, .int .i64 x_2] w R := by kernel_rfl
theorem c51n (x_1 : Int) (x_2 : Int) (w : World) (R : Value → World → Prop) (h : B51n x_1 x_2 w R) : Calls Try.prog 51 #[.pointer none, .int .i64 x_1, .int .i64 x_2] w (Rv R) := calls_of_tr (L := lk []) Try.func51 hG hM (by rw [B51n_eq] at h; exact h)

/-- (*locution/prefix.Seq).Where -/
def B53n (x_1 : Int) (w : World) (R : Value → World → Prop) : Prop :=
  br (decide (x_1 < (0 : Int))) (R (.int .i64 (-1)) w) (Calls Try.prog 55 #[.pointer none] w (Rv fun v1 w2 => ∃ n3 : Int, v1 = .int .i64 n3 ∧
    br (decide (n3 ≤ x_1)) (R (.int .i64 (-1)) w2) (False)))
theorem B53n_eq : @B53n = fun (x_1 : Int) (w : World) (R : Value → World → Prop) => trF Try.prog G (lk []) Try.f53 [.pointer none, .int .i64 x_1] w R := by kernel_rfl
theorem c53n (x_1 : Int) (w : World) (R : Value → World → Prop) (h : B53n x_1 w R) : Calls Try.prog 53 #[.pointer none, .int .i64 x_1] w (Rv R) := calls_of_tr (L := lk []) Try.func53 hG hM (by rw [B53n_eq] at h; exact h)

end Go.Proofs.Ytbgbmliladhpeaa.V
