/- The verification conditions of functions, printed by a program of this work (pr.py) and checked here by the kernel. -/
import Derived.Test.YtmpgklgjmkcpdaaBE
set_option maxRecDepth 100000
set_option linter.unusedVariables false
namespace Go.Proofs.Ytmpgklgjmkcpdaa.V
open Go Go.VC

/-- locution/prefix.New -/
def B46 (x_0 : Slc) (w : World) (R : Value → World → Prop) : Prop :=
  Calls Try.prog 88 #[.slice x_0.a x_0.len x_0.cap, .int .i64 1099511627776] w (Rv fun v1 w2 => ∃ l3 : Slc, v1 = .slice l3.a l3.len l3.cap ∧
    br l3.a.isNone (R (.tuple #[.pointer none, .int .i64 8]) w2) (Calls Try.prog 47 #[.slice l3.a l3.len l3.cap] w2 (Rv fun v4 w5 =>
    ∃ p6 : Option Addr, ∃ n7 : Int, v4 = .tuple #[.pointer p6, .int .i64 n7] ∧
    br (!(decide (n7 = (0 : Int)))) (R (.tuple #[.pointer none, .int .i64 n7]) w5) (R (.tuple #[.pointer (some ⟨w5.heap.size, 0, none⟩), .int .i64 0]) (w5.alloc (.cells #[.pointer p6] 97))))))
theorem B46_eq : @B46 = fun (x_0 : Slc) (w : World) (R : Value → World → Prop) => trF Try.prog G (lk []) Try.f46 [.slice x_0.a x_0.len x_0.cap] w R := by kernel_rfl
theorem c46 (x_0 : Slc) (w : World) (R : Value → World → Prop) (h : B46 x_0 w R) : Calls Try.prog 46 #[.slice x_0.a x_0.len x_0.cap] w (Rv R) := calls_of_tr (L := lk []) Try.func46 hG hM (by rw [B46_eq] at h; exact h)

/-- (*locution/prefix.Seq).Len -/
def B52 (a_0 : Addr) (w : World) (R : Value → World → Prop) : Prop :=
  ∃ p1 : Option Addr, w.cell? (Addr.add a_0 0) = some (.pointer p1) ∧ Calls Try.prog 54 #[.pointer p1] w (Rv fun v2 w3 => ∃ n4 : Int, v2 = .int .i64 n4 ∧
    R (.int .i64 (max (IntKind.i64.wrap (n4 - 1)) (0 : Int))) w3)
theorem B52_eq : @B52 = fun (a_0 : Addr) (w : World) (R : Value → World → Prop) => trF Try.prog G (lk []) Try.f52 [.pointer (some a_0)] w R := by kernel_rfl
theorem c52 (a_0 : Addr) (w : World) (R : Value → World → Prop) (h : B52 a_0 w R) : Calls Try.prog 52 #[.pointer (some a_0)] w (Rv R) := calls_of_tr (L := lk []) Try.func52 hG hM (by rw [B52_eq] at h; exact h)

/-- (*locution/prefix.Seq).Total -/
def B53 (a_0 : Addr) (w : World) (R : Value → World → Prop) : Prop :=
  ∃ p1 : Option Addr, w.cell? (Addr.add a_0 0) = some (.pointer p1) ∧ Calls Try.prog 99 #[.pointer p1] w (Rv fun v2 w3 => ∃ n4 : Int, v2 = .int .i64 n4 ∧
    R (.int .i64 (max n4 (0 : Int))) w3)
theorem B53_eq : @B53 = fun (a_0 : Addr) (w : World) (R : Value → World → Prop) => trF Try.prog G (lk []) Try.f53 [.pointer (some a_0)] w R := by kernel_rfl
theorem c53 (a_0 : Addr) (w : World) (R : Value → World → Prop) (h : B53 a_0 w R) : Calls Try.prog 53 #[.pointer (some a_0)] w (Rv R) := calls_of_tr (L := lk []) Try.func53 hG hM (by rw [B53_eq] at h; exact h)

/-- (*locution/prefix.Seq).Sum -/
def B81 (a_0 : Addr) (x_1 : Int) (x_2 : Int) (w : World) (R : Value → World → Prop) : Prop :=
  Calls Try.prog 52 #[.pointer (some a_0)] w (Rv fun v1 w2 => ∃ n3 : Int, v1 = .int .i64 n3 ∧
    br (decide ((min x_2 n3) ≤ (max x_1 (0 : Int)))) (R (.int .i64 0) w2) (∃ p4 : Option Addr, (World.drew w2).cell? (Addr.add a_0 0) = some (.pointer p4) ∧
    ∃ p5 : Option Addr, (World.drew w2).cell? (Addr.add a_0 0) = some (.pointer p5) ∧
    Calls Try.prog 51 #[.pointer p4, .int .i64 (min x_2 n3)] (World.drew w2) (Rv fun v6 w7 => ∃ n8 : Int, v6 = .int .i64 n8 ∧
    w7.cell? (Addr.add a_0 0) = some (.pointer p5) ∧ Calls Try.prog 51 #[.pointer p5, .int .i64 (max x_1 (0 : Int))] w7 (Rv fun v9 w10 =>
    ∃ n11 : Int, v9 = .int .i64 n11 ∧ R (.int .i64 (IntKind.i64.wrap (n8 - n11))) w10))))
theorem B81_eq : @B81 = fun (a_0 : Addr) (x_1 : Int) (x_2 : Int) (w : World) (R : Value → World → Prop) => trF Try.prog G (lk []) Try.f81 [.pointer (some a_0), .int .i64 x_1, .int .i64 x_2] w R := by kernel_rfl
theorem c81 (a_0 : Addr) (x_1 : Int) (x_2 : Int) (w : World) (R : Value → World → Prop) (h : B81 a_0 x_1 x_2 w R) : Calls Try.prog 81 #[.pointer (some a_0), .int .i64 x_1, .int .i64 x_2] w (Rv R) := calls_of_tr (L := lk []) Try.func81 hG hM (by rw [B81_eq] at h; exact h)

/-- (*locution/prefix.Seq).At -/
def B82 (a_0 : Addr) (x_1 : Int) (w : World) (R : Value → World → Prop) : Prop :=
  br (decide (x_1 < (0 : Int))) (R (.int .i64 (-1)) w) (Calls Try.prog 52 #[.pointer (some a_0)] w (Rv fun v1 w2 => ∃ n3 : Int, v1 = .int .i64 n3 ∧
    br (decide (n3 ≤ x_1)) (R (.int .i64 (-1)) w2) (∃ p4 : Option Addr, (World.drew w2).cell? (Addr.add a_0 0) = some (.pointer p4) ∧
    ∃ p5 : Option Addr, (World.drew w2).cell? (Addr.add a_0 0) = some (.pointer p5) ∧
    Calls Try.prog 51 #[.pointer p4, .int .i64 (IntKind.i64.wrap (x_1 + 1))] (World.drew w2) (Rv fun v6 w7 => ∃ n8 : Int, v6 = .int .i64 n8 ∧
    w7.cell? (Addr.add a_0 0) = some (.pointer p5) ∧ Calls Try.prog 51 #[.pointer p5, .int .i64 x_1] w7 (Rv fun v9 w10 => ∃ n11 : Int, v9 = .int .i64 n11 ∧
    R (.int .i64 (IntKind.i64.wrap (n8 - n11))) w10)))))
theorem B82_eq : @B82 = fun (a_0 : Addr) (x_1 : Int) (w : World) (R : Value → World → Prop) => trF Try.prog G (lk []) Try.f82 [.pointer (some a_0), .int .i64 x_1] w R := by kernel_rfl
theorem c82 (a_0 : Addr) (x_1 : Int) (w : World) (R : Value → World → Prop) (h : B82 a_0 x_1 w R) : Calls Try.prog 82 #[.pointer (some a_0), .int .i64 x_1] w (Rv R) := calls_of_tr (L := lk []) Try.func82 hG hM (by rw [B82_eq] at h; exact h)

/-- (*locution/prefix.Seq).Where -/
def B85 (a_0 : Addr) (x_1 : Int) (w : World) (R : Value → World → Prop) : Prop :=
  br (decide (x_1 < (0 : Int))) (R (.int .i64 (-1)) w) (Calls Try.prog 53 #[.pointer (some a_0)] w (Rv fun v1 w2 => ∃ n3 : Int, v1 = .int .i64 n3 ∧
    br (decide (n3 ≤ x_1)) (R (.int .i64 (-1)) w2) (∃ p4 : Option Addr, w2.cell? (Addr.add a_0 0) = some (.pointer p4) ∧
    Calls Try.prog 107 #[.pointer p4, .int .i64 x_1] w2 (Rv fun v5 w6 => ∃ n7 : Int, ∃ n8 : Int, v5 = .tuple #[.int .i64 n7, .int .i64 n8] ∧ R (.int .i64 n7) w6))))
theorem B85_eq : @B85 = fun (a_0 : Addr) (x_1 : Int) (w : World) (R : Value → World → Prop) => trF Try.prog G (lk []) Try.f85 [.pointer (some a_0), .int .i64 x_1] w R := by kernel_rfl
theorem c85 (a_0 : Addr) (x_1 : Int) (w : World) (R : Value → World → Prop) (h : B85 a_0 x_1 w R) : Calls Try.prog 85 #[.pointer (some a_0), .int .i64 x_1] w (Rv R) := calls_of_tr (L := lk []) Try.func85 hG hM (by rw [B85_eq] at h; exact h)

/-- (*locution/prefix.Seq).Size -/
def B86 (a_0 : Addr) (w : World) (R : Value → World → Prop) : Prop :=
  ∃ p1 : Option Addr, w.cell? (Addr.add a_0 0) = some (.pointer p1) ∧ Calls Try.prog 76 #[.pointer p1] w (Rv fun v2 w3 => ∃ n4 : Int, v2 = .int .i64 n4 ∧
    R (.int .i64 n4) w3)
theorem B86_eq : @B86 = fun (a_0 : Addr) (w : World) (R : Value → World → Prop) => trF Try.prog G (lk []) Try.f86 [.pointer (some a_0)] w R := by kernel_rfl
theorem c86 (a_0 : Addr) (w : World) (R : Value → World → Prop) (h : B86 a_0 w R) : Calls Try.prog 86 #[.pointer (some a_0)] w (Rv R) := calls_of_tr (L := lk []) Try.func86 hG hM (by rw [B86_eq] at h; exact h)

/-- locution/prefix.running[int] -/
def B88 (x_0 : Slc) (x_1 : Int) (w : World) (R : Value → World → Prop) : Prop :=
  
    ∃ w1 : World, ∃ l2 : Slc, (Instr.makeSlice 22 (.int .i64 1) (.int .i64 (IntKind.i64.wrap ((x_0.len : Int) + 1)))).run Try.prog w = .ok (.slice l2.a l2.len l2.cap) w1 ∧
    ∃ (I3 : Slc → Int → Int → World → Prop) (μ4 : Slc → Int → Int → World → Nat), I3 l2 (0 : Int) (0 : Int) w1 ∧
    ∀ x5 : Slc, ∀ x6 : Int, ∀ x7 : Int, ∀ w8 : World, I3 x5 x6 x7 w8 → br (decide (x7 < (x_0.len : Int))) (0 ≤ x7 ∧ x7 < (x_0.len : Int) ∧ ∃ a9, x_0.a = some a9 ∧
    ∃ n10 : Int, w8.cell? (Addr.add a9 (x7.toNat * 1)) = some (.int .i64 n10) ∧
    br (decide (n10 < (0 : Int))) (R (.slice none 0 0) w8) (br (decide ((IntKind.i64.wrap (x_1 - x6)) < n10)) (R (.slice none 0 0) w8) (∃ w11 : World, ∃ l12 : Slc, (Builtin.append_ #[22, 22] 22 #[.slice x5.a x5.len x5.cap, .slice (some ⟨w8.heap.size, 0, none⟩) 1 1]).run Try.prog (w8.alloc (.cells #[.int .i64 (IntKind.i64.wrap (x6 + n10))] 3)) = .ok (.slice l12.a l12.len l12.cap) w11 ∧
    I3 l12 (IntKind.i64.wrap (x6 + n10)) (IntKind.i64.wrap (x7 + 1)) w11 ∧
    μ4 l12 (IntKind.i64.wrap (x6 + n10)) (IntKind.i64.wrap (x7 + 1)) w11 < μ4 x5 x6 x7 w8))) (R (.slice x5.a x5.len x5.cap) w8)
theorem B88_eq : @B88 = fun (x_0 : Slc) (x_1 : Int) (w : World) (R : Value → World → Prop) => trF Try.prog G (lk [(4, [(5, .slc), (6, .int .i64), (15, .int .i64)])]) Try.f88 [.slice x_0.a x_0.len x_0.cap, .int .i64 x_1] w R := by kernel_rfl
theorem c88 (x_0 : Slc) (x_1 : Int) (w : World) (R : Value → World → Prop) (h : B88 x_0 x_1 w R) : Calls Try.prog 88 #[.slice x_0.a x_0.len x_0.cap, .int .i64 x_1] w (Rv R) := calls_of_tr (L := lk [(4, [(5, .slc), (6, .int .i64), (15, .int .i64)])]) Try.func88 hG hM (by rw [B88_eq] at h; exact h)

/-- locution/locutionref09.Sums -/
def B45 (x_0 : Slc) (w : World) (R : Value → World → Prop) : Prop :=
  ∃ (I1 : Slc → Int → Int → World → Prop) (μ2 : Slc → Int → Int → World →
    Nat), I1 ⟨(some ⟨w.heap.size, 0, none⟩), 1, 1⟩ (0 : Int) (0 : Int) (w.alloc (.cells #[.int .i64 0] 3)) ∧
    ∀ x3 : Slc, ∀ x4 : Int, ∀ x5 : Int, ∀ w6 : World, I1 x3 x4 x5 w6 → br (decide (x5 < (x_0.len : Int))) (0 ≤ x5 ∧ x5 < (x_0.len : Int) ∧ ∃ a7, x_0.a = some a7 ∧
    ∃ n8 : Int, w6.cell? (Addr.add a7 (x5.toNat * 1)) = some (.int .i64 n8) ∧ br (decide (n8 < (0 : Int))) (R (.tuple #[.slice none 0 0, .bool false]) w6) (0 ≤ x5 ∧
    x5 < (x_0.len : Int) ∧ ∃ a9, x_0.a = some a9 ∧ ∃ n10 : Int, w6.cell? (Addr.add a9 (x5.toNat * 1)) = some (.int .i64 n10) ∧
    br (decide ((IntKind.i64.wrap (1099511627776 - x4)) < n10)) (R (.tuple #[.slice none 0 0, .bool false]) w6) (0 ≤ x5 ∧ x5 < (x_0.len : Int) ∧
    ∃ a11, x_0.a = some a11 ∧ ∃ n12 : Int, w6.cell? (Addr.add a11 (x5.toNat * 1)) = some (.int .i64 n12) ∧
    ∃ w13 : World, ∃ l14 : Slc, (Builtin.append_ #[22, 22] 22 #[.slice x3.a x3.len x3.cap, .slice (some ⟨w6.heap.size, 0, none⟩) 1 1]).run Try.prog (w6.alloc (.cells #[.int .i64 (IntKind.i64.wrap (x4 + n12))] 3)) = .ok (.slice l14.a l14.len l14.cap) w13 ∧
    I1 l14 (IntKind.i64.wrap (x4 + n12)) (IntKind.i64.wrap (x5 + 1)) w13 ∧
    μ2 l14 (IntKind.i64.wrap (x4 + n12)) (IntKind.i64.wrap (x5 + 1)) w13 < μ2 x3 x4 x5 w6))) (R (.tuple #[.slice x3.a x3.len x3.cap, .bool true]) w6)
theorem B45_eq : @B45 = fun (x_0 : Slc) (w : World) (R : Value → World → Prop) => trF Try.prog G (lk [(4, [(4, .slc), (5, .int .i64), (6, .int .i64)])]) Try.f45 [.slice x_0.a x_0.len x_0.cap] w R := by kernel_rfl
theorem c45 (x_0 : Slc) (w : World) (R : Value → World → Prop) (h : B45 x_0 w R) : Calls Try.prog 45 #[.slice x_0.a x_0.len x_0.cap] w (Rv R) := calls_of_tr (L := lk [(4, [(4, .slc), (5, .int .i64), (6, .int .i64)])]) Try.func45 hG hM (by rw [B45_eq] at h; exact h)

/-- (*locution/prefix.Seq).Len -/
def B52n  (w : World) (R : Value → World → Prop) : Prop :=
  R (.int .i64 0) w
theorem B52n_eq : @B52n = fun (w : World) (R : Value → World → Prop) => trF Try.prog G (lk []) Try.f52 [.pointer none] w R := by kernel_rfl
theorem c52n  (w : World) (R : Value → World → Prop) (h : B52n  w R) : Calls Try.prog 52 #[.pointer none] w (Rv R) := calls_of_tr (L := lk []) Try.func52 hG hM (by rw [B52n_eq] at h; exact h)

/-- (*locution/prefix.Seq).At -/
def B82n (x_1 : Int) (w : World) (R : Value → World → Prop) : Prop :=
  br (decide (x_1 < (0 : Int))) (R (.int .i64 (-1)) w) (Calls Try.prog 52 #[.pointer none] w (Rv fun v1 w2 => ∃ n3 : Int, v1 = .int .i64 n3 ∧
    br (decide (n3 ≤ x_1)) (R (.int .i64 (-1)) w2) (False)))
theorem B82n_eq : @B82n = fun (x_1 : Int) (w : World) (R : Value → World → Prop) => trF Try.prog G (lk []) Try.f82 [.pointer none, .int .i64 x_1] w R := by kernel_rfl
theorem c82n (x_1 : Int) (w : World) (R : Value → World → Prop) (h : B82n x_1 w R) : Calls Try.prog 82 #[.pointer none, .int .i64 x_1] w (Rv R) := calls_of_tr (L := lk []) Try.func82 hG hM (by rw [B82n_eq] at h; exact h)

/-- (*locution/prefix.Seq).Total -/
def B53n  (w : World) (R : Value → World → Prop) : Prop :=
  R (.int .i64 0) w
theorem B53n_eq : @B53n = fun (w : World) (R : Value → World → Prop) => trF Try.prog G (lk []) Try.f53 [.pointer none] w R := by kernel_rfl
theorem c53n  (w : World) (R : Value → World → Prop) (h : B53n  w R) : Calls Try.prog 53 #[.pointer none] w (Rv R) := calls_of_tr (L := lk []) Try.func53 hG hM (by rw [B53n_eq] at h; exact h)

/-- (*locution/prefix.Seq).Size -/
def B86n  (w : World) (R : Value → World → Prop) : Prop :=
  R (.int .i64 0) w
theorem B86n_eq : @B86n = fun (w : World) (R : Value → World → Prop) => trF Try.prog G (lk []) Try.f86 [.pointer none] w R := by kernel_rfl
theorem c86n  (w : World) (R : Value → World → Prop) (h : B86n  w R) : Calls Try.prog 86 #[.pointer none] w (Rv R) := calls_of_tr (L := lk []) Try.func86 hG hM (by rw [B86n_eq] at h; exact h)

/-- (*locution/prefix.Seq).Sum -/
def B81n (x_1 : Int) (x_2 : Int) (w : World) (R : Value → World → Prop) : Prop :=
  Calls Try.prog 52 #[.pointer none] w (Rv fun v1 w2 => ∃ n3 : Int, v1 = .int .i64 n3 ∧ br (decide ((min x_2 n3) ≤ (max x_1 (0 : Int)))) (R (.int .i64 0) w2) (False))
theorem B81n_eq : @B81n = fun (x_1 : Int) (x_2 : Int) (w : World) (R : Value → World → Prop) => trF Try.prog G (lk []) Try.f81 [.pointer none, .int .i64 x_1, .int .i64 x_2] w R := by kernel_rfl
theorem c81n (x_1 : Int) (x_2 : Int) (w : World) (R : Value → World → Prop) (h : B81n x_1 x_2 w R) : Calls Try.prog 81 #[.pointer none, .int .i64 x_1, .int .i64 x_2] w (Rv R) := calls_of_tr (L := lk []) Try.func81 hG hM (by rw [B81n_eq] at h; exact h)

/-- (*locution/prefix.Seq).Where -/
def B85n (x_1 : Int) (w : World) (R : Value → World → Prop) : Prop :=
  br (decide (x_1 < (0 : Int))) (R (.int .i64 (-1)) w) (Calls Try.prog 53 #[.pointer none] w (Rv fun v1 w2 => ∃ n3 : Int, v1 = .int .i64 n3 ∧
    br (decide (n3 ≤ x_1)) (R (.int .i64 (-1)) w2) (False)))
theorem B85n_eq : @B85n = fun (x_1 : Int) (w : World) (R : Value → World → Prop) => trF Try.prog G (lk []) Try.f85 [.pointer none, .int .i64 x_1] w R := by kernel_rfl
theorem c85n (x_1 : Int) (w : World) (R : Value → World → Prop) (h : B85n x_1 w R) : Calls Try.prog 85 #[.pointer none, .int .i64 x_1] w (Rv R) := calls_of_tr (L := lk []) Try.func85 hG hM (by rw [B85n_eq] at h; exact h)

end Go.Proofs.Ytmpgklgjmkcpdaa.V
