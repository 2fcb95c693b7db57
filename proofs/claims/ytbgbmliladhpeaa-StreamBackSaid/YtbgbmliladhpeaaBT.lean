/- The verification conditions of functions, printed by a program of this work (pr.py) and checked here by the kernel. -/
import Derived.Test.YtbgbmliladhpeaaBP
set_option maxRecDepth 100000
set_option linter.unusedVariables false
namespace Go.Proofs.Ytbgbmliladhpeaa.V
open Go Go.VC

/-- (*locution/stream.Writer).Row -/
def B18 (a_0 : Addr) (w : World) (R : Value → World → Prop) : Prop :=
  ∃ p1 : Option Addr, w.cell? (Addr.add a_0 0) = some (.pointer p1) ∧ Calls Try.prog 72 #[.pointer p1] w (Rv fun v2 w3 => ∃ p4 : Option Addr, v2 = .pointer p4 ∧
    R (.pointer p4) w3)
theorem B18_eq : @B18 = fun (a_0 : Addr) (w : World) (R : Value → World → Prop) => trF Try.prog G (lk []) Try.f18 [.pointer (some a_0)] w R := by kernel_rfl
theorem c18 (a_0 : Addr) (w : World) (R : Value → World → Prop) (h : B18 a_0 w R) : Calls Try.prog 18 #[.pointer (some a_0)] w (Rv R) := calls_of_tr (L := lk []) Try.func18 hG hM (by rw [B18_eq] at h; exact h)

/-- locution/stream.Open -/
def B24 (a_0 : Addr) (w : World) (R : Value → World → Prop) : Prop :=
  Calls Try.prog 72 #[.pointer (some a_0)] w (Rv fun v1 w2 => ∃ p3 : Option Addr, v1 = .pointer p3 ∧
    R (.pointer (some ⟨w2.heap.size, 0, none⟩)) (w2.alloc (.cells #[.pointer p3, .int .i64 0, .int .i64 0] 97)))
theorem B24_eq : @B24 = fun (a_0 : Addr) (w : World) (R : Value → World → Prop) => trF Try.prog G (lk []) Try.f24 [.pointer (some a_0)] w R := by kernel_rfl
theorem c24 (a_0 : Addr) (w : World) (R : Value → World → Prop) (h : B24 a_0 w R) : Calls Try.prog 24 #[.pointer (some a_0)] w (Rv R) := calls_of_tr (L := lk []) Try.func24 hG hM (by rw [B24_eq] at h; exact h)

/-- (*locution/stream.Reader).Left -/
def B27 (a_0 : Addr) (w : World) (R : Value → World → Prop) : Prop :=
  ∃ p1 : Option Addr, (World.drew w).cell? (Addr.add a_0 0) = some (.pointer p1) ∧ ∃ n2 : Int, (World.drew w).cell? (Addr.add a_0 1) = some (.int .i64 n2) ∧
    Calls Try.prog 19 #[.pointer p1] (World.drew w) (Rv fun v3 w4 => ∃ n5 : Int, v3 = .int .i64 n5 ∧ w4.cell? (Addr.add a_0 1) = some (.int .i64 n2) ∧
    R (.int .i64 (IntKind.i64.wrap (n5 - n2))) w4)
theorem B27_eq : @B27 = fun (a_0 : Addr) (w : World) (R : Value → World → Prop) => trF Try.prog G (lk []) Try.f27 [.pointer (some a_0)] w R := by kernel_rfl
theorem c27 (a_0 : Addr) (w : World) (R : Value → World → Prop) (h : B27 a_0 w R) : Calls Try.prog 27 #[.pointer (some a_0)] w (Rv R) := calls_of_tr (L := lk []) Try.func27 hG hM (by rw [B27_eq] at h; exact h)

/-- (*locution/stream.Reader).Err -/
def B28 (a_0 : Addr) (w : World) (R : Value → World → Prop) : Prop :=
  ∃ n1 : Int, w.cell? (Addr.add a_0 2) = some (.int .i64 n1) ∧ R (.int .i64 n1) w
theorem B28_eq : @B28 = fun (a_0 : Addr) (w : World) (R : Value → World → Prop) => trF Try.prog G (lk []) Try.f28 [.pointer (some a_0)] w R := by kernel_rfl
theorem c28 (a_0 : Addr) (w : World) (R : Value → World → Prop) (h : B28 a_0 w R) : Calls Try.prog 28 #[.pointer (some a_0)] w (Rv R) := calls_of_tr (L := lk []) Try.func28 hG hM (by rw [B28_eq] at h; exact h)

/-- (*locution/stream.Reader).End -/
def B29 (a_0 : Addr) (w : World) (R : Value → World → Prop) : Prop :=
  Calls Try.prog 28 #[.pointer (some a_0)] w (Rv fun v1 w2 => ∃ n3 : Int, v1 = .int .i64 n3 ∧
    br (decide (n3 = (0 : Int))) (Calls Try.prog 27 #[.pointer (some a_0)] w2 (Rv fun v4 w5 => ∃ n6 : Int, v4 = .int .i64 n6 ∧
    br (decide ((0 : Int) < n6)) (R (.int .i64 3) w5) (Calls Try.prog 28 #[.pointer (some a_0)] w5 (Rv fun v7 w8 => ∃ n9 : Int, v7 = .int .i64 n9 ∧
    R (.int .i64 n9) w8)))) (Calls Try.prog 28 #[.pointer (some a_0)] w2 (Rv fun v10 w11 => ∃ n12 : Int, v10 = .int .i64 n12 ∧ R (.int .i64 n12) w11)))
theorem B29_eq : @B29 = fun (a_0 : Addr) (w : World) (R : Value → World → Prop) => trF Try.prog G (lk []) Try.f29 [.pointer (some a_0)] w R := by kernel_rfl
theorem c29 (a_0 : Addr) (w : World) (R : Value → World → Prop) (h : B29 a_0 w R) : Calls Try.prog 29 #[.pointer (some a_0)] w (Rv R) := calls_of_tr (L := lk []) Try.func29 hG hM (by rw [B29_eq] at h; exact h)

/-- (*locution/stream.Writer).Gamma -/
def B59 (a_0 : Addr) (x_1 : Int) (w : World) (R : Value → World → Prop) : Prop :=
  br (decide (x_1 = (0 : Int))) (R (.int .i64 8) w) (Calls Try.prog 80 #[.int .u64 x_1] w (Rv fun v1 w2 => ∃ n3 : Int, v1 = .int .i64 n3 ∧
    Calls Try.prog 92 #[.pointer (some a_0), .int .i64 (IntKind.i64.wrap (n3 - 1))] w2 (Rv fun v4 w5 => v4 = .tuple #[] ∧
    ∃ p6 : Option Addr, w5.cell? (Addr.add a_0 0) = some (.pointer p6) ∧
    Calls Try.prog 93 #[.func (.func 30) #[.pointer p6] #[], .int .u64 x_1, .int .i64 (IntKind.i64.wrap (n3 - 1))] w5 (Rv fun v7 w8 => v7 = .tuple #[] ∧
    R (.int .i64 0) w8))))
theorem B59_eq : @B59 = fun (a_0 : Addr) (x_1 : Int) (w : World) (R : Value → World → Prop) => trF Try.prog G (lk []) Try.f59 [.pointer (some a_0), .int .u64 x_1] w R := by kernel_rfl
theorem c59 (a_0 : Addr) (x_1 : Int) (w : World) (R : Value → World → Prop) (h : B59 a_0 x_1 w R) : Calls Try.prog 59 #[.pointer (some a_0), .int .u64 x_1] w (Rv R) := calls_of_tr (L := lk []) Try.func59 hG hM (by rw [B59_eq] at h; exact h)

/-- (*locution/stream.Writer).Rice -/
def B60 (a_0 : Addr) (x_1 : Int) (x_2 : Int) (w : World) (R : Value → World → Prop) : Prop :=
  br (decide (x_2 < (0 : Int))) (R (.int .i64 1) w) (br (decide ((63 : Int) < x_2)) (R (.int .i64 1) w) (0 ≤ (IntKind.u64.wrap x_2) ∧
    br (decide ((4096 : Int) < (shR .u64 x_1 (IntKind.u64.wrap x_2)))) (R (.int .i64 8) w) (0 ≤ (IntKind.u64.wrap x_2) ∧
    Calls Try.prog 92 #[.pointer (some a_0), .int .i64 (IntKind.i64.wrap (shR .u64 x_1 (IntKind.u64.wrap x_2)))] w (Rv fun v1 w2 => v1 = .tuple #[] ∧
    ∃ p3 : Option Addr, w2.cell? (Addr.add a_0 0) = some (.pointer p3) ∧
    Calls Try.prog 93 #[.func (.func 30) #[.pointer p3] #[], .int .u64 x_1, .int .i64 x_2] w2 (Rv fun v4 w5 => v4 = .tuple #[] ∧ R (.int .i64 0) w5)))))
theorem B60_eq : @B60 = fun (a_0 : Addr) (x_1 : Int) (x_2 : Int) (w : World) (R : Value → World → Prop) => trF Try.prog G (lk []) Try.f60 [.pointer (some a_0), .int .u64 x_1, .int .i64 x_2] w R := by kernel_rfl
theorem c60 (a_0 : Addr) (x_1 : Int) (x_2 : Int) (w : World) (R : Value → World → Prop) (h : B60 a_0 x_1 x_2 w R) : Calls Try.prog 60 #[.pointer (some a_0), .int .u64 x_1, .int .i64 x_2] w (Rv R) := calls_of_tr (L := lk []) Try.func60 hG hM (by rw [B60_eq] at h; exact h)

/-- (*locution/stream.Reader).Gamma -/
def B62 (a_0 : Addr) (w : World) (R : Value → World → Prop) : Prop :=
  Calls Try.prog 95 #[.pointer (some a_0)] w (Rv fun v1 w2 => ∃ b3 : Bool, v1 = .bool b3 ∧
    br (!b3) (R (.int .u64 0) w2) (Calls Try.prog 96 #[.pointer (some a_0), .int .i64 63] w2 (Rv fun v4 w5 => ∃ n6 : Int, v4 = .int .i64 n6 ∧
    br (decide (n6 < (0 : Int))) (R (.int .u64 0) w5) (∃ n7 : Int, w5.cell? (Addr.add a_0 1) = some (.int .i64 n7) ∧
    Calls Try.prog 97 #[.pointer (some a_0), .int .i64 (IntKind.i64.wrap ((IntKind.i64.wrap (n7 + n6)) + 1)), .int .i64 n6] w5 (Rv fun v8 w9 =>
    ∃ n10 : Int, v8 = .int .u64 n10 ∧ ∃ n11 : Int, w9.cell? (Addr.add a_0 2) = some (.int .i64 n11) ∧
    br (!(decide (n11 = (0 : Int)))) (R (.int .u64 0) w9) (0 ≤ (IntKind.u64.wrap n6) ∧ R (.int .u64 (bOr .u64 (shL .u64 1 (IntKind.u64.wrap n6)) n10)) w9))))))
theorem B62_eq : @B62 = fun (a_0 : Addr) (w : World) (R : Value → World → Prop) => trF Try.prog G (lk []) Try.f62 [.pointer (some a_0)] w R := by kernel_rfl
theorem c62 (a_0 : Addr) (w : World) (R : Value → World → Prop) (h : B62 a_0 w R) : Calls Try.prog 62 #[.pointer (some a_0)] w (Rv R) := calls_of_tr (L := lk []) Try.func62 hG hM (by rw [B62_eq] at h; exact h)

/-- (*locution/stream.Reader).Rice -/
def B63 (a_0 : Addr) (x_1 : Int) (w : World) (R : Value → World → Prop) : Prop :=
  Calls Try.prog 95 #[.pointer (some a_0)] w (Rv fun v1 w2 => ∃ b3 : Bool, v1 = .bool b3 ∧
    br (!b3) (R (.int .u64 0) w2) (br (decide (x_1 < (0 : Int))) (Calls Try.prog 98 #[.pointer (some a_0), .int .i64 1] w2 (Rv fun v4 w5 => v4 = .tuple #[] ∧
    R (.int .u64 0) w5)) (br (decide ((63 : Int) < x_1)) (Calls Try.prog 98 #[.pointer (some a_0), .int .i64 1] w2 (Rv fun v6 w7 => v6 = .tuple #[] ∧
    R (.int .u64 0) w7)) (Calls Try.prog 96 #[.pointer (some a_0), .int .i64 4096] w2 (Rv fun v8 w9 => ∃ n10 : Int, v8 = .int .i64 n10 ∧
    br (decide (n10 < (0 : Int))) (R (.int .u64 0) w9) (Calls Try.prog 80 #[.int .u64 (IntKind.u64.wrap n10)] w9 (Rv fun v11 w12 => ∃ n13 : Int, v11 = .int .i64 n13 ∧
    br (decide ((64 : Int) < (IntKind.i64.wrap (n13 + x_1)))) (Calls Try.prog 98 #[.pointer (some a_0), .int .i64 3] w12 (Rv fun v14 w15 => v14 = .tuple #[] ∧
    R (.int .u64 0) w15)) (∃ n16 : Int, w12.cell? (Addr.add a_0 1) = some (.int .i64 n16) ∧
    Calls Try.prog 97 #[.pointer (some a_0), .int .i64 (IntKind.i64.wrap ((IntKind.i64.wrap (n16 + n10)) + 1)), .int .i64 x_1] w12 (Rv fun v17 w18 =>
    ∃ n19 : Int, v17 = .int .u64 n19 ∧ ∃ n20 : Int, w18.cell? (Addr.add a_0 2) = some (.int .i64 n20) ∧
    br (!(decide (n20 = (0 : Int)))) (R (.int .u64 0) w18) (0 ≤ (IntKind.u64.wrap x_1) ∧
    R (.int .u64 (bOr .u64 (shL .u64 (IntKind.u64.wrap n10) (IntKind.u64.wrap x_1)) n19)) w18))))))))))
theorem B63_eq : @B63 = fun (a_0 : Addr) (x_1 : Int) (w : World) (R : Value → World → Prop) => trF Try.prog G (lk []) Try.f63 [.pointer (some a_0), .int .i64 x_1] w R := by kernel_rfl
theorem c63 (a_0 : Addr) (x_1 : Int) (w : World) (R : Value → World → Prop) (h : B63 a_0 x_1 w R) : Calls Try.prog 63 #[.pointer (some a_0), .int .i64 x_1] w (Rv R) := calls_of_tr (L := lk []) Try.func63 hG hM (by rw [B63_eq] at h; exact h)

/-- (*locution/stream.Writer).Fixed -/
def B69 (a_0 : Addr) (x_1 : Int) (x_2 : Int) (w : World) (R : Value → World → Prop) : Prop :=
  Calls Try.prog 100 #[.pointer (some a_0)] w (Rv fun v1 w2 => ∃ p3 : Option Addr, v1 = .pointer p3 ∧
    Calls Try.prog 30 #[.pointer p3, .int .u64 x_1, .int .i64 x_2] w2 (Rv fun v4 w5 => ∃ n6 : Int, v4 = .int .i64 n6 ∧ R (.int .i64 n6) w5))
theorem B69_eq : @B69 = fun (a_0 : Addr) (x_1 : Int) (x_2 : Int) (w : World) (R : Value → World → Prop) => trF Try.prog G (lk []) Try.f69 [.pointer (some a_0), .int .u64 x_1, .int .i64 x_2] w R := by kernel_rfl
theorem c69 (a_0 : Addr) (x_1 : Int) (x_2 : Int) (w : World) (R : Value → World → Prop) (h : B69 a_0 x_1 x_2 w R) : Calls Try.prog 69 #[.pointer (some a_0), .int .u64 x_1, .int .i64 x_2] w (Rv R) := calls_of_tr (L := lk []) Try.func69 hG hM (by rw [B69_eq] at h; exact h)

/-- (*locution/stream.Writer).Unary -/
def B70 (a_0 : Addr) (x_1 : Int) (w : World) (R : Value → World → Prop) : Prop :=
  
    br (decide (x_1 < (0 : Int))) (R (.int .i64 8) w) (br (decide ((4096 : Int) < x_1)) (R (.int .i64 8) w) (Calls Try.prog 92 #[.pointer (some a_0), .int .i64 x_1] w (Rv fun v1 w2 =>
    v1 = .tuple #[] ∧ R (.int .i64 0) w2)))
theorem B70_eq : @B70 = fun (a_0 : Addr) (x_1 : Int) (w : World) (R : Value → World → Prop) => trF Try.prog G (lk []) Try.f70 [.pointer (some a_0), .int .i64 x_1] w R := by kernel_rfl
theorem c70 (a_0 : Addr) (x_1 : Int) (w : World) (R : Value → World → Prop) (h : B70 a_0 x_1 w R) : Calls Try.prog 70 #[.pointer (some a_0), .int .i64 x_1] w (Rv R) := calls_of_tr (L := lk []) Try.func70 hG hM (by rw [B70_eq] at h; exact h)

/-- locution/stream.copied -/
def B72 (a_0 : Addr) (w : World) (R : Value → World → Prop) : Prop :=
  Calls Try.prog 21 #[.pointer (some a_0)] w (Rv fun v1 w2 => ∃ l3 : Slc, v1 = .slice l3.a l3.len l3.cap ∧ Calls Try.prog 19 #[.pointer (some a_0)] w2 (Rv fun v4 w5 =>
    ∃ n6 : Int, v4 = .int .i64 n6 ∧ Calls Try.prog 101 #[.slice l3.a l3.len l3.cap, .int .i64 n6] w5 (Rv fun v7 w8 =>
    ∃ p9 : Option Addr, ∃ n10 : Int, v7 = .tuple #[.pointer p9, .int .i64 n10] ∧ R (.pointer p9) w8)))
theorem B72_eq : @B72 = fun (a_0 : Addr) (w : World) (R : Value → World → Prop) => trF Try.prog G (lk []) Try.f72 [.pointer (some a_0)] w R := by kernel_rfl
theorem c72 (a_0 : Addr) (w : World) (R : Value → World → Prop) (h : B72 a_0 w R) : Calls Try.prog 72 #[.pointer (some a_0)] w (Rv R) := calls_of_tr (L := lk []) Try.func72 hG hM (by rw [B72_eq] at h; exact h)

/-- (*locution/stream.Reader).Fixed -/
def B78 (a_0 : Addr) (x_1 : Int) (w : World) (R : Value → World → Prop) : Prop :=
  Calls Try.prog 95 #[.pointer (some a_0)] w (Rv fun v1 w2 => ∃ b3 : Bool, v1 = .bool b3 ∧
    br (!b3) (R (.int .u64 0) w2) (br (decide (x_1 < (0 : Int))) (Calls Try.prog 98 #[.pointer (some a_0), .int .i64 1] w2 (Rv fun v4 w5 => v4 = .tuple #[] ∧
    R (.int .u64 0) w5)) (br (decide ((64 : Int) < x_1)) (Calls Try.prog 98 #[.pointer (some a_0), .int .i64 1] w2 (Rv fun v6 w7 => v6 = .tuple #[] ∧
    R (.int .u64 0) w7)) (∃ n8 : Int, w2.cell? (Addr.add a_0 1) = some (.int .i64 n8) ∧
    Calls Try.prog 97 #[.pointer (some a_0), .int .i64 n8, .int .i64 x_1] w2 (Rv fun v9 w10 => ∃ n11 : Int, v9 = .int .u64 n11 ∧ R (.int .u64 n11) w10)))))
theorem B78_eq : @B78 = fun (a_0 : Addr) (x_1 : Int) (w : World) (R : Value → World → Prop) => trF Try.prog G (lk []) Try.f78 [.pointer (some a_0), .int .i64 x_1] w R := by kernel_rfl
theorem c78 (a_0 : Addr) (x_1 : Int) (w : World) (R : Value → World → Prop) (h : B78 a_0 x_1 w R) : Calls Try.prog 78 #[.pointer (some a_0), .int .i64 x_1] w (Rv R) := calls_of_tr (L := lk []) Try.func78 hG hM (by rw [B78_eq] at h; exact h)

/-- (*locution/stream.Reader).Unary -/
def B79 (a_0 : Addr) (w : World) (R : Value → World → Prop) : Prop :=
  Calls Try.prog 95 #[.pointer (some a_0)] w (Rv fun v1 w2 => ∃ b3 : Bool, v1 = .bool b3 ∧
    br (!b3) (R (.int .i64 0) w2) (Calls Try.prog 96 #[.pointer (some a_0), .int .i64 4096] w2 (Rv fun v4 w5 => ∃ n6 : Int, v4 = .int .i64 n6 ∧
    br (decide (n6 < (0 : Int))) (R (.int .i64 0) w5) (∃ n7 : Int, w5.cell? (Addr.add a_0 1) = some (.int .i64 n7) ∧ (∃ u, w5.cell? (Addr.add a_0 1) = some u) ∧
    w5.frozen? (Addr.add a_0 1) = false ∧ R (.int .i64 n6) (w5.setCell (Addr.add a_0 1) (.int .i64 (IntKind.i64.wrap (n7 + (IntKind.i64.wrap (n6 + 1))))))))))
theorem B79_eq : @B79 = fun (a_0 : Addr) (w : World) (R : Value → World → Prop) => trF Try.prog G (lk []) Try.f79 [.pointer (some a_0)] w R := by kernel_rfl
theorem c79 (a_0 : Addr) (w : World) (R : Value → World → Prop) (h : B79 a_0 w R) : Calls Try.prog 79 #[.pointer (some a_0)] w (Rv R) := calls_of_tr (L := lk []) Try.func79 hG hM (by rw [B79_eq] at h; exact h)

/-- (*locution/stream.Writer).run -/
def B92 (a_0 : Addr) (x_1 : Int) (w : World) (R : Value → World → Prop) : Prop :=
  Calls Try.prog 100 #[.pointer (some a_0)] w (Rv fun v1 w2 => ∃ p3 : Option Addr, v1 = .pointer p3 ∧ ∃ (I4 : Int → World → Prop) (μ5 : Int → World → Nat), I4 x_1 w2 ∧
    ∀ x6 : Int, ∀ w7 : World, I4 x6 w7 → br (decide ((63 : Int) ≤ x6)) (Calls Try.prog 30 #[.pointer p3, .int .u64 0, .int .i64 63] w7 (Rv fun v8 w9 =>
    ∃ n10 : Int, v8 = .int .i64 n10 ∧ I4 (IntKind.i64.wrap (x6 - 63)) w9 ∧ μ5 (IntKind.i64.wrap (x6 - 63)) w9 < μ5 x6 w7)) (0 ≤ (IntKind.u64.wrap x6) ∧
    Calls Try.prog 30 #[.pointer p3, .int .u64 (shL .u64 1 (IntKind.u64.wrap x6)), .int .i64 (IntKind.i64.wrap (x6 + 1))] w7 (Rv fun v11 w12 =>
    ∃ n13 : Int, v11 = .int .i64 n13 ∧ R (.tuple #[]) w12)))
theorem B92_eq : @B92 = fun (a_0 : Addr) (x_1 : Int) (w : World) (R : Value → World → Prop) => trF Try.prog G (lk [(1, [(1, .int .i64)])]) Try.f92 [.pointer (some a_0), .int .i64 x_1] w R := by kernel_rfl
theorem c92 (a_0 : Addr) (x_1 : Int) (w : World) (R : Value → World → Prop) (h : B92 a_0 x_1 w R) : Calls Try.prog 92 #[.pointer (some a_0), .int .i64 x_1] w (Rv R) := calls_of_tr (L := lk [(1, [(1, .int .i64)])]) Try.func92 hG hM (by rw [B92_eq] at h; exact h)

/-- locution/stream.low -/
def B93 (x_0 : Value) (x_1 : Int) (x_2 : Int) (w : World) (R : Value → World → Prop) : Prop :=
  Calls Try.prog 83 #[.int .i64 x_2] w (Rv fun v1 w2 => ∃ n3 : Int, v1 = .int .u64 n3 ∧ CallFV Try.prog G x_0 [.int .u64 (bAnd .u64 x_1 n3), .int .i64 x_2] w2 fun v4 w5 =>
    ∃ n6 : Int, v4 = .int .i64 n6 ∧ R (.tuple #[]) w5)
theorem B93_eq : @B93 = fun (x_0 : Value) (x_1 : Int) (x_2 : Int) (w : World) (R : Value → World → Prop) => trF Try.prog G (lk []) Try.f93 [x_0, .int .u64 x_1, .int .i64 x_2] w R := by kernel_rfl
theorem c93 (x_0 : Value) (x_1 : Int) (x_2 : Int) (w : World) (R : Value → World → Prop) (h : B93 x_0 x_1 x_2 w R) : Calls Try.prog 93 #[x_0, .int .u64 x_1, .int .i64 x_2] w (Rv R) := calls_of_tr (L := lk []) Try.func93 hG hM (by rw [B93_eq] at h; exact h)

/-- (*locution/stream.Reader).goes -/
def B95 (a_0 : Addr) (w : World) (R : Value → World → Prop) : Prop :=
  ∃ p1 : Option Addr, w.cell? (Addr.add a_0 0) = some (.pointer p1) ∧ br (!p1.isNone) (∃ n2 : Int, w.cell? (Addr.add a_0 2) = some (.int .i64 n2) ∧
    R (.bool (decide (n2 = (0 : Int)))) w) (R (.bool false) w)
theorem B95_eq : @B95 = fun (a_0 : Addr) (w : World) (R : Value → World → Prop) => trF Try.prog G (lk []) Try.f95 [.pointer (some a_0)] w R := by kernel_rfl
theorem c95 (a_0 : Addr) (w : World) (R : Value → World → Prop) (h : B95 a_0 w R) : Calls Try.prog 95 #[.pointer (some a_0)] w (Rv R) := calls_of_tr (L := lk []) Try.func95 hG hM (by rw [B95_eq] at h; exact h)

/-- (*locution/stream.Reader).zeros -/
def B96 (a_0 : Addr) (x_1 : Int) (w : World) (R : Value → World → Prop) : Prop :=
  ∃ p1 : Option Addr, (World.drew w).cell? (Addr.add a_0 0) = some (.pointer p1) ∧ ∃ n2 : Int, (World.drew w).cell? (Addr.add a_0 1) = some (.int .i64 n2) ∧
    Calls Try.prog 116 #[.pointer p1, .int .i64 n2] (World.drew w) (Rv fun v3 w4 => ∃ n5 : Int, v3 = .int .i64 n5 ∧
    ∃ n6 : Int, w4.cell? (Addr.add a_0 1) = some (.int .i64 n6) ∧
    br (decide (n5 < (0 : Int))) (∃ p7 : Option Addr, (World.drew w4).cell? (Addr.add a_0 0) = some (.pointer p7) ∧
    ∃ n8 : Int, (World.drew w4).cell? (Addr.add a_0 1) = some (.int .i64 n8) ∧ Calls Try.prog 19 #[.pointer p7] (World.drew w4) (Rv fun v9 w10 =>
    ∃ n11 : Int, v9 = .int .i64 n11 ∧ w10.cell? (Addr.add a_0 1) = some (.int .i64 n8) ∧
    br (decide (x_1 < (IntKind.i64.wrap (n11 - n8)))) (Calls Try.prog 98 #[.pointer (some a_0), .int .i64 3] w10 (Rv fun v12 w13 => v12 = .tuple #[] ∧
    R (.int .i64 (-1)) w13)) (br (decide (n5 < (0 : Int))) (Calls Try.prog 98 #[.pointer (some a_0), .int .i64 2] w10 (Rv fun v14 w15 => v14 = .tuple #[] ∧
    R (.int .i64 (-1)) w15)) (R (.int .i64 (IntKind.i64.wrap (n11 - n8))) w10)))) (br (decide (x_1 < (IntKind.i64.wrap (n5 - n6)))) (Calls Try.prog 98 #[.pointer (some a_0), .int .i64 3] w4 (Rv fun v16 w17 =>
    v16 = .tuple #[] ∧ R (.int .i64 (-1)) w17)) (br (decide (n5 < (0 : Int))) (Calls Try.prog 98 #[.pointer (some a_0), .int .i64 2] w4 (Rv fun v18 w19 =>
    v18 = .tuple #[] ∧ R (.int .i64 (-1)) w19)) (R (.int .i64 (IntKind.i64.wrap (n5 - n6))) w4))))
theorem B96_eq : @B96 = fun (a_0 : Addr) (x_1 : Int) (w : World) (R : Value → World → Prop) => trF Try.prog G (lk []) Try.f96 [.pointer (some a_0), .int .i64 x_1] w R := by kernel_rfl
theorem c96 (a_0 : Addr) (x_1 : Int) (w : World) (R : Value → World → Prop) (h : B96 a_0 x_1 w R) : Calls Try.prog 96 #[.pointer (some a_0), .int .i64 x_1] w (Rv R) := calls_of_tr (L := lk []) Try.func96 hG hM (by rw [B96_eq] at h; exact h)

/-- (*locution/stream.Reader).takes -/
def B97 (a_0 : Addr) (x_1 : Int) (x_2 : Int) (w : World) (R : Value → World → Prop) : Prop :=
  ∃ p1 : Option Addr, w.cell? (Addr.add a_0 0) = some (.pointer p1) ∧ Calls Try.prog 19 #[.pointer p1] w (Rv fun v2 w3 => ∃ n4 : Int, v2 = .int .i64 n4 ∧
    br (decide ((IntKind.i64.wrap (n4 - x_1)) < x_2)) (Calls Try.prog 98 #[.pointer (some a_0), .int .i64 2] w3 (Rv fun v5 w6 => v5 = .tuple #[] ∧
    R (.int .u64 0) w6)) ((∃ u, w3.cell? (Addr.add a_0 1) = some u) ∧ w3.frozen? (Addr.add a_0 1) = false ∧
    ∃ p7 : Option Addr, (w3.setCell (Addr.add a_0 1) (.int .i64 (IntKind.i64.wrap (x_1 + x_2)))).cell? (Addr.add a_0 0) = some (.pointer p7) ∧
    Calls Try.prog 61 #[.pointer p7, .int .i64 x_1, .int .i64 x_2] (w3.setCell (Addr.add a_0 1) (.int .i64 (IntKind.i64.wrap (x_1 + x_2)))) (Rv fun v8 w9 =>
    ∃ n10 : Int, v8 = .int .u64 n10 ∧ R (.int .u64 n10) w9)))
theorem B97_eq : @B97 = fun (a_0 : Addr) (x_1 : Int) (x_2 : Int) (w : World) (R : Value → World → Prop) => trF Try.prog G (lk []) Try.f97 [.pointer (some a_0), .int .i64 x_1, .int .i64 x_2] w R := by kernel_rfl
theorem c97 (a_0 : Addr) (x_1 : Int) (x_2 : Int) (w : World) (R : Value → World → Prop) (h : B97 a_0 x_1 x_2 w R) : Calls Try.prog 97 #[.pointer (some a_0), .int .i64 x_1, .int .i64 x_2] w (Rv R) := calls_of_tr (L := lk []) Try.func97 hG hM (by rw [B97_eq] at h; exact h)

/-- (*locution/stream.Reader).fails -/
def B98 (a_0 : Addr) (x_1 : Int) (w : World) (R : Value → World → Prop) : Prop :=
  ∃ n1 : Int, w.cell? (Addr.add a_0 2) = some (.int .i64 n1) ∧ br (decide (n1 = (0 : Int))) ((∃ u, w.cell? (Addr.add a_0 2) = some u) ∧
    w.frozen? (Addr.add a_0 2) = false ∧ R (.tuple #[]) (w.setCell (Addr.add a_0 2) (.int .i64 x_1))) (R (.tuple #[]) w)
theorem B98_eq : @B98 = fun (a_0 : Addr) (x_1 : Int) (w : World) (R : Value → World → Prop) => trF Try.prog G (lk []) Try.f98 [.pointer (some a_0), .int .i64 x_1] w R := by kernel_rfl
theorem c98 (a_0 : Addr) (x_1 : Int) (w : World) (R : Value → World → Prop) (h : B98 a_0 x_1 w R) : Calls Try.prog 98 #[.pointer (some a_0), .int .i64 x_1] w (Rv R) := calls_of_tr (L := lk []) Try.func98 hG hM (by rw [B98_eq] at h; exact h)

/-- (*locution/stream.Writer).open -/
def B100 (a_0 : Addr) (w : World) (R : Value → World → Prop) : Prop :=
  ∃ p1 : Option Addr, w.cell? (Addr.add a_0 0) = some (.pointer p1) ∧ br p1.isNone (Calls Try.prog 71 #[] w (Rv fun v2 w3 => ∃ p4 : Option Addr, v2 = .pointer p4 ∧
    (∃ u, w3.cell? (Addr.add a_0 0) = some u) ∧ w3.frozen? (Addr.add a_0 0) = false ∧
    ∃ p5 : Option Addr, (w3.setCell (Addr.add a_0 0) (.pointer p4)).cell? (Addr.add a_0 0) = some (.pointer p5) ∧
    R (.pointer p5) (w3.setCell (Addr.add a_0 0) (.pointer p4)))) (∃ p6 : Option Addr, w.cell? (Addr.add a_0 0) = some (.pointer p6) ∧ R (.pointer p6) w)
theorem B100_eq : @B100 = fun (a_0 : Addr) (w : World) (R : Value → World → Prop) => trF Try.prog G (lk []) Try.f100 [.pointer (some a_0)] w R := by kernel_rfl
theorem c100 (a_0 : Addr) (w : World) (R : Value → World → Prop) (h : B100 a_0 w R) : Calls Try.prog 100 #[.pointer (some a_0)] w (Rv R) := calls_of_tr (L := lk []) Try.func100 hG hM (by rw [B100_eq] at h; exact h)

/-- locution/locutionref06.Write -/
def B15 (x_0 : Slc) (x_1 : Int) (x_2 : Int) (x_3 : Int) (w : World) (R : Value → World → Prop) : Prop :=
  
    br (decide (x_1 = (0 : Int))) (br (decide (x_3 < (0 : Int))) (R (.tuple #[.slice x_0.a x_0.len x_0.cap, .int .i64 1]) w) (br (decide ((64 : Int) < x_3)) (R (.tuple #[.slice x_0.a x_0.len x_0.cap, .int .i64 1]) w) (Calls Try.prog 64 #[.int .u64 x_2, .int .i64 x_3] w (Rv fun v1 w2 =>
    ∃ b3 : Bool, v1 = .bool b3 ∧
    br (!b3) (R (.tuple #[.slice x_0.a x_0.len x_0.cap, .int .i64 8]) w2) (Calls Try.prog 65 #[.slice x_0.a x_0.len x_0.cap, .int .u64 x_2, .int .i64 x_3] w2 (Rv fun v4 w5 =>
    ∃ l6 : Slc, v4 = .slice l6.a l6.len l6.cap ∧
    R (.tuple #[.slice l6.a l6.len l6.cap, .int .i64 0]) w5)))))) (br (decide (x_1 = (1 : Int))) (br (decide (x_3 < (0 : Int))) (R (.tuple #[.slice x_0.a x_0.len x_0.cap, .int .i64 8]) w) (br (decide ((4096 : Int) < x_3)) (R (.tuple #[.slice x_0.a x_0.len x_0.cap, .int .i64 8]) w) (Calls Try.prog 66 #[.slice x_0.a x_0.len x_0.cap, .int .i64 x_3] w (Rv fun v7 w8 =>
    ∃ l9 : Slc, v7 = .slice l9.a l9.len l9.cap ∧
    R (.tuple #[.slice l9.a l9.len l9.cap, .int .i64 0]) w8)))) (br (decide (x_1 = (2 : Int))) (br (decide (x_2 = (0 : Int))) (R (.tuple #[.slice x_0.a x_0.len x_0.cap, .int .i64 8]) w) (Calls Try.prog 67 #[.int .u64 x_2] w (Rv fun v10 w11 =>
    ∃ n12 : Int, v10 = .int .i64 n12 ∧ Calls Try.prog 66 #[.slice x_0.a x_0.len x_0.cap, .int .i64 (IntKind.i64.wrap (n12 - 1))] w11 (Rv fun v13 w14 =>
    ∃ l15 : Slc, v13 = .slice l15.a l15.len l15.cap ∧
    Calls Try.prog 65 #[.slice l15.a l15.len l15.cap, .int .u64 x_2, .int .i64 (IntKind.i64.wrap (n12 - 1))] w14 (Rv fun v16 w17 =>
    ∃ l18 : Slc, v16 = .slice l18.a l18.len l18.cap ∧
    R (.tuple #[.slice l18.a l18.len l18.cap, .int .i64 0]) w17))))) (br (decide (x_3 < (0 : Int))) (R (.tuple #[.slice x_0.a x_0.len x_0.cap, .int .i64 1]) w) (br (decide ((63 : Int) < x_3)) (R (.tuple #[.slice x_0.a x_0.len x_0.cap, .int .i64 1]) w) (Calls Try.prog 68 #[.int .u64 x_2, .int .i64 x_3] w (Rv fun v19 w20 =>
    ∃ n21 : Int, v19 = .int .u64 n21 ∧
    br (decide ((4096 : Int) < n21)) (R (.tuple #[.slice x_0.a x_0.len x_0.cap, .int .i64 8]) w20) (Calls Try.prog 68 #[.int .u64 x_2, .int .i64 x_3] w20 (Rv fun v22 w23 =>
    ∃ n24 : Int, v22 = .int .u64 n24 ∧ Calls Try.prog 66 #[.slice x_0.a x_0.len x_0.cap, .int .i64 (IntKind.i64.wrap n24)] w23 (Rv fun v25 w26 =>
    ∃ l27 : Slc, v25 = .slice l27.a l27.len l27.cap ∧ Calls Try.prog 65 #[.slice l27.a l27.len l27.cap, .int .u64 x_2, .int .i64 x_3] w26 (Rv fun v28 w29 =>
    ∃ l30 : Slc, v28 = .slice l30.a l30.len l30.cap ∧ R (.tuple #[.slice l30.a l30.len l30.cap, .int .i64 0]) w29))))))))))
theorem B15_eq : @B15 = fun (x_0 : Slc) (x_1 : Int) (x_2 : Int) (x_3 : Int) (w : World) (R : Value → World → Prop) => trF Try.prog G (lk []) Try.f15 [.slice x_0.a x_0.len x_0.cap, .int .i64 x_1, .int .u64 x_2, .int .i64 x_3] w R := by kernel_rfl
theorem c15 (x_0 : Slc) (x_1 : Int) (x_2 : Int) (x_3 : Int) (w : World) (R : Value → World → Prop) (h : B15 x_0 x_1 x_2 x_3 w R) : Calls Try.prog 15 #[.slice x_0.a x_0.len x_0.cap, .int .i64 x_1, .int .u64 x_2, .int .i64 x_3] w (Rv R) := calls_of_tr (L := lk []) Try.func15 hG hM (by rw [B15_eq] at h; exact h)

/-- locution/locutionref06.Read -/
def B25 (x_0 : Slc) (x_1 : Int) (x_2 : Int) (w : World) (R : Value → World → Prop) : Prop :=
  
    br (decide (x_1 = (0 : Int))) (br (decide (x_2 < (0 : Int))) (R (.tuple #[.int .u64 0, .int .i64 0, .int .i64 1]) w) (br (decide ((64 : Int) < x_2)) (R (.tuple #[.int .u64 0, .int .i64 0, .int .i64 1]) w) (Calls Try.prog 75 #[.slice x_0.a x_0.len x_0.cap, .int .i64 0, .int .i64 x_2] w (Rv fun v1 w2 =>
    ∃ n3 : Int, ∃ n4 : Int, v1 = .tuple #[.int .u64 n3, .int .i64 n4] ∧
    br (!(decide (n4 = (0 : Int)))) (R (.tuple #[.int .u64 0, .int .i64 0, .int .i64 n4]) w2) (R (.tuple #[.int .u64 n3, .int .i64 x_2, .int .i64 0]) w2))))) (br (decide (x_1 = (1 : Int))) (Calls Try.prog 76 #[.slice x_0.a x_0.len x_0.cap, .int .i64 4096] w (Rv fun v5 w6 =>
    ∃ n7 : Int, ∃ n8 : Int, v5 = .tuple #[.int .i64 n7, .int .i64 n8] ∧
    br (!(decide (n8 = (0 : Int)))) (R (.tuple #[.int .u64 0, .int .i64 0, .int .i64 n8]) w6) (R (.tuple #[.int .u64 (IntKind.u64.wrap n7), .int .i64 (IntKind.i64.wrap (n7 + 1)), .int .i64 0]) w6))) (br (decide (x_1 = (2 : Int))) (Calls Try.prog 76 #[.slice x_0.a x_0.len x_0.cap, .int .i64 63] w (Rv fun v9 w10 =>
    ∃ n11 : Int, ∃ n12 : Int, v9 = .tuple #[.int .i64 n11, .int .i64 n12] ∧
    br (!(decide (n12 = (0 : Int)))) (R (.tuple #[.int .u64 0, .int .i64 0, .int .i64 n12]) w10) (Calls Try.prog 75 #[.slice x_0.a x_0.len x_0.cap, .int .i64 (IntKind.i64.wrap (n11 + 1)), .int .i64 n11] w10 (Rv fun v13 w14 =>
    ∃ n15 : Int, ∃ n16 : Int, v13 = .tuple #[.int .u64 n15, .int .i64 n16] ∧
    br (!(decide (n16 = (0 : Int)))) (R (.tuple #[.int .u64 0, .int .i64 0, .int .i64 n16]) w14) (Calls Try.prog 77 #[.int .i64 n11] w14 (Rv fun v17 w18 =>
    ∃ n19 : Int, v17 = .int .u64 n19 ∧
    R (.tuple #[.int .u64 (IntKind.u64.wrap (n19 + n15)), .int .i64 (IntKind.i64.wrap ((IntKind.i64.wrap (2 * n11)) + 1)), .int .i64 0]) w18)))))) (br (decide (x_2 < (0 : Int))) (R (.tuple #[.int .u64 0, .int .i64 0, .int .i64 1]) w) (br (decide ((63 : Int) < x_2)) (R (.tuple #[.int .u64 0, .int .i64 0, .int .i64 1]) w) (Calls Try.prog 76 #[.slice x_0.a x_0.len x_0.cap, .int .i64 4096] w (Rv fun v20 w21 =>
    ∃ n22 : Int, ∃ n23 : Int, v20 = .tuple #[.int .i64 n22, .int .i64 n23] ∧
    br (!(decide (n23 = (0 : Int)))) (R (.tuple #[.int .u64 0, .int .i64 0, .int .i64 n23]) w21) (Calls Try.prog 67 #[.int .u64 (IntKind.u64.wrap n22)] w21 (Rv fun v24 w25 =>
    ∃ n26 : Int, v24 = .int .i64 n26 ∧
    br (decide ((64 : Int) < (IntKind.i64.wrap (n26 + x_2)))) (R (.tuple #[.int .u64 0, .int .i64 0, .int .i64 3]) w25) (Calls Try.prog 75 #[.slice x_0.a x_0.len x_0.cap, .int .i64 (IntKind.i64.wrap (n22 + 1)), .int .i64 x_2] w25 (Rv fun v27 w28 =>
    ∃ n29 : Int, ∃ n30 : Int, v27 = .tuple #[.int .u64 n29, .int .i64 n30] ∧
    br (!(decide (n30 = (0 : Int)))) (R (.tuple #[.int .u64 0, .int .i64 0, .int .i64 n30]) w28) (Calls Try.prog 77 #[.int .i64 x_2] w28 (Rv fun v31 w32 =>
    ∃ n33 : Int, v31 = .int .u64 n33 ∧
    R (.tuple #[.int .u64 (IntKind.u64.wrap ((IntKind.u64.wrap ((IntKind.u64.wrap n22) * n33)) + n29)), .int .i64 (IntKind.i64.wrap ((IntKind.i64.wrap (n22 + 1)) + x_2)), .int .i64 0]) w32))))))))))))
theorem B25_eq : @B25 = fun (x_0 : Slc) (x_1 : Int) (x_2 : Int) (w : World) (R : Value → World → Prop) => trF Try.prog G (lk []) Try.f25 [.slice x_0.a x_0.len x_0.cap, .int .i64 x_1, .int .i64 x_2] w R := by kernel_rfl
theorem c25 (x_0 : Slc) (x_1 : Int) (x_2 : Int) (w : World) (R : Value → World → Prop) (h : B25 x_0 x_1 x_2 w R) : Calls Try.prog 25 #[.slice x_0.a x_0.len x_0.cap, .int .i64 x_1, .int .i64 x_2] w (Rv R) := calls_of_tr (L := lk []) Try.func25 hG hM (by rw [B25_eq] at h; exact h)

/-- locution/locutionref06.unary -/
def B66 (x_0 : Slc) (x_1 : Int) (w : World) (R : Value → World → Prop) : Prop :=
  
    ∃ w1 : World, ∃ l2 : Slc, (Builtin.append_ #[28, 28] 28 #[.slice (some ⟨w.heap.size, 0, none⟩) 0 0, .slice x_0.a x_0.len x_0.cap]).run Try.prog (w.alloc (.cells #[] 4)) = .ok (.slice l2.a l2.len l2.cap) w1 ∧
    ∃ (I3 : Slc → Int → World → Prop) (μ4 : Slc → Int → World → Nat), I3 l2 (0 : Int) w1 ∧ ∀ x5 : Slc, ∀ x6 : Int, ∀ w7 : World, I3 x5 x6 w7 →
    br (decide (x6 < x_1)) (∃ w8 : World, ∃ l9 : Slc, (Builtin.append_ #[28, 28] 28 #[.slice x5.a x5.len x5.cap, .slice (some ⟨w7.heap.size, 0, none⟩) 1 1]).run Try.prog (w7.alloc (.cells #[.bool false] 4)) = .ok (.slice l9.a l9.len l9.cap) w8 ∧
    I3 l9 (IntKind.i64.wrap (x6 + 1)) w8 ∧
    μ4 l9 (IntKind.i64.wrap (x6 + 1)) w8 < μ4 x5 x6 w7) (∃ w10 : World, ∃ l11 : Slc, (Builtin.append_ #[28, 28] 28 #[.slice (some ⟨w7.heap.size, 0, none⟩) 0 0, .slice x5.a x5.len x5.cap]).run Try.prog (w7.alloc (.cells #[] 4)) = .ok (.slice l11.a l11.len l11.cap) w10 ∧
    ∃ w12 : World, ∃ l13 : Slc, (Builtin.append_ #[28, 28] 28 #[.slice l11.a l11.len l11.cap, .slice (some ⟨w10.heap.size, 0, none⟩) 1 1]).run Try.prog (w10.alloc (.cells #[.bool true] 4)) = .ok (.slice l13.a l13.len l13.cap) w12 ∧
    R (.slice l13.a l13.len l13.cap) w12)
theorem B66_eq : @B66 = fun (x_0 : Slc) (x_1 : Int) (w : World) (R : Value → World → Prop) => trF Try.prog G (lk [(3, [(5, .slc), (6, .int .i64)])]) Try.f66 [.slice x_0.a x_0.len x_0.cap, .int .i64 x_1] w R := by kernel_rfl
theorem c66 (x_0 : Slc) (x_1 : Int) (w : World) (R : Value → World → Prop) (h : B66 x_0 x_1 w R) : Calls Try.prog 66 #[.slice x_0.a x_0.len x_0.cap, .int .i64 x_1] w (Rv R) := calls_of_tr (L := lk [(3, [(5, .slc), (6, .int .i64)])]) Try.func66 hG hM (by rw [B66_eq] at h; exact h)

/-- locution/locutionref06.half -/
def B68 (x_0 : Int) (x_1 : Int) (w : World) (R : Value → World → Prop) : Prop :=
  ∃ (I1 : Int → Int → World → Prop) (μ2 : Int → Int → World → Nat), I1 x_0 (0 : Int) w ∧ ∀ x3 : Int, ∀ x4 : Int, ∀ w5 : World, I1 x3 x4 w5 →
    br (decide (x4 < x_1)) ((2 : Int) ≠ 0 ∧ I1 (IntKind.u64.wrap (Int.tdiv x3 2)) (IntKind.i64.wrap (x4 + 1)) w5 ∧
    μ2 (IntKind.u64.wrap (Int.tdiv x3 2)) (IntKind.i64.wrap (x4 + 1)) w5 < μ2 x3 x4 w5) (R (.int .u64 x3) w5)
theorem B68_eq : @B68 = fun (x_0 : Int) (x_1 : Int) (w : World) (R : Value → World → Prop) => trF Try.prog G (lk [(2, [(0, .int .u64), (5, .int .i64)])]) Try.f68 [.int .u64 x_0, .int .i64 x_1] w R := by kernel_rfl
theorem c68 (x_0 : Int) (x_1 : Int) (w : World) (R : Value → World → Prop) (h : B68 x_0 x_1 w R) : Calls Try.prog 68 #[.int .u64 x_0, .int .i64 x_1] w (Rv R) := calls_of_tr (L := lk [(2, [(0, .int .u64), (5, .int .i64)])]) Try.func68 hG hM (by rw [B68_eq] at h; exact h)

/-- locution/locutionref06.low -/
def B75 (x_0 : Slc) (x_1 : Int) (x_2 : Int) (w : World) (R : Value → World → Prop) : Prop :=
  
    br (decide ((x_0.len : Int) < x_1)) (R (.tuple #[.int .u64 0, .int .i64 2]) w) (br (decide ((IntKind.i64.wrap ((x_0.len : Int) - x_1)) < x_2)) (R (.tuple #[.int .u64 0, .int .i64 2]) w) (Calls Try.prog 74 #[.slice x_0.a x_0.len x_0.cap, .int .i64 x_1, .int .i64 x_2] w (Rv fun v1 w2 =>
    ∃ n3 : Int, v1 = .int .u64 n3 ∧ R (.tuple #[.int .u64 n3, .int .i64 0]) w2)))
theorem B75_eq : @B75 = fun (x_0 : Slc) (x_1 : Int) (x_2 : Int) (w : World) (R : Value → World → Prop) => trF Try.prog G (lk []) Try.f75 [.slice x_0.a x_0.len x_0.cap, .int .i64 x_1, .int .i64 x_2] w R := by kernel_rfl
theorem c75 (x_0 : Slc) (x_1 : Int) (x_2 : Int) (w : World) (R : Value → World → Prop) (h : B75 x_0 x_1 x_2 w R) : Calls Try.prog 75 #[.slice x_0.a x_0.len x_0.cap, .int .i64 x_1, .int .i64 x_2] w (Rv R) := calls_of_tr (L := lk []) Try.func75 hG hM (by rw [B75_eq] at h; exact h)

/-- locution/locutionref06.noughts -/
def B76 (x_0 : Slc) (x_1 : Int) (w : World) (R : Value → World → Prop) : Prop :=
  ∃ (I1 : Int → World → Prop) (μ2 : Int → World → Nat), I1 (0 : Int) w ∧ ∀ x3 : Int, ∀ w4 : World, I1 x3 w4 → br (decide (x3 < (x_0.len : Int))) (0 ≤ x3 ∧
    x3 < (x_0.len : Int) ∧ ∃ a5, x_0.a = some a5 ∧ ∃ b6 : Bool, w4.cell? (Addr.add a5 (x3.toNat * 1)) = some (.bool b6) ∧
    br b6 (R (.tuple #[.int .i64 x3, .int .i64 0]) w4) (br (decide (x3 = x_1)) (R (.tuple #[.int .i64 0, .int .i64 3]) w4) (I1 (IntKind.i64.wrap (x3 + 1)) w4 ∧
    μ2 (IntKind.i64.wrap (x3 + 1)) w4 < μ2 x3 w4))) (R (.tuple #[.int .i64 0, .int .i64 2]) w4)
theorem B76_eq : @B76 = fun (x_0 : Slc) (x_1 : Int) (w : World) (R : Value → World → Prop) => trF Try.prog G (lk [(2, [(6, .int .i64)])]) Try.f76 [.slice x_0.a x_0.len x_0.cap, .int .i64 x_1] w R := by kernel_rfl
theorem c76 (x_0 : Slc) (x_1 : Int) (w : World) (R : Value → World → Prop) (h : B76 x_0 x_1 w R) : Calls Try.prog 76 #[.slice x_0.a x_0.len x_0.cap, .int .i64 x_1] w (Rv R) := calls_of_tr (L := lk [(2, [(6, .int .i64)])]) Try.func76 hG hM (by rw [B76_eq] at h; exact h)

/-- locution/locutionref06.power -/
def B77 (x_0 : Int) (w : World) (R : Value → World → Prop) : Prop :=
  ∃ (I1 : Int → Int → World → Prop) (μ2 : Int → Int → World → Nat), I1 (1 : Int) (0 : Int) w ∧ ∀ x3 : Int, ∀ x4 : Int, ∀ w5 : World, I1 x3 x4 w5 →
    br (decide (x4 < x_0)) (I1 (IntKind.u64.wrap (x3 * 2)) (IntKind.i64.wrap (x4 + 1)) w5 ∧
    μ2 (IntKind.u64.wrap (x3 * 2)) (IntKind.i64.wrap (x4 + 1)) w5 < μ2 x3 x4 w5) (R (.int .u64 x3) w5)
theorem B77_eq : @B77 = fun (x_0 : Int) (w : World) (R : Value → World → Prop) => trF Try.prog G (lk [(3, [(3, .int .u64), (4, .int .i64)])]) Try.f77 [.int .i64 x_0] w R := by kernel_rfl
theorem c77 (x_0 : Int) (w : World) (R : Value → World → Prop) (h : B77 x_0 w R) : Calls Try.prog 77 #[.int .i64 x_0] w (Rv R) := calls_of_tr (L := lk [(3, [(3, .int .u64), (4, .int .i64)])]) Try.func77 hG hM (by rw [B77_eq] at h; exact h)

/-- locution/locutionlaw06.StreamWrites -/
def B3 (x_0 : Slc) (w : World) (R : Value → World → Prop) : Prop :=
  br (decide ((30 : Int) < (x_0.len : Int))) (Calls Try.prog 14 #[] w (Rv fun v1 w2 => ∃ b3 : Bool, v1 = .bool b3 ∧ R (.bool b3) w2)) (∃ (I4 : Slc → Int → World →
    Prop) (μ5 : Slc → Int → World → Nat), I4 ⟨none, 0, 0⟩ (0 : Int) (w.alloc (.cells #[.pointer none] 27)) ∧ ∀ x6 : Slc, ∀ x7 : Int, ∀ w8 : World, I4 x6 x7 w8 →
    br (decide (x7 < (x_0.len : Int))) (0 ≤ x7 ∧ x7 < (x_0.len : Int) ∧ ∃ a9, x_0.a = some a9 ∧
    ∃ n10 : Int, ∃ n11 : Int, ∃ n12 : Int, (World.drew w8).cell? (Addr.add (Addr.add a9 (x7.toNat * 3)) 0) = some (.int .i64 n10) ∧
    (World.drew w8).cell? (Addr.add (Addr.add a9 (x7.toNat * 3)) 1) = some (.int .u64 n11) ∧
    (World.drew w8).cell? (Addr.add (Addr.add a9 (x7.toNat * 3)) 2) = some (.int .i64 n12) ∧ 0 ≤ x7 ∧ x7 < (x_0.len : Int) ∧ ∃ a13, x_0.a = some a13 ∧
    ∃ n14 : Int, (World.drew w8).cell? (Addr.add (Addr.add a13 (x7.toNat * 3)) 1) = some (.int .u64 n14) ∧ 0 ≤ x7 ∧ x7 < (x_0.len : Int) ∧ ∃ a15, x_0.a = some a15 ∧
    ∃ n16 : Int, (World.drew w8).cell? (Addr.add (Addr.add a15 (x7.toNat * 3)) 2) = some (.int .i64 n16) ∧
    Calls Try.prog 16 #[.agg #[.int .i64 n10, .int .u64 n11, .int .i64 n12]] (World.drew w8) (Rv fun v17 w18 => ∃ n19 : Int, v17 = .int .i64 n19 ∧
    w18.cell? (Addr.add (Addr.add a15 (x7.toNat * 3)) 2) = some (.int .i64 n16) ∧ w18.cell? (Addr.add (Addr.add a13 (x7.toNat * 3)) 1) = some (.int .u64 n14) ∧
    Calls Try.prog 15 #[.slice x6.a x6.len x6.cap, .int .i64 n19, .int .u64 n14, .int .i64 n16] w18 (Rv fun v20 w21 =>
    ∃ l22 : Slc, ∃ n23 : Int, v20 = .tuple #[.slice l22.a l22.len l22.cap, .int .i64 n23] ∧ 0 ≤ x7 ∧ x7 < (x_0.len : Int) ∧ ∃ a24, x_0.a = some a24 ∧
    ∃ n25 : Int, ∃ n26 : Int, ∃ n27 : Int, w21.cell? (Addr.add (Addr.add a24 (x7.toNat * 3)) 0) = some (.int .i64 n25) ∧
    w21.cell? (Addr.add (Addr.add a24 (x7.toNat * 3)) 1) = some (.int .u64 n26) ∧ w21.cell? (Addr.add (Addr.add a24 (x7.toNat * 3)) 2) = some (.int .i64 n27) ∧
    Calls Try.prog 17 #[.pointer (some ⟨w.heap.size, 0, none⟩), .agg #[.int .i64 n25, .int .u64 n26, .int .i64 n27]] w21 (Rv fun v28 w29 =>
    ∃ n30 : Int, v28 = .int .i64 n30 ∧ br (!(decide (n30 = n23))) (R (.bool false) w29) (0 ≤ x7 ∧ x7 < (x_0.len : Int) ∧ ∃ a31, x_0.a = some a31 ∧
    ∃ n32 : Int, ∃ n33 : Int, ∃ n34 : Int, w29.cell? (Addr.add (Addr.add a31 (x7.toNat * 3)) 0) = some (.int .i64 n32) ∧
    w29.cell? (Addr.add (Addr.add a31 (x7.toNat * 3)) 1) = some (.int .u64 n33) ∧ w29.cell? (Addr.add (Addr.add a31 (x7.toNat * 3)) 2) = some (.int .i64 n34) ∧
    Calls Try.prog 17 #[.pointer none, .agg #[.int .i64 n32, .int .u64 n33, .int .i64 n34]] w29 (Rv fun v35 w36 => ∃ n37 : Int, v35 = .int .i64 n37 ∧
    br (!(decide (n37 = (11 : Int)))) (R (.bool false) w36) (I4 l22 (IntKind.i64.wrap (x7 + 1)) w36 ∧
    μ5 l22 (IntKind.i64.wrap (x7 + 1)) w36 < μ5 x6 x7 w8))))))) (Calls Try.prog 18 #[.pointer (some ⟨w.heap.size, 0, none⟩)] w8 (Rv fun v38 w39 =>
    ∃ p40 : Option Addr, v38 = .pointer p40 ∧ Calls Try.prog 19 #[.pointer p40] w39 (Rv fun v41 w42 => ∃ n43 : Int, v41 = .int .i64 n43 ∧
    br (decide (n43 = (x6.len : Int))) (Calls Try.prog 21 #[.pointer p40] w42 (Rv fun v44 w45 => ∃ l46 : Slc, v44 = .slice l46.a l46.len l46.cap ∧
    Calls Try.prog 22 #[.slice x6.a x6.len x6.cap] w45 (Rv fun v47 w48 => ∃ l49 : Slc, v47 = .slice l49.a l49.len l49.cap ∧
    Calls Try.prog 20 #[.slice l46.a l46.len l46.cap, .slice l49.a l49.len l49.cap] w48 (Rv fun v50 w51 => ∃ b52 : Bool, v50 = .bool b52 ∧
    br b52 (Calls Try.prog 18 #[.pointer none] w51 (Rv fun v53 w54 => ∃ p55 : Option Addr, v53 = .pointer p55 ∧ Calls Try.prog 19 #[.pointer p55] w54 (Rv fun v56 w57 =>
    ∃ n58 : Int, v56 = .int .i64 n58 ∧ br (decide (n58 = (0 : Int))) (Calls Try.prog 14 #[] w57 (Rv fun v59 w60 => ∃ b61 : Bool, v59 = .bool b61 ∧
    R (.bool b61) w60)) (R (.bool false) w57)))) (R (.bool false) w51))))) (R (.bool false) w42)))))
theorem B3_eq : @B3 = fun (x_0 : Slc) (w : World) (R : Value → World → Prop) => trF Try.prog G (lk [(7, [(5, .slc), (6, .int .i64)])]) Try.f3 [.slice x_0.a x_0.len x_0.cap] w R := by kernel_rfl
theorem c3 (x_0 : Slc) (w : World) (R : Value → World → Prop) (h : B3 x_0 w R) : Calls Try.prog 3 #[.slice x_0.a x_0.len x_0.cap] w (Rv R) := calls_of_tr (L := lk [(7, [(5, .slc), (6, .int .i64)])]) Try.func3 hG hM (by rw [B3_eq] at h; exact h)

/-- locution/locutionlaw06.StreamReads -/
def B4 (x_0 : Slc) (x_1 : Slc) (w : World) (R : Value → World → Prop) : Prop :=
  br (decide ((60 : Int) < (x_0.len : Int))) (Calls Try.prog 14 #[] w (Rv fun v1 w2 => ∃ b3 : Bool, v1 = .bool b3 ∧
    R (.bool b3) w2)) (br (decide ((60 : Int) < (x_1.len : Int))) (Calls Try.prog 14 #[] w (Rv fun v4 w5 => ∃ b6 : Bool, v4 = .bool b6 ∧
    R (.bool b6) w5)) (Calls Try.prog 23 #[.slice x_0.a x_0.len x_0.cap] w (Rv fun v7 w8 =>
    ∃ p9 : Option Addr, ∃ l10 : Slc, ∃ b11 : Bool, v7 = .tuple #[.pointer p9, .slice l10.a l10.len l10.cap, .bool b11] ∧
    br (!b11) (R (.bool false) w8) (Calls Try.prog 24 #[.pointer p9] w8 (Rv fun v12 w13 => ∃ p14 : Option Addr, v12 = .pointer p14 ∧ ∃ (I15 : Slc → Int → Int → World →
    Prop) (μ16 : Slc → Int → Int → World → Nat), I15 l10 (0 : Int) (0 : Int) w13 ∧ ∀ x17 : Slc, ∀ x18 : Int, ∀ x19 : Int, ∀ w20 : World, I15 x17 x18 x19 w20 →
    br (decide (x19 < (x_1.len : Int))) (br (decide (x18 = (0 : Int))) (0 ≤ x19 ∧ x19 < (x_1.len : Int) ∧ ∃ a21, x_1.a = some a21 ∧
    ∃ n22 : Int, ∃ n23 : Int, ∃ n24 : Int, (World.drew w20).cell? (Addr.add (Addr.add a21 (x19.toNat * 3)) 0) = some (.int .i64 n22) ∧
    (World.drew w20).cell? (Addr.add (Addr.add a21 (x19.toNat * 3)) 1) = some (.int .u64 n23) ∧
    (World.drew w20).cell? (Addr.add (Addr.add a21 (x19.toNat * 3)) 2) = some (.int .i64 n24) ∧ 0 ≤ x19 ∧ x19 < (x_1.len : Int) ∧ ∃ a25, x_1.a = some a25 ∧
    ∃ n26 : Int, (World.drew w20).cell? (Addr.add (Addr.add a25 (x19.toNat * 3)) 2) = some (.int .i64 n26) ∧
    Calls Try.prog 16 #[.agg #[.int .i64 n22, .int .u64 n23, .int .i64 n24]] (World.drew w20) (Rv fun v27 w28 => ∃ n29 : Int, v27 = .int .i64 n29 ∧
    w28.cell? (Addr.add (Addr.add a25 (x19.toNat * 3)) 2) = some (.int .i64 n26) ∧
    Calls Try.prog 25 #[.slice x17.a x17.len x17.cap, .int .i64 n29, .int .i64 n26] w28 (Rv fun v30 w31 =>
    ∃ n32 : Int, ∃ n33 : Int, ∃ n34 : Int, v30 = .tuple #[.int .u64 n32, .int .i64 n33, .int .i64 n34] ∧ 0 ≤ n33 ∧ n33 ≤ (x17.len : Int) ∧
    (x17.len : Int) ≤ (x17.cap : Int) ∧ 0 ≤ x19 ∧ x19 < (x_1.len : Int) ∧ ∃ a35, x_1.a = some a35 ∧
    ∃ n36 : Int, ∃ n37 : Int, ∃ n38 : Int, w31.cell? (Addr.add (Addr.add a35 (x19.toNat * 3)) 0) = some (.int .i64 n36) ∧
    w31.cell? (Addr.add (Addr.add a35 (x19.toNat * 3)) 1) = some (.int .u64 n37) ∧ w31.cell? (Addr.add (Addr.add a35 (x19.toNat * 3)) 2) = some (.int .i64 n38) ∧
    Calls Try.prog 26 #[.pointer p14, .agg #[.int .i64 n36, .int .u64 n37, .int .i64 n38]] w31 (Rv fun v39 w40 => ∃ n41 : Int, v39 = .int .u64 n41 ∧
    br (!(decide (n41 = n32))) (R (.bool false) w40) (Calls Try.prog 27 #[.pointer p14] w40 (Rv fun v42 w43 => ∃ n44 : Int, v42 = .int .i64 n44 ∧
    br (!(decide (n44 = ((((Int.toNat (x17.len : Int)) - (Int.toNat n33)) : Nat) : Int)))) (R (.bool false) w43) (Calls Try.prog 28 #[.pointer p14] w43 (Rv fun v45 w46 =>
    ∃ n47 : Int, v45 = .int .i64 n47 ∧
    br (!(decide (n47 = n34))) (R (.bool false) w46) (I15 ⟨(if x17.cap = (Int.toNat n33) then x17.a else x17.a.map (·.add ((Int.toNat n33) * 1))), ((Int.toNat (x17.len : Int)) - (Int.toNat n33)), (x17.cap - (Int.toNat n33))⟩ n34 (IntKind.i64.wrap (x19 + 1)) w46 ∧
    μ16 ⟨(if x17.cap = (Int.toNat n33) then x17.a else x17.a.map (·.add ((Int.toNat n33) * 1))), ((Int.toNat (x17.len : Int)) - (Int.toNat n33)), (x17.cap - (Int.toNat n33))⟩ n34 (IntKind.i64.wrap (x19 + 1)) w46 < μ16 x17 x18 x19 w20))))))))) (0 ≤ x19 ∧
    x19 < (x_1.len : Int) ∧ ∃ a48, x_1.a = some a48 ∧
    ∃ n49 : Int, ∃ n50 : Int, ∃ n51 : Int, w20.cell? (Addr.add (Addr.add a48 (x19.toNat * 3)) 0) = some (.int .i64 n49) ∧
    w20.cell? (Addr.add (Addr.add a48 (x19.toNat * 3)) 1) = some (.int .u64 n50) ∧ w20.cell? (Addr.add (Addr.add a48 (x19.toNat * 3)) 2) = some (.int .i64 n51) ∧
    Calls Try.prog 26 #[.pointer p14, .agg #[.int .i64 n49, .int .u64 n50, .int .i64 n51]] w20 (Rv fun v52 w53 => ∃ n54 : Int, v52 = .int .u64 n54 ∧
    br (!(decide (n54 = (0 : Int)))) (R (.bool false) w53) (Calls Try.prog 27 #[.pointer p14] w53 (Rv fun v55 w56 => ∃ n57 : Int, v55 = .int .i64 n57 ∧
    br (!(decide (n57 = (x17.len : Int)))) (R (.bool false) w56) (Calls Try.prog 28 #[.pointer p14] w56 (Rv fun v58 w59 => ∃ n60 : Int, v58 = .int .i64 n60 ∧
    br (!(decide (n60 = x18))) (R (.bool false) w59) (I15 x17 x18 (IntKind.i64.wrap (x19 + 1)) w59 ∧
    μ16 x17 x18 (IntKind.i64.wrap (x19 + 1)) w59 < μ16 x17 x18 x19 w20)))))))) (br (decide (x18 = (0 : Int))) (br (decide ((0 : Int) < (x17.len : Int))) (Calls Try.prog 29 #[.pointer p14] w20 (Rv fun v61 w62 =>
    ∃ n63 : Int, v61 = .int .i64 n63 ∧ br (decide (n63 = (3 : Int))) (Calls Try.prog 14 #[] w62 (Rv fun v64 w65 => ∃ b66 : Bool, v64 = .bool b66 ∧
    R (.bool b66) w65)) (R (.bool false) w62))) (Calls Try.prog 29 #[.pointer p14] w20 (Rv fun v67 w68 => ∃ n69 : Int, v67 = .int .i64 n69 ∧
    br (decide (n69 = x18)) (Calls Try.prog 14 #[] w68 (Rv fun v70 w71 => ∃ b72 : Bool, v70 = .bool b72 ∧
    R (.bool b72) w71)) (R (.bool false) w68)))) (Calls Try.prog 29 #[.pointer p14] w20 (Rv fun v73 w74 => ∃ n75 : Int, v73 = .int .i64 n75 ∧
    br (decide (n75 = x18)) (Calls Try.prog 14 #[] w74 (Rv fun v76 w77 => ∃ b78 : Bool, v76 = .bool b78 ∧ R (.bool b78) w77)) (R (.bool false) w74)))))))))
theorem B4_eq : @B4 = fun (x_0 : Slc) (x_1 : Slc) (w : World) (R : Value → World → Prop) => trF Try.prog G (lk [(9, [(6, .slc), (9, .int .i64), (10, .int .i64)])]) Try.f4 [.slice x_0.a x_0.len x_0.cap, .slice x_1.a x_1.len x_1.cap] w R := by kernel_rfl
theorem c4 (x_0 : Slc) (x_1 : Slc) (w : World) (R : Value → World → Prop) (h : B4 x_0 x_1 w R) : Calls Try.prog 4 #[.slice x_0.a x_0.len x_0.cap, .slice x_1.a x_1.len x_1.cap] w (Rv R) := calls_of_tr (L := lk [(9, [(6, .slc), (9, .int .i64), (10, .int .i64)])]) Try.func4 hG hM (by rw [B4_eq] at h; exact h)

/-- locution/locutionlaw06.StreamNone -/
def B5 (x0_0 : Int) (x0_1 : Int) (x0_2 : Int) (w : World) (R : Value → World → Prop) : Prop :=
  
    ∃ n1 : Int, ∃ n2 : Int, ∃ n3 : Int, (w.alloc (.cells #[.int .i64 x0_0, .int .u64 x0_1, .int .i64 x0_2] 34)).cell? (Addr.add ⟨w.heap.size, 0, none⟩ 0) = some (.int .i64 n1) ∧
    (w.alloc (.cells #[.int .i64 x0_0, .int .u64 x0_1, .int .i64 x0_2] 34)).cell? (Addr.add ⟨w.heap.size, 0, none⟩ 1) = some (.int .u64 n2) ∧
    (w.alloc (.cells #[.int .i64 x0_0, .int .u64 x0_1, .int .i64 x0_2] 34)).cell? (Addr.add ⟨w.heap.size, 0, none⟩ 2) = some (.int .i64 n3) ∧
    Calls Try.prog 26 #[.pointer none, .agg #[.int .i64 n1, .int .u64 n2, .int .i64 n3]] (w.alloc (.cells #[.int .i64 x0_0, .int .u64 x0_1, .int .i64 x0_2] 34)) (Rv fun v4 w5 =>
    ∃ n6 : Int, v4 = .int .u64 n6 ∧ br (!(decide (n6 = (0 : Int)))) (R (.bool false) w5) (Calls Try.prog 27 #[.pointer none] w5 (Rv fun v7 w8 =>
    ∃ n9 : Int, v7 = .int .i64 n9 ∧ br (!(decide (n9 = (0 : Int)))) (R (.bool false) w8) (Calls Try.prog 28 #[.pointer none] w8 (Rv fun v10 w11 =>
    ∃ n12 : Int, v10 = .int .i64 n12 ∧ br (!(decide (n12 = (11 : Int)))) (R (.bool false) w11) (Calls Try.prog 29 #[.pointer none] w11 (Rv fun v13 w14 =>
    ∃ n15 : Int, v13 = .int .i64 n15 ∧ br (!(decide (n15 = (11 : Int)))) (R (.bool false) w14) (Calls Try.prog 24 #[.pointer none] w14 (Rv fun v16 w17 =>
    ∃ p18 : Option Addr, v16 = .pointer p18 ∧
    ∃ n19 : Int, ∃ n20 : Int, ∃ n21 : Int, (World.drew w17).cell? (Addr.add ⟨w.heap.size, 0, none⟩ 0) = some (.int .i64 n19) ∧
    (World.drew w17).cell? (Addr.add ⟨w.heap.size, 0, none⟩ 1) = some (.int .u64 n20) ∧
    (World.drew w17).cell? (Addr.add ⟨w.heap.size, 0, none⟩ 2) = some (.int .i64 n21) ∧
    ∃ n22 : Int, (World.drew w17).cell? (Addr.add ⟨w.heap.size, 0, none⟩ 2) = some (.int .i64 n22) ∧
    Calls Try.prog 16 #[.agg #[.int .i64 n19, .int .u64 n20, .int .i64 n21]] (World.drew w17) (Rv fun v23 w24 => ∃ n25 : Int, v23 = .int .i64 n25 ∧
    w24.cell? (Addr.add ⟨w.heap.size, 0, none⟩ 2) = some (.int .i64 n22) ∧ Calls Try.prog 25 #[.slice none 0 0, .int .i64 n25, .int .i64 n22] w24 (Rv fun v26 w27 =>
    ∃ n28 : Int, ∃ n29 : Int, ∃ n30 : Int, v26 = .tuple #[.int .u64 n28, .int .i64 n29, .int .i64 n30] ∧ Calls Try.prog 27 #[.pointer p18] w27 (Rv fun v31 w32 =>
    ∃ n33 : Int, v31 = .int .i64 n33 ∧
    br (decide (n33 = (0 : Int))) (∃ n34 : Int, ∃ n35 : Int, ∃ n36 : Int, w32.cell? (Addr.add ⟨w.heap.size, 0, none⟩ 0) = some (.int .i64 n34) ∧
    w32.cell? (Addr.add ⟨w.heap.size, 0, none⟩ 1) = some (.int .u64 n35) ∧ w32.cell? (Addr.add ⟨w.heap.size, 0, none⟩ 2) = some (.int .i64 n36) ∧
    Calls Try.prog 26 #[.pointer p18, .agg #[.int .i64 n34, .int .u64 n35, .int .i64 n36]] w32 (Rv fun v37 w38 => ∃ n39 : Int, v37 = .int .u64 n39 ∧
    br (decide (n39 = n28)) (Calls Try.prog 28 #[.pointer p18] w38 (Rv fun v40 w41 => ∃ n42 : Int, v40 = .int .i64 n42 ∧
    br (decide (n42 = n30)) (Calls Try.prog 29 #[.pointer p18] w41 (Rv fun v43 w44 => ∃ n45 : Int, v43 = .int .i64 n45 ∧
    br (decide (n45 = n30)) (Calls Try.prog 14 #[] w44 (Rv fun v46 w47 => ∃ b48 : Bool, v46 = .bool b48 ∧
    R (.bool b48) w47)) (R (.bool false) w44))) (R (.bool false) w41))) (R (.bool false) w38))) (R (.bool false) w32)))))))))))))
theorem B5_eq : @B5 = fun (x0_0 : Int) (x0_1 : Int) (x0_2 : Int) (w : World) (R : Value → World → Prop) => trF Try.prog G (lk []) Try.f5 [.agg #[.int .i64 x0_0, .int .u64 x0_1, .int .i64 x0_2]] w R := by kernel_rfl
theorem c5 (x0_0 : Int) (x0_1 : Int) (x0_2 : Int) (w : World) (R : Value → World → Prop) (h : B5 x0_0 x0_1 x0_2 w R) : Calls Try.prog 5 #[.agg #[.int .i64 x0_0, .int .u64 x0_1, .int .i64 x0_2]] w (Rv R) := calls_of_tr (L := lk []) Try.func5 hG hM (by rw [B5_eq] at h; exact h)

/-- locution/locutionlaw06.StreamBack -/
def B6 (x_0 : Slc) (w : World) (R : Value → World → Prop) : Prop :=
  br (decide ((30 : Int) < (x_0.len : Int))) (Calls Try.prog 14 #[] w (Rv fun v1 w2 => ∃ b3 : Bool, v1 = .bool b3 ∧ R (.bool b3) w2)) (∃ (I4 : Int → World →
    Prop) (μ5 : Int → World → Nat), I4 (0 : Int) (w.alloc (.cells #[.pointer none] 27)) ∧ ∀ x6 : Int, ∀ w7 : World, I4 x6 w7 →
    br (decide (x6 < (x_0.len : Int))) (0 ≤ x6 ∧ x6 < (x_0.len : Int) ∧ ∃ a8, x_0.a = some a8 ∧
    ∃ n9 : Int, ∃ n10 : Int, ∃ n11 : Int, (World.drew w7).cell? (Addr.add (Addr.add a8 (x6.toNat * 3)) 0) = some (.int .i64 n9) ∧
    (World.drew w7).cell? (Addr.add (Addr.add a8 (x6.toNat * 3)) 1) = some (.int .u64 n10) ∧
    (World.drew w7).cell? (Addr.add (Addr.add a8 (x6.toNat * 3)) 2) = some (.int .i64 n11) ∧ 0 ≤ x6 ∧ x6 < (x_0.len : Int) ∧ ∃ a12, x_0.a = some a12 ∧
    ∃ n13 : Int, (World.drew w7).cell? (Addr.add (Addr.add a12 (x6.toNat * 3)) 1) = some (.int .u64 n13) ∧ 0 ≤ x6 ∧ x6 < (x_0.len : Int) ∧ ∃ a14, x_0.a = some a14 ∧
    ∃ n15 : Int, (World.drew w7).cell? (Addr.add (Addr.add a14 (x6.toNat * 3)) 2) = some (.int .i64 n15) ∧
    Calls Try.prog 16 #[.agg #[.int .i64 n9, .int .u64 n10, .int .i64 n11]] (World.drew w7) (Rv fun v16 w17 => ∃ n18 : Int, v16 = .int .i64 n18 ∧
    w17.cell? (Addr.add (Addr.add a14 (x6.toNat * 3)) 2) = some (.int .i64 n15) ∧ w17.cell? (Addr.add (Addr.add a12 (x6.toNat * 3)) 1) = some (.int .u64 n13) ∧
    Calls Try.prog 15 #[.slice none 0 0, .int .i64 n18, .int .u64 n13, .int .i64 n15] w17 (Rv fun v19 w20 =>
    ∃ l21 : Slc, ∃ n22 : Int, v19 = .tuple #[.slice l21.a l21.len l21.cap, .int .i64 n22] ∧
    br (!(decide (n22 = (0 : Int)))) (Calls Try.prog 14 #[] w20 (Rv fun v23 w24 => ∃ b25 : Bool, v23 = .bool b25 ∧ R (.bool b25) w24)) (0 ≤ x6 ∧ x6 < (x_0.len : Int) ∧
    ∃ a26, x_0.a = some a26 ∧ ∃ n27 : Int, ∃ n28 : Int, ∃ n29 : Int, w20.cell? (Addr.add (Addr.add a26 (x6.toNat * 3)) 0) = some (.int .i64 n27) ∧
    w20.cell? (Addr.add (Addr.add a26 (x6.toNat * 3)) 1) = some (.int .u64 n28) ∧ w20.cell? (Addr.add (Addr.add a26 (x6.toNat * 3)) 2) = some (.int .i64 n29) ∧
    Calls Try.prog 17 #[.pointer (some ⟨w.heap.size, 0, none⟩), .agg #[.int .i64 n27, .int .u64 n28, .int .i64 n29]] w20 (Rv fun v30 w31 =>
    ∃ n32 : Int, v30 = .int .i64 n32 ∧ I4 (IntKind.i64.wrap (x6 + 1)) w31 ∧
    μ5 (IntKind.i64.wrap (x6 + 1)) w31 < μ5 x6 w7))))) (Calls Try.prog 18 #[.pointer (some ⟨w.heap.size, 0, none⟩)] w7 (Rv fun v33 w34 =>
    ∃ p35 : Option Addr, v33 = .pointer p35 ∧ Calls Try.prog 19 #[.pointer p35] w34 (Rv fun v36 w37 => ∃ n38 : Int, v36 = .int .i64 n38 ∧
    Calls Try.prog 24 #[.pointer p35] w37 (Rv fun v39 w40 => ∃ p41 : Option Addr, v39 = .pointer p41 ∧
    Calls Try.prog 30 #[.pointer p35, .int .u64 1, .int .i64 1] w40 (Rv fun v42 w43 => ∃ n44 : Int, v42 = .int .i64 n44 ∧
    br (!(decide (n44 = (0 : Int)))) (R (.bool false) w43) (Calls Try.prog 18 #[.pointer (some ⟨w.heap.size, 0, none⟩)] w43 (Rv fun v45 w46 =>
    ∃ p47 : Option Addr, v45 = .pointer p47 ∧ Calls Try.prog 19 #[.pointer p47] w46 (Rv fun v48 w49 => ∃ n50 : Int, v48 = .int .i64 n50 ∧
    br (!(decide (n50 = n38))) (R (.bool false) w49) (∃ (I51 : Int → World → Prop) (μ52 : Int → World → Nat), I51 (0 : Int) w49 ∧
    ∀ x53 : Int, ∀ w54 : World, I51 x53 w54 → br (decide (x53 < (x_0.len : Int))) (0 ≤ x53 ∧ x53 < (x_0.len : Int) ∧ ∃ a55, x_0.a = some a55 ∧
    ∃ n56 : Int, w54.cell? (Addr.add (Addr.add a55 (x53.toNat * 3)) 1) = some (.int .u64 n56) ∧ 0 ≤ x53 ∧ x53 < (x_0.len : Int) ∧ ∃ a57, x_0.a = some a57 ∧
    ∃ n58 : Int, w54.cell? (Addr.add (Addr.add a57 (x53.toNat * 3)) 0) = some (.int .i64 n58) ∧ br (decide (n58 = (1 : Int))) (0 ≤ x53 ∧ x53 < (x_0.len : Int) ∧
    ∃ a59, x_0.a = some a59 ∧ ∃ n60 : Int, w54.cell? (Addr.add (Addr.add a59 (x53.toNat * 3)) 2) = some (.int .i64 n60) ∧ 0 ≤ x53 ∧ x53 < (x_0.len : Int) ∧
    ∃ a61, x_0.a = some a61 ∧ ∃ n62 : Int, ∃ n63 : Int, ∃ n64 : Int, w54.cell? (Addr.add (Addr.add a61 (x53.toNat * 3)) 0) = some (.int .i64 n62) ∧
    w54.cell? (Addr.add (Addr.add a61 (x53.toNat * 3)) 1) = some (.int .u64 n63) ∧ w54.cell? (Addr.add (Addr.add a61 (x53.toNat * 3)) 2) = some (.int .i64 n64) ∧
    Calls Try.prog 26 #[.pointer p41, .agg #[.int .i64 n62, .int .u64 n63, .int .i64 n64]] w54 (Rv fun v65 w66 => ∃ n67 : Int, v65 = .int .u64 n67 ∧
    br (!(decide (n67 = (IntKind.u64.wrap n60)))) (R (.bool false) w66) (I51 (IntKind.i64.wrap (x53 + 1)) w66 ∧
    μ52 (IntKind.i64.wrap (x53 + 1)) w66 < μ52 x53 w54))) (0 ≤ x53 ∧ x53 < (x_0.len : Int) ∧ ∃ a68, x_0.a = some a68 ∧
    ∃ n69 : Int, ∃ n70 : Int, ∃ n71 : Int, w54.cell? (Addr.add (Addr.add a68 (x53.toNat * 3)) 0) = some (.int .i64 n69) ∧
    w54.cell? (Addr.add (Addr.add a68 (x53.toNat * 3)) 1) = some (.int .u64 n70) ∧ w54.cell? (Addr.add (Addr.add a68 (x53.toNat * 3)) 2) = some (.int .i64 n71) ∧
    Calls Try.prog 26 #[.pointer p41, .agg #[.int .i64 n69, .int .u64 n70, .int .i64 n71]] w54 (Rv fun v72 w73 => ∃ n74 : Int, v72 = .int .u64 n74 ∧
    br (!(decide (n74 = n56))) (R (.bool false) w73) (I51 (IntKind.i64.wrap (x53 + 1)) w73 ∧
    μ52 (IntKind.i64.wrap (x53 + 1)) w73 < μ52 x53 w54)))) (Calls Try.prog 29 #[.pointer p41] w54 (Rv fun v75 w76 => ∃ n77 : Int, v75 = .int .i64 n77 ∧
    br (decide (n77 = (0 : Int))) (Calls Try.prog 27 #[.pointer p41] w76 (Rv fun v78 w79 => ∃ n80 : Int, v78 = .int .i64 n80 ∧
    br (decide (n80 = (0 : Int))) (Calls Try.prog 14 #[] w79 (Rv fun v81 w82 => ∃ b83 : Bool, v81 = .bool b83 ∧
    R (.bool b83) w82)) (R (.bool false) w79))) (R (.bool false) w76)))))))))))))
theorem B6_eq : @B6 = fun (x_0 : Slc) (w : World) (R : Value → World → Prop) => trF Try.prog G (lk [(5, [(4, .int .i64)]), (17, [(10, .int .i64)])]) Try.f6 [.slice x_0.a x_0.len x_0.cap] w R := by kernel_rfl
theorem c6 (x_0 : Slc) (w : World) (R : Value → World → Prop) (h : B6 x_0 w R) : Calls Try.prog 6 #[.slice x_0.a x_0.len x_0.cap] w (Rv R) := calls_of_tr (L := lk [(5, [(4, .int .i64)]), (17, [(10, .int .i64)])]) Try.func6 hG hM (by rw [B6_eq] at h; exact h)

/-- locution/locutionlaw06.live -/
def B14  (w : World) (R : Value → World → Prop) : Prop :=
  Calls Try.prog 59 #[.pointer (some ⟨w.heap.size, 0, none⟩), .int .u64 5] (w.alloc (.cells #[.pointer none] 27)) (Rv fun v1 w2 => ∃ n3 : Int, v1 = .int .i64 n3 ∧
    br (!(decide (n3 = (0 : Int)))) (R (.bool false) w2) (Calls Try.prog 60 #[.pointer (some ⟨w.heap.size, 0, none⟩), .int .u64 9, .int .i64 2] w2 (Rv fun v4 w5 =>
    ∃ n6 : Int, v4 = .int .i64 n6 ∧ br (!(decide (n6 = (0 : Int)))) (R (.bool false) w5) (Calls Try.prog 18 #[.pointer (some ⟨w.heap.size, 0, none⟩)] w5 (Rv fun v7 w8 =>
    ∃ p9 : Option Addr, v7 = .pointer p9 ∧ Calls Try.prog 24 #[.pointer p9] w8 (Rv fun v10 w11 => ∃ p12 : Option Addr, v10 = .pointer p12 ∧
    Calls Try.prog 18 #[.pointer (some ⟨w.heap.size, 0, none⟩)] w11 (Rv fun v13 w14 => ∃ p15 : Option Addr, v13 = .pointer p15 ∧
    Calls Try.prog 61 #[.pointer p15, .int .i64 0, .int .i64 10] w14 (Rv fun v16 w17 => ∃ n18 : Int, v16 = .int .u64 n18 ∧
    br (decide (n18 = (396 : Int))) (Calls Try.prog 62 #[.pointer p12] w17 (Rv fun v19 w20 => ∃ n21 : Int, v19 = .int .u64 n21 ∧
    br (decide (n21 = (5 : Int))) (Calls Try.prog 27 #[.pointer p12] w20 (Rv fun v22 w23 => ∃ n24 : Int, v22 = .int .i64 n24 ∧
    br (decide (n24 = (5 : Int))) (Calls Try.prog 63 #[.pointer p12, .int .i64 2] w23 (Rv fun v25 w26 => ∃ n27 : Int, v25 = .int .u64 n27 ∧
    br (decide (n27 = (9 : Int))) (Calls Try.prog 29 #[.pointer p12] w26 (Rv fun v28 w29 => ∃ n30 : Int, v28 = .int .i64 n30 ∧
    R (.bool (decide (n30 = (0 : Int)))) w29)) (R (.bool false) w26))) (R (.bool false) w23))) (R (.bool false) w20))) (R (.bool false) w17)))))))))
theorem B14_eq : @B14 = fun (w : World) (R : Value → World → Prop) => trF Try.prog G (lk []) Try.f14 [] w R := by kernel_rfl
theorem c14  (w : World) (R : Value → World → Prop) (h : B14  w R) : Calls Try.prog 14 #[] w (Rv R) := calls_of_tr (L := lk []) Try.func14 hG hM (by rw [B14_eq] at h; exact h)

/-- locution/locutionlaw06.kind -/
def B16 (x0_0 : Int) (x0_1 : Int) (x0_2 : Int) (w : World) (R : Value → World → Prop) : Prop :=
  ∃ n1 : Int, (w.alloc (.cells #[.int .i64 x0_0, .int .u64 x0_1, .int .i64 x0_2] 34)).cell? (Addr.add ⟨w.heap.size, 0, none⟩ 0) = some (.int .i64 n1) ∧
    br (decide (n1 < (0 : Int))) (R (.int .i64 3) (w.alloc (.cells #[.int .i64 x0_0, .int .u64 x0_1, .int .i64 x0_2] 34))) (∃ n2 : Int, (w.alloc (.cells #[.int .i64 x0_0, .int .u64 x0_1, .int .i64 x0_2] 34)).cell? (Addr.add ⟨w.heap.size, 0, none⟩ 0) = some (.int .i64 n2) ∧
    br (decide ((2 : Int) < n2)) (R (.int .i64 3) (w.alloc (.cells #[.int .i64 x0_0, .int .u64 x0_1, .int .i64 x0_2] 34))) (∃ n3 : Int, (w.alloc (.cells #[.int .i64 x0_0, .int .u64 x0_1, .int .i64 x0_2] 34)).cell? (Addr.add ⟨w.heap.size, 0, none⟩ 0) = some (.int .i64 n3) ∧
    R (.int .i64 n3) (w.alloc (.cells #[.int .i64 x0_0, .int .u64 x0_1, .int .i64 x0_2] 34))))
theorem B16_eq : @B16 = fun (x0_0 : Int) (x0_1 : Int) (x0_2 : Int) (w : World) (R : Value → World → Prop) => trF Try.prog G (lk []) Try.f16 [.agg #[.int .i64 x0_0, .int .u64 x0_1, .int .i64 x0_2]] w R := by kernel_rfl
theorem c16 (x0_0 : Int) (x0_1 : Int) (x0_2 : Int) (w : World) (R : Value → World → Prop) (h : B16 x0_0 x0_1 x0_2 w R) : Calls Try.prog 16 #[.agg #[.int .i64 x0_0, .int .u64 x0_1, .int .i64 x0_2]] w (Rv R) := calls_of_tr (L := lk []) Try.func16 hG hM (by rw [B16_eq] at h; exact h)

/-- locution/locutionlaw06.write -/
def B17 (a_0 : Addr) (x1_0 : Int) (x1_1 : Int) (x1_2 : Int) (w : World) (R : Value → World → Prop) : Prop :=
  ∃ n1 : Int, (w.alloc (.cells #[.int .i64 x1_0, .int .u64 x1_1, .int .i64 x1_2] 34)).cell? (Addr.add ⟨w.heap.size, 0, none⟩ 0) = some (.int .i64 n1) ∧
    br (decide (n1 = (0 : Int))) (∃ n2 : Int, (w.alloc (.cells #[.int .i64 x1_0, .int .u64 x1_1, .int .i64 x1_2] 34)).cell? (Addr.add ⟨w.heap.size, 0, none⟩ 1) = some (.int .u64 n2) ∧
    ∃ n3 : Int, (w.alloc (.cells #[.int .i64 x1_0, .int .u64 x1_1, .int .i64 x1_2] 34)).cell? (Addr.add ⟨w.heap.size, 0, none⟩ 2) = some (.int .i64 n3) ∧
    Calls Try.prog 69 #[.pointer (some a_0), .int .u64 n2, .int .i64 n3] (w.alloc (.cells #[.int .i64 x1_0, .int .u64 x1_1, .int .i64 x1_2] 34)) (Rv fun v4 w5 =>
    ∃ n6 : Int, v4 = .int .i64 n6 ∧
    R (.int .i64 n6) w5)) (br (decide (n1 = (1 : Int))) (∃ n7 : Int, (w.alloc (.cells #[.int .i64 x1_0, .int .u64 x1_1, .int .i64 x1_2] 34)).cell? (Addr.add ⟨w.heap.size, 0, none⟩ 2) = some (.int .i64 n7) ∧
    Calls Try.prog 70 #[.pointer (some a_0), .int .i64 n7] (w.alloc (.cells #[.int .i64 x1_0, .int .u64 x1_1, .int .i64 x1_2] 34)) (Rv fun v8 w9 =>
    ∃ n10 : Int, v8 = .int .i64 n10 ∧
    R (.int .i64 n10) w9)) (br (decide (n1 = (2 : Int))) (∃ n11 : Int, (w.alloc (.cells #[.int .i64 x1_0, .int .u64 x1_1, .int .i64 x1_2] 34)).cell? (Addr.add ⟨w.heap.size, 0, none⟩ 1) = some (.int .u64 n11) ∧
    Calls Try.prog 59 #[.pointer (some a_0), .int .u64 n11] (w.alloc (.cells #[.int .i64 x1_0, .int .u64 x1_1, .int .i64 x1_2] 34)) (Rv fun v12 w13 =>
    ∃ n14 : Int, v12 = .int .i64 n14 ∧
    R (.int .i64 n14) w13)) (∃ n15 : Int, (w.alloc (.cells #[.int .i64 x1_0, .int .u64 x1_1, .int .i64 x1_2] 34)).cell? (Addr.add ⟨w.heap.size, 0, none⟩ 1) = some (.int .u64 n15) ∧
    ∃ n16 : Int, (w.alloc (.cells #[.int .i64 x1_0, .int .u64 x1_1, .int .i64 x1_2] 34)).cell? (Addr.add ⟨w.heap.size, 0, none⟩ 2) = some (.int .i64 n16) ∧
    Calls Try.prog 60 #[.pointer (some a_0), .int .u64 n15, .int .i64 n16] (w.alloc (.cells #[.int .i64 x1_0, .int .u64 x1_1, .int .i64 x1_2] 34)) (Rv fun v17 w18 =>
    ∃ n19 : Int, v17 = .int .i64 n19 ∧ R (.int .i64 n19) w18))))
theorem B17_eq : @B17 = fun (a_0 : Addr) (x1_0 : Int) (x1_1 : Int) (x1_2 : Int) (w : World) (R : Value → World → Prop) => trF Try.prog G (lk []) Try.f17 [.pointer (some a_0), .agg #[.int .i64 x1_0, .int .u64 x1_1, .int .i64 x1_2]] w R := by kernel_rfl
theorem c17 (a_0 : Addr) (x1_0 : Int) (x1_1 : Int) (x1_2 : Int) (w : World) (R : Value → World → Prop) (h : B17 a_0 x1_0 x1_1 x1_2 w R) : Calls Try.prog 17 #[.pointer (some a_0), .agg #[.int .i64 x1_0, .int .u64 x1_1, .int .i64 x1_2]] w (Rv R) := calls_of_tr (L := lk []) Try.func17 hG hM (by rw [B17_eq] at h; exact h)

/-- locution/locutionlaw06.read -/
def B26 (a_0 : Addr) (x1_0 : Int) (x1_1 : Int) (x1_2 : Int) (w : World) (R : Value → World → Prop) : Prop :=
  ∃ n1 : Int, (w.alloc (.cells #[.int .i64 x1_0, .int .u64 x1_1, .int .i64 x1_2] 34)).cell? (Addr.add ⟨w.heap.size, 0, none⟩ 0) = some (.int .i64 n1) ∧
    br (decide (n1 = (0 : Int))) (∃ n2 : Int, (w.alloc (.cells #[.int .i64 x1_0, .int .u64 x1_1, .int .i64 x1_2] 34)).cell? (Addr.add ⟨w.heap.size, 0, none⟩ 2) = some (.int .i64 n2) ∧
    Calls Try.prog 78 #[.pointer (some a_0), .int .i64 n2] (w.alloc (.cells #[.int .i64 x1_0, .int .u64 x1_1, .int .i64 x1_2] 34)) (Rv fun v3 w4 =>
    ∃ n5 : Int, v3 = .int .u64 n5 ∧
    R (.int .u64 n5) w4)) (br (decide (n1 = (1 : Int))) (Calls Try.prog 79 #[.pointer (some a_0)] (w.alloc (.cells #[.int .i64 x1_0, .int .u64 x1_1, .int .i64 x1_2] 34)) (Rv fun v6 w7 =>
    ∃ n8 : Int, v6 = .int .i64 n8 ∧
    R (.int .u64 (IntKind.u64.wrap n8)) w7)) (br (decide (n1 = (2 : Int))) (Calls Try.prog 62 #[.pointer (some a_0)] (w.alloc (.cells #[.int .i64 x1_0, .int .u64 x1_1, .int .i64 x1_2] 34)) (Rv fun v9 w10 =>
    ∃ n11 : Int, v9 = .int .u64 n11 ∧
    R (.int .u64 n11) w10)) (∃ n12 : Int, (w.alloc (.cells #[.int .i64 x1_0, .int .u64 x1_1, .int .i64 x1_2] 34)).cell? (Addr.add ⟨w.heap.size, 0, none⟩ 2) = some (.int .i64 n12) ∧
    Calls Try.prog 63 #[.pointer (some a_0), .int .i64 n12] (w.alloc (.cells #[.int .i64 x1_0, .int .u64 x1_1, .int .i64 x1_2] 34)) (Rv fun v13 w14 =>
    ∃ n15 : Int, v13 = .int .u64 n15 ∧ R (.int .u64 n15) w14))))
theorem B26_eq : @B26 = fun (a_0 : Addr) (x1_0 : Int) (x1_1 : Int) (x1_2 : Int) (w : World) (R : Value → World → Prop) => trF Try.prog G (lk []) Try.f26 [.pointer (some a_0), .agg #[.int .i64 x1_0, .int .u64 x1_1, .int .i64 x1_2]] w R := by kernel_rfl
theorem c26 (a_0 : Addr) (x1_0 : Int) (x1_1 : Int) (x1_2 : Int) (w : World) (R : Value → World → Prop) (h : B26 a_0 x1_0 x1_1 x1_2 w R) : Calls Try.prog 26 #[.pointer (some a_0), .agg #[.int .i64 x1_0, .int .u64 x1_1, .int .i64 x1_2]] w (Rv R) := calls_of_tr (L := lk []) Try.func26 hG hM (by rw [B26_eq] at h; exact h)

/-- (*locution/stream.Writer).Fixed -/
def B69n (x_1 : Int) (x_2 : Int) (w : World) (R : Value → World → Prop) : Prop :=
  R (.int .i64 11) w
theorem B69n_eq : @B69n = fun (x_1 : Int) (x_2 : Int) (w : World) (R : Value → World → Prop) => trF Try.prog G (lk []) Try.f69 [.pointer none, .int .u64 x_1, .int .i64 x_2] w R := by kernel_rfl
theorem c69n (x_1 : Int) (x_2 : Int) (w : World) (R : Value → World → Prop) (h : B69n x_1 x_2 w R) : Calls Try.prog 69 #[.pointer none, .int .u64 x_1, .int .i64 x_2] w (Rv R) := calls_of_tr (L := lk []) Try.func69 hG hM (by rw [B69n_eq] at h; exact h)

/-- (*locution/stream.Writer).Unary -/
def B70n (x_1 : Int) (w : World) (R : Value → World → Prop) : Prop :=
  R (.int .i64 11) w
theorem B70n_eq : @B70n = fun (x_1 : Int) (w : World) (R : Value → World → Prop) => trF Try.prog G (lk []) Try.f70 [.pointer none, .int .i64 x_1] w R := by kernel_rfl
theorem c70n (x_1 : Int) (w : World) (R : Value → World → Prop) (h : B70n x_1 w R) : Calls Try.prog 70 #[.pointer none, .int .i64 x_1] w (Rv R) := calls_of_tr (L := lk []) Try.func70 hG hM (by rw [B70n_eq] at h; exact h)

/-- (*locution/stream.Writer).Gamma -/
def B59n (x_1 : Int) (w : World) (R : Value → World → Prop) : Prop :=
  R (.int .i64 11) w
theorem B59n_eq : @B59n = fun (x_1 : Int) (w : World) (R : Value → World → Prop) => trF Try.prog G (lk []) Try.f59 [.pointer none, .int .u64 x_1] w R := by kernel_rfl
theorem c59n (x_1 : Int) (w : World) (R : Value → World → Prop) (h : B59n x_1 w R) : Calls Try.prog 59 #[.pointer none, .int .u64 x_1] w (Rv R) := calls_of_tr (L := lk []) Try.func59 hG hM (by rw [B59n_eq] at h; exact h)

/-- (*locution/stream.Writer).Rice -/
def B60n (x_1 : Int) (x_2 : Int) (w : World) (R : Value → World → Prop) : Prop :=
  R (.int .i64 11) w
theorem B60n_eq : @B60n = fun (x_1 : Int) (x_2 : Int) (w : World) (R : Value → World → Prop) => trF Try.prog G (lk []) Try.f60 [.pointer none, .int .u64 x_1, .int .i64 x_2] w R := by kernel_rfl
theorem c60n (x_1 : Int) (x_2 : Int) (w : World) (R : Value → World → Prop) (h : B60n x_1 x_2 w R) : Calls Try.prog 60 #[.pointer none, .int .u64 x_1, .int .i64 x_2] w (Rv R) := calls_of_tr (L := lk []) Try.func60 hG hM (by rw [B60n_eq] at h; exact h)

/-- (*locution/stream.Writer).Row -/
def B18n  (w : World) (R : Value → World → Prop) : Prop :=
  Calls Try.prog 71 #[] w (Rv fun v1 w2 => ∃ p3 : Option Addr, v1 = .pointer p3 ∧ R (.pointer p3) w2)
theorem B18n_eq : @B18n = fun (w : World) (R : Value → World → Prop) => trF Try.prog G (lk []) Try.f18 [.pointer none] w R := by kernel_rfl
theorem c18n  (w : World) (R : Value → World → Prop) (h : B18n  w R) : Calls Try.prog 18 #[.pointer none] w (Rv R) := calls_of_tr (L := lk []) Try.func18 hG hM (by rw [B18n_eq] at h; exact h)

/-- locution/locutionlaw06.write -/
def B17n (x1_0 : Int) (x1_1 : Int) (x1_2 : Int) (w : World) (R : Value → World → Prop) : Prop :=
  ∃ n1 : Int, (w.alloc (.cells #[.int .i64 x1_0, .int .u64 x1_1, .int .i64 x1_2] 34)).cell? (Addr.add ⟨w.heap.size, 0, none⟩ 0) = some (.int .i64 n1) ∧
    br (decide (n1 = (0 : Int))) (∃ n2 : Int, (w.alloc (.cells #[.int .i64 x1_0, .int .u64 x1_1, .int .i64 x1_2] 34)).cell? (Addr.add ⟨w.heap.size, 0, none⟩ 1) = some (.int .u64 n2) ∧
    ∃ n3 : Int, (w.alloc (.cells #[.int .i64 x1_0, .int .u64 x1_1, .int .i64 x1_2] 34)).cell? (Addr.add ⟨w.heap.size, 0, none⟩ 2) = some (.int .i64 n3) ∧
    Calls Try.prog 69 #[.pointer none, .int .u64 n2, .int .i64 n3] (w.alloc (.cells #[.int .i64 x1_0, .int .u64 x1_1, .int .i64 x1_2] 34)) (Rv fun v4 w5 =>
    ∃ n6 : Int, v4 = .int .i64 n6 ∧
    R (.int .i64 n6) w5)) (br (decide (n1 = (1 : Int))) (∃ n7 : Int, (w.alloc (.cells #[.int .i64 x1_0, .int .u64 x1_1, .int .i64 x1_2] 34)).cell? (Addr.add ⟨w.heap.size, 0, none⟩ 2) = some (.int .i64 n7) ∧
    Calls Try.prog 70 #[.pointer none, .int .i64 n7] (w.alloc (.cells #[.int .i64 x1_0, .int .u64 x1_1, .int .i64 x1_2] 34)) (Rv fun v8 w9 =>
    ∃ n10 : Int, v8 = .int .i64 n10 ∧
    R (.int .i64 n10) w9)) (br (decide (n1 = (2 : Int))) (∃ n11 : Int, (w.alloc (.cells #[.int .i64 x1_0, .int .u64 x1_1, .int .i64 x1_2] 34)).cell? (Addr.add ⟨w.heap.size, 0, none⟩ 1) = some (.int .u64 n11) ∧
    Calls Try.prog 59 #[.pointer none, .int .u64 n11] (w.alloc (.cells #[.int .i64 x1_0, .int .u64 x1_1, .int .i64 x1_2] 34)) (Rv fun v12 w13 =>
    ∃ n14 : Int, v12 = .int .i64 n14 ∧
    R (.int .i64 n14) w13)) (∃ n15 : Int, (w.alloc (.cells #[.int .i64 x1_0, .int .u64 x1_1, .int .i64 x1_2] 34)).cell? (Addr.add ⟨w.heap.size, 0, none⟩ 1) = some (.int .u64 n15) ∧
    ∃ n16 : Int, (w.alloc (.cells #[.int .i64 x1_0, .int .u64 x1_1, .int .i64 x1_2] 34)).cell? (Addr.add ⟨w.heap.size, 0, none⟩ 2) = some (.int .i64 n16) ∧
    Calls Try.prog 60 #[.pointer none, .int .u64 n15, .int .i64 n16] (w.alloc (.cells #[.int .i64 x1_0, .int .u64 x1_1, .int .i64 x1_2] 34)) (Rv fun v17 w18 =>
    ∃ n19 : Int, v17 = .int .i64 n19 ∧ R (.int .i64 n19) w18))))
theorem B17n_eq : @B17n = fun (x1_0 : Int) (x1_1 : Int) (x1_2 : Int) (w : World) (R : Value → World → Prop) => trF Try.prog G (lk []) Try.f17 [.pointer none, .agg #[.int .i64 x1_0, .int .u64 x1_1, .int .i64 x1_2]] w R := by kernel_rfl
theorem c17n (x1_0 : Int) (x1_1 : Int) (x1_2 : Int) (w : World) (R : Value → World → Prop) (h : B17n x1_0 x1_1 x1_2 w R) : Calls Try.prog 17 #[.pointer none, .agg #[.int .i64 x1_0, .int .u64 x1_1, .int .i64 x1_2]] w (Rv R) := calls_of_tr (L := lk []) Try.func17 hG hM (by rw [B17n_eq] at h; exact h)

/-- locution/locutionlaw06.read -/
def B26n (x1_0 : Int) (x1_1 : Int) (x1_2 : Int) (w : World) (R : Value → World → Prop) : Prop :=
  ∃ n1 : Int, (w.alloc (.cells #[.int .i64 x1_0, .int .u64 x1_1, .int .i64 x1_2] 34)).cell? (Addr.add ⟨w.heap.size, 0, none⟩ 0) = some (.int .i64 n1) ∧
    br (decide (n1 = (0 : Int))) (∃ n2 : Int, (w.alloc (.cells #[.int .i64 x1_0, .int .u64 x1_1, .int .i64 x1_2] 34)).cell? (Addr.add ⟨w.heap.size, 0, none⟩ 2) = some (.int .i64 n2) ∧
    Calls Try.prog 78 #[.pointer none, .int .i64 n2] (w.alloc (.cells #[.int .i64 x1_0, .int .u64 x1_1, .int .i64 x1_2] 34)) (Rv fun v3 w4 =>
    ∃ n5 : Int, v3 = .int .u64 n5 ∧
    R (.int .u64 n5) w4)) (br (decide (n1 = (1 : Int))) (Calls Try.prog 79 #[.pointer none] (w.alloc (.cells #[.int .i64 x1_0, .int .u64 x1_1, .int .i64 x1_2] 34)) (Rv fun v6 w7 =>
    ∃ n8 : Int, v6 = .int .i64 n8 ∧
    R (.int .u64 (IntKind.u64.wrap n8)) w7)) (br (decide (n1 = (2 : Int))) (Calls Try.prog 62 #[.pointer none] (w.alloc (.cells #[.int .i64 x1_0, .int .u64 x1_1, .int .i64 x1_2] 34)) (Rv fun v9 w10 =>
    ∃ n11 : Int, v9 = .int .u64 n11 ∧
    R (.int .u64 n11) w10)) (∃ n12 : Int, (w.alloc (.cells #[.int .i64 x1_0, .int .u64 x1_1, .int .i64 x1_2] 34)).cell? (Addr.add ⟨w.heap.size, 0, none⟩ 2) = some (.int .i64 n12) ∧
    Calls Try.prog 63 #[.pointer none, .int .i64 n12] (w.alloc (.cells #[.int .i64 x1_0, .int .u64 x1_1, .int .i64 x1_2] 34)) (Rv fun v13 w14 =>
    ∃ n15 : Int, v13 = .int .u64 n15 ∧ R (.int .u64 n15) w14))))
theorem B26n_eq : @B26n = fun (x1_0 : Int) (x1_1 : Int) (x1_2 : Int) (w : World) (R : Value → World → Prop) => trF Try.prog G (lk []) Try.f26 [.pointer none, .agg #[.int .i64 x1_0, .int .u64 x1_1, .int .i64 x1_2]] w R := by kernel_rfl
theorem c26n (x1_0 : Int) (x1_1 : Int) (x1_2 : Int) (w : World) (R : Value → World → Prop) (h : B26n x1_0 x1_1 x1_2 w R) : Calls Try.prog 26 #[.pointer none, .agg #[.int .i64 x1_0, .int .u64 x1_1, .int .i64 x1_2]] w (Rv R) := calls_of_tr (L := lk []) Try.func26 hG hM (by rw [B26n_eq] at h; exact h)

/-- (*locution/stream.Reader).goes -/
def B95n  (w : World) (R : Value → World → Prop) : Prop :=
  R (.bool false) w
theorem B95n_eq : @B95n = fun (w : World) (R : Value → World → Prop) => trF Try.prog G (lk []) Try.f95 [.pointer none] w R := by kernel_rfl
theorem c95n  (w : World) (R : Value → World → Prop) (h : B95n  w R) : Calls Try.prog 95 #[.pointer none] w (Rv R) := calls_of_tr (L := lk []) Try.func95 hG hM (by rw [B95n_eq] at h; exact h)

/-- (*locution/stream.Reader).Fixed -/
def B78n (x_1 : Int) (w : World) (R : Value → World → Prop) : Prop :=
  Calls Try.prog 95 #[.pointer none] w (Rv fun v1 w2 => ∃ b3 : Bool, v1 = .bool b3 ∧
    br (!b3) (R (.int .u64 0) w2) (br (decide (x_1 < (0 : Int))) (Calls Try.prog 98 #[.pointer none, .int .i64 1] w2 (Rv fun v4 w5 => v4 = .tuple #[] ∧
    R (.int .u64 0) w5)) (br (decide ((64 : Int) < x_1)) (Calls Try.prog 98 #[.pointer none, .int .i64 1] w2 (Rv fun v6 w7 => v6 = .tuple #[] ∧
    R (.int .u64 0) w7)) (False))))
theorem B78n_eq : @B78n = fun (x_1 : Int) (w : World) (R : Value → World → Prop) => trF Try.prog G (lk []) Try.f78 [.pointer none, .int .i64 x_1] w R := by kernel_rfl
theorem c78n (x_1 : Int) (w : World) (R : Value → World → Prop) (h : B78n x_1 w R) : Calls Try.prog 78 #[.pointer none, .int .i64 x_1] w (Rv R) := calls_of_tr (L := lk []) Try.func78 hG hM (by rw [B78n_eq] at h; exact h)

/-- (*locution/stream.Reader).Unary -/
def B79n  (w : World) (R : Value → World → Prop) : Prop :=
  Calls Try.prog 95 #[.pointer none] w (Rv fun v1 w2 => ∃ b3 : Bool, v1 = .bool b3 ∧
    br (!b3) (R (.int .i64 0) w2) (Calls Try.prog 96 #[.pointer none, .int .i64 4096] w2 (Rv fun v4 w5 => ∃ n6 : Int, v4 = .int .i64 n6 ∧
    br (decide (n6 < (0 : Int))) (R (.int .i64 0) w5) (False))))
theorem B79n_eq : @B79n = fun (w : World) (R : Value → World → Prop) => trF Try.prog G (lk []) Try.f79 [.pointer none] w R := by kernel_rfl
theorem c79n  (w : World) (R : Value → World → Prop) (h : B79n  w R) : Calls Try.prog 79 #[.pointer none] w (Rv R) := calls_of_tr (L := lk []) Try.func79 hG hM (by rw [B79n_eq] at h; exact h)

/-- (*locution/stream.Reader).Gamma -/
def B62n  (w : World) (R : Value → World → Prop) : Prop :=
  Calls Try.prog 95 #[.pointer none] w (Rv fun v1 w2 => ∃ b3 : Bool, v1 = .bool b3 ∧
    br (!b3) (R (.int .u64 0) w2) (Calls Try.prog 96 #[.pointer none, .int .i64 63] w2 (Rv fun v4 w5 => ∃ n6 : Int, v4 = .int .i64 n6 ∧
    br (decide (n6 < (0 : Int))) (R (.int .u64 0) w5) (False))))
theorem B62n_eq : @B62n = fun (w : World) (R : Value → World → Prop) => trF Try.prog G (lk []) Try.f62 [.pointer none] w R := by kernel_rfl
theorem c62n  (w : World) (R : Value → World → Prop) (h : B62n  w R) : Calls Try.prog 62 #[.pointer none] w (Rv R) := calls_of_tr (L := lk []) Try.func62 hG hM (by rw [B62n_eq] at h; exact h)

/-- (*locution/stream.Reader).Rice -/
def B63n (x_1 : Int) (w : World) (R : Value → World → Prop) : Prop :=
  Calls Try.prog 95 #[.pointer none] w (Rv fun v1 w2 => ∃ b3 : Bool, v1 = .bool b3 ∧
    br (!b3) (R (.int .u64 0) w2) (br (decide (x_1 < (0 : Int))) (Calls Try.prog 98 #[.pointer none, .int .i64 1] w2 (Rv fun v4 w5 => v4 = .tuple #[] ∧
    R (.int .u64 0) w5)) (br (decide ((63 : Int) < x_1)) (Calls Try.prog 98 #[.pointer none, .int .i64 1] w2 (Rv fun v6 w7 => v6 = .tuple #[] ∧
    R (.int .u64 0) w7)) (Calls Try.prog 96 #[.pointer none, .int .i64 4096] w2 (Rv fun v8 w9 => ∃ n10 : Int, v8 = .int .i64 n10 ∧
    br (decide (n10 < (0 : Int))) (R (.int .u64 0) w9) (Calls Try.prog 80 #[.int .u64 (IntKind.u64.wrap n10)] w9 (Rv fun v11 w12 => ∃ n13 : Int, v11 = .int .i64 n13 ∧
    br (decide ((64 : Int) < (IntKind.i64.wrap (n13 + x_1)))) (Calls Try.prog 98 #[.pointer none, .int .i64 3] w12 (Rv fun v14 w15 => v14 = .tuple #[] ∧
    R (.int .u64 0) w15)) (False))))))))
theorem B63n_eq : @B63n = fun (x_1 : Int) (w : World) (R : Value → World → Prop) => trF Try.prog G (lk []) Try.f63 [.pointer none, .int .i64 x_1] w R := by kernel_rfl
theorem c63n (x_1 : Int) (w : World) (R : Value → World → Prop) (h : B63n x_1 w R) : Calls Try.prog 63 #[.pointer none, .int .i64 x_1] w (Rv R) := calls_of_tr (L := lk []) Try.func63 hG hM (by rw [B63n_eq] at h; exact h)

/-- (*locution/stream.Reader).Left -/
def B27n  (w : World) (R : Value → World → Prop) : Prop :=
  R (.int .i64 0) w
theorem B27n_eq : @B27n = fun (w : World) (R : Value → World → Prop) => trF Try.prog G (lk []) Try.f27 [.pointer none] w R := by kernel_rfl
theorem c27n  (w : World) (R : Value → World → Prop) (h : B27n  w R) : Calls Try.prog 27 #[.pointer none] w (Rv R) := calls_of_tr (L := lk []) Try.func27 hG hM (by rw [B27n_eq] at h; exact h)

/-- (*locution/stream.Reader).Err -/
def B28n  (w : World) (R : Value → World → Prop) : Prop :=
  R (.int .i64 11) w
theorem B28n_eq : @B28n = fun (w : World) (R : Value → World → Prop) => trF Try.prog G (lk []) Try.f28 [.pointer none] w R := by kernel_rfl
theorem c28n  (w : World) (R : Value → World → Prop) (h : B28n  w R) : Calls Try.prog 28 #[.pointer none] w (Rv R) := calls_of_tr (L := lk []) Try.func28 hG hM (by rw [B28n_eq] at h; exact h)

/-- (*locution/stream.Reader).End -/
def B29n  (w : World) (R : Value → World → Prop) : Prop :=
  Calls Try.prog 28 #[.pointer none] w (Rv fun v1 w2 => ∃ n3 : Int, v1 = .int .i64 n3 ∧
    br (decide (n3 = (0 : Int))) (Calls Try.prog 27 #[.pointer none] w2 (Rv fun v4 w5 => ∃ n6 : Int, v4 = .int .i64 n6 ∧
    br (decide ((0 : Int) < n6)) (R (.int .i64 3) w5) (Calls Try.prog 28 #[.pointer none] w5 (Rv fun v7 w8 => ∃ n9 : Int, v7 = .int .i64 n9 ∧
    R (.int .i64 n9) w8)))) (Calls Try.prog 28 #[.pointer none] w2 (Rv fun v10 w11 => ∃ n12 : Int, v10 = .int .i64 n12 ∧ R (.int .i64 n12) w11)))
theorem B29n_eq : @B29n = fun (w : World) (R : Value → World → Prop) => trF Try.prog G (lk []) Try.f29 [.pointer none] w R := by kernel_rfl
theorem c29n  (w : World) (R : Value → World → Prop) (h : B29n  w R) : Calls Try.prog 29 #[.pointer none] w (Rv R) := calls_of_tr (L := lk []) Try.func29 hG hM (by rw [B29n_eq] at h; exact h)

/-- locution/stream.Open -/
def B24n  (w : World) (R : Value → World → Prop) : Prop :=
  Calls Try.prog 72 #[.pointer none] w (Rv fun v1 w2 => ∃ p3 : Option Addr, v1 = .pointer p3 ∧
    R (.pointer (some ⟨w2.heap.size, 0, none⟩)) (w2.alloc (.cells #[.pointer p3, .int .i64 0, .int .i64 0] 97)))
theorem B24n_eq : @B24n = fun (w : World) (R : Value → World → Prop) => trF Try.prog G (lk []) Try.f24 [.pointer none] w R := by kernel_rfl
theorem c24n  (w : World) (R : Value → World → Prop) (h : B24n  w R) : Calls Try.prog 24 #[.pointer none] w (Rv R) := calls_of_tr (L := lk []) Try.func24 hG hM (by rw [B24n_eq] at h; exact h)

/-- locution/stream.copied -/
def B72n  (w : World) (R : Value → World → Prop) : Prop :=
  Calls Try.prog 21 #[.pointer none] w (Rv fun v1 w2 => ∃ l3 : Slc, v1 = .slice l3.a l3.len l3.cap ∧ Calls Try.prog 19 #[.pointer none] w2 (Rv fun v4 w5 =>
    ∃ n6 : Int, v4 = .int .i64 n6 ∧ Calls Try.prog 101 #[.slice l3.a l3.len l3.cap, .int .i64 n6] w5 (Rv fun v7 w8 =>
    ∃ p9 : Option Addr, ∃ n10 : Int, v7 = .tuple #[.pointer p9, .int .i64 n10] ∧ R (.pointer p9) w8)))
theorem B72n_eq : @B72n = fun (w : World) (R : Value → World → Prop) => trF Try.prog G (lk []) Try.f72 [.pointer none] w R := by kernel_rfl
theorem c72n  (w : World) (R : Value → World → Prop) (h : B72n  w R) : Calls Try.prog 72 #[.pointer none] w (Rv R) := calls_of_tr (L := lk []) Try.func72 hG hM (by rw [B72n_eq] at h; exact h)

end Go.Proofs.Ytbgbmliladhpeaa.V
