/- The verification conditions of functions, printed by a program of this work (pr.py) and checked here by the kernel. -/
import Derived.Test.YtlobkadfmgnlmaaBL
set_option maxRecDepth 100000
set_option linter.unusedVariables false
namespace Go.Proofs.Ytlobkadfmgnlmaa.V
open Go Go.VC

/-- (*locution/wire.Writer).Bytes -/
def B30 (a_0 : Addr) (w : World) (R : Value → World → Prop) : Prop :=
  ∃ l1 : Slc, w.cell? (Addr.add a_0 0) = some (.slice l1.a l1.len l1.cap) ∧
    ∃ w2 : World, ∃ s3 : ByteArray, (convert 33 9 (.slice l1.a l1.len l1.cap)).run Try.prog w = .ok (.string s3) w2 ∧ R (.string s3) w2
theorem B30_eq : @B30 = fun (a_0 : Addr) (w : World) (R : Value → World → Prop) => trF Try.prog G (lk []) Try.f30 [.pointer (some a_0)] w R := by kernel_rfl
theorem c30 (a_0 : Addr) (w : World) (R : Value → World → Prop) (h : B30 a_0 w R) : Calls Try.prog 30 #[.pointer (some a_0)] w (Rv R) := calls_of_tr (L := lk []) Try.func30 hG hM (by rw [B30_eq] at h; exact h)

/-- locution/wire.Open -/
def B31 (x_0 : ByteArray) (w : World) (R : Value → World → Prop) : Prop :=
  R (.pointer (some ⟨w.heap.size, 0, none⟩)) (w.alloc (.cells #[.string x_0, .int .i64 0, .int .i64 0] 87))
theorem B31_eq : @B31 = fun (x_0 : ByteArray) (w : World) (R : Value → World → Prop) => trF Try.prog G (lk []) Try.f31 [.string x_0] w R := by kernel_rfl
theorem c31 (x_0 : ByteArray) (w : World) (R : Value → World → Prop) (h : B31 x_0 w R) : Calls Try.prog 31 #[.string x_0] w (Rv R) := calls_of_tr (L := lk []) Try.func31 hG hM (by rw [B31_eq] at h; exact h)

/-- (*locution/wire.Reader).Num -/
def B32 (a_0 : Addr) (w : World) (R : Value → World → Prop) : Prop :=
  Calls Try.prog 69 #[.pointer (some a_0), .func (.func 70) #[] #[.pointer (some ⟨w.heap.size, 0, none⟩)]] (w.alloc (.cells #[.int .u64 0] 22)) (Rv fun v1 w2 =>
    ∃ b3 : Bool, v1 = .bool b3 ∧ br b3 (∃ n4 : Int, w2.cell? ⟨w.heap.size, 0, none⟩ = some (.int .u64 n4) ∧ R (.int .u64 n4) w2) (R (.int .u64 0) w2))
theorem B32_eq : @B32 = fun (a_0 : Addr) (w : World) (R : Value → World → Prop) => trF Try.prog G (lk []) Try.f32 [.pointer (some a_0)] w R := by kernel_rfl
theorem c32 (a_0 : Addr) (w : World) (R : Value → World → Prop) (h : B32 a_0 w R) : Calls Try.prog 32 #[.pointer (some a_0)] w (Rv R) := calls_of_tr (L := lk []) Try.func32 hG hM (by rw [B32_eq] at h; exact h)

/-- (*locution/wire.Reader).Int -/
def B33 (a_0 : Addr) (w : World) (R : Value → World → Prop) : Prop :=
  Calls Try.prog 32 #[.pointer (some a_0)] w (Rv fun v1 w2 => ∃ n3 : Int, v1 = .int .u64 n3 ∧ 0 ≤ (1 : Int) ∧
    R (.int .i64 (bXor .i64 (IntKind.i64.wrap (shR .u64 n3 1)) (IntKind.i64.wrap (0 - (IntKind.i64.wrap (bAnd .u64 n3 1)))))) w2)
theorem B33_eq : @B33 = fun (a_0 : Addr) (w : World) (R : Value → World → Prop) => trF Try.prog G (lk []) Try.f33 [.pointer (some a_0)] w R := by kernel_rfl
theorem c33 (a_0 : Addr) (w : World) (R : Value → World → Prop) (h : B33 a_0 w R) : Calls Try.prog 33 #[.pointer (some a_0)] w (Rv R) := calls_of_tr (L := lk []) Try.func33 hG hM (by rw [B33_eq] at h; exact h)

/-- (*locution/wire.Reader).Text -/
def B34 (a_0 : Addr) (x_1 : Int) (w : World) (R : Value → World → Prop) : Prop :=
  
    (∃ u, ((w.alloc (.cells #[.int .i64 x_1] 3)).alloc (.cells #[.string ByteArray.empty] 9)).cell? ⟨(w.alloc (.cells #[.int .i64 x_1] 3)).heap.size, 0, none⟩ = some u) ∧
    ((w.alloc (.cells #[.int .i64 x_1] 3)).alloc (.cells #[.string ByteArray.empty] 9)).frozen? ⟨(w.alloc (.cells #[.int .i64 x_1] 3)).heap.size, 0, none⟩ = false ∧
    Calls Try.prog 69 #[.pointer (some a_0), .func (.func 72) #[] #[.pointer (some ⟨w.heap.size, 0, none⟩), .pointer (some ⟨(w.alloc (.cells #[.int .i64 x_1] 3)).heap.size, 0, none⟩)]] (((w.alloc (.cells #[.int .i64 x_1] 3)).alloc (.cells #[.string ByteArray.empty] 9)).setCell ⟨(w.alloc (.cells #[.int .i64 x_1] 3)).heap.size, 0, none⟩ (.string (⟨#[]⟩ : ByteArray))) (Rv fun v1 w2 =>
    ∃ b3 : Bool, v1 = .bool b3 ∧ ∃ s4 : ByteArray, w2.cell? ⟨(w.alloc (.cells #[.int .i64 x_1] 3)).heap.size, 0, none⟩ = some (.string s4) ∧ R (.string s4) w2)
theorem B34_eq : @B34 = fun (a_0 : Addr) (x_1 : Int) (w : World) (R : Value → World → Prop) => trF Try.prog G (lk []) Try.f34 [.pointer (some a_0), .int .i64 x_1] w R := by kernel_rfl
theorem c34 (a_0 : Addr) (x_1 : Int) (w : World) (R : Value → World → Prop) (h : B34 a_0 x_1 w R) : Calls Try.prog 34 #[.pointer (some a_0), .int .i64 x_1] w (Rv R) := calls_of_tr (L := lk []) Try.func34 hG hM (by rw [B34_eq] at h; exact h)

/-- (*locution/wire.Reader).Raw -/
def B35 (a_0 : Addr) (x_1 : Int) (w : World) (R : Value → World → Prop) : Prop :=
  
    (∃ u, ((w.alloc (.cells #[.int .i64 x_1] 3)).alloc (.cells #[.string ByteArray.empty] 9)).cell? ⟨(w.alloc (.cells #[.int .i64 x_1] 3)).heap.size, 0, none⟩ = some u) ∧
    ((w.alloc (.cells #[.int .i64 x_1] 3)).alloc (.cells #[.string ByteArray.empty] 9)).frozen? ⟨(w.alloc (.cells #[.int .i64 x_1] 3)).heap.size, 0, none⟩ = false ∧
    Calls Try.prog 69 #[.pointer (some a_0), .func (.func 73) #[] #[.pointer (some ⟨w.heap.size, 0, none⟩), .pointer (some ⟨(w.alloc (.cells #[.int .i64 x_1] 3)).heap.size, 0, none⟩)]] (((w.alloc (.cells #[.int .i64 x_1] 3)).alloc (.cells #[.string ByteArray.empty] 9)).setCell ⟨(w.alloc (.cells #[.int .i64 x_1] 3)).heap.size, 0, none⟩ (.string (⟨#[]⟩ : ByteArray))) (Rv fun v1 w2 =>
    ∃ b3 : Bool, v1 = .bool b3 ∧ ∃ s4 : ByteArray, w2.cell? ⟨(w.alloc (.cells #[.int .i64 x_1] 3)).heap.size, 0, none⟩ = some (.string s4) ∧ R (.string s4) w2)
theorem B35_eq : @B35 = fun (a_0 : Addr) (x_1 : Int) (w : World) (R : Value → World → Prop) => trF Try.prog G (lk []) Try.f35 [.pointer (some a_0), .int .i64 x_1] w R := by kernel_rfl
theorem c35 (a_0 : Addr) (x_1 : Int) (w : World) (R : Value → World → Prop) (h : B35 a_0 x_1 w R) : Calls Try.prog 35 #[.pointer (some a_0), .int .i64 x_1] w (Rv R) := calls_of_tr (L := lk []) Try.func35 hG hM (by rw [B35_eq] at h; exact h)

/-- (*locution/wire.Reader).Left -/
def B36 (a_0 : Addr) (w : World) (R : Value → World → Prop) : Prop :=
  ∃ s1 : ByteArray, (World.drew w).cell? (Addr.add a_0 0) = some (.string s1) ∧ ∃ n2 : Int, (World.drew w).cell? (Addr.add a_0 1) = some (.int .i64 n2) ∧
    R (.int .i64 (IntKind.i64.wrap ((s1.size : Int) - n2))) (World.drew w)
theorem B36_eq : @B36 = fun (a_0 : Addr) (w : World) (R : Value → World → Prop) => trF Try.prog G (lk []) Try.f36 [.pointer (some a_0)] w R := by kernel_rfl
theorem c36 (a_0 : Addr) (w : World) (R : Value → World → Prop) (h : B36 a_0 w R) : Calls Try.prog 36 #[.pointer (some a_0)] w (Rv R) := calls_of_tr (L := lk []) Try.func36 hG hM (by rw [B36_eq] at h; exact h)

/-- (*locution/wire.Reader).Err -/
def B37 (a_0 : Addr) (w : World) (R : Value → World → Prop) : Prop :=
  ∃ n1 : Int, w.cell? (Addr.add a_0 2) = some (.int .i64 n1) ∧ R (.int .i64 n1) w
theorem B37_eq : @B37 = fun (a_0 : Addr) (w : World) (R : Value → World → Prop) => trF Try.prog G (lk []) Try.f37 [.pointer (some a_0)] w R := by kernel_rfl
theorem c37 (a_0 : Addr) (w : World) (R : Value → World → Prop) (h : B37 a_0 w R) : Calls Try.prog 37 #[.pointer (some a_0)] w (Rv R) := calls_of_tr (L := lk []) Try.func37 hG hM (by rw [B37_eq] at h; exact h)

/-- (*locution/wire.Reader).End -/
def B39 (a_0 : Addr) (w : World) (R : Value → World → Prop) : Prop :=
  Calls Try.prog 37 #[.pointer (some a_0)] w (Rv fun v1 w2 => ∃ n3 : Int, v1 = .int .i64 n3 ∧
    br (decide (n3 = (0 : Int))) (Calls Try.prog 36 #[.pointer (some a_0)] w2 (Rv fun v4 w5 => ∃ n6 : Int, v4 = .int .i64 n6 ∧
    br (decide ((0 : Int) < n6)) (R (.int .i64 3) w5) (Calls Try.prog 37 #[.pointer (some a_0)] w5 (Rv fun v7 w8 => ∃ n9 : Int, v7 = .int .i64 n9 ∧
    R (.int .i64 n9) w8)))) (Calls Try.prog 37 #[.pointer (some a_0)] w2 (Rv fun v10 w11 => ∃ n12 : Int, v10 = .int .i64 n12 ∧ R (.int .i64 n12) w11)))
theorem B39_eq : @B39 = fun (a_0 : Addr) (w : World) (R : Value → World → Prop) => trF Try.prog G (lk []) Try.f39 [.pointer (some a_0)] w R := by kernel_rfl
theorem c39 (a_0 : Addr) (w : World) (R : Value → World → Prop) (h : B39 a_0 w R) : Calls Try.prog 39 #[.pointer (some a_0)] w (Rv R) := calls_of_tr (L := lk []) Try.func39 hG hM (by rw [B39_eq] at h; exact h)

/-- (*locution/wire.Writer).Num -/
def B41 (a_0 : Addr) (x_1 : Int) (w : World) (R : Value → World → Prop) : Prop :=
  ∃ (I1 : Int → World → Prop) (μ2 : Int → World → Nat), I1 x_1 w ∧ ∀ x3 : Int, ∀ w4 : World, I1 x3 w4 →
    br (decide ((128 : Int) ≤ x3)) (∃ l5 : Slc, w4.cell? (Addr.add a_0 0) = some (.slice l5.a l5.len l5.cap) ∧
    ∃ w6 : World, ∃ l7 : Slc, (Builtin.append_ #[33, 33] 33 #[.slice l5.a l5.len l5.cap, .slice (some ⟨w4.heap.size, 0, none⟩) 1 1]).run Try.prog (w4.alloc (.cells #[.int .u8 (bOr .u8 (IntKind.u8.wrap x3) 128)] 5)) = .ok (.slice l7.a l7.len l7.cap) w6 ∧
    (∃ u, w6.cell? (Addr.add a_0 0) = some u) ∧ w6.frozen? (Addr.add a_0 0) = false ∧ 0 ≤ (7 : Int) ∧
    I1 (shR .u64 x3 7) (w6.setCell (Addr.add a_0 0) (.slice l7.a l7.len l7.cap)) ∧
    μ2 (shR .u64 x3 7) (w6.setCell (Addr.add a_0 0) (.slice l7.a l7.len l7.cap)) < μ2 x3 w4) (∃ l8 : Slc, w4.cell? (Addr.add a_0 0) = some (.slice l8.a l8.len l8.cap) ∧
    ∃ w9 : World, ∃ l10 : Slc, (Builtin.append_ #[33, 33] 33 #[.slice l8.a l8.len l8.cap, .slice (some ⟨w4.heap.size, 0, none⟩) 1 1]).run Try.prog (w4.alloc (.cells #[.int .u8 (IntKind.u8.wrap x3)] 5)) = .ok (.slice l10.a l10.len l10.cap) w9 ∧
    (∃ u, w9.cell? (Addr.add a_0 0) = some u) ∧ w9.frozen? (Addr.add a_0 0) = false ∧ R (.tuple #[]) (w9.setCell (Addr.add a_0 0) (.slice l10.a l10.len l10.cap)))
theorem B41_eq : @B41 = fun (a_0 : Addr) (x_1 : Int) (w : World) (R : Value → World → Prop) => trF Try.prog G (lk [(1, [(1, .int .u64)])]) Try.f41 [.pointer (some a_0), .int .u64 x_1] w R := by kernel_rfl
theorem c41 (a_0 : Addr) (x_1 : Int) (w : World) (R : Value → World → Prop) (h : B41 a_0 x_1 w R) : Calls Try.prog 41 #[.pointer (some a_0), .int .u64 x_1] w (Rv R) := calls_of_tr (L := lk [(1, [(1, .int .u64)])]) Try.func41 hG hM (by rw [B41_eq] at h; exact h)

/-- (*locution/wire.Writer).Int -/
def B63 (a_0 : Addr) (x_1 : Int) (w : World) (R : Value → World → Prop) : Prop :=
  0 ≤ (1 : Int) ∧ 0 ≤ (63 : Int) ∧
    Calls Try.prog 41 #[.pointer (some a_0), .int .u64 (bXor .u64 (shL .u64 (IntKind.u64.wrap x_1) 1) (IntKind.u64.wrap (shR .i64 x_1 63)))] w (Rv fun v1 w2 =>
    v1 = .tuple #[] ∧ R (.tuple #[]) w2)
theorem B63_eq : @B63 = fun (a_0 : Addr) (x_1 : Int) (w : World) (R : Value → World → Prop) => trF Try.prog G (lk []) Try.f63 [.pointer (some a_0), .int .i64 x_1] w R := by kernel_rfl
theorem c63 (a_0 : Addr) (x_1 : Int) (w : World) (R : Value → World → Prop) (h : B63 a_0 x_1 w R) : Calls Try.prog 63 #[.pointer (some a_0), .int .i64 x_1] w (Rv R) := calls_of_tr (L := lk []) Try.func63 hG hM (by rw [B63_eq] at h; exact h)

/-- (*locution/wire.Writer).Text -/
def B64 (a_0 : Addr) (x_1 : ByteArray) (w : World) (R : Value → World → Prop) : Prop :=
  Calls Try.prog 41 #[.pointer (some a_0), .int .u64 (IntKind.u64.wrap (x_1.size : Int))] w (Rv fun v1 w2 => v1 = .tuple #[] ∧
    Calls Try.prog 68 #[.pointer (some a_0), .string x_1] w2 (Rv fun v3 w4 => v3 = .tuple #[] ∧ R (.tuple #[]) w4))
theorem B64_eq : @B64 = fun (a_0 : Addr) (x_1 : ByteArray) (w : World) (R : Value → World → Prop) => trF Try.prog G (lk []) Try.f64 [.pointer (some a_0), .string x_1] w R := by kernel_rfl
theorem c64 (a_0 : Addr) (x_1 : ByteArray) (w : World) (R : Value → World → Prop) (h : B64 a_0 x_1 w R) : Calls Try.prog 64 #[.pointer (some a_0), .string x_1] w (Rv R) := calls_of_tr (L := lk []) Try.func64 hG hM (by rw [B64_eq] at h; exact h)

/-- (*locution/wire.Writer).Raw -/
def B68 (a_0 : Addr) (x_1 : ByteArray) (w : World) (R : Value → World → Prop) : Prop :=
  ∃ l1 : Slc, w.cell? (Addr.add a_0 0) = some (.slice l1.a l1.len l1.cap) ∧
    ∃ w2 : World, ∃ l3 : Slc, (Builtin.append_ #[33, 9] 33 #[.slice l1.a l1.len l1.cap, .string x_1]).run Try.prog w = .ok (.slice l3.a l3.len l3.cap) w2 ∧
    (∃ u, w2.cell? (Addr.add a_0 0) = some u) ∧ w2.frozen? (Addr.add a_0 0) = false ∧ R (.tuple #[]) (w2.setCell (Addr.add a_0 0) (.slice l3.a l3.len l3.cap))
theorem B68_eq : @B68 = fun (a_0 : Addr) (x_1 : ByteArray) (w : World) (R : Value → World → Prop) => trF Try.prog G (lk []) Try.f68 [.pointer (some a_0), .string x_1] w R := by kernel_rfl
theorem c68 (a_0 : Addr) (x_1 : ByteArray) (w : World) (R : Value → World → Prop) (h : B68 a_0 x_1 w R) : Calls Try.prog 68 #[.pointer (some a_0), .string x_1] w (Rv R) := calls_of_tr (L := lk []) Try.func68 hG hM (by rw [B68_eq] at h; exact h)

/-- (*locution/wire.Reader).step -/
def B69 (a_0 : Addr) (x_1 : Value) (w : World) (R : Value → World → Prop) : Prop :=
  ∃ n1 : Int, w.cell? (Addr.add a_0 2) = some (.int .i64 n1) ∧
    br (!(decide (n1 = (0 : Int)))) (R (.bool false) w) (∃ s2 : ByteArray, (World.drew w).cell? (Addr.add a_0 0) = some (.string s2) ∧
    ∃ n3 : Int, (World.drew w).cell? (Addr.add a_0 1) = some (.int .i64 n3) ∧ 0 ≤ n3 ∧ n3 ≤ (s2.size : Int) ∧ (s2.size : Int) ≤ (s2.size : Int) ∧
    CallFV Try.prog G x_1 [.string (s2.extract (Int.toNat n3) (Int.toNat (s2.size : Int)))] (World.drew w) fun v4 w5 =>
    ∃ n6 : Int, ∃ n7 : Int, v4 = .tuple #[.int .i64 n6, .int .i64 n7] ∧ br (!(decide (n7 = (0 : Int)))) ((∃ u, w5.cell? (Addr.add a_0 2) = some u) ∧
    w5.frozen? (Addr.add a_0 2) = false ∧
    R (.bool false) (w5.setCell (Addr.add a_0 2) (.int .i64 n7))) (∃ n8 : Int, w5.cell? (Addr.add a_0 1) = some (.int .i64 n8) ∧
    (∃ u, w5.cell? (Addr.add a_0 1) = some u) ∧ w5.frozen? (Addr.add a_0 1) = false ∧
    R (.bool true) (w5.setCell (Addr.add a_0 1) (.int .i64 (IntKind.i64.wrap (n8 + n6))))))
theorem B69_eq : @B69 = fun (a_0 : Addr) (x_1 : Value) (w : World) (R : Value → World → Prop) => trF Try.prog G (lk []) Try.f69 [.pointer (some a_0), x_1] w R := by kernel_rfl
theorem c69 (a_0 : Addr) (x_1 : Value) (w : World) (R : Value → World → Prop) (h : B69 a_0 x_1 w R) : Calls Try.prog 69 #[.pointer (some a_0), x_1] w (Rv R) := calls_of_tr (L := lk []) Try.func69 hG hM (by rw [B69_eq] at h; exact h)

/-- (*locution/wire.Reader).Num$1 -/
def B70 (x_0 : ByteArray) (a_1 : Addr) (w : World) (R : Value → World → Prop) : Prop :=
  Calls Try.prog 71 #[.string x_0] w (Rv fun v1 w2 => ∃ n3 : Int, ∃ n4 : Int, ∃ n5 : Int, v1 = .tuple #[.int .u64 n3, .int .i64 n4, .int .i64 n5] ∧
    (∃ u, w2.cell? a_1 = some u) ∧ w2.frozen? a_1 = false ∧ R (.tuple #[.int .i64 n4, .int .i64 n5]) (w2.setCell a_1 (.int .u64 n3)))
theorem B70_eq : @B70 = fun (x_0 : ByteArray) (a_1 : Addr) (w : World) (R : Value → World → Prop) => trF Try.prog G (lk []) Try.f70 [.string x_0, .pointer (some a_1)] w R := by kernel_rfl
theorem c70 (x_0 : ByteArray) (a_1 : Addr) (w : World) (R : Value → World → Prop) (h : B70 x_0 a_1 w R) : Calls Try.prog 70 #[.string x_0, .pointer (some a_1)] w (Rv R) := calls_of_tr (L := lk []) Try.func70 hG hM (by rw [B70_eq] at h; exact h)

/-- locution/wire.number -/
def B71 (x_0 : ByteArray) (w : World) (R : Value → World → Prop) : Prop :=
  ∃ (I1 : Int → Int → World → Prop) (μ2 : Int → Int → World → Nat), I1 (0 : Int) (0 : Int) w ∧ ∀ x3 : Int, ∀ x4 : Int, ∀ w5 : World, I1 x3 x4 w5 →
    br (decide (x4 < (10 : Int))) (br (decide (x4 = (x_0.size : Int))) (R (.tuple #[.int .u64 0, .int .i64 0, .int .i64 2]) w5) (∃ c6 : UInt8, 0 ≤ x4 ∧
    x_0[x4.toNat]? = some c6 ∧ 0 ≤ (IntKind.u64.wrap (IntKind.i64.wrap (7 * x4))) ∧ ∃ c7 : UInt8, 0 ≤ x4 ∧ x_0[x4.toNat]? = some c7 ∧
    br (decide ((128 : Int) ≤ (UInt8.toNat c7 : Int))) (I1 (bOr .u64 x3 (shL .u64 (IntKind.u64.wrap (bAnd .u8 (UInt8.toNat c6 : Int) 127)) (IntKind.u64.wrap (IntKind.i64.wrap (7 * x4))))) (IntKind.i64.wrap (x4 + 1)) w5 ∧
    μ2 (bOr .u64 x3 (shL .u64 (IntKind.u64.wrap (bAnd .u8 (UInt8.toNat c6 : Int) 127)) (IntKind.u64.wrap (IntKind.i64.wrap (7 * x4))))) (IntKind.i64.wrap (x4 + 1)) w5 < μ2 x3 x4 w5) (br (decide (x4 = (9 : Int))) (∃ c8 : UInt8, 0 ≤ x4 ∧
    x_0[x4.toNat]? = some c8 ∧
    br (decide ((1 : Int) < (UInt8.toNat c8 : Int))) (R (.tuple #[.int .u64 0, .int .i64 0, .int .i64 3]) w5) (br (decide ((0 : Int) < x4)) (∃ c9 : UInt8, 0 ≤ x4 ∧
    x_0[x4.toNat]? = some c9 ∧
    br (decide ((UInt8.toNat c9 : Int) = (0 : Int))) (R (.tuple #[.int .u64 0, .int .i64 0, .int .i64 3]) w5) (R (.tuple #[.int .u64 (bOr .u64 x3 (shL .u64 (IntKind.u64.wrap (bAnd .u8 (UInt8.toNat c6 : Int) 127)) (IntKind.u64.wrap (IntKind.i64.wrap (7 * x4))))), .int .i64 (IntKind.i64.wrap (x4 + 1)), .int .i64 0]) w5)) (R (.tuple #[.int .u64 (bOr .u64 x3 (shL .u64 (IntKind.u64.wrap (bAnd .u8 (UInt8.toNat c6 : Int) 127)) (IntKind.u64.wrap (IntKind.i64.wrap (7 * x4))))), .int .i64 (IntKind.i64.wrap (x4 + 1)), .int .i64 0]) w5))) (br (decide ((0 : Int) < x4)) (∃ c10 : UInt8, 0 ≤ x4 ∧
    x_0[x4.toNat]? = some c10 ∧
    br (decide ((UInt8.toNat c10 : Int) = (0 : Int))) (R (.tuple #[.int .u64 0, .int .i64 0, .int .i64 3]) w5) (R (.tuple #[.int .u64 (bOr .u64 x3 (shL .u64 (IntKind.u64.wrap (bAnd .u8 (UInt8.toNat c6 : Int) 127)) (IntKind.u64.wrap (IntKind.i64.wrap (7 * x4))))), .int .i64 (IntKind.i64.wrap (x4 + 1)), .int .i64 0]) w5)) (R (.tuple #[.int .u64 (bOr .u64 x3 (shL .u64 (IntKind.u64.wrap (bAnd .u8 (UInt8.toNat c6 : Int) 127)) (IntKind.u64.wrap (IntKind.i64.wrap (7 * x4))))), .int .i64 (IntKind.i64.wrap (x4 + 1)), .int .i64 0]) w5))))) (R (.tuple #[.int .u64 0, .int .i64 0, .int .i64 3]) w5)
theorem B71_eq : @B71 = fun (x_0 : ByteArray) (w : World) (R : Value → World → Prop) => trF Try.prog G (lk [(3, [(5, .int .u64), (6, .int .i64)])]) Try.f71 [.string x_0] w R := by kernel_rfl
theorem c71 (x_0 : ByteArray) (w : World) (R : Value → World → Prop) (h : B71 x_0 w R) : Calls Try.prog 71 #[.string x_0] w (Rv R) := calls_of_tr (L := lk [(3, [(5, .int .u64), (6, .int .i64)])]) Try.func71 hG hM (by rw [B71_eq] at h; exact h)

/-- (*locution/wire.Reader).Text$1 -/
def B72 (x_0 : ByteArray) (a_1 : Addr) (a_2 : Addr) (w : World) (R : Value → World → Prop) : Prop :=
  Calls Try.prog 71 #[.string x_0] w (Rv fun v1 w2 => ∃ n3 : Int, ∃ n4 : Int, ∃ n5 : Int, v1 = .tuple #[.int .u64 n3, .int .i64 n4, .int .i64 n5] ∧
    br (!(decide (n5 = (0 : Int)))) (R (.tuple #[.int .i64 0, .int .i64 n5]) w2) (∃ n6 : Int, w2.cell? a_1 = some (.int .i64 n6) ∧
    br (decide (n6 < (0 : Int))) (R (.tuple #[.int .i64 0, .int .i64 5]) w2) (∃ n7 : Int, w2.cell? a_1 = some (.int .i64 n7) ∧
    br (decide ((IntKind.u64.wrap n7) < n3)) (R (.tuple #[.int .i64 0, .int .i64 5]) w2) (br (decide ((IntKind.u64.wrap (IntKind.i64.wrap ((x_0.size : Int) - n4))) < n3)) (R (.tuple #[.int .i64 0, .int .i64 2]) w2) (0 ≤ n4 ∧
    n4 ≤ IntKind.i64.wrap (n4 + (IntKind.i64.wrap n3)) ∧ IntKind.i64.wrap (n4 + (IntKind.i64.wrap n3)) ≤ (x_0.size : Int) ∧ (∃ u, w2.cell? a_2 = some u) ∧
    w2.frozen? a_2 = false ∧
    R (.tuple #[.int .i64 (IntKind.i64.wrap (n4 + (IntKind.i64.wrap n3))), .int .i64 0]) (w2.setCell a_2 (.string (x_0.extract (Int.toNat n4) (Int.toNat (IntKind.i64.wrap (n4 + (IntKind.i64.wrap n3))))))))))))
theorem B72_eq : @B72 = fun (x_0 : ByteArray) (a_1 : Addr) (a_2 : Addr) (w : World) (R : Value → World → Prop) => trF Try.prog G (lk []) Try.f72 [.string x_0, .pointer (some a_1), .pointer (some a_2)] w R := by kernel_rfl
theorem c72 (x_0 : ByteArray) (a_1 : Addr) (a_2 : Addr) (w : World) (R : Value → World → Prop) (h : B72 x_0 a_1 a_2 w R) : Calls Try.prog 72 #[.string x_0, .pointer (some a_1), .pointer (some a_2)] w (Rv R) := calls_of_tr (L := lk []) Try.func72 hG hM (by rw [B72_eq] at h; exact h)

/-- (*locution/wire.Reader).Raw$1 -/
def B73 (x_0 : ByteArray) (a_1 : Addr) (a_2 : Addr) (w : World) (R : Value → World → Prop) : Prop :=
  ∃ n1 : Int, w.cell? a_1 = some (.int .i64 n1) ∧
    br (decide (n1 < (0 : Int))) (R (.tuple #[.int .i64 0, .int .i64 1]) w) (∃ n2 : Int, w.cell? a_1 = some (.int .i64 n2) ∧
    br (decide ((x_0.size : Int) < n2)) (R (.tuple #[.int .i64 0, .int .i64 2]) w) (∃ n3 : Int, w.cell? a_1 = some (.int .i64 n3) ∧ 0 ≤ (0 : Int) ∧ (0 : Int) ≤ n3 ∧
    n3 ≤ (x_0.size : Int) ∧ (∃ u, w.cell? a_2 = some u) ∧ w.frozen? a_2 = false ∧
    ∃ n4 : Int, (w.setCell a_2 (.string (x_0.extract (Int.toNat (0 : Int)) (Int.toNat n3)))).cell? a_1 = some (.int .i64 n4) ∧
    R (.tuple #[.int .i64 n4, .int .i64 0]) (w.setCell a_2 (.string (x_0.extract (Int.toNat (0 : Int)) (Int.toNat n3))))))
theorem B73_eq : @B73 = fun (x_0 : ByteArray) (a_1 : Addr) (a_2 : Addr) (w : World) (R : Value → World → Prop) => trF Try.prog G (lk []) Try.f73 [.string x_0, .pointer (some a_1), .pointer (some a_2)] w R := by kernel_rfl
theorem c73 (x_0 : ByteArray) (a_1 : Addr) (a_2 : Addr) (w : World) (R : Value → World → Prop) (h : B73 x_0 a_1 a_2 w R) : Calls Try.prog 73 #[.string x_0, .pointer (some a_1), .pointer (some a_2)] w (Rv R) := calls_of_tr (L := lk []) Try.func73 hG hM (by rw [B73_eq] at h; exact h)

/-- (*locution/wire.Reader).Upto -/
def B78 (a_0 : Addr) (x_1 : Int) (w : World) (R : Value → World → Prop) : Prop :=
  (∃ u, ((w.alloc (.cells #[.int .i64 x_1] 3)).alloc (.cells #[.int .i64 0] 3)).cell? ⟨(w.alloc (.cells #[.int .i64 x_1] 3)).heap.size, 0, none⟩ = some u) ∧
    ((w.alloc (.cells #[.int .i64 x_1] 3)).alloc (.cells #[.int .i64 0] 3)).frozen? ⟨(w.alloc (.cells #[.int .i64 x_1] 3)).heap.size, 0, none⟩ = false ∧
    Calls Try.prog 69 #[.pointer (some a_0), .func (.func 89) #[] #[.pointer (some ⟨w.heap.size, 0, none⟩), .pointer (some ⟨(w.alloc (.cells #[.int .i64 x_1] 3)).heap.size, 0, none⟩)]] (((w.alloc (.cells #[.int .i64 x_1] 3)).alloc (.cells #[.int .i64 0] 3)).setCell ⟨(w.alloc (.cells #[.int .i64 x_1] 3)).heap.size, 0, none⟩ (.int .i64 0)) (Rv fun v1 w2 =>
    ∃ b3 : Bool, v1 = .bool b3 ∧ ∃ n4 : Int, w2.cell? ⟨(w.alloc (.cells #[.int .i64 x_1] 3)).heap.size, 0, none⟩ = some (.int .i64 n4) ∧ R (.int .i64 n4) w2)
theorem B78_eq : @B78 = fun (a_0 : Addr) (x_1 : Int) (w : World) (R : Value → World → Prop) => trF Try.prog G (lk []) Try.f78 [.pointer (some a_0), .int .i64 x_1] w R := by kernel_rfl
theorem c78 (a_0 : Addr) (x_1 : Int) (w : World) (R : Value → World → Prop) (h : B78 a_0 x_1 w R) : Calls Try.prog 78 #[.pointer (some a_0), .int .i64 x_1] w (Rv R) := calls_of_tr (L := lk []) Try.func78 hG hM (by rw [B78_eq] at h; exact h)

/-- (*locution/wire.Reader).Fail -/
def B80 (a_0 : Addr) (x_1 : Int) (w : World) (R : Value → World → Prop) : Prop :=
  Calls Try.prog 69 #[.pointer (some a_0), .func (.func 90) #[] #[.pointer (some ⟨w.heap.size, 0, none⟩)]] (w.alloc (.cells #[.int .i64 x_1] 45)) (Rv fun v1 w2 =>
    ∃ b3 : Bool, v1 = .bool b3 ∧ R (.tuple #[]) w2)
theorem B80_eq : @B80 = fun (a_0 : Addr) (x_1 : Int) (w : World) (R : Value → World → Prop) => trF Try.prog G (lk []) Try.f80 [.pointer (some a_0), .int .i64 x_1] w R := by kernel_rfl
theorem c80 (a_0 : Addr) (x_1 : Int) (w : World) (R : Value → World → Prop) (h : B80 a_0 x_1 w R) : Calls Try.prog 80 #[.pointer (some a_0), .int .i64 x_1] w (Rv R) := calls_of_tr (L := lk []) Try.func80 hG hM (by rw [B80_eq] at h; exact h)

/-- (*locution/wire.Reader).Upto$1 -/
def B89 (x_0 : ByteArray) (a_1 : Addr) (a_2 : Addr) (w : World) (R : Value → World → Prop) : Prop :=
  Calls Try.prog 71 #[.string x_0] w (Rv fun v1 w2 => ∃ n3 : Int, ∃ n4 : Int, ∃ n5 : Int, v1 = .tuple #[.int .u64 n3, .int .i64 n4, .int .i64 n5] ∧
    br (decide (n5 = (0 : Int))) (∃ n6 : Int, w2.cell? a_1 = some (.int .i64 n6) ∧
    br (decide (n6 < (0 : Int))) (R (.tuple #[.int .i64 n4, .int .i64 8]) w2) (∃ n7 : Int, w2.cell? a_1 = some (.int .i64 n7) ∧
    br (decide ((IntKind.u64.wrap n7) < n3)) (R (.tuple #[.int .i64 n4, .int .i64 8]) w2) (br (decide (n5 = (0 : Int))) ((∃ u, w2.cell? a_2 = some u) ∧
    w2.frozen? a_2 = false ∧
    R (.tuple #[.int .i64 n4, .int .i64 n5]) (w2.setCell a_2 (.int .i64 (IntKind.i64.wrap n3)))) (R (.tuple #[.int .i64 n4, .int .i64 n5]) w2)))) (br (decide (n5 = (0 : Int))) ((∃ u, w2.cell? a_2 = some u) ∧
    w2.frozen? a_2 = false ∧
    R (.tuple #[.int .i64 n4, .int .i64 n5]) (w2.setCell a_2 (.int .i64 (IntKind.i64.wrap n3)))) (R (.tuple #[.int .i64 n4, .int .i64 n5]) w2)))
theorem B89_eq : @B89 = fun (x_0 : ByteArray) (a_1 : Addr) (a_2 : Addr) (w : World) (R : Value → World → Prop) => trF Try.prog G (lk []) Try.f89 [.string x_0, .pointer (some a_1), .pointer (some a_2)] w R := by kernel_rfl
theorem c89 (x_0 : ByteArray) (a_1 : Addr) (a_2 : Addr) (w : World) (R : Value → World → Prop) (h : B89 x_0 a_1 a_2 w R) : Calls Try.prog 89 #[.string x_0, .pointer (some a_1), .pointer (some a_2)] w (Rv R) := calls_of_tr (L := lk []) Try.func89 hG hM (by rw [B89_eq] at h; exact h)

/-- (*locution/wire.Reader).Fail$1 -/
def B90 (x_0 : ByteArray) (a_1 : Addr) (w : World) (R : Value → World → Prop) : Prop :=
  ∃ n1 : Int, (World.drew w).cell? a_1 = some (.int .i64 n1) ∧ R (.tuple #[.int .i64 0, .int .i64 n1]) (World.drew w)
theorem B90_eq : @B90 = fun (x_0 : ByteArray) (a_1 : Addr) (w : World) (R : Value → World → Prop) => trF Try.prog G (lk []) Try.f90 [.string x_0, .pointer (some a_1)] w R := by kernel_rfl
theorem c90 (x_0 : ByteArray) (a_1 : Addr) (w : World) (R : Value → World → Prop) (h : B90 x_0 a_1 w R) : Calls Try.prog 90 #[.string x_0, .pointer (some a_1)] w (Rv R) := calls_of_tr (L := lk []) Try.func90 hG hM (by rw [B90_eq] at h; exact h)

/-- (*locution/locutionref10.Reader).End -/
def B40 (a_0 : Addr) (w : World) (R : Value → World → Prop) : Prop :=
  ∃ n1 : Int, w.cell? (Addr.add a_0 1) = some (.int .i64 n1) ∧ br (decide (n1 = (0 : Int))) (∃ s2 : ByteArray, w.cell? (Addr.add a_0 0) = some (.string s2) ∧
    br (!(s2.toList == (⟨#[]⟩ : ByteArray).toList)) (R (.int .i64 3) w) (∃ n3 : Int, w.cell? (Addr.add a_0 1) = some (.int .i64 n3) ∧
    R (.int .i64 n3) w)) (∃ n4 : Int, w.cell? (Addr.add a_0 1) = some (.int .i64 n4) ∧ R (.int .i64 n4) w)
theorem B40_eq : @B40 = fun (a_0 : Addr) (w : World) (R : Value → World → Prop) => trF Try.prog G (lk []) Try.f40 [.pointer (some a_0)] w R := by kernel_rfl
theorem c40 (a_0 : Addr) (w : World) (R : Value → World → Prop) (h : B40 a_0 w R) : Calls Try.prog 40 #[.pointer (some a_0)] w (Rv R) := calls_of_tr (L := lk []) Try.func40 hG hM (by rw [B40_eq] at h; exact h)

/-- locution/locutionref10.Num -/
def B65 (x_0 : Int) (w : World) (R : Value → World → Prop) : Prop :=
  
    br (decide (x_0 < (128 : Int))) (∃ w1 : World, ∃ s2 : ByteArray, (convert 33 9 (.slice (some ⟨w.heap.size, 0, none⟩) 1 1)).run Try.prog (w.alloc (.cells #[.int .u8 (IntKind.u8.wrap x_0)] 5)) = .ok (.string s2) w1 ∧
    R (.string s2) w1) ((128 : Int) ≠ 0 ∧ (128 : Int) ≠ 0 ∧
    ((∃ w3 : World, ∃ s4 : ByteArray, (convert 33 9 (.slice (some ⟨(World.drew w).heap.size, 0, none⟩) 1 1)).run Try.prog ((World.drew w).alloc (.cells #[.int .u8 (IntKind.u8.wrap (IntKind.u64.wrap ((Int.tmod x_0 128) + 128)))] 5)) = .ok (.string s4) w3 ∧
    Calls Try.prog 65 #[.int .u64 (IntKind.u64.wrap (Int.tdiv x_0 128))] w3 (Rv fun v5 w6 => ∃ s7 : ByteArray, v5 = .string s7 ∧
    s4.size + s7.size ≤ 9223372036854775807 ∧ R (.string (s4 ++ s7)) w6)) ∧
    (Calls Try.prog 65 #[.int .u64 (IntKind.u64.wrap (Int.tdiv x_0 128))] ((World.drew w).alloc (.cells #[.int .u8 (IntKind.u8.wrap (IntKind.u64.wrap ((Int.tmod x_0 128) + 128)))] 5)) (Rv fun v8 w9 =>
    ∃ s10 : ByteArray, v8 = .string s10 ∧
    ∃ w11 : World, ∃ s12 : ByteArray, (convert 33 9 (.slice (some ⟨(World.drew w).heap.size, 0, none⟩) 1 1)).run Try.prog w9 = .ok (.string s12) w11 ∧
    s12.size + s10.size ≤ 9223372036854775807 ∧ R (.string (s12 ++ s10)) w11))) ∧
    (Calls Try.prog 65 #[.int .u64 (IntKind.u64.wrap (Int.tdiv x_0 128))] (World.drew w) (Rv fun v13 w14 => ∃ s15 : ByteArray, v13 = .string s15 ∧
    ∃ w16 : World, ∃ s17 : ByteArray, (convert 33 9 (.slice (some ⟨w14.heap.size, 0, none⟩) 1 1)).run Try.prog (w14.alloc (.cells #[.int .u8 (IntKind.u8.wrap (IntKind.u64.wrap ((Int.tmod x_0 128) + 128)))] 5)) = .ok (.string s17) w16 ∧
    s17.size + s15.size ≤ 9223372036854775807 ∧ R (.string (s17 ++ s15)) w16)))
theorem B65_eq : @B65 = fun (x_0 : Int) (w : World) (R : Value → World → Prop) => trF Try.prog G (lk []) Try.f65 [.int .u64 x_0] w R := by kernel_rfl
theorem c65 (x_0 : Int) (w : World) (R : Value → World → Prop) (h : B65 x_0 w R) : Calls Try.prog 65 #[.int .u64 x_0] w (Rv R) := calls_of_tr (L := lk []) Try.func65 hG hM (by rw [B65_eq] at h; exact h)

/-- locution/locutionref10.Int -/
def B66 (x_0 : Int) (w : World) (R : Value → World → Prop) : Prop :=
  br (decide ((0 : Int) ≤ x_0)) (Calls Try.prog 65 #[.int .u64 (IntKind.u64.wrap (2 * (IntKind.u64.wrap x_0)))] w (Rv fun v1 w2 => ∃ s3 : ByteArray, v1 = .string s3 ∧
    R (.string s3) w2)) (Calls Try.prog 65 #[.int .u64 (IntKind.u64.wrap ((IntKind.u64.wrap (2 * (IntKind.u64.wrap (IntKind.i64.wrap (0 - (IntKind.i64.wrap (x_0 + 1))))))) + 1))] w (Rv fun v4 w5 =>
    ∃ s6 : ByteArray, v4 = .string s6 ∧ R (.string s6) w5))
theorem B66_eq : @B66 = fun (x_0 : Int) (w : World) (R : Value → World → Prop) => trF Try.prog G (lk []) Try.f66 [.int .i64 x_0] w R := by kernel_rfl
theorem c66 (x_0 : Int) (w : World) (R : Value → World → Prop) (h : B66 x_0 w R) : Calls Try.prog 66 #[.int .i64 x_0] w (Rv R) := calls_of_tr (L := lk []) Try.func66 hG hM (by rw [B66_eq] at h; exact h)

/-- locution/locutionref10.Text -/
def B67 (x_0 : ByteArray) (w : World) (R : Value → World → Prop) : Prop :=
  Calls Try.prog 65 #[.int .u64 (IntKind.u64.wrap (x_0.size : Int))] w (Rv fun v1 w2 => ∃ s3 : ByteArray, v1 = .string s3 ∧ s3.size + x_0.size ≤ 9223372036854775807 ∧
    R (.string (s3 ++ x_0)) w2)
theorem B67_eq : @B67 = fun (x_0 : ByteArray) (w : World) (R : Value → World → Prop) => trF Try.prog G (lk []) Try.f67 [.string x_0] w R := by kernel_rfl
theorem c67 (x_0 : ByteArray) (w : World) (R : Value → World → Prop) (h : B67 x_0 w R) : Calls Try.prog 67 #[.string x_0] w (Rv R) := calls_of_tr (L := lk []) Try.func67 hG hM (by rw [B67_eq] at h; exact h)

/-- (*locution/locutionref10.Reader).Num -/
def B74 (a_0 : Addr) (w : World) (R : Value → World → Prop) : Prop :=
  ∃ n1 : Int, w.cell? (Addr.add a_0 1) = some (.int .i64 n1) ∧
    br (!(decide (n1 = (0 : Int)))) (R (.int .u64 0) w) (∃ s2 : ByteArray, w.cell? (Addr.add a_0 0) = some (.string s2) ∧
    Calls Try.prog 88 #[.string s2] w (Rv fun v3 w4 => ∃ n5 : Int, ∃ n6 : Int, ∃ n7 : Int, v3 = .tuple #[.int .u64 n5, .int .i64 n6, .int .i64 n7] ∧
    (∃ u, w4.cell? (Addr.add a_0 1) = some u) ∧ w4.frozen? (Addr.add a_0 1) = false ∧
    ∃ s8 : ByteArray, (w4.setCell (Addr.add a_0 1) (.int .i64 n7)).cell? (Addr.add a_0 0) = some (.string s8) ∧ 0 ≤ n6 ∧ n6 ≤ (s8.size : Int) ∧
    (s8.size : Int) ≤ (s8.size : Int) ∧ (∃ u, (w4.setCell (Addr.add a_0 1) (.int .i64 n7)).cell? (Addr.add a_0 0) = some u) ∧
    (w4.setCell (Addr.add a_0 1) (.int .i64 n7)).frozen? (Addr.add a_0 0) = false ∧
    R (.int .u64 n5) ((w4.setCell (Addr.add a_0 1) (.int .i64 n7)).setCell (Addr.add a_0 0) (.string (s8.extract (Int.toNat n6) (Int.toNat (s8.size : Int)))))))
theorem B74_eq : @B74 = fun (a_0 : Addr) (w : World) (R : Value → World → Prop) => trF Try.prog G (lk []) Try.f74 [.pointer (some a_0)] w R := by kernel_rfl
theorem c74 (a_0 : Addr) (w : World) (R : Value → World → Prop) (h : B74 a_0 w R) : Calls Try.prog 74 #[.pointer (some a_0)] w (Rv R) := calls_of_tr (L := lk []) Try.func74 hG hM (by rw [B74_eq] at h; exact h)

/-- (*locution/locutionref10.Reader).Int -/
def B75 (a_0 : Addr) (w : World) (R : Value → World → Prop) : Prop :=
  Calls Try.prog 74 #[.pointer (some a_0)] w (Rv fun v1 w2 => ∃ n3 : Int, v1 = .int .u64 n3 ∧ (2 : Int) ≠ 0 ∧
    br (decide ((Int.tmod n3 2) = (1 : Int))) ((2 : Int) ≠ 0 ∧
    R (.int .i64 (IntKind.i64.wrap ((IntKind.i64.wrap (0 - (IntKind.i64.wrap (IntKind.u64.wrap (Int.tdiv n3 2))))) - 1))) w2) ((2 : Int) ≠ 0 ∧
    R (.int .i64 (IntKind.i64.wrap (IntKind.u64.wrap (Int.tdiv n3 2)))) w2))
theorem B75_eq : @B75 = fun (a_0 : Addr) (w : World) (R : Value → World → Prop) => trF Try.prog G (lk []) Try.f75 [.pointer (some a_0)] w R := by kernel_rfl
theorem c75 (a_0 : Addr) (w : World) (R : Value → World → Prop) (h : B75 a_0 w R) : Calls Try.prog 75 #[.pointer (some a_0)] w (Rv R) := calls_of_tr (L := lk []) Try.func75 hG hM (by rw [B75_eq] at h; exact h)

/-- (*locution/locutionref10.Reader).Text -/
def B76 (a_0 : Addr) (x_1 : Int) (w : World) (R : Value → World → Prop) : Prop :=
  ∃ n1 : Int, w.cell? (Addr.add a_0 1) = some (.int .i64 n1) ∧
    br (!(decide (n1 = (0 : Int)))) (R (.string (⟨#[]⟩ : ByteArray)) w) (∃ s2 : ByteArray, w.cell? (Addr.add a_0 0) = some (.string s2) ∧
    Calls Try.prog 88 #[.string s2] w (Rv fun v3 w4 => ∃ n5 : Int, ∃ n6 : Int, ∃ n7 : Int, v3 = .tuple #[.int .u64 n5, .int .i64 n6, .int .i64 n7] ∧
    br (decide (n7 = (0 : Int))) (br (decide (x_1 < (0 : Int))) ((∃ u, w4.cell? (Addr.add a_0 1) = some u) ∧ w4.frozen? (Addr.add a_0 1) = false ∧
    R (.string (⟨#[]⟩ : ByteArray)) (w4.setCell (Addr.add a_0 1) (.int .i64 5))) (br (decide ((IntKind.u64.wrap x_1) < n5)) ((∃ u, w4.cell? (Addr.add a_0 1) = some u) ∧
    w4.frozen? (Addr.add a_0 1) = false ∧
    R (.string (⟨#[]⟩ : ByteArray)) (w4.setCell (Addr.add a_0 1) (.int .i64 5))) (br (decide (n7 = (0 : Int))) (∃ s8 : ByteArray, w4.cell? (Addr.add a_0 0) = some (.string s8) ∧
    br (decide ((IntKind.u64.wrap (IntKind.i64.wrap ((s8.size : Int) - n6))) < n5)) ((∃ u, w4.cell? (Addr.add a_0 1) = some u) ∧
    w4.frozen? (Addr.add a_0 1) = false ∧ R (.string (⟨#[]⟩ : ByteArray)) (w4.setCell (Addr.add a_0 1) (.int .i64 2))) ((∃ u, w4.cell? (Addr.add a_0 1) = some u) ∧
    w4.frozen? (Addr.add a_0 1) = false ∧
    br (!(decide (n7 = (0 : Int)))) (R (.string (⟨#[]⟩ : ByteArray)) (w4.setCell (Addr.add a_0 1) (.int .i64 n7))) (∃ s9 : ByteArray, (w4.setCell (Addr.add a_0 1) (.int .i64 n7)).cell? (Addr.add a_0 0) = some (.string s9) ∧
    0 ≤ n6 ∧ n6 ≤ IntKind.i64.wrap (n6 + (IntKind.i64.wrap n5)) ∧ IntKind.i64.wrap (n6 + (IntKind.i64.wrap n5)) ≤ (s9.size : Int) ∧
    ∃ s10 : ByteArray, (w4.setCell (Addr.add a_0 1) (.int .i64 n7)).cell? (Addr.add a_0 0) = some (.string s10) ∧ 0 ≤ IntKind.i64.wrap (n6 + (IntKind.i64.wrap n5)) ∧
    IntKind.i64.wrap (n6 + (IntKind.i64.wrap n5)) ≤ (s10.size : Int) ∧ (s10.size : Int) ≤ (s10.size : Int) ∧
    (∃ u, (w4.setCell (Addr.add a_0 1) (.int .i64 n7)).cell? (Addr.add a_0 0) = some u) ∧
    (w4.setCell (Addr.add a_0 1) (.int .i64 n7)).frozen? (Addr.add a_0 0) = false ∧
    R (.string (s9.extract (Int.toNat n6) (Int.toNat (IntKind.i64.wrap (n6 + (IntKind.i64.wrap n5)))))) ((w4.setCell (Addr.add a_0 1) (.int .i64 n7)).setCell (Addr.add a_0 0) (.string (s10.extract (Int.toNat (IntKind.i64.wrap (n6 + (IntKind.i64.wrap n5)))) (Int.toNat (s10.size : Int)))))))) ((∃ u, w4.cell? (Addr.add a_0 1) = some u) ∧
    w4.frozen? (Addr.add a_0 1) = false ∧
    br (!(decide (n7 = (0 : Int)))) (R (.string (⟨#[]⟩ : ByteArray)) (w4.setCell (Addr.add a_0 1) (.int .i64 n7))) (∃ s11 : ByteArray, (w4.setCell (Addr.add a_0 1) (.int .i64 n7)).cell? (Addr.add a_0 0) = some (.string s11) ∧
    0 ≤ n6 ∧ n6 ≤ IntKind.i64.wrap (n6 + (IntKind.i64.wrap n5)) ∧ IntKind.i64.wrap (n6 + (IntKind.i64.wrap n5)) ≤ (s11.size : Int) ∧
    ∃ s12 : ByteArray, (w4.setCell (Addr.add a_0 1) (.int .i64 n7)).cell? (Addr.add a_0 0) = some (.string s12) ∧ 0 ≤ IntKind.i64.wrap (n6 + (IntKind.i64.wrap n5)) ∧
    IntKind.i64.wrap (n6 + (IntKind.i64.wrap n5)) ≤ (s12.size : Int) ∧ (s12.size : Int) ≤ (s12.size : Int) ∧
    (∃ u, (w4.setCell (Addr.add a_0 1) (.int .i64 n7)).cell? (Addr.add a_0 0) = some u) ∧
    (w4.setCell (Addr.add a_0 1) (.int .i64 n7)).frozen? (Addr.add a_0 0) = false ∧
    R (.string (s11.extract (Int.toNat n6) (Int.toNat (IntKind.i64.wrap (n6 + (IntKind.i64.wrap n5)))))) ((w4.setCell (Addr.add a_0 1) (.int .i64 n7)).setCell (Addr.add a_0 0) (.string (s12.extract (Int.toNat (IntKind.i64.wrap (n6 + (IntKind.i64.wrap n5)))) (Int.toNat (s12.size : Int)))))))))) (br (decide (n7 = (0 : Int))) (∃ s13 : ByteArray, w4.cell? (Addr.add a_0 0) = some (.string s13) ∧
    br (decide ((IntKind.u64.wrap (IntKind.i64.wrap ((s13.size : Int) - n6))) < n5)) ((∃ u, w4.cell? (Addr.add a_0 1) = some u) ∧
    w4.frozen? (Addr.add a_0 1) = false ∧ R (.string (⟨#[]⟩ : ByteArray)) (w4.setCell (Addr.add a_0 1) (.int .i64 2))) ((∃ u, w4.cell? (Addr.add a_0 1) = some u) ∧
    w4.frozen? (Addr.add a_0 1) = false ∧
    br (!(decide (n7 = (0 : Int)))) (R (.string (⟨#[]⟩ : ByteArray)) (w4.setCell (Addr.add a_0 1) (.int .i64 n7))) (∃ s14 : ByteArray, (w4.setCell (Addr.add a_0 1) (.int .i64 n7)).cell? (Addr.add a_0 0) = some (.string s14) ∧
    0 ≤ n6 ∧ n6 ≤ IntKind.i64.wrap (n6 + (IntKind.i64.wrap n5)) ∧ IntKind.i64.wrap (n6 + (IntKind.i64.wrap n5)) ≤ (s14.size : Int) ∧
    ∃ s15 : ByteArray, (w4.setCell (Addr.add a_0 1) (.int .i64 n7)).cell? (Addr.add a_0 0) = some (.string s15) ∧ 0 ≤ IntKind.i64.wrap (n6 + (IntKind.i64.wrap n5)) ∧
    IntKind.i64.wrap (n6 + (IntKind.i64.wrap n5)) ≤ (s15.size : Int) ∧ (s15.size : Int) ≤ (s15.size : Int) ∧
    (∃ u, (w4.setCell (Addr.add a_0 1) (.int .i64 n7)).cell? (Addr.add a_0 0) = some u) ∧
    (w4.setCell (Addr.add a_0 1) (.int .i64 n7)).frozen? (Addr.add a_0 0) = false ∧
    R (.string (s14.extract (Int.toNat n6) (Int.toNat (IntKind.i64.wrap (n6 + (IntKind.i64.wrap n5)))))) ((w4.setCell (Addr.add a_0 1) (.int .i64 n7)).setCell (Addr.add a_0 0) (.string (s15.extract (Int.toNat (IntKind.i64.wrap (n6 + (IntKind.i64.wrap n5)))) (Int.toNat (s15.size : Int)))))))) ((∃ u, w4.cell? (Addr.add a_0 1) = some u) ∧
    w4.frozen? (Addr.add a_0 1) = false ∧
    br (!(decide (n7 = (0 : Int)))) (R (.string (⟨#[]⟩ : ByteArray)) (w4.setCell (Addr.add a_0 1) (.int .i64 n7))) (∃ s16 : ByteArray, (w4.setCell (Addr.add a_0 1) (.int .i64 n7)).cell? (Addr.add a_0 0) = some (.string s16) ∧
    0 ≤ n6 ∧ n6 ≤ IntKind.i64.wrap (n6 + (IntKind.i64.wrap n5)) ∧ IntKind.i64.wrap (n6 + (IntKind.i64.wrap n5)) ≤ (s16.size : Int) ∧
    ∃ s17 : ByteArray, (w4.setCell (Addr.add a_0 1) (.int .i64 n7)).cell? (Addr.add a_0 0) = some (.string s17) ∧ 0 ≤ IntKind.i64.wrap (n6 + (IntKind.i64.wrap n5)) ∧
    IntKind.i64.wrap (n6 + (IntKind.i64.wrap n5)) ≤ (s17.size : Int) ∧ (s17.size : Int) ≤ (s17.size : Int) ∧
    (∃ u, (w4.setCell (Addr.add a_0 1) (.int .i64 n7)).cell? (Addr.add a_0 0) = some u) ∧
    (w4.setCell (Addr.add a_0 1) (.int .i64 n7)).frozen? (Addr.add a_0 0) = false ∧
    R (.string (s16.extract (Int.toNat n6) (Int.toNat (IntKind.i64.wrap (n6 + (IntKind.i64.wrap n5)))))) ((w4.setCell (Addr.add a_0 1) (.int .i64 n7)).setCell (Addr.add a_0 0) (.string (s17.extract (Int.toNat (IntKind.i64.wrap (n6 + (IntKind.i64.wrap n5)))) (Int.toNat (s17.size : Int))))))))))
theorem B76_eq : @B76 = fun (a_0 : Addr) (x_1 : Int) (w : World) (R : Value → World → Prop) => trF Try.prog G (lk []) Try.f76 [.pointer (some a_0), .int .i64 x_1] w R := by kernel_rfl
theorem c76 (a_0 : Addr) (x_1 : Int) (w : World) (R : Value → World → Prop) (h : B76 a_0 x_1 w R) : Calls Try.prog 76 #[.pointer (some a_0), .int .i64 x_1] w (Rv R) := calls_of_tr (L := lk []) Try.func76 hG hM (by rw [B76_eq] at h; exact h)

/-- (*locution/locutionref10.Reader).Raw -/
def B77 (a_0 : Addr) (x_1 : Int) (w : World) (R : Value → World → Prop) : Prop :=
  ∃ n1 : Int, w.cell? (Addr.add a_0 1) = some (.int .i64 n1) ∧
    br (!(decide (n1 = (0 : Int)))) (R (.string (⟨#[]⟩ : ByteArray)) w) (br (decide (x_1 < (0 : Int))) ((∃ u, w.cell? (Addr.add a_0 1) = some u) ∧
    w.frozen? (Addr.add a_0 1) = false ∧
    R (.string (⟨#[]⟩ : ByteArray)) (w.setCell (Addr.add a_0 1) (.int .i64 1))) (∃ s2 : ByteArray, w.cell? (Addr.add a_0 0) = some (.string s2) ∧
    br (decide ((s2.size : Int) < x_1)) ((∃ u, w.cell? (Addr.add a_0 1) = some u) ∧ w.frozen? (Addr.add a_0 1) = false ∧
    R (.string (⟨#[]⟩ : ByteArray)) (w.setCell (Addr.add a_0 1) (.int .i64 2))) (∃ s3 : ByteArray, w.cell? (Addr.add a_0 0) = some (.string s3) ∧ 0 ≤ (0 : Int) ∧
    (0 : Int) ≤ x_1 ∧ x_1 ≤ (s3.size : Int) ∧ ∃ s4 : ByteArray, w.cell? (Addr.add a_0 0) = some (.string s4) ∧ 0 ≤ x_1 ∧ x_1 ≤ (s4.size : Int) ∧
    (s4.size : Int) ≤ (s4.size : Int) ∧ (∃ u, w.cell? (Addr.add a_0 0) = some u) ∧ w.frozen? (Addr.add a_0 0) = false ∧
    R (.string (s3.extract (Int.toNat (0 : Int)) (Int.toNat x_1))) (w.setCell (Addr.add a_0 0) (.string (s4.extract (Int.toNat x_1) (Int.toNat (s4.size : Int))))))))
theorem B77_eq : @B77 = fun (a_0 : Addr) (x_1 : Int) (w : World) (R : Value → World → Prop) => trF Try.prog G (lk []) Try.f77 [.pointer (some a_0), .int .i64 x_1] w R := by kernel_rfl
theorem c77 (a_0 : Addr) (x_1 : Int) (w : World) (R : Value → World → Prop) (h : B77 a_0 x_1 w R) : Calls Try.prog 77 #[.pointer (some a_0), .int .i64 x_1] w (Rv R) := calls_of_tr (L := lk []) Try.func77 hG hM (by rw [B77_eq] at h; exact h)

/-- (*locution/locutionref10.Reader).Upto -/
def B79 (a_0 : Addr) (x_1 : Int) (w : World) (R : Value → World → Prop) : Prop :=
  ∃ n1 : Int, w.cell? (Addr.add a_0 1) = some (.int .i64 n1) ∧
    br (!(decide (n1 = (0 : Int)))) (R (.int .i64 0) w) (∃ s2 : ByteArray, w.cell? (Addr.add a_0 0) = some (.string s2) ∧
    Calls Try.prog 88 #[.string s2] w (Rv fun v3 w4 => ∃ n5 : Int, ∃ n6 : Int, ∃ n7 : Int, v3 = .tuple #[.int .u64 n5, .int .i64 n6, .int .i64 n7] ∧
    br (decide (n7 = (0 : Int))) (br (decide (x_1 < (0 : Int))) ((∃ u, w4.cell? (Addr.add a_0 1) = some u) ∧ w4.frozen? (Addr.add a_0 1) = false ∧
    R (.int .i64 0) (w4.setCell (Addr.add a_0 1) (.int .i64 8))) (br (decide ((IntKind.u64.wrap x_1) < n5)) ((∃ u, w4.cell? (Addr.add a_0 1) = some u) ∧
    w4.frozen? (Addr.add a_0 1) = false ∧ R (.int .i64 0) (w4.setCell (Addr.add a_0 1) (.int .i64 8))) ((∃ u, w4.cell? (Addr.add a_0 1) = some u) ∧
    w4.frozen? (Addr.add a_0 1) = false ∧
    br (!(decide (n7 = (0 : Int)))) (R (.int .i64 0) (w4.setCell (Addr.add a_0 1) (.int .i64 n7))) (∃ s8 : ByteArray, (w4.setCell (Addr.add a_0 1) (.int .i64 n7)).cell? (Addr.add a_0 0) = some (.string s8) ∧
    0 ≤ n6 ∧ n6 ≤ (s8.size : Int) ∧ (s8.size : Int) ≤ (s8.size : Int) ∧ (∃ u, (w4.setCell (Addr.add a_0 1) (.int .i64 n7)).cell? (Addr.add a_0 0) = some u) ∧
    (w4.setCell (Addr.add a_0 1) (.int .i64 n7)).frozen? (Addr.add a_0 0) = false ∧
    R (.int .i64 (IntKind.i64.wrap n5)) ((w4.setCell (Addr.add a_0 1) (.int .i64 n7)).setCell (Addr.add a_0 0) (.string (s8.extract (Int.toNat n6) (Int.toNat (s8.size : Int))))))))) ((∃ u, w4.cell? (Addr.add a_0 1) = some u) ∧
    w4.frozen? (Addr.add a_0 1) = false ∧
    br (!(decide (n7 = (0 : Int)))) (R (.int .i64 0) (w4.setCell (Addr.add a_0 1) (.int .i64 n7))) (∃ s9 : ByteArray, (w4.setCell (Addr.add a_0 1) (.int .i64 n7)).cell? (Addr.add a_0 0) = some (.string s9) ∧
    0 ≤ n6 ∧ n6 ≤ (s9.size : Int) ∧ (s9.size : Int) ≤ (s9.size : Int) ∧ (∃ u, (w4.setCell (Addr.add a_0 1) (.int .i64 n7)).cell? (Addr.add a_0 0) = some u) ∧
    (w4.setCell (Addr.add a_0 1) (.int .i64 n7)).frozen? (Addr.add a_0 0) = false ∧
    R (.int .i64 (IntKind.i64.wrap n5)) ((w4.setCell (Addr.add a_0 1) (.int .i64 n7)).setCell (Addr.add a_0 0) (.string (s9.extract (Int.toNat n6) (Int.toNat (s9.size : Int)))))))))
theorem B79_eq : @B79 = fun (a_0 : Addr) (x_1 : Int) (w : World) (R : Value → World → Prop) => trF Try.prog G (lk []) Try.f79 [.pointer (some a_0), .int .i64 x_1] w R := by kernel_rfl
theorem c79 (a_0 : Addr) (x_1 : Int) (w : World) (R : Value → World → Prop) (h : B79 a_0 x_1 w R) : Calls Try.prog 79 #[.pointer (some a_0), .int .i64 x_1] w (Rv R) := calls_of_tr (L := lk []) Try.func79 hG hM (by rw [B79_eq] at h; exact h)

/-- locution/locutionref10.First -/
def B88 (x_0 : ByteArray) (w : World) (R : Value → World → Prop) : Prop :=
  ∃ (I1 : Int → World → Prop) (μ2 : Int → World → Nat), I1 (0 : Int) w ∧ ∀ x3 : Int, ∀ w4 : World, I1 x3 w4 →
    br (decide (x3 < (10 : Int))) (br (decide (x3 < (x_0.size : Int))) (∃ c5 : UInt8, 0 ≤ x3 ∧ x_0[x3.toNat]? = some c5 ∧
    br (decide ((128 : Int) ≤ (UInt8.toNat c5 : Int))) (I1 (IntKind.i64.wrap (x3 + 1)) w4 ∧
    μ2 (IntKind.i64.wrap (x3 + 1)) w4 < μ2 x3 w4) (br (decide (x3 = (10 : Int))) (R (.tuple #[.int .u64 0, .int .i64 0, .int .i64 3]) w4) (br (decide (x3 = (x_0.size : Int))) (R (.tuple #[.int .u64 0, .int .i64 0, .int .i64 2]) w4) (br (decide (x3 = (9 : Int))) (∃ c6 : UInt8, 0 ≤ x3 ∧
    x_0[x3.toNat]? = some c6 ∧
    br (decide ((1 : Int) < (UInt8.toNat c6 : Int))) (R (.tuple #[.int .u64 0, .int .i64 0, .int .i64 3]) w4) (br (decide ((0 : Int) < x3)) (∃ c7 : UInt8, 0 ≤ x3 ∧
    x_0[x3.toNat]? = some c7 ∧ br (decide ((UInt8.toNat c7 : Int) = (0 : Int))) (R (.tuple #[.int .u64 0, .int .i64 0, .int .i64 3]) w4) (∃ (I8 : Int → Int → World →
    Prop) (μ9 : Int → Int → World → Nat), I8 (0 : Int) x3 w4 ∧ ∀ x10 : Int, ∀ x11 : Int, ∀ w12 : World, I8 x10 x11 w12 →
    br (decide ((0 : Int) ≤ x11)) (∃ c13 : UInt8, 0 ≤ x11 ∧ x_0[x11.toNat]? = some c13 ∧ (128 : Int) ≠ 0 ∧
    I8 (IntKind.u64.wrap ((IntKind.u64.wrap (x10 * 128)) + (IntKind.u64.wrap (Int.tmod (UInt8.toNat c13 : Int) 128)))) (IntKind.i64.wrap (x11 - 1)) w12 ∧
    μ9 (IntKind.u64.wrap ((IntKind.u64.wrap (x10 * 128)) + (IntKind.u64.wrap (Int.tmod (UInt8.toNat c13 : Int) 128)))) (IntKind.i64.wrap (x11 - 1)) w12 < μ9 x10 x11 w12) (R (.tuple #[.int .u64 x10, .int .i64 (IntKind.i64.wrap (x3 + 1)), .int .i64 0]) w12))) (∃ (I14 : Int →
    Int → World → Prop) (μ15 : Int → Int → World → Nat), I14 (0 : Int) x3 w4 ∧ ∀ x16 : Int, ∀ x17 : Int, ∀ w18 : World, I14 x16 x17 w18 →
    br (decide ((0 : Int) ≤ x17)) (∃ c19 : UInt8, 0 ≤ x17 ∧ x_0[x17.toNat]? = some c19 ∧ (128 : Int) ≠ 0 ∧
    I14 (IntKind.u64.wrap ((IntKind.u64.wrap (x16 * 128)) + (IntKind.u64.wrap (Int.tmod (UInt8.toNat c19 : Int) 128)))) (IntKind.i64.wrap (x17 - 1)) w18 ∧
    μ15 (IntKind.u64.wrap ((IntKind.u64.wrap (x16 * 128)) + (IntKind.u64.wrap (Int.tmod (UInt8.toNat c19 : Int) 128)))) (IntKind.i64.wrap (x17 - 1)) w18 < μ15 x16 x17 w18) (R (.tuple #[.int .u64 x16, .int .i64 (IntKind.i64.wrap (x3 + 1)), .int .i64 0]) w18)))) (br (decide ((0 : Int) < x3)) (∃ c20 : UInt8, 0 ≤ x3 ∧
    x_0[x3.toNat]? = some c20 ∧ br (decide ((UInt8.toNat c20 : Int) = (0 : Int))) (R (.tuple #[.int .u64 0, .int .i64 0, .int .i64 3]) w4) (∃ (I21 : Int → Int →
    World → Prop) (μ22 : Int → Int → World → Nat), I21 (0 : Int) x3 w4 ∧ ∀ x23 : Int, ∀ x24 : Int, ∀ w25 : World, I21 x23 x24 w25 →
    br (decide ((0 : Int) ≤ x24)) (∃ c26 : UInt8, 0 ≤ x24 ∧ x_0[x24.toNat]? = some c26 ∧ (128 : Int) ≠ 0 ∧
    I21 (IntKind.u64.wrap ((IntKind.u64.wrap (x23 * 128)) + (IntKind.u64.wrap (Int.tmod (UInt8.toNat c26 : Int) 128)))) (IntKind.i64.wrap (x24 - 1)) w25 ∧
    μ22 (IntKind.u64.wrap ((IntKind.u64.wrap (x23 * 128)) + (IntKind.u64.wrap (Int.tmod (UInt8.toNat c26 : Int) 128)))) (IntKind.i64.wrap (x24 - 1)) w25 < μ22 x23 x24 w25) (R (.tuple #[.int .u64 x23, .int .i64 (IntKind.i64.wrap (x3 + 1)), .int .i64 0]) w25))) (∃ (I27 : Int →
    Int → World → Prop) (μ28 : Int → Int → World → Nat), I27 (0 : Int) x3 w4 ∧ ∀ x29 : Int, ∀ x30 : Int, ∀ w31 : World, I27 x29 x30 w31 →
    br (decide ((0 : Int) ≤ x30)) (∃ c32 : UInt8, 0 ≤ x30 ∧ x_0[x30.toNat]? = some c32 ∧ (128 : Int) ≠ 0 ∧
    I27 (IntKind.u64.wrap ((IntKind.u64.wrap (x29 * 128)) + (IntKind.u64.wrap (Int.tmod (UInt8.toNat c32 : Int) 128)))) (IntKind.i64.wrap (x30 - 1)) w31 ∧
    μ28 (IntKind.u64.wrap ((IntKind.u64.wrap (x29 * 128)) + (IntKind.u64.wrap (Int.tmod (UInt8.toNat c32 : Int) 128)))) (IntKind.i64.wrap (x30 - 1)) w31 < μ28 x29 x30 w31) (R (.tuple #[.int .u64 x29, .int .i64 (IntKind.i64.wrap (x3 + 1)), .int .i64 0]) w31))))))) (br (decide (x3 = (10 : Int))) (R (.tuple #[.int .u64 0, .int .i64 0, .int .i64 3]) w4) (br (decide (x3 = (x_0.size : Int))) (R (.tuple #[.int .u64 0, .int .i64 0, .int .i64 2]) w4) (br (decide (x3 = (9 : Int))) (∃ c33 : UInt8, 0 ≤ x3 ∧
    x_0[x3.toNat]? = some c33 ∧
    br (decide ((1 : Int) < (UInt8.toNat c33 : Int))) (R (.tuple #[.int .u64 0, .int .i64 0, .int .i64 3]) w4) (br (decide ((0 : Int) < x3)) (∃ c34 : UInt8, 0 ≤ x3 ∧
    x_0[x3.toNat]? = some c34 ∧ br (decide ((UInt8.toNat c34 : Int) = (0 : Int))) (R (.tuple #[.int .u64 0, .int .i64 0, .int .i64 3]) w4) (∃ (I35 : Int → Int →
    World → Prop) (μ36 : Int → Int → World → Nat), I35 (0 : Int) x3 w4 ∧ ∀ x37 : Int, ∀ x38 : Int, ∀ w39 : World, I35 x37 x38 w39 →
    br (decide ((0 : Int) ≤ x38)) (∃ c40 : UInt8, 0 ≤ x38 ∧ x_0[x38.toNat]? = some c40 ∧ (128 : Int) ≠ 0 ∧
    I35 (IntKind.u64.wrap ((IntKind.u64.wrap (x37 * 128)) + (IntKind.u64.wrap (Int.tmod (UInt8.toNat c40 : Int) 128)))) (IntKind.i64.wrap (x38 - 1)) w39 ∧
    μ36 (IntKind.u64.wrap ((IntKind.u64.wrap (x37 * 128)) + (IntKind.u64.wrap (Int.tmod (UInt8.toNat c40 : Int) 128)))) (IntKind.i64.wrap (x38 - 1)) w39 < μ36 x37 x38 w39) (R (.tuple #[.int .u64 x37, .int .i64 (IntKind.i64.wrap (x3 + 1)), .int .i64 0]) w39))) (∃ (I41 : Int →
    Int → World → Prop) (μ42 : Int → Int → World → Nat), I41 (0 : Int) x3 w4 ∧ ∀ x43 : Int, ∀ x44 : Int, ∀ w45 : World, I41 x43 x44 w45 →
    br (decide ((0 : Int) ≤ x44)) (∃ c46 : UInt8, 0 ≤ x44 ∧ x_0[x44.toNat]? = some c46 ∧ (128 : Int) ≠ 0 ∧
    I41 (IntKind.u64.wrap ((IntKind.u64.wrap (x43 * 128)) + (IntKind.u64.wrap (Int.tmod (UInt8.toNat c46 : Int) 128)))) (IntKind.i64.wrap (x44 - 1)) w45 ∧
    μ42 (IntKind.u64.wrap ((IntKind.u64.wrap (x43 * 128)) + (IntKind.u64.wrap (Int.tmod (UInt8.toNat c46 : Int) 128)))) (IntKind.i64.wrap (x44 - 1)) w45 < μ42 x43 x44 w45) (R (.tuple #[.int .u64 x43, .int .i64 (IntKind.i64.wrap (x3 + 1)), .int .i64 0]) w45)))) (br (decide ((0 : Int) < x3)) (∃ c47 : UInt8, 0 ≤ x3 ∧
    x_0[x3.toNat]? = some c47 ∧ br (decide ((UInt8.toNat c47 : Int) = (0 : Int))) (R (.tuple #[.int .u64 0, .int .i64 0, .int .i64 3]) w4) (∃ (I48 : Int → Int →
    World → Prop) (μ49 : Int → Int → World → Nat), I48 (0 : Int) x3 w4 ∧ ∀ x50 : Int, ∀ x51 : Int, ∀ w52 : World, I48 x50 x51 w52 →
    br (decide ((0 : Int) ≤ x51)) (∃ c53 : UInt8, 0 ≤ x51 ∧ x_0[x51.toNat]? = some c53 ∧ (128 : Int) ≠ 0 ∧
    I48 (IntKind.u64.wrap ((IntKind.u64.wrap (x50 * 128)) + (IntKind.u64.wrap (Int.tmod (UInt8.toNat c53 : Int) 128)))) (IntKind.i64.wrap (x51 - 1)) w52 ∧
    μ49 (IntKind.u64.wrap ((IntKind.u64.wrap (x50 * 128)) + (IntKind.u64.wrap (Int.tmod (UInt8.toNat c53 : Int) 128)))) (IntKind.i64.wrap (x51 - 1)) w52 < μ49 x50 x51 w52) (R (.tuple #[.int .u64 x50, .int .i64 (IntKind.i64.wrap (x3 + 1)), .int .i64 0]) w52))) (∃ (I54 : Int →
    Int → World → Prop) (μ55 : Int → Int → World → Nat), I54 (0 : Int) x3 w4 ∧ ∀ x56 : Int, ∀ x57 : Int, ∀ w58 : World, I54 x56 x57 w58 →
    br (decide ((0 : Int) ≤ x57)) (∃ c59 : UInt8, 0 ≤ x57 ∧ x_0[x57.toNat]? = some c59 ∧ (128 : Int) ≠ 0 ∧
    I54 (IntKind.u64.wrap ((IntKind.u64.wrap (x56 * 128)) + (IntKind.u64.wrap (Int.tmod (UInt8.toNat c59 : Int) 128)))) (IntKind.i64.wrap (x57 - 1)) w58 ∧
    μ55 (IntKind.u64.wrap ((IntKind.u64.wrap (x56 * 128)) + (IntKind.u64.wrap (Int.tmod (UInt8.toNat c59 : Int) 128)))) (IntKind.i64.wrap (x57 - 1)) w58 < μ55 x56 x57 w58) (R (.tuple #[.int .u64 x56, .int .i64 (IntKind.i64.wrap (x3 + 1)), .int .i64 0]) w58))))))) (br (decide (x3 = (10 : Int))) (R (.tuple #[.int .u64 0, .int .i64 0, .int .i64 3]) w4) (br (decide (x3 = (x_0.size : Int))) (R (.tuple #[.int .u64 0, .int .i64 0, .int .i64 2]) w4) (br (decide (x3 = (9 : Int))) (∃ c60 : UInt8, 0 ≤ x3 ∧
    x_0[x3.toNat]? = some c60 ∧
    br (decide ((1 : Int) < (UInt8.toNat c60 : Int))) (R (.tuple #[.int .u64 0, .int .i64 0, .int .i64 3]) w4) (br (decide ((0 : Int) < x3)) (∃ c61 : UInt8, 0 ≤ x3 ∧
    x_0[x3.toNat]? = some c61 ∧ br (decide ((UInt8.toNat c61 : Int) = (0 : Int))) (R (.tuple #[.int .u64 0, .int .i64 0, .int .i64 3]) w4) (∃ (I62 : Int → Int →
    World → Prop) (μ63 : Int → Int → World → Nat), I62 (0 : Int) x3 w4 ∧ ∀ x64 : Int, ∀ x65 : Int, ∀ w66 : World, I62 x64 x65 w66 →
    br (decide ((0 : Int) ≤ x65)) (∃ c67 : UInt8, 0 ≤ x65 ∧ x_0[x65.toNat]? = some c67 ∧ (128 : Int) ≠ 0 ∧
    I62 (IntKind.u64.wrap ((IntKind.u64.wrap (x64 * 128)) + (IntKind.u64.wrap (Int.tmod (UInt8.toNat c67 : Int) 128)))) (IntKind.i64.wrap (x65 - 1)) w66 ∧
    μ63 (IntKind.u64.wrap ((IntKind.u64.wrap (x64 * 128)) + (IntKind.u64.wrap (Int.tmod (UInt8.toNat c67 : Int) 128)))) (IntKind.i64.wrap (x65 - 1)) w66 < μ63 x64 x65 w66) (R (.tuple #[.int .u64 x64, .int .i64 (IntKind.i64.wrap (x3 + 1)), .int .i64 0]) w66))) (∃ (I68 : Int →
    Int → World → Prop) (μ69 : Int → Int → World → Nat), I68 (0 : Int) x3 w4 ∧ ∀ x70 : Int, ∀ x71 : Int, ∀ w72 : World, I68 x70 x71 w72 →
    br (decide ((0 : Int) ≤ x71)) (∃ c73 : UInt8, 0 ≤ x71 ∧ x_0[x71.toNat]? = some c73 ∧ (128 : Int) ≠ 0 ∧
    I68 (IntKind.u64.wrap ((IntKind.u64.wrap (x70 * 128)) + (IntKind.u64.wrap (Int.tmod (UInt8.toNat c73 : Int) 128)))) (IntKind.i64.wrap (x71 - 1)) w72 ∧
    μ69 (IntKind.u64.wrap ((IntKind.u64.wrap (x70 * 128)) + (IntKind.u64.wrap (Int.tmod (UInt8.toNat c73 : Int) 128)))) (IntKind.i64.wrap (x71 - 1)) w72 < μ69 x70 x71 w72) (R (.tuple #[.int .u64 x70, .int .i64 (IntKind.i64.wrap (x3 + 1)), .int .i64 0]) w72)))) (br (decide ((0 : Int) < x3)) (∃ c74 : UInt8, 0 ≤ x3 ∧
    x_0[x3.toNat]? = some c74 ∧ br (decide ((UInt8.toNat c74 : Int) = (0 : Int))) (R (.tuple #[.int .u64 0, .int .i64 0, .int .i64 3]) w4) (∃ (I75 : Int → Int →
    World → Prop) (μ76 : Int → Int → World → Nat), I75 (0 : Int) x3 w4 ∧ ∀ x77 : Int, ∀ x78 : Int, ∀ w79 : World, I75 x77 x78 w79 →
    br (decide ((0 : Int) ≤ x78)) (∃ c80 : UInt8, 0 ≤ x78 ∧ x_0[x78.toNat]? = some c80 ∧ (128 : Int) ≠ 0 ∧
    I75 (IntKind.u64.wrap ((IntKind.u64.wrap (x77 * 128)) + (IntKind.u64.wrap (Int.tmod (UInt8.toNat c80 : Int) 128)))) (IntKind.i64.wrap (x78 - 1)) w79 ∧
    μ76 (IntKind.u64.wrap ((IntKind.u64.wrap (x77 * 128)) + (IntKind.u64.wrap (Int.tmod (UInt8.toNat c80 : Int) 128)))) (IntKind.i64.wrap (x78 - 1)) w79 < μ76 x77 x78 w79) (R (.tuple #[.int .u64 x77, .int .i64 (IntKind.i64.wrap (x3 + 1)), .int .i64 0]) w79))) (∃ (I81 : Int →
    Int → World → Prop) (μ82 : Int → Int → World → Nat), I81 (0 : Int) x3 w4 ∧ ∀ x83 : Int, ∀ x84 : Int, ∀ w85 : World, I81 x83 x84 w85 →
    br (decide ((0 : Int) ≤ x84)) (∃ c86 : UInt8, 0 ≤ x84 ∧ x_0[x84.toNat]? = some c86 ∧ (128 : Int) ≠ 0 ∧
    I81 (IntKind.u64.wrap ((IntKind.u64.wrap (x83 * 128)) + (IntKind.u64.wrap (Int.tmod (UInt8.toNat c86 : Int) 128)))) (IntKind.i64.wrap (x84 - 1)) w85 ∧
    μ82 (IntKind.u64.wrap ((IntKind.u64.wrap (x83 * 128)) + (IntKind.u64.wrap (Int.tmod (UInt8.toNat c86 : Int) 128)))) (IntKind.i64.wrap (x84 - 1)) w85 < μ82 x83 x84 w85) (R (.tuple #[.int .u64 x83, .int .i64 (IntKind.i64.wrap (x3 + 1)), .int .i64 0]) w85))))))
theorem B88_eq : @B88 = fun (x_0 : ByteArray) (w : World) (R : Value → World → Prop) => trF Try.prog G (lk [(2, [(5, .int .i64)]), (12, [(6, .int .u64), (7, .int .i64)])]) Try.f88 [.string x_0] w R := by kernel_rfl
theorem c88 (x_0 : ByteArray) (w : World) (R : Value → World → Prop) (h : B88 x_0 w R) : Calls Try.prog 88 #[.string x_0] w (Rv R) := calls_of_tr (L := lk [(2, [(5, .int .i64)]), (12, [(6, .int .u64), (7, .int .i64)])]) Try.func88 hG hM (by rw [B88_eq] at h; exact h)

/-- locution/locutionlaw10.WireWrites -/
def B6 (x_0 : Slc) (w : World) (R : Value → World → Prop) : Prop :=
  Calls Try.prog 27 #[.slice x_0.a x_0.len x_0.cap] w (Rv fun v1 w2 => ∃ b3 : Bool, v1 = .bool b3 ∧ br b3 (Calls Try.prog 28 #[] w2 (Rv fun v4 w5 =>
    ∃ b6 : Bool, v4 = .bool b6 ∧ R (.bool b6) w5)) (∃ (I7 : ByteArray → Int → World → Prop) (μ8 : ByteArray → Int → World →
    Nat), I7 (⟨#[]⟩ : ByteArray) (0 : Int) (w2.alloc (.cells #[.slice none 0 0] 35)) ∧ ∀ x9 : ByteArray, ∀ x10 : Int, ∀ w11 : World, I7 x9 x10 w11 →
    br (decide (x10 < (x_0.len : Int))) (0 ≤ x10 ∧ x10 < (x_0.len : Int) ∧ ∃ a12, x_0.a = some a12 ∧
    ∃ n13 : Int, ∃ n14 : Int, ∃ n15 : Int, ∃ s16 : ByteArray, w11.cell? (Addr.add (Addr.add a12 (x10.toNat * 4)) 0) = some (.int .i64 n13) ∧
    w11.cell? (Addr.add (Addr.add a12 (x10.toNat * 4)) 1) = some (.int .u64 n14) ∧ w11.cell? (Addr.add (Addr.add a12 (x10.toNat * 4)) 2) = some (.int .i64 n15) ∧
    w11.cell? (Addr.add (Addr.add a12 (x10.toNat * 4)) 3) = some (.string s16) ∧
    Calls Try.prog 29 #[.pointer (some ⟨w2.heap.size, 0, none⟩), .agg #[.int .i64 n13, .int .u64 n14, .int .i64 n15, .string s16]] w11 (Rv fun v17 w18 =>
    ∃ s19 : ByteArray, v17 = .string s19 ∧ x9.size + s19.size ≤ 9223372036854775807 ∧ 0 ≤ x10 ∧ x10 < (x_0.len : Int) ∧ ∃ a20, x_0.a = some a20 ∧
    ∃ n21 : Int, ∃ n22 : Int, ∃ n23 : Int, ∃ s24 : ByteArray, w18.cell? (Addr.add (Addr.add a20 (x10.toNat * 4)) 0) = some (.int .i64 n21) ∧
    w18.cell? (Addr.add (Addr.add a20 (x10.toNat * 4)) 1) = some (.int .u64 n22) ∧ w18.cell? (Addr.add (Addr.add a20 (x10.toNat * 4)) 2) = some (.int .i64 n23) ∧
    w18.cell? (Addr.add (Addr.add a20 (x10.toNat * 4)) 3) = some (.string s24) ∧
    Calls Try.prog 29 #[.pointer none, .agg #[.int .i64 n21, .int .u64 n22, .int .i64 n23, .string s24]] w18 (Rv fun v25 w26 => ∃ s27 : ByteArray, v25 = .string s27 ∧
    I7 (x9 ++ s19) (IntKind.i64.wrap (x10 + 1)) w26 ∧
    μ8 (x9 ++ s19) (IntKind.i64.wrap (x10 + 1)) w26 < μ8 x9 x10 w11))) (Calls Try.prog 30 #[.pointer (some ⟨w2.heap.size, 0, none⟩)] w11 (Rv fun v28 w29 =>
    ∃ s30 : ByteArray, v28 = .string s30 ∧ br (s30.toList == x9.toList) (Calls Try.prog 30 #[.pointer none] w29 (Rv fun v31 w32 => ∃ s33 : ByteArray, v31 = .string s33 ∧
    br (s33.toList == (⟨#[]⟩ : ByteArray).toList) (Calls Try.prog 28 #[] w32 (Rv fun v34 w35 => ∃ b36 : Bool, v34 = .bool b36 ∧
    R (.bool b36) w35)) (R (.bool false) w32))) (R (.bool false) w29)))))
theorem B6_eq : @B6 = fun (x_0 : Slc) (w : World) (R : Value → World → Prop) => trF Try.prog G (lk [(7, [(5, .str), (6, .int .i64)])]) Try.f6 [.slice x_0.a x_0.len x_0.cap] w R := by kernel_rfl
theorem c6 (x_0 : Slc) (w : World) (R : Value → World → Prop) (h : B6 x_0 w R) : Calls Try.prog 6 #[.slice x_0.a x_0.len x_0.cap] w (Rv R) := calls_of_tr (L := lk [(7, [(5, .str), (6, .int .i64)])]) Try.func6 hG hM (by rw [B6_eq] at h; exact h)

/-- locution/locutionlaw10.WireBack -/
def B7 (x_0 : Slc) (x_1 : ByteArray) (w : World) (R : Value → World → Prop) : Prop :=
  Calls Try.prog 27 #[.slice x_0.a x_0.len x_0.cap] w (Rv fun v1 w2 => ∃ b3 : Bool, v1 = .bool b3 ∧ br b3 (Calls Try.prog 28 #[] w2 (Rv fun v4 w5 =>
    ∃ b6 : Bool, v4 = .bool b6 ∧ R (.bool b6) w5)) (br (decide ((300 : Int) < (x_1.size : Int))) (Calls Try.prog 28 #[] w2 (Rv fun v7 w8 => ∃ b9 : Bool, v7 = .bool b9 ∧
    R (.bool b9) w8)) (∃ (I10 : Int → World → Prop) (μ11 : Int → World → Nat), I10 (0 : Int) (w2.alloc (.cells #[.slice none 0 0] 35)) ∧
    ∀ x12 : Int, ∀ w13 : World, I10 x12 w13 → br (decide (x12 < (x_0.len : Int))) (0 ≤ x12 ∧ x12 < (x_0.len : Int) ∧ ∃ a14, x_0.a = some a14 ∧
    ∃ n15 : Int, ∃ n16 : Int, ∃ n17 : Int, ∃ s18 : ByteArray, w13.cell? (Addr.add (Addr.add a14 (x12.toNat * 4)) 0) = some (.int .i64 n15) ∧
    w13.cell? (Addr.add (Addr.add a14 (x12.toNat * 4)) 1) = some (.int .u64 n16) ∧ w13.cell? (Addr.add (Addr.add a14 (x12.toNat * 4)) 2) = some (.int .i64 n17) ∧
    w13.cell? (Addr.add (Addr.add a14 (x12.toNat * 4)) 3) = some (.string s18) ∧
    Calls Try.prog 29 #[.pointer (some ⟨w2.heap.size, 0, none⟩), .agg #[.int .i64 n15, .int .u64 n16, .int .i64 n17, .string s18]] w13 (Rv fun v19 w20 =>
    ∃ s21 : ByteArray, v19 = .string s21 ∧ I10 (IntKind.i64.wrap (x12 + 1)) w20 ∧
    μ11 (IntKind.i64.wrap (x12 + 1)) w20 < μ11 x12 w13)) (Calls Try.prog 30 #[.pointer (some ⟨w2.heap.size, 0, none⟩)] w13 (Rv fun v22 w23 =>
    ∃ s24 : ByteArray, v22 = .string s24 ∧ s24.size + x_1.size ≤ 9223372036854775807 ∧ Calls Try.prog 31 #[.string (s24 ++ x_1)] w23 (Rv fun v25 w26 =>
    ∃ p27 : Option Addr, v25 = .pointer p27 ∧ ∃ (I28 : Int → World → Prop) (μ29 : Int → World → Nat), I28 (0 : Int) w26 ∧ ∀ x30 : Int, ∀ w31 : World, I28 x30 w31 →
    br (decide (x30 < (x_0.len : Int))) (0 ≤ x30 ∧ x30 < (x_0.len : Int) ∧ ∃ a32, x_0.a = some a32 ∧
    ∃ n33 : Int, ∃ n34 : Int, ∃ n35 : Int, ∃ s36 : ByteArray, w31.cell? (Addr.add (Addr.add a32 (x30.toNat * 4)) 0) = some (.int .i64 n33) ∧
    w31.cell? (Addr.add (Addr.add a32 (x30.toNat * 4)) 1) = some (.int .u64 n34) ∧ w31.cell? (Addr.add (Addr.add a32 (x30.toNat * 4)) 2) = some (.int .i64 n35) ∧
    w31.cell? (Addr.add (Addr.add a32 (x30.toNat * 4)) 3) = some (.string s36) ∧
    (∃ u, (w31.alloc (.cells #[.int .i64 0, .int .u64 0, .int .i64 0, .string ByteArray.empty] 38)).cell? (Addr.add ⟨w31.heap.size, 0, none⟩ 0) = some u) ∧
    (w31.alloc (.cells #[.int .i64 0, .int .u64 0, .int .i64 0, .string ByteArray.empty] 38)).frozen? (Addr.add ⟨w31.heap.size, 0, none⟩ 0) = false ∧
    (∃ u, ((w31.alloc (.cells #[.int .i64 0, .int .u64 0, .int .i64 0, .string ByteArray.empty] 38)).setCell (Addr.add ⟨w31.heap.size, 0, none⟩ 0) (.int .i64 n33)).cell? (Addr.add ⟨w31.heap.size, 0, none⟩ 1) = some u) ∧
    ((w31.alloc (.cells #[.int .i64 0, .int .u64 0, .int .i64 0, .string ByteArray.empty] 38)).setCell (Addr.add ⟨w31.heap.size, 0, none⟩ 0) (.int .i64 n33)).frozen? (Addr.add ⟨w31.heap.size, 0, none⟩ 1) = false ∧
    (∃ u, (((w31.alloc (.cells #[.int .i64 0, .int .u64 0, .int .i64 0, .string ByteArray.empty] 38)).setCell (Addr.add ⟨w31.heap.size, 0, none⟩ 0) (.int .i64 n33)).setCell (Addr.add ⟨w31.heap.size, 0, none⟩ 1) (.int .u64 n34)).cell? (Addr.add ⟨w31.heap.size, 0, none⟩ 2) = some u) ∧
    (((w31.alloc (.cells #[.int .i64 0, .int .u64 0, .int .i64 0, .string ByteArray.empty] 38)).setCell (Addr.add ⟨w31.heap.size, 0, none⟩ 0) (.int .i64 n33)).setCell (Addr.add ⟨w31.heap.size, 0, none⟩ 1) (.int .u64 n34)).frozen? (Addr.add ⟨w31.heap.size, 0, none⟩ 2) = false ∧
    (∃ u, ((((w31.alloc (.cells #[.int .i64 0, .int .u64 0, .int .i64 0, .string ByteArray.empty] 38)).setCell (Addr.add ⟨w31.heap.size, 0, none⟩ 0) (.int .i64 n33)).setCell (Addr.add ⟨w31.heap.size, 0, none⟩ 1) (.int .u64 n34)).setCell (Addr.add ⟨w31.heap.size, 0, none⟩ 2) (.int .i64 n35)).cell? (Addr.add ⟨w31.heap.size, 0, none⟩ 3) = some u) ∧
    ((((w31.alloc (.cells #[.int .i64 0, .int .u64 0, .int .i64 0, .string ByteArray.empty] 38)).setCell (Addr.add ⟨w31.heap.size, 0, none⟩ 0) (.int .i64 n33)).setCell (Addr.add ⟨w31.heap.size, 0, none⟩ 1) (.int .u64 n34)).setCell (Addr.add ⟨w31.heap.size, 0, none⟩ 2) (.int .i64 n35)).frozen? (Addr.add ⟨w31.heap.size, 0, none⟩ 3) = false ∧
    ∃ n37 : Int, (World.drew (((((w31.alloc (.cells #[.int .i64 0, .int .u64 0, .int .i64 0, .string ByteArray.empty] 38)).setCell (Addr.add ⟨w31.heap.size, 0, none⟩ 0) (.int .i64 n33)).setCell (Addr.add ⟨w31.heap.size, 0, none⟩ 1) (.int .u64 n34)).setCell (Addr.add ⟨w31.heap.size, 0, none⟩ 2) (.int .i64 n35)).setCell (Addr.add ⟨w31.heap.size, 0, none⟩ 3) (.string s36))).cell? (Addr.add ⟨w31.heap.size, 0, none⟩ 0) = some (.int .i64 n37) ∧
    br (decide (n37 = (0 : Int))) (∃ n38 : Int, (World.drew (((((w31.alloc (.cells #[.int .i64 0, .int .u64 0, .int .i64 0, .string ByteArray.empty] 38)).setCell (Addr.add ⟨w31.heap.size, 0, none⟩ 0) (.int .i64 n33)).setCell (Addr.add ⟨w31.heap.size, 0, none⟩ 1) (.int .u64 n34)).setCell (Addr.add ⟨w31.heap.size, 0, none⟩ 2) (.int .i64 n35)).setCell (Addr.add ⟨w31.heap.size, 0, none⟩ 3) (.string s36))).cell? (Addr.add ⟨w31.heap.size, 0, none⟩ 1) = some (.int .u64 n38) ∧
    Calls Try.prog 32 #[.pointer p27] (World.drew (((((w31.alloc (.cells #[.int .i64 0, .int .u64 0, .int .i64 0, .string ByteArray.empty] 38)).setCell (Addr.add ⟨w31.heap.size, 0, none⟩ 0) (.int .i64 n33)).setCell (Addr.add ⟨w31.heap.size, 0, none⟩ 1) (.int .u64 n34)).setCell (Addr.add ⟨w31.heap.size, 0, none⟩ 2) (.int .i64 n35)).setCell (Addr.add ⟨w31.heap.size, 0, none⟩ 3) (.string s36))) (Rv fun v39 w40 =>
    ∃ n41 : Int, v39 = .int .u64 n41 ∧ w40.cell? (Addr.add ⟨w31.heap.size, 0, none⟩ 1) = some (.int .u64 n38) ∧
    br (!(decide (n41 = n38))) (R (.bool false) w40) (∃ n42 : Int, w40.cell? (Addr.add ⟨w31.heap.size, 0, none⟩ 0) = some (.int .i64 n42) ∧
    br (decide (n42 = (1 : Int))) (∃ n43 : Int, w40.cell? (Addr.add ⟨w31.heap.size, 0, none⟩ 2) = some (.int .i64 n43) ∧
    Calls Try.prog 33 #[.pointer p27] w40 (Rv fun v44 w45 => ∃ n46 : Int, v44 = .int .i64 n46 ∧ w45.cell? (Addr.add ⟨w31.heap.size, 0, none⟩ 2) = some (.int .i64 n43) ∧
    br (!(decide (n46 = n43))) (R (.bool false) w45) (∃ n47 : Int, w45.cell? (Addr.add ⟨w31.heap.size, 0, none⟩ 0) = some (.int .i64 n47) ∧
    br (decide (n47 = (2 : Int))) (∃ s48 : ByteArray, w45.cell? (Addr.add ⟨w31.heap.size, 0, none⟩ 3) = some (.string s48) ∧
    ∃ s49 : ByteArray, w45.cell? (Addr.add ⟨w31.heap.size, 0, none⟩ 3) = some (.string s49) ∧
    Calls Try.prog 34 #[.pointer p27, .int .i64 (s48.size : Int)] w45 (Rv fun v50 w51 => ∃ s52 : ByteArray, v50 = .string s52 ∧
    w51.cell? (Addr.add ⟨w31.heap.size, 0, none⟩ 3) = some (.string s49) ∧
    br (!(s52.toList == s49.toList)) (R (.bool false) w51) (∃ n53 : Int, w51.cell? (Addr.add ⟨w31.heap.size, 0, none⟩ 0) = some (.int .i64 n53) ∧
    br (decide (n53 = (3 : Int))) (∃ s54 : ByteArray, w51.cell? (Addr.add ⟨w31.heap.size, 0, none⟩ 3) = some (.string s54) ∧
    ∃ s55 : ByteArray, w51.cell? (Addr.add ⟨w31.heap.size, 0, none⟩ 3) = some (.string s55) ∧
    Calls Try.prog 35 #[.pointer p27, .int .i64 (s54.size : Int)] w51 (Rv fun v56 w57 => ∃ s58 : ByteArray, v56 = .string s58 ∧
    w57.cell? (Addr.add ⟨w31.heap.size, 0, none⟩ 3) = some (.string s55) ∧
    br (!(s58.toList == s55.toList)) (R (.bool false) w57) (I28 (IntKind.i64.wrap (x30 + 1)) w57 ∧
    μ29 (IntKind.i64.wrap (x30 + 1)) w57 < μ29 x30 w31))) (I28 (IntKind.i64.wrap (x30 + 1)) w51 ∧
    μ29 (IntKind.i64.wrap (x30 + 1)) w51 < μ29 x30 w31)))) (∃ n59 : Int, w45.cell? (Addr.add ⟨w31.heap.size, 0, none⟩ 0) = some (.int .i64 n59) ∧
    br (decide (n59 = (3 : Int))) (∃ s60 : ByteArray, w45.cell? (Addr.add ⟨w31.heap.size, 0, none⟩ 3) = some (.string s60) ∧
    ∃ s61 : ByteArray, w45.cell? (Addr.add ⟨w31.heap.size, 0, none⟩ 3) = some (.string s61) ∧
    Calls Try.prog 35 #[.pointer p27, .int .i64 (s60.size : Int)] w45 (Rv fun v62 w63 => ∃ s64 : ByteArray, v62 = .string s64 ∧
    w63.cell? (Addr.add ⟨w31.heap.size, 0, none⟩ 3) = some (.string s61) ∧
    br (!(s64.toList == s61.toList)) (R (.bool false) w63) (I28 (IntKind.i64.wrap (x30 + 1)) w63 ∧
    μ29 (IntKind.i64.wrap (x30 + 1)) w63 < μ29 x30 w31))) (I28 (IntKind.i64.wrap (x30 + 1)) w45 ∧
    μ29 (IntKind.i64.wrap (x30 + 1)) w45 < μ29 x30 w31))))) (∃ n65 : Int, w40.cell? (Addr.add ⟨w31.heap.size, 0, none⟩ 0) = some (.int .i64 n65) ∧
    br (decide (n65 = (2 : Int))) (∃ s66 : ByteArray, w40.cell? (Addr.add ⟨w31.heap.size, 0, none⟩ 3) = some (.string s66) ∧
    ∃ s67 : ByteArray, w40.cell? (Addr.add ⟨w31.heap.size, 0, none⟩ 3) = some (.string s67) ∧
    Calls Try.prog 34 #[.pointer p27, .int .i64 (s66.size : Int)] w40 (Rv fun v68 w69 => ∃ s70 : ByteArray, v68 = .string s70 ∧
    w69.cell? (Addr.add ⟨w31.heap.size, 0, none⟩ 3) = some (.string s67) ∧
    br (!(s70.toList == s67.toList)) (R (.bool false) w69) (∃ n71 : Int, w69.cell? (Addr.add ⟨w31.heap.size, 0, none⟩ 0) = some (.int .i64 n71) ∧
    br (decide (n71 = (3 : Int))) (∃ s72 : ByteArray, w69.cell? (Addr.add ⟨w31.heap.size, 0, none⟩ 3) = some (.string s72) ∧
    ∃ s73 : ByteArray, w69.cell? (Addr.add ⟨w31.heap.size, 0, none⟩ 3) = some (.string s73) ∧
    Calls Try.prog 35 #[.pointer p27, .int .i64 (s72.size : Int)] w69 (Rv fun v74 w75 => ∃ s76 : ByteArray, v74 = .string s76 ∧
    w75.cell? (Addr.add ⟨w31.heap.size, 0, none⟩ 3) = some (.string s73) ∧
    br (!(s76.toList == s73.toList)) (R (.bool false) w75) (I28 (IntKind.i64.wrap (x30 + 1)) w75 ∧
    μ29 (IntKind.i64.wrap (x30 + 1)) w75 < μ29 x30 w31))) (I28 (IntKind.i64.wrap (x30 + 1)) w69 ∧
    μ29 (IntKind.i64.wrap (x30 + 1)) w69 < μ29 x30 w31)))) (∃ n77 : Int, w40.cell? (Addr.add ⟨w31.heap.size, 0, none⟩ 0) = some (.int .i64 n77) ∧
    br (decide (n77 = (3 : Int))) (∃ s78 : ByteArray, w40.cell? (Addr.add ⟨w31.heap.size, 0, none⟩ 3) = some (.string s78) ∧
    ∃ s79 : ByteArray, w40.cell? (Addr.add ⟨w31.heap.size, 0, none⟩ 3) = some (.string s79) ∧
    Calls Try.prog 35 #[.pointer p27, .int .i64 (s78.size : Int)] w40 (Rv fun v80 w81 => ∃ s82 : ByteArray, v80 = .string s82 ∧
    w81.cell? (Addr.add ⟨w31.heap.size, 0, none⟩ 3) = some (.string s79) ∧
    br (!(s82.toList == s79.toList)) (R (.bool false) w81) (I28 (IntKind.i64.wrap (x30 + 1)) w81 ∧
    μ29 (IntKind.i64.wrap (x30 + 1)) w81 < μ29 x30 w31))) (I28 (IntKind.i64.wrap (x30 + 1)) w40 ∧
    μ29 (IntKind.i64.wrap (x30 + 1)) w40 < μ29 x30 w31)))))) (∃ n83 : Int, (World.drew (((((w31.alloc (.cells #[.int .i64 0, .int .u64 0, .int .i64 0, .string ByteArray.empty] 38)).setCell (Addr.add ⟨w31.heap.size, 0, none⟩ 0) (.int .i64 n33)).setCell (Addr.add ⟨w31.heap.size, 0, none⟩ 1) (.int .u64 n34)).setCell (Addr.add ⟨w31.heap.size, 0, none⟩ 2) (.int .i64 n35)).setCell (Addr.add ⟨w31.heap.size, 0, none⟩ 3) (.string s36))).cell? (Addr.add ⟨w31.heap.size, 0, none⟩ 0) = some (.int .i64 n83) ∧
    br (decide (n83 = (1 : Int))) (∃ n84 : Int, (World.drew (((((w31.alloc (.cells #[.int .i64 0, .int .u64 0, .int .i64 0, .string ByteArray.empty] 38)).setCell (Addr.add ⟨w31.heap.size, 0, none⟩ 0) (.int .i64 n33)).setCell (Addr.add ⟨w31.heap.size, 0, none⟩ 1) (.int .u64 n34)).setCell (Addr.add ⟨w31.heap.size, 0, none⟩ 2) (.int .i64 n35)).setCell (Addr.add ⟨w31.heap.size, 0, none⟩ 3) (.string s36))).cell? (Addr.add ⟨w31.heap.size, 0, none⟩ 2) = some (.int .i64 n84) ∧
    Calls Try.prog 33 #[.pointer p27] (World.drew (((((w31.alloc (.cells #[.int .i64 0, .int .u64 0, .int .i64 0, .string ByteArray.empty] 38)).setCell (Addr.add ⟨w31.heap.size, 0, none⟩ 0) (.int .i64 n33)).setCell (Addr.add ⟨w31.heap.size, 0, none⟩ 1) (.int .u64 n34)).setCell (Addr.add ⟨w31.heap.size, 0, none⟩ 2) (.int .i64 n35)).setCell (Addr.add ⟨w31.heap.size, 0, none⟩ 3) (.string s36))) (Rv fun v85 w86 =>
    ∃ n87 : Int, v85 = .int .i64 n87 ∧ w86.cell? (Addr.add ⟨w31.heap.size, 0, none⟩ 2) = some (.int .i64 n84) ∧
    br (!(decide (n87 = n84))) (R (.bool false) w86) (∃ n88 : Int, w86.cell? (Addr.add ⟨w31.heap.size, 0, none⟩ 0) = some (.int .i64 n88) ∧
    br (decide (n88 = (2 : Int))) (∃ s89 : ByteArray, w86.cell? (Addr.add ⟨w31.heap.size, 0, none⟩ 3) = some (.string s89) ∧
    ∃ s90 : ByteArray, w86.cell? (Addr.add ⟨w31.heap.size, 0, none⟩ 3) = some (.string s90) ∧
    Calls Try.prog 34 #[.pointer p27, .int .i64 (s89.size : Int)] w86 (Rv fun v91 w92 => ∃ s93 : ByteArray, v91 = .string s93 ∧
    w92.cell? (Addr.add ⟨w31.heap.size, 0, none⟩ 3) = some (.string s90) ∧
    br (!(s93.toList == s90.toList)) (R (.bool false) w92) (∃ n94 : Int, w92.cell? (Addr.add ⟨w31.heap.size, 0, none⟩ 0) = some (.int .i64 n94) ∧
    br (decide (n94 = (3 : Int))) (∃ s95 : ByteArray, w92.cell? (Addr.add ⟨w31.heap.size, 0, none⟩ 3) = some (.string s95) ∧
    ∃ s96 : ByteArray, w92.cell? (Addr.add ⟨w31.heap.size, 0, none⟩ 3) = some (.string s96) ∧
    Calls Try.prog 35 #[.pointer p27, .int .i64 (s95.size : Int)] w92 (Rv fun v97 w98 => ∃ s99 : ByteArray, v97 = .string s99 ∧
    w98.cell? (Addr.add ⟨w31.heap.size, 0, none⟩ 3) = some (.string s96) ∧
    br (!(s99.toList == s96.toList)) (R (.bool false) w98) (I28 (IntKind.i64.wrap (x30 + 1)) w98 ∧
    μ29 (IntKind.i64.wrap (x30 + 1)) w98 < μ29 x30 w31))) (I28 (IntKind.i64.wrap (x30 + 1)) w92 ∧
    μ29 (IntKind.i64.wrap (x30 + 1)) w92 < μ29 x30 w31)))) (∃ n100 : Int, w86.cell? (Addr.add ⟨w31.heap.size, 0, none⟩ 0) = some (.int .i64 n100) ∧
    br (decide (n100 = (3 : Int))) (∃ s101 : ByteArray, w86.cell? (Addr.add ⟨w31.heap.size, 0, none⟩ 3) = some (.string s101) ∧
    ∃ s102 : ByteArray, w86.cell? (Addr.add ⟨w31.heap.size, 0, none⟩ 3) = some (.string s102) ∧
    Calls Try.prog 35 #[.pointer p27, .int .i64 (s101.size : Int)] w86 (Rv fun v103 w104 => ∃ s105 : ByteArray, v103 = .string s105 ∧
    w104.cell? (Addr.add ⟨w31.heap.size, 0, none⟩ 3) = some (.string s102) ∧
    br (!(s105.toList == s102.toList)) (R (.bool false) w104) (I28 (IntKind.i64.wrap (x30 + 1)) w104 ∧
    μ29 (IntKind.i64.wrap (x30 + 1)) w104 < μ29 x30 w31))) (I28 (IntKind.i64.wrap (x30 + 1)) w86 ∧
    μ29 (IntKind.i64.wrap (x30 + 1)) w86 < μ29 x30 w31))))) (∃ n106 : Int, (World.drew (((((w31.alloc (.cells #[.int .i64 0, .int .u64 0, .int .i64 0, .string ByteArray.empty] 38)).setCell (Addr.add ⟨w31.heap.size, 0, none⟩ 0) (.int .i64 n33)).setCell (Addr.add ⟨w31.heap.size, 0, none⟩ 1) (.int .u64 n34)).setCell (Addr.add ⟨w31.heap.size, 0, none⟩ 2) (.int .i64 n35)).setCell (Addr.add ⟨w31.heap.size, 0, none⟩ 3) (.string s36))).cell? (Addr.add ⟨w31.heap.size, 0, none⟩ 0) = some (.int .i64 n106) ∧
    br (decide (n106 = (2 : Int))) (∃ s107 : ByteArray, (World.drew (((((w31.alloc (.cells #[.int .i64 0, .int .u64 0, .int .i64 0, .string ByteArray.empty] 38)).setCell (Addr.add ⟨w31.heap.size, 0, none⟩ 0) (.int .i64 n33)).setCell (Addr.add ⟨w31.heap.size, 0, none⟩ 1) (.int .u64 n34)).setCell (Addr.add ⟨w31.heap.size, 0, none⟩ 2) (.int .i64 n35)).setCell (Addr.add ⟨w31.heap.size, 0, none⟩ 3) (.string s36))).cell? (Addr.add ⟨w31.heap.size, 0, none⟩ 3) = some (.string s107) ∧
    ∃ s108 : ByteArray, (World.drew (((((w31.alloc (.cells #[.int .i64 0, .int .u64 0, .int .i64 0, .string ByteArray.empty] 38)).setCell (Addr.add ⟨w31.heap.size, 0, none⟩ 0) (.int .i64 n33)).setCell (Addr.add ⟨w31.heap.size, 0, none⟩ 1) (.int .u64 n34)).setCell (Addr.add ⟨w31.heap.size, 0, none⟩ 2) (.int .i64 n35)).setCell (Addr.add ⟨w31.heap.size, 0, none⟩ 3) (.string s36))).cell? (Addr.add ⟨w31.heap.size, 0, none⟩ 3) = some (.string s108) ∧
    Calls Try.prog 34 #[.pointer p27, .int .i64 (s107.size : Int)] (World.drew (((((w31.alloc (.cells #[.int .i64 0, .int .u64 0, .int .i64 0, .string ByteArray.empty] 38)).setCell (Addr.add ⟨w31.heap.size, 0, none⟩ 0) (.int .i64 n33)).setCell (Addr.add ⟨w31.heap.size, 0, none⟩ 1) (.int .u64 n34)).setCell (Addr.add ⟨w31.heap.size, 0, none⟩ 2) (.int .i64 n35)).setCell (Addr.add ⟨w31.heap.size, 0, none⟩ 3) (.string s36))) (Rv fun v109 w110 =>
    ∃ s111 : ByteArray, v109 = .string s111 ∧ w110.cell? (Addr.add ⟨w31.heap.size, 0, none⟩ 3) = some (.string s108) ∧
    br (!(s111.toList == s108.toList)) (R (.bool false) w110) (∃ n112 : Int, w110.cell? (Addr.add ⟨w31.heap.size, 0, none⟩ 0) = some (.int .i64 n112) ∧
    br (decide (n112 = (3 : Int))) (∃ s113 : ByteArray, w110.cell? (Addr.add ⟨w31.heap.size, 0, none⟩ 3) = some (.string s113) ∧
    ∃ s114 : ByteArray, w110.cell? (Addr.add ⟨w31.heap.size, 0, none⟩ 3) = some (.string s114) ∧
    Calls Try.prog 35 #[.pointer p27, .int .i64 (s113.size : Int)] w110 (Rv fun v115 w116 => ∃ s117 : ByteArray, v115 = .string s117 ∧
    w116.cell? (Addr.add ⟨w31.heap.size, 0, none⟩ 3) = some (.string s114) ∧
    br (!(s117.toList == s114.toList)) (R (.bool false) w116) (I28 (IntKind.i64.wrap (x30 + 1)) w116 ∧
    μ29 (IntKind.i64.wrap (x30 + 1)) w116 < μ29 x30 w31))) (I28 (IntKind.i64.wrap (x30 + 1)) w110 ∧
    μ29 (IntKind.i64.wrap (x30 + 1)) w110 < μ29 x30 w31)))) (∃ n118 : Int, (World.drew (((((w31.alloc (.cells #[.int .i64 0, .int .u64 0, .int .i64 0, .string ByteArray.empty] 38)).setCell (Addr.add ⟨w31.heap.size, 0, none⟩ 0) (.int .i64 n33)).setCell (Addr.add ⟨w31.heap.size, 0, none⟩ 1) (.int .u64 n34)).setCell (Addr.add ⟨w31.heap.size, 0, none⟩ 2) (.int .i64 n35)).setCell (Addr.add ⟨w31.heap.size, 0, none⟩ 3) (.string s36))).cell? (Addr.add ⟨w31.heap.size, 0, none⟩ 0) = some (.int .i64 n118) ∧
    br (decide (n118 = (3 : Int))) (∃ s119 : ByteArray, (World.drew (((((w31.alloc (.cells #[.int .i64 0, .int .u64 0, .int .i64 0, .string ByteArray.empty] 38)).setCell (Addr.add ⟨w31.heap.size, 0, none⟩ 0) (.int .i64 n33)).setCell (Addr.add ⟨w31.heap.size, 0, none⟩ 1) (.int .u64 n34)).setCell (Addr.add ⟨w31.heap.size, 0, none⟩ 2) (.int .i64 n35)).setCell (Addr.add ⟨w31.heap.size, 0, none⟩ 3) (.string s36))).cell? (Addr.add ⟨w31.heap.size, 0, none⟩ 3) = some (.string s119) ∧
    ∃ s120 : ByteArray, (World.drew (((((w31.alloc (.cells #[.int .i64 0, .int .u64 0, .int .i64 0, .string ByteArray.empty] 38)).setCell (Addr.add ⟨w31.heap.size, 0, none⟩ 0) (.int .i64 n33)).setCell (Addr.add ⟨w31.heap.size, 0, none⟩ 1) (.int .u64 n34)).setCell (Addr.add ⟨w31.heap.size, 0, none⟩ 2) (.int .i64 n35)).setCell (Addr.add ⟨w31.heap.size, 0, none⟩ 3) (.string s36))).cell? (Addr.add ⟨w31.heap.size, 0, none⟩ 3) = some (.string s120) ∧
    Calls Try.prog 35 #[.pointer p27, .int .i64 (s119.size : Int)] (World.drew (((((w31.alloc (.cells #[.int .i64 0, .int .u64 0, .int .i64 0, .string ByteArray.empty] 38)).setCell (Addr.add ⟨w31.heap.size, 0, none⟩ 0) (.int .i64 n33)).setCell (Addr.add ⟨w31.heap.size, 0, none⟩ 1) (.int .u64 n34)).setCell (Addr.add ⟨w31.heap.size, 0, none⟩ 2) (.int .i64 n35)).setCell (Addr.add ⟨w31.heap.size, 0, none⟩ 3) (.string s36))) (Rv fun v121 w122 =>
    ∃ s123 : ByteArray, v121 = .string s123 ∧ w122.cell? (Addr.add ⟨w31.heap.size, 0, none⟩ 3) = some (.string s120) ∧
    br (!(s123.toList == s120.toList)) (R (.bool false) w122) (I28 (IntKind.i64.wrap (x30 + 1)) w122 ∧
    μ29 (IntKind.i64.wrap (x30 + 1)) w122 < μ29 x30 w31))) (I28 (IntKind.i64.wrap (x30 + 1)) (World.drew (((((w31.alloc (.cells #[.int .i64 0, .int .u64 0, .int .i64 0, .string ByteArray.empty] 38)).setCell (Addr.add ⟨w31.heap.size, 0, none⟩ 0) (.int .i64 n33)).setCell (Addr.add ⟨w31.heap.size, 0, none⟩ 1) (.int .u64 n34)).setCell (Addr.add ⟨w31.heap.size, 0, none⟩ 2) (.int .i64 n35)).setCell (Addr.add ⟨w31.heap.size, 0, none⟩ 3) (.string s36))) ∧
    μ29 (IntKind.i64.wrap (x30 + 1)) (World.drew (((((w31.alloc (.cells #[.int .i64 0, .int .u64 0, .int .i64 0, .string ByteArray.empty] 38)).setCell (Addr.add ⟨w31.heap.size, 0, none⟩ 0) (.int .i64 n33)).setCell (Addr.add ⟨w31.heap.size, 0, none⟩ 1) (.int .u64 n34)).setCell (Addr.add ⟨w31.heap.size, 0, none⟩ 2) (.int .i64 n35)).setCell (Addr.add ⟨w31.heap.size, 0, none⟩ 3) (.string s36))) < μ29 x30 w31))))) (Calls Try.prog 36 #[.pointer p27] w31 (Rv fun v124 w125 =>
    ∃ n126 : Int, v124 = .int .i64 n126 ∧ br (decide (n126 = (x_1.size : Int))) (Calls Try.prog 37 #[.pointer p27] w125 (Rv fun v127 w128 =>
    ∃ n129 : Int, v127 = .int .i64 n129 ∧ br (decide (n129 = (0 : Int))) (Calls Try.prog 28 #[] w128 (Rv fun v130 w131 => ∃ b132 : Bool, v130 = .bool b132 ∧
    R (.bool b132) w131)) (R (.bool false) w128))) (R (.bool false) w125)))))))))
theorem B7_eq : @B7 = fun (x_0 : Slc) (x_1 : ByteArray) (w : World) (R : Value → World → Prop) => trF Try.prog G (lk [(5, [(6, .int .i64)]), (10, [(8, .int .i64)])]) Try.f7 [.slice x_0.a x_0.len x_0.cap, .string x_1] w R := by kernel_rfl
theorem c7 (x_0 : Slc) (x_1 : ByteArray) (w : World) (R : Value → World → Prop) (h : B7 x_0 x_1 w R) : Calls Try.prog 7 #[.slice x_0.a x_0.len x_0.cap, .string x_1] w (Rv R) := calls_of_tr (L := lk [(5, [(6, .int .i64)]), (10, [(8, .int .i64)])]) Try.func7 hG hM (by rw [B7_eq] at h; exact h)

/-- locution/locutionlaw10.WireReads -/
def B8 (x_0 : ByteArray) (x_1 : Slc) (w : World) (R : Value → World → Prop) : Prop :=
  br (decide ((600 : Int) < (x_0.size : Int))) (Calls Try.prog 28 #[] w (Rv fun v1 w2 => ∃ b3 : Bool, v1 = .bool b3 ∧
    R (.bool b3) w2)) (Calls Try.prog 27 #[.slice x_1.a x_1.len x_1.cap] w (Rv fun v4 w5 => ∃ b6 : Bool, v4 = .bool b6 ∧ br b6 (Calls Try.prog 28 #[] w5 (Rv fun v7 w8 =>
    ∃ b9 : Bool, v7 = .bool b9 ∧ R (.bool b9) w8)) (Calls Try.prog 31 #[.string x_0] w5 (Rv fun v10 w11 => ∃ p12 : Option Addr, v10 = .pointer p12 ∧ ∃ (I13 : Int →
    World → Prop) (μ14 : Int → World → Nat), I13 (0 : Int) (w11.alloc (.cells #[.string x_0, .int .i64 0] 50)) ∧ ∀ x15 : Int, ∀ w16 : World, I13 x15 w16 →
    br (decide (x15 < (x_1.len : Int))) (0 ≤ x15 ∧ x15 < (x_1.len : Int) ∧ ∃ a17, x_1.a = some a17 ∧
    ∃ n18 : Int, ∃ n19 : Int, ∃ n20 : Int, ∃ s21 : ByteArray, (World.drew w16).cell? (Addr.add (Addr.add a17 (x15.toNat * 4)) 0) = some (.int .i64 n18) ∧
    (World.drew w16).cell? (Addr.add (Addr.add a17 (x15.toNat * 4)) 1) = some (.int .u64 n19) ∧
    (World.drew w16).cell? (Addr.add (Addr.add a17 (x15.toNat * 4)) 2) = some (.int .i64 n20) ∧
    (World.drew w16).cell? (Addr.add (Addr.add a17 (x15.toNat * 4)) 3) = some (.string s21) ∧
    Calls Try.prog 38 #[.pointer p12, .pointer (some ⟨w11.heap.size, 0, none⟩), .agg #[.int .i64 n18, .int .u64 n19, .int .i64 n20, .string s21]] (World.drew w16) (Rv fun v22 w23 =>
    ∃ b24 : Bool, v22 = .bool b24 ∧ br (!b24) (R (.bool false) w23) (∃ s25 : ByteArray, w23.cell? (Addr.add ⟨w11.heap.size, 0, none⟩ 0) = some (.string s25) ∧
    Calls Try.prog 36 #[.pointer p12] w23 (Rv fun v26 w27 => ∃ n28 : Int, v26 = .int .i64 n28 ∧ w27.cell? (Addr.add ⟨w11.heap.size, 0, none⟩ 0) = some (.string s25) ∧
    br (!(decide (n28 = (s25.size : Int)))) (R (.bool false) w27) (∃ n29 : Int, w27.cell? (Addr.add ⟨w11.heap.size, 0, none⟩ 1) = some (.int .i64 n29) ∧
    Calls Try.prog 37 #[.pointer p12] w27 (Rv fun v30 w31 => ∃ n32 : Int, v30 = .int .i64 n32 ∧ w31.cell? (Addr.add ⟨w11.heap.size, 0, none⟩ 1) = some (.int .i64 n29) ∧
    br (!(decide (n32 = n29))) (R (.bool false) w31) (I13 (IntKind.i64.wrap (x15 + 1)) w31 ∧
    μ14 (IntKind.i64.wrap (x15 + 1)) w31 < μ14 x15 w16))))))) (Calls Try.prog 39 #[.pointer p12] w16 (Rv fun v33 w34 => ∃ n35 : Int, v33 = .int .i64 n35 ∧
    Calls Try.prog 40 #[.pointer (some ⟨w11.heap.size, 0, none⟩)] w34 (Rv fun v36 w37 => ∃ n38 : Int, v36 = .int .i64 n38 ∧
    br (decide (n35 = n38)) (Calls Try.prog 28 #[] w37 (Rv fun v39 w40 => ∃ b41 : Bool, v39 = .bool b41 ∧ R (.bool b41) w40)) (R (.bool false) w37))))))))
theorem B8_eq : @B8 = fun (x_0 : ByteArray) (x_1 : Slc) (w : World) (R : Value → World → Prop) => trF Try.prog G (lk [(6, [(7, .int .i64)])]) Try.f8 [.string x_0, .slice x_1.a x_1.len x_1.cap] w R := by kernel_rfl
theorem c8 (x_0 : ByteArray) (x_1 : Slc) (w : World) (R : Value → World → Prop) (h : B8 x_0 x_1 w R) : Calls Try.prog 8 #[.string x_0, .slice x_1.a x_1.len x_1.cap] w (Rv R) := calls_of_tr (L := lk [(6, [(7, .int .i64)])]) Try.func8 hG hM (by rw [B8_eq] at h; exact h)

/-- locution/locutionlaw10.WireOnce -/
def B9 (x_0 : ByteArray) (x1_0 : Int) (x1_1 : Int) (x1_2 : Int) (x1_3 : ByteArray) (w : World) (R : Value → World → Prop) : Prop :=
  
    br (decide ((600 : Int) < (x_0.size : Int))) (Calls Try.prog 28 #[] (w.alloc (.cells #[.int .i64 x1_0, .int .u64 x1_1, .int .i64 x1_2, .string x1_3] 38)) (Rv fun v1 w2 =>
    ∃ b3 : Bool, v1 = .bool b3 ∧
    R (.bool b3) w2)) (∃ n4 : Int, ∃ n5 : Int, ∃ n6 : Int, ∃ s7 : ByteArray, ((w.alloc (.cells #[.int .i64 x1_0, .int .u64 x1_1, .int .i64 x1_2, .string x1_3] 38)).alloc (.cells #[.string ByteArray.empty, .int .i64 11] 50)).cell? (Addr.add ⟨w.heap.size, 0, none⟩ 0) = some (.int .i64 n4) ∧
    ((w.alloc (.cells #[.int .i64 x1_0, .int .u64 x1_1, .int .i64 x1_2, .string x1_3] 38)).alloc (.cells #[.string ByteArray.empty, .int .i64 11] 50)).cell? (Addr.add ⟨w.heap.size, 0, none⟩ 1) = some (.int .u64 n5) ∧
    ((w.alloc (.cells #[.int .i64 x1_0, .int .u64 x1_1, .int .i64 x1_2, .string x1_3] 38)).alloc (.cells #[.string ByteArray.empty, .int .i64 11] 50)).cell? (Addr.add ⟨w.heap.size, 0, none⟩ 2) = some (.int .i64 n6) ∧
    ((w.alloc (.cells #[.int .i64 x1_0, .int .u64 x1_1, .int .i64 x1_2, .string x1_3] 38)).alloc (.cells #[.string ByteArray.empty, .int .i64 11] 50)).cell? (Addr.add ⟨w.heap.size, 0, none⟩ 3) = some (.string s7) ∧
    Calls Try.prog 38 #[.pointer none, .pointer (some ⟨(w.alloc (.cells #[.int .i64 x1_0, .int .u64 x1_1, .int .i64 x1_2, .string x1_3] 38)).heap.size, 0, none⟩), .agg #[.int .i64 n4, .int .u64 n5, .int .i64 n6, .string s7]] ((w.alloc (.cells #[.int .i64 x1_0, .int .u64 x1_1, .int .i64 x1_2, .string x1_3] 38)).alloc (.cells #[.string ByteArray.empty, .int .i64 11] 50)) (Rv fun v8 w9 =>
    ∃ b10 : Bool, v8 = .bool b10 ∧ br (!b10) (R (.bool false) w9) (Calls Try.prog 36 #[.pointer none] w9 (Rv fun v11 w12 => ∃ n13 : Int, v11 = .int .i64 n13 ∧
    br (!(decide (n13 = (0 : Int)))) (R (.bool false) w12) (Calls Try.prog 37 #[.pointer none] w12 (Rv fun v14 w15 => ∃ n16 : Int, v14 = .int .i64 n16 ∧
    br (!(decide (n16 = (11 : Int)))) (R (.bool false) w15) (Calls Try.prog 39 #[.pointer none] w15 (Rv fun v17 w18 => ∃ n19 : Int, v17 = .int .i64 n19 ∧
    br (!(decide (n19 = (11 : Int)))) (R (.bool false) w18) (Calls Try.prog 31 #[.string x_0] w18 (Rv fun v20 w21 => ∃ p22 : Option Addr, v20 = .pointer p22 ∧
    Calls Try.prog 32 #[.pointer p22] w21 (Rv fun v23 w24 => ∃ n25 : Int, v23 = .int .u64 n25 ∧ Calls Try.prog 37 #[.pointer p22] w24 (Rv fun v26 w27 =>
    ∃ n28 : Int, v26 = .int .i64 n28 ∧ br (!(decide (n28 = (0 : Int)))) (br (decide (n25 = (0 : Int))) (Calls Try.prog 36 #[.pointer p22] w27 (Rv fun v29 w30 =>
    ∃ n31 : Int, v29 = .int .i64 n31 ∧ br (decide (n31 = (x_0.size : Int))) (Calls Try.prog 28 #[] w30 (Rv fun v32 w33 => ∃ b34 : Bool, v32 = .bool b34 ∧
    R (.bool b34) w33)) (R (.bool false) w30))) (R (.bool false) w27)) (Calls Try.prog 41 #[.pointer (some ⟨w27.heap.size, 0, none⟩), .int .u64 n25] (w27.alloc (.cells #[.slice none 0 0] 35)) (Rv fun v35 w36 =>
    v35 = .tuple #[] ∧ Calls Try.prog 30 #[.pointer (some ⟨w27.heap.size, 0, none⟩)] w36 (Rv fun v37 w38 => ∃ s39 : ByteArray, v37 = .string s39 ∧
    Calls Try.prog 36 #[.pointer p22] w38 (Rv fun v40 w41 => ∃ n42 : Int, v40 = .int .i64 n42 ∧
    br (decide ((s39.size : Int) = (IntKind.i64.wrap ((x_0.size : Int) - n42)))) (0 ≤ (0 : Int) ∧ (0 : Int) ≤ min (s39.size : Int) (x_0.size : Int) ∧
    min (s39.size : Int) (x_0.size : Int) ≤ (x_0.size : Int) ∧
    br (s39.toList == (x_0.extract (Int.toNat (0 : Int)) (Int.toNat (min (s39.size : Int) (x_0.size : Int)))).toList) (Calls Try.prog 28 #[] w41 (Rv fun v43 w44 =>
    ∃ b45 : Bool, v43 = .bool b45 ∧ R (.bool b45) w44)) (R (.bool false) w41)) (R (.bool false) w41)))))))))))))))))
theorem B9_eq : @B9 = fun (x_0 : ByteArray) (x1_0 : Int) (x1_1 : Int) (x1_2 : Int) (x1_3 : ByteArray) (w : World) (R : Value → World → Prop) => trF Try.prog G (lk []) Try.f9 [.string x_0, .agg #[.int .i64 x1_0, .int .u64 x1_1, .int .i64 x1_2, .string x1_3]] w R := by kernel_rfl
theorem c9 (x_0 : ByteArray) (x1_0 : Int) (x1_1 : Int) (x1_2 : Int) (x1_3 : ByteArray) (w : World) (R : Value → World → Prop) (h : B9 x_0 x1_0 x1_1 x1_2 x1_3 w R) : Calls Try.prog 9 #[.string x_0, .agg #[.int .i64 x1_0, .int .u64 x1_1, .int .i64 x1_2, .string x1_3]] w (Rv R) := calls_of_tr (L := lk []) Try.func9 hG hM (by rw [B9_eq] at h; exact h)

/-- locution/locutionlaw10.long -/
def B27 (x_0 : Slc) (w : World) (R : Value → World → Prop) : Prop :=
  ∃ (I1 : Int → World → Prop) (μ2 : Int → World → Nat), I1 (0 : Int) w ∧ ∀ x3 : Int, ∀ w4 : World, I1 x3 w4 →
    br (decide (x3 < (x_0.len : Int))) (br (decide (x3 < (40 : Int))) (0 ≤ x3 ∧ x3 < (x_0.len : Int) ∧ ∃ a5, x_0.a = some a5 ∧
    ∃ s6 : ByteArray, w4.cell? (Addr.add (Addr.add a5 (x3.toNat * 4)) 3) = some (.string s6) ∧
    br (decide ((300 : Int) < (s6.size : Int))) (R (.bool true) w4) (I1 (IntKind.i64.wrap (x3 + 1)) w4 ∧
    μ2 (IntKind.i64.wrap (x3 + 1)) w4 < μ2 x3 w4)) (R (.bool (decide ((40 : Int) < (x_0.len : Int)))) w4)) (R (.bool (decide ((40 : Int) < (x_0.len : Int)))) w4)
theorem B27_eq : @B27 = fun (x_0 : Slc) (w : World) (R : Value → World → Prop) => trF Try.prog G (lk [(2, [(3, .int .i64)])]) Try.f27 [.slice x_0.a x_0.len x_0.cap] w R := by kernel_rfl
theorem c27 (x_0 : Slc) (w : World) (R : Value → World → Prop) (h : B27 x_0 w R) : Calls Try.prog 27 #[.slice x_0.a x_0.len x_0.cap] w (Rv R) := calls_of_tr (L := lk [(2, [(3, .int .i64)])]) Try.func27 hG hM (by rw [B27_eq] at h; exact h)

/-- locution/locutionlaw10.live -/
def B28  (w : World) (R : Value → World → Prop) : Prop :=
  Calls Try.prog 41 #[.pointer (some ⟨w.heap.size, 0, none⟩), .int .u64 300] (w.alloc (.cells #[.slice none 0 0] 35)) (Rv fun v1 w2 => v1 = .tuple #[] ∧
    Calls Try.prog 63 #[.pointer (some ⟨w.heap.size, 0, none⟩), .int .i64 (-1)] w2 (Rv fun v3 w4 => v3 = .tuple #[] ∧
    Calls Try.prog 64 #[.pointer (some ⟨w.heap.size, 0, none⟩), .string (⟨#[97, 98]⟩ : ByteArray)] w4 (Rv fun v5 w6 => v5 = .tuple #[] ∧
    Calls Try.prog 30 #[.pointer (some ⟨w.heap.size, 0, none⟩)] w6 (Rv fun v7 w8 => ∃ s9 : ByteArray, v7 = .string s9 ∧ Calls Try.prog 31 #[.string s9] w8 (Rv fun v10 w11 =>
    ∃ p12 : Option Addr, v10 = .pointer p12 ∧ Calls Try.prog 30 #[.pointer (some ⟨w.heap.size, 0, none⟩)] w11 (Rv fun v13 w14 => ∃ s15 : ByteArray, v13 = .string s15 ∧
    br (s15.toList == (⟨#[172, 2, 1, 2, 97, 98]⟩ : ByteArray).toList) (Calls Try.prog 32 #[.pointer p12] w14 (Rv fun v16 w17 => ∃ n18 : Int, v16 = .int .u64 n18 ∧
    br (decide (n18 = (300 : Int))) (Calls Try.prog 33 #[.pointer p12] w17 (Rv fun v19 w20 => ∃ n21 : Int, v19 = .int .i64 n21 ∧
    br (decide (n21 = (-1))) (Calls Try.prog 34 #[.pointer p12, .int .i64 2] w20 (Rv fun v22 w23 => ∃ s24 : ByteArray, v22 = .string s24 ∧
    br (s24.toList == (⟨#[97, 98]⟩ : ByteArray).toList) (Calls Try.prog 39 #[.pointer p12] w23 (Rv fun v25 w26 => ∃ n27 : Int, v25 = .int .i64 n27 ∧
    R (.bool (decide (n27 = (0 : Int)))) w26)) (R (.bool false) w23))) (R (.bool false) w20))) (R (.bool false) w17))) (R (.bool false) w14)))))))
theorem B28_eq : @B28 = fun (w : World) (R : Value → World → Prop) => trF Try.prog G (lk []) Try.f28 [] w R := by kernel_rfl
theorem c28  (w : World) (R : Value → World → Prop) (h : B28  w R) : Calls Try.prog 28 #[] w (Rv R) := calls_of_tr (L := lk []) Try.func28 hG hM (by rw [B28_eq] at h; exact h)

/-- locution/locutionlaw10.write -/
def B29 (a_0 : Addr) (x1_0 : Int) (x1_1 : Int) (x1_2 : Int) (x1_3 : ByteArray) (w : World) (R : Value → World → Prop) : Prop :=
  
    ∃ n1 : Int, (w.alloc (.cells #[.int .i64 x1_0, .int .u64 x1_1, .int .i64 x1_2, .string x1_3] 38)).cell? (Addr.add ⟨w.heap.size, 0, none⟩ 0) = some (.int .i64 n1) ∧
    br (decide (n1 = (0 : Int))) (∃ n2 : Int, (w.alloc (.cells #[.int .i64 x1_0, .int .u64 x1_1, .int .i64 x1_2, .string x1_3] 38)).cell? (Addr.add ⟨w.heap.size, 0, none⟩ 1) = some (.int .u64 n2) ∧
    Calls Try.prog 41 #[.pointer (some a_0), .int .u64 n2] (w.alloc (.cells #[.int .i64 x1_0, .int .u64 x1_1, .int .i64 x1_2, .string x1_3] 38)) (Rv fun v3 w4 =>
    v3 = .tuple #[] ∧ ∃ n5 : Int, w4.cell? (Addr.add ⟨w.heap.size, 0, none⟩ 1) = some (.int .u64 n5) ∧ Calls Try.prog 65 #[.int .u64 n5] w4 (Rv fun v6 w7 =>
    ∃ s8 : ByteArray, v6 = .string s8 ∧
    R (.string s8) w7))) (br (decide (n1 = (1 : Int))) (∃ n9 : Int, (w.alloc (.cells #[.int .i64 x1_0, .int .u64 x1_1, .int .i64 x1_2, .string x1_3] 38)).cell? (Addr.add ⟨w.heap.size, 0, none⟩ 2) = some (.int .i64 n9) ∧
    Calls Try.prog 63 #[.pointer (some a_0), .int .i64 n9] (w.alloc (.cells #[.int .i64 x1_0, .int .u64 x1_1, .int .i64 x1_2, .string x1_3] 38)) (Rv fun v10 w11 =>
    v10 = .tuple #[] ∧ ∃ n12 : Int, w11.cell? (Addr.add ⟨w.heap.size, 0, none⟩ 2) = some (.int .i64 n12) ∧ Calls Try.prog 66 #[.int .i64 n12] w11 (Rv fun v13 w14 =>
    ∃ s15 : ByteArray, v13 = .string s15 ∧
    R (.string s15) w14))) (br (decide (n1 = (2 : Int))) (∃ s16 : ByteArray, (w.alloc (.cells #[.int .i64 x1_0, .int .u64 x1_1, .int .i64 x1_2, .string x1_3] 38)).cell? (Addr.add ⟨w.heap.size, 0, none⟩ 3) = some (.string s16) ∧
    Calls Try.prog 64 #[.pointer (some a_0), .string s16] (w.alloc (.cells #[.int .i64 x1_0, .int .u64 x1_1, .int .i64 x1_2, .string x1_3] 38)) (Rv fun v17 w18 =>
    v17 = .tuple #[] ∧ ∃ s19 : ByteArray, w18.cell? (Addr.add ⟨w.heap.size, 0, none⟩ 3) = some (.string s19) ∧ Calls Try.prog 67 #[.string s19] w18 (Rv fun v20 w21 =>
    ∃ s22 : ByteArray, v20 = .string s22 ∧
    R (.string s22) w21))) (br (decide (n1 = (3 : Int))) (∃ s23 : ByteArray, (w.alloc (.cells #[.int .i64 x1_0, .int .u64 x1_1, .int .i64 x1_2, .string x1_3] 38)).cell? (Addr.add ⟨w.heap.size, 0, none⟩ 3) = some (.string s23) ∧
    Calls Try.prog 68 #[.pointer (some a_0), .string s23] (w.alloc (.cells #[.int .i64 x1_0, .int .u64 x1_1, .int .i64 x1_2, .string x1_3] 38)) (Rv fun v24 w25 =>
    v24 = .tuple #[] ∧ ∃ s26 : ByteArray, w25.cell? (Addr.add ⟨w.heap.size, 0, none⟩ 3) = some (.string s26) ∧
    R (.string s26) w25)) (R (.string (⟨#[]⟩ : ByteArray)) (w.alloc (.cells #[.int .i64 x1_0, .int .u64 x1_1, .int .i64 x1_2, .string x1_3] 38))))))
theorem B29_eq : @B29 = fun (a_0 : Addr) (x1_0 : Int) (x1_1 : Int) (x1_2 : Int) (x1_3 : ByteArray) (w : World) (R : Value → World → Prop) => trF Try.prog G (lk []) Try.f29 [.pointer (some a_0), .agg #[.int .i64 x1_0, .int .u64 x1_1, .int .i64 x1_2, .string x1_3]] w R := by kernel_rfl
theorem c29 (a_0 : Addr) (x1_0 : Int) (x1_1 : Int) (x1_2 : Int) (x1_3 : ByteArray) (w : World) (R : Value → World → Prop) (h : B29 a_0 x1_0 x1_1 x1_2 x1_3 w R) : Calls Try.prog 29 #[.pointer (some a_0), .agg #[.int .i64 x1_0, .int .u64 x1_1, .int .i64 x1_2, .string x1_3]] w (Rv R) := calls_of_tr (L := lk []) Try.func29 hG hM (by rw [B29_eq] at h; exact h)

/-- locution/locutionlaw10.read -/
def B38 (a_0 : Addr) (a_1 : Addr) (x2_0 : Int) (x2_1 : Int) (x2_2 : Int) (x2_3 : ByteArray) (w : World) (R : Value → World → Prop) : Prop :=
  
    ∃ n1 : Int, (w.alloc (.cells #[.int .i64 x2_0, .int .u64 x2_1, .int .i64 x2_2, .string x2_3] 38)).cell? (Addr.add ⟨w.heap.size, 0, none⟩ 0) = some (.int .i64 n1) ∧
    br (decide (n1 = (0 : Int))) (Calls Try.prog 32 #[.pointer (some a_0)] (w.alloc (.cells #[.int .i64 x2_0, .int .u64 x2_1, .int .i64 x2_2, .string x2_3] 38)) (Rv fun v2 w3 =>
    ∃ n4 : Int, v2 = .int .u64 n4 ∧ Calls Try.prog 74 #[.pointer (some a_1)] w3 (Rv fun v5 w6 => ∃ n7 : Int, v5 = .int .u64 n7 ∧
    R (.bool (decide (n4 = n7))) w6))) (br (decide (n1 = (1 : Int))) (Calls Try.prog 33 #[.pointer (some a_0)] (w.alloc (.cells #[.int .i64 x2_0, .int .u64 x2_1, .int .i64 x2_2, .string x2_3] 38)) (Rv fun v8 w9 =>
    ∃ n10 : Int, v8 = .int .i64 n10 ∧ Calls Try.prog 75 #[.pointer (some a_1)] w9 (Rv fun v11 w12 => ∃ n13 : Int, v11 = .int .i64 n13 ∧
    R (.bool (decide (n10 = n13))) w12))) (br (decide (n1 = (2 : Int))) (∃ n14 : Int, (World.drew (w.alloc (.cells #[.int .i64 x2_0, .int .u64 x2_1, .int .i64 x2_2, .string x2_3] 38))).cell? (Addr.add ⟨w.heap.size, 0, none⟩ 2) = some (.int .i64 n14) ∧
    ∃ n15 : Int, (World.drew (w.alloc (.cells #[.int .i64 x2_0, .int .u64 x2_1, .int .i64 x2_2, .string x2_3] 38))).cell? (Addr.add ⟨w.heap.size, 0, none⟩ 2) = some (.int .i64 n15) ∧
    Calls Try.prog 34 #[.pointer (some a_0), .int .i64 n14] (World.drew (w.alloc (.cells #[.int .i64 x2_0, .int .u64 x2_1, .int .i64 x2_2, .string x2_3] 38))) (Rv fun v16 w17 =>
    ∃ s18 : ByteArray, v16 = .string s18 ∧ w17.cell? (Addr.add ⟨w.heap.size, 0, none⟩ 2) = some (.int .i64 n15) ∧
    Calls Try.prog 76 #[.pointer (some a_1), .int .i64 n15] w17 (Rv fun v19 w20 => ∃ s21 : ByteArray, v19 = .string s21 ∧
    R (.bool (s18.toList == s21.toList)) w20))) (br (decide (n1 = (3 : Int))) (∃ n22 : Int, (World.drew (w.alloc (.cells #[.int .i64 x2_0, .int .u64 x2_1, .int .i64 x2_2, .string x2_3] 38))).cell? (Addr.add ⟨w.heap.size, 0, none⟩ 2) = some (.int .i64 n22) ∧
    ∃ n23 : Int, (World.drew (w.alloc (.cells #[.int .i64 x2_0, .int .u64 x2_1, .int .i64 x2_2, .string x2_3] 38))).cell? (Addr.add ⟨w.heap.size, 0, none⟩ 2) = some (.int .i64 n23) ∧
    Calls Try.prog 35 #[.pointer (some a_0), .int .i64 n22] (World.drew (w.alloc (.cells #[.int .i64 x2_0, .int .u64 x2_1, .int .i64 x2_2, .string x2_3] 38))) (Rv fun v24 w25 =>
    ∃ s26 : ByteArray, v24 = .string s26 ∧ w25.cell? (Addr.add ⟨w.heap.size, 0, none⟩ 2) = some (.int .i64 n23) ∧
    Calls Try.prog 77 #[.pointer (some a_1), .int .i64 n23] w25 (Rv fun v27 w28 => ∃ s29 : ByteArray, v27 = .string s29 ∧
    R (.bool (s26.toList == s29.toList)) w28))) (br (decide (n1 = (4 : Int))) (∃ n30 : Int, (World.drew (w.alloc (.cells #[.int .i64 x2_0, .int .u64 x2_1, .int .i64 x2_2, .string x2_3] 38))).cell? (Addr.add ⟨w.heap.size, 0, none⟩ 2) = some (.int .i64 n30) ∧
    ∃ n31 : Int, (World.drew (w.alloc (.cells #[.int .i64 x2_0, .int .u64 x2_1, .int .i64 x2_2, .string x2_3] 38))).cell? (Addr.add ⟨w.heap.size, 0, none⟩ 2) = some (.int .i64 n31) ∧
    Calls Try.prog 78 #[.pointer (some a_0), .int .i64 n30] (World.drew (w.alloc (.cells #[.int .i64 x2_0, .int .u64 x2_1, .int .i64 x2_2, .string x2_3] 38))) (Rv fun v32 w33 =>
    ∃ n34 : Int, v32 = .int .i64 n34 ∧ w33.cell? (Addr.add ⟨w.heap.size, 0, none⟩ 2) = some (.int .i64 n31) ∧
    Calls Try.prog 79 #[.pointer (some a_1), .int .i64 n31] w33 (Rv fun v35 w36 => ∃ n37 : Int, v35 = .int .i64 n37 ∧
    R (.bool (decide (n34 = n37))) w36))) (∃ n38 : Int, (w.alloc (.cells #[.int .i64 x2_0, .int .u64 x2_1, .int .i64 x2_2, .string x2_3] 38)).cell? (Addr.add ⟨w.heap.size, 0, none⟩ 2) = some (.int .i64 n38) ∧
    br (decide ((1 : Int) ≤ n38)) (∃ n39 : Int, (w.alloc (.cells #[.int .i64 x2_0, .int .u64 x2_1, .int .i64 x2_2, .string x2_3] 38)).cell? (Addr.add ⟨w.heap.size, 0, none⟩ 2) = some (.int .i64 n39) ∧
    br (decide (n39 ≤ (12 : Int))) (∃ n40 : Int, (w.alloc (.cells #[.int .i64 x2_0, .int .u64 x2_1, .int .i64 x2_2, .string x2_3] 38)).cell? (Addr.add ⟨w.heap.size, 0, none⟩ 2) = some (.int .i64 n40) ∧
    Calls Try.prog 80 #[.pointer (some a_0), .int .i64 n40] (w.alloc (.cells #[.int .i64 x2_0, .int .u64 x2_1, .int .i64 x2_2, .string x2_3] 38)) (Rv fun v41 w42 =>
    v41 = .tuple #[] ∧ ∃ n43 : Int, w42.cell? (Addr.add a_1 1) = some (.int .i64 n43) ∧
    br (decide (n43 = (0 : Int))) (∃ n44 : Int, w42.cell? (Addr.add ⟨w.heap.size, 0, none⟩ 2) = some (.int .i64 n44) ∧ (∃ u, w42.cell? (Addr.add a_1 1) = some u) ∧
    w42.frozen? (Addr.add a_1 1) = false ∧
    R (.bool true) (w42.setCell (Addr.add a_1 1) (.int .i64 n44))) (R (.bool true) w42))) (R (.bool true) (w.alloc (.cells #[.int .i64 x2_0, .int .u64 x2_1, .int .i64 x2_2, .string x2_3] 38)))) (R (.bool true) (w.alloc (.cells #[.int .i64 x2_0, .int .u64 x2_1, .int .i64 x2_2, .string x2_3] 38))))))))
theorem B38_eq : @B38 = fun (a_0 : Addr) (a_1 : Addr) (x2_0 : Int) (x2_1 : Int) (x2_2 : Int) (x2_3 : ByteArray) (w : World) (R : Value → World → Prop) => trF Try.prog G (lk []) Try.f38 [.pointer (some a_0), .pointer (some a_1), .agg #[.int .i64 x2_0, .int .u64 x2_1, .int .i64 x2_2, .string x2_3]] w R := by kernel_rfl
theorem c38 (a_0 : Addr) (a_1 : Addr) (x2_0 : Int) (x2_1 : Int) (x2_2 : Int) (x2_3 : ByteArray) (w : World) (R : Value → World → Prop) (h : B38 a_0 a_1 x2_0 x2_1 x2_2 x2_3 w R) : Calls Try.prog 38 #[.pointer (some a_0), .pointer (some a_1), .agg #[.int .i64 x2_0, .int .u64 x2_1, .int .i64 x2_2, .string x2_3]] w (Rv R) := calls_of_tr (L := lk []) Try.func38 hG hM (by rw [B38_eq] at h; exact h)

/-- (*locution/wire.Writer).Num -/
def B41n (x_1 : Int) (w : World) (R : Value → World → Prop) : Prop :=
  R (.tuple #[]) w
theorem B41n_eq : @B41n = fun (x_1 : Int) (w : World) (R : Value → World → Prop) => trF Try.prog G (lk []) Try.f41 [.pointer none, .int .u64 x_1] w R := by kernel_rfl
theorem c41n (x_1 : Int) (w : World) (R : Value → World → Prop) (h : B41n x_1 w R) : Calls Try.prog 41 #[.pointer none, .int .u64 x_1] w (Rv R) := calls_of_tr (L := lk []) Try.func41 hG hM (by rw [B41n_eq] at h; exact h)

/-- (*locution/wire.Writer).Int -/
def B63n (x_1 : Int) (w : World) (R : Value → World → Prop) : Prop :=
  0 ≤ (1 : Int) ∧ 0 ≤ (63 : Int) ∧
    Calls Try.prog 41 #[.pointer none, .int .u64 (bXor .u64 (shL .u64 (IntKind.u64.wrap x_1) 1) (IntKind.u64.wrap (shR .i64 x_1 63)))] w (Rv fun v1 w2 =>
    v1 = .tuple #[] ∧ R (.tuple #[]) w2)
theorem B63n_eq : @B63n = fun (x_1 : Int) (w : World) (R : Value → World → Prop) => trF Try.prog G (lk []) Try.f63 [.pointer none, .int .i64 x_1] w R := by kernel_rfl
theorem c63n (x_1 : Int) (w : World) (R : Value → World → Prop) (h : B63n x_1 w R) : Calls Try.prog 63 #[.pointer none, .int .i64 x_1] w (Rv R) := calls_of_tr (L := lk []) Try.func63 hG hM (by rw [B63n_eq] at h; exact h)

/-- (*locution/wire.Writer).Text -/
def B64n (x_1 : ByteArray) (w : World) (R : Value → World → Prop) : Prop :=
  Calls Try.prog 41 #[.pointer none, .int .u64 (IntKind.u64.wrap (x_1.size : Int))] w (Rv fun v1 w2 => v1 = .tuple #[] ∧
    Calls Try.prog 68 #[.pointer none, .string x_1] w2 (Rv fun v3 w4 => v3 = .tuple #[] ∧ R (.tuple #[]) w4))
theorem B64n_eq : @B64n = fun (x_1 : ByteArray) (w : World) (R : Value → World → Prop) => trF Try.prog G (lk []) Try.f64 [.pointer none, .string x_1] w R := by kernel_rfl
theorem c64n (x_1 : ByteArray) (w : World) (R : Value → World → Prop) (h : B64n x_1 w R) : Calls Try.prog 64 #[.pointer none, .string x_1] w (Rv R) := calls_of_tr (L := lk []) Try.func64 hG hM (by rw [B64n_eq] at h; exact h)

/-- (*locution/wire.Writer).Raw -/
def B68n (x_1 : ByteArray) (w : World) (R : Value → World → Prop) : Prop :=
  R (.tuple #[]) w
theorem B68n_eq : @B68n = fun (x_1 : ByteArray) (w : World) (R : Value → World → Prop) => trF Try.prog G (lk []) Try.f68 [.pointer none, .string x_1] w R := by kernel_rfl
theorem c68n (x_1 : ByteArray) (w : World) (R : Value → World → Prop) (h : B68n x_1 w R) : Calls Try.prog 68 #[.pointer none, .string x_1] w (Rv R) := calls_of_tr (L := lk []) Try.func68 hG hM (by rw [B68n_eq] at h; exact h)

/-- (*locution/wire.Writer).Bytes -/
def B30n  (w : World) (R : Value → World → Prop) : Prop :=
  R (.string (⟨#[]⟩ : ByteArray)) w
theorem B30n_eq : @B30n = fun (w : World) (R : Value → World → Prop) => trF Try.prog G (lk []) Try.f30 [.pointer none] w R := by kernel_rfl
theorem c30n  (w : World) (R : Value → World → Prop) (h : B30n  w R) : Calls Try.prog 30 #[.pointer none] w (Rv R) := calls_of_tr (L := lk []) Try.func30 hG hM (by rw [B30n_eq] at h; exact h)

/-- (*locution/wire.Reader).step -/
def B69n (x_1 : Value) (w : World) (R : Value → World → Prop) : Prop :=
  R (.bool false) w
theorem B69n_eq : @B69n = fun (x_1 : Value) (w : World) (R : Value → World → Prop) => trF Try.prog G (lk []) Try.f69 [.pointer none, x_1] w R := by kernel_rfl
theorem c69n (x_1 : Value) (w : World) (R : Value → World → Prop) (h : B69n x_1 w R) : Calls Try.prog 69 #[.pointer none, x_1] w (Rv R) := calls_of_tr (L := lk []) Try.func69 hG hM (by rw [B69n_eq] at h; exact h)

/-- (*locution/wire.Reader).Num -/
def B32n  (w : World) (R : Value → World → Prop) : Prop :=
  Calls Try.prog 69 #[.pointer none, .func (.func 70) #[] #[.pointer (some ⟨w.heap.size, 0, none⟩)]] (w.alloc (.cells #[.int .u64 0] 22)) (Rv fun v1 w2 =>
    ∃ b3 : Bool, v1 = .bool b3 ∧ br b3 (∃ n4 : Int, w2.cell? ⟨w.heap.size, 0, none⟩ = some (.int .u64 n4) ∧ R (.int .u64 n4) w2) (R (.int .u64 0) w2))
theorem B32n_eq : @B32n = fun (w : World) (R : Value → World → Prop) => trF Try.prog G (lk []) Try.f32 [.pointer none] w R := by kernel_rfl
theorem c32n  (w : World) (R : Value → World → Prop) (h : B32n  w R) : Calls Try.prog 32 #[.pointer none] w (Rv R) := calls_of_tr (L := lk []) Try.func32 hG hM (by rw [B32n_eq] at h; exact h)

/-- (*locution/wire.Reader).Int -/
def B33n  (w : World) (R : Value → World → Prop) : Prop :=
  Calls Try.prog 32 #[.pointer none] w (Rv fun v1 w2 => ∃ n3 : Int, v1 = .int .u64 n3 ∧ 0 ≤ (1 : Int) ∧
    R (.int .i64 (bXor .i64 (IntKind.i64.wrap (shR .u64 n3 1)) (IntKind.i64.wrap (0 - (IntKind.i64.wrap (bAnd .u64 n3 1)))))) w2)
theorem B33n_eq : @B33n = fun (w : World) (R : Value → World → Prop) => trF Try.prog G (lk []) Try.f33 [.pointer none] w R := by kernel_rfl
theorem c33n  (w : World) (R : Value → World → Prop) (h : B33n  w R) : Calls Try.prog 33 #[.pointer none] w (Rv R) := calls_of_tr (L := lk []) Try.func33 hG hM (by rw [B33n_eq] at h; exact h)

/-- (*locution/wire.Reader).Text -/
def B34n (x_1 : Int) (w : World) (R : Value → World → Prop) : Prop :=
  
    (∃ u, ((w.alloc (.cells #[.int .i64 x_1] 3)).alloc (.cells #[.string ByteArray.empty] 9)).cell? ⟨(w.alloc (.cells #[.int .i64 x_1] 3)).heap.size, 0, none⟩ = some u) ∧
    ((w.alloc (.cells #[.int .i64 x_1] 3)).alloc (.cells #[.string ByteArray.empty] 9)).frozen? ⟨(w.alloc (.cells #[.int .i64 x_1] 3)).heap.size, 0, none⟩ = false ∧
    Calls Try.prog 69 #[.pointer none, .func (.func 72) #[] #[.pointer (some ⟨w.heap.size, 0, none⟩), .pointer (some ⟨(w.alloc (.cells #[.int .i64 x_1] 3)).heap.size, 0, none⟩)]] (((w.alloc (.cells #[.int .i64 x_1] 3)).alloc (.cells #[.string ByteArray.empty] 9)).setCell ⟨(w.alloc (.cells #[.int .i64 x_1] 3)).heap.size, 0, none⟩ (.string (⟨#[]⟩ : ByteArray))) (Rv fun v1 w2 =>
    ∃ b3 : Bool, v1 = .bool b3 ∧ ∃ s4 : ByteArray, w2.cell? ⟨(w.alloc (.cells #[.int .i64 x_1] 3)).heap.size, 0, none⟩ = some (.string s4) ∧ R (.string s4) w2)
theorem B34n_eq : @B34n = fun (x_1 : Int) (w : World) (R : Value → World → Prop) => trF Try.prog G (lk []) Try.f34 [.pointer none, .int .i64 x_1] w R := by kernel_rfl
theorem c34n (x_1 : Int) (w : World) (R : Value → World → Prop) (h : B34n x_1 w R) : Calls Try.prog 34 #[.pointer none, .int .i64 x_1] w (Rv R) := calls_of_tr (L := lk []) Try.func34 hG hM (by rw [B34n_eq] at h; exact h)

/-- (*locution/wire.Reader).Raw -/
def B35n (x_1 : Int) (w : World) (R : Value → World → Prop) : Prop :=
  
    (∃ u, ((w.alloc (.cells #[.int .i64 x_1] 3)).alloc (.cells #[.string ByteArray.empty] 9)).cell? ⟨(w.alloc (.cells #[.int .i64 x_1] 3)).heap.size, 0, none⟩ = some u) ∧
    ((w.alloc (.cells #[.int .i64 x_1] 3)).alloc (.cells #[.string ByteArray.empty] 9)).frozen? ⟨(w.alloc (.cells #[.int .i64 x_1] 3)).heap.size, 0, none⟩ = false ∧
    Calls Try.prog 69 #[.pointer none, .func (.func 73) #[] #[.pointer (some ⟨w.heap.size, 0, none⟩), .pointer (some ⟨(w.alloc (.cells #[.int .i64 x_1] 3)).heap.size, 0, none⟩)]] (((w.alloc (.cells #[.int .i64 x_1] 3)).alloc (.cells #[.string ByteArray.empty] 9)).setCell ⟨(w.alloc (.cells #[.int .i64 x_1] 3)).heap.size, 0, none⟩ (.string (⟨#[]⟩ : ByteArray))) (Rv fun v1 w2 =>
    ∃ b3 : Bool, v1 = .bool b3 ∧ ∃ s4 : ByteArray, w2.cell? ⟨(w.alloc (.cells #[.int .i64 x_1] 3)).heap.size, 0, none⟩ = some (.string s4) ∧ R (.string s4) w2)
theorem B35n_eq : @B35n = fun (x_1 : Int) (w : World) (R : Value → World → Prop) => trF Try.prog G (lk []) Try.f35 [.pointer none, .int .i64 x_1] w R := by kernel_rfl
theorem c35n (x_1 : Int) (w : World) (R : Value → World → Prop) (h : B35n x_1 w R) : Calls Try.prog 35 #[.pointer none, .int .i64 x_1] w (Rv R) := calls_of_tr (L := lk []) Try.func35 hG hM (by rw [B35n_eq] at h; exact h)

/-- (*locution/wire.Reader).Upto -/
def B78n (x_1 : Int) (w : World) (R : Value → World → Prop) : Prop :=
  (∃ u, ((w.alloc (.cells #[.int .i64 x_1] 3)).alloc (.cells #[.int .i64 0] 3)).cell? ⟨(w.alloc (.cells #[.int .i64 x_1] 3)).heap.size, 0, none⟩ = some u) ∧
    ((w.alloc (.cells #[.int .i64 x_1] 3)).alloc (.cells #[.int .i64 0] 3)).frozen? ⟨(w.alloc (.cells #[.int .i64 x_1] 3)).heap.size, 0, none⟩ = false ∧
    Calls Try.prog 69 #[.pointer none, .func (.func 89) #[] #[.pointer (some ⟨w.heap.size, 0, none⟩), .pointer (some ⟨(w.alloc (.cells #[.int .i64 x_1] 3)).heap.size, 0, none⟩)]] (((w.alloc (.cells #[.int .i64 x_1] 3)).alloc (.cells #[.int .i64 0] 3)).setCell ⟨(w.alloc (.cells #[.int .i64 x_1] 3)).heap.size, 0, none⟩ (.int .i64 0)) (Rv fun v1 w2 =>
    ∃ b3 : Bool, v1 = .bool b3 ∧ ∃ n4 : Int, w2.cell? ⟨(w.alloc (.cells #[.int .i64 x_1] 3)).heap.size, 0, none⟩ = some (.int .i64 n4) ∧ R (.int .i64 n4) w2)
theorem B78n_eq : @B78n = fun (x_1 : Int) (w : World) (R : Value → World → Prop) => trF Try.prog G (lk []) Try.f78 [.pointer none, .int .i64 x_1] w R := by kernel_rfl
theorem c78n (x_1 : Int) (w : World) (R : Value → World → Prop) (h : B78n x_1 w R) : Calls Try.prog 78 #[.pointer none, .int .i64 x_1] w (Rv R) := calls_of_tr (L := lk []) Try.func78 hG hM (by rw [B78n_eq] at h; exact h)

/-- (*locution/wire.Reader).Fail -/
def B80n (x_1 : Int) (w : World) (R : Value → World → Prop) : Prop :=
  Calls Try.prog 69 #[.pointer none, .func (.func 90) #[] #[.pointer (some ⟨w.heap.size, 0, none⟩)]] (w.alloc (.cells #[.int .i64 x_1] 45)) (Rv fun v1 w2 =>
    ∃ b3 : Bool, v1 = .bool b3 ∧ R (.tuple #[]) w2)
theorem B80n_eq : @B80n = fun (x_1 : Int) (w : World) (R : Value → World → Prop) => trF Try.prog G (lk []) Try.f80 [.pointer none, .int .i64 x_1] w R := by kernel_rfl
theorem c80n (x_1 : Int) (w : World) (R : Value → World → Prop) (h : B80n x_1 w R) : Calls Try.prog 80 #[.pointer none, .int .i64 x_1] w (Rv R) := calls_of_tr (L := lk []) Try.func80 hG hM (by rw [B80n_eq] at h; exact h)

/-- (*locution/wire.Reader).Left -/
def B36n  (w : World) (R : Value → World → Prop) : Prop :=
  R (.int .i64 0) w
theorem B36n_eq : @B36n = fun (w : World) (R : Value → World → Prop) => trF Try.prog G (lk []) Try.f36 [.pointer none] w R := by kernel_rfl
theorem c36n  (w : World) (R : Value → World → Prop) (h : B36n  w R) : Calls Try.prog 36 #[.pointer none] w (Rv R) := calls_of_tr (L := lk []) Try.func36 hG hM (by rw [B36n_eq] at h; exact h)

/-- (*locution/wire.Reader).Err -/
def B37n  (w : World) (R : Value → World → Prop) : Prop :=
  R (.int .i64 11) w
theorem B37n_eq : @B37n = fun (w : World) (R : Value → World → Prop) => trF Try.prog G (lk []) Try.f37 [.pointer none] w R := by kernel_rfl
theorem c37n  (w : World) (R : Value → World → Prop) (h : B37n  w R) : Calls Try.prog 37 #[.pointer none] w (Rv R) := calls_of_tr (L := lk []) Try.func37 hG hM (by rw [B37n_eq] at h; exact h)

/-- (*locution/wire.Reader).End -/
def B39n  (w : World) (R : Value → World → Prop) : Prop :=
  Calls Try.prog 37 #[.pointer none] w (Rv fun v1 w2 => ∃ n3 : Int, v1 = .int .i64 n3 ∧
    br (decide (n3 = (0 : Int))) (Calls Try.prog 36 #[.pointer none] w2 (Rv fun v4 w5 => ∃ n6 : Int, v4 = .int .i64 n6 ∧
    br (decide ((0 : Int) < n6)) (R (.int .i64 3) w5) (Calls Try.prog 37 #[.pointer none] w5 (Rv fun v7 w8 => ∃ n9 : Int, v7 = .int .i64 n9 ∧
    R (.int .i64 n9) w8)))) (Calls Try.prog 37 #[.pointer none] w2 (Rv fun v10 w11 => ∃ n12 : Int, v10 = .int .i64 n12 ∧ R (.int .i64 n12) w11)))
theorem B39n_eq : @B39n = fun (w : World) (R : Value → World → Prop) => trF Try.prog G (lk []) Try.f39 [.pointer none] w R := by kernel_rfl
theorem c39n  (w : World) (R : Value → World → Prop) (h : B39n  w R) : Calls Try.prog 39 #[.pointer none] w (Rv R) := calls_of_tr (L := lk []) Try.func39 hG hM (by rw [B39n_eq] at h; exact h)

/-- locution/locutionlaw10.write -/
def B29n (x1_0 : Int) (x1_1 : Int) (x1_2 : Int) (x1_3 : ByteArray) (w : World) (R : Value → World → Prop) : Prop :=
  
    ∃ n1 : Int, (w.alloc (.cells #[.int .i64 x1_0, .int .u64 x1_1, .int .i64 x1_2, .string x1_3] 38)).cell? (Addr.add ⟨w.heap.size, 0, none⟩ 0) = some (.int .i64 n1) ∧
    br (decide (n1 = (0 : Int))) (∃ n2 : Int, (w.alloc (.cells #[.int .i64 x1_0, .int .u64 x1_1, .int .i64 x1_2, .string x1_3] 38)).cell? (Addr.add ⟨w.heap.size, 0, none⟩ 1) = some (.int .u64 n2) ∧
    Calls Try.prog 41 #[.pointer none, .int .u64 n2] (w.alloc (.cells #[.int .i64 x1_0, .int .u64 x1_1, .int .i64 x1_2, .string x1_3] 38)) (Rv fun v3 w4 =>
    v3 = .tuple #[] ∧ ∃ n5 : Int, w4.cell? (Addr.add ⟨w.heap.size, 0, none⟩ 1) = some (.int .u64 n5) ∧ Calls Try.prog 65 #[.int .u64 n5] w4 (Rv fun v6 w7 =>
    ∃ s8 : ByteArray, v6 = .string s8 ∧
    R (.string s8) w7))) (br (decide (n1 = (1 : Int))) (∃ n9 : Int, (w.alloc (.cells #[.int .i64 x1_0, .int .u64 x1_1, .int .i64 x1_2, .string x1_3] 38)).cell? (Addr.add ⟨w.heap.size, 0, none⟩ 2) = some (.int .i64 n9) ∧
    Calls Try.prog 63 #[.pointer none, .int .i64 n9] (w.alloc (.cells #[.int .i64 x1_0, .int .u64 x1_1, .int .i64 x1_2, .string x1_3] 38)) (Rv fun v10 w11 =>
    v10 = .tuple #[] ∧ ∃ n12 : Int, w11.cell? (Addr.add ⟨w.heap.size, 0, none⟩ 2) = some (.int .i64 n12) ∧ Calls Try.prog 66 #[.int .i64 n12] w11 (Rv fun v13 w14 =>
    ∃ s15 : ByteArray, v13 = .string s15 ∧
    R (.string s15) w14))) (br (decide (n1 = (2 : Int))) (∃ s16 : ByteArray, (w.alloc (.cells #[.int .i64 x1_0, .int .u64 x1_1, .int .i64 x1_2, .string x1_3] 38)).cell? (Addr.add ⟨w.heap.size, 0, none⟩ 3) = some (.string s16) ∧
    Calls Try.prog 64 #[.pointer none, .string s16] (w.alloc (.cells #[.int .i64 x1_0, .int .u64 x1_1, .int .i64 x1_2, .string x1_3] 38)) (Rv fun v17 w18 =>
    v17 = .tuple #[] ∧ ∃ s19 : ByteArray, w18.cell? (Addr.add ⟨w.heap.size, 0, none⟩ 3) = some (.string s19) ∧ Calls Try.prog 67 #[.string s19] w18 (Rv fun v20 w21 =>
    ∃ s22 : ByteArray, v20 = .string s22 ∧
    R (.string s22) w21))) (br (decide (n1 = (3 : Int))) (∃ s23 : ByteArray, (w.alloc (.cells #[.int .i64 x1_0, .int .u64 x1_1, .int .i64 x1_2, .string x1_3] 38)).cell? (Addr.add ⟨w.heap.size, 0, none⟩ 3) = some (.string s23) ∧
    Calls Try.prog 68 #[.pointer none, .string s23] (w.alloc (.cells #[.int .i64 x1_0, .int .u64 x1_1, .int .i64 x1_2, .string x1_3] 38)) (Rv fun v24 w25 =>
    v24 = .tuple #[] ∧ ∃ s26 : ByteArray, w25.cell? (Addr.add ⟨w.heap.size, 0, none⟩ 3) = some (.string s26) ∧
    R (.string s26) w25)) (R (.string (⟨#[]⟩ : ByteArray)) (w.alloc (.cells #[.int .i64 x1_0, .int .u64 x1_1, .int .i64 x1_2, .string x1_3] 38))))))
theorem B29n_eq : @B29n = fun (x1_0 : Int) (x1_1 : Int) (x1_2 : Int) (x1_3 : ByteArray) (w : World) (R : Value → World → Prop) => trF Try.prog G (lk []) Try.f29 [.pointer none, .agg #[.int .i64 x1_0, .int .u64 x1_1, .int .i64 x1_2, .string x1_3]] w R := by kernel_rfl
theorem c29n (x1_0 : Int) (x1_1 : Int) (x1_2 : Int) (x1_3 : ByteArray) (w : World) (R : Value → World → Prop) (h : B29n x1_0 x1_1 x1_2 x1_3 w R) : Calls Try.prog 29 #[.pointer none, .agg #[.int .i64 x1_0, .int .u64 x1_1, .int .i64 x1_2, .string x1_3]] w (Rv R) := calls_of_tr (L := lk []) Try.func29 hG hM (by rw [B29n_eq] at h; exact h)

/-- locution/locutionlaw10.read -/
def B38n (a_1 : Addr) (x2_0 : Int) (x2_1 : Int) (x2_2 : Int) (x2_3 : ByteArray) (w : World) (R : Value → World → Prop) : Prop :=
  
    ∃ n1 : Int, (w.alloc (.cells #[.int .i64 x2_0, .int .u64 x2_1, .int .i64 x2_2, .string x2_3] 38)).cell? (Addr.add ⟨w.heap.size, 0, none⟩ 0) = some (.int .i64 n1) ∧
    br (decide (n1 = (0 : Int))) (Calls Try.prog 32 #[.pointer none] (w.alloc (.cells #[.int .i64 x2_0, .int .u64 x2_1, .int .i64 x2_2, .string x2_3] 38)) (Rv fun v2 w3 =>
    ∃ n4 : Int, v2 = .int .u64 n4 ∧ Calls Try.prog 74 #[.pointer (some a_1)] w3 (Rv fun v5 w6 => ∃ n7 : Int, v5 = .int .u64 n7 ∧
    R (.bool (decide (n4 = n7))) w6))) (br (decide (n1 = (1 : Int))) (Calls Try.prog 33 #[.pointer none] (w.alloc (.cells #[.int .i64 x2_0, .int .u64 x2_1, .int .i64 x2_2, .string x2_3] 38)) (Rv fun v8 w9 =>
    ∃ n10 : Int, v8 = .int .i64 n10 ∧ Calls Try.prog 75 #[.pointer (some a_1)] w9 (Rv fun v11 w12 => ∃ n13 : Int, v11 = .int .i64 n13 ∧
    R (.bool (decide (n10 = n13))) w12))) (br (decide (n1 = (2 : Int))) (∃ n14 : Int, (World.drew (w.alloc (.cells #[.int .i64 x2_0, .int .u64 x2_1, .int .i64 x2_2, .string x2_3] 38))).cell? (Addr.add ⟨w.heap.size, 0, none⟩ 2) = some (.int .i64 n14) ∧
    ∃ n15 : Int, (World.drew (w.alloc (.cells #[.int .i64 x2_0, .int .u64 x2_1, .int .i64 x2_2, .string x2_3] 38))).cell? (Addr.add ⟨w.heap.size, 0, none⟩ 2) = some (.int .i64 n15) ∧
    Calls Try.prog 34 #[.pointer none, .int .i64 n14] (World.drew (w.alloc (.cells #[.int .i64 x2_0, .int .u64 x2_1, .int .i64 x2_2, .string x2_3] 38))) (Rv fun v16 w17 =>
    ∃ s18 : ByteArray, v16 = .string s18 ∧ w17.cell? (Addr.add ⟨w.heap.size, 0, none⟩ 2) = some (.int .i64 n15) ∧
    Calls Try.prog 76 #[.pointer (some a_1), .int .i64 n15] w17 (Rv fun v19 w20 => ∃ s21 : ByteArray, v19 = .string s21 ∧
    R (.bool (s18.toList == s21.toList)) w20))) (br (decide (n1 = (3 : Int))) (∃ n22 : Int, (World.drew (w.alloc (.cells #[.int .i64 x2_0, .int .u64 x2_1, .int .i64 x2_2, .string x2_3] 38))).cell? (Addr.add ⟨w.heap.size, 0, none⟩ 2) = some (.int .i64 n22) ∧
    ∃ n23 : Int, (World.drew (w.alloc (.cells #[.int .i64 x2_0, .int .u64 x2_1, .int .i64 x2_2, .string x2_3] 38))).cell? (Addr.add ⟨w.heap.size, 0, none⟩ 2) = some (.int .i64 n23) ∧
    Calls Try.prog 35 #[.pointer none, .int .i64 n22] (World.drew (w.alloc (.cells #[.int .i64 x2_0, .int .u64 x2_1, .int .i64 x2_2, .string x2_3] 38))) (Rv fun v24 w25 =>
    ∃ s26 : ByteArray, v24 = .string s26 ∧ w25.cell? (Addr.add ⟨w.heap.size, 0, none⟩ 2) = some (.int .i64 n23) ∧
    Calls Try.prog 77 #[.pointer (some a_1), .int .i64 n23] w25 (Rv fun v27 w28 => ∃ s29 : ByteArray, v27 = .string s29 ∧
    R (.bool (s26.toList == s29.toList)) w28))) (br (decide (n1 = (4 : Int))) (∃ n30 : Int, (World.drew (w.alloc (.cells #[.int .i64 x2_0, .int .u64 x2_1, .int .i64 x2_2, .string x2_3] 38))).cell? (Addr.add ⟨w.heap.size, 0, none⟩ 2) = some (.int .i64 n30) ∧
    ∃ n31 : Int, (World.drew (w.alloc (.cells #[.int .i64 x2_0, .int .u64 x2_1, .int .i64 x2_2, .string x2_3] 38))).cell? (Addr.add ⟨w.heap.size, 0, none⟩ 2) = some (.int .i64 n31) ∧
    Calls Try.prog 78 #[.pointer none, .int .i64 n30] (World.drew (w.alloc (.cells #[.int .i64 x2_0, .int .u64 x2_1, .int .i64 x2_2, .string x2_3] 38))) (Rv fun v32 w33 =>
    ∃ n34 : Int, v32 = .int .i64 n34 ∧ w33.cell? (Addr.add ⟨w.heap.size, 0, none⟩ 2) = some (.int .i64 n31) ∧
    Calls Try.prog 79 #[.pointer (some a_1), .int .i64 n31] w33 (Rv fun v35 w36 => ∃ n37 : Int, v35 = .int .i64 n37 ∧
    R (.bool (decide (n34 = n37))) w36))) (∃ n38 : Int, (w.alloc (.cells #[.int .i64 x2_0, .int .u64 x2_1, .int .i64 x2_2, .string x2_3] 38)).cell? (Addr.add ⟨w.heap.size, 0, none⟩ 2) = some (.int .i64 n38) ∧
    br (decide ((1 : Int) ≤ n38)) (∃ n39 : Int, (w.alloc (.cells #[.int .i64 x2_0, .int .u64 x2_1, .int .i64 x2_2, .string x2_3] 38)).cell? (Addr.add ⟨w.heap.size, 0, none⟩ 2) = some (.int .i64 n39) ∧
    br (decide (n39 ≤ (12 : Int))) (∃ n40 : Int, (w.alloc (.cells #[.int .i64 x2_0, .int .u64 x2_1, .int .i64 x2_2, .string x2_3] 38)).cell? (Addr.add ⟨w.heap.size, 0, none⟩ 2) = some (.int .i64 n40) ∧
    Calls Try.prog 80 #[.pointer none, .int .i64 n40] (w.alloc (.cells #[.int .i64 x2_0, .int .u64 x2_1, .int .i64 x2_2, .string x2_3] 38)) (Rv fun v41 w42 =>
    v41 = .tuple #[] ∧ ∃ n43 : Int, w42.cell? (Addr.add a_1 1) = some (.int .i64 n43) ∧
    br (decide (n43 = (0 : Int))) (∃ n44 : Int, w42.cell? (Addr.add ⟨w.heap.size, 0, none⟩ 2) = some (.int .i64 n44) ∧ (∃ u, w42.cell? (Addr.add a_1 1) = some u) ∧
    w42.frozen? (Addr.add a_1 1) = false ∧
    R (.bool true) (w42.setCell (Addr.add a_1 1) (.int .i64 n44))) (R (.bool true) w42))) (R (.bool true) (w.alloc (.cells #[.int .i64 x2_0, .int .u64 x2_1, .int .i64 x2_2, .string x2_3] 38)))) (R (.bool true) (w.alloc (.cells #[.int .i64 x2_0, .int .u64 x2_1, .int .i64 x2_2, .string x2_3] 38))))))))
theorem B38n_eq : @B38n = fun (a_1 : Addr) (x2_0 : Int) (x2_1 : Int) (x2_2 : Int) (x2_3 : ByteArray) (w : World) (R : Value → World → Prop) => trF Try.prog G (lk []) Try.f38 [.pointer none, .pointer (some a_1), .agg #[.int .i64 x2_0, .int .u64 x2_1, .int .i64 x2_2, .string x2_3]] w R := by kernel_rfl
theorem c38n (a_1 : Addr) (x2_0 : Int) (x2_1 : Int) (x2_2 : Int) (x2_3 : ByteArray) (w : World) (R : Value → World → Prop) (h : B38n a_1 x2_0 x2_1 x2_2 x2_3 w R) : Calls Try.prog 38 #[.pointer none, .pointer (some a_1), .agg #[.int .i64 x2_0, .int .u64 x2_1, .int .i64 x2_2, .string x2_3]] w (Rv R) := calls_of_tr (L := lk []) Try.func38 hG hM (by rw [B38n_eq] at h; exact h)

end Go.Proofs.Ytlobkadfmgnlmaa.V
