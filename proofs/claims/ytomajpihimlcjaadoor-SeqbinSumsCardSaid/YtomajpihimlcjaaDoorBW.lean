/- The verification conditions of functions, printed by a program of this work (pr.py) and checked here by the kernel. -/
import Derived.Test.YtomajpihimlcjaaDoorBX
set_option maxRecDepth 100000
set_option linter.unusedVariables false
namespace Go.Proofs.YtomajpihimlcjaaDoor.V
open Go Go.VC

/-- (*locution/wire.Writer).Bytes -/
def B38 (a_0 : Addr) (w : World) (R : Value → World → Prop) : Prop :=
  ∃ l1 : Slc, w.cell? (Addr.add a_0 0) = some (.slice l1.a l1.len l1.cap) ∧
    ∃ w2 : World, ∃ s3 : ByteArray, (convert 60 9 (.slice l1.a l1.len l1.cap)).run Tryd.prog w = .ok (.string s3) w2 ∧ R (.string s3) w2
theorem B38_eq : @B38 = fun (a_0 : Addr) (w : World) (R : Value → World → Prop) => trF Tryd.prog G (lk []) Tryd.f38 [.pointer (some a_0)] w R := by kernel_rfl
theorem c38 (a_0 : Addr) (w : World) (R : Value → World → Prop) (h : B38 a_0 w R) : Calls Tryd.prog 38 #[.pointer (some a_0)] w (Rv R) := calls_of_tr (L := lk []) Tryd.func38 hG hM (by rw [B38_eq] at h; exact h)

/-- locution/wire.Open -/
def B40 (x_0 : ByteArray) (w : World) (R : Value → World → Prop) : Prop :=
  R (.pointer (some ⟨w.heap.size, 0, none⟩)) (w.alloc (.cells #[.string x_0, .int .i64 0, .int .i64 0] 133))
theorem B40_eq : @B40 = fun (x_0 : ByteArray) (w : World) (R : Value → World → Prop) => trF Tryd.prog G (lk []) Tryd.f40 [.string x_0] w R := by kernel_rfl
theorem c40 (x_0 : ByteArray) (w : World) (R : Value → World → Prop) (h : B40 x_0 w R) : Calls Tryd.prog 40 #[.string x_0] w (Rv R) := calls_of_tr (L := lk []) Tryd.func40 hG hM (by rw [B40_eq] at h; exact h)

/-- (*locution/wire.Reader).Left -/
def B46 (a_0 : Addr) (w : World) (R : Value → World → Prop) : Prop :=
  ∃ s1 : ByteArray, (World.drew w).cell? (Addr.add a_0 0) = some (.string s1) ∧ ∃ n2 : Int, (World.drew w).cell? (Addr.add a_0 1) = some (.int .i64 n2) ∧
    R (.int .i64 (IntKind.i64.wrap ((s1.size : Int) - n2))) (World.drew w)
theorem B46_eq : @B46 = fun (a_0 : Addr) (w : World) (R : Value → World → Prop) => trF Tryd.prog G (lk []) Tryd.f46 [.pointer (some a_0)] w R := by kernel_rfl
theorem c46 (a_0 : Addr) (w : World) (R : Value → World → Prop) (h : B46 a_0 w R) : Calls Tryd.prog 46 #[.pointer (some a_0)] w (Rv R) := calls_of_tr (L := lk []) Tryd.func46 hG hM (by rw [B46_eq] at h; exact h)

/-- (*locution/wire.Reader).Err -/
def B47 (a_0 : Addr) (w : World) (R : Value → World → Prop) : Prop :=
  ∃ n1 : Int, w.cell? (Addr.add a_0 2) = some (.int .i64 n1) ∧ R (.int .i64 n1) w
theorem B47_eq : @B47 = fun (a_0 : Addr) (w : World) (R : Value → World → Prop) => trF Tryd.prog G (lk []) Tryd.f47 [.pointer (some a_0)] w R := by kernel_rfl
theorem c47 (a_0 : Addr) (w : World) (R : Value → World → Prop) (h : B47 a_0 w R) : Calls Tryd.prog 47 #[.pointer (some a_0)] w (Rv R) := calls_of_tr (L := lk []) Tryd.func47 hG hM (by rw [B47_eq] at h; exact h)

/-- (*locution/wire.Writer).Num -/
def B108 (a_0 : Addr) (x_1 : Int) (w : World) (R : Value → World → Prop) : Prop :=
  ∃ (I1 : Int → World → Prop) (μ2 : Int → World → Nat), I1 x_1 w ∧ ∀ x3 : Int, ∀ w4 : World, I1 x3 w4 →
    br (decide ((128 : Int) ≤ x3)) (∃ l5 : Slc, w4.cell? (Addr.add a_0 0) = some (.slice l5.a l5.len l5.cap) ∧
    ∃ w6 : World, ∃ l7 : Slc, (Builtin.append_ #[60, 60] 60 #[.slice l5.a l5.len l5.cap, .slice (some ⟨w4.heap.size, 0, none⟩) 1 1]).run Tryd.prog (w4.alloc (.cells #[.int .u8 (bOr .u8 (IntKind.u8.wrap x3) 128)] 5)) = .ok (.slice l7.a l7.len l7.cap) w6 ∧
    (∃ u, w6.cell? (Addr.add a_0 0) = some u) ∧ w6.frozen? (Addr.add a_0 0) = false ∧ 0 ≤ (7 : Int) ∧
    I1 (shR .u64 x3 7) (w6.setCell (Addr.add a_0 0) (.slice l7.a l7.len l7.cap)) ∧
    μ2 (shR .u64 x3 7) (w6.setCell (Addr.add a_0 0) (.slice l7.a l7.len l7.cap)) < μ2 x3 w4) (∃ l8 : Slc, w4.cell? (Addr.add a_0 0) = some (.slice l8.a l8.len l8.cap) ∧
    ∃ w9 : World, ∃ l10 : Slc, (Builtin.append_ #[60, 60] 60 #[.slice l8.a l8.len l8.cap, .slice (some ⟨w4.heap.size, 0, none⟩) 1 1]).run Tryd.prog (w4.alloc (.cells #[.int .u8 (IntKind.u8.wrap x3)] 5)) = .ok (.slice l10.a l10.len l10.cap) w9 ∧
    (∃ u, w9.cell? (Addr.add a_0 0) = some u) ∧ w9.frozen? (Addr.add a_0 0) = false ∧ R (.tuple #[]) (w9.setCell (Addr.add a_0 0) (.slice l10.a l10.len l10.cap)))
theorem B108_eq : @B108 = fun (a_0 : Addr) (x_1 : Int) (w : World) (R : Value → World → Prop) => trF Tryd.prog G (lk [(1, [(1, .int .u64)])]) Tryd.f108 [.pointer (some a_0), .int .u64 x_1] w R := by kernel_rfl
theorem c108 (a_0 : Addr) (x_1 : Int) (w : World) (R : Value → World → Prop) (h : B108 a_0 x_1 w R) : Calls Tryd.prog 108 #[.pointer (some a_0), .int .u64 x_1] w (Rv R) := calls_of_tr (L := lk [(1, [(1, .int .u64)])]) Tryd.func108 hG hM (by rw [B108_eq] at h; exact h)

/-- (*locution/wire.Reader).Upto -/
def B112 (a_0 : Addr) (x_1 : Int) (w : World) (R : Value → World → Prop) : Prop :=
  (∃ u, ((w.alloc (.cells #[.int .i64 x_1] 3)).alloc (.cells #[.int .i64 0] 3)).cell? ⟨(w.alloc (.cells #[.int .i64 x_1] 3)).heap.size, 0, none⟩ = some u) ∧
    ((w.alloc (.cells #[.int .i64 x_1] 3)).alloc (.cells #[.int .i64 0] 3)).frozen? ⟨(w.alloc (.cells #[.int .i64 x_1] 3)).heap.size, 0, none⟩ = false ∧
    Calls Tryd.prog 139 #[.pointer (some a_0), .func (.func 140) #[] #[.pointer (some ⟨w.heap.size, 0, none⟩), .pointer (some ⟨(w.alloc (.cells #[.int .i64 x_1] 3)).heap.size, 0, none⟩)]] (((w.alloc (.cells #[.int .i64 x_1] 3)).alloc (.cells #[.int .i64 0] 3)).setCell ⟨(w.alloc (.cells #[.int .i64 x_1] 3)).heap.size, 0, none⟩ (.int .i64 0)) (Rv fun v1 w2 =>
    ∃ b3 : Bool, v1 = .bool b3 ∧ ∃ n4 : Int, w2.cell? ⟨(w.alloc (.cells #[.int .i64 x_1] 3)).heap.size, 0, none⟩ = some (.int .i64 n4) ∧ R (.int .i64 n4) w2)
theorem B112_eq : @B112 = fun (a_0 : Addr) (x_1 : Int) (w : World) (R : Value → World → Prop) => trF Tryd.prog G (lk []) Tryd.f112 [.pointer (some a_0), .int .i64 x_1] w R := by kernel_rfl
theorem c112 (a_0 : Addr) (x_1 : Int) (w : World) (R : Value → World → Prop) (h : B112 a_0 x_1 w R) : Calls Tryd.prog 112 #[.pointer (some a_0), .int .i64 x_1] w (Rv R) := calls_of_tr (L := lk []) Tryd.func112 hG hM (by rw [B112_eq] at h; exact h)

/-- (*locution/wire.Reader).Fail -/
def B114 (a_0 : Addr) (x_1 : Int) (w : World) (R : Value → World → Prop) : Prop :=
  Calls Tryd.prog 139 #[.pointer (some a_0), .func (.func 143) #[] #[.pointer (some ⟨w.heap.size, 0, none⟩)]] (w.alloc (.cells #[.int .i64 x_1] 41)) (Rv fun v1 w2 =>
    ∃ b3 : Bool, v1 = .bool b3 ∧ R (.tuple #[]) w2)
theorem B114_eq : @B114 = fun (a_0 : Addr) (x_1 : Int) (w : World) (R : Value → World → Prop) => trF Tryd.prog G (lk []) Tryd.f114 [.pointer (some a_0), .int .i64 x_1] w R := by kernel_rfl
theorem c114 (a_0 : Addr) (x_1 : Int) (w : World) (R : Value → World → Prop) (h : B114 a_0 x_1 w R) : Calls Tryd.prog 114 #[.pointer (some a_0), .int .i64 x_1] w (Rv R) := calls_of_tr (L := lk []) Tryd.func114 hG hM (by rw [B114_eq] at h; exact h)

/-- (*locution/wire.Writer).Raw -/
def B119 (a_0 : Addr) (x_1 : ByteArray) (w : World) (R : Value → World → Prop) : Prop :=
  ∃ l1 : Slc, w.cell? (Addr.add a_0 0) = some (.slice l1.a l1.len l1.cap) ∧
    ∃ w2 : World, ∃ l3 : Slc, (Builtin.append_ #[60, 9] 60 #[.slice l1.a l1.len l1.cap, .string x_1]).run Tryd.prog w = .ok (.slice l3.a l3.len l3.cap) w2 ∧
    (∃ u, w2.cell? (Addr.add a_0 0) = some u) ∧ w2.frozen? (Addr.add a_0 0) = false ∧ R (.tuple #[]) (w2.setCell (Addr.add a_0 0) (.slice l3.a l3.len l3.cap))
theorem B119_eq : @B119 = fun (a_0 : Addr) (x_1 : ByteArray) (w : World) (R : Value → World → Prop) => trF Tryd.prog G (lk []) Tryd.f119 [.pointer (some a_0), .string x_1] w R := by kernel_rfl
theorem c119 (a_0 : Addr) (x_1 : ByteArray) (w : World) (R : Value → World → Prop) (h : B119 a_0 x_1 w R) : Calls Tryd.prog 119 #[.pointer (some a_0), .string x_1] w (Rv R) := calls_of_tr (L := lk []) Tryd.func119 hG hM (by rw [B119_eq] at h; exact h)

/-- (*locution/wire.Reader).Raw -/
def B120 (a_0 : Addr) (x_1 : Int) (w : World) (R : Value → World → Prop) : Prop :=
  
    (∃ u, ((w.alloc (.cells #[.int .i64 x_1] 3)).alloc (.cells #[.string ByteArray.empty] 9)).cell? ⟨(w.alloc (.cells #[.int .i64 x_1] 3)).heap.size, 0, none⟩ = some u) ∧
    ((w.alloc (.cells #[.int .i64 x_1] 3)).alloc (.cells #[.string ByteArray.empty] 9)).frozen? ⟨(w.alloc (.cells #[.int .i64 x_1] 3)).heap.size, 0, none⟩ = false ∧
    Calls Tryd.prog 139 #[.pointer (some a_0), .func (.func 145) #[] #[.pointer (some ⟨w.heap.size, 0, none⟩), .pointer (some ⟨(w.alloc (.cells #[.int .i64 x_1] 3)).heap.size, 0, none⟩)]] (((w.alloc (.cells #[.int .i64 x_1] 3)).alloc (.cells #[.string ByteArray.empty] 9)).setCell ⟨(w.alloc (.cells #[.int .i64 x_1] 3)).heap.size, 0, none⟩ (.string (⟨#[]⟩ : ByteArray))) (Rv fun v1 w2 =>
    ∃ b3 : Bool, v1 = .bool b3 ∧ ∃ s4 : ByteArray, w2.cell? ⟨(w.alloc (.cells #[.int .i64 x_1] 3)).heap.size, 0, none⟩ = some (.string s4) ∧ R (.string s4) w2)
theorem B120_eq : @B120 = fun (a_0 : Addr) (x_1 : Int) (w : World) (R : Value → World → Prop) => trF Tryd.prog G (lk []) Tryd.f120 [.pointer (some a_0), .int .i64 x_1] w R := by kernel_rfl
theorem c120 (a_0 : Addr) (x_1 : Int) (w : World) (R : Value → World → Prop) (h : B120 a_0 x_1 w R) : Calls Tryd.prog 120 #[.pointer (some a_0), .int .i64 x_1] w (Rv R) := calls_of_tr (L := lk []) Tryd.func120 hG hM (by rw [B120_eq] at h; exact h)

/-- (*locution/wire.Reader).step -/
def B139 (a_0 : Addr) (x_1 : Value) (w : World) (R : Value → World → Prop) : Prop :=
  ∃ n1 : Int, w.cell? (Addr.add a_0 2) = some (.int .i64 n1) ∧
    br (!(decide (n1 = (0 : Int)))) (R (.bool false) w) (∃ s2 : ByteArray, (World.drew w).cell? (Addr.add a_0 0) = some (.string s2) ∧
    ∃ n3 : Int, (World.drew w).cell? (Addr.add a_0 1) = some (.int .i64 n3) ∧ 0 ≤ n3 ∧ n3 ≤ (s2.size : Int) ∧ (s2.size : Int) ≤ (s2.size : Int) ∧
    CallFV Tryd.prog G x_1 [.string (s2.extract (Int.toNat n3) (Int.toNat (s2.size : Int)))] (World.drew w) fun v4 w5 =>
    ∃ n6 : Int, ∃ n7 : Int, v4 = .tuple #[.int .i64 n6, .int .i64 n7] ∧ br (!(decide (n7 = (0 : Int)))) ((∃ u, w5.cell? (Addr.add a_0 2) = some u) ∧
    w5.frozen? (Addr.add a_0 2) = false ∧
    R (.bool false) (w5.setCell (Addr.add a_0 2) (.int .i64 n7))) (∃ n8 : Int, w5.cell? (Addr.add a_0 1) = some (.int .i64 n8) ∧
    (∃ u, w5.cell? (Addr.add a_0 1) = some u) ∧ w5.frozen? (Addr.add a_0 1) = false ∧
    R (.bool true) (w5.setCell (Addr.add a_0 1) (.int .i64 (IntKind.i64.wrap (n8 + n6))))))
theorem B139_eq : @B139 = fun (a_0 : Addr) (x_1 : Value) (w : World) (R : Value → World → Prop) => trF Tryd.prog G (lk []) Tryd.f139 [.pointer (some a_0), x_1] w R := by kernel_rfl
theorem c139 (a_0 : Addr) (x_1 : Value) (w : World) (R : Value → World → Prop) (h : B139 a_0 x_1 w R) : Calls Tryd.prog 139 #[.pointer (some a_0), x_1] w (Rv R) := calls_of_tr (L := lk []) Tryd.func139 hG hM (by rw [B139_eq] at h; exact h)

/-- (*locution/wire.Reader).Upto$1 -/
def B140 (x_0 : ByteArray) (a_1 : Addr) (a_2 : Addr) (w : World) (R : Value → World → Prop) : Prop :=
  Calls Tryd.prog 141 #[.string x_0] w (Rv fun v1 w2 => ∃ n3 : Int, ∃ n4 : Int, ∃ n5 : Int, v1 = .tuple #[.int .u64 n3, .int .i64 n4, .int .i64 n5] ∧
    br (decide (n5 = (0 : Int))) (∃ n6 : Int, w2.cell? a_1 = some (.int .i64 n6) ∧
    br (decide (n6 < (0 : Int))) (R (.tuple #[.int .i64 n4, .int .i64 8]) w2) (∃ n7 : Int, w2.cell? a_1 = some (.int .i64 n7) ∧
    br (decide ((IntKind.u64.wrap n7) < n3)) (R (.tuple #[.int .i64 n4, .int .i64 8]) w2) (br (decide (n5 = (0 : Int))) ((∃ u, w2.cell? a_2 = some u) ∧
    w2.frozen? a_2 = false ∧
    R (.tuple #[.int .i64 n4, .int .i64 n5]) (w2.setCell a_2 (.int .i64 (IntKind.i64.wrap n3)))) (R (.tuple #[.int .i64 n4, .int .i64 n5]) w2)))) (br (decide (n5 = (0 : Int))) ((∃ u, w2.cell? a_2 = some u) ∧
    w2.frozen? a_2 = false ∧
    R (.tuple #[.int .i64 n4, .int .i64 n5]) (w2.setCell a_2 (.int .i64 (IntKind.i64.wrap n3)))) (R (.tuple #[.int .i64 n4, .int .i64 n5]) w2)))
theorem B140_eq : @B140 = fun (x_0 : ByteArray) (a_1 : Addr) (a_2 : Addr) (w : World) (R : Value → World → Prop) => trF Tryd.prog G (lk []) Tryd.f140 [.string x_0, .pointer (some a_1), .pointer (some a_2)] w R := by kernel_rfl
theorem c140 (x_0 : ByteArray) (a_1 : Addr) (a_2 : Addr) (w : World) (R : Value → World → Prop) (h : B140 x_0 a_1 a_2 w R) : Calls Tryd.prog 140 #[.string x_0, .pointer (some a_1), .pointer (some a_2)] w (Rv R) := calls_of_tr (L := lk []) Tryd.func140 hG hM (by rw [B140_eq] at h; exact h)

/-- locution/wire.number -/
def B141 (x_0 : ByteArray) (w : World) (R : Value → World → Prop) : Prop :=
  ∃ (I1 : Int → Int → World → Prop) (μ2 : Int → Int → World → Nat), I1 (0 : Int) (0 : Int) w ∧ ∀ x3 : Int, ∀ x4 : Int, ∀ w5 : World, I1 x3 x4 w5 →
    br (decide (x4 < (10 : Int))) (br (decide (x4 = (x_0.size : Int))) (R (.tuple #[.int .u64 0, .int .i64 0, .int .i64 2]) w5) (∃ c6 : UInt8, 0 ≤ x4 ∧
    x_0[x4.toNat]? = some c6 ∧ 0 ≤ (IntKind.u64.wrap (IntKind.i64.wrap (7 * x4))) ∧ ∃ c7 : UInt8, 0 ≤ x4 ∧ x_0[x4.toNat]? = some c7 ∧
    br (decide ((128 : Int) ≤ (UInt8.toNat c7 : Int))) (I1 (bOr .u64 x3 (shL .u64 (IntKind.u64.wrap (bAnd .u8 (UInt8.toNat c6 : Int) 127)) (IntKind.u64.wrap (IntKind.i64.wrap (7 * x4))))) (IntKind.i64.wrap (x4 + 1)) w5 ∧
    μ2 (bOr .u64 x3 (shL .u64 (IntKind.u64.wrap (bAnd .u8 (UInt8.toNat c6 : Int) 127)) (IntKind.u64.wrap (IntKind.i64.wrap (7 * x4))))) (IntKind.i64.wrap (x4 + 1)) w5 < μ2 x3 x4 w5) (br (decide (x4 = (9 : Int))) (∃ c8 : UInt8, 0 ≤ x4 ∧
    x_0[x4.toNat]? = some c8 ∧
    br (decide ((1 : Int) < (UInt8.toNat c8 : Int))) (R (.tuple #[.int .u64 0, .int .i64 0, .int .i64 3]) w5) (br (decide ((0 : Int) < x4)) (∃ c9 : UInt8, 0 ≤ x4 ∧
    x_0[x4.toNat]? = some c9 ∧
    br (decide ((UInt8.toNat c9 : Int) = (0 : Int))) (R (.tuple #[.int .u64 0, .int .i64 0, .int .i64 3]) w5) (R (.tuple #[.int .u64 (bOr .u64 x3 (shL .u64 (IntKind.u64.wrap (bAnd .u8 (UInt8.toNat c6 : Int) 127)) (IntKind.u64.wrap (IntKind.i64.wrap (7 * x4))))), .int .i64 (IntKind.i64.wrap (x4 + 1)), .int .i64 0]) w5)) (R (.tuple #[.int .u64 (bOr .u64 x3 (shL .u64 (IntKind.u64.wrap (bAnd .u8 (UInt8.toNat c6 : Int) 127)) (IntKind.u64.wrap (IntKind.i64.wrap (7 * x4))))), .int .i64 (IntKind.i64.wrap (x4 + 1)), .int .i64 0]) w5))) (br (decide ((0 : Int) < x4)) (∃ c10 : UInt8, 0 ≤ x4 ∧
    x_0[x4.toNat]? = some c10 ∧
    br (decide ((UInt8.toNat c10 : Int) = (0 : Int))) (R (.tuple #[.int .u64 0, .int .i64 0, .int .i64 3]) w5) (R (.tuple #[.int .u64 (bOr .u64 x3 (shL .u64 (IntKind.u64.wrap (bAnd .u8 (UInt8.toNat c6 : Int) 127)) (IntKind.u64.wrap (IntKind.i64.wrap (7 * x4))))), .int .i64 (IntKind.i64.wrap (x4 + 1)), .int .i64 0]) w5)) (R (.tuple #[.int .u64 (bOr .u64 x3 (shL .u64 (IntKind.u64.wrap (bAnd .u8 (UInt8.toNat c6 : Int) 127)) (IntKind.u64.wrap (IntKind.i64.wrap (7 * x4))))), .int .i64 (IntKind.i64.wrap (x4 + 1)), .int .i64 0]) w5))))) (R (.tuple #[.int .u64 0, .int .i64 0, .int .i64 3]) w5)
theorem B141_eq : @B141 = fun (x_0 : ByteArray) (w : World) (R : Value → World → Prop) => trF Tryd.prog G (lk [(3, [(5, .int .u64), (6, .int .i64)])]) Tryd.f141 [.string x_0] w R := by kernel_rfl
theorem c141 (x_0 : ByteArray) (w : World) (R : Value → World → Prop) (h : B141 x_0 w R) : Calls Tryd.prog 141 #[.string x_0] w (Rv R) := calls_of_tr (L := lk [(3, [(5, .int .u64), (6, .int .i64)])]) Tryd.func141 hG hM (by rw [B141_eq] at h; exact h)

/-- (*locution/wire.Reader).Fail$1 -/
def B143 (x_0 : ByteArray) (a_1 : Addr) (w : World) (R : Value → World → Prop) : Prop :=
  ∃ n1 : Int, (World.drew w).cell? a_1 = some (.int .i64 n1) ∧ R (.tuple #[.int .i64 0, .int .i64 n1]) (World.drew w)
theorem B143_eq : @B143 = fun (x_0 : ByteArray) (a_1 : Addr) (w : World) (R : Value → World → Prop) => trF Tryd.prog G (lk []) Tryd.f143 [.string x_0, .pointer (some a_1)] w R := by kernel_rfl
theorem c143 (x_0 : ByteArray) (a_1 : Addr) (w : World) (R : Value → World → Prop) (h : B143 x_0 a_1 w R) : Calls Tryd.prog 143 #[.string x_0, .pointer (some a_1)] w (Rv R) := calls_of_tr (L := lk []) Tryd.func143 hG hM (by rw [B143_eq] at h; exact h)

/-- (*locution/wire.Reader).Raw$1 -/
def B145 (x_0 : ByteArray) (a_1 : Addr) (a_2 : Addr) (w : World) (R : Value → World → Prop) : Prop :=
  ∃ n1 : Int, w.cell? a_1 = some (.int .i64 n1) ∧
    br (decide (n1 < (0 : Int))) (R (.tuple #[.int .i64 0, .int .i64 1]) w) (∃ n2 : Int, w.cell? a_1 = some (.int .i64 n2) ∧
    br (decide ((x_0.size : Int) < n2)) (R (.tuple #[.int .i64 0, .int .i64 2]) w) (∃ n3 : Int, w.cell? a_1 = some (.int .i64 n3) ∧ 0 ≤ (0 : Int) ∧ (0 : Int) ≤ n3 ∧
    n3 ≤ (x_0.size : Int) ∧ (∃ u, w.cell? a_2 = some u) ∧ w.frozen? a_2 = false ∧
    ∃ n4 : Int, (w.setCell a_2 (.string (x_0.extract (Int.toNat (0 : Int)) (Int.toNat n3)))).cell? a_1 = some (.int .i64 n4) ∧
    R (.tuple #[.int .i64 n4, .int .i64 0]) (w.setCell a_2 (.string (x_0.extract (Int.toNat (0 : Int)) (Int.toNat n3))))))
theorem B145_eq : @B145 = fun (x_0 : ByteArray) (a_1 : Addr) (a_2 : Addr) (w : World) (R : Value → World → Prop) => trF Tryd.prog G (lk []) Tryd.f145 [.string x_0, .pointer (some a_1), .pointer (some a_2)] w R := by kernel_rfl
theorem c145 (x_0 : ByteArray) (a_1 : Addr) (a_2 : Addr) (w : World) (R : Value → World → Prop) (h : B145 x_0 a_1 a_2 w R) : Calls Tryd.prog 145 #[.string x_0, .pointer (some a_1), .pointer (some a_2)] w (Rv R) := calls_of_tr (L := lk []) Tryd.func145 hG hM (by rw [B145_eq] at h; exact h)

/-- locution/locutionref10.Num -/
def B110 (x_0 : Int) (w : World) (R : Value → World → Prop) : Prop :=
  
    br (decide (x_0 < (128 : Int))) (∃ w1 : World, ∃ s2 : ByteArray, (convert 60 9 (.slice (some ⟨w.heap.size, 0, none⟩) 1 1)).run Tryd.prog (w.alloc (.cells #[.int .u8 (IntKind.u8.wrap x_0)] 5)) = .ok (.string s2) w1 ∧
    R (.string s2) w1) ((128 : Int) ≠ 0 ∧ (128 : Int) ≠ 0 ∧
    ((∃ w3 : World, ∃ s4 : ByteArray, (convert 60 9 (.slice (some ⟨(World.drew w).heap.size, 0, none⟩) 1 1)).run Tryd.prog ((World.drew w).alloc (.cells #[.int .u8 (IntKind.u8.wrap (IntKind.u64.wrap ((Int.tmod x_0 128) + 128)))] 5)) = .ok (.string s4) w3 ∧
    Calls Tryd.prog 110 #[.int .u64 (IntKind.u64.wrap (Int.tdiv x_0 128))] w3 (Rv fun v5 w6 => ∃ s7 : ByteArray, v5 = .string s7 ∧
    s4.size + s7.size ≤ 9223372036854775807 ∧ R (.string (s4 ++ s7)) w6)) ∧
    (Calls Tryd.prog 110 #[.int .u64 (IntKind.u64.wrap (Int.tdiv x_0 128))] ((World.drew w).alloc (.cells #[.int .u8 (IntKind.u8.wrap (IntKind.u64.wrap ((Int.tmod x_0 128) + 128)))] 5)) (Rv fun v8 w9 =>
    ∃ s10 : ByteArray, v8 = .string s10 ∧
    ∃ w11 : World, ∃ s12 : ByteArray, (convert 60 9 (.slice (some ⟨(World.drew w).heap.size, 0, none⟩) 1 1)).run Tryd.prog w9 = .ok (.string s12) w11 ∧
    s12.size + s10.size ≤ 9223372036854775807 ∧ R (.string (s12 ++ s10)) w11))) ∧
    (Calls Tryd.prog 110 #[.int .u64 (IntKind.u64.wrap (Int.tdiv x_0 128))] (World.drew w) (Rv fun v13 w14 => ∃ s15 : ByteArray, v13 = .string s15 ∧
    ∃ w16 : World, ∃ s17 : ByteArray, (convert 60 9 (.slice (some ⟨w14.heap.size, 0, none⟩) 1 1)).run Tryd.prog (w14.alloc (.cells #[.int .u8 (IntKind.u8.wrap (IntKind.u64.wrap ((Int.tmod x_0 128) + 128)))] 5)) = .ok (.string s17) w16 ∧
    s17.size + s15.size ≤ 9223372036854775807 ∧ R (.string (s17 ++ s15)) w16)))
theorem B110_eq : @B110 = fun (x_0 : Int) (w : World) (R : Value → World → Prop) => trF Tryd.prog G (lk []) Tryd.f110 [.int .u64 x_0] w R := by kernel_rfl
theorem c110 (x_0 : Int) (w : World) (R : Value → World → Prop) (h : B110 x_0 w R) : Calls Tryd.prog 110 #[.int .u64 x_0] w (Rv R) := calls_of_tr (L := lk []) Tryd.func110 hG hM (by rw [B110_eq] at h; exact h)

/-- (*locution/locutionref10.Reader).Raw -/
def B123 (a_0 : Addr) (x_1 : Int) (w : World) (R : Value → World → Prop) : Prop :=
  ∃ n1 : Int, w.cell? (Addr.add a_0 1) = some (.int .i64 n1) ∧
    br (!(decide (n1 = (0 : Int)))) (R (.string (⟨#[]⟩ : ByteArray)) w) (br (decide (x_1 < (0 : Int))) ((∃ u, w.cell? (Addr.add a_0 1) = some u) ∧
    w.frozen? (Addr.add a_0 1) = false ∧
    R (.string (⟨#[]⟩ : ByteArray)) (w.setCell (Addr.add a_0 1) (.int .i64 1))) (∃ s2 : ByteArray, w.cell? (Addr.add a_0 0) = some (.string s2) ∧
    br (decide ((s2.size : Int) < x_1)) ((∃ u, w.cell? (Addr.add a_0 1) = some u) ∧ w.frozen? (Addr.add a_0 1) = false ∧
    R (.string (⟨#[]⟩ : ByteArray)) (w.setCell (Addr.add a_0 1) (.int .i64 2))) (∃ s3 : ByteArray, w.cell? (Addr.add a_0 0) = some (.string s3) ∧ 0 ≤ (0 : Int) ∧
    (0 : Int) ≤ x_1 ∧ x_1 ≤ (s3.size : Int) ∧ ∃ s4 : ByteArray, w.cell? (Addr.add a_0 0) = some (.string s4) ∧ 0 ≤ x_1 ∧ x_1 ≤ (s4.size : Int) ∧
    (s4.size : Int) ≤ (s4.size : Int) ∧ (∃ u, w.cell? (Addr.add a_0 0) = some u) ∧ w.frozen? (Addr.add a_0 0) = false ∧
    R (.string (s3.extract (Int.toNat (0 : Int)) (Int.toNat x_1))) (w.setCell (Addr.add a_0 0) (.string (s4.extract (Int.toNat x_1) (Int.toNat (s4.size : Int))))))))
theorem B123_eq : @B123 = fun (a_0 : Addr) (x_1 : Int) (w : World) (R : Value → World → Prop) => trF Tryd.prog G (lk []) Tryd.f123 [.pointer (some a_0), .int .i64 x_1] w R := by kernel_rfl
theorem c123 (a_0 : Addr) (x_1 : Int) (w : World) (R : Value → World → Prop) (h : B123 a_0 x_1 w R) : Calls Tryd.prog 123 #[.pointer (some a_0), .int .i64 x_1] w (Rv R) := calls_of_tr (L := lk []) Tryd.func123 hG hM (by rw [B123_eq] at h; exact h)

/-- (*locution/locutionref10.Reader).Upto -/
def B130 (a_0 : Addr) (x_1 : Int) (w : World) (R : Value → World → Prop) : Prop :=
  ∃ n1 : Int, w.cell? (Addr.add a_0 1) = some (.int .i64 n1) ∧
    br (!(decide (n1 = (0 : Int)))) (R (.int .i64 0) w) (∃ s2 : ByteArray, w.cell? (Addr.add a_0 0) = some (.string s2) ∧
    Calls Tryd.prog 147 #[.string s2] w (Rv fun v3 w4 => ∃ n5 : Int, ∃ n6 : Int, ∃ n7 : Int, v3 = .tuple #[.int .u64 n5, .int .i64 n6, .int .i64 n7] ∧
    br (decide (n7 = (0 : Int))) (br (decide (x_1 < (0 : Int))) ((∃ u, w4.cell? (Addr.add a_0 1) = some u) ∧ w4.frozen? (Addr.add a_0 1) = false ∧
    R (.int .i64 0) (w4.setCell (Addr.add a_0 1) (.int .i64 8))) (br (decide ((IntKind.u64.wrap x_1) < n5)) ((∃ u, w4.cell? (Addr.add a_0 1) = some u) ∧
    w4.frozen? (Addr.add a_0 1) = false ∧ R (.int .i64 0) (w4.setCell (Addr.add a_0 1) (.int .i64 8))) ((∃ u, w4.cell? (Addr.add a_0 1) = some u) ∧
    w4.frozen? (Addr.add a_0 1) = false ∧
    br (!(decide (n7 = (0 : Int)))) (R (.int .i64 0) (w4.setCell (Addr.add a_0 1) (.int .i64 n7))) (∃ s8 : ByteArray, (w4.setCell (Addr.add a_0 1) (.int .i64 n7)).cell? (Addr.add a_0 0) = some (.string s8) ∧
    0 ≤ n6 ∧ n6 ≤ (s8.size : Int) ∧ (s8.size : Int) ≤ (s8.size : Int) ∧ (∃ u, (w4.setCell (Addr.add a_0 1) (.int .i64 n7)).cell? (Addr.add a_0 0) = some u) ∧
    (w4.setCell (Addr.add a_0 1) (.int .i64 n7)).frozen? (Addr.add a_0 0) = false ∧
    R (.int .i64 (IntKind.i64.wrap n5)) ((w4.setCell (Addr.add a_0 1) (.int .i64 n7)).setCell (Addr.add a_0 0) (.string (s8.extract (Int.toNat n6) (Int.toNat (s8.size : Int))))))))) ((∃ u, w4.cell? (Addr.add a_0 1) = some u) ∧
    w4.frozen? (Addr.add a_0 1) = false ∧
    br (!(decide (n7 = (0 : Int)))) (R (.int .i64 0) (w4.setCell (Addr.add a_0 1) (.int .i64 n7))) (∃ s9 : ByteArray, (w4.setCell (Addr.add a_0 1) (.int .i64 n7)).cell? (Addr.add a_0 0) = some (.string s9) ∧
    0 ≤ n6 ∧ n6 ≤ (s9.size : Int) ∧ (s9.size : Int) ≤ (s9.size : Int) ∧ (∃ u, (w4.setCell (Addr.add a_0 1) (.int .i64 n7)).cell? (Addr.add a_0 0) = some u) ∧
    (w4.setCell (Addr.add a_0 1) (.int .i64 n7)).frozen? (Addr.add a_0 0) = false ∧
    R (.int .i64 (IntKind.i64.wrap n5)) ((w4.setCell (Addr.add a_0 1) (.int .i64 n7)).setCell (Addr.add a_0 0) (.string (s9.extract (Int.toNat n6) (Int.toNat (s9.size : Int)))))))))
theorem B130_eq : @B130 = fun (a_0 : Addr) (x_1 : Int) (w : World) (R : Value → World → Prop) => trF Tryd.prog G (lk []) Tryd.f130 [.pointer (some a_0), .int .i64 x_1] w R := by kernel_rfl
theorem c130 (a_0 : Addr) (x_1 : Int) (w : World) (R : Value → World → Prop) (h : B130 a_0 x_1 w R) : Calls Tryd.prog 130 #[.pointer (some a_0), .int .i64 x_1] w (Rv R) := calls_of_tr (L := lk []) Tryd.func130 hG hM (by rw [B130_eq] at h; exact h)

/-- locution/locutionref10.First -/
def B147 (x_0 : ByteArray) (w : World) (R : Value → World → Prop) : Prop :=
  ∃ (I1 : Int → World → Prop) (μ2 : Int → World → Nat), I1 (0 : Int) w ∧ ∀ x3 : Int, ∀ w4 : World, I1 x3 w4 →
    br (decide (x3 < (10 : Int))) (br (decide (x3 < (x_0.size : Int))) (∃ c5 : UInt8, 0 ≤ x3 ∧ x_0[x3.toNat]? = some c5 ∧
    br (decide ((128 : Int) ≤ (UInt8.toNat c5 : Int))) (I1 (IntKind.i64.wrap (x3 + 1)) w4 ∧
    μ2 (IntKind.i64.wrap (x3 + 1)) w4 < μ2 x3 w4) (br (decide (x3 = (10 : Int))) (R (.tuple #[.int .u64 0, .int .i64 0, .int .i64 3]) w4) (br (decide (x3 = (x_0.size : Int))) (R (.tuple #[.int .u64 0, .int .i64 0, .int .i64 2]) w4) (br (decide (x3 = (9 : Int))) (∃ c6 : UInt8, 0 ≤ x3 ∧
    x_0[x3.toNat]? = some c6 ∧
    br (decide ((1 : Int) < (UInt8.toNat c6 : Int))) (R (.tuple #[.int .u64 0, .int .i64 0, .int .i64 3]) w4) (br (decide ((0 : Int) < x3)) (∃ c7 : UInt8, 0 ≤ x3 ∧
    x_0[x3.toNat]? = some c7 ∧ br (decide ((UInt8.toNat c7 : Int) = (0 : Int))) (R (.tuple #[.int .u64 0, .int .i64 0, .int .i64 3]) w4) (∃ (I8 : Int → Int → World →
    Prop) (μ9 : Int → Int → World → Nat), I8 (0 : Int) x3 w4 ∧ ∀ x10 : Int, ∀ x11 : Int, ∀ w12 : World, I8 x10 x11 w12 →
    br (decide ((0 : Int) ≤ x11)) (∃ c13 : UInt8, 0 ≤ x11 ∧ x_0[x11.toNat]? = some c13 ∧ (128 : Int) ≠ 0 ∧
    I8 (IntKind.u64.wrap ((IntKind.u64.wrap (x10 * 128)) + (IntKind.u64.wrap (Int.tmod (UInt8.toNat c13 : Int) 128)))) (IntKind.i64.wrap (x11 - 1)) w12 ∧
    μ9 (IntKind.u64.wrap ((IntKind.u64.wrap (x10 * 128)) + (IntKind.u64.wrap (Int.tmod (UInt8.toNat c13 : Int) 128)))) (IntKind.i64.wrap (x11 - 1)) w12 < μ9 x10 x11 w12) (R (.tuple #[.int .u64 x10, .int .i64 (IntKind.i64.wrap (x3 + 1)), .int .i64 0]) w12))) (∃ (I14 : Int →
    Int → World → Prop) (μ15 : Int → Int → World → Nat), I14 (0 : Int) x3 w4 ∧ ∀ x16 : Int, ∀ x17 : Int, ∀ w18 : World, I14 x16 x17 w18 →
    br (decide ((0 : Int) ≤ x17)) (∃ c19 : UInt8, 0 ≤ x17 ∧ x_0[x17.toNat]? = some c19 ∧ (128 : Int) ≠ 0 ∧
    I14 (IntKind.u64.wrap ((IntKind.u64.wrap (x16 * 128)) + (IntKind.u64.wrap (Int.tmod (UInt8.toNat c19 : Int) 128)))) (IntKind.i64.wrap (x17 - 1)) w18 ∧
    μ15 (IntKind.u64.wrap ((IntKind.u64.wrap (x16 * 128)) + (IntKind.u64.wrap (Int.tmod (UInt8.toNat c19 : Int) 128)))) (IntKind.i64.wrap (x17 - 1)) w18 < μ15 x16 x17 w18) (R (.tuple #[.int .u64 x16, .int .i64 (IntKind.i64.wrap (x3 + 1)), .int .i64 0]) w18)))) (br (decide ((0 : Int) < x3)) (∃ c20 : UInt8, 0 ≤ x3 ∧
    x_0[x3.toNat]? = some c20 ∧ br (decide ((UInt8.toNat c20 : Int) = (0 : Int))) (R (.tuple #[.int .u64 0, .int .i64 0, .int .i64 3]) w4) (∃ (I21 : Int → Int →
    World → Prop) (μ22 : Int → Int → World → Nat), I21 (0 : Int) x3 w4 ∧ ∀ x23 : Int, ∀ x24 : Int, ∀ w25 : World, I21 x23 x24 w25 →
    br (decide ((0 : Int) ≤ x24)) (∃ c26 : UInt8, 0 ≤ x24 ∧ x_0[x24.toNat]? = some c26 ∧ (128 : Int) ≠ 0 ∧
    I21 (IntKind.u64.wrap ((IntKind.u64.wrap (x23 * 128)) + (IntKind.u64.wrap (Int.tmod (UInt8.toNat c26 : Int) 128)))) (IntKind.i64.wrap (x24 - 1)) w25 ∧
    μ22 (IntKind.u64.wrap ((IntKind.u64.wrap (x23 * 128)) + (IntKind.u64.wrap (Int.tmod (UInt8.toNat c26 : Int) 128)))) (IntKind.i64.wrap (x24 - 1)) w25 < μ22 x23 x24 w25) (R (.tuple #[.int .u64 x23, .int .i64 (IntKind.i64.wrap (x3 + 1)), .int .i64 0]) w25))) (∃ (I27 : Int →
    Int → World → Prop) (μ28 : Int → Int → World → Nat), I27 (0 : Int) x3 w4 ∧ ∀ x29 : Int, ∀ x30 : Int, ∀ w31 : World, I27 x29 x30 w31 →
    br (decide ((0 : Int) ≤ x30)) (∃ c32 : UInt8, 0 ≤ x30 ∧ x_0[x30.toNat]? = some c32 ∧ (128 : Int) ≠ 0 ∧
    I27 (IntKind.u64.wrap ((IntKind.u64.wrap (x29 * 128)) + (IntKind.u64.wrap (Int.tmod (UInt8.toNat c32 : Int) 128)))) (IntKind.i64.wrap (x30 - 1)) w31 ∧
    μ28 (IntKind.u64.wrap ((IntKind.u64.wrap (x29 * 128)) + (IntKind.u64.wrap (Int.tmod (UInt8.toNat c32 : Int) 128)))) (IntKind.i64.wrap (x30 - 1)) w31 < μ28 x29 x30 w31) (R (.tuple #[.int .u64 x29, .int .i64 (IntKind.i64.wrap (x3 + 1)), .int .i64 0]) w31))))))) (br (decide (x3 = (10 : Int))) (R (.tuple #[.int .u64 0, .int .i64 0, .int .i64 3]) w4) (br (decide (x3 = (x_0.size : Int))) (R (.tuple #[.int .u64 0, .int .i64 0, .int .i64 2]) w4) (br (decide (x3 = (9 : Int))) (∃ c33 : UInt8, 0 ≤ x3 ∧
    x_0[x3.toNat]? = some c33 ∧
    br (decide ((1 : Int) < (UInt8.toNat c33 : Int))) (R (.tuple #[.int .u64 0, .int .i64 0, .int .i64 3]) w4) (br (decide ((0 : Int) < x3)) (∃ c34 : UInt8, 0 ≤ x3 ∧
    x_0[x3.toNat]? = some c34 ∧ br (decide ((UInt8.toNat c34 : Int) = (0 : Int))) (R (.tuple #[.int .u64 0, .int .i64 0, .int .i64 3]) w4) (∃ (I35 : Int → Int →
    World → Prop) (μ36 : Int → Int → World → Nat), I35 (0 : Int) x3 w4 ∧ ∀ x37 : Int, ∀ x38 : Int, ∀ w39 : World, I35 x37 x38 w39 →
    br (decide ((0 : Int) ≤ x38)) (∃ c40 : UInt8, 0 ≤ x38 ∧ x_0[x38.toNat]? = some c40 ∧ (128 : Int) ≠ 0 ∧
    I35 (IntKind.u64.wrap ((IntKind.u64.wrap (x37 * 128)) + (IntKind.u64.wrap (Int.tmod (UInt8.toNat c40 : Int) 128)))) (IntKind.i64.wrap (x38 - 1)) w39 ∧
    μ36 (IntKind.u64.wrap ((IntKind.u64.wrap (x37 * 128)) + (IntKind.u64.wrap (Int.tmod (UInt8.toNat c40 : Int) 128)))) (IntKind.i64.wrap (x38 - 1)) w39 < μ36 x37 x38 w39) (R (.tuple #[.int .u64 x37, .int .i64 (IntKind.i64.wrap (x3 + 1)), .int .i64 0]) w39))) (∃ (I41 : Int →
    Int → World → Prop) (μ42 : Int → Int → World → Nat), I41 (0 : Int) x3 w4 ∧ ∀ x43 : Int, ∀ x44 : Int, ∀ w45 : World, I41 x43 x44 w45 →
    br (decide ((0 : Int) ≤ x44)) (∃ c46 : UInt8, 0 ≤ x44 ∧ x_0[x44.toNat]? = some c46 ∧ (128 : Int) ≠ 0 ∧
    I41 (IntKind.u64.wrap ((IntKind.u64.wrap (x43 * 128)) + (IntKind.u64.wrap (Int.tmod (UInt8.toNat c46 : Int) 128)))) (IntKind.i64.wrap (x44 - 1)) w45 ∧
    μ42 (IntKind.u64.wrap ((IntKind.u64.wrap (x43 * 128)) + (IntKind.u64.wrap (Int.tmod (UInt8.toNat c46 : Int) 128)))) (IntKind.i64.wrap (x44 - 1)) w45 < μ42 x43 x44 w45) (R (.tuple #[.int .u64 x43, .int .i64 (IntKind.i64.wrap (x3 + 1)), .int .i64 0]) w45)))) (br (decide ((0 : Int) < x3)) (∃ c47 : UInt8, 0 ≤ x3 ∧
    x_0[x3.toNat]? = some c47 ∧ br (decide ((UInt8.toNat c47 : Int) = (0 : Int))) (R (.tuple #[.int .u64 0, .int .i64 0, .int .i64 3]) w4) (∃ (I48 : Int → Int →
    World → Prop) (μ49 : Int → Int → World → Nat), I48 (0 : Int) x3 w4 ∧ ∀ x50 : Int, ∀ x51 : Int, ∀ w52 : World, I48 x50 x51 w52 →
    br (decide ((0 : Int) ≤ x51)) (∃ c53 : UInt8, 0 ≤ x51 ∧ x_0[x51.toNat]? = some c53 ∧ (128 : Int) ≠ 0 ∧
    I48 (IntKind.u64.wrap ((IntKind.u64.wrap (x50 * 128)) + (IntKind.u64.wrap (Int.tmod (UInt8.toNat c53 : Int) 128)))) (IntKind.i64.wrap (x51 - 1)) w52 ∧
    μ49 (IntKind.u64.wrap ((IntKind.u64.wrap (x50 * 128)) + (IntKind.u64.wrap (Int.tmod (UInt8.toNat c53 : Int) 128)))) (IntKind.i64.wrap (x51 - 1)) w52 < μ49 x50 x51 w52) (R (.tuple #[.int .u64 x50, .int .i64 (IntKind.i64.wrap (x3 + 1)), .int .i64 0]) w52))) (∃ (I54 : Int →
    Int → World → Prop) (μ55 : Int → Int → World → Nat), I54 (0 : Int) x3 w4 ∧ ∀ x56 : Int, ∀ x57 : Int, ∀ w58 : World, I54 x56 x57 w58 →
    br (decide ((0 : Int) ≤ x57)) (∃ c59 : UInt8, 0 ≤ x57 ∧ x_0[x57.toNat]? = some c59 ∧ (128 : Int) ≠ 0 ∧
    I54 (IntKind.u64.wrap ((IntKind.u64.wrap (x56 * 128)) + (IntKind.u64.wrap (Int.tmod (UInt8.toNat c59 : Int) 128)))) (IntKind.i64.wrap (x57 - 1)) w58 ∧
    μ55 (IntKind.u64.wrap ((IntKind.u64.wrap (x56 * 128)) + (IntKind.u64.wrap (Int.tmod (UInt8.toNat c59 : Int) 128)))) (IntKind.i64.wrap (x57 - 1)) w58 < μ55 x56 x57 w58) (R (.tuple #[.int .u64 x56, .int .i64 (IntKind.i64.wrap (x3 + 1)), .int .i64 0]) w58))))))) (br (decide (x3 = (10 : Int))) (R (.tuple #[.int .u64 0, .int .i64 0, .int .i64 3]) w4) (br (decide (x3 = (x_0.size : Int))) (R (.tuple #[.int .u64 0, .int .i64 0, .int .i64 2]) w4) (br (decide (x3 = (9 : Int))) (∃ c60 : UInt8, 0 ≤ x3 ∧
    x_0[x3.toNat]? = some c60 ∧
    br (decide ((1 : Int) < (UInt8.toNat c60 : Int))) (R (.tuple #[.int .u64 0, .int .i64 0, .int .i64 3]) w4) (br (decide ((0 : Int) < x3)) (∃ c61 : UInt8, 0 ≤ x3 ∧
    x_0[x3.toNat]? = some c61 ∧ br (decide ((UInt8.toNat c61 : Int) = (0 : Int))) (R (.tuple #[.int .u64 0, .int .i64 0, .int .i64 3]) w4) (∃ (I62 : Int → Int →
    World → Prop) (μ63 : Int → Int → World → Nat), I62 (0 : Int) x3 w4 ∧ ∀ x64 : Int, ∀ x65 : Int, ∀ w66 : World, I62 x64 x65 w66 →
    br (decide ((0 : Int) ≤ x65)) (∃ c67 : UInt8, 0 ≤ x65 ∧ x_0[x65.toNat]? = some c67 ∧ (128 : Int) ≠ 0 ∧
    I62 (IntKind.u64.wrap ((IntKind.u64.wrap (x64 * 128)) + (IntKind.u64.wrap (Int.tmod (UInt8.toNat c67 : Int) 128)))) (IntKind.i64.wrap (x65 - 1)) w66 ∧
    μ63 (IntKind.u64.wrap ((IntKind.u64.wrap (x64 * 128)) + (IntKind.u64.wrap (Int.tmod (UInt8.toNat c67 : Int) 128)))) (IntKind.i64.wrap (x65 - 1)) w66 < μ63 x64 x65 w66) (R (.tuple #[.int .u64 x64, .int .i64 (IntKind.i64.wrap (x3 + 1)), .int .i64 0]) w66))) (∃ (I68 : Int →
    Int → World → Prop) (μ69 : Int → Int → World → Nat), I68 (0 : Int) x3 w4 ∧ ∀ x70 : Int, ∀ x71 : Int, ∀ w72 : World, I68 x70 x71 w72 →
    br (decide ((0 : Int) ≤ x71)) (∃ c73 : UInt8, 0 ≤ x71 ∧ x_0[x71.toNat]? = some c73 ∧ (128 : Int) ≠ 0 ∧
    I68 (IntKind.u64.wrap ((IntKind.u64.wrap (x70 * 128)) + (IntKind.u64.wrap (Int.tmod (UInt8.toNat c73 : Int) 128)))) (IntKind.i64.wrap (x71 - 1)) w72 ∧
    μ69 (IntKind.u64.wrap ((IntKind.u64.wrap (x70 * 128)) + (IntKind.u64.wrap (Int.tmod (UInt8.toNat c73 : Int) 128)))) (IntKind.i64.wrap (x71 - 1)) w72 < μ69 x70 x71 w72) (R (.tuple #[.int .u64 x70, .int .i64 (IntKind.i64.wrap (x3 + 1)), .int .i64 0]) w72)))) (br (decide ((0 : Int) < x3)) (∃ c74 : UInt8, 0 ≤ x3 ∧
    x_0[x3.toNat]? = some c74 ∧ br (decide ((UInt8.toNat c74 : Int) = (0 : Int))) (R (.tuple #[.int .u64 0, .int .i64 0, .int .i64 3]) w4) (∃ (I75 : Int → Int →
    World → Prop) (μ76 : Int → Int → World → Nat), I75 (0 : Int) x3 w4 ∧ ∀ x77 : Int, ∀ x78 : Int, ∀ w79 : World, I75 x77 x78 w79 →
    br (decide ((0 : Int) ≤ x78)) (∃ c80 : UInt8, 0 ≤ x78 ∧ x_0[x78.toNat]? = some c80 ∧ (128 : Int) ≠ 0 ∧
    I75 (IntKind.u64.wrap ((IntKind.u64.wrap (x77 * 128)) + (IntKind.u64.wrap (Int.tmod (UInt8.toNat c80 : Int) 128)))) (IntKind.i64.wrap (x78 - 1)) w79 ∧
    μ76 (IntKind.u64.wrap ((IntKind.u64.wrap (x77 * 128)) + (IntKind.u64.wrap (Int.tmod (UInt8.toNat c80 : Int) 128)))) (IntKind.i64.wrap (x78 - 1)) w79 < μ76 x77 x78 w79) (R (.tuple #[.int .u64 x77, .int .i64 (IntKind.i64.wrap (x3 + 1)), .int .i64 0]) w79))) (∃ (I81 : Int →
    Int → World → Prop) (μ82 : Int → Int → World → Nat), I81 (0 : Int) x3 w4 ∧ ∀ x83 : Int, ∀ x84 : Int, ∀ w85 : World, I81 x83 x84 w85 →
    br (decide ((0 : Int) ≤ x84)) (∃ c86 : UInt8, 0 ≤ x84 ∧ x_0[x84.toNat]? = some c86 ∧ (128 : Int) ≠ 0 ∧
    I81 (IntKind.u64.wrap ((IntKind.u64.wrap (x83 * 128)) + (IntKind.u64.wrap (Int.tmod (UInt8.toNat c86 : Int) 128)))) (IntKind.i64.wrap (x84 - 1)) w85 ∧
    μ82 (IntKind.u64.wrap ((IntKind.u64.wrap (x83 * 128)) + (IntKind.u64.wrap (Int.tmod (UInt8.toNat c86 : Int) 128)))) (IntKind.i64.wrap (x84 - 1)) w85 < μ82 x83 x84 w85) (R (.tuple #[.int .u64 x83, .int .i64 (IntKind.i64.wrap (x3 + 1)), .int .i64 0]) w85))))))
theorem B147_eq : @B147 = fun (x_0 : ByteArray) (w : World) (R : Value → World → Prop) => trF Tryd.prog G (lk [(2, [(5, .int .i64)]), (12, [(6, .int .u64), (7, .int .i64)])]) Tryd.f147 [.string x_0] w R := by kernel_rfl
theorem c147 (x_0 : ByteArray) (w : World) (R : Value → World → Prop) (h : B147 x_0 w R) : Calls Tryd.prog 147 #[.string x_0] w (Rv R) := calls_of_tr (L := lk [(2, [(5, .int .i64)]), (12, [(6, .int .u64), (7, .int .i64)])]) Tryd.func147 hG hM (by rw [B147_eq] at h; exact h)

/-- (*locution/wire.Writer).Num -/
def B108n (x_1 : Int) (w : World) (R : Value → World → Prop) : Prop :=
  R (.tuple #[]) w
theorem B108n_eq : @B108n = fun (x_1 : Int) (w : World) (R : Value → World → Prop) => trF Tryd.prog G (lk []) Tryd.f108 [.pointer none, .int .u64 x_1] w R := by kernel_rfl
theorem c108n (x_1 : Int) (w : World) (R : Value → World → Prop) (h : B108n x_1 w R) : Calls Tryd.prog 108 #[.pointer none, .int .u64 x_1] w (Rv R) := calls_of_tr (L := lk []) Tryd.func108 hG hM (by rw [B108n_eq] at h; exact h)

/-- (*locution/wire.Writer).Raw -/
def B119n (x_1 : ByteArray) (w : World) (R : Value → World → Prop) : Prop :=
  R (.tuple #[]) w
theorem B119n_eq : @B119n = fun (x_1 : ByteArray) (w : World) (R : Value → World → Prop) => trF Tryd.prog G (lk []) Tryd.f119 [.pointer none, .string x_1] w R := by kernel_rfl
theorem c119n (x_1 : ByteArray) (w : World) (R : Value → World → Prop) (h : B119n x_1 w R) : Calls Tryd.prog 119 #[.pointer none, .string x_1] w (Rv R) := calls_of_tr (L := lk []) Tryd.func119 hG hM (by rw [B119n_eq] at h; exact h)

/-- (*locution/wire.Writer).Bytes -/
def B38n  (w : World) (R : Value → World → Prop) : Prop :=
  R (.string (⟨#[]⟩ : ByteArray)) w
theorem B38n_eq : @B38n = fun (w : World) (R : Value → World → Prop) => trF Tryd.prog G (lk []) Tryd.f38 [.pointer none] w R := by kernel_rfl
theorem c38n  (w : World) (R : Value → World → Prop) (h : B38n  w R) : Calls Tryd.prog 38 #[.pointer none] w (Rv R) := calls_of_tr (L := lk []) Tryd.func38 hG hM (by rw [B38n_eq] at h; exact h)

end Go.Proofs.YtomajpihimlcjaaDoor.V
