/- The verification conditions of functions, printed by a program of this work (pr.py) and checked here by the kernel. -/
import Derived.Test.YtmpgklgjmkcpdaaVb
import Derived.Test.YtmpgklgjmkcpdaaBX
set_option maxRecDepth 100000
set_option linter.unusedVariables false
namespace Go.Proofs.Ytmpgklgjmkcpdaa.V
open Go Go.VC

/-- locution/shard.New -/
def B16 (x_0 : Slc) (w : World) (R : Value → World → Prop) : Prop :=
  Calls Try.prog 47 #[.slice x_0.a x_0.len x_0.cap] w (Rv fun v1 w2 => ∃ p3 : Option Addr, ∃ n4 : Int, v1 = .tuple #[.pointer p3, .int .i64 n4] ∧
    br (!(decide (n4 = (0 : Int)))) (R (.tuple #[.pointer none, .int .i64 n4]) w2) (∃ (I5 : Slc → Int → World → Prop) (μ6 : Slc → Int → World →
    Nat), I5 ⟨none, 0, 0⟩ (0 : Int) (w2.alloc (.cells #[.pointer none, .slice none 0 0, .int .i64 (x_0.len : Int)] 86)) ∧
    ∀ x7 : Slc, ∀ x8 : Int, ∀ w9 : World, I5 x7 x8 w9 → br (decide (x8 < (x_0.len : Int))) (0 ≤ x8 ∧ x8 < (x_0.len : Int) ∧ ∃ a10, x_0.a = some a10 ∧
    ∃ n11 : Int, w9.cell? (Addr.add a10 (x8.toNat * 1)) = some (.int .i64 n11) ∧
    ∃ w12 : World, ∃ l13 : Slc, (Builtin.append_ #[22, 22] 22 #[.slice x7.a x7.len x7.cap, .slice (some ⟨w9.heap.size, 0, none⟩) 1 1]).run Try.prog (w9.alloc (.cells #[.int .i64 n11] 3)) = .ok (.slice l13.a l13.len l13.cap) w12 ∧
    ∃ l14 : Slc, (World.drew w12).cell? (Addr.add ⟨w2.heap.size, 0, none⟩ 1) = some (.slice l14.a l14.len l14.cap) ∧
    (World.drew w12).cell? (Addr.add ⟨w2.heap.size, 0, none⟩ 1) = some (.slice l14.a l14.len l14.cap) ∧ 0 ≤ x8 ∧
    x8 ≤ min (IntKind.i64.wrap (x8 + 32)) (x_0.len : Int) ∧ min (IntKind.i64.wrap (x8 + 32)) (x_0.len : Int) ≤ (x_0.cap : Int) ∧
    Calls Try.prog 73 #[.slice (if x_0.cap = (Int.toNat x8) then x_0.a else x_0.a.map (·.add ((Int.toNat x8) * 1))) ((Int.toNat (min (IntKind.i64.wrap (x8 + 32)) (x_0.len : Int))) - (Int.toNat x8)) (x_0.cap - (Int.toNat x8))] (World.drew w12) (Rv fun v15 w16 =>
    ∃ v17 : Value, v15 = v17 ∧ w16.cell? (Addr.add ⟨w2.heap.size, 0, none⟩ 1) = some (.slice l14.a l14.len l14.cap) ∧ wvs (fillL (fun i =>
    some (i * 1, 1)) [.nilIface] [(0, v17)]) fun C18 =>
    (w16.alloc (.cells ⟨C18⟩ 88)).cell? (Addr.add ⟨w2.heap.size, 0, none⟩ 1) = some (.slice l14.a l14.len l14.cap) ∧
    ∃ w19 : World, ∃ l20 : Slc, (Builtin.append_ #[84, 84] 84 #[.slice l14.a l14.len l14.cap, .slice (some ⟨w16.heap.size, 0, none⟩) 1 1]).run Try.prog (w16.alloc (.cells ⟨C18⟩ 88)) = .ok (.slice l20.a l20.len l20.cap) w19 ∧
    (∃ u, w19.cell? (Addr.add ⟨w2.heap.size, 0, none⟩ 1) = some u) ∧ w19.frozen? (Addr.add ⟨w2.heap.size, 0, none⟩ 1) = false ∧
    I5 l13 (IntKind.i64.wrap (x8 + 32)) (w19.setCell (Addr.add ⟨w2.heap.size, 0, none⟩ 1) (.slice l20.a l20.len l20.cap)) ∧
    μ6 l13 (IntKind.i64.wrap (x8 + 32)) (w19.setCell (Addr.add ⟨w2.heap.size, 0, none⟩ 1) (.slice l20.a l20.len l20.cap)) < μ6 x7 x8 w9)) (Calls Try.prog 47 #[.slice x7.a x7.len x7.cap] w9 (Rv fun v21 w22 =>
    ∃ p23 : Option Addr, ∃ n24 : Int, v21 = .tuple #[.pointer p23, .int .i64 n24] ∧ (∃ u, w22.cell? (Addr.add ⟨w2.heap.size, 0, none⟩ 0) = some u) ∧
    w22.frozen? (Addr.add ⟨w2.heap.size, 0, none⟩ 0) = false ∧
    R (.tuple #[.pointer (some ⟨w2.heap.size, 0, none⟩), .int .i64 0]) (w22.setCell (Addr.add ⟨w2.heap.size, 0, none⟩ 0) (.pointer p23))))))
theorem B16_eq : @B16 = fun (x_0 : Slc) (w : World) (R : Value → World → Prop) => trF Try.prog G (lk [(7, [(7, .slc), (8, .int .i64)])]) Try.f16 [.slice x_0.a x_0.len x_0.cap] w R := by kernel_rfl
theorem c16 (x_0 : Slc) (w : World) (R : Value → World → Prop) (h : B16 x_0 w R) : Calls Try.prog 16 #[.slice x_0.a x_0.len x_0.cap] w (Rv R) := calls_of_tr (L := lk [(7, [(7, .slc), (8, .int .i64)])]) Try.func16 hG hM (by rw [B16_eq] at h; exact h)

/-- (*locution/shard.Seq).Next -/
def B17 (a_0 : Addr) (x_1 : Int) (w : World) (R : Value → World → Prop) : Prop :=
  Calls Try.prog 21 #[.pointer (some a_0)] w (Rv fun v1 w2 => ∃ n3 : Int, v1 = .int .i64 n3 ∧
    br (decide (n3 = (0 : Int))) (R (.tuple #[.int .i64 (-1), .int .i64 (-1)]) w2) (∃ n4 : Int, w2.cell? (Addr.add a_0 2) = some (.int .i64 n4) ∧
    Calls Try.prog 22 #[.pointer (some a_0), .int .i64 (IntKind.i64.wrap (n4 - 1))] w2 (Rv fun v5 w6 => ∃ n7 : Int, v5 = .int .i64 n7 ∧
    br (decide (n7 < x_1)) (R (.tuple #[.int .i64 (-1), .int .i64 (-1)]) w6) (∃ p8 : Option Addr, w6.cell? (Addr.add a_0 0) = some (.pointer p8) ∧
    Calls Try.prog 74 #[.pointer p8, .int .i64 x_1] w6 (Rv fun v9 w10 => ∃ n11 : Int, ∃ n12 : Int, v9 = .tuple #[.int .i64 n11, .int .i64 n12] ∧
    br (decide (n11 < (0 : Int))) (∃ n13 : Int, w10.cell? (Addr.add a_0 2) = some (.int .i64 n13) ∧
    ∃ l14 : Slc, w10.cell? (Addr.add a_0 1) = some (.slice l14.a l14.len l14.cap) ∧
    br (decide ((0 : Int) < (l14.len : Int))) (∃ p15 : Option Addr, w10.cell? (Addr.add a_0 0) = some (.pointer p15) ∧
    Calls Try.prog 51 #[.pointer p15, .int .i64 (IntKind.i64.wrap ((l14.len : Int) - 1))] w10 (Rv fun v16 w17 => ∃ n18 : Int, v16 = .int .i64 n18 ∧
    ∃ l19 : Slc, w17.cell? (Addr.add a_0 1) = some (.slice l19.a l19.len l19.cap) ∧ 0 ≤ (IntKind.i64.wrap ((l14.len : Int) - 1)) ∧
    (IntKind.i64.wrap ((l14.len : Int) - 1)) < (l19.len : Int) ∧ ∃ a20, l19.a = some a20 ∧
    ∃ v21 : Value, w17.cell? (Addr.add a20 ((IntKind.i64.wrap ((l14.len : Int) - 1)).toNat * 1)) = some (v21) ∧
    CallM Try.prog G "locution/shard.next" (v21) [.int .i64 (IntKind.i64.wrap (x_1 - n18))] w17 fun v22 w23 => ∃ n28 : Int, v22 = .int .i64 n28 ∧
    br (decide ((IntKind.i64.wrap ((IntKind.i64.wrap ((IntKind.i64.wrap ((l14.len : Int) - 1)) * 32)) + n28)) < n13)) (∃ l29 : Slc, w23.cell? (Addr.add a_0 1) = some (.slice l29.a l29.len l29.cap) ∧
    0 ≤ (IntKind.i64.wrap ((l14.len : Int) - 1)) ∧ (IntKind.i64.wrap ((l14.len : Int) - 1)) < (l29.len : Int) ∧ ∃ a30, l29.a = some a30 ∧
    ∃ v31 : Value, w23.cell? (Addr.add a30 ((IntKind.i64.wrap ((l14.len : Int) - 1)).toNat * 1)) = some (v31) ∧
    CallM Try.prog G "locution/shard.at" (v31) [.int .i64 n28] w23 fun v32 w33 => ∃ n38 : Int, v32 = .int .i64 n38 ∧
    R (.tuple #[.int .i64 (IntKind.i64.wrap ((IntKind.i64.wrap ((IntKind.i64.wrap ((l14.len : Int) - 1)) * 32)) + n28)), .int .i64 (IntKind.i64.wrap (n18 + n38))]) w33) (R (.tuple #[.int .i64 n13, .int .i64 n12]) w23))) (R (.tuple #[.int .i64 n13, .int .i64 n12]) w10)) (br (decide ((0 : Int) < n11)) (∃ p39 : Option Addr, w10.cell? (Addr.add a_0 0) = some (.pointer p39) ∧
    Calls Try.prog 51 #[.pointer p39, .int .i64 (IntKind.i64.wrap (n11 - 1))] w10 (Rv fun v40 w41 => ∃ n42 : Int, v40 = .int .i64 n42 ∧
    ∃ l43 : Slc, w41.cell? (Addr.add a_0 1) = some (.slice l43.a l43.len l43.cap) ∧ 0 ≤ (IntKind.i64.wrap (n11 - 1)) ∧
    (IntKind.i64.wrap (n11 - 1)) < (l43.len : Int) ∧ ∃ a44, l43.a = some a44 ∧
    ∃ v45 : Value, w41.cell? (Addr.add a44 ((IntKind.i64.wrap (n11 - 1)).toNat * 1)) = some (v45) ∧
    CallM Try.prog G "locution/shard.next" (v45) [.int .i64 (IntKind.i64.wrap (x_1 - n42))] w41 fun v46 w47 => ∃ n52 : Int, v46 = .int .i64 n52 ∧
    br (decide ((IntKind.i64.wrap ((IntKind.i64.wrap ((IntKind.i64.wrap (n11 - 1)) * 32)) + n52)) < (IntKind.i64.wrap (n11 * 32)))) (∃ l53 : Slc, w47.cell? (Addr.add a_0 1) = some (.slice l53.a l53.len l53.cap) ∧
    0 ≤ (IntKind.i64.wrap (n11 - 1)) ∧ (IntKind.i64.wrap (n11 - 1)) < (l53.len : Int) ∧ ∃ a54, l53.a = some a54 ∧
    ∃ v55 : Value, w47.cell? (Addr.add a54 ((IntKind.i64.wrap (n11 - 1)).toNat * 1)) = some (v55) ∧
    CallM Try.prog G "locution/shard.at" (v55) [.int .i64 n52] w47 fun v56 w57 => ∃ n62 : Int, v56 = .int .i64 n62 ∧
    R (.tuple #[.int .i64 (IntKind.i64.wrap ((IntKind.i64.wrap ((IntKind.i64.wrap (n11 - 1)) * 32)) + n52)), .int .i64 (IntKind.i64.wrap (n42 + n62))]) w57) (R (.tuple #[.int .i64 (IntKind.i64.wrap (n11 * 32)), .int .i64 n12]) w47))) (R (.tuple #[.int .i64 (IntKind.i64.wrap (n11 * 32)), .int .i64 n12]) w10)))))))
theorem B17_eq : @B17 = fun (a_0 : Addr) (x_1 : Int) (w : World) (R : Value → World → Prop) => trF Try.prog G (lk []) Try.f17 [.pointer (some a_0), .int .i64 x_1] w R := by kernel_rfl
theorem c17 (a_0 : Addr) (x_1 : Int) (w : World) (R : Value → World → Prop) (h : B17 a_0 x_1 w R) : Calls Try.prog 17 #[.pointer (some a_0), .int .i64 x_1] w (Rv R) := calls_of_tr (L := lk []) Try.func17 hG hM (by rw [B17_eq] at h; exact h)

/-- (*locution/shard.Seq).All -/
def B20 (a_0 : Addr) (w : World) (R : Value → World → Prop) : Prop :=
  R (.func (.func 75) #[] #[.pointer (some ⟨w.heap.size, 0, none⟩)]) (w.alloc (.cells #[.pointer (some a_0)] 25))
theorem B20_eq : @B20 = fun (a_0 : Addr) (w : World) (R : Value → World → Prop) => trF Try.prog G (lk []) Try.f20 [.pointer (some a_0)] w R := by kernel_rfl
theorem c20 (a_0 : Addr) (w : World) (R : Value → World → Prop) (h : B20 a_0 w R) : Calls Try.prog 20 #[.pointer (some a_0)] w (Rv R) := calls_of_tr (L := lk []) Try.func20 hG hM (by rw [B20_eq] at h; exact h)

/-- (*locution/shard.Seq).Len -/
def B21 (a_0 : Addr) (w : World) (R : Value → World → Prop) : Prop :=
  ∃ n1 : Int, w.cell? (Addr.add a_0 2) = some (.int .i64 n1) ∧ R (.int .i64 n1) w
theorem B21_eq : @B21 = fun (a_0 : Addr) (w : World) (R : Value → World → Prop) => trF Try.prog G (lk []) Try.f21 [.pointer (some a_0)] w R := by kernel_rfl
theorem c21 (a_0 : Addr) (w : World) (R : Value → World → Prop) (h : B21 a_0 w R) : Calls Try.prog 21 #[.pointer (some a_0)] w (Rv R) := calls_of_tr (L := lk []) Try.func21 hG hM (by rw [B21_eq] at h; exact h)

/-- (*locution/shard.Seq).At -/
def B22 (a_0 : Addr) (x_1 : Int) (w : World) (R : Value → World → Prop) : Prop :=
  br (decide (x_1 < (0 : Int))) (R (.int .i64 (-1)) w) (∃ n1 : Int, w.cell? (Addr.add a_0 2) = some (.int .i64 n1) ∧
    br (decide (n1 ≤ x_1)) (R (.int .i64 (-1)) w) (∃ p2 : Option Addr, (World.drew w).cell? (Addr.add a_0 0) = some (.pointer p2) ∧ (32 : Int) ≠ 0 ∧
    ∃ l3 : Slc, (World.drew w).cell? (Addr.add a_0 1) = some (.slice l3.a l3.len l3.cap) ∧ (32 : Int) ≠ 0 ∧ 0 ≤ (IntKind.i64.wrap (Int.tdiv x_1 32)) ∧
    (IntKind.i64.wrap (Int.tdiv x_1 32)) < (l3.len : Int) ∧ ∃ a4, l3.a = some a4 ∧
    ∃ v5 : Value, (World.drew w).cell? (Addr.add a4 ((IntKind.i64.wrap (Int.tdiv x_1 32)).toNat * 1)) = some (v5) ∧ (32 : Int) ≠ 0 ∧
    Calls Try.prog 51 #[.pointer p2, .int .i64 (IntKind.i64.wrap (Int.tdiv x_1 32))] (World.drew w) (Rv fun v6 w7 => ∃ n8 : Int, v6 = .int .i64 n8 ∧
    w7.cell? (Addr.add a4 ((IntKind.i64.wrap (Int.tdiv x_1 32)).toNat * 1)) = some (v5) ∧ w7.cell? (Addr.add a_0 1) = some (.slice l3.a l3.len l3.cap) ∧
    CallM Try.prog G "locution/shard.at" (v5) [.int .i64 (Int.tmod x_1 32)] w7 fun v9 w10 => ∃ n15 : Int, v9 = .int .i64 n15 ∧
    R (.int .i64 (IntKind.i64.wrap (n8 + n15))) w10)))
theorem B22_eq : @B22 = fun (a_0 : Addr) (x_1 : Int) (w : World) (R : Value → World → Prop) => trF Try.prog G (lk []) Try.f22 [.pointer (some a_0), .int .i64 x_1] w R := by kernel_rfl
theorem c22 (a_0 : Addr) (x_1 : Int) (w : World) (R : Value → World → Prop) (h : B22 a_0 x_1 w R) : Calls Try.prog 22 #[.pointer (some a_0), .int .i64 x_1] w (Rv R) := calls_of_tr (L := lk []) Try.func22 hG hM (by rw [B22_eq] at h; exact h)

/-- (*locution/shard.Seq).Size -/
def B23 (a_0 : Addr) (w : World) (R : Value → World → Prop) : Prop :=
  ∃ p1 : Option Addr, w.cell? (Addr.add a_0 0) = some (.pointer p1) ∧ Calls Try.prog 76 #[.pointer p1] w (Rv fun v2 w3 => ∃ n4 : Int, v2 = .int .i64 n4 ∧
    ∃ l5 : Slc, w3.cell? (Addr.add a_0 1) = some (.slice l5.a l5.len l5.cap) ∧ ∃ (I6 : Int → Int → World → Prop) (μ7 : Int → Int → World → Nat), I6 n4 (0 : Int) w3 ∧
    ∀ x8 : Int, ∀ x9 : Int, ∀ w10 : World, I6 x8 x9 w10 → br (decide (x9 < (l5.len : Int))) (0 ≤ x9 ∧ x9 < (l5.len : Int) ∧ ∃ a11, l5.a = some a11 ∧
    ∃ v12 : Value, w10.cell? (Addr.add a11 (x9.toNat * 1)) = some (v12) ∧ CallM Try.prog G "locution/shard.bits" (v12) [] w10 fun v13 w14 =>
    ∃ n19 : Int, v13 = .int .i64 n19 ∧ I6 (IntKind.i64.wrap (x8 + n19)) (IntKind.i64.wrap (x9 + 1)) w14 ∧
    μ7 (IntKind.i64.wrap (x8 + n19)) (IntKind.i64.wrap (x9 + 1)) w14 < μ7 x8 x9 w10) (R (.int .i64 x8) w10))
theorem B23_eq : @B23 = fun (a_0 : Addr) (w : World) (R : Value → World → Prop) => trF Try.prog G (lk [(5, [(3, .int .i64), (18, .int .i64)])]) Try.f23 [.pointer (some a_0)] w R := by kernel_rfl
theorem c23 (a_0 : Addr) (w : World) (R : Value → World → Prop) (h : B23 a_0 w R) : Calls Try.prog 23 #[.pointer (some a_0)] w (Rv R) := calls_of_tr (L := lk [(5, [(3, .int .i64), (18, .int .i64)])]) Try.func23 hG hM (by rw [B23_eq] at h; exact h)

/-- (*locution/shard.Seq).Kinds -/
def B24 (a_0 : Addr) (w : World) (R : Value → World → Prop) : Prop :=
  
    ∃ l1 : Slc, ((w.alloc (.cells #[.int .i64 0, .int .i64 0, .int .i64 0] 38)).alloc (.cells #[.int .i64 0, .int .i64 0, .int .i64 0] 38)).cell? (Addr.add a_0 1) = some (.slice l1.a l1.len l1.cap) ∧
    ∃ (I2 : Int → World → Prop) (μ3 : Int → World →
    Nat), I2 (0 : Int) ((w.alloc (.cells #[.int .i64 0, .int .i64 0, .int .i64 0] 38)).alloc (.cells #[.int .i64 0, .int .i64 0, .int .i64 0] 38)) ∧
    ∀ x4 : Int, ∀ w5 : World, I2 x4 w5 → br (decide (x4 < (l1.len : Int))) (0 ≤ x4 ∧ x4 < (l1.len : Int) ∧ ∃ a6, l1.a = some a6 ∧
    ∃ v7 : Value, w5.cell? (Addr.add a6 (x4.toNat * 1)) = some (v7) ∧ CallM Try.prog G "locution/shard.kind" (v7) [] w5 fun v8 w9 => ∃ n14 : Int, v8 = .int .i64 n14 ∧
    0 ≤ n14 ∧ n14 < (3 : Int) ∧ ∃ a15, (some ⟨(w.alloc (.cells #[.int .i64 0, .int .i64 0, .int .i64 0] 38)).heap.size, 0, none⟩) = some a15 ∧
    ∃ n16 : Int, w9.cell? (Addr.add a15 (n14.toNat * 1)) = some (.int .i64 n16) ∧ 0 ≤ n14 ∧ n14 < (3 : Int) ∧
    ∃ a17, (some ⟨(w.alloc (.cells #[.int .i64 0, .int .i64 0, .int .i64 0] 38)).heap.size, 0, none⟩) = some a17 ∧
    (∃ u, w9.cell? (Addr.add a17 (n14.toNat * 1)) = some u) ∧ w9.frozen? (Addr.add a17 (n14.toNat * 1)) = false ∧
    I2 (IntKind.i64.wrap (x4 + 1)) (w9.setCell (Addr.add a17 (n14.toNat * 1)) (.int .i64 (IntKind.i64.wrap (n16 + 1)))) ∧
    μ3 (IntKind.i64.wrap (x4 + 1)) (w9.setCell (Addr.add a17 (n14.toNat * 1)) (.int .i64 (IntKind.i64.wrap (n16 + 1)))) < μ3 x4 w5) (∃ n18 : Int, ∃ n19 : Int, ∃ n20 : Int, w5.cell? (Addr.add ⟨(w.alloc (.cells #[.int .i64 0, .int .i64 0, .int .i64 0] 38)).heap.size, 0, none⟩ 0) = some (.int .i64 n18) ∧
    w5.cell? (Addr.add ⟨(w.alloc (.cells #[.int .i64 0, .int .i64 0, .int .i64 0] 38)).heap.size, 0, none⟩ 1) = some (.int .i64 n19) ∧
    w5.cell? (Addr.add ⟨(w.alloc (.cells #[.int .i64 0, .int .i64 0, .int .i64 0] 38)).heap.size, 0, none⟩ 2) = some (.int .i64 n20) ∧
    (∃ u, w5.cell? (Addr.add ⟨w.heap.size, 0, none⟩ 0) = some u) ∧ w5.frozen? (Addr.add ⟨w.heap.size, 0, none⟩ 0) = false ∧
    (∃ u, (w5.setCell (Addr.add ⟨w.heap.size, 0, none⟩ 0) (.int .i64 n18)).cell? (Addr.add ⟨w.heap.size, 0, none⟩ 1) = some u) ∧
    (w5.setCell (Addr.add ⟨w.heap.size, 0, none⟩ 0) (.int .i64 n18)).frozen? (Addr.add ⟨w.heap.size, 0, none⟩ 1) = false ∧
    (∃ u, ((w5.setCell (Addr.add ⟨w.heap.size, 0, none⟩ 0) (.int .i64 n18)).setCell (Addr.add ⟨w.heap.size, 0, none⟩ 1) (.int .i64 n19)).cell? (Addr.add ⟨w.heap.size, 0, none⟩ 2) = some u) ∧
    ((w5.setCell (Addr.add ⟨w.heap.size, 0, none⟩ 0) (.int .i64 n18)).setCell (Addr.add ⟨w.heap.size, 0, none⟩ 1) (.int .i64 n19)).frozen? (Addr.add ⟨w.heap.size, 0, none⟩ 2) = false ∧
    ([] : List Nat).Nodup ∧ (∀ D, D ∈ ([] : List Nat) →
    (((w5.setCell (Addr.add ⟨w.heap.size, 0, none⟩ 0) (.int .i64 n18)).setCell (Addr.add ⟨w.heap.size, 0, none⟩ 1) (.int .i64 n19)).setCell (Addr.add ⟨w.heap.size, 0, none⟩ 2) (.int .i64 n20)).heap[D]? = some (.deferred (some []))) ∧
    ∀ w21 : World, Kp (fun k =>
    k ∈ ([] : List Nat)) (((w5.setCell (Addr.add ⟨w.heap.size, 0, none⟩ 0) (.int .i64 n18)).setCell (Addr.add ⟨w.heap.size, 0, none⟩ 1) (.int .i64 n19)).setCell (Addr.add ⟨w.heap.size, 0, none⟩ 2) (.int .i64 n20)) w21 →
    ∃ n22 : Int, ∃ n23 : Int, ∃ n24 : Int, w21.cell? (Addr.add ⟨w.heap.size, 0, none⟩ 0) = some (.int .i64 n22) ∧
    w21.cell? (Addr.add ⟨w.heap.size, 0, none⟩ 1) = some (.int .i64 n23) ∧ w21.cell? (Addr.add ⟨w.heap.size, 0, none⟩ 2) = some (.int .i64 n24) ∧
    R (.agg #[.int .i64 n22, .int .i64 n23, .int .i64 n24]) w21)
theorem B24_eq : @B24 = fun (a_0 : Addr) (w : World) (R : Value → World → Prop) => trFT Try.prog G (lk [(5, [(14, .int .i64)])]) Try.f24 [.pointer (some a_0)] w R := by kernel_rfl
theorem c24 (a_0 : Addr) (w : World) (R : Value → World → Prop) (h : B24 a_0 w R) : Calls Try.prog 24 #[.pointer (some a_0)] w (Rv R) := calls_of_trT (L := lk [(5, [(14, .int .i64)])]) Try.func24 hG hM (by rw [B24_eq] at h; exact h)

/-- locution/shard.cut -/
def B73 (x_0 : Slc) (w : World) (R : Value → World → Prop) : Prop :=
  ∃ w1 : World, ∃ l2 : Slc, (Instr.makeSlice 22 (.int .i64 (x_0.len : Int)) (.int .i64 (x_0.len : Int))).run Try.prog w = .ok (.slice l2.a l2.len l2.cap) w1 ∧
    ∃ (I3 : Bool → Bool → Int → World → Prop) (μ4 : Bool → Bool → Int → World → Nat), I3 true true (0 : Int) w1 ∧
    ∀ x5 : Bool, ∀ x6 : Bool, ∀ x7 : Int, ∀ w8 : World, I3 x5 x6 x7 w8 → br (decide (x7 < (x_0.len : Int))) (0 ≤ x7 ∧ x7 < (x_0.len : Int) ∧ ∃ a9, x_0.a = some a9 ∧
    ∃ n10 : Int, w8.cell? (Addr.add a9 (x7.toNat * 1)) = some (.int .i64 n10) ∧ 0 ≤ (0 : Int) ∧ 0 < (x_0.len : Int) ∧ ∃ a11, x_0.a = some a11 ∧
    ∃ n12 : Int, w8.cell? (Addr.add a11 ((0 : Int).toNat * 1)) = some (.int .i64 n12) ∧ 0 ≤ x7 ∧ x7 < (l2.len : Int) ∧ ∃ a13, l2.a = some a13 ∧
    (∃ u, w8.cell? (Addr.add a13 (x7.toNat * 1)) = some u) ∧ w8.frozen? (Addr.add a13 (x7.toNat * 1)) = false ∧ br x5 (0 ≤ x7 ∧ x7 < (l2.len : Int) ∧
    ∃ a14, l2.a = some a14 ∧
    ∃ n15 : Int, (w8.setCell (Addr.add a13 (x7.toNat * 1)) (.int .i64 (IntKind.i64.wrap (n10 - n12)))).cell? (Addr.add a14 (x7.toNat * 1)) = some (.int .i64 n15) ∧
    br x6 (0 ≤ x7 ∧ x7 < (l2.len : Int) ∧ ∃ a16, l2.a = some a16 ∧
    ∃ n17 : Int, (w8.setCell (Addr.add a13 (x7.toNat * 1)) (.int .i64 (IntKind.i64.wrap (n10 - n12)))).cell? (Addr.add a16 (x7.toNat * 1)) = some (.int .i64 n17) ∧
    I3 (decide (n15 = x7)) (decide (n17 = (0 : Int))) (IntKind.i64.wrap (x7 + 1)) (w8.setCell (Addr.add a13 (x7.toNat * 1)) (.int .i64 (IntKind.i64.wrap (n10 - n12)))) ∧
    μ4 (decide (n15 = x7)) (decide (n17 = (0 : Int))) (IntKind.i64.wrap (x7 + 1)) (w8.setCell (Addr.add a13 (x7.toNat * 1)) (.int .i64 (IntKind.i64.wrap (n10 - n12)))) < μ4 x5 x6 x7 w8) (I3 (decide (n15 = x7)) false (IntKind.i64.wrap (x7 + 1)) (w8.setCell (Addr.add a13 (x7.toNat * 1)) (.int .i64 (IntKind.i64.wrap (n10 - n12)))) ∧
    μ4 (decide (n15 = x7)) false (IntKind.i64.wrap (x7 + 1)) (w8.setCell (Addr.add a13 (x7.toNat * 1)) (.int .i64 (IntKind.i64.wrap (n10 - n12)))) < μ4 x5 x6 x7 w8)) (br x6 (0 ≤ x7 ∧
    x7 < (l2.len : Int) ∧ ∃ a18, l2.a = some a18 ∧
    ∃ n19 : Int, (w8.setCell (Addr.add a13 (x7.toNat * 1)) (.int .i64 (IntKind.i64.wrap (n10 - n12)))).cell? (Addr.add a18 (x7.toNat * 1)) = some (.int .i64 n19) ∧
    I3 false (decide (n19 = (0 : Int))) (IntKind.i64.wrap (x7 + 1)) (w8.setCell (Addr.add a13 (x7.toNat * 1)) (.int .i64 (IntKind.i64.wrap (n10 - n12)))) ∧
    μ4 false (decide (n19 = (0 : Int))) (IntKind.i64.wrap (x7 + 1)) (w8.setCell (Addr.add a13 (x7.toNat * 1)) (.int .i64 (IntKind.i64.wrap (n10 - n12)))) < μ4 x5 x6 x7 w8) (I3 false false (IntKind.i64.wrap (x7 + 1)) (w8.setCell (Addr.add a13 (x7.toNat * 1)) (.int .i64 (IntKind.i64.wrap (n10 - n12)))) ∧
    μ4 false false (IntKind.i64.wrap (x7 + 1)) (w8.setCell (Addr.add a13 (x7.toNat * 1)) (.int .i64 (IntKind.i64.wrap (n10 - n12)))) < μ4 x5 x6 x7 w8))) (br x5 (R (.iface 121 (.agg #[.int .i64 (x_0.len : Int)])) w8) (br x6 (R (.iface 122 (.agg #[.int .i64 (x_0.len : Int)])) w8) (Calls Try.prog 47 #[.slice l2.a l2.len l2.cap] w8 (Rv fun v20 w21 =>
    ∃ p22 : Option Addr, ∃ n23 : Int, v20 = .tuple #[.pointer p22, .int .i64 n23] ∧ R (.iface 124 (.agg #[.pointer p22])) w21))))
theorem B73_eq : @B73 = fun (x_0 : Slc) (w : World) (R : Value → World → Prop) => trF Try.prog G (lk [(4, [(3, .bool), (4, .bool), (15, .int .i64)])]) Try.f73 [.slice x_0.a x_0.len x_0.cap] w R := by kernel_rfl
theorem c73 (x_0 : Slc) (w : World) (R : Value → World → Prop) (h : B73 x_0 w R) : Calls Try.prog 73 #[.slice x_0.a x_0.len x_0.cap] w (Rv R) := calls_of_tr (L := lk [(4, [(3, .bool), (4, .bool), (15, .int .i64)])]) Try.func73 hG hM (by rw [B73_eq] at h; exact h)

/-- (*locution/shard.Seq).All$1 -/
def B75 (x_0 : Value) (a_1 : Addr) (w : World) (R : Value → World → Prop) : Prop :=
  ∃ p1 : Option Addr, w.cell? a_1 = some (.pointer p1) ∧ Calls Try.prog 21 #[.pointer p1] w (Rv fun v2 w3 => ∃ n4 : Int, v2 = .int .i64 n4 ∧ ∃ (I5 : Int → World →
    Prop) (μ6 : Int → World → Nat), I5 (0 : Int) w3 ∧ ∀ x7 : Int, ∀ w8 : World, I5 x7 w8 →
    br (decide (x7 < n4)) (∃ p9 : Option Addr, w8.cell? a_1 = some (.pointer p9) ∧ Calls Try.prog 22 #[.pointer p9, .int .i64 x7] w8 (Rv fun v10 w11 =>
    ∃ n12 : Int, v10 = .int .i64 n12 ∧ CallFV Try.prog G x_0 [.int .i64 x7, .int .i64 n12] w11 fun v13 w14 => ∃ b15 : Bool, v13 = .bool b15 ∧
    br (!b15) (R (.tuple #[]) w14) (I5 (IntKind.i64.wrap (x7 + 1)) w14 ∧ μ6 (IntKind.i64.wrap (x7 + 1)) w14 < μ6 x7 w8))) (R (.tuple #[]) w8))
theorem B75_eq : @B75 = fun (x_0 : Value) (a_1 : Addr) (w : World) (R : Value → World → Prop) => trF Try.prog G (lk [(1, [(6, .int .i64)])]) Try.f75 [x_0, .pointer (some a_1)] w R := by kernel_rfl
theorem c75 (x_0 : Value) (a_1 : Addr) (w : World) (R : Value → World → Prop) (h : B75 x_0 a_1 w R) : Calls Try.prog 75 #[x_0, .pointer (some a_1)] w (Rv R) := calls_of_tr (L := lk [(1, [(6, .int .i64)])]) Try.func75 hG hM (by rw [B75_eq] at h; exact h)

/-- (locution/shard.run).at -/
def B152 (x0_0 : Int) (x_1 : Int) (w : World) (R : Value → World → Prop) : Prop :=
  R (.int .i64 x_1) (w.alloc (.cells #[.int .i64 x0_0] 121))
theorem B152_eq : @B152 = fun (x0_0 : Int) (x_1 : Int) (w : World) (R : Value → World → Prop) => trF Try.prog G (lk []) Try.f152 [.agg #[.int .i64 x0_0], .int .i64 x_1] w R := by kernel_rfl
theorem c152 (x0_0 : Int) (x_1 : Int) (w : World) (R : Value → World → Prop) (h : B152 x0_0 x_1 w R) : Calls Try.prog 152 #[.agg #[.int .i64 x0_0], .int .i64 x_1] w (Rv R) := calls_of_tr (L := lk []) Try.func152 hG hM (by rw [B152_eq] at h; exact h)

/-- (locution/shard.run).bits -/
def B153 (x0_0 : Int) (w : World) (R : Value → World → Prop) : Prop :=
  R (.int .i64 0) (w.alloc (.cells #[.int .i64 x0_0] 121))
theorem B153_eq : @B153 = fun (x0_0 : Int) (w : World) (R : Value → World → Prop) => trF Try.prog G (lk []) Try.f153 [.agg #[.int .i64 x0_0]] w R := by kernel_rfl
theorem c153 (x0_0 : Int) (w : World) (R : Value → World → Prop) (h : B153 x0_0 w R) : Calls Try.prog 153 #[.agg #[.int .i64 x0_0]] w (Rv R) := calls_of_tr (L := lk []) Try.func153 hG hM (by rw [B153_eq] at h; exact h)

/-- (locution/shard.run).kind -/
def B154 (x0_0 : Int) (w : World) (R : Value → World → Prop) : Prop :=
  R (.int .i64 0) (w.alloc (.cells #[.int .i64 x0_0] 121))
theorem B154_eq : @B154 = fun (x0_0 : Int) (w : World) (R : Value → World → Prop) => trF Try.prog G (lk []) Try.f154 [.agg #[.int .i64 x0_0]] w R := by kernel_rfl
theorem c154 (x0_0 : Int) (w : World) (R : Value → World → Prop) (h : B154 x0_0 w R) : Calls Try.prog 154 #[.agg #[.int .i64 x0_0]] w (Rv R) := calls_of_tr (L := lk []) Try.func154 hG hM (by rw [B154_eq] at h; exact h)

/-- (locution/shard.run).next -/
def B155 (x0_0 : Int) (x_1 : Int) (w : World) (R : Value → World → Prop) : Prop :=
  ∃ n1 : Int, (w.alloc (.cells #[.int .i64 x0_0] 121)).cell? (Addr.add ⟨w.heap.size, 0, none⟩ 0) = some (.int .i64 n1) ∧
    R (.int .i64 (min x_1 n1)) (w.alloc (.cells #[.int .i64 x0_0] 121))
theorem B155_eq : @B155 = fun (x0_0 : Int) (x_1 : Int) (w : World) (R : Value → World → Prop) => trF Try.prog G (lk []) Try.f155 [.agg #[.int .i64 x0_0], .int .i64 x_1] w R := by kernel_rfl
theorem c155 (x0_0 : Int) (x_1 : Int) (w : World) (R : Value → World → Prop) (h : B155 x0_0 x_1 w R) : Calls Try.prog 155 #[.agg #[.int .i64 x0_0], .int .i64 x_1] w (Rv R) := calls_of_tr (L := lk []) Try.func155 hG hM (by rw [B155_eq] at h; exact h)

/-- (locution/shard.alike).at -/
def B156 (x0_0 : Int) (x_1 : Int) (w : World) (R : Value → World → Prop) : Prop :=
  R (.int .i64 0) (w.alloc (.cells #[.int .i64 x0_0] 122))
theorem B156_eq : @B156 = fun (x0_0 : Int) (x_1 : Int) (w : World) (R : Value → World → Prop) => trF Try.prog G (lk []) Try.f156 [.agg #[.int .i64 x0_0], .int .i64 x_1] w R := by kernel_rfl
theorem c156 (x0_0 : Int) (x_1 : Int) (w : World) (R : Value → World → Prop) (h : B156 x0_0 x_1 w R) : Calls Try.prog 156 #[.agg #[.int .i64 x0_0], .int .i64 x_1] w (Rv R) := calls_of_tr (L := lk []) Try.func156 hG hM (by rw [B156_eq] at h; exact h)

/-- (locution/shard.alike).bits -/
def B157 (x0_0 : Int) (w : World) (R : Value → World → Prop) : Prop :=
  R (.int .i64 0) (w.alloc (.cells #[.int .i64 x0_0] 122))
theorem B157_eq : @B157 = fun (x0_0 : Int) (w : World) (R : Value → World → Prop) => trF Try.prog G (lk []) Try.f157 [.agg #[.int .i64 x0_0]] w R := by kernel_rfl
theorem c157 (x0_0 : Int) (w : World) (R : Value → World → Prop) (h : B157 x0_0 w R) : Calls Try.prog 157 #[.agg #[.int .i64 x0_0]] w (Rv R) := calls_of_tr (L := lk []) Try.func157 hG hM (by rw [B157_eq] at h; exact h)

/-- (locution/shard.alike).kind -/
def B158 (x0_0 : Int) (w : World) (R : Value → World → Prop) : Prop :=
  R (.int .i64 1) (w.alloc (.cells #[.int .i64 x0_0] 122))
theorem B158_eq : @B158 = fun (x0_0 : Int) (w : World) (R : Value → World → Prop) => trF Try.prog G (lk []) Try.f158 [.agg #[.int .i64 x0_0]] w R := by kernel_rfl
theorem c158 (x0_0 : Int) (w : World) (R : Value → World → Prop) (h : B158 x0_0 w R) : Calls Try.prog 158 #[.agg #[.int .i64 x0_0]] w (Rv R) := calls_of_tr (L := lk []) Try.func158 hG hM (by rw [B158_eq] at h; exact h)

/-- (locution/shard.alike).next -/
def B159 (x0_0 : Int) (x_1 : Int) (w : World) (R : Value → World → Prop) : Prop :=
  br (decide ((0 : Int) < x_1)) (∃ n1 : Int, (w.alloc (.cells #[.int .i64 x0_0] 122)).cell? (Addr.add ⟨w.heap.size, 0, none⟩ 0) = some (.int .i64 n1) ∧
    R (.int .i64 n1) (w.alloc (.cells #[.int .i64 x0_0] 122))) (R (.int .i64 0) (w.alloc (.cells #[.int .i64 x0_0] 122)))
theorem B159_eq : @B159 = fun (x0_0 : Int) (x_1 : Int) (w : World) (R : Value → World → Prop) => trF Try.prog G (lk []) Try.f159 [.agg #[.int .i64 x0_0], .int .i64 x_1] w R := by kernel_rfl
theorem c159 (x0_0 : Int) (x_1 : Int) (w : World) (R : Value → World → Prop) (h : B159 x0_0 x_1 w R) : Calls Try.prog 159 #[.agg #[.int .i64 x0_0], .int .i64 x_1] w (Rv R) := calls_of_tr (L := lk []) Try.func159 hG hM (by rw [B159_eq] at h; exact h)

/-- (locution/shard.other).at -/
def B160 (x0_0 : Option Addr) (x_1 : Int) (w : World) (R : Value → World → Prop) : Prop :=
  ∃ p1 : Option Addr, (w.alloc (.cells #[.pointer x0_0] 124)).cell? (Addr.add ⟨w.heap.size, 0, none⟩ 0) = some (.pointer p1) ∧
    Calls Try.prog 51 #[.pointer p1, .int .i64 x_1] (w.alloc (.cells #[.pointer x0_0] 124)) (Rv fun v2 w3 => ∃ n4 : Int, v2 = .int .i64 n4 ∧ R (.int .i64 n4) w3)
theorem B160_eq : @B160 = fun (x0_0 : Option Addr) (x_1 : Int) (w : World) (R : Value → World → Prop) => trF Try.prog G (lk []) Try.f160 [.agg #[.pointer x0_0], .int .i64 x_1] w R := by kernel_rfl
theorem c160 (x0_0 : Option Addr) (x_1 : Int) (w : World) (R : Value → World → Prop) (h : B160 x0_0 x_1 w R) : Calls Try.prog 160 #[.agg #[.pointer x0_0], .int .i64 x_1] w (Rv R) := calls_of_tr (L := lk []) Try.func160 hG hM (by rw [B160_eq] at h; exact h)

/-- (locution/shard.other).bits -/
def B161 (x0_0 : Option Addr) (w : World) (R : Value → World → Prop) : Prop :=
  ∃ p1 : Option Addr, (w.alloc (.cells #[.pointer x0_0] 124)).cell? (Addr.add ⟨w.heap.size, 0, none⟩ 0) = some (.pointer p1) ∧
    Calls Try.prog 76 #[.pointer p1] (w.alloc (.cells #[.pointer x0_0] 124)) (Rv fun v2 w3 => ∃ n4 : Int, v2 = .int .i64 n4 ∧ R (.int .i64 n4) w3)
theorem B161_eq : @B161 = fun (x0_0 : Option Addr) (w : World) (R : Value → World → Prop) => trF Try.prog G (lk []) Try.f161 [.agg #[.pointer x0_0]] w R := by kernel_rfl
theorem c161 (x0_0 : Option Addr) (w : World) (R : Value → World → Prop) (h : B161 x0_0 w R) : Calls Try.prog 161 #[.agg #[.pointer x0_0]] w (Rv R) := calls_of_tr (L := lk []) Try.func161 hG hM (by rw [B161_eq] at h; exact h)

/-- (locution/shard.other).kind -/
def B162 (x0_0 : Option Addr) (w : World) (R : Value → World → Prop) : Prop :=
  R (.int .i64 2) (w.alloc (.cells #[.pointer x0_0] 124))
theorem B162_eq : @B162 = fun (x0_0 : Option Addr) (w : World) (R : Value → World → Prop) => trF Try.prog G (lk []) Try.f162 [.agg #[.pointer x0_0]] w R := by kernel_rfl
theorem c162 (x0_0 : Option Addr) (w : World) (R : Value → World → Prop) (h : B162 x0_0 w R) : Calls Try.prog 162 #[.agg #[.pointer x0_0]] w (Rv R) := calls_of_tr (L := lk []) Try.func162 hG hM (by rw [B162_eq] at h; exact h)

/-- (locution/shard.other).next -/
def B163 (x0_0 : Option Addr) (x_1 : Int) (w : World) (R : Value → World → Prop) : Prop :=
  ∃ p1 : Option Addr, (w.alloc (.cells #[.pointer x0_0] 124)).cell? (Addr.add ⟨w.heap.size, 0, none⟩ 0) = some (.pointer p1) ∧
    Calls Try.prog 74 #[.pointer p1, .int .i64 x_1] (w.alloc (.cells #[.pointer x0_0] 124)) (Rv fun v2 w3 =>
    ∃ n4 : Int, ∃ n5 : Int, v2 = .tuple #[.int .i64 n4, .int .i64 n5] ∧
    br (decide (n4 < (0 : Int))) (∃ p6 : Option Addr, w3.cell? (Addr.add ⟨w.heap.size, 0, none⟩ 0) = some (.pointer p6) ∧
    Calls Try.prog 54 #[.pointer p6] w3 (Rv fun v7 w8 => ∃ n9 : Int, v7 = .int .i64 n9 ∧ R (.int .i64 n9) w8)) (R (.int .i64 n4) w3))
theorem B163_eq : @B163 = fun (x0_0 : Option Addr) (x_1 : Int) (w : World) (R : Value → World → Prop) => trF Try.prog G (lk []) Try.f163 [.agg #[.pointer x0_0], .int .i64 x_1] w R := by kernel_rfl
theorem c163 (x0_0 : Option Addr) (x_1 : Int) (w : World) (R : Value → World → Prop) (h : B163 x0_0 x_1 w R) : Calls Try.prog 163 #[.agg #[.pointer x0_0], .int .i64 x_1] w (Rv R) := calls_of_tr (L := lk []) Try.func163 hG hM (by rw [B163_eq] at h; exact h)

/-- locution/locutionref08.Kinds -/
def B25 (x_0 : Slc) (w : World) (R : Value → World → Prop) : Prop :=
  ∃ (I1 : Int → World → Prop) (μ2 : Int → World →
    Nat), I1 (0 : Int) ((w.alloc (.cells #[.int .i64 0, .int .i64 0, .int .i64 0] 38)).alloc (.cells #[.int .i64 0, .int .i64 0, .int .i64 0] 38)) ∧
    ∀ x3 : Int, ∀ w4 : World, I1 x3 w4 → Calls Try.prog 77 #[.slice x_0.a x_0.len x_0.cap] w4 (Rv fun v5 w6 => ∃ n7 : Int, v5 = .int .i64 n7 ∧
    br (decide (x3 < n7)) (Calls Try.prog 79 #[.slice x_0.a x_0.len x_0.cap, .int .i64 x3] w6 (Rv fun v8 w9 => ∃ l10 : Slc, v8 = .slice l10.a l10.len l10.cap ∧
    Calls Try.prog 78 #[.slice l10.a l10.len l10.cap] w9 (Rv fun v11 w12 => ∃ n13 : Int, v11 = .int .i64 n13 ∧ 0 ≤ n13 ∧ n13 < (3 : Int) ∧
    ∃ a14, (some ⟨(w.alloc (.cells #[.int .i64 0, .int .i64 0, .int .i64 0] 38)).heap.size, 0, none⟩) = some a14 ∧
    ∃ n15 : Int, w12.cell? (Addr.add a14 (n13.toNat * 1)) = some (.int .i64 n15) ∧ 0 ≤ n13 ∧ n13 < (3 : Int) ∧
    ∃ a16, (some ⟨(w.alloc (.cells #[.int .i64 0, .int .i64 0, .int .i64 0] 38)).heap.size, 0, none⟩) = some a16 ∧
    (∃ u, w12.cell? (Addr.add a16 (n13.toNat * 1)) = some u) ∧ w12.frozen? (Addr.add a16 (n13.toNat * 1)) = false ∧
    I1 (IntKind.i64.wrap (x3 + 1)) (w12.setCell (Addr.add a16 (n13.toNat * 1)) (.int .i64 (IntKind.i64.wrap (n15 + 1)))) ∧
    μ2 (IntKind.i64.wrap (x3 + 1)) (w12.setCell (Addr.add a16 (n13.toNat * 1)) (.int .i64 (IntKind.i64.wrap (n15 + 1)))) < μ2 x3 w4))) (∃ n17 : Int, ∃ n18 : Int, ∃ n19 : Int, w6.cell? (Addr.add ⟨(w.alloc (.cells #[.int .i64 0, .int .i64 0, .int .i64 0] 38)).heap.size, 0, none⟩ 0) = some (.int .i64 n17) ∧
    w6.cell? (Addr.add ⟨(w.alloc (.cells #[.int .i64 0, .int .i64 0, .int .i64 0] 38)).heap.size, 0, none⟩ 1) = some (.int .i64 n18) ∧
    w6.cell? (Addr.add ⟨(w.alloc (.cells #[.int .i64 0, .int .i64 0, .int .i64 0] 38)).heap.size, 0, none⟩ 2) = some (.int .i64 n19) ∧
    (∃ u, w6.cell? (Addr.add ⟨w.heap.size, 0, none⟩ 0) = some u) ∧ w6.frozen? (Addr.add ⟨w.heap.size, 0, none⟩ 0) = false ∧
    (∃ u, (w6.setCell (Addr.add ⟨w.heap.size, 0, none⟩ 0) (.int .i64 n17)).cell? (Addr.add ⟨w.heap.size, 0, none⟩ 1) = some u) ∧
    (w6.setCell (Addr.add ⟨w.heap.size, 0, none⟩ 0) (.int .i64 n17)).frozen? (Addr.add ⟨w.heap.size, 0, none⟩ 1) = false ∧
    (∃ u, ((w6.setCell (Addr.add ⟨w.heap.size, 0, none⟩ 0) (.int .i64 n17)).setCell (Addr.add ⟨w.heap.size, 0, none⟩ 1) (.int .i64 n18)).cell? (Addr.add ⟨w.heap.size, 0, none⟩ 2) = some u) ∧
    ((w6.setCell (Addr.add ⟨w.heap.size, 0, none⟩ 0) (.int .i64 n17)).setCell (Addr.add ⟨w.heap.size, 0, none⟩ 1) (.int .i64 n18)).frozen? (Addr.add ⟨w.heap.size, 0, none⟩ 2) = false ∧
    ([] : List Nat).Nodup ∧ (∀ D, D ∈ ([] : List Nat) →
    (((w6.setCell (Addr.add ⟨w.heap.size, 0, none⟩ 0) (.int .i64 n17)).setCell (Addr.add ⟨w.heap.size, 0, none⟩ 1) (.int .i64 n18)).setCell (Addr.add ⟨w.heap.size, 0, none⟩ 2) (.int .i64 n19)).heap[D]? = some (.deferred (some []))) ∧
    ∀ w20 : World, Kp (fun k =>
    k ∈ ([] : List Nat)) (((w6.setCell (Addr.add ⟨w.heap.size, 0, none⟩ 0) (.int .i64 n17)).setCell (Addr.add ⟨w.heap.size, 0, none⟩ 1) (.int .i64 n18)).setCell (Addr.add ⟨w.heap.size, 0, none⟩ 2) (.int .i64 n19)) w20 →
    ∃ n21 : Int, ∃ n22 : Int, ∃ n23 : Int, w20.cell? (Addr.add ⟨w.heap.size, 0, none⟩ 0) = some (.int .i64 n21) ∧
    w20.cell? (Addr.add ⟨w.heap.size, 0, none⟩ 1) = some (.int .i64 n22) ∧ w20.cell? (Addr.add ⟨w.heap.size, 0, none⟩ 2) = some (.int .i64 n23) ∧
    R (.agg #[.int .i64 n21, .int .i64 n22, .int .i64 n23]) w20))
theorem B25_eq : @B25 = fun (x_0 : Slc) (w : World) (R : Value → World → Prop) => trFT Try.prog G (lk [(3, [(4, .int .i64)])]) Try.f25 [.slice x_0.a x_0.len x_0.cap] w R := by kernel_rfl
theorem c25 (x_0 : Slc) (w : World) (R : Value → World → Prop) (h : B25 x_0 w R) : Calls Try.prog 25 #[.slice x_0.a x_0.len x_0.cap] w (Rv R) := calls_of_trT (L := lk [(3, [(4, .int .i64)])]) Try.func25 hG hM (by rw [B25_eq] at h; exact h)

/-- locution/locutionref08.Size -/
def B26 (x_0 : Slc) (w : World) (R : Value → World → Prop) : Prop :=
  ∃ (I1 : Slc → Int → Int → World → Prop) (μ2 : Slc → Int → Int → World → Nat), I1 ⟨none, 0, 0⟩ (0 : Int) (0 : Int) w ∧
    ∀ x3 : Slc, ∀ x4 : Int, ∀ x5 : Int, ∀ w6 : World, I1 x3 x4 x5 w6 → Calls Try.prog 77 #[.slice x_0.a x_0.len x_0.cap] w6 (Rv fun v7 w8 =>
    ∃ n9 : Int, v7 = .int .i64 n9 ∧ br (decide (x5 < n9)) (Calls Try.prog 79 #[.slice x_0.a x_0.len x_0.cap, .int .i64 x5] w8 (Rv fun v10 w11 =>
    ∃ l12 : Slc, v10 = .slice l12.a l12.len l12.cap ∧ 0 ≤ (0 : Int) ∧ 0 < (l12.len : Int) ∧ ∃ a13, l12.a = some a13 ∧
    ∃ n14 : Int, w11.cell? (Addr.add a13 ((0 : Int).toNat * 1)) = some (.int .i64 n14) ∧
    ∃ w15 : World, ∃ l16 : Slc, (Builtin.append_ #[22, 22] 22 #[.slice x3.a x3.len x3.cap, .slice (some ⟨w11.heap.size, 0, none⟩) 1 1]).run Try.prog (w11.alloc (.cells #[.int .i64 n14] 3)) = .ok (.slice l16.a l16.len l16.cap) w15 ∧
    ∃ (I17 : Slc → Int → World → Prop) (μ18 : Slc → Int → World → Nat), I17 ⟨none, 0, 0⟩ (0 : Int) w15 ∧ ∀ x19 : Slc, ∀ x20 : Int, ∀ w21 : World, I17 x19 x20 w21 →
    br (decide (x20 < (l12.len : Int))) (0 ≤ x20 ∧ x20 < (l12.len : Int) ∧ ∃ a22, l12.a = some a22 ∧
    ∃ n23 : Int, (World.drew w21).cell? (Addr.add a22 (x20.toNat * 1)) = some (.int .i64 n23) ∧ 0 ≤ (0 : Int) ∧ 0 < (l12.len : Int) ∧ ∃ a24, l12.a = some a24 ∧
    ∃ n25 : Int, (World.drew w21).cell? (Addr.add a24 ((0 : Int).toNat * 1)) = some (.int .i64 n25) ∧
    ∃ w26 : World, ∃ l27 : Slc, (Builtin.append_ #[22, 22] 22 #[.slice x19.a x19.len x19.cap, .slice (some ⟨(World.drew w21).heap.size, 0, none⟩) 1 1]).run Try.prog ((World.drew w21).alloc (.cells #[.int .i64 (IntKind.i64.wrap (n23 - n25))] 3)) = .ok (.slice l27.a l27.len l27.cap) w26 ∧
    I17 l27 (IntKind.i64.wrap (x20 + 1)) w26 ∧
    μ18 l27 (IntKind.i64.wrap (x20 + 1)) w26 < μ18 x19 x20 w21) (Calls Try.prog 78 #[.slice l12.a l12.len l12.cap] w21 (Rv fun v28 w29 =>
    ∃ n30 : Int, v28 = .int .i64 n30 ∧ br (decide (n30 = (2 : Int))) (Calls Try.prog 41 #[.slice x19.a x19.len x19.cap] w29 (Rv fun v31 w32 =>
    ∃ n33 : Int, v31 = .int .i64 n33 ∧ I1 l16 (IntKind.i64.wrap (x4 + n33)) (IntKind.i64.wrap (x5 + 1)) w32 ∧
    μ2 l16 (IntKind.i64.wrap (x4 + n33)) (IntKind.i64.wrap (x5 + 1)) w32 < μ2 x3 x4 x5 w6)) (I1 l16 x4 (IntKind.i64.wrap (x5 + 1)) w29 ∧
    μ2 l16 x4 (IntKind.i64.wrap (x5 + 1)) w29 < μ2 x3 x4 x5 w6))))) (Calls Try.prog 41 #[.slice x3.a x3.len x3.cap] w8 (Rv fun v34 w35 =>
    ∃ n36 : Int, v34 = .int .i64 n36 ∧ R (.int .i64 (IntKind.i64.wrap (x4 + n36))) w35)))
theorem B26_eq : @B26 = fun (x_0 : Slc) (w : World) (R : Value → World → Prop) => trF Try.prog G (lk [(4, [(3, .slc), (4, .int .i64), (5, .int .i64)]), (10, [(7, .slc), (8, .int .i64)])]) Try.f26 [.slice x_0.a x_0.len x_0.cap] w R := by kernel_rfl
theorem c26 (x_0 : Slc) (w : World) (R : Value → World → Prop) (h : B26 x_0 w R) : Calls Try.prog 26 #[.slice x_0.a x_0.len x_0.cap] w (Rv R) := calls_of_tr (L := lk [(4, [(3, .slc), (4, .int .i64), (5, .int .i64)]), (10, [(7, .slc), (8, .int .i64)])]) Try.func26 hG hM (by rw [B26_eq] at h; exact h)

/-- locution/locutionref08.Parts -/
def B77 (x_0 : Slc) (w : World) (R : Value → World → Prop) : Prop :=
  (32 : Int) ≠ 0 ∧ R (.int .i64 (IntKind.i64.wrap (Int.tdiv (IntKind.i64.wrap ((x_0.len : Int) + 31)) 32))) w
theorem B77_eq : @B77 = fun (x_0 : Slc) (w : World) (R : Value → World → Prop) => trF Try.prog G (lk []) Try.f77 [.slice x_0.a x_0.len x_0.cap] w R := by kernel_rfl
theorem c77 (x_0 : Slc) (w : World) (R : Value → World → Prop) (h : B77 x_0 w R) : Calls Try.prog 77 #[.slice x_0.a x_0.len x_0.cap] w (Rv R) := calls_of_tr (L := lk []) Try.func77 hG hM (by rw [B77_eq] at h; exact h)

/-- locution/locutionref08.Kind -/
def B78 (x_0 : Slc) (w : World) (R : Value → World → Prop) : Prop :=
  ∃ (I1 : Bool → Bool → Int → World → Prop) (μ2 : Bool → Bool → Int → World → Nat), I1 true true (0 : Int) w ∧
    ∀ x3 : Bool, ∀ x4 : Bool, ∀ x5 : Int, ∀ w6 : World, I1 x3 x4 x5 w6 → br (decide (x5 < (x_0.len : Int))) (br x3 (0 ≤ x5 ∧ x5 < (x_0.len : Int) ∧
    ∃ a7, x_0.a = some a7 ∧ ∃ n8 : Int, (World.drew w6).cell? (Addr.add a7 (x5.toNat * 1)) = some (.int .i64 n8) ∧ 0 ≤ (0 : Int) ∧ 0 < (x_0.len : Int) ∧
    ∃ a9, x_0.a = some a9 ∧ ∃ n10 : Int, (World.drew w6).cell? (Addr.add a9 ((0 : Int).toNat * 1)) = some (.int .i64 n10) ∧ br x4 (0 ≤ x5 ∧ x5 < (x_0.len : Int) ∧
    ∃ a11, x_0.a = some a11 ∧ ∃ n12 : Int, (World.drew (World.drew w6)).cell? (Addr.add a11 (x5.toNat * 1)) = some (.int .i64 n12) ∧ 0 ≤ (0 : Int) ∧
    0 < (x_0.len : Int) ∧ ∃ a13, x_0.a = some a13 ∧ ∃ n14 : Int, (World.drew (World.drew w6)).cell? (Addr.add a13 ((0 : Int).toNat * 1)) = some (.int .i64 n14) ∧
    I1 (decide ((IntKind.i64.wrap (n8 - n10)) = x5)) (decide (n12 = n14)) (IntKind.i64.wrap (x5 + 1)) (World.drew (World.drew w6)) ∧
    μ2 (decide ((IntKind.i64.wrap (n8 - n10)) = x5)) (decide (n12 = n14)) (IntKind.i64.wrap (x5 + 1)) (World.drew (World.drew w6)) < μ2 x3 x4 x5 w6) (I1 (decide ((IntKind.i64.wrap (n8 - n10)) = x5)) false (IntKind.i64.wrap (x5 + 1)) (World.drew (World.drew w6)) ∧
    μ2 (decide ((IntKind.i64.wrap (n8 - n10)) = x5)) false (IntKind.i64.wrap (x5 + 1)) (World.drew (World.drew w6)) < μ2 x3 x4 x5 w6)) (br x4 (0 ≤ x5 ∧
    x5 < (x_0.len : Int) ∧ ∃ a15, x_0.a = some a15 ∧ ∃ n16 : Int, (World.drew (World.drew w6)).cell? (Addr.add a15 (x5.toNat * 1)) = some (.int .i64 n16) ∧
    0 ≤ (0 : Int) ∧ 0 < (x_0.len : Int) ∧ ∃ a17, x_0.a = some a17 ∧
    ∃ n18 : Int, (World.drew (World.drew w6)).cell? (Addr.add a17 ((0 : Int).toNat * 1)) = some (.int .i64 n18) ∧
    I1 false (decide (n16 = n18)) (IntKind.i64.wrap (x5 + 1)) (World.drew (World.drew w6)) ∧
    μ2 false (decide (n16 = n18)) (IntKind.i64.wrap (x5 + 1)) (World.drew (World.drew w6)) < μ2 x3 x4 x5 w6) (I1 false false (IntKind.i64.wrap (x5 + 1)) (World.drew (World.drew w6)) ∧
    μ2 false false (IntKind.i64.wrap (x5 + 1)) (World.drew (World.drew w6)) < μ2 x3 x4 x5 w6))) (br x3 (R (.int .i64 0) w6) (br x4 (R (.int .i64 1) w6) (R (.int .i64 2) w6)))
theorem B78_eq : @B78 = fun (x_0 : Slc) (w : World) (R : Value → World → Prop) => trF Try.prog G (lk [(3, [(3, .bool), (4, .bool), (5, .int .i64)])]) Try.f78 [.slice x_0.a x_0.len x_0.cap] w R := by kernel_rfl
theorem c78 (x_0 : Slc) (w : World) (R : Value → World → Prop) (h : B78 x_0 w R) : Calls Try.prog 78 #[.slice x_0.a x_0.len x_0.cap] w (Rv R) := calls_of_tr (L := lk [(3, [(3, .bool), (4, .bool), (5, .int .i64)])]) Try.func78 hG hM (by rw [B78_eq] at h; exact h)

/-- locution/locutionref08.part -/
def B79 (x_0 : Slc) (x_1 : Int) (w : World) (R : Value → World → Prop) : Prop :=
  0 ≤ IntKind.i64.wrap (32 * x_1) ∧ IntKind.i64.wrap (32 * x_1) ≤ min (IntKind.i64.wrap ((IntKind.i64.wrap (32 * x_1)) + 32)) (x_0.len : Int) ∧
    min (IntKind.i64.wrap ((IntKind.i64.wrap (32 * x_1)) + 32)) (x_0.len : Int) ≤ (x_0.cap : Int) ∧
    R (.slice (if x_0.cap = (Int.toNat (IntKind.i64.wrap (32 * x_1))) then x_0.a else x_0.a.map (·.add ((Int.toNat (IntKind.i64.wrap (32 * x_1))) * 1))) ((Int.toNat (min (IntKind.i64.wrap ((IntKind.i64.wrap (32 * x_1)) + 32)) (x_0.len : Int))) - (Int.toNat (IntKind.i64.wrap (32 * x_1)))) (x_0.cap - (Int.toNat (IntKind.i64.wrap (32 * x_1))))) w
theorem B79_eq : @B79 = fun (x_0 : Slc) (x_1 : Int) (w : World) (R : Value → World → Prop) => trF Try.prog G (lk []) Try.f79 [.slice x_0.a x_0.len x_0.cap, .int .i64 x_1] w R := by kernel_rfl
theorem c79 (x_0 : Slc) (x_1 : Int) (w : World) (R : Value → World → Prop) (h : B79 x_0 x_1 w R) : Calls Try.prog 79 #[.slice x_0.a x_0.len x_0.cap, .int .i64 x_1] w (Rv R) := calls_of_tr (L := lk []) Try.func79 hG hM (by rw [B79_eq] at h; exact h)

/-- locution/locutionlaw08.ShardNext -/
def B3 (x_0 : Slc) (x_1 : Int) (w : World) (R : Value → World → Prop) : Prop :=
  br (decide ((200 : Int) < (x_0.len : Int))) (Calls Try.prog 15 #[] w (Rv fun v1 w2 => ∃ b3 : Bool, v1 = .bool b3 ∧
    R (.bool b3) w2)) (Calls Try.prog 14 #[.slice x_0.a x_0.len x_0.cap] w (Rv fun v4 w5 => ∃ n6 : Int, v4 = .int .i64 n6 ∧
    br (!(decide (n6 = (0 : Int)))) (Calls Try.prog 15 #[] w5 (Rv fun v7 w8 => ∃ b9 : Bool, v7 = .bool b9 ∧
    R (.bool b9) w8)) (Calls Try.prog 16 #[.slice x_0.a x_0.len x_0.cap] w5 (Rv fun v10 w11 =>
    ∃ p12 : Option Addr, ∃ n13 : Int, v10 = .tuple #[.pointer p12, .int .i64 n13] ∧ Calls Try.prog 17 #[.pointer p12, .int .i64 x_1] w11 (Rv fun v14 w15 =>
    ∃ n16 : Int, ∃ n17 : Int, v14 = .tuple #[.int .i64 n16, .int .i64 n17] ∧ Calls Try.prog 17 #[.pointer none, .int .i64 x_1] w15 (Rv fun v18 w19 =>
    ∃ n20 : Int, ∃ n21 : Int, v18 = .tuple #[.int .i64 n20, .int .i64 n21] ∧ Calls Try.prog 18 #[.slice x_0.a x_0.len x_0.cap, .int .i64 x_1] w19 (Rv fun v22 w23 =>
    ∃ n24 : Int, v22 = .int .i64 n24 ∧ br (decide (n16 = n24)) (Calls Try.prog 19 #[.slice x_0.a x_0.len x_0.cap, .int .i64 n24] w23 (Rv fun v25 w26 =>
    ∃ n27 : Int, v25 = .int .i64 n27 ∧ br (decide (n17 = n27)) (br (decide (n20 = (-1))) (br (decide (n21 = (-1))) (Calls Try.prog 15 #[] w26 (Rv fun v28 w29 =>
    ∃ b30 : Bool, v28 = .bool b30 ∧ R (.bool b30) w29)) (R (.bool false) w26)) (R (.bool false) w26)) (R (.bool false) w26))) (R (.bool false) w23))))))))
theorem B3_eq : @B3 = fun (x_0 : Slc) (x_1 : Int) (w : World) (R : Value → World → Prop) => trF Try.prog G (lk []) Try.f3 [.slice x_0.a x_0.len x_0.cap, .int .i64 x_1] w R := by kernel_rfl
theorem c3 (x_0 : Slc) (x_1 : Int) (w : World) (R : Value → World → Prop) (h : B3 x_0 x_1 w R) : Calls Try.prog 3 #[.slice x_0.a x_0.len x_0.cap, .int .i64 x_1] w (Rv R) := calls_of_tr (L := lk []) Try.func3 hG hM (by rw [B3_eq] at h; exact h)

/-- locution/locutionlaw08.ShardGoes -/
def B4 (x_0 : Slc) (x_1 : Int) (w : World) (R : Value → World → Prop) : Prop :=
  
    ∃ l1 : Slc, (((w.alloc (.cells #[.slice x_0.a x_0.len x_0.cap] 22)).alloc (.cells #[.int .i64 x_1] 3)).alloc (.cells #[.bool false] 4)).cell? ⟨w.heap.size, 0, none⟩ = some (.slice l1.a l1.len l1.cap) ∧
    br (decide ((200 : Int) < (l1.len : Int))) (Calls Try.prog 15 #[] (((w.alloc (.cells #[.slice x_0.a x_0.len x_0.cap] 22)).alloc (.cells #[.int .i64 x_1] 3)).alloc (.cells #[.bool false] 4)) (Rv fun v2 w3 =>
    ∃ b4 : Bool, v2 = .bool b4 ∧
    (∃ u, w3.cell? ⟨((w.alloc (.cells #[.slice x_0.a x_0.len x_0.cap] 22)).alloc (.cells #[.int .i64 x_1] 3)).heap.size, 0, none⟩ = some u) ∧
    w3.frozen? ⟨((w.alloc (.cells #[.slice x_0.a x_0.len x_0.cap] 22)).alloc (.cells #[.int .i64 x_1] 3)).heap.size, 0, none⟩ = false ∧ ([] : List Nat).Nodup ∧
    (∀ D, D ∈ ([] : List Nat) →
    (w3.setCell ⟨((w.alloc (.cells #[.slice x_0.a x_0.len x_0.cap] 22)).alloc (.cells #[.int .i64 x_1] 3)).heap.size, 0, none⟩ (.bool b4)).heap[D]? = some (.deferred (some []))) ∧
    ∀ w5 : World, Kp (fun k =>
    k ∈ ([] : List Nat)) (w3.setCell ⟨((w.alloc (.cells #[.slice x_0.a x_0.len x_0.cap] 22)).alloc (.cells #[.int .i64 x_1] 3)).heap.size, 0, none⟩ (.bool b4)) w5 →
    ∃ b6 : Bool, w5.cell? ⟨((w.alloc (.cells #[.slice x_0.a x_0.len x_0.cap] 22)).alloc (.cells #[.int .i64 x_1] 3)).heap.size, 0, none⟩ = some (.bool b6) ∧
    R (.bool b6) w5)) (∃ l7 : Slc, (((w.alloc (.cells #[.slice x_0.a x_0.len x_0.cap] 22)).alloc (.cells #[.int .i64 x_1] 3)).alloc (.cells #[.bool false] 4)).cell? ⟨w.heap.size, 0, none⟩ = some (.slice l7.a l7.len l7.cap) ∧
    Calls Try.prog 14 #[.slice l7.a l7.len l7.cap] (((w.alloc (.cells #[.slice x_0.a x_0.len x_0.cap] 22)).alloc (.cells #[.int .i64 x_1] 3)).alloc (.cells #[.bool false] 4)) (Rv fun v8 w9 =>
    ∃ n10 : Int, v8 = .int .i64 n10 ∧ br (!(decide (n10 = (0 : Int)))) (Calls Try.prog 15 #[] w9 (Rv fun v11 w12 => ∃ b13 : Bool, v11 = .bool b13 ∧
    (∃ u, w12.cell? ⟨((w.alloc (.cells #[.slice x_0.a x_0.len x_0.cap] 22)).alloc (.cells #[.int .i64 x_1] 3)).heap.size, 0, none⟩ = some u) ∧
    w12.frozen? ⟨((w.alloc (.cells #[.slice x_0.a x_0.len x_0.cap] 22)).alloc (.cells #[.int .i64 x_1] 3)).heap.size, 0, none⟩ = false ∧ ([] : List Nat).Nodup ∧
    (∀ D, D ∈ ([] : List Nat) →
    (w12.setCell ⟨((w.alloc (.cells #[.slice x_0.a x_0.len x_0.cap] 22)).alloc (.cells #[.int .i64 x_1] 3)).heap.size, 0, none⟩ (.bool b13)).heap[D]? = some (.deferred (some []))) ∧
    ∀ w14 : World, Kp (fun k =>
    k ∈ ([] : List Nat)) (w12.setCell ⟨((w.alloc (.cells #[.slice x_0.a x_0.len x_0.cap] 22)).alloc (.cells #[.int .i64 x_1] 3)).heap.size, 0, none⟩ (.bool b13)) w14 →
    ∃ b15 : Bool, w14.cell? ⟨((w.alloc (.cells #[.slice x_0.a x_0.len x_0.cap] 22)).alloc (.cells #[.int .i64 x_1] 3)).heap.size, 0, none⟩ = some (.bool b15) ∧
    R (.bool b15) w14)) (∃ l16 : Slc, w9.cell? ⟨w.heap.size, 0, none⟩ = some (.slice l16.a l16.len l16.cap) ∧
    Calls Try.prog 16 #[.slice l16.a l16.len l16.cap] w9 (Rv fun v17 w18 => ∃ p19 : Option Addr, ∃ n20 : Int, v17 = .tuple #[.pointer p19, .int .i64 n20] ∧
    Calls Try.prog 20 #[.pointer p19] w18 (Rv fun v21 w22 => ∃ v23 : Value, v21 = v23 ∧ (v23 = .nilFunc ∨ ∃ f x y, v23 = .func f x y) ∧
    br (isNilV v23) ((∃ u, w22.cell? ⟨((w.alloc (.cells #[.slice x_0.a x_0.len x_0.cap] 22)).alloc (.cells #[.int .i64 x_1] 3)).heap.size, 0, none⟩ = some u) ∧
    w22.frozen? ⟨((w.alloc (.cells #[.slice x_0.a x_0.len x_0.cap] 22)).alloc (.cells #[.int .i64 x_1] 3)).heap.size, 0, none⟩ = false ∧ ([] : List Nat).Nodup ∧
    (∀ D, D ∈ ([] : List Nat) →
    (w22.setCell ⟨((w.alloc (.cells #[.slice x_0.a x_0.len x_0.cap] 22)).alloc (.cells #[.int .i64 x_1] 3)).heap.size, 0, none⟩ (.bool false)).heap[D]? = some (.deferred (some []))) ∧
    ∀ w24 : World, Kp (fun k =>
    k ∈ ([] : List Nat)) (w22.setCell ⟨((w.alloc (.cells #[.slice x_0.a x_0.len x_0.cap] 22)).alloc (.cells #[.int .i64 x_1] 3)).heap.size, 0, none⟩ (.bool false)) w24 →
    ∃ b25 : Bool, w24.cell? ⟨((w.alloc (.cells #[.slice x_0.a x_0.len x_0.cap] 22)).alloc (.cells #[.int .i64 x_1] 3)).heap.size, 0, none⟩ = some (.bool b25) ∧
    R (.bool b25) w24) ((∃ u, (w22.alloc (.cells #[.int .i64 0] 3)).cell? ⟨w22.heap.size, 0, none⟩ = some u) ∧
    (w22.alloc (.cells #[.int .i64 0] 3)).frozen? ⟨w22.heap.size, 0, none⟩ = false ∧ ∃ (g26 : Nat) (A27 C28 : Array Value), v23 = .func (.func g26) A27 C28 ∧
    G g26 = true ∧ ∃ n29 : Nat, ∃ f37 : Nat → Int, ∃ f38 : Nat → Int, ∃ (D30 : Nat → Prop) (J31 : Nat → (Nat → Prop) → World → Prop) (X32 : Option Nat → (Nat →
    Prop) → World → Prop), Iter Try.prog g26 A27.toList C28.toList ((w22.alloc (.cells #[.int .i64 0] 3)).setCell ⟨w22.heap.size, 0, none⟩ (.int .i64 0)) n29 (fun j =>
    [.int .i64 (f37 j), .int .i64 (f38 j)]) D30 ∧ (∀ k, D30 k →
    k < ((w22.alloc (.cells #[.int .i64 0] 3)).setCell ⟨w22.heap.size, 0, none⟩ (.int .i64 0)).heap.size) ∧ (∀ j, Stab (J31 j)) ∧ (∀ o, Stab (X32 o)) ∧
    J31 0 (fun _ => False) ((w22.alloc (.cells #[.int .i64 0] 3)).setCell ⟨w22.heap.size, 0, none⟩ (.int .i64 0)) ∧ (∀ (j33 : Nat) (T34 : Nat →
    Prop) (w35 : World), j33 < n29 → J31 j33 T34 w35 → (∀ k, T34 k →
    ((w22.alloc (.cells #[.int .i64 0] 3)).setCell ⟨w22.heap.size, 0, none⟩ (.int .i64 0)).heap.size ≤ k) →
    T34 ((w22.alloc (.cells #[.int .i64 0] 3)).setCell ⟨w22.heap.size, 0, none⟩ (.int .i64 0)).heap.size →
    T34 (((w22.alloc (.cells #[.int .i64 0] 3)).setCell ⟨w22.heap.size, 0, none⟩ (.int .i64 0)).heap.size + 1) → (∀ k, T34 k → k < w35.heap.size) → Kp (fun k =>
    ¬ T34 k ∧ ¬ D30 k) w35 w35 ∧ ∀ w36 : World, Kp (fun k =>
    k = ((w22.alloc (.cells #[.int .i64 0] 3)).setCell ⟨w22.heap.size, 0, none⟩ (.int .i64 0)).heap.size + 1) w35 w36 →
    ∃ n39 : Int, w36.cell? ⟨w22.heap.size, 0, none⟩ = some (.int .i64 n39) ∧
    br (!(decide ((f37 j33) = n39))) ((∃ u, w36.cell? ⟨((w.alloc (.cells #[.slice x_0.a x_0.len x_0.cap] 22)).alloc (.cells #[.int .i64 x_1] 3)).heap.size, 0, none⟩ = some u) ∧
    w36.frozen? ⟨((w.alloc (.cells #[.slice x_0.a x_0.len x_0.cap] 22)).alloc (.cells #[.int .i64 x_1] 3)).heap.size, 0, none⟩ = false ∧ Kp (fun k => ¬ T34 k ∧
    ¬ D30 k) w36 (w36.setCell ⟨((w.alloc (.cells #[.slice x_0.a x_0.len x_0.cap] 22)).alloc (.cells #[.int .i64 x_1] 3)).heap.size, 0, none⟩ (.bool false)) ∧
    X32 none T34 (w36.setCell ⟨((w.alloc (.cells #[.slice x_0.a x_0.len x_0.cap] 22)).alloc (.cells #[.int .i64 x_1] 3)).heap.size, 0, none⟩ (.bool false))) (∃ l40 : Slc, w36.cell? ⟨w.heap.size, 0, none⟩ = some (.slice l40.a l40.len l40.cap) ∧
    Calls Try.prog 19 #[.slice l40.a l40.len l40.cap, .int .i64 (f37 j33)] w36 (Rv fun v41 w42 => ∃ n43 : Int, v41 = .int .i64 n43 ∧
    br (!(decide ((f38 j33) = n43))) ((∃ u, w42.cell? ⟨((w.alloc (.cells #[.slice x_0.a x_0.len x_0.cap] 22)).alloc (.cells #[.int .i64 x_1] 3)).heap.size, 0, none⟩ = some u) ∧
    w42.frozen? ⟨((w.alloc (.cells #[.slice x_0.a x_0.len x_0.cap] 22)).alloc (.cells #[.int .i64 x_1] 3)).heap.size, 0, none⟩ = false ∧ Kp (fun k => ¬ T34 k ∧
    ¬ D30 k) w36 (w42.setCell ⟨((w.alloc (.cells #[.slice x_0.a x_0.len x_0.cap] 22)).alloc (.cells #[.int .i64 x_1] 3)).heap.size, 0, none⟩ (.bool false)) ∧
    X32 none T34 (w42.setCell ⟨((w.alloc (.cells #[.slice x_0.a x_0.len x_0.cap] 22)).alloc (.cells #[.int .i64 x_1] 3)).heap.size, 0, none⟩ (.bool false))) (∃ n44 : Int, w42.cell? ⟨w22.heap.size, 0, none⟩ = some (.int .i64 n44) ∧
    (∃ u, w42.cell? ⟨w22.heap.size, 0, none⟩ = some u) ∧ w42.frozen? ⟨w22.heap.size, 0, none⟩ = false ∧
    ∃ n45 : Int, (w42.setCell ⟨w22.heap.size, 0, none⟩ (.int .i64 (IntKind.i64.wrap (n44 + 1)))).cell? ⟨w22.heap.size, 0, none⟩ = some (.int .i64 n45) ∧
    ∃ n46 : Int, (w42.setCell ⟨w22.heap.size, 0, none⟩ (.int .i64 (IntKind.i64.wrap (n44 + 1)))).cell? ⟨(w.alloc (.cells #[.slice x_0.a x_0.len x_0.cap] 22)).heap.size, 0, none⟩ = some (.int .i64 n46) ∧
    br (decide (n45 = n46)) (Kp (fun k => ¬ T34 k ∧ ¬ D30 k) w36 (w42.setCell ⟨w22.heap.size, 0, none⟩ (.int .i64 (IntKind.i64.wrap (n44 + 1)))) ∧
    X32 (some 0) T34 (w42.setCell ⟨w22.heap.size, 0, none⟩ (.int .i64 (IntKind.i64.wrap (n44 + 1))))) (Kp (fun k => ¬ T34 k ∧
    ¬ D30 k) w36 (w42.setCell ⟨w22.heap.size, 0, none⟩ (.int .i64 (IntKind.i64.wrap (n44 + 1)))) ∧
    J31 (j33 + 1) T34 (w42.setCell ⟨w22.heap.size, 0, none⟩ (.int .i64 (IntKind.i64.wrap (n44 + 1))))))))) ∧ (∀ (T73 : Nat → Prop) (w74 : World), J31 n29 T73 w74 →
    (∀ k, T73 k → ((w22.alloc (.cells #[.int .i64 0] 3)).setCell ⟨w22.heap.size, 0, none⟩ (.int .i64 0)).heap.size ≤ k) →
    w74.heap[((w22.alloc (.cells #[.int .i64 0] 3)).setCell ⟨w22.heap.size, 0, none⟩ (.int .i64 0)).heap.size]? = some (.deferred (some [])) →
    ∃ n75 : Int, w74.cell? ⟨w22.heap.size, 0, none⟩ = some (.int .i64 n75) ∧ ∃ l76 : Slc, w74.cell? ⟨w.heap.size, 0, none⟩ = some (.slice l76.a l76.len l76.cap) ∧
    br (decide (n75 = (l76.len : Int))) (∃ n77 : Int, w74.cell? ⟨w22.heap.size, 0, none⟩ = some (.int .i64 n77) ∧
    ∃ l78 : Slc, w74.cell? ⟨w.heap.size, 0, none⟩ = some (.slice l78.a l78.len l78.cap) ∧
    br (decide (n77 ≤ (l78.len : Int))) (Calls Try.prog 15 #[] w74 (Rv fun v79 w80 => ∃ b81 : Bool, v79 = .bool b81 ∧
    (∃ u, w80.cell? ⟨((w.alloc (.cells #[.slice x_0.a x_0.len x_0.cap] 22)).alloc (.cells #[.int .i64 x_1] 3)).heap.size, 0, none⟩ = some u) ∧
    w80.frozen? ⟨((w.alloc (.cells #[.slice x_0.a x_0.len x_0.cap] 22)).alloc (.cells #[.int .i64 x_1] 3)).heap.size, 0, none⟩ = false ∧
    (((w22.alloc (.cells #[.int .i64 0] 3)).setCell ⟨w22.heap.size, 0, none⟩ (.int .i64 0)).heap.size :: ([] : List Nat)).Nodup ∧
    (∀ D, D ∈ (((w22.alloc (.cells #[.int .i64 0] 3)).setCell ⟨w22.heap.size, 0, none⟩ (.int .i64 0)).heap.size :: ([] : List Nat)) →
    (w80.setCell ⟨((w.alloc (.cells #[.slice x_0.a x_0.len x_0.cap] 22)).alloc (.cells #[.int .i64 x_1] 3)).heap.size, 0, none⟩ (.bool b81)).heap[D]? = some (.deferred (some []))) ∧
    ∀ w82 : World, Kp (fun k =>
    k ∈ (((w22.alloc (.cells #[.int .i64 0] 3)).setCell ⟨w22.heap.size, 0, none⟩ (.int .i64 0)).heap.size :: ([] : List Nat))) (w80.setCell ⟨((w.alloc (.cells #[.slice x_0.a x_0.len x_0.cap] 22)).alloc (.cells #[.int .i64 x_1] 3)).heap.size, 0, none⟩ (.bool b81)) w82 →
    ∃ b83 : Bool, w82.cell? ⟨((w.alloc (.cells #[.slice x_0.a x_0.len x_0.cap] 22)).alloc (.cells #[.int .i64 x_1] 3)).heap.size, 0, none⟩ = some (.bool b83) ∧
    R (.bool b83) w82)) ((∃ u, w74.cell? ⟨((w.alloc (.cells #[.slice x_0.a x_0.len x_0.cap] 22)).alloc (.cells #[.int .i64 x_1] 3)).heap.size, 0, none⟩ = some u) ∧
    w74.frozen? ⟨((w.alloc (.cells #[.slice x_0.a x_0.len x_0.cap] 22)).alloc (.cells #[.int .i64 x_1] 3)).heap.size, 0, none⟩ = false ∧
    (((w22.alloc (.cells #[.int .i64 0] 3)).setCell ⟨w22.heap.size, 0, none⟩ (.int .i64 0)).heap.size :: ([] : List Nat)).Nodup ∧
    (∀ D, D ∈ (((w22.alloc (.cells #[.int .i64 0] 3)).setCell ⟨w22.heap.size, 0, none⟩ (.int .i64 0)).heap.size :: ([] : List Nat)) →
    (w74.setCell ⟨((w.alloc (.cells #[.slice x_0.a x_0.len x_0.cap] 22)).alloc (.cells #[.int .i64 x_1] 3)).heap.size, 0, none⟩ (.bool false)).heap[D]? = some (.deferred (some []))) ∧
    ∀ w84 : World, Kp (fun k =>
    k ∈ (((w22.alloc (.cells #[.int .i64 0] 3)).setCell ⟨w22.heap.size, 0, none⟩ (.int .i64 0)).heap.size :: ([] : List Nat))) (w74.setCell ⟨((w.alloc (.cells #[.slice x_0.a x_0.len x_0.cap] 22)).alloc (.cells #[.int .i64 x_1] 3)).heap.size, 0, none⟩ (.bool false)) w84 →
    ∃ b85 : Bool, w84.cell? ⟨((w.alloc (.cells #[.slice x_0.a x_0.len x_0.cap] 22)).alloc (.cells #[.int .i64 x_1] 3)).heap.size, 0, none⟩ = some (.bool b85) ∧
    R (.bool b85) w84)) (∃ n86 : Int, w74.cell? ⟨w22.heap.size, 0, none⟩ = some (.int .i64 n86) ∧
    ∃ n87 : Int, w74.cell? ⟨(w.alloc (.cells #[.slice x_0.a x_0.len x_0.cap] 22)).heap.size, 0, none⟩ = some (.int .i64 n87) ∧
    br (decide (n86 = n87)) (∃ n88 : Int, w74.cell? ⟨w22.heap.size, 0, none⟩ = some (.int .i64 n88) ∧
    ∃ l89 : Slc, w74.cell? ⟨w.heap.size, 0, none⟩ = some (.slice l89.a l89.len l89.cap) ∧
    br (decide (n88 ≤ (l89.len : Int))) (Calls Try.prog 15 #[] w74 (Rv fun v90 w91 => ∃ b92 : Bool, v90 = .bool b92 ∧
    (∃ u, w91.cell? ⟨((w.alloc (.cells #[.slice x_0.a x_0.len x_0.cap] 22)).alloc (.cells #[.int .i64 x_1] 3)).heap.size, 0, none⟩ = some u) ∧
    w91.frozen? ⟨((w.alloc (.cells #[.slice x_0.a x_0.len x_0.cap] 22)).alloc (.cells #[.int .i64 x_1] 3)).heap.size, 0, none⟩ = false ∧
    (((w22.alloc (.cells #[.int .i64 0] 3)).setCell ⟨w22.heap.size, 0, none⟩ (.int .i64 0)).heap.size :: ([] : List Nat)).Nodup ∧
    (∀ D, D ∈ (((w22.alloc (.cells #[.int .i64 0] 3)).setCell ⟨w22.heap.size, 0, none⟩ (.int .i64 0)).heap.size :: ([] : List Nat)) →
    (w91.setCell ⟨((w.alloc (.cells #[.slice x_0.a x_0.len x_0.cap] 22)).alloc (.cells #[.int .i64 x_1] 3)).heap.size, 0, none⟩ (.bool b92)).heap[D]? = some (.deferred (some []))) ∧
    ∀ w93 : World, Kp (fun k =>
    k ∈ (((w22.alloc (.cells #[.int .i64 0] 3)).setCell ⟨w22.heap.size, 0, none⟩ (.int .i64 0)).heap.size :: ([] : List Nat))) (w91.setCell ⟨((w.alloc (.cells #[.slice x_0.a x_0.len x_0.cap] 22)).alloc (.cells #[.int .i64 x_1] 3)).heap.size, 0, none⟩ (.bool b92)) w93 →
    ∃ b94 : Bool, w93.cell? ⟨((w.alloc (.cells #[.slice x_0.a x_0.len x_0.cap] 22)).alloc (.cells #[.int .i64 x_1] 3)).heap.size, 0, none⟩ = some (.bool b94) ∧
    R (.bool b94) w93)) ((∃ u, w74.cell? ⟨((w.alloc (.cells #[.slice x_0.a x_0.len x_0.cap] 22)).alloc (.cells #[.int .i64 x_1] 3)).heap.size, 0, none⟩ = some u) ∧
    w74.frozen? ⟨((w.alloc (.cells #[.slice x_0.a x_0.len x_0.cap] 22)).alloc (.cells #[.int .i64 x_1] 3)).heap.size, 0, none⟩ = false ∧
    (((w22.alloc (.cells #[.int .i64 0] 3)).setCell ⟨w22.heap.size, 0, none⟩ (.int .i64 0)).heap.size :: ([] : List Nat)).Nodup ∧
    (∀ D, D ∈ (((w22.alloc (.cells #[.int .i64 0] 3)).setCell ⟨w22.heap.size, 0, none⟩ (.int .i64 0)).heap.size :: ([] : List Nat)) →
    (w74.setCell ⟨((w.alloc (.cells #[.slice x_0.a x_0.len x_0.cap] 22)).alloc (.cells #[.int .i64 x_1] 3)).heap.size, 0, none⟩ (.bool false)).heap[D]? = some (.deferred (some []))) ∧
    ∀ w95 : World, Kp (fun k =>
    k ∈ (((w22.alloc (.cells #[.int .i64 0] 3)).setCell ⟨w22.heap.size, 0, none⟩ (.int .i64 0)).heap.size :: ([] : List Nat))) (w74.setCell ⟨((w.alloc (.cells #[.slice x_0.a x_0.len x_0.cap] 22)).alloc (.cells #[.int .i64 x_1] 3)).heap.size, 0, none⟩ (.bool false)) w95 →
    ∃ b96 : Bool, w95.cell? ⟨((w.alloc (.cells #[.slice x_0.a x_0.len x_0.cap] 22)).alloc (.cells #[.int .i64 x_1] 3)).heap.size, 0, none⟩ = some (.bool b96) ∧
    R (.bool b96) w95)) ((∃ u, w74.cell? ⟨((w.alloc (.cells #[.slice x_0.a x_0.len x_0.cap] 22)).alloc (.cells #[.int .i64 x_1] 3)).heap.size, 0, none⟩ = some u) ∧
    w74.frozen? ⟨((w.alloc (.cells #[.slice x_0.a x_0.len x_0.cap] 22)).alloc (.cells #[.int .i64 x_1] 3)).heap.size, 0, none⟩ = false ∧
    (((w22.alloc (.cells #[.int .i64 0] 3)).setCell ⟨w22.heap.size, 0, none⟩ (.int .i64 0)).heap.size :: ([] : List Nat)).Nodup ∧
    (∀ D, D ∈ (((w22.alloc (.cells #[.int .i64 0] 3)).setCell ⟨w22.heap.size, 0, none⟩ (.int .i64 0)).heap.size :: ([] : List Nat)) →
    (w74.setCell ⟨((w.alloc (.cells #[.slice x_0.a x_0.len x_0.cap] 22)).alloc (.cells #[.int .i64 x_1] 3)).heap.size, 0, none⟩ (.bool false)).heap[D]? = some (.deferred (some []))) ∧
    ∀ w97 : World, Kp (fun k =>
    k ∈ (((w22.alloc (.cells #[.int .i64 0] 3)).setCell ⟨w22.heap.size, 0, none⟩ (.int .i64 0)).heap.size :: ([] : List Nat))) (w74.setCell ⟨((w.alloc (.cells #[.slice x_0.a x_0.len x_0.cap] 22)).alloc (.cells #[.int .i64 x_1] 3)).heap.size, 0, none⟩ (.bool false)) w97 →
    ∃ b98 : Bool, w97.cell? ⟨((w.alloc (.cells #[.slice x_0.a x_0.len x_0.cap] 22)).alloc (.cells #[.int .i64 x_1] 3)).heap.size, 0, none⟩ = some (.bool b98) ∧
    R (.bool b98) w97))) ∧ (∀ (T99 : Nat → Prop) (w100 : World), X32 none T99 w100 → (∀ k, T99 k →
    ((w22.alloc (.cells #[.int .i64 0] 3)).setCell ⟨w22.heap.size, 0, none⟩ (.int .i64 0)).heap.size ≤ k) →
    w100.heap[((w22.alloc (.cells #[.int .i64 0] 3)).setCell ⟨w22.heap.size, 0, none⟩ (.int .i64 0)).heap.size]? = some (.deferred (some [])) →
    (((w22.alloc (.cells #[.int .i64 0] 3)).setCell ⟨w22.heap.size, 0, none⟩ (.int .i64 0)).heap.size :: ([] : List Nat)).Nodup ∧
    (∀ D, D ∈ (((w22.alloc (.cells #[.int .i64 0] 3)).setCell ⟨w22.heap.size, 0, none⟩ (.int .i64 0)).heap.size :: ([] : List Nat)) →
    w100.heap[D]? = some (.deferred (some []))) ∧ ∀ w101 : World, Kp (fun k =>
    k ∈ (((w22.alloc (.cells #[.int .i64 0] 3)).setCell ⟨w22.heap.size, 0, none⟩ (.int .i64 0)).heap.size :: ([] : List Nat))) w100 w101 →
    ∃ b102 : Bool, w101.cell? ⟨((w.alloc (.cells #[.slice x_0.a x_0.len x_0.cap] 22)).alloc (.cells #[.int .i64 x_1] 3)).heap.size, 0, none⟩ = some (.bool b102) ∧
    R (.bool b102) w101) ∧ (∀ (T47 : Nat → Prop) (w48 : World), X32 (some 0) T47 w48 → (∀ k, T47 k →
    ((w22.alloc (.cells #[.int .i64 0] 3)).setCell ⟨w22.heap.size, 0, none⟩ (.int .i64 0)).heap.size ≤ k) →
    w48.heap[((w22.alloc (.cells #[.int .i64 0] 3)).setCell ⟨w22.heap.size, 0, none⟩ (.int .i64 0)).heap.size]? = some (.deferred (some [])) →
    ∃ n49 : Int, w48.cell? ⟨w22.heap.size, 0, none⟩ = some (.int .i64 n49) ∧ ∃ l50 : Slc, w48.cell? ⟨w.heap.size, 0, none⟩ = some (.slice l50.a l50.len l50.cap) ∧
    br (decide (n49 = (l50.len : Int))) (∃ n51 : Int, w48.cell? ⟨w22.heap.size, 0, none⟩ = some (.int .i64 n51) ∧
    ∃ l52 : Slc, w48.cell? ⟨w.heap.size, 0, none⟩ = some (.slice l52.a l52.len l52.cap) ∧
    br (decide (n51 ≤ (l52.len : Int))) (Calls Try.prog 15 #[] w48 (Rv fun v53 w54 => ∃ b55 : Bool, v53 = .bool b55 ∧
    (∃ u, w54.cell? ⟨((w.alloc (.cells #[.slice x_0.a x_0.len x_0.cap] 22)).alloc (.cells #[.int .i64 x_1] 3)).heap.size, 0, none⟩ = some u) ∧
    w54.frozen? ⟨((w.alloc (.cells #[.slice x_0.a x_0.len x_0.cap] 22)).alloc (.cells #[.int .i64 x_1] 3)).heap.size, 0, none⟩ = false ∧
    (((w22.alloc (.cells #[.int .i64 0] 3)).setCell ⟨w22.heap.size, 0, none⟩ (.int .i64 0)).heap.size :: ([] : List Nat)).Nodup ∧
    (∀ D, D ∈ (((w22.alloc (.cells #[.int .i64 0] 3)).setCell ⟨w22.heap.size, 0, none⟩ (.int .i64 0)).heap.size :: ([] : List Nat)) →
    (w54.setCell ⟨((w.alloc (.cells #[.slice x_0.a x_0.len x_0.cap] 22)).alloc (.cells #[.int .i64 x_1] 3)).heap.size, 0, none⟩ (.bool b55)).heap[D]? = some (.deferred (some []))) ∧
    ∀ w56 : World, Kp (fun k =>
    k ∈ (((w22.alloc (.cells #[.int .i64 0] 3)).setCell ⟨w22.heap.size, 0, none⟩ (.int .i64 0)).heap.size :: ([] : List Nat))) (w54.setCell ⟨((w.alloc (.cells #[.slice x_0.a x_0.len x_0.cap] 22)).alloc (.cells #[.int .i64 x_1] 3)).heap.size, 0, none⟩ (.bool b55)) w56 →
    ∃ b57 : Bool, w56.cell? ⟨((w.alloc (.cells #[.slice x_0.a x_0.len x_0.cap] 22)).alloc (.cells #[.int .i64 x_1] 3)).heap.size, 0, none⟩ = some (.bool b57) ∧
    R (.bool b57) w56)) ((∃ u, w48.cell? ⟨((w.alloc (.cells #[.slice x_0.a x_0.len x_0.cap] 22)).alloc (.cells #[.int .i64 x_1] 3)).heap.size, 0, none⟩ = some u) ∧
    w48.frozen? ⟨((w.alloc (.cells #[.slice x_0.a x_0.len x_0.cap] 22)).alloc (.cells #[.int .i64 x_1] 3)).heap.size, 0, none⟩ = false ∧
    (((w22.alloc (.cells #[.int .i64 0] 3)).setCell ⟨w22.heap.size, 0, none⟩ (.int .i64 0)).heap.size :: ([] : List Nat)).Nodup ∧
    (∀ D, D ∈ (((w22.alloc (.cells #[.int .i64 0] 3)).setCell ⟨w22.heap.size, 0, none⟩ (.int .i64 0)).heap.size :: ([] : List Nat)) →
    (w48.setCell ⟨((w.alloc (.cells #[.slice x_0.a x_0.len x_0.cap] 22)).alloc (.cells #[.int .i64 x_1] 3)).heap.size, 0, none⟩ (.bool false)).heap[D]? = some (.deferred (some []))) ∧
    ∀ w58 : World, Kp (fun k =>
    k ∈ (((w22.alloc (.cells #[.int .i64 0] 3)).setCell ⟨w22.heap.size, 0, none⟩ (.int .i64 0)).heap.size :: ([] : List Nat))) (w48.setCell ⟨((w.alloc (.cells #[.slice x_0.a x_0.len x_0.cap] 22)).alloc (.cells #[.int .i64 x_1] 3)).heap.size, 0, none⟩ (.bool false)) w58 →
    ∃ b59 : Bool, w58.cell? ⟨((w.alloc (.cells #[.slice x_0.a x_0.len x_0.cap] 22)).alloc (.cells #[.int .i64 x_1] 3)).heap.size, 0, none⟩ = some (.bool b59) ∧
    R (.bool b59) w58)) (∃ n60 : Int, w48.cell? ⟨w22.heap.size, 0, none⟩ = some (.int .i64 n60) ∧
    ∃ n61 : Int, w48.cell? ⟨(w.alloc (.cells #[.slice x_0.a x_0.len x_0.cap] 22)).heap.size, 0, none⟩ = some (.int .i64 n61) ∧
    br (decide (n60 = n61)) (∃ n62 : Int, w48.cell? ⟨w22.heap.size, 0, none⟩ = some (.int .i64 n62) ∧
    ∃ l63 : Slc, w48.cell? ⟨w.heap.size, 0, none⟩ = some (.slice l63.a l63.len l63.cap) ∧
    br (decide (n62 ≤ (l63.len : Int))) (Calls Try.prog 15 #[] w48 (Rv fun v64 w65 => ∃ b66 : Bool, v64 = .bool b66 ∧
    (∃ u, w65.cell? ⟨((w.alloc (.cells #[.slice x_0.a x_0.len x_0.cap] 22)).alloc (.cells #[.int .i64 x_1] 3)).heap.size, 0, none⟩ = some u) ∧
    w65.frozen? ⟨((w.alloc (.cells #[.slice x_0.a x_0.len x_0.cap] 22)).alloc (.cells #[.int .i64 x_1] 3)).heap.size, 0, none⟩ = false ∧
    (((w22.alloc (.cells #[.int .i64 0] 3)).setCell ⟨w22.heap.size, 0, none⟩ (.int .i64 0)).heap.size :: ([] : List Nat)).Nodup ∧
    (∀ D, D ∈ (((w22.alloc (.cells #[.int .i64 0] 3)).setCell ⟨w22.heap.size, 0, none⟩ (.int .i64 0)).heap.size :: ([] : List Nat)) →
    (w65.setCell ⟨((w.alloc (.cells #[.slice x_0.a x_0.len x_0.cap] 22)).alloc (.cells #[.int .i64 x_1] 3)).heap.size, 0, none⟩ (.bool b66)).heap[D]? = some (.deferred (some []))) ∧
    ∀ w67 : World, Kp (fun k =>
    k ∈ (((w22.alloc (.cells #[.int .i64 0] 3)).setCell ⟨w22.heap.size, 0, none⟩ (.int .i64 0)).heap.size :: ([] : List Nat))) (w65.setCell ⟨((w.alloc (.cells #[.slice x_0.a x_0.len x_0.cap] 22)).alloc (.cells #[.int .i64 x_1] 3)).heap.size, 0, none⟩ (.bool b66)) w67 →
    ∃ b68 : Bool, w67.cell? ⟨((w.alloc (.cells #[.slice x_0.a x_0.len x_0.cap] 22)).alloc (.cells #[.int .i64 x_1] 3)).heap.size, 0, none⟩ = some (.bool b68) ∧
    R (.bool b68) w67)) ((∃ u, w48.cell? ⟨((w.alloc (.cells #[.slice x_0.a x_0.len x_0.cap] 22)).alloc (.cells #[.int .i64 x_1] 3)).heap.size, 0, none⟩ = some u) ∧
    w48.frozen? ⟨((w.alloc (.cells #[.slice x_0.a x_0.len x_0.cap] 22)).alloc (.cells #[.int .i64 x_1] 3)).heap.size, 0, none⟩ = false ∧
    (((w22.alloc (.cells #[.int .i64 0] 3)).setCell ⟨w22.heap.size, 0, none⟩ (.int .i64 0)).heap.size :: ([] : List Nat)).Nodup ∧
    (∀ D, D ∈ (((w22.alloc (.cells #[.int .i64 0] 3)).setCell ⟨w22.heap.size, 0, none⟩ (.int .i64 0)).heap.size :: ([] : List Nat)) →
    (w48.setCell ⟨((w.alloc (.cells #[.slice x_0.a x_0.len x_0.cap] 22)).alloc (.cells #[.int .i64 x_1] 3)).heap.size, 0, none⟩ (.bool false)).heap[D]? = some (.deferred (some []))) ∧
    ∀ w69 : World, Kp (fun k =>
    k ∈ (((w22.alloc (.cells #[.int .i64 0] 3)).setCell ⟨w22.heap.size, 0, none⟩ (.int .i64 0)).heap.size :: ([] : List Nat))) (w48.setCell ⟨((w.alloc (.cells #[.slice x_0.a x_0.len x_0.cap] 22)).alloc (.cells #[.int .i64 x_1] 3)).heap.size, 0, none⟩ (.bool false)) w69 →
    ∃ b70 : Bool, w69.cell? ⟨((w.alloc (.cells #[.slice x_0.a x_0.len x_0.cap] 22)).alloc (.cells #[.int .i64 x_1] 3)).heap.size, 0, none⟩ = some (.bool b70) ∧
    R (.bool b70) w69)) ((∃ u, w48.cell? ⟨((w.alloc (.cells #[.slice x_0.a x_0.len x_0.cap] 22)).alloc (.cells #[.int .i64 x_1] 3)).heap.size, 0, none⟩ = some u) ∧
    w48.frozen? ⟨((w.alloc (.cells #[.slice x_0.a x_0.len x_0.cap] 22)).alloc (.cells #[.int .i64 x_1] 3)).heap.size, 0, none⟩ = false ∧
    (((w22.alloc (.cells #[.int .i64 0] 3)).setCell ⟨w22.heap.size, 0, none⟩ (.int .i64 0)).heap.size :: ([] : List Nat)).Nodup ∧
    (∀ D, D ∈ (((w22.alloc (.cells #[.int .i64 0] 3)).setCell ⟨w22.heap.size, 0, none⟩ (.int .i64 0)).heap.size :: ([] : List Nat)) →
    (w48.setCell ⟨((w.alloc (.cells #[.slice x_0.a x_0.len x_0.cap] 22)).alloc (.cells #[.int .i64 x_1] 3)).heap.size, 0, none⟩ (.bool false)).heap[D]? = some (.deferred (some []))) ∧
    ∀ w71 : World, Kp (fun k =>
    k ∈ (((w22.alloc (.cells #[.int .i64 0] 3)).setCell ⟨w22.heap.size, 0, none⟩ (.int .i64 0)).heap.size :: ([] : List Nat))) (w48.setCell ⟨((w.alloc (.cells #[.slice x_0.a x_0.len x_0.cap] 22)).alloc (.cells #[.int .i64 x_1] 3)).heap.size, 0, none⟩ (.bool false)) w71 →
    ∃ b72 : Bool, w71.cell? ⟨((w.alloc (.cells #[.slice x_0.a x_0.len x_0.cap] 22)).alloc (.cells #[.int .i64 x_1] 3)).heap.size, 0, none⟩ = some (.bool b72) ∧
    R (.bool b72) w71)))))))))
theorem B4_eq : @B4 = fun (x_0 : Slc) (x_1 : Int) (w : World) (R : Value → World → Prop) => trFT Try.prog G (lk [(1000011, [(30, .int .i64), (31, .int .i64)])]) Try.f4 [.slice x_0.a x_0.len x_0.cap, .int .i64 x_1] w R := by kernel_rfl
theorem c4 (x_0 : Slc) (x_1 : Int) (w : World) (R : Value → World → Prop) (h : B4 x_0 x_1 w R) : Calls Try.prog 4 #[.slice x_0.a x_0.len x_0.cap, .int .i64 x_1] w (Rv R) := calls_of_trT (L := lk [(1000011, [(30, .int .i64), (31, .int .i64)])]) Try.func4 hG hM (by rw [B4_eq] at h; exact h)

/-- locution/locutionlaw08.ShardMakes -/
def B5 (x_0 : Slc) (x_1 : Int) (w : World) (R : Value → World → Prop) : Prop :=
  br (decide ((200 : Int) < (x_0.len : Int))) (Calls Try.prog 15 #[] w (Rv fun v1 w2 => ∃ b3 : Bool, v1 = .bool b3 ∧
    R (.bool b3) w2)) (Calls Try.prog 16 #[.slice x_0.a x_0.len x_0.cap] w (Rv fun v4 w5 => ∃ p6 : Option Addr, ∃ n7 : Int, v4 = .tuple #[.pointer p6, .int .i64 n7] ∧
    Calls Try.prog 14 #[.slice x_0.a x_0.len x_0.cap] w5 (Rv fun v8 w9 => ∃ n10 : Int, v8 = .int .i64 n10 ∧
    br (!(decide (n7 = n10))) (R (.bool false) w9) (Calls Try.prog 21 #[.pointer none] w9 (Rv fun v11 w12 => ∃ n13 : Int, v11 = .int .i64 n13 ∧
    br (!(decide (n13 = (0 : Int)))) (R (.bool false) w12) (Calls Try.prog 22 #[.pointer none, .int .i64 x_1] w12 (Rv fun v14 w15 => ∃ n16 : Int, v14 = .int .i64 n16 ∧
    br (!(decide (n16 = (-1)))) (R (.bool false) w15) (Calls Try.prog 23 #[.pointer none] w15 (Rv fun v17 w18 => ∃ n19 : Int, v17 = .int .i64 n19 ∧
    br (!(decide (n19 = (0 : Int)))) (R (.bool false) w18) (Calls Try.prog 24 #[.pointer none] w18 (Rv fun v20 w21 =>
    ∃ n22 : Int, ∃ n23 : Int, ∃ n24 : Int, v20 = .agg #[.int .i64 n22, .int .i64 n23, .int .i64 n24] ∧
    ∃ w25 : World, ∃ b26 : Bool, (do eqGuard .neq 38 (.tmp 42) (.tmp 43) (.agg #[.int .i64 n22, .int .i64 n23, .int .i64 n24]) (.agg #[.int .i64 0, .int .i64 0, .int .i64 0]); binOp .neq 38 (.agg #[.int .i64 n22, .int .i64 n23, .int .i64 n24]) (.agg #[.int .i64 0, .int .i64 0, .int .i64 0])).run Try.prog w21 = .ok (.bool b26) w25 ∧
    br b26 (R (.bool false) w25) (br (!(decide (n10 = (0 : Int)))) (br p6.isNone (Calls Try.prog 15 #[] w25 (Rv fun v27 w28 => ∃ b29 : Bool, v27 = .bool b29 ∧
    R (.bool b29) w28)) (R (.bool false) w25)) (∃ (I30 : Int → World → Prop) (μ31 : Int → World → Nat), I30 (0 : Int) w25 ∧ ∀ x32 : Int, ∀ w33 : World, I30 x32 w33 →
    br (decide (x32 < (x_0.len : Int))) (0 ≤ x32 ∧ x32 < (x_0.len : Int) ∧ ∃ a34, x_0.a = some a34 ∧
    ∃ n35 : Int, (World.drew w33).cell? (Addr.add a34 (x32.toNat * 1)) = some (.int .i64 n35) ∧
    Calls Try.prog 22 #[.pointer p6, .int .i64 x32] (World.drew w33) (Rv fun v36 w37 => ∃ n38 : Int, v36 = .int .i64 n38 ∧
    w37.cell? (Addr.add a34 (x32.toNat * 1)) = some (.int .i64 n35) ∧ br (!(decide (n38 = n35))) (R (.bool false) w37) (I30 (IntKind.i64.wrap (x32 + 1)) w37 ∧
    μ31 (IntKind.i64.wrap (x32 + 1)) w37 < μ31 x32 w33))) (Calls Try.prog 21 #[.pointer p6] w33 (Rv fun v39 w40 => ∃ n41 : Int, v39 = .int .i64 n41 ∧
    br (decide (n41 = (x_0.len : Int))) (Calls Try.prog 22 #[.pointer p6, .int .i64 x_1] w40 (Rv fun v42 w43 => ∃ n44 : Int, v42 = .int .i64 n44 ∧
    Calls Try.prog 19 #[.slice x_0.a x_0.len x_0.cap, .int .i64 x_1] w43 (Rv fun v45 w46 => ∃ n47 : Int, v45 = .int .i64 n47 ∧
    br (decide (n44 = n47)) (Calls Try.prog 15 #[] w46 (Rv fun v48 w49 => ∃ b50 : Bool, v48 = .bool b50 ∧
    R (.bool b50) w49)) (R (.bool false) w46)))) (R (.bool false) w40))))))))))))))))
theorem B5_eq : @B5 = fun (x_0 : Slc) (x_1 : Int) (w : World) (R : Value → World → Prop) => trF Try.prog G (lk [(11, [(9, .int .i64)])]) Try.f5 [.slice x_0.a x_0.len x_0.cap, .int .i64 x_1] w R := by kernel_rfl
theorem c5 (x_0 : Slc) (x_1 : Int) (w : World) (R : Value → World → Prop) (h : B5 x_0 x_1 w R) : Calls Try.prog 5 #[.slice x_0.a x_0.len x_0.cap, .int .i64 x_1] w (Rv R) := calls_of_tr (L := lk [(11, [(9, .int .i64)])]) Try.func5 hG hM (by rw [B5_eq] at h; exact h)

/-- locution/locutionlaw08.ShardKinds -/
def B6 (x_0 : Slc) (w : World) (R : Value → World → Prop) : Prop :=
  br (decide ((200 : Int) < (x_0.len : Int))) (Calls Try.prog 15 #[] w (Rv fun v1 w2 => ∃ b3 : Bool, v1 = .bool b3 ∧
    R (.bool b3) w2)) (Calls Try.prog 14 #[.slice x_0.a x_0.len x_0.cap] w (Rv fun v4 w5 => ∃ n6 : Int, v4 = .int .i64 n6 ∧
    br (!(decide (n6 = (0 : Int)))) (Calls Try.prog 15 #[] w5 (Rv fun v7 w8 => ∃ b9 : Bool, v7 = .bool b9 ∧
    R (.bool b9) w8)) (Calls Try.prog 16 #[.slice x_0.a x_0.len x_0.cap] w5 (Rv fun v10 w11 =>
    ∃ p12 : Option Addr, ∃ n13 : Int, v10 = .tuple #[.pointer p12, .int .i64 n13] ∧ Calls Try.prog 24 #[.pointer p12] w11 (Rv fun v14 w15 =>
    ∃ n16 : Int, ∃ n17 : Int, ∃ n18 : Int, v14 = .agg #[.int .i64 n16, .int .i64 n17, .int .i64 n18] ∧
    Calls Try.prog 25 #[.slice x_0.a x_0.len x_0.cap] w15 (Rv fun v19 w20 =>
    ∃ n21 : Int, ∃ n22 : Int, ∃ n23 : Int, v19 = .agg #[.int .i64 n21, .int .i64 n22, .int .i64 n23] ∧
    ∃ w24 : World, ∃ b25 : Bool, (do eqGuard .eql 38 (.tmp 20) (.tmp 22) (.agg #[.int .i64 n16, .int .i64 n17, .int .i64 n18]) (.agg #[.int .i64 n21, .int .i64 n22, .int .i64 n23]); binOp .eql 38 (.agg #[.int .i64 n16, .int .i64 n17, .int .i64 n18]) (.agg #[.int .i64 n21, .int .i64 n22, .int .i64 n23])).run Try.prog w20 = .ok (.bool b25) w24 ∧
    br b25 (Calls Try.prog 23 #[.pointer p12] w24 (Rv fun v26 w27 => ∃ n28 : Int, v26 = .int .i64 n28 ∧
    Calls Try.prog 26 #[.slice x_0.a x_0.len x_0.cap] w27 (Rv fun v29 w30 => ∃ n31 : Int, v29 = .int .i64 n31 ∧
    br (decide (n28 = n31)) (Calls Try.prog 15 #[] w30 (Rv fun v32 w33 => ∃ b34 : Bool, v32 = .bool b34 ∧
    R (.bool b34) w33)) (R (.bool false) w30)))) (R (.bool false) w24)))))))
theorem B6_eq : @B6 = fun (x_0 : Slc) (w : World) (R : Value → World → Prop) => trF Try.prog G (lk []) Try.f6 [.slice x_0.a x_0.len x_0.cap] w R := by kernel_rfl
theorem c6 (x_0 : Slc) (w : World) (R : Value → World → Prop) (h : B6 x_0 w R) : Calls Try.prog 6 #[.slice x_0.a x_0.len x_0.cap] w (Rv R) := calls_of_tr (L := lk []) Try.func6 hG hM (by rw [B6_eq] at h; exact h)

/-- locution/locutionlaw08.live -/
def B15  (w : World) (R : Value → World → Prop) : Prop :=
  ∃ (I1 : Slc → Int → World → Prop) (μ2 : Slc → Int → World → Nat), I1 ⟨none, 0, 0⟩ (1 : Int) w ∧ ∀ x3 : Slc, ∀ x4 : Int, ∀ w5 : World, I1 x3 x4 w5 →
    br (decide (x4 ≤ (32 : Int))) (∃ w6 : World, ∃ l7 : Slc, (Builtin.append_ #[22, 22] 22 #[.slice x3.a x3.len x3.cap, .slice (some ⟨w5.heap.size, 0, none⟩) 1 1]).run Try.prog (w5.alloc (.cells #[.int .i64 x4] 3)) = .ok (.slice l7.a l7.len l7.cap) w6 ∧
    I1 l7 (IntKind.i64.wrap (x4 + 1)) w6 ∧
    μ2 l7 (IntKind.i64.wrap (x4 + 1)) w6 < μ2 x3 x4 w5) (∃ w8 : World, ∃ l9 : Slc, (Builtin.append_ #[22, 22] 22 #[.slice x3.a x3.len x3.cap, .slice (some ⟨w5.heap.size, 0, none⟩) 2 2]).run Try.prog (w5.alloc (.cells #[.int .i64 7000, .int .i64 7000] 3)) = .ok (.slice l9.a l9.len l9.cap) w8 ∧
    Calls Try.prog 16 #[.slice l9.a l9.len l9.cap] w8 (Rv fun v10 w11 => ∃ p12 : Option Addr, ∃ n13 : Int, v10 = .tuple #[.pointer p12, .int .i64 n13] ∧
    Calls Try.prog 17 #[.pointer p12, .int .i64 33] w11 (Rv fun v14 w15 => ∃ n16 : Int, ∃ n17 : Int, v14 = .tuple #[.int .i64 n16, .int .i64 n17] ∧
    Calls Try.prog 24 #[.pointer p12] w15 (Rv fun v18 w19 => ∃ n20 : Int, ∃ n21 : Int, ∃ n22 : Int, v18 = .agg #[.int .i64 n20, .int .i64 n21, .int .i64 n22] ∧
    ∃ w23 : World, ∃ b24 : Bool, (do eqGuard .eql 38 (.tmp 29) (.tmp 30) (.agg #[.int .i64 n20, .int .i64 n21, .int .i64 n22]) (.agg #[.int .i64 1, .int .i64 1, .int .i64 0]); binOp .eql 38 (.agg #[.int .i64 n20, .int .i64 n21, .int .i64 n22]) (.agg #[.int .i64 1, .int .i64 1, .int .i64 0])).run Try.prog w19 = .ok (.bool b24) w23 ∧
    br b24 (Calls Try.prog 22 #[.pointer p12, .int .i64 32] w23 (Rv fun v25 w26 => ∃ n27 : Int, v25 = .int .i64 n27 ∧
    br (decide (n27 = (7000 : Int))) (br (decide (n16 = (32 : Int))) (br (decide (n17 = (7000 : Int))) (R (.bool true) w26) (R (.bool false) w26)) (R (.bool false) w26)) (R (.bool false) w26))) (R (.bool false) w23)))))
theorem B15_eq : @B15 = fun (w : World) (R : Value → World → Prop) => trF Try.prog G (lk [(3, [(1, .slc), (2, .int .i64)])]) Try.f15 [] w R := by kernel_rfl
theorem c15  (w : World) (R : Value → World → Prop) (h : B15  w R) : Calls Try.prog 15 #[] w (Rv R) := calls_of_tr (L := lk [(3, [(1, .slc), (2, .int .i64)])]) Try.func15 hG hM (by rw [B15_eq] at h; exact h)

/-- (*locution/shard.Seq).Len -/
def B21n  (w : World) (R : Value → World → Prop) : Prop :=
  R (.int .i64 0) w
theorem B21n_eq : @B21n = fun (w : World) (R : Value → World → Prop) => trF Try.prog G (lk []) Try.f21 [.pointer none] w R := by kernel_rfl
theorem c21n  (w : World) (R : Value → World → Prop) (h : B21n  w R) : Calls Try.prog 21 #[.pointer none] w (Rv R) := calls_of_tr (L := lk []) Try.func21 hG hM (by rw [B21n_eq] at h; exact h)

/-- (*locution/shard.Seq).At -/
def B22n (x_1 : Int) (w : World) (R : Value → World → Prop) : Prop :=
  R (.int .i64 (-1)) w
theorem B22n_eq : @B22n = fun (x_1 : Int) (w : World) (R : Value → World → Prop) => trF Try.prog G (lk []) Try.f22 [.pointer none, .int .i64 x_1] w R := by kernel_rfl
theorem c22n (x_1 : Int) (w : World) (R : Value → World → Prop) (h : B22n x_1 w R) : Calls Try.prog 22 #[.pointer none, .int .i64 x_1] w (Rv R) := calls_of_tr (L := lk []) Try.func22 hG hM (by rw [B22n_eq] at h; exact h)

/-- (*locution/shard.Seq).Next -/
def B17n (x_1 : Int) (w : World) (R : Value → World → Prop) : Prop :=
  Calls Try.prog 21 #[.pointer none] w (Rv fun v1 w2 => ∃ n3 : Int, v1 = .int .i64 n3 ∧
    br (decide (n3 = (0 : Int))) (R (.tuple #[.int .i64 (-1), .int .i64 (-1)]) w2) (False))
theorem B17n_eq : @B17n = fun (x_1 : Int) (w : World) (R : Value → World → Prop) => trF Try.prog G (lk []) Try.f17 [.pointer none, .int .i64 x_1] w R := by kernel_rfl
theorem c17n (x_1 : Int) (w : World) (R : Value → World → Prop) (h : B17n x_1 w R) : Calls Try.prog 17 #[.pointer none, .int .i64 x_1] w (Rv R) := calls_of_tr (L := lk []) Try.func17 hG hM (by rw [B17n_eq] at h; exact h)

/-- (*locution/shard.Seq).Kinds -/
def B24n  (w : World) (R : Value → World → Prop) : Prop :=
  
    ∃ n1 : Int, ∃ n2 : Int, ∃ n3 : Int, ((w.alloc (.cells #[.int .i64 0, .int .i64 0, .int .i64 0] 38)).alloc (.cells #[.int .i64 0, .int .i64 0, .int .i64 0] 38)).cell? (Addr.add ⟨(w.alloc (.cells #[.int .i64 0, .int .i64 0, .int .i64 0] 38)).heap.size, 0, none⟩ 0) = some (.int .i64 n1) ∧
    ((w.alloc (.cells #[.int .i64 0, .int .i64 0, .int .i64 0] 38)).alloc (.cells #[.int .i64 0, .int .i64 0, .int .i64 0] 38)).cell? (Addr.add ⟨(w.alloc (.cells #[.int .i64 0, .int .i64 0, .int .i64 0] 38)).heap.size, 0, none⟩ 1) = some (.int .i64 n2) ∧
    ((w.alloc (.cells #[.int .i64 0, .int .i64 0, .int .i64 0] 38)).alloc (.cells #[.int .i64 0, .int .i64 0, .int .i64 0] 38)).cell? (Addr.add ⟨(w.alloc (.cells #[.int .i64 0, .int .i64 0, .int .i64 0] 38)).heap.size, 0, none⟩ 2) = some (.int .i64 n3) ∧
    (∃ u, ((w.alloc (.cells #[.int .i64 0, .int .i64 0, .int .i64 0] 38)).alloc (.cells #[.int .i64 0, .int .i64 0, .int .i64 0] 38)).cell? (Addr.add ⟨w.heap.size, 0, none⟩ 0) = some u) ∧
    ((w.alloc (.cells #[.int .i64 0, .int .i64 0, .int .i64 0] 38)).alloc (.cells #[.int .i64 0, .int .i64 0, .int .i64 0] 38)).frozen? (Addr.add ⟨w.heap.size, 0, none⟩ 0) = false ∧
    (∃ u, (((w.alloc (.cells #[.int .i64 0, .int .i64 0, .int .i64 0] 38)).alloc (.cells #[.int .i64 0, .int .i64 0, .int .i64 0] 38)).setCell (Addr.add ⟨w.heap.size, 0, none⟩ 0) (.int .i64 n1)).cell? (Addr.add ⟨w.heap.size, 0, none⟩ 1) = some u) ∧
    (((w.alloc (.cells #[.int .i64 0, .int .i64 0, .int .i64 0] 38)).alloc (.cells #[.int .i64 0, .int .i64 0, .int .i64 0] 38)).setCell (Addr.add ⟨w.heap.size, 0, none⟩ 0) (.int .i64 n1)).frozen? (Addr.add ⟨w.heap.size, 0, none⟩ 1) = false ∧
    (∃ u, ((((w.alloc (.cells #[.int .i64 0, .int .i64 0, .int .i64 0] 38)).alloc (.cells #[.int .i64 0, .int .i64 0, .int .i64 0] 38)).setCell (Addr.add ⟨w.heap.size, 0, none⟩ 0) (.int .i64 n1)).setCell (Addr.add ⟨w.heap.size, 0, none⟩ 1) (.int .i64 n2)).cell? (Addr.add ⟨w.heap.size, 0, none⟩ 2) = some u) ∧
    ((((w.alloc (.cells #[.int .i64 0, .int .i64 0, .int .i64 0] 38)).alloc (.cells #[.int .i64 0, .int .i64 0, .int .i64 0] 38)).setCell (Addr.add ⟨w.heap.size, 0, none⟩ 0) (.int .i64 n1)).setCell (Addr.add ⟨w.heap.size, 0, none⟩ 1) (.int .i64 n2)).frozen? (Addr.add ⟨w.heap.size, 0, none⟩ 2) = false ∧
    ([] : List Nat).Nodup ∧ (∀ D, D ∈ ([] : List Nat) →
    (((((w.alloc (.cells #[.int .i64 0, .int .i64 0, .int .i64 0] 38)).alloc (.cells #[.int .i64 0, .int .i64 0, .int .i64 0] 38)).setCell (Addr.add ⟨w.heap.size, 0, none⟩ 0) (.int .i64 n1)).setCell (Addr.add ⟨w.heap.size, 0, none⟩ 1) (.int .i64 n2)).setCell (Addr.add ⟨w.heap.size, 0, none⟩ 2) (.int .i64 n3)).heap[D]? = some (.deferred (some []))) ∧
    ∀ w4 : World, Kp (fun k =>
    k ∈ ([] : List Nat)) (((((w.alloc (.cells #[.int .i64 0, .int .i64 0, .int .i64 0] 38)).alloc (.cells #[.int .i64 0, .int .i64 0, .int .i64 0] 38)).setCell (Addr.add ⟨w.heap.size, 0, none⟩ 0) (.int .i64 n1)).setCell (Addr.add ⟨w.heap.size, 0, none⟩ 1) (.int .i64 n2)).setCell (Addr.add ⟨w.heap.size, 0, none⟩ 2) (.int .i64 n3)) w4 →
    ∃ n5 : Int, ∃ n6 : Int, ∃ n7 : Int, w4.cell? (Addr.add ⟨w.heap.size, 0, none⟩ 0) = some (.int .i64 n5) ∧
    w4.cell? (Addr.add ⟨w.heap.size, 0, none⟩ 1) = some (.int .i64 n6) ∧ w4.cell? (Addr.add ⟨w.heap.size, 0, none⟩ 2) = some (.int .i64 n7) ∧
    R (.agg #[.int .i64 n5, .int .i64 n6, .int .i64 n7]) w4
theorem B24n_eq : @B24n = fun (w : World) (R : Value → World → Prop) => trFT Try.prog G (lk []) Try.f24 [.pointer none] w R := by kernel_rfl
theorem c24n  (w : World) (R : Value → World → Prop) (h : B24n  w R) : Calls Try.prog 24 #[.pointer none] w (Rv R) := calls_of_trT (L := lk []) Try.func24 hG hM (by rw [B24n_eq] at h; exact h)

/-- (*locution/shard.Seq).Size -/
def B23n  (w : World) (R : Value → World → Prop) : Prop :=
  R (.int .i64 0) w
theorem B23n_eq : @B23n = fun (w : World) (R : Value → World → Prop) => trF Try.prog G (lk []) Try.f23 [.pointer none] w R := by kernel_rfl
theorem c23n  (w : World) (R : Value → World → Prop) (h : B23n  w R) : Calls Try.prog 23 #[.pointer none] w (Rv R) := calls_of_tr (L := lk []) Try.func23 hG hM (by rw [B23n_eq] at h; exact h)

end Go.Proofs.Ytmpgklgjmkcpdaa.V
