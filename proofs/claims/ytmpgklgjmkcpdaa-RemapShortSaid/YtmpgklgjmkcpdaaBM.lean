/- The verification conditions of functions, printed by a program of this work (pr.py) and checked here by the kernel. -/
import Derived.Test.YtmpgklgjmkcpdaaVb
import Derived.Test.YtmpgklgjmkcpdaaBO
set_option maxRecDepth 100000
set_option linter.unusedVariables false
namespace Go.Proofs.Ytmpgklgjmkcpdaa.V
open Go Go.VC

/-- locution/remap.New -/
def B58 (x_0 : Int) (x_1 : Slc) (w : World) (R : Value → World → Prop) : Prop :=
  Calls Try.prog 101 #[.int .i64 x_0, .slice x_1.a x_1.len x_1.cap] w (Rv fun v1 w2 => ∃ n3 : Int, v1 = .int .i64 n3 ∧
    br (!(decide (n3 = (0 : Int)))) (R (.tuple #[.pointer none, .int .i64 n3]) w2) (∃ w4 : World, ∃ l5 : Slc, (Instr.makeSlice 42 (.int .i64 x_0) (.int .i64 x_0)).run Try.prog w2 = .ok (.slice l5.a l5.len l5.cap) w4 ∧
    ∃ (I6 : Int → World → Prop) (μ7 : Int → World → Nat), I6 (0 : Int) w4 ∧ ∀ x8 : Int, ∀ w9 : World, I6 x8 w9 → br (decide (x8 < (x_1.len : Int))) (0 ≤ x8 ∧
    x8 < (x_1.len : Int) ∧ ∃ a10, x_1.a = some a10 ∧ ∃ l11 : Slc, w9.cell? (Addr.add a10 (x8.toNat * 1)) = some (.slice l11.a l11.len l11.cap) ∧ 0 ≤ (0 : Int) ∧
    0 < (l11.len : Int) ∧ ∃ a12, l11.a = some a12 ∧ ∃ n13 : Int, (World.drew w9).cell? (Addr.add a12 ((0 : Int).toNat * 1)) = some (.int .i64 n13) ∧ 0 ≤ (0 : Int) ∧
    0 < (l11.len : Int) ∧ ∃ a14, l11.a = some a14 ∧ ∃ n15 : Int, (World.drew w9).cell? (Addr.add a14 ((0 : Int).toNat * 1)) = some (.int .i64 n15) ∧ 0 ≤ n15 ∧
    n15 < (l5.len : Int) ∧ ∃ a16, l5.a = some a16 ∧ ∃ l17 : Slc, (World.drew w9).cell? (Addr.add a16 (n15.toNat * 1)) = some (.slice l17.a l17.len l17.cap) ∧
    0 ≤ (1 : Int) ∧ 1 < (l11.len : Int) ∧ ∃ a18, l11.a = some a18 ∧ ∃ n19 : Int, (World.drew w9).cell? (Addr.add a18 ((1 : Int).toNat * 1)) = some (.int .i64 n19) ∧
    ((World.drew w9).alloc (.cells #[.int .i64 n19] 3)).cell? (Addr.add a16 (n15.toNat * 1)) = some (.slice l17.a l17.len l17.cap) ∧
    ((World.drew w9).alloc (.cells #[.int .i64 n19] 3)).cell? (Addr.add a14 ((0 : Int).toNat * 1)) = some (.int .i64 n15) ∧
    ((World.drew w9).alloc (.cells #[.int .i64 n19] 3)).cell? (Addr.add a12 ((0 : Int).toNat * 1)) = some (.int .i64 n13) ∧
    ∃ w20 : World, ∃ l21 : Slc, (Builtin.append_ #[22, 22] 22 #[.slice l17.a l17.len l17.cap, .slice (some ⟨(World.drew w9).heap.size, 0, none⟩) 1 1]).run Try.prog ((World.drew w9).alloc (.cells #[.int .i64 n19] 3)) = .ok (.slice l21.a l21.len l21.cap) w20 ∧
    w20.cell? (Addr.add a12 ((0 : Int).toNat * 1)) = some (.int .i64 n13) ∧ 0 ≤ n13 ∧ n13 < (l5.len : Int) ∧ ∃ a22, l5.a = some a22 ∧
    (∃ u, w20.cell? (Addr.add a22 (n13.toNat * 1)) = some u) ∧ w20.frozen? (Addr.add a22 (n13.toNat * 1)) = false ∧
    I6 (IntKind.i64.wrap (x8 + 1)) (w20.setCell (Addr.add a22 (n13.toNat * 1)) (.slice l21.a l21.len l21.cap)) ∧
    μ7 (IntKind.i64.wrap (x8 + 1)) (w20.setCell (Addr.add a22 (n13.toNat * 1)) (.slice l21.a l21.len l21.cap)) < μ7 x8 w9) (Calls Try.prog 30 #[.slice l5.a l5.len l5.cap] w9 (Rv fun v23 w24 =>
    ∃ p25 : Option Addr, ∃ n26 : Int, v23 = .tuple #[.pointer p25, .int .i64 n26] ∧
    br (!(decide (n26 = (0 : Int)))) (R (.tuple #[.pointer none, .int .i64 n26]) w24) (R (.tuple #[.pointer (some ⟨w24.heap.size, 0, none⟩), .int .i64 0]) (w24.alloc (.cells #[.pointer p25] 117)))))))
theorem B58_eq : @B58 = fun (x_0 : Int) (x_1 : Slc) (w : World) (R : Value → World → Prop) => trF Try.prog G (lk [(6, [(22, .int .i64)])]) Try.f58 [.int .i64 x_0, .slice x_1.a x_1.len x_1.cap] w R := by kernel_rfl
theorem c58 (x_0 : Int) (x_1 : Slc) (w : World) (R : Value → World → Prop) (h : B58 x_0 x_1 w R) : Calls Try.prog 58 #[.int .i64 x_0, .slice x_1.a x_1.len x_1.cap] w (Rv R) := calls_of_tr (L := lk [(6, [(22, .int .i64)])]) Try.func58 hG hM (by rw [B58_eq] at h; exact h)

/-- (*locution/remap.Map).Words -/
def B60 (a_0 : Addr) (w : World) (R : Value → World → Prop) : Prop :=
  ∃ p1 : Option Addr, w.cell? (Addr.add a_0 0) = some (.pointer p1) ∧ Calls Try.prog 38 #[.pointer p1] w (Rv fun v2 w3 => ∃ n4 : Int, v2 = .int .i64 n4 ∧
    R (.int .i64 n4) w3)
theorem B60_eq : @B60 = fun (a_0 : Addr) (w : World) (R : Value → World → Prop) => trF Try.prog G (lk []) Try.f60 [.pointer (some a_0)] w R := by kernel_rfl
theorem c60 (a_0 : Addr) (w : World) (R : Value → World → Prop) (h : B60 a_0 w R) : Calls Try.prog 60 #[.pointer (some a_0)] w (Rv R) := calls_of_tr (L := lk []) Try.func60 hG hM (by rw [B60_eq] at h; exact h)

/-- (*locution/remap.Map).Behind -/
def B61 (a_0 : Addr) (x_1 : Int) (w : World) (R : Value → World → Prop) : Prop :=
  ∃ p1 : Option Addr, w.cell? (Addr.add a_0 0) = some (.pointer p1) ∧ Calls Try.prog 31 #[.pointer p1, .int .i64 x_1] w (Rv fun v2 w3 =>
    ∃ n4 : Int, ∃ n5 : Int, v2 = .tuple #[.int .i64 n4, .int .i64 n5] ∧ R (.int .i64 (IntKind.i64.wrap (n5 - n4))) w3)
theorem B61_eq : @B61 = fun (a_0 : Addr) (x_1 : Int) (w : World) (R : Value → World → Prop) => trF Try.prog G (lk []) Try.f61 [.pointer (some a_0), .int .i64 x_1] w R := by kernel_rfl
theorem c61 (a_0 : Addr) (x_1 : Int) (w : World) (R : Value → World → Prop) (h : B61 a_0 x_1 w R) : Calls Try.prog 61 #[.pointer (some a_0), .int .i64 x_1] w (Rv R) := calls_of_tr (L := lk []) Try.func61 hG hM (by rw [B61_eq] at h; exact h)

/-- (*locution/remap.Map).Rank -/
def B63 (a_0 : Addr) (x_1 : Int) (x_2 : Int) (w : World) (R : Value → World → Prop) : Prop :=
  ∃ p1 : Option Addr, w.cell? (Addr.add a_0 0) = some (.pointer p1) ∧ Calls Try.prog 32 #[.pointer p1, .int .i64 x_1, .int .i64 x_2] w (Rv fun v2 w3 =>
    ∃ n4 : Int, v2 = .int .i64 n4 ∧ br (decide (n4 < (0 : Int))) (R (.int .i64 (-1)) w3) (∃ p5 : Option Addr, w3.cell? (Addr.add a_0 0) = some (.pointer p5) ∧
    Calls Try.prog 31 #[.pointer p5, .int .i64 x_1] w3 (Rv fun v6 w7 => ∃ n8 : Int, ∃ n9 : Int, v6 = .tuple #[.int .i64 n8, .int .i64 n9] ∧
    R (.int .i64 (IntKind.i64.wrap (n4 - n8))) w7)))
theorem B63_eq : @B63 = fun (a_0 : Addr) (x_1 : Int) (x_2 : Int) (w : World) (R : Value → World → Prop) => trF Try.prog G (lk []) Try.f63 [.pointer (some a_0), .int .i64 x_1, .int .i64 x_2] w R := by kernel_rfl
theorem c63 (a_0 : Addr) (x_1 : Int) (x_2 : Int) (w : World) (R : Value → World → Prop) (h : B63 a_0 x_1 x_2 w R) : Calls Try.prog 63 #[.pointer (some a_0), .int .i64 x_1, .int .i64 x_2] w (Rv R) := calls_of_tr (L := lk []) Try.func63 hG hM (by rw [B63_eq] at h; exact h)

/-- (*locution/remap.Map).Word -/
def B65 (a_0 : Addr) (x_1 : Int) (x_2 : Int) (w : World) (R : Value → World → Prop) : Prop :=
  br (decide (x_2 < (0 : Int))) (R (.int .i64 (-1)) w) (Calls Try.prog 61 #[.pointer (some a_0), .int .i64 x_1] w (Rv fun v1 w2 => ∃ n3 : Int, v1 = .int .i64 n3 ∧
    br (decide (n3 ≤ x_2)) (R (.int .i64 (-1)) w2) (∃ p4 : Option Addr, w2.cell? (Addr.add a_0 0) = some (.pointer p4) ∧
    Calls Try.prog 31 #[.pointer p4, .int .i64 x_1] w2 (Rv fun v5 w6 => ∃ n7 : Int, ∃ n8 : Int, v5 = .tuple #[.int .i64 n7, .int .i64 n8] ∧
    ∃ p9 : Option Addr, w6.cell? (Addr.add a_0 0) = some (.pointer p9) ∧ Calls Try.prog 36 #[.pointer p9, .int .i64 (IntKind.i64.wrap (n7 + x_2))] w6 (Rv fun v10 w11 =>
    ∃ n12 : Int, v10 = .int .i64 n12 ∧ R (.int .i64 n12) w11)))))
theorem B65_eq : @B65 = fun (a_0 : Addr) (x_1 : Int) (x_2 : Int) (w : World) (R : Value → World → Prop) => trF Try.prog G (lk []) Try.f65 [.pointer (some a_0), .int .i64 x_1, .int .i64 x_2] w R := by kernel_rfl
theorem c65 (a_0 : Addr) (x_1 : Int) (x_2 : Int) (w : World) (R : Value → World → Prop) (h : B65 a_0 x_1 x_2 w R) : Calls Try.prog 65 #[.pointer (some a_0), .int .i64 x_1, .int .i64 x_2] w (Rv R) := calls_of_tr (L := lk []) Try.func65 hG hM (by rw [B65_eq] at h; exact h)

/-- (*locution/remap.Map).Short -/
def B67 (a_0 : Addr) (x_1 : Slc) (w : World) (R : Value → World → Prop) : Prop :=
  ∃ p1 : Option Addr, (w.alloc (.cells #[.pointer (some a_0)] 72)).cell? ⟨w.heap.size, 0, none⟩ = some (.pointer p1) ∧
    Calls Try.prog 70 #[.pointer p1, .slice x_1.a x_1.len x_1.cap] (w.alloc (.cells #[.pointer (some a_0)] 72)) (Rv fun v2 w3 => ∃ b4 : Bool, v2 = .bool b4 ∧
    br (!b4) (([] : List Nat).Nodup ∧ (∀ D, D ∈ ([] : List Nat) → w3.heap[D]? = some (.deferred (some []))) ∧ ∀ w5 : World, Kp (fun k => k ∈ ([] : List Nat)) w3 w5 →
    R (.tuple #[.slice none 0 0, .int .i64 7]) w5) (Calls Try.prog 103 #[.slice x_1.a x_1.len x_1.cap] (w3.alloc (.cells #[.slice none 0 0] 22)) (Rv fun v6 w7 =>
    ∃ v8 : Value, v6 = v8 ∧ ∃ (g9 : Nat) (A10 C11 : Array Value), v8 = .func (.func g9) A10 C11 ∧ G g9 = true ∧ ∃ n12 : Nat, ∃ f20 : Nat → Int, ∃ f21 : Nat →
    Int, ∃ (D13 : Nat → Prop) (J14 : Nat → (Nat → Prop) → World → Prop) (X15 : Option Nat → (Nat → Prop) → World →
    Prop), Iter Try.prog g9 A10.toList C11.toList w7 n12 (fun j => [.int .i64 (f20 j), .int .i64 (f21 j)]) D13 ∧ (∀ k, D13 k → k < w7.heap.size) ∧ (∀ j, Stab (J14 j)) ∧
    (∀ o, Stab (X15 o)) ∧ J14 0 (fun _ => False) w7 ∧ (∀ (j16 : Nat) (T17 : Nat → Prop) (w18 : World), j16 < n12 → J14 j16 T17 w18 → (∀ k, T17 k →
    w7.heap.size ≤ k) → T17 w7.heap.size → T17 (w7.heap.size + 1) → (∀ k, T17 k → k < w18.heap.size) → Kp (fun k => ¬ T17 k ∧ ¬ D13 k) w18 w18 ∧
    ∀ w19 : World, Kp (fun k => k = w7.heap.size + 1) w18 w19 → ∃ l22 : Slc, (World.drew w19).cell? ⟨w3.heap.size, 0, none⟩ = some (.slice l22.a l22.len l22.cap) ∧
    ∃ p23 : Option Addr, (World.drew w19).cell? ⟨w.heap.size, 0, none⟩ = some (.pointer p23) ∧
    Calls Try.prog 63 #[.pointer p23, .int .i64 (f20 j16), .int .i64 (f21 j16)] (World.drew w19) (Rv fun v24 w25 => ∃ n26 : Int, v24 = .int .i64 n26 ∧
    w25.cell? ⟨w3.heap.size, 0, none⟩ = some (.slice l22.a l22.len l22.cap) ∧
    (w25.alloc (.cells #[.int .i64 n26] 3)).cell? ⟨w3.heap.size, 0, none⟩ = some (.slice l22.a l22.len l22.cap) ∧
    ∃ w27 : World, ∃ l28 : Slc, (Builtin.append_ #[22, 22] 22 #[.slice l22.a l22.len l22.cap, .slice (some ⟨w25.heap.size, 0, none⟩) 1 1]).run Try.prog (w25.alloc (.cells #[.int .i64 n26] 3)) = .ok (.slice l28.a l28.len l28.cap) w27 ∧
    (∃ u, w27.cell? ⟨w3.heap.size, 0, none⟩ = some u) ∧ w27.frozen? ⟨w3.heap.size, 0, none⟩ = false ∧ Kp (fun k => ¬ T17 k ∧
    ¬ D13 k) w19 (w27.setCell ⟨w3.heap.size, 0, none⟩ (.slice l28.a l28.len l28.cap)) ∧
    J14 (j16 + 1) T17 (w27.setCell ⟨w3.heap.size, 0, none⟩ (.slice l28.a l28.len l28.cap)))) ∧ (∀ (T29 : Nat → Prop) (w30 : World), J14 n12 T29 w30 → (∀ k, T29 k →
    w7.heap.size ≤ k) → w30.heap[w7.heap.size]? = some (.deferred (some [])) → ∃ l31 : Slc, w30.cell? ⟨w3.heap.size, 0, none⟩ = some (.slice l31.a l31.len l31.cap) ∧
    (w7.heap.size :: ([] : List Nat)).Nodup ∧ (∀ D, D ∈ (w7.heap.size :: ([] : List Nat)) → w30.heap[D]? = some (.deferred (some []))) ∧ ∀ w32 : World, Kp (fun k =>
    k ∈ (w7.heap.size :: ([] : List Nat))) w30 w32 → R (.tuple #[.slice l31.a l31.len l31.cap, .int .i64 0]) w32) ∧ (∀ (T33 : Nat →
    Prop) (w34 : World), X15 none T33 w34 → (∀ k, T33 k → w7.heap.size ≤ k) → w34.heap[w7.heap.size]? = some (.deferred (some [])) →
    (w7.heap.size :: ([] : List Nat)).Nodup ∧ (∀ D, D ∈ (w7.heap.size :: ([] : List Nat)) → w34.heap[D]? = some (.deferred (some []))) ∧ ∀ w35 : World, Kp (fun k =>
    k ∈ (w7.heap.size :: ([] : List Nat))) w34 w35 → R (.tuple #[.slice none 0 0, .int .i64 0]) w35) ∧ True)))
theorem B67_eq : @B67 = fun (a_0 : Addr) (x_1 : Slc) (w : World) (R : Value → World → Prop) => trFT Try.prog G (lk [(1000007, [(15, .int .i64), (16, .int .i64)])]) Try.f67 [.pointer (some a_0), .slice x_1.a x_1.len x_1.cap] w R := by kernel_rfl
theorem c67 (a_0 : Addr) (x_1 : Slc) (w : World) (R : Value → World → Prop) (h : B67 a_0 x_1 w R) : Calls Try.prog 67 #[.pointer (some a_0), .slice x_1.a x_1.len x_1.cap] w (Rv R) := calls_of_trT (L := lk [(1000007, [(15, .int .i64), (16, .int .i64)])]) Try.func67 hG hM (by rw [B67_eq] at h; exact h)

/-- (*locution/remap.Map).Long -/
def B69 (a_0 : Addr) (x_1 : Int) (x_2 : Slc) (w : World) (R : Value → World → Prop) : Prop :=
  br (decide (x_1 < (0 : Int))) (R (.tuple #[.slice none 0 0, .int .i64 7]) w) (Calls Try.prog 60 #[.pointer (some a_0)] w (Rv fun v1 w2 =>
    ∃ n3 : Int, v1 = .int .i64 n3 ∧ br (decide (n3 ≤ x_1)) (R (.tuple #[.slice none 0 0, .int .i64 7]) w2) (∃ (I4 : Int → Slc → Int → World → Prop) (μ5 : Int → Slc →
    Int → World → Nat), I4 x_1 ⟨(some ⟨w2.heap.size, 0, none⟩), 1, 1⟩ (0 : Int) (w2.alloc (.cells #[.int .i64 x_1] 3)) ∧
    ∀ x6 : Int, ∀ x7 : Slc, ∀ x8 : Int, ∀ w9 : World, I4 x6 x7 x8 w9 → br (decide (x8 < (x_2.len : Int))) (0 ≤ x8 ∧ x8 < (x_2.len : Int) ∧ ∃ a10, x_2.a = some a10 ∧
    ∃ n11 : Int, w9.cell? (Addr.add a10 (x8.toNat * 1)) = some (.int .i64 n11) ∧
    Calls Try.prog 65 #[.pointer (some a_0), .int .i64 x6, .int .i64 n11] w9 (Rv fun v12 w13 => ∃ n14 : Int, v12 = .int .i64 n14 ∧
    br (decide (n14 < (0 : Int))) (R (.tuple #[.slice none 0 0, .int .i64 7]) w13) (∃ w15 : World, ∃ l16 : Slc, (Builtin.append_ #[22, 22] 22 #[.slice x7.a x7.len x7.cap, .slice (some ⟨w13.heap.size, 0, none⟩) 1 1]).run Try.prog (w13.alloc (.cells #[.int .i64 n14] 3)) = .ok (.slice l16.a l16.len l16.cap) w15 ∧
    I4 n14 l16 (IntKind.i64.wrap (x8 + 1)) w15 ∧
    μ5 n14 l16 (IntKind.i64.wrap (x8 + 1)) w15 < μ5 x6 x7 x8 w9))) (R (.tuple #[.slice x7.a x7.len x7.cap, .int .i64 0]) w9))))
theorem B69_eq : @B69 = fun (a_0 : Addr) (x_1 : Int) (x_2 : Slc) (w : World) (R : Value → World → Prop) => trF Try.prog G (lk [(5, [(1, .int .i64), (8, .slc), (23, .int .i64)])]) Try.f69 [.pointer (some a_0), .int .i64 x_1, .slice x_2.a x_2.len x_2.cap] w R := by kernel_rfl
theorem c69 (a_0 : Addr) (x_1 : Int) (x_2 : Slc) (w : World) (R : Value → World → Prop) (h : B69 a_0 x_1 x_2 w R) : Calls Try.prog 69 #[.pointer (some a_0), .int .i64 x_1, .slice x_2.a x_2.len x_2.cap] w (Rv R) := calls_of_tr (L := lk [(5, [(1, .int .i64), (8, .slc), (23, .int .i64)])]) Try.func69 hG hM (by rw [B69_eq] at h; exact h)

/-- (*locution/remap.Map).Fits -/
def B70 (a_0 : Addr) (x_1 : Slc) (w : World) (R : Value → World → Prop) : Prop :=
  Calls Try.prog 103 #[.slice x_1.a x_1.len x_1.cap] ((w.alloc (.cells #[.pointer (some a_0)] 72)).alloc (.cells #[.bool false] 4)) (Rv fun v1 w2 =>
    ∃ v3 : Value, v1 = v3 ∧ ∃ (g4 : Nat) (A5 C6 : Array Value), v3 = .func (.func g4) A5 C6 ∧ G g4 = true ∧ ∃ n7 : Nat, ∃ f15 : Nat → Int, ∃ f16 : Nat →
    Int, ∃ (D8 : Nat → Prop) (J9 : Nat → (Nat → Prop) → World → Prop) (X10 : Option Nat → (Nat → Prop) → World →
    Prop), Iter Try.prog g4 A5.toList C6.toList w2 n7 (fun j => [.int .i64 (f15 j), .int .i64 (f16 j)]) D8 ∧ (∀ k, D8 k → k < w2.heap.size) ∧ (∀ j, Stab (J9 j)) ∧
    (∀ o, Stab (X10 o)) ∧ J9 0 (fun _ => False) w2 ∧ (∀ (j11 : Nat) (T12 : Nat → Prop) (w13 : World), j11 < n7 → J9 j11 T12 w13 → (∀ k, T12 k → w2.heap.size ≤ k) →
    T12 w2.heap.size → T12 (w2.heap.size + 1) → (∀ k, T12 k → k < w13.heap.size) → Kp (fun k => ¬ T12 k ∧ ¬ D8 k) w13 w13 ∧ ∀ w14 : World, Kp (fun k =>
    k = w2.heap.size + 1) w13 w14 → ∃ p17 : Option Addr, w14.cell? ⟨w.heap.size, 0, none⟩ = some (.pointer p17) ∧
    Calls Try.prog 63 #[.pointer p17, .int .i64 (f15 j11), .int .i64 (f16 j11)] w14 (Rv fun v18 w19 => ∃ n20 : Int, v18 = .int .i64 n20 ∧
    br (decide (n20 < (0 : Int))) ((∃ u, w19.cell? ⟨(w.alloc (.cells #[.pointer (some a_0)] 72)).heap.size, 0, none⟩ = some u) ∧
    w19.frozen? ⟨(w.alloc (.cells #[.pointer (some a_0)] 72)).heap.size, 0, none⟩ = false ∧ Kp (fun k => ¬ T12 k ∧
    ¬ D8 k) w14 (w19.setCell ⟨(w.alloc (.cells #[.pointer (some a_0)] 72)).heap.size, 0, none⟩ (.bool false)) ∧
    X10 none T12 (w19.setCell ⟨(w.alloc (.cells #[.pointer (some a_0)] 72)).heap.size, 0, none⟩ (.bool false))) (Kp (fun k => ¬ T12 k ∧ ¬ D8 k) w14 w19 ∧
    J9 (j11 + 1) T12 w19))) ∧ (∀ (T21 : Nat → Prop) (w22 : World), J9 n7 T21 w22 → (∀ k, T21 k → w2.heap.size ≤ k) →
    w22.heap[w2.heap.size]? = some (.deferred (some [])) → ∃ p23 : Option Addr, w22.cell? ⟨w.heap.size, 0, none⟩ = some (.pointer p23) ∧
    (∃ u, w22.cell? ⟨(w.alloc (.cells #[.pointer (some a_0)] 72)).heap.size, 0, none⟩ = some u) ∧
    w22.frozen? ⟨(w.alloc (.cells #[.pointer (some a_0)] 72)).heap.size, 0, none⟩ = false ∧ (w2.heap.size :: ([] : List Nat)).Nodup ∧
    (∀ D, D ∈ (w2.heap.size :: ([] : List Nat)) →
    (w22.setCell ⟨(w.alloc (.cells #[.pointer (some a_0)] 72)).heap.size, 0, none⟩ (.bool (!p23.isNone))).heap[D]? = some (.deferred (some []))) ∧
    ∀ w24 : World, Kp (fun k =>
    k ∈ (w2.heap.size :: ([] : List Nat))) (w22.setCell ⟨(w.alloc (.cells #[.pointer (some a_0)] 72)).heap.size, 0, none⟩ (.bool (!p23.isNone))) w24 →
    ∃ b25 : Bool, w24.cell? ⟨(w.alloc (.cells #[.pointer (some a_0)] 72)).heap.size, 0, none⟩ = some (.bool b25) ∧ R (.bool b25) w24) ∧ (∀ (T26 : Nat →
    Prop) (w27 : World), X10 none T26 w27 → (∀ k, T26 k → w2.heap.size ≤ k) → w27.heap[w2.heap.size]? = some (.deferred (some [])) →
    (w2.heap.size :: ([] : List Nat)).Nodup ∧ (∀ D, D ∈ (w2.heap.size :: ([] : List Nat)) → w27.heap[D]? = some (.deferred (some []))) ∧ ∀ w28 : World, Kp (fun k =>
    k ∈ (w2.heap.size :: ([] : List Nat))) w27 w28 → ∃ b29 : Bool, w28.cell? ⟨(w.alloc (.cells #[.pointer (some a_0)] 72)).heap.size, 0, none⟩ = some (.bool b29) ∧
    R (.bool b29) w28) ∧ True)
theorem B70_eq : @B70 = fun (a_0 : Addr) (x_1 : Slc) (w : World) (R : Value → World → Prop) => trFT Try.prog G (lk [(1000004, [(9, .int .i64), (10, .int .i64)])]) Try.f70 [.pointer (some a_0), .slice x_1.a x_1.len x_1.cap] w R := by kernel_rfl
theorem c70 (a_0 : Addr) (x_1 : Slc) (w : World) (R : Value → World → Prop) (h : B70 a_0 x_1 w R) : Calls Try.prog 70 #[.pointer (some a_0), .slice x_1.a x_1.len x_1.cap] w (Rv R) := calls_of_trT (L := lk [(1000004, [(9, .int .i64), (10, .int .i64)])]) Try.func70 hG hM (by rw [B70_eq] at h; exact h)

/-- locution/remap.check -/
def B101 (x_0 : Int) (x_1 : Slc) (w : World) (R : Value → World → Prop) : Prop :=
  br (decide (x_0 < (1 : Int))) (R (.int .i64 1) w) (br (decide ((65536 : Int) < x_0)) (R (.int .i64 1) w) (∃ (I1 : Int → World → Prop) (μ2 : Int → World →
    Nat), I1 (0 : Int) w ∧ ∀ x3 : Int, ∀ w4 : World, I1 x3 w4 → br (decide (x3 < (x_1.len : Int))) (0 ≤ x3 ∧ x3 < (x_1.len : Int) ∧ ∃ a5, x_1.a = some a5 ∧
    ∃ l6 : Slc, w4.cell? (Addr.add a5 (x3.toNat * 1)) = some (.slice l6.a l6.len l6.cap) ∧
    br (!(decide ((l6.len : Int) = (2 : Int)))) (R (.int .i64 3) w4) (∃ (I7 : Int → World → Prop) (μ8 : Int → World → Nat), I7 (0 : Int) w4 ∧
    ∀ x9 : Int, ∀ w10 : World, I7 x9 w10 → br (decide (x9 < (l6.len : Int))) (0 ≤ x9 ∧ x9 < (l6.len : Int) ∧ ∃ a11, l6.a = some a11 ∧
    ∃ n12 : Int, w10.cell? (Addr.add a11 (x9.toNat * 1)) = some (.int .i64 n12) ∧
    br (decide (n12 < (0 : Int))) (R (.int .i64 8) w10) (br (decide (x_0 ≤ n12)) (R (.int .i64 8) w10) (I7 (IntKind.i64.wrap (x9 + 1)) w10 ∧
    μ8 (IntKind.i64.wrap (x9 + 1)) w10 < μ8 x9 w10))) (br (decide ((0 : Int) < x3)) (0 ≤ (IntKind.i64.wrap (x3 - 1)) ∧
    (IntKind.i64.wrap (x3 - 1)) < (x_1.len : Int) ∧ ∃ a13, x_1.a = some a13 ∧
    ∃ l14 : Slc, w10.cell? (Addr.add a13 ((IntKind.i64.wrap (x3 - 1)).toNat * 1)) = some (.slice l14.a l14.len l14.cap) ∧
    Calls Try.prog 122 #[.slice l14.a l14.len l14.cap, .slice l6.a l6.len l6.cap] w10 (Rv fun v15 w16 => ∃ n17 : Int, v15 = .int .i64 n17 ∧
    br (decide ((0 : Int) ≤ n17)) (R (.int .i64 9) w16) (I1 (IntKind.i64.wrap (x3 + 1)) w16 ∧
    μ2 (IntKind.i64.wrap (x3 + 1)) w16 < μ2 x3 w4))) (I1 (IntKind.i64.wrap (x3 + 1)) w10 ∧ μ2 (IntKind.i64.wrap (x3 + 1)) w10 < μ2 x3 w4)))) (R (.int .i64 0) w4)))
theorem B101_eq : @B101 = fun (x_0 : Int) (x_1 : Slc) (w : World) (R : Value → World → Prop) => trF Try.prog G (lk [(4, [(17, .int .i64)]), (9, [(27, .int .i64)])]) Try.f101 [.int .i64 x_0, .slice x_1.a x_1.len x_1.cap] w R := by kernel_rfl
theorem c101 (x_0 : Int) (x_1 : Slc) (w : World) (R : Value → World → Prop) (h : B101 x_0 x_1 w R) : Calls Try.prog 101 #[.int .i64 x_0, .slice x_1.a x_1.len x_1.cap] w (Rv R) := calls_of_tr (L := lk [(4, [(17, .int .i64)]), (9, [(27, .int .i64)])]) Try.func101 hG hM (by rw [B101_eq] at h; exact h)

/-- locution/remap.neighbours -/
def B103 (x_0 : Slc) (w : World) (R : Value → World → Prop) : Prop :=
  R (.func (.func 123) #[] #[.pointer (some ⟨w.heap.size, 0, none⟩)]) (w.alloc (.cells #[.slice x_0.a x_0.len x_0.cap] 22))
theorem B103_eq : @B103 = fun (x_0 : Slc) (w : World) (R : Value → World → Prop) => trF Try.prog G (lk []) Try.f103 [.slice x_0.a x_0.len x_0.cap] w R := by kernel_rfl
theorem c103 (x_0 : Slc) (w : World) (R : Value → World → Prop) (h : B103 x_0 w R) : Calls Try.prog 103 #[.slice x_0.a x_0.len x_0.cap] w (Rv R) := calls_of_tr (L := lk []) Try.func103 hG hM (by rw [B103_eq] at h; exact h)

/-- locution/remap.neighbours$1 -/
def B123 (x_0 : Value) (a_1 : Addr) (w : World) (R : Value → World → Prop) : Prop :=
  ∃ (I1 : Int → World → Prop) (μ2 : Int → World → Nat), I1 (1 : Int) w ∧ ∀ x3 : Int, ∀ w4 : World, I1 x3 w4 →
    ∃ l5 : Slc, w4.cell? a_1 = some (.slice l5.a l5.len l5.cap) ∧
    br (decide (x3 < (l5.len : Int))) (∃ l6 : Slc, (World.drew w4).cell? a_1 = some (.slice l6.a l6.len l6.cap) ∧ 0 ≤ (IntKind.i64.wrap (x3 - 1)) ∧
    (IntKind.i64.wrap (x3 - 1)) < (l6.len : Int) ∧ ∃ a7, l6.a = some a7 ∧
    ∃ n8 : Int, (World.drew w4).cell? (Addr.add a7 ((IntKind.i64.wrap (x3 - 1)).toNat * 1)) = some (.int .i64 n8) ∧
    ∃ l9 : Slc, (World.drew w4).cell? a_1 = some (.slice l9.a l9.len l9.cap) ∧ 0 ≤ x3 ∧ x3 < (l9.len : Int) ∧ ∃ a10, l9.a = some a10 ∧
    ∃ n11 : Int, (World.drew w4).cell? (Addr.add a10 (x3.toNat * 1)) = some (.int .i64 n11) ∧
    CallFV Try.prog G x_0 [.int .i64 n8, .int .i64 n11] (World.drew w4) fun v12 w13 => ∃ b14 : Bool, v12 = .bool b14 ∧
    br (!b14) (R (.tuple #[]) w13) (I1 (IntKind.i64.wrap (x3 + 1)) w13 ∧ μ2 (IntKind.i64.wrap (x3 + 1)) w13 < μ2 x3 w4)) (R (.tuple #[]) w4)
theorem B123_eq : @B123 = fun (x_0 : Value) (a_1 : Addr) (w : World) (R : Value → World → Prop) => trF Try.prog G (lk [(1, [(3, .int .i64)])]) Try.f123 [x_0, .pointer (some a_1)] w R := by kernel_rfl
theorem c123 (x_0 : Value) (a_1 : Addr) (w : World) (R : Value → World → Prop) (h : B123 x_0 a_1 w R) : Calls Try.prog 123 #[x_0, .pointer (some a_1)] w (Rv R) := calls_of_tr (L := lk [(1, [(3, .int .i64)])]) Try.func123 hG hM (by rw [B123_eq] at h; exact h)

/-- locution/gram.Compare -/
def B122 (x_0 : Slc) (x_1 : Slc) (w : World) (R : Value → World → Prop) : Prop :=
  Calls Try.prog 131 #[.slice x_0.a x_0.len x_0.cap, .slice x_1.a x_1.len x_1.cap] w (Rv fun v1 w2 => ∃ n3 : Int, v1 = .int .i64 n3 ∧ R (.int .i64 n3) w2)
theorem B122_eq : @B122 = fun (x_0 : Slc) (x_1 : Slc) (w : World) (R : Value → World → Prop) => trF Try.prog G (lk []) Try.f122 [.slice x_0.a x_0.len x_0.cap, .slice x_1.a x_1.len x_1.cap] w R := by kernel_rfl
theorem c122 (x_0 : Slc) (x_1 : Slc) (w : World) (R : Value → World → Prop) (h : B122 x_0 x_1 w R) : Calls Try.prog 122 #[.slice x_0.a x_0.len x_0.cap, .slice x_1.a x_1.len x_1.cap] w (Rv R) := calls_of_tr (L := lk []) Try.func122 hG hM (by rw [B122_eq] at h; exact h)

/-- cmp.Compare[int] -/
def B134 (x_0 : Int) (x_1 : Int) (w : World) (R : Value → World → Prop) : Prop :=
  Calls Try.prog 136 #[.int .i64 x_0] w (Rv fun v1 w2 => ∃ b3 : Bool, v1 = .bool b3 ∧ Calls Try.prog 136 #[.int .i64 x_1] w2 (Rv fun v4 w5 => ∃ b6 : Bool, v4 = .bool b6 ∧
    br b3 (br b6 (R (.int .i64 0) w5) (R (.int .i64 (-1)) w5)) (br b6 (R (.int .i64 1) w5) (br (decide (x_0 < x_1)) (R (.int .i64 (-1)) w5) (br (decide (x_1 < x_0)) (R (.int .i64 1) w5) (R (.int .i64 0) w5))))))
theorem B134_eq : @B134 = fun (x_0 : Int) (x_1 : Int) (w : World) (R : Value → World → Prop) => trF Try.prog G (lk []) Try.f134 [.int .i64 x_0, .int .i64 x_1] w R := by kernel_rfl
theorem c134 (x_0 : Int) (x_1 : Int) (w : World) (R : Value → World → Prop) (h : B134 x_0 x_1 w R) : Calls Try.prog 134 #[.int .i64 x_0, .int .i64 x_1] w (Rv R) := calls_of_tr (L := lk []) Try.func134 hG hM (by rw [B134_eq] at h; exact h)

/-- cmp.isNaN[int] -/
def B136 (x_0 : Int) (w : World) (R : Value → World → Prop) : Prop :=
  R (.bool (!(decide (x_0 = x_0)))) w
theorem B136_eq : @B136 = fun (x_0 : Int) (w : World) (R : Value → World → Prop) => trF Try.prog G (lk []) Try.f136 [.int .i64 x_0] w R := by kernel_rfl
theorem c136 (x_0 : Int) (w : World) (R : Value → World → Prop) (h : B136 x_0 w R) : Calls Try.prog 136 #[.int .i64 x_0] w (Rv R) := calls_of_tr (L := lk []) Try.func136 hG hM (by rw [B136_eq] at h; exact h)

/-- slices.Compare[[]int,int] -/
def B131 (x_0 : Slc) (x_1 : Slc) (w : World) (R : Value → World → Prop) : Prop :=
  ∃ (I1 : Int → World → Prop) (μ2 : Int → World → Nat), I1 (0 : Int) w ∧ ∀ x3 : Int, ∀ w4 : World, I1 x3 w4 → br (decide (x3 < (x_0.len : Int))) (0 ≤ x3 ∧
    x3 < (x_0.len : Int) ∧ ∃ a5, x_0.a = some a5 ∧ ∃ n6 : Int, w4.cell? (Addr.add a5 (x3.toNat * 1)) = some (.int .i64 n6) ∧
    br (decide ((x_1.len : Int) ≤ x3)) (R (.int .i64 1) w4) (0 ≤ x3 ∧ x3 < (x_1.len : Int) ∧ ∃ a7, x_1.a = some a7 ∧
    ∃ n8 : Int, w4.cell? (Addr.add a7 (x3.toNat * 1)) = some (.int .i64 n8) ∧ Calls Try.prog 134 #[.int .i64 n6, .int .i64 n8] w4 (Rv fun v9 w10 =>
    ∃ n11 : Int, v9 = .int .i64 n11 ∧ br (!(decide (n11 = (0 : Int)))) (R (.int .i64 n11) w10) (I1 (IntKind.i64.wrap (x3 + 1)) w10 ∧
    μ2 (IntKind.i64.wrap (x3 + 1)) w10 < μ2 x3 w4)))) (br (decide ((x_0.len : Int) < (x_1.len : Int))) (R (.int .i64 (-1)) w4) (R (.int .i64 0) w4))
theorem B131_eq : @B131 = fun (x_0 : Slc) (x_1 : Slc) (w : World) (R : Value → World → Prop) => trF Try.prog G (lk [(2, [(11, .int .i64)])]) Try.f131 [.slice x_0.a x_0.len x_0.cap, .slice x_1.a x_1.len x_1.cap] w R := by kernel_rfl
theorem c131 (x_0 : Slc) (x_1 : Slc) (w : World) (R : Value → World → Prop) (h : B131 x_0 x_1 w R) : Calls Try.prog 131 #[.slice x_0.a x_0.len x_0.cap, .slice x_1.a x_1.len x_1.cap] w (Rv R) := calls_of_tr (L := lk [(2, [(11, .int .i64)])]) Try.func131 hG hM (by rw [B131_eq] at h; exact h)

/-- locution/locutionref34.Wrong -/
def B59 (x_0 : Int) (x_1 : Slc) (w : World) (R : Value → World → Prop) : Prop :=
  br (decide (x_0 < (1 : Int))) (R (.int .i64 1) w) (br (decide ((65536 : Int) < x_0)) (R (.int .i64 1) w) (∃ (I1 : Int → World → Prop) (μ2 : Int → World →
    Nat), I1 (0 : Int) w ∧ ∀ x3 : Int, ∀ w4 : World, I1 x3 w4 → br (decide (x3 < (x_1.len : Int))) (0 ≤ x3 ∧ x3 < (x_1.len : Int) ∧ ∃ a5, x_1.a = some a5 ∧
    ∃ l6 : Slc, w4.cell? (Addr.add a5 (x3.toNat * 1)) = some (.slice l6.a l6.len l6.cap) ∧
    br (!(decide ((l6.len : Int) = (2 : Int)))) (R (.int .i64 3) w4) (∃ (I7 : Int → World → Prop) (μ8 : Int → World → Nat), I7 (0 : Int) w4 ∧
    ∀ x9 : Int, ∀ w10 : World, I7 x9 w10 → br (decide (x9 < (2 : Int))) (0 ≤ x3 ∧ x3 < (x_1.len : Int) ∧ ∃ a11, x_1.a = some a11 ∧
    ∃ l12 : Slc, w10.cell? (Addr.add a11 (x3.toNat * 1)) = some (.slice l12.a l12.len l12.cap) ∧ 0 ≤ x9 ∧ x9 < (l12.len : Int) ∧ ∃ a13, l12.a = some a13 ∧
    ∃ n14 : Int, w10.cell? (Addr.add a13 (x9.toNat * 1)) = some (.int .i64 n14) ∧ br (decide (n14 < (0 : Int))) (R (.int .i64 8) w10) (0 ≤ x3 ∧
    x3 < (x_1.len : Int) ∧ ∃ a15, x_1.a = some a15 ∧ ∃ l16 : Slc, w10.cell? (Addr.add a15 (x3.toNat * 1)) = some (.slice l16.a l16.len l16.cap) ∧ 0 ≤ x9 ∧
    x9 < (l16.len : Int) ∧ ∃ a17, l16.a = some a17 ∧ ∃ n18 : Int, w10.cell? (Addr.add a17 (x9.toNat * 1)) = some (.int .i64 n18) ∧
    br (decide (x_0 ≤ n18)) (R (.int .i64 8) w10) (I7 (IntKind.i64.wrap (x9 + 1)) w10 ∧
    μ8 (IntKind.i64.wrap (x9 + 1)) w10 < μ8 x9 w10))) (br (decide ((0 : Int) < x3)) (0 ≤ (IntKind.i64.wrap (x3 - 1)) ∧
    (IntKind.i64.wrap (x3 - 1)) < (x_1.len : Int) ∧ ∃ a19, x_1.a = some a19 ∧
    ∃ l20 : Slc, (World.drew w10).cell? (Addr.add a19 ((IntKind.i64.wrap (x3 - 1)).toNat * 1)) = some (.slice l20.a l20.len l20.cap) ∧ 0 ≤ x3 ∧
    x3 < (x_1.len : Int) ∧ ∃ a21, x_1.a = some a21 ∧ ∃ l22 : Slc, (World.drew w10).cell? (Addr.add a21 (x3.toNat * 1)) = some (.slice l22.a l22.len l22.cap) ∧
    Calls Try.prog 102 #[.slice l20.a l20.len l20.cap, .slice l22.a l22.len l22.cap] (World.drew w10) (Rv fun v23 w24 => ∃ n25 : Int, v23 = .int .i64 n25 ∧
    br (decide ((0 : Int) ≤ n25)) (R (.int .i64 9) w24) (I1 (IntKind.i64.wrap (x3 + 1)) w24 ∧
    μ2 (IntKind.i64.wrap (x3 + 1)) w24 < μ2 x3 w4))) (I1 (IntKind.i64.wrap (x3 + 1)) (World.drew w10) ∧
    μ2 (IntKind.i64.wrap (x3 + 1)) (World.drew w10) < μ2 x3 w4)))) (R (.int .i64 0) w4)))
theorem B59_eq : @B59 = fun (x_0 : Int) (x_1 : Slc) (w : World) (R : Value → World → Prop) => trF Try.prog G (lk [(4, [(5, .int .i64)]), (9, [(6, .int .i64)])]) Try.f59 [.int .i64 x_0, .slice x_1.a x_1.len x_1.cap] w R := by kernel_rfl
theorem c59 (x_0 : Int) (x_1 : Slc) (w : World) (R : Value → World → Prop) (h : B59 x_0 x_1 w R) : Calls Try.prog 59 #[.int .i64 x_0, .slice x_1.a x_1.len x_1.cap] w (Rv R) := calls_of_tr (L := lk [(4, [(5, .int .i64)]), (9, [(6, .int .i64)])]) Try.func59 hG hM (by rw [B59_eq] at h; exact h)

/-- locution/locutionref34.Behind -/
def B62 (x_0 : Slc) (x_1 : Int) (w : World) (R : Value → World → Prop) : Prop :=
  ∃ (I1 : Slc → Int → World → Prop) (μ2 : Slc → Int → World → Nat), I1 ⟨none, 0, 0⟩ (0 : Int) w ∧ ∀ x3 : Slc, ∀ x4 : Int, ∀ w5 : World, I1 x3 x4 w5 →
    br (decide (x4 < (x_0.len : Int))) (0 ≤ x4 ∧ x4 < (x_0.len : Int) ∧ ∃ a6, x_0.a = some a6 ∧
    ∃ l7 : Slc, w5.cell? (Addr.add a6 (x4.toNat * 1)) = some (.slice l7.a l7.len l7.cap) ∧ 0 ≤ (0 : Int) ∧ 0 < (l7.len : Int) ∧ ∃ a8, l7.a = some a8 ∧
    ∃ n9 : Int, w5.cell? (Addr.add a8 ((0 : Int).toNat * 1)) = some (.int .i64 n9) ∧ br (decide (n9 = x_1)) (0 ≤ x4 ∧ x4 < (x_0.len : Int) ∧
    ∃ a10, x_0.a = some a10 ∧ ∃ l11 : Slc, w5.cell? (Addr.add a10 (x4.toNat * 1)) = some (.slice l11.a l11.len l11.cap) ∧ 0 ≤ (1 : Int) ∧ 1 < (l11.len : Int) ∧
    ∃ a12, l11.a = some a12 ∧ ∃ n13 : Int, w5.cell? (Addr.add a12 ((1 : Int).toNat * 1)) = some (.int .i64 n13) ∧
    ∃ w14 : World, ∃ l15 : Slc, (Builtin.append_ #[22, 22] 22 #[.slice x3.a x3.len x3.cap, .slice (some ⟨w5.heap.size, 0, none⟩) 1 1]).run Try.prog (w5.alloc (.cells #[.int .i64 n13] 3)) = .ok (.slice l15.a l15.len l15.cap) w14 ∧
    I1 l15 (IntKind.i64.wrap (x4 + 1)) w14 ∧ μ2 l15 (IntKind.i64.wrap (x4 + 1)) w14 < μ2 x3 x4 w5) (I1 x3 (IntKind.i64.wrap (x4 + 1)) w5 ∧
    μ2 x3 (IntKind.i64.wrap (x4 + 1)) w5 < μ2 x3 x4 w5)) (R (.slice x3.a x3.len x3.cap) w5)
theorem B62_eq : @B62 = fun (x_0 : Slc) (x_1 : Int) (w : World) (R : Value → World → Prop) => trF Try.prog G (lk [(3, [(5, .slc), (6, .int .i64)])]) Try.f62 [.slice x_0.a x_0.len x_0.cap, .int .i64 x_1] w R := by kernel_rfl
theorem c62 (x_0 : Slc) (x_1 : Int) (w : World) (R : Value → World → Prop) (h : B62 x_0 x_1 w R) : Calls Try.prog 62 #[.slice x_0.a x_0.len x_0.cap, .int .i64 x_1] w (Rv R) := calls_of_tr (L := lk [(3, [(5, .slc), (6, .int .i64)])]) Try.func62 hG hM (by rw [B62_eq] at h; exact h)

/-- locution/locutionref34.Rank -/
def B64 (x_0 : Slc) (x_1 : Int) (x_2 : Int) (w : World) (R : Value → World → Prop) : Prop :=
  Calls Try.prog 62 #[.slice x_0.a x_0.len x_0.cap, .int .i64 x_1] w (Rv fun v1 w2 => ∃ l3 : Slc, v1 = .slice l3.a l3.len l3.cap ∧ ∃ (I4 : Int → World →
    Prop) (μ5 : Int → World → Nat), I4 (0 : Int) w2 ∧ ∀ x6 : Int, ∀ w7 : World, I4 x6 w7 → br (decide (x6 < (l3.len : Int))) (0 ≤ x6 ∧ x6 < (l3.len : Int) ∧
    ∃ a8, l3.a = some a8 ∧ ∃ n9 : Int, w7.cell? (Addr.add a8 (x6.toNat * 1)) = some (.int .i64 n9) ∧
    br (decide (n9 = x_2)) (R (.int .i64 x6) w7) (I4 (IntKind.i64.wrap (x6 + 1)) w7 ∧ μ5 (IntKind.i64.wrap (x6 + 1)) w7 < μ5 x6 w7)) (R (.int .i64 (-1)) w7))
theorem B64_eq : @B64 = fun (x_0 : Slc) (x_1 : Int) (x_2 : Int) (w : World) (R : Value → World → Prop) => trF Try.prog G (lk [(3, [(8, .int .i64)])]) Try.f64 [.slice x_0.a x_0.len x_0.cap, .int .i64 x_1, .int .i64 x_2] w R := by kernel_rfl
theorem c64 (x_0 : Slc) (x_1 : Int) (x_2 : Int) (w : World) (R : Value → World → Prop) (h : B64 x_0 x_1 x_2 w R) : Calls Try.prog 64 #[.slice x_0.a x_0.len x_0.cap, .int .i64 x_1, .int .i64 x_2] w (Rv R) := calls_of_tr (L := lk [(3, [(8, .int .i64)])]) Try.func64 hG hM (by rw [B64_eq] at h; exact h)

/-- locution/locutionref34.Word -/
def B66 (x_0 : Slc) (x_1 : Int) (x_2 : Int) (w : World) (R : Value → World → Prop) : Prop :=
  Calls Try.prog 62 #[.slice x_0.a x_0.len x_0.cap, .int .i64 x_1] w (Rv fun v1 w2 => ∃ l3 : Slc, v1 = .slice l3.a l3.len l3.cap ∧
    br (decide (x_2 < (0 : Int))) (R (.int .i64 (-1)) w2) (br (decide ((l3.len : Int) ≤ x_2)) (R (.int .i64 (-1)) w2) (0 ≤ x_2 ∧ x_2 < (l3.len : Int) ∧
    ∃ a4, l3.a = some a4 ∧ ∃ n5 : Int, w2.cell? (Addr.add a4 (x_2.toNat * 1)) = some (.int .i64 n5) ∧ R (.int .i64 n5) w2)))
theorem B66_eq : @B66 = fun (x_0 : Slc) (x_1 : Int) (x_2 : Int) (w : World) (R : Value → World → Prop) => trF Try.prog G (lk []) Try.f66 [.slice x_0.a x_0.len x_0.cap, .int .i64 x_1, .int .i64 x_2] w R := by kernel_rfl
theorem c66 (x_0 : Slc) (x_1 : Int) (x_2 : Int) (w : World) (R : Value → World → Prop) (h : B66 x_0 x_1 x_2 w R) : Calls Try.prog 66 #[.slice x_0.a x_0.len x_0.cap, .int .i64 x_1, .int .i64 x_2] w (Rv R) := calls_of_tr (L := lk []) Try.func66 hG hM (by rw [B66_eq] at h; exact h)

/-- locution/locutionref34.Short -/
def B68 (x_0 : Slc) (x_1 : Slc) (w : World) (R : Value → World → Prop) : Prop :=
  ∃ (I1 : Slc → Int → World → Prop) (μ2 : Slc → Int → World → Nat), I1 ⟨none, 0, 0⟩ (1 : Int) w ∧ ∀ x3 : Slc, ∀ x4 : Int, ∀ w5 : World, I1 x3 x4 w5 →
    br (decide (x4 < (x_1.len : Int))) (0 ≤ (IntKind.i64.wrap (x4 - 1)) ∧ (IntKind.i64.wrap (x4 - 1)) < (x_1.len : Int) ∧ ∃ a6, x_1.a = some a6 ∧
    ∃ n7 : Int, (World.drew w5).cell? (Addr.add a6 ((IntKind.i64.wrap (x4 - 1)).toNat * 1)) = some (.int .i64 n7) ∧ 0 ≤ x4 ∧ x4 < (x_1.len : Int) ∧
    ∃ a8, x_1.a = some a8 ∧ ∃ n9 : Int, (World.drew w5).cell? (Addr.add a8 (x4.toNat * 1)) = some (.int .i64 n9) ∧
    Calls Try.prog 64 #[.slice x_0.a x_0.len x_0.cap, .int .i64 n7, .int .i64 n9] (World.drew w5) (Rv fun v10 w11 => ∃ n12 : Int, v10 = .int .i64 n12 ∧
    br (decide (n12 < (0 : Int))) (R (.tuple #[.slice none 0 0, .bool false]) w11) (∃ w13 : World, ∃ l14 : Slc, (Builtin.append_ #[22, 22] 22 #[.slice x3.a x3.len x3.cap, .slice (some ⟨w11.heap.size, 0, none⟩) 1 1]).run Try.prog (w11.alloc (.cells #[.int .i64 n12] 3)) = .ok (.slice l14.a l14.len l14.cap) w13 ∧
    I1 l14 (IntKind.i64.wrap (x4 + 1)) w13 ∧ μ2 l14 (IntKind.i64.wrap (x4 + 1)) w13 < μ2 x3 x4 w5))) (R (.tuple #[.slice x3.a x3.len x3.cap, .bool true]) w5)
theorem B68_eq : @B68 = fun (x_0 : Slc) (x_1 : Slc) (w : World) (R : Value → World → Prop) => trF Try.prog G (lk [(3, [(6, .slc), (7, .int .i64)])]) Try.f68 [.slice x_0.a x_0.len x_0.cap, .slice x_1.a x_1.len x_1.cap] w R := by kernel_rfl
theorem c68 (x_0 : Slc) (x_1 : Slc) (w : World) (R : Value → World → Prop) (h : B68 x_0 x_1 w R) : Calls Try.prog 68 #[.slice x_0.a x_0.len x_0.cap, .slice x_1.a x_1.len x_1.cap] w (Rv R) := calls_of_tr (L := lk [(3, [(6, .slc), (7, .int .i64)])]) Try.func68 hG hM (by rw [B68_eq] at h; exact h)

/-- locution/locutionref34.Long -/
def B72 (x_0 : Int) (x_1 : Slc) (x_2 : Int) (x_3 : Slc) (w : World) (R : Value → World → Prop) : Prop :=
  
    br (decide (x_2 < (0 : Int))) (R (.tuple #[.slice none 0 0, .bool false]) (w.alloc (.cells #[.int .i64 x_2] 3))) (br (decide (x_0 ≤ x_2)) (R (.tuple #[.slice none 0 0, .bool false]) (w.alloc (.cells #[.int .i64 x_2] 3))) (∃ (I1 : Int →
    Slc → Int → World → Prop) (μ2 : Int → Slc → Int → World → Nat), I1 x_2 ⟨(some ⟨w.heap.size, 0, none⟩), 1, 1⟩ (0 : Int) (w.alloc (.cells #[.int .i64 x_2] 3)) ∧
    ∀ x3 : Int, ∀ x4 : Slc, ∀ x5 : Int, ∀ w6 : World, I1 x3 x4 x5 w6 → br (decide (x5 < (x_3.len : Int))) (0 ≤ x5 ∧ x5 < (x_3.len : Int) ∧ ∃ a7, x_3.a = some a7 ∧
    ∃ n8 : Int, w6.cell? (Addr.add a7 (x5.toNat * 1)) = some (.int .i64 n8) ∧
    Calls Try.prog 66 #[.slice x_1.a x_1.len x_1.cap, .int .i64 x3, .int .i64 n8] w6 (Rv fun v9 w10 => ∃ n11 : Int, v9 = .int .i64 n11 ∧
    br (decide (n11 < (0 : Int))) (R (.tuple #[.slice none 0 0, .bool false]) w10) (∃ w12 : World, ∃ l13 : Slc, (Builtin.append_ #[22, 22] 22 #[.slice x4.a x4.len x4.cap, .slice (some ⟨w10.heap.size, 0, none⟩) 1 1]).run Try.prog (w10.alloc (.cells #[.int .i64 n11] 3)) = .ok (.slice l13.a l13.len l13.cap) w12 ∧
    I1 n11 l13 (IntKind.i64.wrap (x5 + 1)) w12 ∧
    μ2 n11 l13 (IntKind.i64.wrap (x5 + 1)) w12 < μ2 x3 x4 x5 w6))) (R (.tuple #[.slice x4.a x4.len x4.cap, .bool true]) w6)))
theorem B72_eq : @B72 = fun (x_0 : Int) (x_1 : Slc) (x_2 : Int) (x_3 : Slc) (w : World) (R : Value → World → Prop) => trF Try.prog G (lk [(5, [(2, .int .i64), (10, .slc), (11, .int .i64)])]) Try.f72 [.int .i64 x_0, .slice x_1.a x_1.len x_1.cap, .int .i64 x_2, .slice x_3.a x_3.len x_3.cap] w R := by kernel_rfl
theorem c72 (x_0 : Int) (x_1 : Slc) (x_2 : Int) (x_3 : Slc) (w : World) (R : Value → World → Prop) (h : B72 x_0 x_1 x_2 x_3 w R) : Calls Try.prog 72 #[.int .i64 x_0, .slice x_1.a x_1.len x_1.cap, .int .i64 x_2, .slice x_3.a x_3.len x_3.cap] w (Rv R) := calls_of_tr (L := lk [(5, [(2, .int .i64), (10, .slc), (11, .int .i64)])]) Try.func72 hG hM (by rw [B72_eq] at h; exact h)

/-- locution/locutionref18.Compare -/
def B102 (x_0 : Slc) (x_1 : Slc) (w : World) (R : Value → World → Prop) : Prop :=
  ∃ (I1 : Int → World → Prop) (μ2 : Int → World → Nat), I1 (0 : Int) w ∧ ∀ x3 : Int, ∀ w4 : World, I1 x3 w4 →
    br (decide (x3 < (x_0.len : Int))) (br (decide (x3 < (x_1.len : Int))) (0 ≤ x3 ∧ x3 < (x_0.len : Int) ∧ ∃ a5, x_0.a = some a5 ∧
    ∃ n6 : Int, (World.drew w4).cell? (Addr.add a5 (x3.toNat * 1)) = some (.int .i64 n6) ∧ 0 ≤ x3 ∧ x3 < (x_1.len : Int) ∧ ∃ a7, x_1.a = some a7 ∧
    ∃ n8 : Int, (World.drew w4).cell? (Addr.add a7 (x3.toNat * 1)) = some (.int .i64 n8) ∧ br (decide (n6 < n8)) (R (.int .i64 (-1)) (World.drew w4)) (0 ≤ x3 ∧
    x3 < (x_0.len : Int) ∧ ∃ a9, x_0.a = some a9 ∧ ∃ n10 : Int, (World.drew (World.drew w4)).cell? (Addr.add a9 (x3.toNat * 1)) = some (.int .i64 n10) ∧ 0 ≤ x3 ∧
    x3 < (x_1.len : Int) ∧ ∃ a11, x_1.a = some a11 ∧ ∃ n12 : Int, (World.drew (World.drew w4)).cell? (Addr.add a11 (x3.toNat * 1)) = some (.int .i64 n12) ∧
    br (decide (n12 < n10)) (R (.int .i64 1) (World.drew (World.drew w4))) (I1 (IntKind.i64.wrap (x3 + 1)) (World.drew (World.drew w4)) ∧
    μ2 (IntKind.i64.wrap (x3 + 1)) (World.drew (World.drew w4)) < μ2 x3 w4))) (br (decide ((x_0.len : Int) < (x_1.len : Int))) (R (.int .i64 (-1)) w4) (br (decide ((x_1.len : Int) < (x_0.len : Int))) (R (.int .i64 1) w4) (R (.int .i64 0) w4)))) (br (decide ((x_0.len : Int) < (x_1.len : Int))) (R (.int .i64 (-1)) w4) (br (decide ((x_1.len : Int) < (x_0.len : Int))) (R (.int .i64 1) w4) (R (.int .i64 0) w4)))
theorem B102_eq : @B102 = fun (x_0 : Slc) (x_1 : Slc) (w : World) (R : Value → World → Prop) => trF Try.prog G (lk [(2, [(5, .int .i64)])]) Try.f102 [.slice x_0.a x_0.len x_0.cap, .slice x_1.a x_1.len x_1.cap] w R := by kernel_rfl
theorem c102 (x_0 : Slc) (x_1 : Slc) (w : World) (R : Value → World → Prop) (h : B102 x_0 x_1 w R) : Calls Try.prog 102 #[.slice x_0.a x_0.len x_0.cap, .slice x_1.a x_1.len x_1.cap] w (Rv R) := calls_of_tr (L := lk [(2, [(5, .int .i64)])]) Try.func102 hG hM (by rw [B102_eq] at h; exact h)

/-- locution/locutionlaw34.RemapMakes -/
def B11 (x_0 : Int) (x_1 : Slc) (x2_0 : Int) (x2_1 : Int) (x2_2 : Int) (w : World) (R : Value → World → Prop) : Prop :=
  Calls Try.prog 56 #[.int .i64 x_0, .slice x_1.a x_1.len x_1.cap] (w.alloc (.cells #[.int .i64 x2_0, .int .i64 x2_1, .int .i64 x2_2] 38)) (Rv fun v1 w2 =>
    ∃ b3 : Bool, v1 = .bool b3 ∧ br (!b3) (Calls Try.prog 57 #[] w2 (Rv fun v4 w5 => ∃ b6 : Bool, v4 = .bool b6 ∧
    R (.bool b6) w5)) (Calls Try.prog 58 #[.int .i64 x_0, .slice x_1.a x_1.len x_1.cap] w2 (Rv fun v7 w8 =>
    ∃ p9 : Option Addr, ∃ n10 : Int, v7 = .tuple #[.pointer p9, .int .i64 n10] ∧ Calls Try.prog 59 #[.int .i64 x_0, .slice x_1.a x_1.len x_1.cap] w8 (Rv fun v11 w12 =>
    ∃ n13 : Int, v11 = .int .i64 n13 ∧
    br (!(decide (n10 = n13))) (R (.bool false) w12) (br (!(decide (n13 = (0 : Int)))) (br p9.isNone (Calls Try.prog 57 #[] w12 (Rv fun v14 w15 =>
    ∃ b16 : Bool, v14 = .bool b16 ∧ R (.bool b16) w15)) (R (.bool false) w12)) (Calls Try.prog 60 #[.pointer p9] (World.drew w12) (Rv fun v17 w18 =>
    ∃ n19 : Int, v17 = .int .i64 n19 ∧ br (decide (n19 = x_0)) (0 ≤ (0 : Int) ∧ 0 < (3 : Int) ∧ ∃ a20, (some ⟨w.heap.size, 0, none⟩) = some a20 ∧
    ∃ n21 : Int, w18.cell? (Addr.add a20 ((0 : Int).toNat * 1)) = some (.int .i64 n21) ∧ 0 ≤ (0 : Int) ∧ 0 < (3 : Int) ∧
    ∃ a22, (some ⟨w.heap.size, 0, none⟩) = some a22 ∧ ∃ n23 : Int, w18.cell? (Addr.add a22 ((0 : Int).toNat * 1)) = some (.int .i64 n23) ∧
    Calls Try.prog 61 #[.pointer p9, .int .i64 n21] w18 (Rv fun v24 w25 => ∃ n26 : Int, v24 = .int .i64 n26 ∧
    w25.cell? (Addr.add a22 ((0 : Int).toNat * 1)) = some (.int .i64 n23) ∧ Calls Try.prog 62 #[.slice x_1.a x_1.len x_1.cap, .int .i64 n23] w25 (Rv fun v27 w28 =>
    ∃ l29 : Slc, v27 = .slice l29.a l29.len l29.cap ∧ br (decide (n26 = (l29.len : Int))) (0 ≤ (0 : Int) ∧ 0 < (3 : Int) ∧
    ∃ a30, (some ⟨w.heap.size, 0, none⟩) = some a30 ∧ ∃ n31 : Int, w28.cell? (Addr.add a30 ((0 : Int).toNat * 1)) = some (.int .i64 n31) ∧ 0 ≤ (1 : Int) ∧
    1 < (3 : Int) ∧ ∃ a32, (some ⟨w.heap.size, 0, none⟩) = some a32 ∧ ∃ n33 : Int, w28.cell? (Addr.add a32 ((1 : Int).toNat * 1)) = some (.int .i64 n33) ∧
    0 ≤ (0 : Int) ∧ 0 < (3 : Int) ∧ ∃ a34, (some ⟨w.heap.size, 0, none⟩) = some a34 ∧
    ∃ n35 : Int, w28.cell? (Addr.add a34 ((0 : Int).toNat * 1)) = some (.int .i64 n35) ∧ 0 ≤ (1 : Int) ∧ 1 < (3 : Int) ∧
    ∃ a36, (some ⟨w.heap.size, 0, none⟩) = some a36 ∧ ∃ n37 : Int, w28.cell? (Addr.add a36 ((1 : Int).toNat * 1)) = some (.int .i64 n37) ∧
    Calls Try.prog 63 #[.pointer p9, .int .i64 n31, .int .i64 n33] w28 (Rv fun v38 w39 => ∃ n40 : Int, v38 = .int .i64 n40 ∧
    w39.cell? (Addr.add a36 ((1 : Int).toNat * 1)) = some (.int .i64 n37) ∧ w39.cell? (Addr.add a34 ((0 : Int).toNat * 1)) = some (.int .i64 n35) ∧
    Calls Try.prog 64 #[.slice x_1.a x_1.len x_1.cap, .int .i64 n35, .int .i64 n37] w39 (Rv fun v41 w42 => ∃ n43 : Int, v41 = .int .i64 n43 ∧
    br (decide (n40 = n43)) (0 ≤ (0 : Int) ∧ 0 < (3 : Int) ∧ ∃ a44, (some ⟨w.heap.size, 0, none⟩) = some a44 ∧
    ∃ n45 : Int, w42.cell? (Addr.add a44 ((0 : Int).toNat * 1)) = some (.int .i64 n45) ∧ 0 ≤ (2 : Int) ∧ 2 < (3 : Int) ∧
    ∃ a46, (some ⟨w.heap.size, 0, none⟩) = some a46 ∧ ∃ n47 : Int, w42.cell? (Addr.add a46 ((2 : Int).toNat * 1)) = some (.int .i64 n47) ∧ 0 ≤ (0 : Int) ∧
    0 < (3 : Int) ∧ ∃ a48, (some ⟨w.heap.size, 0, none⟩) = some a48 ∧ ∃ n49 : Int, w42.cell? (Addr.add a48 ((0 : Int).toNat * 1)) = some (.int .i64 n49) ∧
    0 ≤ (2 : Int) ∧ 2 < (3 : Int) ∧ ∃ a50, (some ⟨w.heap.size, 0, none⟩) = some a50 ∧
    ∃ n51 : Int, w42.cell? (Addr.add a50 ((2 : Int).toNat * 1)) = some (.int .i64 n51) ∧
    Calls Try.prog 65 #[.pointer p9, .int .i64 n45, .int .i64 n47] w42 (Rv fun v52 w53 => ∃ n54 : Int, v52 = .int .i64 n54 ∧
    w53.cell? (Addr.add a50 ((2 : Int).toNat * 1)) = some (.int .i64 n51) ∧ w53.cell? (Addr.add a48 ((0 : Int).toNat * 1)) = some (.int .i64 n49) ∧
    Calls Try.prog 66 #[.slice x_1.a x_1.len x_1.cap, .int .i64 n49, .int .i64 n51] w53 (Rv fun v55 w56 => ∃ n57 : Int, v55 = .int .i64 n57 ∧
    br (decide (n54 = n57)) (Calls Try.prog 57 #[] w56 (Rv fun v58 w59 => ∃ b60 : Bool, v58 = .bool b60 ∧
    R (.bool b60) w59)) (R (.bool false) w56)))) (R (.bool false) w42)))) (R (.bool false) w28)))) (R (.bool false) w18))))))))
theorem B11_eq : @B11 = fun (x_0 : Int) (x_1 : Slc) (x2_0 : Int) (x2_1 : Int) (x2_2 : Int) (w : World) (R : Value → World → Prop) => trF Try.prog G (lk []) Try.f11 [.int .i64 x_0, .slice x_1.a x_1.len x_1.cap, .agg #[.int .i64 x2_0, .int .i64 x2_1, .int .i64 x2_2]] w R := by kernel_rfl
theorem c11 (x_0 : Int) (x_1 : Slc) (x2_0 : Int) (x2_1 : Int) (x2_2 : Int) (w : World) (R : Value → World → Prop) (h : B11 x_0 x_1 x2_0 x2_1 x2_2 w R) : Calls Try.prog 11 #[.int .i64 x_0, .slice x_1.a x_1.len x_1.cap, .agg #[.int .i64 x2_0, .int .i64 x2_1, .int .i64 x2_2]] w (Rv R) := calls_of_tr (L := lk []) Try.func11 hG hM (by rw [B11_eq] at h; exact h)

/-- locution/locutionlaw34.RemapAll -/
def B12 (x_0 : Int) (x_1 : Slc) (w : World) (R : Value → World → Prop) : Prop :=
  Calls Try.prog 56 #[.int .i64 x_0, .slice x_1.a x_1.len x_1.cap] w (Rv fun v1 w2 => ∃ b3 : Bool, v1 = .bool b3 ∧ br (!b3) (Calls Try.prog 57 #[] w2 (Rv fun v4 w5 =>
    ∃ b6 : Bool, v4 = .bool b6 ∧ R (.bool b6) w5)) (Calls Try.prog 59 #[.int .i64 x_0, .slice x_1.a x_1.len x_1.cap] w2 (Rv fun v7 w8 => ∃ n9 : Int, v7 = .int .i64 n9 ∧
    br (!(decide (n9 = (0 : Int)))) (Calls Try.prog 57 #[] w8 (Rv fun v10 w11 => ∃ b12 : Bool, v10 = .bool b12 ∧
    R (.bool b12) w11)) (Calls Try.prog 58 #[.int .i64 x_0, .slice x_1.a x_1.len x_1.cap] w8 (Rv fun v13 w14 =>
    ∃ p15 : Option Addr, ∃ n16 : Int, v13 = .tuple #[.pointer p15, .int .i64 n16] ∧ ∃ (I17 : Int → World → Prop) (μ18 : Int → World → Nat), I17 (0 : Int) w14 ∧
    ∀ x19 : Int, ∀ w20 : World, I17 x19 w20 → br (decide (x19 < (x_1.len : Int))) (0 ≤ x19 ∧ x19 < (x_1.len : Int) ∧ ∃ a21, x_1.a = some a21 ∧
    ∃ l22 : Slc, (World.drew w20).cell? (Addr.add a21 (x19.toNat * 1)) = some (.slice l22.a l22.len l22.cap) ∧ 0 ≤ (0 : Int) ∧ 0 < (l22.len : Int) ∧
    ∃ a23, l22.a = some a23 ∧ ∃ n24 : Int, (World.drew w20).cell? (Addr.add a23 ((0 : Int).toNat * 1)) = some (.int .i64 n24) ∧ 0 ≤ x19 ∧ x19 < (x_1.len : Int) ∧
    ∃ a25, x_1.a = some a25 ∧ ∃ l26 : Slc, (World.drew w20).cell? (Addr.add a25 (x19.toNat * 1)) = some (.slice l26.a l26.len l26.cap) ∧ 0 ≤ (1 : Int) ∧
    1 < (l26.len : Int) ∧ ∃ a27, l26.a = some a27 ∧ ∃ n28 : Int, (World.drew w20).cell? (Addr.add a27 ((1 : Int).toNat * 1)) = some (.int .i64 n28) ∧
    Calls Try.prog 63 #[.pointer p15, .int .i64 n24, .int .i64 n28] (World.drew w20) (Rv fun v29 w30 => ∃ n31 : Int, v29 = .int .i64 n31 ∧
    br (decide (n31 < (0 : Int))) (R (.bool false) w30) (Calls Try.prog 61 #[.pointer p15, .int .i64 n24] w30 (Rv fun v32 w33 => ∃ n34 : Int, v32 = .int .i64 n34 ∧
    br (decide (n34 ≤ n31)) (R (.bool false) w33) (Calls Try.prog 65 #[.pointer p15, .int .i64 n24, .int .i64 n31] w33 (Rv fun v35 w36 =>
    ∃ n37 : Int, v35 = .int .i64 n37 ∧ br (!(decide (n37 = n28))) (R (.bool false) w36) (br (decide ((0 : Int) < x19)) (0 ≤ (IntKind.i64.wrap (x19 - 1)) ∧
    (IntKind.i64.wrap (x19 - 1)) < (x_1.len : Int) ∧ ∃ a38, x_1.a = some a38 ∧
    ∃ l39 : Slc, w36.cell? (Addr.add a38 ((IntKind.i64.wrap (x19 - 1)).toNat * 1)) = some (.slice l39.a l39.len l39.cap) ∧ 0 ≤ (0 : Int) ∧ 0 < (l39.len : Int) ∧
    ∃ a40, l39.a = some a40 ∧ ∃ n41 : Int, w36.cell? (Addr.add a40 ((0 : Int).toNat * 1)) = some (.int .i64 n41) ∧
    br (decide (n41 = n24)) (0 ≤ (IntKind.i64.wrap (x19 - 1)) ∧ (IntKind.i64.wrap (x19 - 1)) < (x_1.len : Int) ∧ ∃ a42, x_1.a = some a42 ∧
    ∃ l43 : Slc, w36.cell? (Addr.add a42 ((IntKind.i64.wrap (x19 - 1)).toNat * 1)) = some (.slice l43.a l43.len l43.cap) ∧ 0 ≤ (1 : Int) ∧ 1 < (l43.len : Int) ∧
    ∃ a44, l43.a = some a44 ∧ ∃ n45 : Int, w36.cell? (Addr.add a44 ((1 : Int).toNat * 1)) = some (.int .i64 n45) ∧
    Calls Try.prog 63 #[.pointer p15, .int .i64 n24, .int .i64 n45] w36 (Rv fun v46 w47 => ∃ n48 : Int, v46 = .int .i64 n48 ∧
    br (!(decide (n48 = (IntKind.i64.wrap (n31 - 1))))) (R (.bool false) w47) (I17 (IntKind.i64.wrap (x19 + 1)) w47 ∧
    μ18 (IntKind.i64.wrap (x19 + 1)) w47 < μ18 x19 w20))) (I17 (IntKind.i64.wrap (x19 + 1)) w36 ∧
    μ18 (IntKind.i64.wrap (x19 + 1)) w36 < μ18 x19 w20)) (I17 (IntKind.i64.wrap (x19 + 1)) w36 ∧
    μ18 (IntKind.i64.wrap (x19 + 1)) w36 < μ18 x19 w20)))))))) (Calls Try.prog 60 #[.pointer p15] w20 (Rv fun v49 w50 => ∃ n51 : Int, v49 = .int .i64 n51 ∧
    br (decide (n51 = x_0)) (Calls Try.prog 57 #[] w50 (Rv fun v52 w53 => ∃ b54 : Bool, v52 = .bool b54 ∧ R (.bool b54) w53)) (R (.bool false) w50))))))))
theorem B12_eq : @B12 = fun (x_0 : Int) (x_1 : Slc) (w : World) (R : Value → World → Prop) => trF Try.prog G (lk [(5, [(7, .int .i64)])]) Try.f12 [.int .i64 x_0, .slice x_1.a x_1.len x_1.cap] w R := by kernel_rfl
theorem c12 (x_0 : Int) (x_1 : Slc) (w : World) (R : Value → World → Prop) (h : B12 x_0 x_1 w R) : Calls Try.prog 12 #[.int .i64 x_0, .slice x_1.a x_1.len x_1.cap] w (Rv R) := calls_of_tr (L := lk [(5, [(7, .int .i64)])]) Try.func12 hG hM (by rw [B12_eq] at h; exact h)

/-- locution/locutionlaw34.RemapShort -/
def B13 (x_0 : Int) (x_1 : Slc) (x_2 : Slc) (w : World) (R : Value → World → Prop) : Prop :=
  Calls Try.prog 56 #[.int .i64 x_0, .slice x_1.a x_1.len x_1.cap] w (Rv fun v1 w2 => ∃ b3 : Bool, v1 = .bool b3 ∧ br (!b3) (Calls Try.prog 57 #[] w2 (Rv fun v4 w5 =>
    ∃ b6 : Bool, v4 = .bool b6 ∧ R (.bool b6) w5)) (Calls Try.prog 59 #[.int .i64 x_0, .slice x_1.a x_1.len x_1.cap] w2 (Rv fun v7 w8 => ∃ n9 : Int, v7 = .int .i64 n9 ∧
    br (!(decide (n9 = (0 : Int)))) (Calls Try.prog 57 #[] w8 (Rv fun v10 w11 => ∃ b12 : Bool, v10 = .bool b12 ∧
    R (.bool b12) w11)) (br (decide ((20 : Int) < (x_2.len : Int))) (Calls Try.prog 57 #[] w8 (Rv fun v13 w14 => ∃ b15 : Bool, v13 = .bool b15 ∧
    R (.bool b15) w14)) (Calls Try.prog 58 #[.int .i64 x_0, .slice x_1.a x_1.len x_1.cap] w8 (Rv fun v16 w17 =>
    ∃ p18 : Option Addr, ∃ n19 : Int, v16 = .tuple #[.pointer p18, .int .i64 n19] ∧
    Calls Try.prog 67 #[.pointer p18, .slice x_2.a x_2.len x_2.cap] w17 (Rv fun v20 w21 =>
    ∃ l22 : Slc, ∃ n23 : Int, v20 = .tuple #[.slice l22.a l22.len l22.cap, .int .i64 n23] ∧
    Calls Try.prog 68 #[.slice x_1.a x_1.len x_1.cap, .slice x_2.a x_2.len x_2.cap] w21 (Rv fun v24 w25 =>
    ∃ l26 : Slc, ∃ b27 : Bool, v24 = .tuple #[.slice l26.a l26.len l26.cap, .bool b27] ∧
    Calls Try.prog 67 #[.pointer none, .slice x_2.a x_2.len x_2.cap] w25 (Rv fun v28 w29 =>
    ∃ l30 : Slc, ∃ n31 : Int, v28 = .tuple #[.slice l30.a l30.len l30.cap, .int .i64 n31] ∧
    Calls Try.prog 69 #[.pointer none, .int .i64 0, .slice x_2.a x_2.len x_2.cap] w29 (Rv fun v32 w33 =>
    ∃ l34 : Slc, ∃ n35 : Int, v32 = .tuple #[.slice l34.a l34.len l34.cap, .int .i64 n35] ∧
    br (!(decide (n31 = (7 : Int)))) (R (.bool false) w33) (br (!(decide (n35 = (7 : Int)))) (R (.bool false) w33) (Calls Try.prog 60 #[.pointer none] w33 (Rv fun v36 w37 =>
    ∃ n38 : Int, v36 = .int .i64 n38 ∧ br (!(decide (n38 = (0 : Int)))) (R (.bool false) w37) (Calls Try.prog 61 #[.pointer none, .int .i64 0] w37 (Rv fun v39 w40 =>
    ∃ n41 : Int, v39 = .int .i64 n41 ∧
    br (!(decide (n41 = (0 : Int)))) (R (.bool false) w40) (Calls Try.prog 63 #[.pointer none, .int .i64 0, .int .i64 1] w40 (Rv fun v42 w43 =>
    ∃ n44 : Int, v42 = .int .i64 n44 ∧
    br (!(decide (n44 = (-1)))) (R (.bool false) w43) (Calls Try.prog 65 #[.pointer none, .int .i64 0, .int .i64 0] w43 (Rv fun v45 w46 =>
    ∃ n47 : Int, v45 = .int .i64 n47 ∧ br (!(decide (n47 = (-1)))) (R (.bool false) w46) (Calls Try.prog 70 #[.pointer none, .slice none 0 0] w46 (Rv fun v48 w49 =>
    ∃ b50 : Bool, v48 = .bool b50 ∧ br b50 (R (.bool false) w49) (Calls Try.prog 70 #[.pointer p18, .slice x_2.a x_2.len x_2.cap] w49 (Rv fun v51 w52 =>
    ∃ b53 : Bool, v51 = .bool b53 ∧
    br (!(b53 == b27)) (R (.bool false) w52) (br (!((decide (n23 = (0 : Int))) == b27)) (R (.bool false) w52) (br (!b27) (br (!(decide (n23 = (7 : Int)))) (R (.bool false) w52) (Calls Try.prog 71 #[.slice l22.a l22.len l22.cap, .slice l26.a l26.len l26.cap] w52 (Rv fun v54 w55 =>
    ∃ b56 : Bool, v54 = .bool b56 ∧ br (!b56) (R (.bool false) w55) (br (decide ((x_2.len : Int) = (0 : Int))) (Calls Try.prog 57 #[] w55 (Rv fun v57 w58 =>
    ∃ b59 : Bool, v57 = .bool b59 ∧ R (.bool b59) w58)) (0 ≤ (0 : Int) ∧ 0 < (x_2.len : Int) ∧ ∃ a60, x_2.a = some a60 ∧
    ∃ n61 : Int, (World.drew w55).cell? (Addr.add a60 ((0 : Int).toNat * 1)) = some (.int .i64 n61) ∧ 0 ≤ (1 : Int) ∧ (1 : Int) ≤ (x_2.len : Int) ∧
    (x_2.len : Int) ≤ (x_2.cap : Int) ∧
    Calls Try.prog 69 #[.pointer p18, .int .i64 n61, .slice (if x_2.cap = (Int.toNat (1 : Int)) then x_2.a else x_2.a.map (·.add ((Int.toNat (1 : Int)) * 1))) ((Int.toNat (x_2.len : Int)) - (Int.toNat (1 : Int))) (x_2.cap - (Int.toNat (1 : Int)))] (World.drew w55) (Rv fun v62 w63 =>
    ∃ l64 : Slc, ∃ n65 : Int, v62 = .tuple #[.slice l64.a l64.len l64.cap, .int .i64 n65] ∧ 0 ≤ (0 : Int) ∧ 0 < (x_2.len : Int) ∧ ∃ a66, x_2.a = some a66 ∧
    ∃ n67 : Int, (World.drew w63).cell? (Addr.add a66 ((0 : Int).toNat * 1)) = some (.int .i64 n67) ∧ 0 ≤ (1 : Int) ∧ (1 : Int) ≤ (x_2.len : Int) ∧
    (x_2.len : Int) ≤ (x_2.cap : Int) ∧
    Calls Try.prog 72 #[.int .i64 x_0, .slice x_1.a x_1.len x_1.cap, .int .i64 n67, .slice (if x_2.cap = (Int.toNat (1 : Int)) then x_2.a else x_2.a.map (·.add ((Int.toNat (1 : Int)) * 1))) ((Int.toNat (x_2.len : Int)) - (Int.toNat (1 : Int))) (x_2.cap - (Int.toNat (1 : Int)))] (World.drew w63) (Rv fun v68 w69 =>
    ∃ l70 : Slc, ∃ b71 : Bool, v68 = .tuple #[.slice l70.a l70.len l70.cap, .bool b71] ∧
    br (!((decide (n65 = (0 : Int))) == b71)) (R (.bool false) w69) (br (!b71) (br (!(decide (n65 = (7 : Int)))) (R (.bool false) w69) (Calls Try.prog 71 #[.slice l64.a l64.len l64.cap, .slice l70.a l70.len l70.cap] w69 (Rv fun v72 w73 =>
    ∃ b74 : Bool, v72 = .bool b74 ∧ br (!b74) (R (.bool false) w73) (br b27 (0 ≤ (0 : Int) ∧ 0 < (x_2.len : Int) ∧ ∃ a75, x_2.a = some a75 ∧
    ∃ n76 : Int, w73.cell? (Addr.add a75 ((0 : Int).toNat * 1)) = some (.int .i64 n76) ∧ br (decide ((0 : Int) ≤ n76)) (0 ≤ (0 : Int) ∧ 0 < (x_2.len : Int) ∧
    ∃ a77, x_2.a = some a77 ∧ ∃ n78 : Int, w73.cell? (Addr.add a77 ((0 : Int).toNat * 1)) = some (.int .i64 n78) ∧ br (decide (n78 < x_0)) (0 ≤ (0 : Int) ∧
    0 < (x_2.len : Int) ∧ ∃ a79, x_2.a = some a79 ∧ ∃ n80 : Int, w73.cell? (Addr.add a79 ((0 : Int).toNat * 1)) = some (.int .i64 n80) ∧
    Calls Try.prog 69 #[.pointer p18, .int .i64 n80, .slice l22.a l22.len l22.cap] w73 (Rv fun v81 w82 =>
    ∃ l83 : Slc, ∃ n84 : Int, v81 = .tuple #[.slice l83.a l83.len l83.cap, .int .i64 n84] ∧
    br (decide (n84 = (0 : Int))) (Calls Try.prog 71 #[.slice l83.a l83.len l83.cap, .slice x_2.a x_2.len x_2.cap] w82 (Rv fun v85 w86 => ∃ b87 : Bool, v85 = .bool b87 ∧
    br b87 (Calls Try.prog 57 #[] w86 (Rv fun v88 w89 => ∃ b90 : Bool, v88 = .bool b90 ∧
    R (.bool b90) w89)) (R (.bool false) w86))) (R (.bool false) w82))) (Calls Try.prog 57 #[] w73 (Rv fun v91 w92 => ∃ b93 : Bool, v91 = .bool b93 ∧
    R (.bool b93) w92))) (Calls Try.prog 57 #[] w73 (Rv fun v94 w95 => ∃ b96 : Bool, v94 = .bool b96 ∧ R (.bool b96) w95))) (Calls Try.prog 57 #[] w73 (Rv fun v97 w98 =>
    ∃ b99 : Bool, v97 = .bool b99 ∧ R (.bool b99) w98)))))) (Calls Try.prog 71 #[.slice l64.a l64.len l64.cap, .slice l70.a l70.len l70.cap] w69 (Rv fun v100 w101 =>
    ∃ b102 : Bool, v100 = .bool b102 ∧ br (!b102) (R (.bool false) w101) (br b27 (0 ≤ (0 : Int) ∧ 0 < (x_2.len : Int) ∧ ∃ a103, x_2.a = some a103 ∧
    ∃ n104 : Int, w101.cell? (Addr.add a103 ((0 : Int).toNat * 1)) = some (.int .i64 n104) ∧ br (decide ((0 : Int) ≤ n104)) (0 ≤ (0 : Int) ∧ 0 < (x_2.len : Int) ∧
    ∃ a105, x_2.a = some a105 ∧ ∃ n106 : Int, w101.cell? (Addr.add a105 ((0 : Int).toNat * 1)) = some (.int .i64 n106) ∧ br (decide (n106 < x_0)) (0 ≤ (0 : Int) ∧
    0 < (x_2.len : Int) ∧ ∃ a107, x_2.a = some a107 ∧ ∃ n108 : Int, w101.cell? (Addr.add a107 ((0 : Int).toNat * 1)) = some (.int .i64 n108) ∧
    Calls Try.prog 69 #[.pointer p18, .int .i64 n108, .slice l22.a l22.len l22.cap] w101 (Rv fun v109 w110 =>
    ∃ l111 : Slc, ∃ n112 : Int, v109 = .tuple #[.slice l111.a l111.len l111.cap, .int .i64 n112] ∧
    br (decide (n112 = (0 : Int))) (Calls Try.prog 71 #[.slice l111.a l111.len l111.cap, .slice x_2.a x_2.len x_2.cap] w110 (Rv fun v113 w114 =>
    ∃ b115 : Bool, v113 = .bool b115 ∧ br b115 (Calls Try.prog 57 #[] w114 (Rv fun v116 w117 => ∃ b118 : Bool, v116 = .bool b118 ∧
    R (.bool b118) w117)) (R (.bool false) w114))) (R (.bool false) w110))) (Calls Try.prog 57 #[] w101 (Rv fun v119 w120 => ∃ b121 : Bool, v119 = .bool b121 ∧
    R (.bool b121) w120))) (Calls Try.prog 57 #[] w101 (Rv fun v122 w123 => ∃ b124 : Bool, v122 = .bool b124 ∧
    R (.bool b124) w123))) (Calls Try.prog 57 #[] w101 (Rv fun v125 w126 => ∃ b127 : Bool, v125 = .bool b127 ∧
    R (.bool b127) w126))))))))))))) (Calls Try.prog 71 #[.slice l22.a l22.len l22.cap, .slice l26.a l26.len l26.cap] w52 (Rv fun v128 w129 =>
    ∃ b130 : Bool, v128 = .bool b130 ∧ br (!b130) (R (.bool false) w129) (br (decide ((x_2.len : Int) = (0 : Int))) (Calls Try.prog 57 #[] w129 (Rv fun v131 w132 =>
    ∃ b133 : Bool, v131 = .bool b133 ∧ R (.bool b133) w132)) (0 ≤ (0 : Int) ∧ 0 < (x_2.len : Int) ∧ ∃ a134, x_2.a = some a134 ∧
    ∃ n135 : Int, (World.drew w129).cell? (Addr.add a134 ((0 : Int).toNat * 1)) = some (.int .i64 n135) ∧ 0 ≤ (1 : Int) ∧ (1 : Int) ≤ (x_2.len : Int) ∧
    (x_2.len : Int) ≤ (x_2.cap : Int) ∧
    Calls Try.prog 69 #[.pointer p18, .int .i64 n135, .slice (if x_2.cap = (Int.toNat (1 : Int)) then x_2.a else x_2.a.map (·.add ((Int.toNat (1 : Int)) * 1))) ((Int.toNat (x_2.len : Int)) - (Int.toNat (1 : Int))) (x_2.cap - (Int.toNat (1 : Int)))] (World.drew w129) (Rv fun v136 w137 =>
    ∃ l138 : Slc, ∃ n139 : Int, v136 = .tuple #[.slice l138.a l138.len l138.cap, .int .i64 n139] ∧ 0 ≤ (0 : Int) ∧ 0 < (x_2.len : Int) ∧ ∃ a140, x_2.a = some a140 ∧
    ∃ n141 : Int, (World.drew w137).cell? (Addr.add a140 ((0 : Int).toNat * 1)) = some (.int .i64 n141) ∧ 0 ≤ (1 : Int) ∧ (1 : Int) ≤ (x_2.len : Int) ∧
    (x_2.len : Int) ≤ (x_2.cap : Int) ∧
    Calls Try.prog 72 #[.int .i64 x_0, .slice x_1.a x_1.len x_1.cap, .int .i64 n141, .slice (if x_2.cap = (Int.toNat (1 : Int)) then x_2.a else x_2.a.map (·.add ((Int.toNat (1 : Int)) * 1))) ((Int.toNat (x_2.len : Int)) - (Int.toNat (1 : Int))) (x_2.cap - (Int.toNat (1 : Int)))] (World.drew w137) (Rv fun v142 w143 =>
    ∃ l144 : Slc, ∃ b145 : Bool, v142 = .tuple #[.slice l144.a l144.len l144.cap, .bool b145] ∧
    br (!((decide (n139 = (0 : Int))) == b145)) (R (.bool false) w143) (br (!b145) (br (!(decide (n139 = (7 : Int)))) (R (.bool false) w143) (Calls Try.prog 71 #[.slice l138.a l138.len l138.cap, .slice l144.a l144.len l144.cap] w143 (Rv fun v146 w147 =>
    ∃ b148 : Bool, v146 = .bool b148 ∧ br (!b148) (R (.bool false) w147) (br b27 (0 ≤ (0 : Int) ∧ 0 < (x_2.len : Int) ∧ ∃ a149, x_2.a = some a149 ∧
    ∃ n150 : Int, w147.cell? (Addr.add a149 ((0 : Int).toNat * 1)) = some (.int .i64 n150) ∧ br (decide ((0 : Int) ≤ n150)) (0 ≤ (0 : Int) ∧ 0 < (x_2.len : Int) ∧
    ∃ a151, x_2.a = some a151 ∧ ∃ n152 : Int, w147.cell? (Addr.add a151 ((0 : Int).toNat * 1)) = some (.int .i64 n152) ∧ br (decide (n152 < x_0)) (0 ≤ (0 : Int) ∧
    0 < (x_2.len : Int) ∧ ∃ a153, x_2.a = some a153 ∧ ∃ n154 : Int, w147.cell? (Addr.add a153 ((0 : Int).toNat * 1)) = some (.int .i64 n154) ∧
    Calls Try.prog 69 #[.pointer p18, .int .i64 n154, .slice l22.a l22.len l22.cap] w147 (Rv fun v155 w156 =>
    ∃ l157 : Slc, ∃ n158 : Int, v155 = .tuple #[.slice l157.a l157.len l157.cap, .int .i64 n158] ∧
    br (decide (n158 = (0 : Int))) (Calls Try.prog 71 #[.slice l157.a l157.len l157.cap, .slice x_2.a x_2.len x_2.cap] w156 (Rv fun v159 w160 =>
    ∃ b161 : Bool, v159 = .bool b161 ∧ br b161 (Calls Try.prog 57 #[] w160 (Rv fun v162 w163 => ∃ b164 : Bool, v162 = .bool b164 ∧
    R (.bool b164) w163)) (R (.bool false) w160))) (R (.bool false) w156))) (Calls Try.prog 57 #[] w147 (Rv fun v165 w166 => ∃ b167 : Bool, v165 = .bool b167 ∧
    R (.bool b167) w166))) (Calls Try.prog 57 #[] w147 (Rv fun v168 w169 => ∃ b170 : Bool, v168 = .bool b170 ∧
    R (.bool b170) w169))) (Calls Try.prog 57 #[] w147 (Rv fun v171 w172 => ∃ b173 : Bool, v171 = .bool b173 ∧
    R (.bool b173) w172)))))) (Calls Try.prog 71 #[.slice l138.a l138.len l138.cap, .slice l144.a l144.len l144.cap] w143 (Rv fun v174 w175 =>
    ∃ b176 : Bool, v174 = .bool b176 ∧ br (!b176) (R (.bool false) w175) (br b27 (0 ≤ (0 : Int) ∧ 0 < (x_2.len : Int) ∧ ∃ a177, x_2.a = some a177 ∧
    ∃ n178 : Int, w175.cell? (Addr.add a177 ((0 : Int).toNat * 1)) = some (.int .i64 n178) ∧ br (decide ((0 : Int) ≤ n178)) (0 ≤ (0 : Int) ∧ 0 < (x_2.len : Int) ∧
    ∃ a179, x_2.a = some a179 ∧ ∃ n180 : Int, w175.cell? (Addr.add a179 ((0 : Int).toNat * 1)) = some (.int .i64 n180) ∧ br (decide (n180 < x_0)) (0 ≤ (0 : Int) ∧
    0 < (x_2.len : Int) ∧ ∃ a181, x_2.a = some a181 ∧ ∃ n182 : Int, w175.cell? (Addr.add a181 ((0 : Int).toNat * 1)) = some (.int .i64 n182) ∧
    Calls Try.prog 69 #[.pointer p18, .int .i64 n182, .slice l22.a l22.len l22.cap] w175 (Rv fun v183 w184 =>
    ∃ l185 : Slc, ∃ n186 : Int, v183 = .tuple #[.slice l185.a l185.len l185.cap, .int .i64 n186] ∧
    br (decide (n186 = (0 : Int))) (Calls Try.prog 71 #[.slice l185.a l185.len l185.cap, .slice x_2.a x_2.len x_2.cap] w184 (Rv fun v187 w188 =>
    ∃ b189 : Bool, v187 = .bool b189 ∧ br b189 (Calls Try.prog 57 #[] w188 (Rv fun v190 w191 => ∃ b192 : Bool, v190 = .bool b192 ∧
    R (.bool b192) w191)) (R (.bool false) w188))) (R (.bool false) w184))) (Calls Try.prog 57 #[] w175 (Rv fun v193 w194 => ∃ b195 : Bool, v193 = .bool b195 ∧
    R (.bool b195) w194))) (Calls Try.prog 57 #[] w175 (Rv fun v196 w197 => ∃ b198 : Bool, v196 = .bool b198 ∧
    R (.bool b198) w197))) (Calls Try.prog 57 #[] w175 (Rv fun v199 w200 => ∃ b201 : Bool, v199 = .bool b201 ∧ R (.bool b201) w200)))))))))))))))))))))))))))))))))))))
theorem B13_eq : @B13 = fun (x_0 : Int) (x_1 : Slc) (x_2 : Slc) (w : World) (R : Value → World → Prop) => trF Try.prog G (lk []) Try.f13 [.int .i64 x_0, .slice x_1.a x_1.len x_1.cap, .slice x_2.a x_2.len x_2.cap] w R := by kernel_rfl
theorem c13 (x_0 : Int) (x_1 : Slc) (x_2 : Slc) (w : World) (R : Value → World → Prop) (h : B13 x_0 x_1 x_2 w R) : Calls Try.prog 13 #[.int .i64 x_0, .slice x_1.a x_1.len x_1.cap, .slice x_2.a x_2.len x_2.cap] w (Rv R) := calls_of_tr (L := lk []) Try.func13 hG hM (by rw [B13_eq] at h; exact h)

/-- locution/locutionlaw34.small -/
def B56 (x_0 : Int) (x_1 : Slc) (w : World) (R : Value → World → Prop) : Prop :=
  
    br (decide ((60 : Int) < (x_1.len : Int))) (R (.bool false) w) (br (decide ((1000 : Int) < x_0)) (br (decide (x_0 ≤ (65536 : Int))) (R (.bool false) w) (∃ (I1 : Int →
    World → Prop) (μ2 : Int → World → Nat), I1 (0 : Int) w ∧ ∀ x3 : Int, ∀ w4 : World, I1 x3 w4 → br (decide (x3 < (x_1.len : Int))) (0 ≤ x3 ∧ x3 < (x_1.len : Int) ∧
    ∃ a5, x_1.a = some a5 ∧ ∃ l6 : Slc, w4.cell? (Addr.add a5 (x3.toNat * 1)) = some (.slice l6.a l6.len l6.cap) ∧
    br (decide ((12 : Int) < (l6.len : Int))) (R (.bool false) w4) (I1 (IntKind.i64.wrap (x3 + 1)) w4 ∧
    μ2 (IntKind.i64.wrap (x3 + 1)) w4 < μ2 x3 w4)) (R (.bool true) w4))) (∃ (I7 : Int → World → Prop) (μ8 : Int → World → Nat), I7 (0 : Int) w ∧
    ∀ x9 : Int, ∀ w10 : World, I7 x9 w10 → br (decide (x9 < (x_1.len : Int))) (0 ≤ x9 ∧ x9 < (x_1.len : Int) ∧ ∃ a11, x_1.a = some a11 ∧
    ∃ l12 : Slc, w10.cell? (Addr.add a11 (x9.toNat * 1)) = some (.slice l12.a l12.len l12.cap) ∧
    br (decide ((12 : Int) < (l12.len : Int))) (R (.bool false) w10) (I7 (IntKind.i64.wrap (x9 + 1)) w10 ∧
    μ8 (IntKind.i64.wrap (x9 + 1)) w10 < μ8 x9 w10)) (R (.bool true) w10)))
theorem B56_eq : @B56 = fun (x_0 : Int) (x_1 : Slc) (w : World) (R : Value → World → Prop) => trF Try.prog G (lk [(4, [(5, .int .i64)])]) Try.f56 [.int .i64 x_0, .slice x_1.a x_1.len x_1.cap] w R := by kernel_rfl
theorem c56 (x_0 : Int) (x_1 : Slc) (w : World) (R : Value → World → Prop) (h : B56 x_0 x_1 w R) : Calls Try.prog 56 #[.int .i64 x_0, .slice x_1.a x_1.len x_1.cap] w (Rv R) := calls_of_tr (L := lk [(4, [(5, .int .i64)])]) Try.func56 hG hM (by rw [B56_eq] at h; exact h)

/-- locution/locutionlaw34.live -/
def B57  (w : World) (R : Value → World → Prop) : Prop :=
  
    Calls Try.prog 58 #[.int .i64 4, .slice (some ⟨(((w.alloc (.cells #[.int .i64 0, .int .i64 1] 3)).alloc (.cells #[.int .i64 0, .int .i64 3] 3)).alloc (.cells #[.int .i64 3, .int .i64 2] 3)).heap.size, 0, none⟩) 3 3] ((((w.alloc (.cells #[.int .i64 0, .int .i64 1] 3)).alloc (.cells #[.int .i64 0, .int .i64 3] 3)).alloc (.cells #[.int .i64 3, .int .i64 2] 3)).alloc (.cells #[.slice (some ⟨w.heap.size, 0, none⟩) 2 2, .slice (some ⟨(w.alloc (.cells #[.int .i64 0, .int .i64 1] 3)).heap.size, 0, none⟩) 2 2, .slice (some ⟨((w.alloc (.cells #[.int .i64 0, .int .i64 1] 3)).alloc (.cells #[.int .i64 0, .int .i64 3] 3)).heap.size, 0, none⟩) 2 2] 22)) (Rv fun v1 w2 =>
    ∃ p3 : Option Addr, ∃ n4 : Int, v1 = .tuple #[.pointer p3, .int .i64 n4] ∧
    Calls Try.prog 67 #[.pointer p3, .slice (some ⟨w2.heap.size, 0, none⟩) 3 3] (w2.alloc (.cells #[.int .i64 0, .int .i64 3, .int .i64 2] 3)) (Rv fun v5 w6 =>
    ∃ l7 : Slc, ∃ n8 : Int, v5 = .tuple #[.slice l7.a l7.len l7.cap, .int .i64 n8] ∧
    Calls Try.prog 69 #[.pointer p3, .int .i64 0, .slice (some ⟨w6.heap.size, 0, none⟩) 2 2] (w6.alloc (.cells #[.int .i64 1, .int .i64 0] 3)) (Rv fun v9 w10 =>
    ∃ l11 : Slc, ∃ n12 : Int, v9 = .tuple #[.slice l11.a l11.len l11.cap, .int .i64 n12] ∧
    br (decide (n4 = (0 : Int))) (br (decide (n8 = (0 : Int))) (br (decide (n12 = (0 : Int))) (Calls Try.prog 63 #[.pointer p3, .int .i64 0, .int .i64 3] w10 (Rv fun v13 w14 =>
    ∃ n15 : Int, v13 = .int .i64 n15 ∧
    br (decide (n15 = (1 : Int))) (Calls Try.prog 71 #[.slice l7.a l7.len l7.cap, .slice (some ⟨w14.heap.size, 0, none⟩) 2 2] (w14.alloc (.cells #[.int .i64 1, .int .i64 0] 3)) (Rv fun v16 w17 =>
    ∃ b18 : Bool, v16 = .bool b18 ∧
    br b18 (Calls Try.prog 71 #[.slice l11.a l11.len l11.cap, .slice (some ⟨w17.heap.size, 0, none⟩) 3 3] (w17.alloc (.cells #[.int .i64 0, .int .i64 3, .int .i64 2] 3)) (Rv fun v19 w20 =>
    ∃ b21 : Bool, v19 = .bool b21 ∧
    R (.bool b21) w20)) (R (.bool false) w17))) (R (.bool false) w14))) (R (.bool false) w10)) (R (.bool false) w10)) (R (.bool false) w10))))
theorem B57_eq : @B57 = fun (w : World) (R : Value → World → Prop) => trF Try.prog G (lk []) Try.f57 [] w R := by kernel_rfl
theorem c57  (w : World) (R : Value → World → Prop) (h : B57  w R) : Calls Try.prog 57 #[] w (Rv R) := calls_of_tr (L := lk []) Try.func57 hG hM (by rw [B57_eq] at h; exact h)

/-- (*locution/remap.Map).Words -/
def B60n  (w : World) (R : Value → World → Prop) : Prop :=
  R (.int .i64 0) w
theorem B60n_eq : @B60n = fun (w : World) (R : Value → World → Prop) => trF Try.prog G (lk []) Try.f60 [.pointer none] w R := by kernel_rfl
theorem c60n  (w : World) (R : Value → World → Prop) (h : B60n  w R) : Calls Try.prog 60 #[.pointer none] w (Rv R) := calls_of_tr (L := lk []) Try.func60 hG hM (by rw [B60n_eq] at h; exact h)

/-- (*locution/remap.Map).Behind -/
def B61n (x_1 : Int) (w : World) (R : Value → World → Prop) : Prop :=
  R (.int .i64 0) w
theorem B61n_eq : @B61n = fun (x_1 : Int) (w : World) (R : Value → World → Prop) => trF Try.prog G (lk []) Try.f61 [.pointer none, .int .i64 x_1] w R := by kernel_rfl
theorem c61n (x_1 : Int) (w : World) (R : Value → World → Prop) (h : B61n x_1 w R) : Calls Try.prog 61 #[.pointer none, .int .i64 x_1] w (Rv R) := calls_of_tr (L := lk []) Try.func61 hG hM (by rw [B61n_eq] at h; exact h)

/-- (*locution/remap.Map).Rank -/
def B63n (x_1 : Int) (x_2 : Int) (w : World) (R : Value → World → Prop) : Prop :=
  R (.int .i64 (-1)) w
theorem B63n_eq : @B63n = fun (x_1 : Int) (x_2 : Int) (w : World) (R : Value → World → Prop) => trF Try.prog G (lk []) Try.f63 [.pointer none, .int .i64 x_1, .int .i64 x_2] w R := by kernel_rfl
theorem c63n (x_1 : Int) (x_2 : Int) (w : World) (R : Value → World → Prop) (h : B63n x_1 x_2 w R) : Calls Try.prog 63 #[.pointer none, .int .i64 x_1, .int .i64 x_2] w (Rv R) := calls_of_tr (L := lk []) Try.func63 hG hM (by rw [B63n_eq] at h; exact h)

/-- (*locution/remap.Map).Word -/
def B65n (x_1 : Int) (x_2 : Int) (w : World) (R : Value → World → Prop) : Prop :=
  br (decide (x_2 < (0 : Int))) (R (.int .i64 (-1)) w) (Calls Try.prog 61 #[.pointer none, .int .i64 x_1] w (Rv fun v1 w2 => ∃ n3 : Int, v1 = .int .i64 n3 ∧
    br (decide (n3 ≤ x_2)) (R (.int .i64 (-1)) w2) (False)))
theorem B65n_eq : @B65n = fun (x_1 : Int) (x_2 : Int) (w : World) (R : Value → World → Prop) => trF Try.prog G (lk []) Try.f65 [.pointer none, .int .i64 x_1, .int .i64 x_2] w R := by kernel_rfl
theorem c65n (x_1 : Int) (x_2 : Int) (w : World) (R : Value → World → Prop) (h : B65n x_1 x_2 w R) : Calls Try.prog 65 #[.pointer none, .int .i64 x_1, .int .i64 x_2] w (Rv R) := calls_of_tr (L := lk []) Try.func65 hG hM (by rw [B65n_eq] at h; exact h)

/-- (*locution/remap.Map).Fits -/
def B70n (x_1 : Slc) (w : World) (R : Value → World → Prop) : Prop :=
  Calls Try.prog 103 #[.slice x_1.a x_1.len x_1.cap] ((w.alloc (.cells #[.pointer none] 72)).alloc (.cells #[.bool false] 4)) (Rv fun v1 w2 => ∃ v3 : Value, v1 = v3 ∧
    ∃ (g4 : Nat) (A5 C6 : Array Value), v3 = .func (.func g4) A5 C6 ∧ G g4 = true ∧ ∃ n7 : Nat, ∃ f15 : Nat → Int, ∃ f16 : Nat → Int, ∃ (D8 : Nat → Prop) (J9 : Nat →
    (Nat → Prop) → World → Prop) (X10 : Option Nat → (Nat → Prop) → World → Prop), Iter Try.prog g4 A5.toList C6.toList w2 n7 (fun j =>
    [.int .i64 (f15 j), .int .i64 (f16 j)]) D8 ∧ (∀ k, D8 k → k < w2.heap.size) ∧ (∀ j, Stab (J9 j)) ∧ (∀ o, Stab (X10 o)) ∧ J9 0 (fun _ => False) w2 ∧
    (∀ (j11 : Nat) (T12 : Nat → Prop) (w13 : World), j11 < n7 → J9 j11 T12 w13 → (∀ k, T12 k → w2.heap.size ≤ k) → T12 w2.heap.size → T12 (w2.heap.size + 1) →
    (∀ k, T12 k → k < w13.heap.size) → Kp (fun k => ¬ T12 k ∧ ¬ D8 k) w13 w13 ∧ ∀ w14 : World, Kp (fun k => k = w2.heap.size + 1) w13 w14 →
    ∃ p17 : Option Addr, w14.cell? ⟨w.heap.size, 0, none⟩ = some (.pointer p17) ∧
    Calls Try.prog 63 #[.pointer p17, .int .i64 (f15 j11), .int .i64 (f16 j11)] w14 (Rv fun v18 w19 => ∃ n20 : Int, v18 = .int .i64 n20 ∧
    br (decide (n20 < (0 : Int))) ((∃ u, w19.cell? ⟨(w.alloc (.cells #[.pointer none] 72)).heap.size, 0, none⟩ = some u) ∧
    w19.frozen? ⟨(w.alloc (.cells #[.pointer none] 72)).heap.size, 0, none⟩ = false ∧ Kp (fun k => ¬ T12 k ∧
    ¬ D8 k) w14 (w19.setCell ⟨(w.alloc (.cells #[.pointer none] 72)).heap.size, 0, none⟩ (.bool false)) ∧
    X10 none T12 (w19.setCell ⟨(w.alloc (.cells #[.pointer none] 72)).heap.size, 0, none⟩ (.bool false))) (Kp (fun k => ¬ T12 k ∧ ¬ D8 k) w14 w19 ∧
    J9 (j11 + 1) T12 w19))) ∧ (∀ (T21 : Nat → Prop) (w22 : World), J9 n7 T21 w22 → (∀ k, T21 k → w2.heap.size ≤ k) →
    w22.heap[w2.heap.size]? = some (.deferred (some [])) → ∃ p23 : Option Addr, w22.cell? ⟨w.heap.size, 0, none⟩ = some (.pointer p23) ∧
    (∃ u, w22.cell? ⟨(w.alloc (.cells #[.pointer none] 72)).heap.size, 0, none⟩ = some u) ∧
    w22.frozen? ⟨(w.alloc (.cells #[.pointer none] 72)).heap.size, 0, none⟩ = false ∧ (w2.heap.size :: ([] : List Nat)).Nodup ∧
    (∀ D, D ∈ (w2.heap.size :: ([] : List Nat)) →
    (w22.setCell ⟨(w.alloc (.cells #[.pointer none] 72)).heap.size, 0, none⟩ (.bool (!p23.isNone))).heap[D]? = some (.deferred (some []))) ∧
    ∀ w24 : World, Kp (fun k =>
    k ∈ (w2.heap.size :: ([] : List Nat))) (w22.setCell ⟨(w.alloc (.cells #[.pointer none] 72)).heap.size, 0, none⟩ (.bool (!p23.isNone))) w24 →
    ∃ b25 : Bool, w24.cell? ⟨(w.alloc (.cells #[.pointer none] 72)).heap.size, 0, none⟩ = some (.bool b25) ∧ R (.bool b25) w24) ∧ (∀ (T26 : Nat →
    Prop) (w27 : World), X10 none T26 w27 → (∀ k, T26 k → w2.heap.size ≤ k) → w27.heap[w2.heap.size]? = some (.deferred (some [])) →
    (w2.heap.size :: ([] : List Nat)).Nodup ∧ (∀ D, D ∈ (w2.heap.size :: ([] : List Nat)) → w27.heap[D]? = some (.deferred (some []))) ∧ ∀ w28 : World, Kp (fun k =>
    k ∈ (w2.heap.size :: ([] : List Nat))) w27 w28 → ∃ b29 : Bool, w28.cell? ⟨(w.alloc (.cells #[.pointer none] 72)).heap.size, 0, none⟩ = some (.bool b29) ∧
    R (.bool b29) w28) ∧ True)
theorem B70n_eq : @B70n = fun (x_1 : Slc) (w : World) (R : Value → World → Prop) => trFT Try.prog G (lk [(1000004, [(9, .int .i64), (10, .int .i64)])]) Try.f70 [.pointer none, .slice x_1.a x_1.len x_1.cap] w R := by kernel_rfl
theorem c70n (x_1 : Slc) (w : World) (R : Value → World → Prop) (h : B70n x_1 w R) : Calls Try.prog 70 #[.pointer none, .slice x_1.a x_1.len x_1.cap] w (Rv R) := calls_of_trT (L := lk [(1000004, [(9, .int .i64), (10, .int .i64)])]) Try.func70 hG hM (by rw [B70n_eq] at h; exact h)

/-- (*locution/remap.Map).Short -/
def B67n (x_1 : Slc) (w : World) (R : Value → World → Prop) : Prop :=
  ∃ p1 : Option Addr, (w.alloc (.cells #[.pointer none] 72)).cell? ⟨w.heap.size, 0, none⟩ = some (.pointer p1) ∧
    Calls Try.prog 70 #[.pointer p1, .slice x_1.a x_1.len x_1.cap] (w.alloc (.cells #[.pointer none] 72)) (Rv fun v2 w3 => ∃ b4 : Bool, v2 = .bool b4 ∧
    br (!b4) (([] : List Nat).Nodup ∧ (∀ D, D ∈ ([] : List Nat) → w3.heap[D]? = some (.deferred (some []))) ∧ ∀ w5 : World, Kp (fun k => k ∈ ([] : List Nat)) w3 w5 →
    R (.tuple #[.slice none 0 0, .int .i64 7]) w5) (Calls Try.prog 103 #[.slice x_1.a x_1.len x_1.cap] (w3.alloc (.cells #[.slice none 0 0] 22)) (Rv fun v6 w7 =>
    ∃ v8 : Value, v6 = v8 ∧ ∃ (g9 : Nat) (A10 C11 : Array Value), v8 = .func (.func g9) A10 C11 ∧ G g9 = true ∧ ∃ n12 : Nat, ∃ f20 : Nat → Int, ∃ f21 : Nat →
    Int, ∃ (D13 : Nat → Prop) (J14 : Nat → (Nat → Prop) → World → Prop) (X15 : Option Nat → (Nat → Prop) → World →
    Prop), Iter Try.prog g9 A10.toList C11.toList w7 n12 (fun j => [.int .i64 (f20 j), .int .i64 (f21 j)]) D13 ∧ (∀ k, D13 k → k < w7.heap.size) ∧ (∀ j, Stab (J14 j)) ∧
    (∀ o, Stab (X15 o)) ∧ J14 0 (fun _ => False) w7 ∧ (∀ (j16 : Nat) (T17 : Nat → Prop) (w18 : World), j16 < n12 → J14 j16 T17 w18 → (∀ k, T17 k →
    w7.heap.size ≤ k) → T17 w7.heap.size → T17 (w7.heap.size + 1) → (∀ k, T17 k → k < w18.heap.size) → Kp (fun k => ¬ T17 k ∧ ¬ D13 k) w18 w18 ∧
    ∀ w19 : World, Kp (fun k => k = w7.heap.size + 1) w18 w19 → ∃ l22 : Slc, (World.drew w19).cell? ⟨w3.heap.size, 0, none⟩ = some (.slice l22.a l22.len l22.cap) ∧
    ∃ p23 : Option Addr, (World.drew w19).cell? ⟨w.heap.size, 0, none⟩ = some (.pointer p23) ∧
    Calls Try.prog 63 #[.pointer p23, .int .i64 (f20 j16), .int .i64 (f21 j16)] (World.drew w19) (Rv fun v24 w25 => ∃ n26 : Int, v24 = .int .i64 n26 ∧
    w25.cell? ⟨w3.heap.size, 0, none⟩ = some (.slice l22.a l22.len l22.cap) ∧
    (w25.alloc (.cells #[.int .i64 n26] 3)).cell? ⟨w3.heap.size, 0, none⟩ = some (.slice l22.a l22.len l22.cap) ∧
    ∃ w27 : World, ∃ l28 : Slc, (Builtin.append_ #[22, 22] 22 #[.slice l22.a l22.len l22.cap, .slice (some ⟨w25.heap.size, 0, none⟩) 1 1]).run Try.prog (w25.alloc (.cells #[.int .i64 n26] 3)) = .ok (.slice l28.a l28.len l28.cap) w27 ∧
    (∃ u, w27.cell? ⟨w3.heap.size, 0, none⟩ = some u) ∧ w27.frozen? ⟨w3.heap.size, 0, none⟩ = false ∧ Kp (fun k => ¬ T17 k ∧
    ¬ D13 k) w19 (w27.setCell ⟨w3.heap.size, 0, none⟩ (.slice l28.a l28.len l28.cap)) ∧
    J14 (j16 + 1) T17 (w27.setCell ⟨w3.heap.size, 0, none⟩ (.slice l28.a l28.len l28.cap)))) ∧ (∀ (T29 : Nat → Prop) (w30 : World), J14 n12 T29 w30 → (∀ k, T29 k →
    w7.heap.size ≤ k) → w30.heap[w7.heap.size]? = some (.deferred (some [])) → ∃ l31 : Slc, w30.cell? ⟨w3.heap.size, 0, none⟩ = some (.slice l31.a l31.len l31.cap) ∧
    (w7.heap.size :: ([] : List Nat)).Nodup ∧ (∀ D, D ∈ (w7.heap.size :: ([] : List Nat)) → w30.heap[D]? = some (.deferred (some []))) ∧ ∀ w32 : World, Kp (fun k =>
    k ∈ (w7.heap.size :: ([] : List Nat))) w30 w32 → R (.tuple #[.slice l31.a l31.len l31.cap, .int .i64 0]) w32) ∧ (∀ (T33 : Nat →
    Prop) (w34 : World), X15 none T33 w34 → (∀ k, T33 k → w7.heap.size ≤ k) → w34.heap[w7.heap.size]? = some (.deferred (some [])) →
    (w7.heap.size :: ([] : List Nat)).Nodup ∧ (∀ D, D ∈ (w7.heap.size :: ([] : List Nat)) → w34.heap[D]? = some (.deferred (some []))) ∧ ∀ w35 : World, Kp (fun k =>
    k ∈ (w7.heap.size :: ([] : List Nat))) w34 w35 → R (.tuple #[.slice none 0 0, .int .i64 0]) w35) ∧ True)))
theorem B67n_eq : @B67n = fun (x_1 : Slc) (w : World) (R : Value → World → Prop) => trFT Try.prog G (lk [(1000007, [(15, .int .i64), (16, .int .i64)])]) Try.f67 [.pointer none, .slice x_1.a x_1.len x_1.cap] w R := by kernel_rfl
theorem c67n (x_1 : Slc) (w : World) (R : Value → World → Prop) (h : B67n x_1 w R) : Calls Try.prog 67 #[.pointer none, .slice x_1.a x_1.len x_1.cap] w (Rv R) := calls_of_trT (L := lk [(1000007, [(15, .int .i64), (16, .int .i64)])]) Try.func67 hG hM (by rw [B67n_eq] at h; exact h)

/-- (*locution/remap.Map).Long -/
def B69n (x_1 : Int) (x_2 : Slc) (w : World) (R : Value → World → Prop) : Prop :=
  br (decide (x_1 < (0 : Int))) (R (.tuple #[.slice none 0 0, .int .i64 7]) w) (Calls Try.prog 60 #[.pointer none] w (Rv fun v1 w2 => ∃ n3 : Int, v1 = .int .i64 n3 ∧
    br (decide (n3 ≤ x_1)) (R (.tuple #[.slice none 0 0, .int .i64 7]) w2) (∃ (I4 : Int → Slc → Int → World → Prop) (μ5 : Int → Slc → Int → World →
    Nat), I4 x_1 ⟨(some ⟨w2.heap.size, 0, none⟩), 1, 1⟩ (0 : Int) (w2.alloc (.cells #[.int .i64 x_1] 3)) ∧
    ∀ x6 : Int, ∀ x7 : Slc, ∀ x8 : Int, ∀ w9 : World, I4 x6 x7 x8 w9 → br (decide (x8 < (x_2.len : Int))) (0 ≤ x8 ∧ x8 < (x_2.len : Int) ∧ ∃ a10, x_2.a = some a10 ∧
    ∃ n11 : Int, w9.cell? (Addr.add a10 (x8.toNat * 1)) = some (.int .i64 n11) ∧ Calls Try.prog 65 #[.pointer none, .int .i64 x6, .int .i64 n11] w9 (Rv fun v12 w13 =>
    ∃ n14 : Int, v12 = .int .i64 n14 ∧
    br (decide (n14 < (0 : Int))) (R (.tuple #[.slice none 0 0, .int .i64 7]) w13) (∃ w15 : World, ∃ l16 : Slc, (Builtin.append_ #[22, 22] 22 #[.slice x7.a x7.len x7.cap, .slice (some ⟨w13.heap.size, 0, none⟩) 1 1]).run Try.prog (w13.alloc (.cells #[.int .i64 n14] 3)) = .ok (.slice l16.a l16.len l16.cap) w15 ∧
    I4 n14 l16 (IntKind.i64.wrap (x8 + 1)) w15 ∧
    μ5 n14 l16 (IntKind.i64.wrap (x8 + 1)) w15 < μ5 x6 x7 x8 w9))) (R (.tuple #[.slice x7.a x7.len x7.cap, .int .i64 0]) w9))))
theorem B69n_eq : @B69n = fun (x_1 : Int) (x_2 : Slc) (w : World) (R : Value → World → Prop) => trF Try.prog G (lk [(5, [(1, .int .i64), (8, .slc), (23, .int .i64)])]) Try.f69 [.pointer none, .int .i64 x_1, .slice x_2.a x_2.len x_2.cap] w R := by kernel_rfl
theorem c69n (x_1 : Int) (x_2 : Slc) (w : World) (R : Value → World → Prop) (h : B69n x_1 x_2 w R) : Calls Try.prog 69 #[.pointer none, .int .i64 x_1, .slice x_2.a x_2.len x_2.cap] w (Rv R) := calls_of_tr (L := lk [(5, [(1, .int .i64), (8, .slc), (23, .int .i64)])]) Try.func69 hG hM (by rw [B69n_eq] at h; exact h)

end Go.Proofs.Ytmpgklgjmkcpdaa.V
