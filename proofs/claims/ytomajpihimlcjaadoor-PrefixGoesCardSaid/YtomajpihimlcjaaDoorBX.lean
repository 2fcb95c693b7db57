/- The verification conditions of functions, printed by a program of this work (pr.py) and checked here by the kernel. -/
import Derived.Test.YtomajpihimlcjaaDoorVb
import Derived.Test.YtomajpihimlcjaaDoorBE
set_option maxRecDepth 100000
set_option linter.unusedVariables false
namespace Go.Proofs.YtomajpihimlcjaaDoor.V
open Go Go.VC

/-- locution/prefix.New -/
def B34 (x_0 : Slc) (w : World) (R : Value → World → Prop) : Prop :=
  Calls Tryd.prog 105 #[.slice x_0.a x_0.len x_0.cap, .int .i64 1099511627776] w (Rv fun v1 w2 => ∃ l3 : Slc, v1 = .slice l3.a l3.len l3.cap ∧
    br l3.a.isNone (R (.tuple #[.pointer none, .int .i64 8]) w2) (Calls Tryd.prog 29 #[.slice l3.a l3.len l3.cap] w2 (Rv fun v4 w5 =>
    ∃ p6 : Option Addr, ∃ n7 : Int, v4 = .tuple #[.pointer p6, .int .i64 n7] ∧
    br (!(decide (n7 = (0 : Int)))) (R (.tuple #[.pointer none, .int .i64 n7]) w5) (R (.tuple #[.pointer (some ⟨w5.heap.size, 0, none⟩), .int .i64 0]) (w5.alloc (.cells #[.pointer p6] 127))))))
theorem B34_eq : @B34 = fun (x_0 : Slc) (w : World) (R : Value → World → Prop) => trF Tryd.prog G (lk []) Tryd.f34 [.slice x_0.a x_0.len x_0.cap] w R := by kernel_rfl
theorem c34 (x_0 : Slc) (w : World) (R : Value → World → Prop) (h : B34 x_0 w R) : Calls Tryd.prog 34 #[.slice x_0.a x_0.len x_0.cap] w (Rv R) := calls_of_tr (L := lk []) Tryd.func34 hG hM (by rw [B34_eq] at h; exact h)

/-- (*locution/prefix.Seq).All -/
def B35 (a_0 : Addr) (w : World) (R : Value → World → Prop) : Prop :=
  R (.func (.func 106) #[] #[.pointer (some ⟨w.heap.size, 0, none⟩)]) (w.alloc (.cells #[.pointer (some a_0)] 56))
theorem B35_eq : @B35 = fun (a_0 : Addr) (w : World) (R : Value → World → Prop) => trF Tryd.prog G (lk []) Tryd.f35 [.pointer (some a_0)] w R := by kernel_rfl
theorem c35 (a_0 : Addr) (w : World) (R : Value → World → Prop) (h : B35 a_0 w R) : Calls Tryd.prog 35 #[.pointer (some a_0)] w (Rv R) := calls_of_tr (L := lk []) Tryd.func35 hG hM (by rw [B35_eq] at h; exact h)

/-- (*locution/prefix.Seq).Len -/
def B71 (a_0 : Addr) (w : World) (R : Value → World → Prop) : Prop :=
  ∃ p1 : Option Addr, w.cell? (Addr.add a_0 0) = some (.pointer p1) ∧ Calls Tryd.prog 43 #[.pointer p1] w (Rv fun v2 w3 => ∃ n4 : Int, v2 = .int .i64 n4 ∧
    R (.int .i64 (max (IntKind.i64.wrap (n4 - 1)) (0 : Int))) w3)
theorem B71_eq : @B71 = fun (a_0 : Addr) (w : World) (R : Value → World → Prop) => trF Tryd.prog G (lk []) Tryd.f71 [.pointer (some a_0)] w R := by kernel_rfl
theorem c71 (a_0 : Addr) (w : World) (R : Value → World → Prop) (h : B71 a_0 w R) : Calls Tryd.prog 71 #[.pointer (some a_0)] w (Rv R) := calls_of_tr (L := lk []) Tryd.func71 hG hM (by rw [B71_eq] at h; exact h)

/-- (*locution/prefix.Seq).Total -/
def B72 (a_0 : Addr) (w : World) (R : Value → World → Prop) : Prop :=
  ∃ p1 : Option Addr, w.cell? (Addr.add a_0 0) = some (.pointer p1) ∧ Calls Tryd.prog 107 #[.pointer p1] w (Rv fun v2 w3 => ∃ n4 : Int, v2 = .int .i64 n4 ∧
    R (.int .i64 (max n4 (0 : Int))) w3)
theorem B72_eq : @B72 = fun (a_0 : Addr) (w : World) (R : Value → World → Prop) => trF Tryd.prog G (lk []) Tryd.f72 [.pointer (some a_0)] w R := by kernel_rfl
theorem c72 (a_0 : Addr) (w : World) (R : Value → World → Prop) (h : B72 a_0 w R) : Calls Tryd.prog 72 #[.pointer (some a_0)] w (Rv R) := calls_of_tr (L := lk []) Tryd.func72 hG hM (by rw [B72_eq] at h; exact h)

/-- (*locution/prefix.Seq).At -/
def B73 (a_0 : Addr) (x_1 : Int) (w : World) (R : Value → World → Prop) : Prop :=
  br (decide (x_1 < (0 : Int))) (R (.int .i64 (-1)) w) (Calls Tryd.prog 71 #[.pointer (some a_0)] w (Rv fun v1 w2 => ∃ n3 : Int, v1 = .int .i64 n3 ∧
    br (decide (n3 ≤ x_1)) (R (.int .i64 (-1)) w2) (∃ p4 : Option Addr, (World.drew w2).cell? (Addr.add a_0 0) = some (.pointer p4) ∧
    ∃ p5 : Option Addr, (World.drew w2).cell? (Addr.add a_0 0) = some (.pointer p5) ∧
    Calls Tryd.prog 42 #[.pointer p4, .int .i64 (IntKind.i64.wrap (x_1 + 1))] (World.drew w2) (Rv fun v6 w7 => ∃ n8 : Int, v6 = .int .i64 n8 ∧
    w7.cell? (Addr.add a_0 0) = some (.pointer p5) ∧ Calls Tryd.prog 42 #[.pointer p5, .int .i64 x_1] w7 (Rv fun v9 w10 => ∃ n11 : Int, v9 = .int .i64 n11 ∧
    R (.int .i64 (IntKind.i64.wrap (n8 - n11))) w10)))))
theorem B73_eq : @B73 = fun (a_0 : Addr) (x_1 : Int) (w : World) (R : Value → World → Prop) => trF Tryd.prog G (lk []) Tryd.f73 [.pointer (some a_0), .int .i64 x_1] w R := by kernel_rfl
theorem c73 (a_0 : Addr) (x_1 : Int) (w : World) (R : Value → World → Prop) (h : B73 a_0 x_1 w R) : Calls Tryd.prog 73 #[.pointer (some a_0), .int .i64 x_1] w (Rv R) := calls_of_tr (L := lk []) Tryd.func73 hG hM (by rw [B73_eq] at h; exact h)

/-- (*locution/prefix.Seq).Sum -/
def B103 (a_0 : Addr) (x_1 : Int) (x_2 : Int) (w : World) (R : Value → World → Prop) : Prop :=
  Calls Tryd.prog 71 #[.pointer (some a_0)] w (Rv fun v1 w2 => ∃ n3 : Int, v1 = .int .i64 n3 ∧
    br (decide ((min x_2 n3) ≤ (max x_1 (0 : Int)))) (R (.int .i64 0) w2) (∃ p4 : Option Addr, (World.drew w2).cell? (Addr.add a_0 0) = some (.pointer p4) ∧
    ∃ p5 : Option Addr, (World.drew w2).cell? (Addr.add a_0 0) = some (.pointer p5) ∧
    Calls Tryd.prog 42 #[.pointer p4, .int .i64 (min x_2 n3)] (World.drew w2) (Rv fun v6 w7 => ∃ n8 : Int, v6 = .int .i64 n8 ∧
    w7.cell? (Addr.add a_0 0) = some (.pointer p5) ∧ Calls Tryd.prog 42 #[.pointer p5, .int .i64 (max x_1 (0 : Int))] w7 (Rv fun v9 w10 =>
    ∃ n11 : Int, v9 = .int .i64 n11 ∧ R (.int .i64 (IntKind.i64.wrap (n8 - n11))) w10))))
theorem B103_eq : @B103 = fun (a_0 : Addr) (x_1 : Int) (x_2 : Int) (w : World) (R : Value → World → Prop) => trF Tryd.prog G (lk []) Tryd.f103 [.pointer (some a_0), .int .i64 x_1, .int .i64 x_2] w R := by kernel_rfl
theorem c103 (a_0 : Addr) (x_1 : Int) (x_2 : Int) (w : World) (R : Value → World → Prop) (h : B103 a_0 x_1 x_2 w R) : Calls Tryd.prog 103 #[.pointer (some a_0), .int .i64 x_1, .int .i64 x_2] w (Rv R) := calls_of_tr (L := lk []) Tryd.func103 hG hM (by rw [B103_eq] at h; exact h)

/-- (*locution/prefix.Seq).Where -/
def B104 (a_0 : Addr) (x_1 : Int) (w : World) (R : Value → World → Prop) : Prop :=
  br (decide (x_1 < (0 : Int))) (R (.int .i64 (-1)) w) (Calls Tryd.prog 72 #[.pointer (some a_0)] w (Rv fun v1 w2 => ∃ n3 : Int, v1 = .int .i64 n3 ∧
    br (decide (n3 ≤ x_1)) (R (.int .i64 (-1)) w2) (∃ p4 : Option Addr, w2.cell? (Addr.add a_0 0) = some (.pointer p4) ∧
    Calls Tryd.prog 96 #[.pointer p4, .int .i64 x_1] w2 (Rv fun v5 w6 => ∃ n7 : Int, ∃ n8 : Int, v5 = .tuple #[.int .i64 n7, .int .i64 n8] ∧ R (.int .i64 n7) w6))))
theorem B104_eq : @B104 = fun (a_0 : Addr) (x_1 : Int) (w : World) (R : Value → World → Prop) => trF Tryd.prog G (lk []) Tryd.f104 [.pointer (some a_0), .int .i64 x_1] w R := by kernel_rfl
theorem c104 (a_0 : Addr) (x_1 : Int) (w : World) (R : Value → World → Prop) (h : B104 a_0 x_1 w R) : Calls Tryd.prog 104 #[.pointer (some a_0), .int .i64 x_1] w (Rv R) := calls_of_tr (L := lk []) Tryd.func104 hG hM (by rw [B104_eq] at h; exact h)

/-- locution/prefix.running[int] -/
def B105 (x_0 : Slc) (x_1 : Int) (w : World) (R : Value → World → Prop) : Prop :=
  
    ∃ w1 : World, ∃ l2 : Slc, (Instr.makeSlice 37 (.int .i64 1) (.int .i64 (IntKind.i64.wrap ((x_0.len : Int) + 1)))).run Tryd.prog w = .ok (.slice l2.a l2.len l2.cap) w1 ∧
    ∃ (I3 : Slc → Int → Int → World → Prop) (μ4 : Slc → Int → Int → World → Nat), I3 l2 (0 : Int) (0 : Int) w1 ∧
    ∀ x5 : Slc, ∀ x6 : Int, ∀ x7 : Int, ∀ w8 : World, I3 x5 x6 x7 w8 → br (decide (x7 < (x_0.len : Int))) (0 ≤ x7 ∧ x7 < (x_0.len : Int) ∧ ∃ a9, x_0.a = some a9 ∧
    ∃ n10 : Int, w8.cell? (Addr.add a9 (x7.toNat * 1)) = some (.int .i64 n10) ∧
    br (decide (n10 < (0 : Int))) (R (.slice none 0 0) w8) (br (decide ((IntKind.i64.wrap (x_1 - x6)) < n10)) (R (.slice none 0 0) w8) (∃ w11 : World, ∃ l12 : Slc, (Builtin.append_ #[37, 37] 37 #[.slice x5.a x5.len x5.cap, .slice (some ⟨w8.heap.size, 0, none⟩) 1 1]).run Tryd.prog (w8.alloc (.cells #[.int .i64 (IntKind.i64.wrap (x6 + n10))] 3)) = .ok (.slice l12.a l12.len l12.cap) w11 ∧
    I3 l12 (IntKind.i64.wrap (x6 + n10)) (IntKind.i64.wrap (x7 + 1)) w11 ∧
    μ4 l12 (IntKind.i64.wrap (x6 + n10)) (IntKind.i64.wrap (x7 + 1)) w11 < μ4 x5 x6 x7 w8))) (R (.slice x5.a x5.len x5.cap) w8)
theorem B105_eq : @B105 = fun (x_0 : Slc) (x_1 : Int) (w : World) (R : Value → World → Prop) => trF Tryd.prog G (lk [(4, [(5, .slc), (6, .int .i64), (15, .int .i64)])]) Tryd.f105 [.slice x_0.a x_0.len x_0.cap, .int .i64 x_1] w R := by kernel_rfl
theorem c105 (x_0 : Slc) (x_1 : Int) (w : World) (R : Value → World → Prop) (h : B105 x_0 x_1 w R) : Calls Tryd.prog 105 #[.slice x_0.a x_0.len x_0.cap, .int .i64 x_1] w (Rv R) := calls_of_tr (L := lk [(4, [(5, .slc), (6, .int .i64), (15, .int .i64)])]) Tryd.func105 hG hM (by rw [B105_eq] at h; exact h)

/-- (*locution/prefix.Seq).All$1 -/
def B106 (x_0 : Value) (a_1 : Addr) (w : World) (R : Value → World → Prop) : Prop :=
  ∃ p1 : Option Addr, (w.alloc (.cells ⟨cellsL x_0⟩ 100)).cell? a_1 = some (.pointer p1) ∧ br p1.isNone (([] : List Nat).Nodup ∧ (∀ D, D ∈ ([] : List Nat) →
    (w.alloc (.cells ⟨cellsL x_0⟩ 100)).heap[D]? = some (.deferred (some []))) ∧ ∀ w2 : World, Kp (fun k =>
    k ∈ ([] : List Nat)) (w.alloc (.cells ⟨cellsL x_0⟩ 100)) w2 →
    R (.tuple #[]) w2) ((∃ u, ((w.alloc (.cells ⟨cellsL x_0⟩ 100)).alloc (.cells #[.int .i64 0] 3)).cell? ⟨(w.alloc (.cells ⟨cellsL x_0⟩ 100)).heap.size, 0, none⟩ = some u) ∧
    ((w.alloc (.cells ⟨cellsL x_0⟩ 100)).alloc (.cells #[.int .i64 0] 3)).frozen? ⟨(w.alloc (.cells ⟨cellsL x_0⟩ 100)).heap.size, 0, none⟩ = false ∧
    ∃ p3 : Option Addr, (((w.alloc (.cells ⟨cellsL x_0⟩ 100)).alloc (.cells #[.int .i64 0] 3)).setCell ⟨(w.alloc (.cells ⟨cellsL x_0⟩ 100)).heap.size, 0, none⟩ (.int .i64 0)).cell? a_1 = some (.pointer p3) ∧
    wa p3 fun a4 =>
    ∃ p5 : Option Addr, (((w.alloc (.cells ⟨cellsL x_0⟩ 100)).alloc (.cells #[.int .i64 0] 3)).setCell ⟨(w.alloc (.cells ⟨cellsL x_0⟩ 100)).heap.size, 0, none⟩ (.int .i64 0)).cell? (Addr.add a4 0) = some (.pointer p5) ∧
    Calls Tryd.prog 30 #[.pointer p5] (((w.alloc (.cells ⟨cellsL x_0⟩ 100)).alloc (.cells #[.int .i64 0] 3)).setCell ⟨(w.alloc (.cells ⟨cellsL x_0⟩ 100)).heap.size, 0, none⟩ (.int .i64 0)) (Rv fun v6 w7 =>
    ∃ v8 : Value, v6 = v8 ∧ ∃ (g9 : Nat) (A10 C11 : Array Value), v8 = .func (.func g9) A10 C11 ∧ G g9 = true ∧ ∃ n12 : Nat, ∃ f20 : Nat → Int, ∃ f21 : Nat →
    Int, ∃ (D13 : Nat → Prop) (J14 : Nat → (Nat → Prop) → World → Prop) (X15 : Option Nat → (Nat → Prop) → World →
    Prop), Iter Tryd.prog g9 A10.toList C11.toList w7 n12 (fun j => [.int .i64 (f20 j), .int .i64 (f21 j)]) D13 ∧ (∀ k, D13 k → k < w7.heap.size) ∧ (∀ j, Stab (J14 j)) ∧
    (∀ o, Stab (X15 o)) ∧ J14 0 (fun _ => False) w7 ∧ (∀ (j16 : Nat) (T17 : Nat → Prop) (w18 : World), j16 < n12 → J14 j16 T17 w18 → (∀ k, T17 k →
    w7.heap.size ≤ k) → T17 w7.heap.size → T17 (w7.heap.size + 1) → (∀ k, T17 k → k < w18.heap.size) → Kp (fun k => ¬ T17 k ∧ ¬ D13 k) w18 w18 ∧
    ∀ w19 : World, Kp (fun k => k = w7.heap.size + 1) w18 w19 → br (decide ((0 : Int) < (f20 j16))) (∃ v22 : Value, w19.cell? ⟨w.heap.size, 0, none⟩ = some (v22) ∧
    ∃ n23 : Int, w19.cell? ⟨(w.alloc (.cells ⟨cellsL x_0⟩ 100)).heap.size, 0, none⟩ = some (.int .i64 n23) ∧
    CallFV Tryd.prog G v22 [.int .i64 (IntKind.i64.wrap ((f20 j16) - 1)), .int .i64 (IntKind.i64.wrap ((f21 j16) - n23))] w19 fun v24 w25 =>
    ∃ b26 : Bool, v24 = .bool b26 ∧ br (!b26) (Kp (fun k => ¬ T17 k ∧ ¬ D13 k) w19 w25 ∧
    X15 none T17 w25) ((∃ u, w25.cell? ⟨(w.alloc (.cells ⟨cellsL x_0⟩ 100)).heap.size, 0, none⟩ = some u) ∧
    w25.frozen? ⟨(w.alloc (.cells ⟨cellsL x_0⟩ 100)).heap.size, 0, none⟩ = false ∧ Kp (fun k => ¬ T17 k ∧
    ¬ D13 k) w19 (w25.setCell ⟨(w.alloc (.cells ⟨cellsL x_0⟩ 100)).heap.size, 0, none⟩ (.int .i64 (f21 j16))) ∧
    J14 (j16 + 1) T17 (w25.setCell ⟨(w.alloc (.cells ⟨cellsL x_0⟩ 100)).heap.size, 0, none⟩ (.int .i64 (f21 j16))))) ((∃ u, w19.cell? ⟨(w.alloc (.cells ⟨cellsL x_0⟩ 100)).heap.size, 0, none⟩ = some u) ∧
    w19.frozen? ⟨(w.alloc (.cells ⟨cellsL x_0⟩ 100)).heap.size, 0, none⟩ = false ∧ Kp (fun k => ¬ T17 k ∧
    ¬ D13 k) w19 (w19.setCell ⟨(w.alloc (.cells ⟨cellsL x_0⟩ 100)).heap.size, 0, none⟩ (.int .i64 (f21 j16))) ∧
    J14 (j16 + 1) T17 (w19.setCell ⟨(w.alloc (.cells ⟨cellsL x_0⟩ 100)).heap.size, 0, none⟩ (.int .i64 (f21 j16))))) ∧ (∀ (T27 : Nat →
    Prop) (w28 : World), J14 n12 T27 w28 → ((∀ k, T27 k → w7.heap.size ≤ k ∧ k < w28.heap.size) ∧ T27 w7.heap.size) →
    w28.heap[w7.heap.size]? = some (.deferred (some [])) → (w7.heap.size :: ([] : List Nat)).Nodup ∧ (∀ D, D ∈ (w7.heap.size :: ([] : List Nat)) →
    w28.heap[D]? = some (.deferred (some []))) ∧ ∀ w29 : World, Kp (fun k => k ∈ (w7.heap.size :: ([] : List Nat))) w28 w29 → R (.tuple #[]) w29) ∧ (∀ (T30 : Nat →
    Prop) (w31 : World), X15 none T30 w31 → ((∀ k, T30 k → w7.heap.size ≤ k ∧ k < w31.heap.size) ∧ T30 w7.heap.size) →
    w31.heap[w7.heap.size]? = some (.deferred (some [])) → (w7.heap.size :: ([] : List Nat)).Nodup ∧ (∀ D, D ∈ (w7.heap.size :: ([] : List Nat)) →
    w31.heap[D]? = some (.deferred (some []))) ∧ ∀ w32 : World, Kp (fun k => k ∈ (w7.heap.size :: ([] : List Nat))) w31 w32 → R (.tuple #[]) w32) ∧ True))
theorem B106_eq : @B106 = fun (x_0 : Value) (a_1 : Addr) (w : World) (R : Value → World → Prop) => trFT Tryd.prog G (lk [(1000006, [(13, .int .i64), (14, .int .i64)])]) Tryd.f106 [x_0, .pointer (some a_1)] w R := by kernel_rfl
theorem c106 (x_0 : Value) (a_1 : Addr) (w : World) (R : Value → World → Prop) (h : B106 x_0 a_1 w R) : Calls Tryd.prog 106 #[x_0, .pointer (some a_1)] w (Rv R) := calls_of_trT (L := lk [(1000006, [(13, .int .i64), (14, .int .i64)])]) Tryd.func106 hG hM (by rw [B106_eq] at h; exact h)

/-- locution/locutionref09.Sums -/
def B33 (x_0 : Slc) (w : World) (R : Value → World → Prop) : Prop :=
  ∃ (I1 : Slc → Int → Int → World → Prop) (μ2 : Slc → Int → Int → World →
    Nat), I1 ⟨(some ⟨w.heap.size, 0, none⟩), 1, 1⟩ (0 : Int) (0 : Int) (w.alloc (.cells #[.int .i64 0] 3)) ∧
    ∀ x3 : Slc, ∀ x4 : Int, ∀ x5 : Int, ∀ w6 : World, I1 x3 x4 x5 w6 → br (decide (x5 < (x_0.len : Int))) (0 ≤ x5 ∧ x5 < (x_0.len : Int) ∧ ∃ a7, x_0.a = some a7 ∧
    ∃ n8 : Int, w6.cell? (Addr.add a7 (x5.toNat * 1)) = some (.int .i64 n8) ∧ br (decide (n8 < (0 : Int))) (R (.tuple #[.slice none 0 0, .bool false]) w6) (0 ≤ x5 ∧
    x5 < (x_0.len : Int) ∧ ∃ a9, x_0.a = some a9 ∧ ∃ n10 : Int, w6.cell? (Addr.add a9 (x5.toNat * 1)) = some (.int .i64 n10) ∧
    br (decide ((IntKind.i64.wrap (1099511627776 - x4)) < n10)) (R (.tuple #[.slice none 0 0, .bool false]) w6) (0 ≤ x5 ∧ x5 < (x_0.len : Int) ∧
    ∃ a11, x_0.a = some a11 ∧ ∃ n12 : Int, w6.cell? (Addr.add a11 (x5.toNat * 1)) = some (.int .i64 n12) ∧
    ∃ w13 : World, ∃ l14 : Slc, (Builtin.append_ #[37, 37] 37 #[.slice x3.a x3.len x3.cap, .slice (some ⟨w6.heap.size, 0, none⟩) 1 1]).run Tryd.prog (w6.alloc (.cells #[.int .i64 (IntKind.i64.wrap (x4 + n12))] 3)) = .ok (.slice l14.a l14.len l14.cap) w13 ∧
    I1 l14 (IntKind.i64.wrap (x4 + n12)) (IntKind.i64.wrap (x5 + 1)) w13 ∧
    μ2 l14 (IntKind.i64.wrap (x4 + n12)) (IntKind.i64.wrap (x5 + 1)) w13 < μ2 x3 x4 x5 w6))) (R (.tuple #[.slice x3.a x3.len x3.cap, .bool true]) w6)
theorem B33_eq : @B33 = fun (x_0 : Slc) (w : World) (R : Value → World → Prop) => trF Tryd.prog G (lk [(4, [(4, .slc), (5, .int .i64), (6, .int .i64)])]) Tryd.f33 [.slice x_0.a x_0.len x_0.cap] w R := by kernel_rfl
theorem c33 (x_0 : Slc) (w : World) (R : Value → World → Prop) (h : B33 x_0 w R) : Calls Tryd.prog 33 #[.slice x_0.a x_0.len x_0.cap] w (Rv R) := calls_of_tr (L := lk [(4, [(4, .slc), (5, .int .i64), (6, .int .i64)])]) Tryd.func33 hG hM (by rw [B33_eq] at h; exact h)

/-- locution/locutionlaw09.PrefixGoes -/
def B6 (x_0 : Slc) (x_1 : Int) (w : World) (R : Value → World → Prop) : Prop :=
  
    ∃ l1 : Slc, (((w.alloc (.cells #[.slice x_0.a x_0.len x_0.cap] 37)).alloc (.cells #[.int .i64 x_1] 3)).alloc (.cells #[.bool false] 4)).cell? ⟨w.heap.size, 0, none⟩ = some (.slice l1.a l1.len l1.cap) ∧
    br (decide ((80 : Int) < (l1.len : Int))) (Calls Tryd.prog 32 #[] (((w.alloc (.cells #[.slice x_0.a x_0.len x_0.cap] 37)).alloc (.cells #[.int .i64 x_1] 3)).alloc (.cells #[.bool false] 4)) (Rv fun v2 w3 =>
    ∃ b4 : Bool, v2 = .bool b4 ∧
    (∃ u, w3.cell? ⟨((w.alloc (.cells #[.slice x_0.a x_0.len x_0.cap] 37)).alloc (.cells #[.int .i64 x_1] 3)).heap.size, 0, none⟩ = some u) ∧
    w3.frozen? ⟨((w.alloc (.cells #[.slice x_0.a x_0.len x_0.cap] 37)).alloc (.cells #[.int .i64 x_1] 3)).heap.size, 0, none⟩ = false ∧ ([] : List Nat).Nodup ∧
    (∀ D, D ∈ ([] : List Nat) →
    (w3.setCell ⟨((w.alloc (.cells #[.slice x_0.a x_0.len x_0.cap] 37)).alloc (.cells #[.int .i64 x_1] 3)).heap.size, 0, none⟩ (.bool b4)).heap[D]? = some (.deferred (some []))) ∧
    ∀ w5 : World, Kp (fun k =>
    k ∈ ([] : List Nat)) (w3.setCell ⟨((w.alloc (.cells #[.slice x_0.a x_0.len x_0.cap] 37)).alloc (.cells #[.int .i64 x_1] 3)).heap.size, 0, none⟩ (.bool b4)) w5 →
    ∃ b6 : Bool, w5.cell? ⟨((w.alloc (.cells #[.slice x_0.a x_0.len x_0.cap] 37)).alloc (.cells #[.int .i64 x_1] 3)).heap.size, 0, none⟩ = some (.bool b6) ∧
    R (.bool b6) w5)) (∃ l7 : Slc, (((w.alloc (.cells #[.slice x_0.a x_0.len x_0.cap] 37)).alloc (.cells #[.int .i64 x_1] 3)).alloc (.cells #[.bool false] 4)).cell? ⟨w.heap.size, 0, none⟩ = some (.slice l7.a l7.len l7.cap) ∧
    Calls Tryd.prog 33 #[.slice l7.a l7.len l7.cap] (((w.alloc (.cells #[.slice x_0.a x_0.len x_0.cap] 37)).alloc (.cells #[.int .i64 x_1] 3)).alloc (.cells #[.bool false] 4)) (Rv fun v8 w9 =>
    ∃ l10 : Slc, ∃ b11 : Bool, v8 = .tuple #[.slice l10.a l10.len l10.cap, .bool b11] ∧ br (!b11) (Calls Tryd.prog 32 #[] w9 (Rv fun v12 w13 =>
    ∃ b14 : Bool, v12 = .bool b14 ∧
    (∃ u, w13.cell? ⟨((w.alloc (.cells #[.slice x_0.a x_0.len x_0.cap] 37)).alloc (.cells #[.int .i64 x_1] 3)).heap.size, 0, none⟩ = some u) ∧
    w13.frozen? ⟨((w.alloc (.cells #[.slice x_0.a x_0.len x_0.cap] 37)).alloc (.cells #[.int .i64 x_1] 3)).heap.size, 0, none⟩ = false ∧ ([] : List Nat).Nodup ∧
    (∀ D, D ∈ ([] : List Nat) →
    (w13.setCell ⟨((w.alloc (.cells #[.slice x_0.a x_0.len x_0.cap] 37)).alloc (.cells #[.int .i64 x_1] 3)).heap.size, 0, none⟩ (.bool b14)).heap[D]? = some (.deferred (some []))) ∧
    ∀ w15 : World, Kp (fun k =>
    k ∈ ([] : List Nat)) (w13.setCell ⟨((w.alloc (.cells #[.slice x_0.a x_0.len x_0.cap] 37)).alloc (.cells #[.int .i64 x_1] 3)).heap.size, 0, none⟩ (.bool b14)) w15 →
    ∃ b16 : Bool, w15.cell? ⟨((w.alloc (.cells #[.slice x_0.a x_0.len x_0.cap] 37)).alloc (.cells #[.int .i64 x_1] 3)).heap.size, 0, none⟩ = some (.bool b16) ∧
    R (.bool b16) w15)) (∃ l17 : Slc, w9.cell? ⟨w.heap.size, 0, none⟩ = some (.slice l17.a l17.len l17.cap) ∧
    Calls Tryd.prog 34 #[.slice l17.a l17.len l17.cap] w9 (Rv fun v18 w19 => ∃ p20 : Option Addr, ∃ n21 : Int, v18 = .tuple #[.pointer p20, .int .i64 n21] ∧
    Calls Tryd.prog 35 #[.pointer p20] w19 (Rv fun v22 w23 => ∃ v24 : Value, v22 = v24 ∧ (v24 = .nilFunc ∨ ∃ f x y, v24 = .func f x y) ∧
    br (isNilV v24) ((∃ u, w23.cell? ⟨((w.alloc (.cells #[.slice x_0.a x_0.len x_0.cap] 37)).alloc (.cells #[.int .i64 x_1] 3)).heap.size, 0, none⟩ = some u) ∧
    w23.frozen? ⟨((w.alloc (.cells #[.slice x_0.a x_0.len x_0.cap] 37)).alloc (.cells #[.int .i64 x_1] 3)).heap.size, 0, none⟩ = false ∧ ([] : List Nat).Nodup ∧
    (∀ D, D ∈ ([] : List Nat) →
    (w23.setCell ⟨((w.alloc (.cells #[.slice x_0.a x_0.len x_0.cap] 37)).alloc (.cells #[.int .i64 x_1] 3)).heap.size, 0, none⟩ (.bool false)).heap[D]? = some (.deferred (some []))) ∧
    ∀ w25 : World, Kp (fun k =>
    k ∈ ([] : List Nat)) (w23.setCell ⟨((w.alloc (.cells #[.slice x_0.a x_0.len x_0.cap] 37)).alloc (.cells #[.int .i64 x_1] 3)).heap.size, 0, none⟩ (.bool false)) w25 →
    ∃ b26 : Bool, w25.cell? ⟨((w.alloc (.cells #[.slice x_0.a x_0.len x_0.cap] 37)).alloc (.cells #[.int .i64 x_1] 3)).heap.size, 0, none⟩ = some (.bool b26) ∧
    R (.bool b26) w25) ((∃ u, (w23.alloc (.cells #[.int .i64 0] 3)).cell? ⟨w23.heap.size, 0, none⟩ = some u) ∧
    (w23.alloc (.cells #[.int .i64 0] 3)).frozen? ⟨w23.heap.size, 0, none⟩ = false ∧ ∃ (g27 : Nat) (A28 C29 : Array Value), v24 = .func (.func g27) A28 C29 ∧
    G g27 = true ∧ ∃ n30 : Nat, ∃ f38 : Nat → Int, ∃ f39 : Nat → Int, ∃ (D31 : Nat → Prop) (J32 : Nat → (Nat → Prop) → World → Prop) (X33 : Option Nat → (Nat →
    Prop) → World → Prop), Iter Tryd.prog g27 A28.toList C29.toList ((w23.alloc (.cells #[.int .i64 0] 3)).setCell ⟨w23.heap.size, 0, none⟩ (.int .i64 0)) n30 (fun j =>
    [.int .i64 (f38 j), .int .i64 (f39 j)]) D31 ∧ (∀ k, D31 k →
    k < ((w23.alloc (.cells #[.int .i64 0] 3)).setCell ⟨w23.heap.size, 0, none⟩ (.int .i64 0)).heap.size) ∧ (∀ j, Stab (J32 j)) ∧ (∀ o, Stab (X33 o)) ∧
    J32 0 (fun _ => False) ((w23.alloc (.cells #[.int .i64 0] 3)).setCell ⟨w23.heap.size, 0, none⟩ (.int .i64 0)) ∧ (∀ (j34 : Nat) (T35 : Nat →
    Prop) (w36 : World), j34 < n30 → J32 j34 T35 w36 → (∀ k, T35 k →
    ((w23.alloc (.cells #[.int .i64 0] 3)).setCell ⟨w23.heap.size, 0, none⟩ (.int .i64 0)).heap.size ≤ k) →
    T35 ((w23.alloc (.cells #[.int .i64 0] 3)).setCell ⟨w23.heap.size, 0, none⟩ (.int .i64 0)).heap.size →
    T35 (((w23.alloc (.cells #[.int .i64 0] 3)).setCell ⟨w23.heap.size, 0, none⟩ (.int .i64 0)).heap.size + 1) → (∀ k, T35 k → k < w36.heap.size) → Kp (fun k =>
    ¬ T35 k ∧ ¬ D31 k) w36 w36 ∧ ∀ w37 : World, Kp (fun k =>
    k = ((w23.alloc (.cells #[.int .i64 0] 3)).setCell ⟨w23.heap.size, 0, none⟩ (.int .i64 0)).heap.size + 1) w36 w37 →
    ∃ n40 : Int, w37.cell? ⟨w23.heap.size, 0, none⟩ = some (.int .i64 n40) ∧
    br (!(decide ((f38 j34) = n40))) ((∃ u, w37.cell? ⟨((w.alloc (.cells #[.slice x_0.a x_0.len x_0.cap] 37)).alloc (.cells #[.int .i64 x_1] 3)).heap.size, 0, none⟩ = some u) ∧
    w37.frozen? ⟨((w.alloc (.cells #[.slice x_0.a x_0.len x_0.cap] 37)).alloc (.cells #[.int .i64 x_1] 3)).heap.size, 0, none⟩ = false ∧ Kp (fun k => ¬ T35 k ∧
    ¬ D31 k) w37 (w37.setCell ⟨((w.alloc (.cells #[.slice x_0.a x_0.len x_0.cap] 37)).alloc (.cells #[.int .i64 x_1] 3)).heap.size, 0, none⟩ (.bool false)) ∧
    X33 none T35 (w37.setCell ⟨((w.alloc (.cells #[.slice x_0.a x_0.len x_0.cap] 37)).alloc (.cells #[.int .i64 x_1] 3)).heap.size, 0, none⟩ (.bool false))) (∃ l41 : Slc, w37.cell? ⟨w.heap.size, 0, none⟩ = some (.slice l41.a l41.len l41.cap) ∧
    Calls Tryd.prog 31 #[.slice l41.a l41.len l41.cap, .int .i64 (f38 j34)] w37 (Rv fun v42 w43 => ∃ n44 : Int, v42 = .int .i64 n44 ∧
    br (!(decide ((f39 j34) = n44))) ((∃ u, w43.cell? ⟨((w.alloc (.cells #[.slice x_0.a x_0.len x_0.cap] 37)).alloc (.cells #[.int .i64 x_1] 3)).heap.size, 0, none⟩ = some u) ∧
    w43.frozen? ⟨((w.alloc (.cells #[.slice x_0.a x_0.len x_0.cap] 37)).alloc (.cells #[.int .i64 x_1] 3)).heap.size, 0, none⟩ = false ∧ Kp (fun k => ¬ T35 k ∧
    ¬ D31 k) w37 (w43.setCell ⟨((w.alloc (.cells #[.slice x_0.a x_0.len x_0.cap] 37)).alloc (.cells #[.int .i64 x_1] 3)).heap.size, 0, none⟩ (.bool false)) ∧
    X33 none T35 (w43.setCell ⟨((w.alloc (.cells #[.slice x_0.a x_0.len x_0.cap] 37)).alloc (.cells #[.int .i64 x_1] 3)).heap.size, 0, none⟩ (.bool false))) (∃ n45 : Int, w43.cell? ⟨w23.heap.size, 0, none⟩ = some (.int .i64 n45) ∧
    (∃ u, w43.cell? ⟨w23.heap.size, 0, none⟩ = some u) ∧ w43.frozen? ⟨w23.heap.size, 0, none⟩ = false ∧
    ∃ n46 : Int, (w43.setCell ⟨w23.heap.size, 0, none⟩ (.int .i64 (IntKind.i64.wrap (n45 + 1)))).cell? ⟨w23.heap.size, 0, none⟩ = some (.int .i64 n46) ∧
    ∃ n47 : Int, (w43.setCell ⟨w23.heap.size, 0, none⟩ (.int .i64 (IntKind.i64.wrap (n45 + 1)))).cell? ⟨(w.alloc (.cells #[.slice x_0.a x_0.len x_0.cap] 37)).heap.size, 0, none⟩ = some (.int .i64 n47) ∧
    br (decide (n46 = n47)) (Kp (fun k => ¬ T35 k ∧ ¬ D31 k) w37 (w43.setCell ⟨w23.heap.size, 0, none⟩ (.int .i64 (IntKind.i64.wrap (n45 + 1)))) ∧
    X33 (some 0) T35 (w43.setCell ⟨w23.heap.size, 0, none⟩ (.int .i64 (IntKind.i64.wrap (n45 + 1))))) (Kp (fun k => ¬ T35 k ∧
    ¬ D31 k) w37 (w43.setCell ⟨w23.heap.size, 0, none⟩ (.int .i64 (IntKind.i64.wrap (n45 + 1)))) ∧
    J32 (j34 + 1) T35 (w43.setCell ⟨w23.heap.size, 0, none⟩ (.int .i64 (IntKind.i64.wrap (n45 + 1))))))))) ∧ (∀ (T74 : Nat → Prop) (w75 : World), J32 n30 T74 w75 →
    ((∀ k, T74 k → ((w23.alloc (.cells #[.int .i64 0] 3)).setCell ⟨w23.heap.size, 0, none⟩ (.int .i64 0)).heap.size ≤ k ∧ k < w75.heap.size) ∧
    T74 ((w23.alloc (.cells #[.int .i64 0] 3)).setCell ⟨w23.heap.size, 0, none⟩ (.int .i64 0)).heap.size) →
    w75.heap[((w23.alloc (.cells #[.int .i64 0] 3)).setCell ⟨w23.heap.size, 0, none⟩ (.int .i64 0)).heap.size]? = some (.deferred (some [])) →
    ∃ n76 : Int, w75.cell? ⟨w23.heap.size, 0, none⟩ = some (.int .i64 n76) ∧ ∃ l77 : Slc, w75.cell? ⟨w.heap.size, 0, none⟩ = some (.slice l77.a l77.len l77.cap) ∧
    br (decide (n76 = (l77.len : Int))) (∃ n78 : Int, w75.cell? ⟨w23.heap.size, 0, none⟩ = some (.int .i64 n78) ∧
    ∃ l79 : Slc, w75.cell? ⟨w.heap.size, 0, none⟩ = some (.slice l79.a l79.len l79.cap) ∧
    br (decide (n78 ≤ (l79.len : Int))) (Calls Tryd.prog 32 #[] w75 (Rv fun v80 w81 => ∃ b82 : Bool, v80 = .bool b82 ∧
    (∃ u, w81.cell? ⟨((w.alloc (.cells #[.slice x_0.a x_0.len x_0.cap] 37)).alloc (.cells #[.int .i64 x_1] 3)).heap.size, 0, none⟩ = some u) ∧
    w81.frozen? ⟨((w.alloc (.cells #[.slice x_0.a x_0.len x_0.cap] 37)).alloc (.cells #[.int .i64 x_1] 3)).heap.size, 0, none⟩ = false ∧
    (((w23.alloc (.cells #[.int .i64 0] 3)).setCell ⟨w23.heap.size, 0, none⟩ (.int .i64 0)).heap.size :: ([] : List Nat)).Nodup ∧
    (∀ D, D ∈ (((w23.alloc (.cells #[.int .i64 0] 3)).setCell ⟨w23.heap.size, 0, none⟩ (.int .i64 0)).heap.size :: ([] : List Nat)) →
    (w81.setCell ⟨((w.alloc (.cells #[.slice x_0.a x_0.len x_0.cap] 37)).alloc (.cells #[.int .i64 x_1] 3)).heap.size, 0, none⟩ (.bool b82)).heap[D]? = some (.deferred (some []))) ∧
    ∀ w83 : World, Kp (fun k =>
    k ∈ (((w23.alloc (.cells #[.int .i64 0] 3)).setCell ⟨w23.heap.size, 0, none⟩ (.int .i64 0)).heap.size :: ([] : List Nat))) (w81.setCell ⟨((w.alloc (.cells #[.slice x_0.a x_0.len x_0.cap] 37)).alloc (.cells #[.int .i64 x_1] 3)).heap.size, 0, none⟩ (.bool b82)) w83 →
    ∃ b84 : Bool, w83.cell? ⟨((w.alloc (.cells #[.slice x_0.a x_0.len x_0.cap] 37)).alloc (.cells #[.int .i64 x_1] 3)).heap.size, 0, none⟩ = some (.bool b84) ∧
    R (.bool b84) w83)) ((∃ u, w75.cell? ⟨((w.alloc (.cells #[.slice x_0.a x_0.len x_0.cap] 37)).alloc (.cells #[.int .i64 x_1] 3)).heap.size, 0, none⟩ = some u) ∧
    w75.frozen? ⟨((w.alloc (.cells #[.slice x_0.a x_0.len x_0.cap] 37)).alloc (.cells #[.int .i64 x_1] 3)).heap.size, 0, none⟩ = false ∧
    (((w23.alloc (.cells #[.int .i64 0] 3)).setCell ⟨w23.heap.size, 0, none⟩ (.int .i64 0)).heap.size :: ([] : List Nat)).Nodup ∧
    (∀ D, D ∈ (((w23.alloc (.cells #[.int .i64 0] 3)).setCell ⟨w23.heap.size, 0, none⟩ (.int .i64 0)).heap.size :: ([] : List Nat)) →
    (w75.setCell ⟨((w.alloc (.cells #[.slice x_0.a x_0.len x_0.cap] 37)).alloc (.cells #[.int .i64 x_1] 3)).heap.size, 0, none⟩ (.bool false)).heap[D]? = some (.deferred (some []))) ∧
    ∀ w85 : World, Kp (fun k =>
    k ∈ (((w23.alloc (.cells #[.int .i64 0] 3)).setCell ⟨w23.heap.size, 0, none⟩ (.int .i64 0)).heap.size :: ([] : List Nat))) (w75.setCell ⟨((w.alloc (.cells #[.slice x_0.a x_0.len x_0.cap] 37)).alloc (.cells #[.int .i64 x_1] 3)).heap.size, 0, none⟩ (.bool false)) w85 →
    ∃ b86 : Bool, w85.cell? ⟨((w.alloc (.cells #[.slice x_0.a x_0.len x_0.cap] 37)).alloc (.cells #[.int .i64 x_1] 3)).heap.size, 0, none⟩ = some (.bool b86) ∧
    R (.bool b86) w85)) (∃ n87 : Int, w75.cell? ⟨w23.heap.size, 0, none⟩ = some (.int .i64 n87) ∧
    ∃ n88 : Int, w75.cell? ⟨(w.alloc (.cells #[.slice x_0.a x_0.len x_0.cap] 37)).heap.size, 0, none⟩ = some (.int .i64 n88) ∧
    br (decide (n87 = n88)) (∃ n89 : Int, w75.cell? ⟨w23.heap.size, 0, none⟩ = some (.int .i64 n89) ∧
    ∃ l90 : Slc, w75.cell? ⟨w.heap.size, 0, none⟩ = some (.slice l90.a l90.len l90.cap) ∧
    br (decide (n89 ≤ (l90.len : Int))) (Calls Tryd.prog 32 #[] w75 (Rv fun v91 w92 => ∃ b93 : Bool, v91 = .bool b93 ∧
    (∃ u, w92.cell? ⟨((w.alloc (.cells #[.slice x_0.a x_0.len x_0.cap] 37)).alloc (.cells #[.int .i64 x_1] 3)).heap.size, 0, none⟩ = some u) ∧
    w92.frozen? ⟨((w.alloc (.cells #[.slice x_0.a x_0.len x_0.cap] 37)).alloc (.cells #[.int .i64 x_1] 3)).heap.size, 0, none⟩ = false ∧
    (((w23.alloc (.cells #[.int .i64 0] 3)).setCell ⟨w23.heap.size, 0, none⟩ (.int .i64 0)).heap.size :: ([] : List Nat)).Nodup ∧
    (∀ D, D ∈ (((w23.alloc (.cells #[.int .i64 0] 3)).setCell ⟨w23.heap.size, 0, none⟩ (.int .i64 0)).heap.size :: ([] : List Nat)) →
    (w92.setCell ⟨((w.alloc (.cells #[.slice x_0.a x_0.len x_0.cap] 37)).alloc (.cells #[.int .i64 x_1] 3)).heap.size, 0, none⟩ (.bool b93)).heap[D]? = some (.deferred (some []))) ∧
    ∀ w94 : World, Kp (fun k =>
    k ∈ (((w23.alloc (.cells #[.int .i64 0] 3)).setCell ⟨w23.heap.size, 0, none⟩ (.int .i64 0)).heap.size :: ([] : List Nat))) (w92.setCell ⟨((w.alloc (.cells #[.slice x_0.a x_0.len x_0.cap] 37)).alloc (.cells #[.int .i64 x_1] 3)).heap.size, 0, none⟩ (.bool b93)) w94 →
    ∃ b95 : Bool, w94.cell? ⟨((w.alloc (.cells #[.slice x_0.a x_0.len x_0.cap] 37)).alloc (.cells #[.int .i64 x_1] 3)).heap.size, 0, none⟩ = some (.bool b95) ∧
    R (.bool b95) w94)) ((∃ u, w75.cell? ⟨((w.alloc (.cells #[.slice x_0.a x_0.len x_0.cap] 37)).alloc (.cells #[.int .i64 x_1] 3)).heap.size, 0, none⟩ = some u) ∧
    w75.frozen? ⟨((w.alloc (.cells #[.slice x_0.a x_0.len x_0.cap] 37)).alloc (.cells #[.int .i64 x_1] 3)).heap.size, 0, none⟩ = false ∧
    (((w23.alloc (.cells #[.int .i64 0] 3)).setCell ⟨w23.heap.size, 0, none⟩ (.int .i64 0)).heap.size :: ([] : List Nat)).Nodup ∧
    (∀ D, D ∈ (((w23.alloc (.cells #[.int .i64 0] 3)).setCell ⟨w23.heap.size, 0, none⟩ (.int .i64 0)).heap.size :: ([] : List Nat)) →
    (w75.setCell ⟨((w.alloc (.cells #[.slice x_0.a x_0.len x_0.cap] 37)).alloc (.cells #[.int .i64 x_1] 3)).heap.size, 0, none⟩ (.bool false)).heap[D]? = some (.deferred (some []))) ∧
    ∀ w96 : World, Kp (fun k =>
    k ∈ (((w23.alloc (.cells #[.int .i64 0] 3)).setCell ⟨w23.heap.size, 0, none⟩ (.int .i64 0)).heap.size :: ([] : List Nat))) (w75.setCell ⟨((w.alloc (.cells #[.slice x_0.a x_0.len x_0.cap] 37)).alloc (.cells #[.int .i64 x_1] 3)).heap.size, 0, none⟩ (.bool false)) w96 →
    ∃ b97 : Bool, w96.cell? ⟨((w.alloc (.cells #[.slice x_0.a x_0.len x_0.cap] 37)).alloc (.cells #[.int .i64 x_1] 3)).heap.size, 0, none⟩ = some (.bool b97) ∧
    R (.bool b97) w96)) ((∃ u, w75.cell? ⟨((w.alloc (.cells #[.slice x_0.a x_0.len x_0.cap] 37)).alloc (.cells #[.int .i64 x_1] 3)).heap.size, 0, none⟩ = some u) ∧
    w75.frozen? ⟨((w.alloc (.cells #[.slice x_0.a x_0.len x_0.cap] 37)).alloc (.cells #[.int .i64 x_1] 3)).heap.size, 0, none⟩ = false ∧
    (((w23.alloc (.cells #[.int .i64 0] 3)).setCell ⟨w23.heap.size, 0, none⟩ (.int .i64 0)).heap.size :: ([] : List Nat)).Nodup ∧
    (∀ D, D ∈ (((w23.alloc (.cells #[.int .i64 0] 3)).setCell ⟨w23.heap.size, 0, none⟩ (.int .i64 0)).heap.size :: ([] : List Nat)) →
    (w75.setCell ⟨((w.alloc (.cells #[.slice x_0.a x_0.len x_0.cap] 37)).alloc (.cells #[.int .i64 x_1] 3)).heap.size, 0, none⟩ (.bool false)).heap[D]? = some (.deferred (some []))) ∧
    ∀ w98 : World, Kp (fun k =>
    k ∈ (((w23.alloc (.cells #[.int .i64 0] 3)).setCell ⟨w23.heap.size, 0, none⟩ (.int .i64 0)).heap.size :: ([] : List Nat))) (w75.setCell ⟨((w.alloc (.cells #[.slice x_0.a x_0.len x_0.cap] 37)).alloc (.cells #[.int .i64 x_1] 3)).heap.size, 0, none⟩ (.bool false)) w98 →
    ∃ b99 : Bool, w98.cell? ⟨((w.alloc (.cells #[.slice x_0.a x_0.len x_0.cap] 37)).alloc (.cells #[.int .i64 x_1] 3)).heap.size, 0, none⟩ = some (.bool b99) ∧
    R (.bool b99) w98))) ∧ (∀ (T100 : Nat → Prop) (w101 : World), X33 none T100 w101 → ((∀ k, T100 k →
    ((w23.alloc (.cells #[.int .i64 0] 3)).setCell ⟨w23.heap.size, 0, none⟩ (.int .i64 0)).heap.size ≤ k ∧ k < w101.heap.size) ∧
    T100 ((w23.alloc (.cells #[.int .i64 0] 3)).setCell ⟨w23.heap.size, 0, none⟩ (.int .i64 0)).heap.size) →
    w101.heap[((w23.alloc (.cells #[.int .i64 0] 3)).setCell ⟨w23.heap.size, 0, none⟩ (.int .i64 0)).heap.size]? = some (.deferred (some [])) →
    (((w23.alloc (.cells #[.int .i64 0] 3)).setCell ⟨w23.heap.size, 0, none⟩ (.int .i64 0)).heap.size :: ([] : List Nat)).Nodup ∧
    (∀ D, D ∈ (((w23.alloc (.cells #[.int .i64 0] 3)).setCell ⟨w23.heap.size, 0, none⟩ (.int .i64 0)).heap.size :: ([] : List Nat)) →
    w101.heap[D]? = some (.deferred (some []))) ∧ ∀ w102 : World, Kp (fun k =>
    k ∈ (((w23.alloc (.cells #[.int .i64 0] 3)).setCell ⟨w23.heap.size, 0, none⟩ (.int .i64 0)).heap.size :: ([] : List Nat))) w101 w102 →
    ∃ b103 : Bool, w102.cell? ⟨((w.alloc (.cells #[.slice x_0.a x_0.len x_0.cap] 37)).alloc (.cells #[.int .i64 x_1] 3)).heap.size, 0, none⟩ = some (.bool b103) ∧
    R (.bool b103) w102) ∧ (∀ (T48 : Nat → Prop) (w49 : World), X33 (some 0) T48 w49 → ((∀ k, T48 k →
    ((w23.alloc (.cells #[.int .i64 0] 3)).setCell ⟨w23.heap.size, 0, none⟩ (.int .i64 0)).heap.size ≤ k ∧ k < w49.heap.size) ∧
    T48 ((w23.alloc (.cells #[.int .i64 0] 3)).setCell ⟨w23.heap.size, 0, none⟩ (.int .i64 0)).heap.size) →
    w49.heap[((w23.alloc (.cells #[.int .i64 0] 3)).setCell ⟨w23.heap.size, 0, none⟩ (.int .i64 0)).heap.size]? = some (.deferred (some [])) →
    ∃ n50 : Int, w49.cell? ⟨w23.heap.size, 0, none⟩ = some (.int .i64 n50) ∧ ∃ l51 : Slc, w49.cell? ⟨w.heap.size, 0, none⟩ = some (.slice l51.a l51.len l51.cap) ∧
    br (decide (n50 = (l51.len : Int))) (∃ n52 : Int, w49.cell? ⟨w23.heap.size, 0, none⟩ = some (.int .i64 n52) ∧
    ∃ l53 : Slc, w49.cell? ⟨w.heap.size, 0, none⟩ = some (.slice l53.a l53.len l53.cap) ∧
    br (decide (n52 ≤ (l53.len : Int))) (Calls Tryd.prog 32 #[] w49 (Rv fun v54 w55 => ∃ b56 : Bool, v54 = .bool b56 ∧
    (∃ u, w55.cell? ⟨((w.alloc (.cells #[.slice x_0.a x_0.len x_0.cap] 37)).alloc (.cells #[.int .i64 x_1] 3)).heap.size, 0, none⟩ = some u) ∧
    w55.frozen? ⟨((w.alloc (.cells #[.slice x_0.a x_0.len x_0.cap] 37)).alloc (.cells #[.int .i64 x_1] 3)).heap.size, 0, none⟩ = false ∧
    (((w23.alloc (.cells #[.int .i64 0] 3)).setCell ⟨w23.heap.size, 0, none⟩ (.int .i64 0)).heap.size :: ([] : List Nat)).Nodup ∧
    (∀ D, D ∈ (((w23.alloc (.cells #[.int .i64 0] 3)).setCell ⟨w23.heap.size, 0, none⟩ (.int .i64 0)).heap.size :: ([] : List Nat)) →
    (w55.setCell ⟨((w.alloc (.cells #[.slice x_0.a x_0.len x_0.cap] 37)).alloc (.cells #[.int .i64 x_1] 3)).heap.size, 0, none⟩ (.bool b56)).heap[D]? = some (.deferred (some []))) ∧
    ∀ w57 : World, Kp (fun k =>
    k ∈ (((w23.alloc (.cells #[.int .i64 0] 3)).setCell ⟨w23.heap.size, 0, none⟩ (.int .i64 0)).heap.size :: ([] : List Nat))) (w55.setCell ⟨((w.alloc (.cells #[.slice x_0.a x_0.len x_0.cap] 37)).alloc (.cells #[.int .i64 x_1] 3)).heap.size, 0, none⟩ (.bool b56)) w57 →
    ∃ b58 : Bool, w57.cell? ⟨((w.alloc (.cells #[.slice x_0.a x_0.len x_0.cap] 37)).alloc (.cells #[.int .i64 x_1] 3)).heap.size, 0, none⟩ = some (.bool b58) ∧
    R (.bool b58) w57)) ((∃ u, w49.cell? ⟨((w.alloc (.cells #[.slice x_0.a x_0.len x_0.cap] 37)).alloc (.cells #[.int .i64 x_1] 3)).heap.size, 0, none⟩ = some u) ∧
    w49.frozen? ⟨((w.alloc (.cells #[.slice x_0.a x_0.len x_0.cap] 37)).alloc (.cells #[.int .i64 x_1] 3)).heap.size, 0, none⟩ = false ∧
    (((w23.alloc (.cells #[.int .i64 0] 3)).setCell ⟨w23.heap.size, 0, none⟩ (.int .i64 0)).heap.size :: ([] : List Nat)).Nodup ∧
    (∀ D, D ∈ (((w23.alloc (.cells #[.int .i64 0] 3)).setCell ⟨w23.heap.size, 0, none⟩ (.int .i64 0)).heap.size :: ([] : List Nat)) →
    (w49.setCell ⟨((w.alloc (.cells #[.slice x_0.a x_0.len x_0.cap] 37)).alloc (.cells #[.int .i64 x_1] 3)).heap.size, 0, none⟩ (.bool false)).heap[D]? = some (.deferred (some []))) ∧
    ∀ w59 : World, Kp (fun k =>
    k ∈ (((w23.alloc (.cells #[.int .i64 0] 3)).setCell ⟨w23.heap.size, 0, none⟩ (.int .i64 0)).heap.size :: ([] : List Nat))) (w49.setCell ⟨((w.alloc (.cells #[.slice x_0.a x_0.len x_0.cap] 37)).alloc (.cells #[.int .i64 x_1] 3)).heap.size, 0, none⟩ (.bool false)) w59 →
    ∃ b60 : Bool, w59.cell? ⟨((w.alloc (.cells #[.slice x_0.a x_0.len x_0.cap] 37)).alloc (.cells #[.int .i64 x_1] 3)).heap.size, 0, none⟩ = some (.bool b60) ∧
    R (.bool b60) w59)) (∃ n61 : Int, w49.cell? ⟨w23.heap.size, 0, none⟩ = some (.int .i64 n61) ∧
    ∃ n62 : Int, w49.cell? ⟨(w.alloc (.cells #[.slice x_0.a x_0.len x_0.cap] 37)).heap.size, 0, none⟩ = some (.int .i64 n62) ∧
    br (decide (n61 = n62)) (∃ n63 : Int, w49.cell? ⟨w23.heap.size, 0, none⟩ = some (.int .i64 n63) ∧
    ∃ l64 : Slc, w49.cell? ⟨w.heap.size, 0, none⟩ = some (.slice l64.a l64.len l64.cap) ∧
    br (decide (n63 ≤ (l64.len : Int))) (Calls Tryd.prog 32 #[] w49 (Rv fun v65 w66 => ∃ b67 : Bool, v65 = .bool b67 ∧
    (∃ u, w66.cell? ⟨((w.alloc (.cells #[.slice x_0.a x_0.len x_0.cap] 37)).alloc (.cells #[.int .i64 x_1] 3)).heap.size, 0, none⟩ = some u) ∧
    w66.frozen? ⟨((w.alloc (.cells #[.slice x_0.a x_0.len x_0.cap] 37)).alloc (.cells #[.int .i64 x_1] 3)).heap.size, 0, none⟩ = false ∧
    (((w23.alloc (.cells #[.int .i64 0] 3)).setCell ⟨w23.heap.size, 0, none⟩ (.int .i64 0)).heap.size :: ([] : List Nat)).Nodup ∧
    (∀ D, D ∈ (((w23.alloc (.cells #[.int .i64 0] 3)).setCell ⟨w23.heap.size, 0, none⟩ (.int .i64 0)).heap.size :: ([] : List Nat)) →
    (w66.setCell ⟨((w.alloc (.cells #[.slice x_0.a x_0.len x_0.cap] 37)).alloc (.cells #[.int .i64 x_1] 3)).heap.size, 0, none⟩ (.bool b67)).heap[D]? = some (.deferred (some []))) ∧
    ∀ w68 : World, Kp (fun k =>
    k ∈ (((w23.alloc (.cells #[.int .i64 0] 3)).setCell ⟨w23.heap.size, 0, none⟩ (.int .i64 0)).heap.size :: ([] : List Nat))) (w66.setCell ⟨((w.alloc (.cells #[.slice x_0.a x_0.len x_0.cap] 37)).alloc (.cells #[.int .i64 x_1] 3)).heap.size, 0, none⟩ (.bool b67)) w68 →
    ∃ b69 : Bool, w68.cell? ⟨((w.alloc (.cells #[.slice x_0.a x_0.len x_0.cap] 37)).alloc (.cells #[.int .i64 x_1] 3)).heap.size, 0, none⟩ = some (.bool b69) ∧
    R (.bool b69) w68)) ((∃ u, w49.cell? ⟨((w.alloc (.cells #[.slice x_0.a x_0.len x_0.cap] 37)).alloc (.cells #[.int .i64 x_1] 3)).heap.size, 0, none⟩ = some u) ∧
    w49.frozen? ⟨((w.alloc (.cells #[.slice x_0.a x_0.len x_0.cap] 37)).alloc (.cells #[.int .i64 x_1] 3)).heap.size, 0, none⟩ = false ∧
    (((w23.alloc (.cells #[.int .i64 0] 3)).setCell ⟨w23.heap.size, 0, none⟩ (.int .i64 0)).heap.size :: ([] : List Nat)).Nodup ∧
    (∀ D, D ∈ (((w23.alloc (.cells #[.int .i64 0] 3)).setCell ⟨w23.heap.size, 0, none⟩ (.int .i64 0)).heap.size :: ([] : List Nat)) →
    (w49.setCell ⟨((w.alloc (.cells #[.slice x_0.a x_0.len x_0.cap] 37)).alloc (.cells #[.int .i64 x_1] 3)).heap.size, 0, none⟩ (.bool false)).heap[D]? = some (.deferred (some []))) ∧
    ∀ w70 : World, Kp (fun k =>
    k ∈ (((w23.alloc (.cells #[.int .i64 0] 3)).setCell ⟨w23.heap.size, 0, none⟩ (.int .i64 0)).heap.size :: ([] : List Nat))) (w49.setCell ⟨((w.alloc (.cells #[.slice x_0.a x_0.len x_0.cap] 37)).alloc (.cells #[.int .i64 x_1] 3)).heap.size, 0, none⟩ (.bool false)) w70 →
    ∃ b71 : Bool, w70.cell? ⟨((w.alloc (.cells #[.slice x_0.a x_0.len x_0.cap] 37)).alloc (.cells #[.int .i64 x_1] 3)).heap.size, 0, none⟩ = some (.bool b71) ∧
    R (.bool b71) w70)) ((∃ u, w49.cell? ⟨((w.alloc (.cells #[.slice x_0.a x_0.len x_0.cap] 37)).alloc (.cells #[.int .i64 x_1] 3)).heap.size, 0, none⟩ = some u) ∧
    w49.frozen? ⟨((w.alloc (.cells #[.slice x_0.a x_0.len x_0.cap] 37)).alloc (.cells #[.int .i64 x_1] 3)).heap.size, 0, none⟩ = false ∧
    (((w23.alloc (.cells #[.int .i64 0] 3)).setCell ⟨w23.heap.size, 0, none⟩ (.int .i64 0)).heap.size :: ([] : List Nat)).Nodup ∧
    (∀ D, D ∈ (((w23.alloc (.cells #[.int .i64 0] 3)).setCell ⟨w23.heap.size, 0, none⟩ (.int .i64 0)).heap.size :: ([] : List Nat)) →
    (w49.setCell ⟨((w.alloc (.cells #[.slice x_0.a x_0.len x_0.cap] 37)).alloc (.cells #[.int .i64 x_1] 3)).heap.size, 0, none⟩ (.bool false)).heap[D]? = some (.deferred (some []))) ∧
    ∀ w72 : World, Kp (fun k =>
    k ∈ (((w23.alloc (.cells #[.int .i64 0] 3)).setCell ⟨w23.heap.size, 0, none⟩ (.int .i64 0)).heap.size :: ([] : List Nat))) (w49.setCell ⟨((w.alloc (.cells #[.slice x_0.a x_0.len x_0.cap] 37)).alloc (.cells #[.int .i64 x_1] 3)).heap.size, 0, none⟩ (.bool false)) w72 →
    ∃ b73 : Bool, w72.cell? ⟨((w.alloc (.cells #[.slice x_0.a x_0.len x_0.cap] 37)).alloc (.cells #[.int .i64 x_1] 3)).heap.size, 0, none⟩ = some (.bool b73) ∧
    R (.bool b73) w72)))))))))
theorem B6_eq : @B6 = fun (x_0 : Slc) (x_1 : Int) (w : World) (R : Value → World → Prop) => trFT Tryd.prog G (lk [(1000014, [(35, .int .i64), (36, .int .i64)])]) Tryd.f6 [.slice x_0.a x_0.len x_0.cap, .int .i64 x_1] w R := by kernel_rfl
theorem c6 (x_0 : Slc) (x_1 : Int) (w : World) (R : Value → World → Prop) (h : B6 x_0 x_1 w R) : Calls Tryd.prog 6 #[.slice x_0.a x_0.len x_0.cap, .int .i64 x_1] w (Rv R) := calls_of_trT (L := lk [(1000014, [(35, .int .i64), (36, .int .i64)])]) Tryd.func6 hG hM (by rw [B6_eq] at h; exact h)

/-- locution/locutionlaw09.live -/
def B32  (w : World) (R : Value → World → Prop) : Prop :=
  Calls Tryd.prog 34 #[.slice (some ⟨w.heap.size, 0, none⟩) 3 3] (w.alloc (.cells #[.int .i64 2, .int .i64 0, .int .i64 3] 3)) (Rv fun v1 w2 =>
    ∃ p3 : Option Addr, ∃ n4 : Int, v1 = .tuple #[.pointer p3, .int .i64 n4] ∧ Calls Tryd.prog 72 #[.pointer p3] w2 (Rv fun v5 w6 => ∃ n7 : Int, v5 = .int .i64 n7 ∧
    br (decide (n7 = (5 : Int))) (Calls Tryd.prog 103 #[.pointer p3, .int .i64 1, .int .i64 3] w6 (Rv fun v8 w9 => ∃ n10 : Int, v8 = .int .i64 n10 ∧
    br (decide (n10 = (3 : Int))) (Calls Tryd.prog 104 #[.pointer p3, .int .i64 1] w9 (Rv fun v11 w12 => ∃ n13 : Int, v11 = .int .i64 n13 ∧
    br (decide (n13 = (0 : Int))) (Calls Tryd.prog 104 #[.pointer p3, .int .i64 2] w12 (Rv fun v14 w15 => ∃ n16 : Int, v14 = .int .i64 n16 ∧
    br (decide (n16 = (2 : Int))) (Calls Tryd.prog 104 #[.pointer p3, .int .i64 5] w15 (Rv fun v17 w18 => ∃ n19 : Int, v17 = .int .i64 n19 ∧
    R (.bool (decide (n19 = (-1)))) w18)) (R (.bool false) w15))) (R (.bool false) w12))) (R (.bool false) w9))) (R (.bool false) w6)))
theorem B32_eq : @B32 = fun (w : World) (R : Value → World → Prop) => trF Tryd.prog G (lk []) Tryd.f32 [] w R := by kernel_rfl
theorem c32  (w : World) (R : Value → World → Prop) (h : B32  w R) : Calls Tryd.prog 32 #[] w (Rv R) := calls_of_tr (L := lk []) Tryd.func32 hG hM (by rw [B32_eq] at h; exact h)

/-- (*locution/prefix.Seq).Len -/
def B71n  (w : World) (R : Value → World → Prop) : Prop :=
  R (.int .i64 0) w
theorem B71n_eq : @B71n = fun (w : World) (R : Value → World → Prop) => trF Tryd.prog G (lk []) Tryd.f71 [.pointer none] w R := by kernel_rfl
theorem c71n  (w : World) (R : Value → World → Prop) (h : B71n  w R) : Calls Tryd.prog 71 #[.pointer none] w (Rv R) := calls_of_tr (L := lk []) Tryd.func71 hG hM (by rw [B71n_eq] at h; exact h)

/-- (*locution/prefix.Seq).At -/
def B73n (x_1 : Int) (w : World) (R : Value → World → Prop) : Prop :=
  br (decide (x_1 < (0 : Int))) (R (.int .i64 (-1)) w) (Calls Tryd.prog 71 #[.pointer none] w (Rv fun v1 w2 => ∃ n3 : Int, v1 = .int .i64 n3 ∧
    br (decide (n3 ≤ x_1)) (R (.int .i64 (-1)) w2) (False)))
theorem B73n_eq : @B73n = fun (x_1 : Int) (w : World) (R : Value → World → Prop) => trF Tryd.prog G (lk []) Tryd.f73 [.pointer none, .int .i64 x_1] w R := by kernel_rfl
theorem c73n (x_1 : Int) (w : World) (R : Value → World → Prop) (h : B73n x_1 w R) : Calls Tryd.prog 73 #[.pointer none, .int .i64 x_1] w (Rv R) := calls_of_tr (L := lk []) Tryd.func73 hG hM (by rw [B73n_eq] at h; exact h)

/-- (*locution/prefix.Seq).Total -/
def B72n  (w : World) (R : Value → World → Prop) : Prop :=
  R (.int .i64 0) w
theorem B72n_eq : @B72n = fun (w : World) (R : Value → World → Prop) => trF Tryd.prog G (lk []) Tryd.f72 [.pointer none] w R := by kernel_rfl
theorem c72n  (w : World) (R : Value → World → Prop) (h : B72n  w R) : Calls Tryd.prog 72 #[.pointer none] w (Rv R) := calls_of_tr (L := lk []) Tryd.func72 hG hM (by rw [B72n_eq] at h; exact h)

/-- (*locution/prefix.Seq).Sum -/
def B103n (x_1 : Int) (x_2 : Int) (w : World) (R : Value → World → Prop) : Prop :=
  Calls Tryd.prog 71 #[.pointer none] w (Rv fun v1 w2 => ∃ n3 : Int, v1 = .int .i64 n3 ∧ br (decide ((min x_2 n3) ≤ (max x_1 (0 : Int)))) (R (.int .i64 0) w2) (False))
theorem B103n_eq : @B103n = fun (x_1 : Int) (x_2 : Int) (w : World) (R : Value → World → Prop) => trF Tryd.prog G (lk []) Tryd.f103 [.pointer none, .int .i64 x_1, .int .i64 x_2] w R := by kernel_rfl
theorem c103n (x_1 : Int) (x_2 : Int) (w : World) (R : Value → World → Prop) (h : B103n x_1 x_2 w R) : Calls Tryd.prog 103 #[.pointer none, .int .i64 x_1, .int .i64 x_2] w (Rv R) := calls_of_tr (L := lk []) Tryd.func103 hG hM (by rw [B103n_eq] at h; exact h)

/-- (*locution/prefix.Seq).Where -/
def B104n (x_1 : Int) (w : World) (R : Value → World → Prop) : Prop :=
  br (decide (x_1 < (0 : Int))) (R (.int .i64 (-1)) w) (Calls Tryd.prog 72 #[.pointer none] w (Rv fun v1 w2 => ∃ n3 : Int, v1 = .int .i64 n3 ∧
    br (decide (n3 ≤ x_1)) (R (.int .i64 (-1)) w2) (False)))
theorem B104n_eq : @B104n = fun (x_1 : Int) (w : World) (R : Value → World → Prop) => trF Tryd.prog G (lk []) Tryd.f104 [.pointer none, .int .i64 x_1] w R := by kernel_rfl
theorem c104n (x_1 : Int) (w : World) (R : Value → World → Prop) (h : B104n x_1 w R) : Calls Tryd.prog 104 #[.pointer none, .int .i64 x_1] w (Rv R) := calls_of_tr (L := lk []) Tryd.func104 hG hM (by rw [B104n_eq] at h; exact h)

end Go.Proofs.YtomajpihimlcjaaDoor.V
