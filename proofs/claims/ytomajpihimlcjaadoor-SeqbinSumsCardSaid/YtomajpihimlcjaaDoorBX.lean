/- The verification conditions of functions, printed by a program of this work (pr.py) and checked here by the kernel. -/
import Derived.Test.YtomajpihimlcjaaDoorVb
import Derived.Test.YtomajpihimlcjaaDoorBE
set_option maxRecDepth 100000
set_option linter.unusedVariables false
namespace Go.Proofs.YtomajpihimlcjaaDoor.V
open Go Go.VC

/-- locution/prefix.New -/
def B34 (x_0 : Slc) (w : World) (R : Value → World → Prop) : Prop :=
  Calls Tryd.prog 105 #[.slice x_0.a x_0.len x_0.cap, .int .i64 1099511627776] w (Rv fun v1 w2 => ∃ l3 : Slc, v1 = .slice l3.a l3.len l3.cap ∧
    br l3.a.isNone (R (.tuple #[.pointer none, .int .i64 8]) w2) (Calls Tryd.prog 29 #[.slice l3.a l3.len l3.cap] w2 (Rv fun v4 w5 =>
    ∃ p6 : Option Addr, ∃ n7 : Int, v4 = .tuple #[.pointer p6, .int .i64 n7] ∧
    br (!(decide (n7 = (0 : Int)))) (R (.tuple #[.pointer none, .int .i64 n7]) w5) (R (.tuple #[.pointer (some ⟨w5.heap.size, 0, none⟩), .int .i64 0]) (w5.alloc (.cells #[.pointer p6] 127))))))
theorem B34_eq : @B34 = fun (x_0 : Slc) (w : World) (R : Value → World → Prop) => trF Tryd.prog G (lk []) Tryd.f34 [.slice x_0.a x_0.len x_0.cap] w R := by kernel_rfl
theorem c34 (x_0 : Slc) (w : World) (R : Value → World → Prop) (h : B34 x_0 w R) : Calls Tryd.prog 34 #[.slice x_0.a x_0.len x_0.cap] w (Rv R) := calls_of_tr (L := lk []) Tryd.func34 hG hM (by rw [B34_eq] at h; exact h)

/-- (*locution/prefix.Seq).All -/
def B35 (a_0 : Addr) (w : World) (R : Value → World → Prop) : Prop :=
  R (.func (.func 106) #[] #[.pointer (some ⟨w.heap.size, 0, none⟩)]) (w.alloc (.cells #[.pointer (some a_0)] 56))
theorem B35_eq : @B35 = fun (a_0 : Addr) (w : World) (R : Value → World → Prop) => trF Tryd.prog G (lk []) Tryd.f35 [.pointer (some a_0)] w R := by kernel_rfl
theorem c35 (a_0 : Addr) (w : World) (R : Value → World → Prop) (h : B35 a_0 w R) : Calls Tryd.prog 35 #[.pointer (some a_0)] w (Rv R) := calls_of_tr (L := lk []) Tryd.func35 hG hM (by rw [B35_eq] at h; exact h)

/-- (*locution/prefix.Seq).Len -/
def B71 (a_0 : Addr) (w : World) (R : Value → World → Prop) : Prop :=
  ∃ p1 : Option Addr, w.cell? (Addr.add a_0 0) = some (.pointer p1) ∧ Calls Tryd.prog 43 #[.pointer p1] w (Rv fun v2 w3 => ∃ n4 : Int, v2 = .int .i64 n4 ∧
    R (.int .i64 (max (IntKind.i64.wrap (n4 - 1)) (0 : Int))) w3)
theorem B71_eq : @B71 = fun (a_0 : Addr) (w : World) (R : Value → World → Prop) => trF Tryd.prog G (lk []) Tryd.f71 [.pointer (some a_0)] w R := by kernel_rfl
theorem c71 (a_0 : Addr) (w : World) (R : Value → World → Prop) (h : B71 a_0 w R) : Calls Tryd.prog 71 #[.pointer (some a_0)] w (Rv R) := calls_of_tr (L := lk []) Tryd.func71 hG hM (by rw [B71_eq] at h; exact h)

/-- (*locution/prefix.Seq).Total -/
def B72 (a_0 : Addr) (w : World) (R : Value → World → Prop) : Prop :=
  ∃ p1 : Option Addr, w.cell? (Addr.add a_0 0) = some (.pointer p1) ∧ Calls Tryd.prog 107 #[.pointer p1] w (Rv fun v2 w3 => ∃ n4 : Int, v2 = .int .i64 n4 ∧
    R (.int .i64 (max n4 (0 : Int))) w3)
theorem B72_eq : @B72 = fun (a_0 : Addr) (w : World) (R : Value → World → Prop) => trF Tryd.prog G (lk []) Tryd.f72 [.pointer (some a_0)] w R := by kernel_rfl
theorem c72 (a_0 : Addr) (w : World) (R : Value → World → Prop) (h : B72 a_0 w R) : Calls Tryd.prog 72 #[.pointer (some a_0)] w (Rv R) := calls_of_tr (L := lk []) Tryd.func72 hG hM (by rw [B72_eq] at h; exact h)

/-- (*locution/prefix.Seq).At -/
def B73 (a_0 : Addr) (x_1 : Int) (w : World) (R : Value → World → Prop) : Prop :=
  br (decide (x_1 < (0 : Int))) (R (.int .i64 (-1)) w) (Calls Tryd.prog 71 #[.pointer (some a_0)] w (Rv fun v1 w2 => ∃ n3 : Int, v1 = .int .i64 n3 ∧
    br (decide (n3 ≤ x_1)) (R (.int .i64 (-1)) w2) (∃ p4 : Option Addr, (World.drew w2).cell? (Addr.add a_0 0) = some (.pointer p4) ∧
    ∃ p5 : Option Addr, (World.drew w2).cell? (Addr.add a_0 0) = some (.pointer p5) ∧
    Calls Tryd.prog 42 #[.pointer p4, .int .i64 (IntKind.i64.wrap (x_1 + 1))] (World.drew w2) (Rv fun v6 w7 => ∃ n8 : Int, v6 = .int .i64 n8 ∧
    w7.cell? (Addr.add a_0 0) = some (.pointer p5) ∧ Calls Tryd.prog 42 #[.pointer p5, .int .i64 x_1] w7 (Rv fun v9 w10 => ∃ n11 : Int, v9 = .int .i64 n11 ∧
    R (.int .i64 (IntKind.i64.wrap (n8 - n11))) w10)))))
theorem B73_eq : @B73 = fun (a_0 : Addr) (x_1 : Int) (w : World) (R : Value → World → Prop) => trF Tryd.prog G (lk []) Tryd.f73 [.pointer (some a_0), .int .i64 x_1] w R := by kernel_rfl
theorem c73 (a_0 : Addr) (x_1 : Int) (w : World) (R : Value → World → Prop) (h : B73 a_0 x_1 w R) : Calls Tryd.prog 73 #[.pointer (some a_0), .int .i64 x_1] w (Rv R) := calls_of_tr (L := lk []) Tryd.func73 hG hM (by rw [B73_eq] at h; exact h)

/-- (*locution/prefix.Seq).Sum -/
def B103 (a_0 : Addr) (x_1 : Int) (x_2 : Int) (w : World) (R : Value → World → Prop) : Prop :=
  Calls Tryd.prog 71 #[.pointer (some a_0)] w (Rv fun v1 w2 => ∃ n3 : Int, v1 = .int .i64 n3 ∧
    br (decide ((min x_2 n3) ≤ (max x_1 (0 : Int)))) (R (.int .i64 0) w2) (∃ p4 : Option Addr, (World.drew w2).cell? (Addr.add a_0 0) = some (.pointer p4) ∧
    ∃ p5 : Option Addr, (World.drew w2).cell? (Addr.add a_0 0) = some (.pointer p5) ∧
    Calls Tryd.prog 42 #[.pointer p4, .int .i64 (min x_2 n3)] (World.drew w2) (Rv fun v6 w7 => ∃ n8 : Int, v6 = .int .i64 n8 ∧
    w7.cell? (Addr.add a_0 0) = some (.pointer p5) ∧ Calls Tryd.prog 42 #[.pointer p5, .int .i64 (max x_1 (0 : Int))] w7 (Rv fun v9 w10 =>
    ∃ n11 : Int, v9 = .int .i64 n11 ∧ R (.int .i64 (IntKind.i64.wrap (n8 - n11))) w10))))
theorem B103_eq : @B103 = fun (a_0 : Addr) (x_1 : Int) (x_2 : Int) (w : World) (R : Value → World → Prop) => trF Tryd.prog G (lk []) Tryd.f103 [.pointer (some a_0), .int .i64 x_1, .int .i64 x_2] w R := by kernel_rfl
theorem c103 (a_0 : Addr) (x_1 : Int) (x_2 : Int) (w : World) (R : Value → World → Prop) (h : B103 a_0 x_1 x_2 w R) : Calls Tryd.prog 103 #[.pointer (some a_0), .int .i64 x_1, .int .i64 x_2] w (Rv R) := calls_of_tr (L := lk []) Tryd.func103 hG hM (by rw [B103_eq] at h; exact h)

/-- (*locution/prefix.Seq).Where -/
def B104 (a_0 : Addr) (x_1 : Int) (w : World) (R : Value → World → Prop) : Prop :=
  br (decide (x_1 < (0 : Int))) (R (.int .i64 (-1)) w) (Calls Tryd.prog 72 #[.pointer (some a_0)] w (Rv fun v1 w2 => ∃ n3 : Int, v1 = .int .i64 n3 ∧
    br (decide (n3 ≤ x_1)) (R (.int .i64 (-1)) w2) (∃ p4 : Option Addr, w2.cell? (Addr.add a_0 0) = some (.pointer p4) ∧
    Calls Tryd.prog 96 #[.pointer p4, .int .i64 x_1] w2 (Rv fun v5 w6 => ∃ n7 : Int, ∃ n8 : Int, v5 = .tuple #[.int .i64 n7, .int .i64 n8] ∧ R (.int .i64 n7) w6))))
theorem B104_eq : @B104 = fun (a_0 : Addr) (x_1 : Int) (w : World) (R : Value → World → Prop) => trF Tryd.prog G (lk []) Tryd.f104 [.pointer (some a_0), .int .i64 x_1] w R := by kernel_rfl
theorem c104 (a_0 : Addr) (x_1 : Int) (w : World) (R : Value → World → Prop) (h : B104 a_0 x_1 w R) : Calls Tryd.prog 104 #[.pointer (some a_0), .int .i64 x_1] w (Rv R) := calls_of_tr (L := lk []) Tryd.func104 hG hM (by rw [B104_eq] at h; exact h)

/-- locution/prefix.running[int] -/
def B105 (x_0 : Slc) (x_1 : Int) (w : World) (R : Value → World → Prop) : Prop :=
  
    ∃ w1 : World, ∃ l2 : Slc, (Instr.makeSlice 37 (.int .i64 1) (.int .i64 (IntKind.i64.wrap ((x_0.len : Int) + 1)))).run Tryd.prog w = .ok (.slice l2.a l2.len l2.cap) w1 ∧
    ∃ (I3 : Slc → Int → Int → World → Prop) (μ4 : Slc → Int → Int → World → Nat), I3 l2 (0 : Int) (0 : Int) w1 ∧
    ∀ x5 : Slc, ∀ x6 : Int, ∀ x7 : Int, ∀ w8 : World, I3 x5 x6 x7 w8 → br (decide (x7 < (x_0.len : Int))) (0 ≤ x7 ∧ x7 < (x_0.len : Int) ∧ ∃ a9, x_0.a = some a9 ∧
    ∃ n10 : Int, w8.cell? (Addr.add a9 (x7.toNat * 1)) = some (.int .i64 n10) ∧
    br (decide (n10 < (0 : Int))) (R (.slice none 0 0) w8) (br (decide ((IntKind.i64.wrap (x_1 - x6)) < n10)) (R (.slice none 0 0) w8) (∃ w11 : World, ∃ l12 : Slc, (Builtin.append_ #[37, 37] 37 #[.slice x5.a x5.len x5.cap, .slice (some ⟨w8.heap.size, 0, none⟩) 1 1]).run Tryd.prog (w8.alloc (.cells #[.int .i64 (IntKind.i64.wrap (x6 + n10))] 3)) = .ok (.slice l12.a l12.len l12.cap) w11 ∧
    I3 l12 (IntKind.i64.wrap (x6 + n10)) (IntKind.i64.wrap (x7 + 1)) w11 ∧
    μ4 l12 (IntKind.i64.wrap (x6 + n10)) (IntKind.i64.wrap (x7 + 1)) w11 < μ4 x5 x6 x7 w8))) (R (.slice x5.a x5.len x5.cap) w8)
theorem B105_eq : @B105 = fun (x_0 : Slc) (x_1 : Int) (w : World) (R : Value → World → Prop) => trF Tryd.prog G (lk [(4, [(5, .slc), (6, .int .i64), (15, .int .i64)])]) Tryd.f105 [.slice x_0.a x_0.len x_0.cap, .int .i64 x_1] w R := by kernel_rfl
theorem c105 (x_0 : Slc) (x_1 : Int) (w : World) (R : Value → World → Prop) (h : B105 x_0 x_1 w R) : Calls Tryd.prog 105 #[.slice x_0.a x_0.len x_0.cap, .int .i64 x_1] w (Rv R) := calls_of_tr (L := lk [(4, [(5, .slc), (6, .int .i64), (15, .int .i64)])]) Tryd.func105 hG hM (by rw [B105_eq] at h; exact h)

/-- (*locution/prefix.Seq).All$1 -/
def B106 (x_0 : Value) (a_1 : Addr) (w : World) (R : Value → World → Prop) : Prop :=
  ∃ p1 : Option Addr, (w.alloc (.cells ⟨cellsL x_0⟩ 100)).cell? a_1 = some (.pointer p1) ∧ br p1.isNone (([] : List Nat).Nodup ∧ (∀ D, D ∈ ([] : List Nat) →
    (w.alloc (.cells ⟨cellsL x_0⟩ 100)).heap[D]? = some (.deferred (some []))) ∧ ∀ w2 : World, Kp (fun k =>
    k ∈ ([] : List Nat)) (w.alloc (.cells ⟨cellsL x_0⟩ 100)) w2 →
    R (.tuple #[]) w2) ((∃ u, ((w.alloc (.cells ⟨cellsL x_0⟩ 100)).alloc (.cells #[.int .i64 0] 3)).cell? ⟨(w.alloc (.cells ⟨cellsL x_0⟩ 100)).heap.size, 0, none⟩ = some u) ∧
    ((w.alloc (.cells ⟨cellsL x_0⟩ 100)).alloc (.cells #[.int .i64 0] 3)).frozen? ⟨(w.alloc (.cells ⟨cellsL x_0⟩ 100)).heap.size, 0, none⟩ = false ∧
    ∃ p3 : Option Addr, (((w.alloc (.cells ⟨cellsL x_0⟩ 100)).alloc (.cells #[.int .i64 0] 3)).setCell ⟨(w.alloc (.cells ⟨cellsL x_0⟩ 100)).heap.size, 0, none⟩ (.int .i64 0)).cell? a_1 = some (.pointer p3) ∧
    wa p3 fun a4 =>
    ∃ p5 : Option Addr, (((w.alloc (.cells ⟨cellsL x_0⟩ 100)).alloc (.cells #[.int .i64 0] 3)).setCell ⟨(w.alloc (.cells ⟨cellsL x_0⟩ 100)).heap.size, 0, none⟩ (.int .i64 0)).cell? (Addr.add a4 0) = some (.pointer p5) ∧
    Calls Tryd.prog 30 #[.pointer p5] (((w.alloc (.cells ⟨cellsL x_0⟩ 100)).alloc (.cells #[.int .i64 0] 3)).setCell ⟨(w.alloc (.cells ⟨cellsL x_0⟩ 100)).heap.size, 0, none⟩ (.int .i64 0)) (Rv fun v6 w7 =>
    ∃ v8 : Value, v6 = v8 ∧ ∃ (g9 : Nat) (A10 C11 : Array Value), v8 = .func (.func g9) A10 C11 ∧ G g9 = true ∧ ∃ n12 : Nat, ∃ f20 : Nat → Int, ∃ f21 : Nat →
    Int, ∃ (D13 : Nat → Prop) (J14 : Nat → (Nat → Prop) → World → Prop) (X15 : Option Nat → (Nat → Prop) → World →
    Prop), Iter Tryd.prog g9 A10.toList C11.toList w7 n12 (fun j => [.int .i64 (f20 j), .int .i64 (f21 j)]) D13 ∧ (∀ k, D13 k → k < w7.heap.size) ∧ (∀ j, Stab (J14 j)) ∧
    (∀ o, Stab (X15 o)) ∧ J14 0 (fun _ => False) w7 ∧ (∀ (j16 : Nat) (T17 : Nat → Prop) (w18 : World), j16 < n12 → J14 j16 T17 w18 → (∀ k, T17 k →
    w7.heap.size ≤ k) → T17 w7.heap.size → T17 (w7.heap.size + 1) → (∀ k, T17 k → k < w18.heap.size) → Kp (fun k => ¬ T17 k ∧ ¬ D13 k) w18 w18 ∧
    ∀ w19 : World, Kp (fun k => k = w7.heap.size + 1) w18 w19 → br (decide ((0 : Int) < (f20 j16))) (∃ v22 : Value, w19.cell? ⟨w.heap.size, 0, none⟩ = some (v22) ∧
    ∃ n23 : Int, w19.cell? ⟨(w.alloc (.cells ⟨cellsL x_0⟩ 100)).heap.size, 0, none⟩ = some (.int .i64 n23) ∧
    CallFV Tryd.prog G v22 [.int .i64 (IntKind.i64.wrap ((f20 j16) - 1)), .int .i64 (IntKind.i64.wrap ((f21 j16) - n23))] w19 fun v24 w25 =>
    ∃ b26 : Bool, v24 = .bool b26 ∧ br (!b26) (Kp (fun k => ¬ T17 k ∧ ¬ D13 k) w19 w25 ∧
    X15 none T17 w25) ((∃ u, w25.cell? ⟨(w.alloc (.cells ⟨cellsL x_0⟩ 100)).heap.size, 0, none⟩ = some u) ∧
    w25.frozen? ⟨(w.alloc (.cells ⟨cellsL x_0⟩ 100)).heap.size, 0, none⟩ = false ∧ Kp (fun k => ¬ T17 k ∧
    ¬ D13 k) w19 (w25.setCell ⟨(w.alloc (.cells ⟨cellsL x_0⟩ 100)).heap.size, 0, none⟩ (.int .i64 (f21 j16))) ∧
    J14 (j16 + 1) T17 (w25.setCell ⟨(w.alloc (.cells ⟨cellsL x_0⟩ 100)).heap.size, 0, none⟩ (.int .i64 (f21 j16))))) ((∃ u, w19.cell? ⟨(w.alloc (.cells ⟨cellsL x_0⟩ 100)).heap.size, 0, none⟩ = some u) ∧
    w19.frozen? ⟨(w.alloc (.cells ⟨cellsL x_0⟩ 100)).heap.size, 0, none⟩ = false ∧ Kp (fun k => ¬ T17 k ∧
    ¬ D13 k) w19 (w19.setCell ⟨(w.alloc (.cells ⟨cellsL x_0⟩ 100)).heap.size, 0, none⟩ (.int .i64 (f21 j16))) ∧
    J14 (j16 + 1) T17 (w19.setCell ⟨(w.alloc (.cells ⟨cellsL x_0⟩ 100)).heap.size, 0, none⟩ (.int .i64 (f21 j16))))) ∧ (∀ (T27 : Nat →
    Prop) (w28 : World), J14 n12 T27 w28 → ((∀ k, T27 k → w7.heap.size ≤ k ∧ k < w28.heap.size) ∧ T27 w7.heap.size) →
    w28.heap[w7.heap.size]? = some (.deferred (some [])) → (w7.heap.size :: ([] : List Nat)).Nodup ∧ (∀ D, D ∈ (w7.heap.size :: ([] : List Nat)) →
    w28.heap[D]? = some (.deferred (some []))) ∧ ∀ w29 : World, Kp (fun k => k ∈ (w7.heap.size :: ([] : List Nat))) w28 w29 → R (.tuple #[]) w29) ∧ (∀ (T30 : Nat →
    Prop) (w31 : World), X15 none T30 w31 → ((∀ k, T30 k → w7.heap.size ≤ k ∧ k < w31.heap.size) ∧ T30 w7.heap.size) →
    w31.heap[w7.heap.size]? = some (.deferred (some [])) → (w7.heap.size :: ([] : List Nat)).Nodup ∧ (∀ D, D ∈ (w7.heap.size :: ([] : List Nat)) →
    w31.heap[D]? = some (.deferred (some []))) ∧ ∀ w32 : World, Kp (fun k => k ∈ (w7.heap.size :: ([] : List Nat))) w31 w32 → R (.tuple #[]) w32) ∧ True))
theorem B106_eq : @B106 = fun (x_0 : Value) (a_1 : Addr) (w : World) (R : Value → World → Prop) => trFT Tryd.prog G (lk [(1000006, [(13, .int .i64), (14, .int .i64)])]) Tryd.f106 [x_0, .pointer (some a_1)] w R := by kernel_rfl
theorem c106 (x_0 : Value) (a_1 : Addr) (w : World) (R : Value → World → Prop) (h : B106 x_0 a_1 w R) : Calls Tryd.prog 106 #[x_0, .pointer (some a_1)] w (Rv R) := calls_of_trT (L := lk [(1000006, [(13, .int .i64), (14, .int .i64)])]) Tryd.func106 hG hM (by rw [B106_eq] at h; exact h)

/-- locution/locutionref09.Sums -/
def B33 (x_0 : Slc) (w : World) (R : Value → World → Prop) : Prop :=
  ∃ (I1 : Slc → Int → Int → World → Prop) (μ2 : Slc → Int → Int → World →
    Nat), I1 ⟨(some ⟨w.heap.size, 0, none⟩), 1, 1⟩ (0 : Int) (0 : Int) (w.alloc (.cells #[.int .i64 0] 3)) ∧
    ∀ x3 : Slc, ∀ x4 : Int, ∀ x5 : Int, ∀ w6 : World, I1 x3 x4 x5 w6 → br (decide (x5 < (x_0.len : Int))) (0 ≤ x5 ∧ x5 < (x_0.len : Int) ∧ ∃ a7, x_0.a = some a7 ∧
    ∃ n8 : Int, w6.cell? (Addr.add a7 (x5.toNat * 1)) = some (.int .i64 n8) ∧ br (decide (n8 < (0 : Int))) (R (.tuple #[.slice none 0 0, .bool false]) w6) (0 ≤ x5 ∧
    x5 < (x_0.len : Int) ∧ ∃ a9, x_0.a = some a9 ∧ ∃ n10 : Int, w6.cell? (Addr.add a9 (x5.toNat * 1)) = some (.int .i64 n10) ∧
    br (decide ((IntKind.i64.wrap (1099511627776 - x4)) < n10)) (R (.tuple #[.slice none 0 0, .bool false]) w6) (0 ≤ x5 ∧ x5 < (x_0.len : Int) ∧
    ∃ a11, x_0.a = some a11 ∧ ∃ n12 : Int, w6.cell? (Addr.add a11 (x5.toNat * 1)) = some (.int .i64 n12) ∧
    ∃ w13 : World, ∃ l14 : Slc, (Builtin.append_ #[37, 37] 37 #[.slice x3.a x3.len x3.cap, .slice (some ⟨w6.heap.size, 0, none⟩) 1 1]).run Tryd.prog (w6.alloc (.cells #[.int .i64 (IntKind.i64.wrap (x4 + n12))] 3)) = .ok (.slice l14.a l14.len l14.cap) w13 ∧
    I1 l14 (IntKind.i64.wrap (x4 + n12)) (IntKind.i64.wrap (x5 + 1)) w13 ∧
    μ2 l14 (IntKind.i64.wrap (x4 + n12)) (IntKind.i64.wrap (x5 + 1)) w13 < μ2 x3 x4 x5 w6))) (R (.tuple #[.slice x3.a x3.len x3.cap, .bool true]) w6)
theorem B33_eq : @B33 = fun (x_0 : Slc) (w : World) (R : Value → World → Prop) => trF Tryd.prog G (lk [(4, [(4, .slc), (5, .int .i64), (6, .int .i64)])]) Tryd.f33 [.slice x_0.a x_0.len x_0.cap] w R := by kernel_rfl
theorem c33 (x_0 : Slc) (w : World) (R : Value → World → Prop) (h : B33 x_0 w R) : Calls Tryd.prog 33 #[.slice x_0.a x_0.len x_0.cap] w (Rv R) := calls_of_tr (L := lk [(4, [(4, .slc), (5, .int .i64), (6, .int .i64)])]) Tryd.func33 hG hM (by rw [B33_eq] at h; exact h)

/-- locution/locutionlaw09.live -/
def B32  (w : World) (R : Value → World → Prop) : Prop :=
  Calls Tryd.prog 34 #[.slice (some ⟨w.heap.size, 0, none⟩) 3 3] (w.alloc (.cells #[.int .i64 2, .int .i64 0, .int .i64 3] 3)) (Rv fun v1 w2 =>
    ∃ p3 : Option Addr, ∃ n4 : Int, v1 = .tuple #[.pointer p3, .int .i64 n4] ∧ Calls Tryd.prog 72 #[.pointer p3] w2 (Rv fun v5 w6 => ∃ n7 : Int, v5 = .int .i64 n7 ∧
    br (decide (n7 = (5 : Int))) (Calls Tryd.prog 103 #[.pointer p3, .int .i64 1, .int .i64 3] w6 (Rv fun v8 w9 => ∃ n10 : Int, v8 = .int .i64 n10 ∧
    br (decide (n10 = (3 : Int))) (Calls Tryd.prog 104 #[.pointer p3, .int .i64 1] w9 (Rv fun v11 w12 => ∃ n13 : Int, v11 = .int .i64 n13 ∧
    br (decide (n13 = (0 : Int))) (Calls Tryd.prog 104 #[.pointer p3, .int .i64 2] w12 (Rv fun v14 w15 => ∃ n16 : Int, v14 = .int .i64 n16 ∧
    br (decide (n16 = (2 : Int))) (Calls Tryd.prog 104 #[.pointer p3, .int .i64 5] w15 (Rv fun v17 w18 => ∃ n19 : Int, v17 = .int .i64 n19 ∧
    R (.bool (decide (n19 = (-1)))) w18)) (R (.bool false) w15))) (R (.bool false) w12))) (R (.bool false) w9))) (R (.bool false) w6)))
theorem B32_eq : @B32 = fun (w : World) (R : Value → World → Prop) => trF Tryd.prog G (lk []) Tryd.f32 [] w R := by kernel_rfl
theorem c32  (w : World) (R : Value → World → Prop) (h : B32  w R) : Calls Tryd.prog 32 #[] w (Rv R) := calls_of_tr (L := lk []) Tryd.func32 hG hM (by rw [B32_eq] at h; exact h)

/-- (*locution/prefix.Seq).Len -/
def B71n  (w : World) (R : Value → World → Prop) : Prop :=
  R (.int .i64 0) w
theorem B71n_eq : @B71n = fun (w : World) (R : Value → World → Prop) => trF Tryd.prog G (lk []) Tryd.f71 [.pointer none] w R := by kernel_rfl
theorem c71n  (w : World) (R : Value → World → Prop) (h : B71n  w R) : Calls Tryd.prog 71 #[.pointer none] w (Rv R) := calls_of_tr (L := lk []) Tryd.func71 hG hM (by rw [B71n_eq] at h; exact h)

/-- (*locution/prefix.Seq).At -/
def B73n (x_1 : Int) (w : World) (R : Value → World → Prop) : Prop :=
  br (decide (x_1 < (0 : Int))) (R (.int .i64 (-1)) w) (Calls Tryd.prog 71 #[.pointer none] w (Rv fun v1 w2 => ∃ n3 : Int, v1 = .int .i64 n3 ∧
    br (decide (n3 ≤ x_1)) (R (.int .i64 (-1)) w2) (False)))
theorem B73n_eq : @B73n = fun (x_1 : Int) (w : World) (R : Value → World → Prop) => trF Tryd.prog G (lk []) Tryd.f73 [.pointer none, .int .i64 x_1] w R := by kernel_rfl
theorem c73n (x_1 : Int) (w : World) (R : Value → World → Prop) (h : B73n x_1 w R) : Calls Tryd.prog 73 #[.pointer none, .int .i64 x_1] w (Rv R) := calls_of_tr (L := lk []) Tryd.func73 hG hM (by rw [B73n_eq] at h; exact h)

/-- (*locution/prefix.Seq).Total -/
def B72n  (w : World) (R : Value → World → Prop) : Prop :=
  R (.int .i64 0) w
theorem B72n_eq : @B72n = fun (w : World) (R : Value → World → Prop) => trF Tryd.prog G (lk []) Tryd.f72 [.pointer none] w R := by kernel_rfl
theorem c72n  (w : World) (R : Value → World → Prop) (h : B72n  w R) : Calls Tryd.prog 72 #[.pointer none] w (Rv R) := calls_of_tr (L := lk []) Tryd.func72 hG hM (by rw [B72n_eq] at h; exact h)

/-- (*locution/prefix.Seq).Sum -/
def B103n (x_1 : Int) (x_2 : Int) (w : World) (R : Value → World → Prop) : Prop :=
  Calls Tryd.prog 71 #[.pointer none] w (Rv fun v1 w2 => ∃ n3 : Int, v1 = .int .i64 n3 ∧ br (decide ((min x_2 n3) ≤ (max x_1 (0 : Int)))) (R (.int .i64 0) w2) (False))
theorem B103n_eq : @B103n = fun (x_1 : Int) (x_2 : Int) (w : World) (R : Value → World → Prop) => trF Tryd.prog G (lk []) Tryd.f103 [.pointer none, .int .i64 x_1, .int .i64 x_2] w R := by kernel_rfl
theorem c103n (x_1 : Int) (x_2 : Int) (w : World) (R : Value → World → Prop) (h : B103n x_1 x_2 w R) : Calls Tryd.prog 103 #[.pointer none, .int .i64 x_1, .int .i64 x_2] w (Rv R) := calls_of_tr (L := lk []) Tryd.func103 hG hM (by rw [B103n_eq] at h; exact h)

/-- (*locution/prefix.Seq).Where -/
def B104n (x_1 : Int) (w : World) (R : Value → World → Prop) : Prop :=
  br (decide (x_1 < (0 : Int))) (R (.int .i64 (-1)) w) (Calls Tryd.prog 72 #[.pointer none] w (Rv fun v1 w2 => ∃ n3 : Int, v1 = .int .i64 n3 ∧
    br (decide (n3 ≤ x_1)) (R (.int .i64 (-1)) w2) (False)))
theorem B104n_eq : @B104n = fun (x_1 : Int) (w : World) (R : Value → World → Prop) => trF Tryd.prog G (lk []) Tryd.f104 [.pointer none, .int .i64 x_1] w R := by kernel_rfl
theorem c104n (x_1 : Int) (w : World) (R : Value → World → Prop) (h : B104n x_1 w R) : Calls Tryd.prog 104 #[.pointer none, .int .i64 x_1] w (Rv R) := calls_of_tr (L := lk []) Tryd.func104 hG hM (by rw [B104n_eq] at h; exact h)

end Go.Proofs.YtomajpihimlcjaaDoor.V
