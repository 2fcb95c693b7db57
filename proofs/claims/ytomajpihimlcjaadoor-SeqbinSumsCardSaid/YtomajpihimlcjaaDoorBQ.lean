/- The verification conditions of functions, printed by a program of this work (pr.py) and checked here by the kernel. -/
import Derived.Test.YtomajpihimlcjaaDoorVb
import Derived.Test.YtomajpihimlcjaaDoorBW
set_option maxRecDepth 100000
set_option linter.unusedVariables false
namespace Go.Proofs.YtomajpihimlcjaaDoor.V
open Go Go.VC

/-- locution/seqbin.PutSeq -/
def B37 (a_0 : Addr) (a_1 : Addr) (w : World) (R : Value → World → Prop) : Prop :=
  Calls Tryd.prog 43 #[.pointer (some a_1)] w (Rv fun v1 w2 => ∃ n3 : Int, v1 = .int .i64 n3 ∧
    Calls Tryd.prog 108 #[.pointer (some a_0), .int .u64 (IntKind.u64.wrap n3)] w2 (Rv fun v4 w5 => v4 = .tuple #[] ∧
    Calls Tryd.prog 43 #[.pointer (some a_1)] w5 (Rv fun v6 w7 => ∃ n8 : Int, v6 = .int .i64 n8 ∧
    br (decide ((0 : Int) < n8)) (Calls Tryd.prog 107 #[.pointer (some a_1)] w7 (Rv fun v9 w10 => ∃ n11 : Int, v9 = .int .i64 n11 ∧
    Calls Tryd.prog 108 #[.pointer (some a_0), .int .u64 (IntKind.u64.wrap n11)] w10 (Rv fun v12 w13 => v12 = .tuple #[] ∧
    Calls Tryd.prog 109 #[.pointer (some a_1)] w13 (Rv fun v14 w15 => ∃ p16 : Option Addr, v14 = .pointer p16 ∧
    Calls Tryd.prog 49 #[.pointer (some a_0), .pointer p16] w15 (Rv fun v17 w18 => v17 = .tuple #[] ∧ R (.tuple #[]) w18))))) (R (.tuple #[]) w7))))
theorem B37_eq : @B37 = fun (a_0 : Addr) (a_1 : Addr) (w : World) (R : Value → World → Prop) => trF Tryd.prog G (lk []) Tryd.f37 [.pointer (some a_0), .pointer (some a_1)] w R := by kernel_rfl
theorem c37 (a_0 : Addr) (a_1 : Addr) (w : World) (R : Value → World → Prop) (h : B37 a_0 a_1 w R) : Calls Tryd.prog 37 #[.pointer (some a_0), .pointer (some a_1)] w (Rv R) := calls_of_tr (L := lk []) Tryd.func37 hG hM (by rw [B37_eq] at h; exact h)

/-- locution/seqbin.GetSeq -/
def B41 (a_0 : Addr) (w : World) (R : Value → World → Prop) : Prop :=
  Calls Tryd.prog 112 #[.pointer (some a_0), .int .i64 1048576] w (Rv fun v1 w2 => ∃ n3 : Int, v1 = .int .i64 n3 ∧
    Calls Tryd.prog 47 #[.pointer (some a_0)] w2 (Rv fun v4 w5 => ∃ n6 : Int, v4 = .int .i64 n6 ∧
    br (!(decide (n6 = (0 : Int)))) (R (.pointer none) w5) (br (decide (n3 = (0 : Int))) (Calls Tryd.prog 29 #[.slice none 0 0] w5 (Rv fun v7 w8 =>
    ∃ p9 : Option Addr, ∃ n10 : Int, v7 = .tuple #[.pointer p9, .int .i64 n10] ∧
    R (.pointer p9) w8)) (Calls Tryd.prog 112 #[.pointer (some a_0), .int .i64 1099511627776] w5 (Rv fun v11 w12 => ∃ n13 : Int, v11 = .int .i64 n13 ∧
    Calls Tryd.prog 99 #[.int .i64 n3, .int .i64 n13] w12 (Rv fun v14 w15 => ∃ n16 : Int, v14 = .int .i64 n16 ∧ 0 ≤ (IntKind.u64.wrap n16) ∧
    Calls Tryd.prog 50 #[.pointer (some a_0), .int .i64 (IntKind.i64.wrap ((IntKind.i64.wrap ((IntKind.i64.wrap (n3 * n16)) + n3)) + (shR .i64 n13 (IntKind.u64.wrap n16))))] w15 (Rv fun v17 w18 =>
    ∃ p19 : Option Addr, v17 = .pointer p19 ∧ Calls Tryd.prog 47 #[.pointer (some a_0)] w18 (Rv fun v20 w21 => ∃ n22 : Int, v20 = .int .i64 n22 ∧
    br (!(decide (n22 = (0 : Int)))) (R (.pointer none) w21) (Calls Tryd.prog 113 #[.pointer p19, .int .i64 n3, .int .i64 n16] w21 (Rv fun v23 w24 =>
    ∃ l25 : Slc, ∃ b26 : Bool, v23 = .tuple #[.slice l25.a l25.len l25.cap, .bool b26] ∧ br b26 (0 ≤ (IntKind.i64.wrap (n3 - 1)) ∧
    (IntKind.i64.wrap (n3 - 1)) < (l25.len : Int) ∧ ∃ a27, l25.a = some a27 ∧
    ∃ n28 : Int, w24.cell? (Addr.add a27 ((IntKind.i64.wrap (n3 - 1)).toNat * 1)) = some (.int .i64 n28) ∧
    br (decide (n28 = n13)) (Calls Tryd.prog 29 #[.slice l25.a l25.len l25.cap] w24 (Rv fun v29 w30 =>
    ∃ p31 : Option Addr, ∃ n32 : Int, v29 = .tuple #[.pointer p31, .int .i64 n32] ∧
    br (decide (n32 = (0 : Int))) (R (.pointer p31) w30) (Calls Tryd.prog 114 #[.pointer (some a_0), .int .i64 3] w30 (Rv fun v33 w34 => v33 = .tuple #[] ∧
    R (.pointer none) w34)))) (Calls Tryd.prog 114 #[.pointer (some a_0), .int .i64 3] w24 (Rv fun v35 w36 => v35 = .tuple #[] ∧
    R (.pointer none) w36))) (Calls Tryd.prog 114 #[.pointer (some a_0), .int .i64 3] w24 (Rv fun v37 w38 => v37 = .tuple #[] ∧ R (.pointer none) w38))))))))))))
theorem B41_eq : @B41 = fun (a_0 : Addr) (w : World) (R : Value → World → Prop) => trF Tryd.prog G (lk []) Tryd.f41 [.pointer (some a_0)] w R := by kernel_rfl
theorem c41 (a_0 : Addr) (w : World) (R : Value → World → Prop) (h : B41 a_0 w R) : Calls Tryd.prog 41 #[.pointer (some a_0)] w (Rv R) := calls_of_tr (L := lk []) Tryd.func41 hG hM (by rw [B41_eq] at h; exact h)

/-- locution/seqbin.PutRow -/
def B49 (a_0 : Addr) (a_1 : Addr) (w : World) (R : Value → World → Prop) : Prop :=
  Calls Tryd.prog 54 #[.pointer (some a_1)] w (Rv fun v1 w2 => ∃ n3 : Int, v1 = .int .i64 n3 ∧ (8 : Int) ≠ 0 ∧
    ∃ w4 : World, ∃ l5 : Slc, (Instr.makeSlice 60 (.int .i64 0) (.int .i64 (IntKind.i64.wrap ((IntKind.i64.wrap (Int.tdiv n3 8)) + 1)))).run Tryd.prog w2 = .ok (.slice l5.a l5.len l5.cap) w4 ∧
    Calls Tryd.prog 54 #[.pointer (some a_1)] w4 (Rv fun v6 w7 => ∃ n8 : Int, v6 = .int .i64 n8 ∧ ∃ (I9 : Slc → Int → World → Prop) (μ10 : Slc → Int → World →
    Nat), I9 l5 (0 : Int) w7 ∧ ∀ x11 : Slc, ∀ x12 : Int, ∀ w13 : World, I9 x11 x12 w13 → br (decide (x12 < n8)) ((8 : Int) ≠ 0 ∧
    br (decide ((Int.tmod x12 8) = (0 : Int))) (Calls Tryd.prog 118 #[.pointer (some a_1), .int .i64 x12, .int .i64 8] w13 (Rv fun v14 w15 =>
    ∃ n16 : Int, v14 = .int .u64 n16 ∧
    ∃ w17 : World, ∃ l18 : Slc, (Builtin.append_ #[60, 60] 60 #[.slice x11.a x11.len x11.cap, .slice (some ⟨w15.heap.size, 0, none⟩) 1 1]).run Tryd.prog (w15.alloc (.cells #[.int .u8 (IntKind.u8.wrap n16)] 5)) = .ok (.slice l18.a l18.len l18.cap) w17 ∧
    I9 l18 (IntKind.i64.wrap (x12 + 1)) w17 ∧ μ10 l18 (IntKind.i64.wrap (x12 + 1)) w17 < μ10 x11 x12 w13)) (I9 x11 (IntKind.i64.wrap (x12 + 1)) w13 ∧
    μ10 x11 (IntKind.i64.wrap (x12 + 1)) w13 < μ10 x11 x12 w13)) (∃ w19 : World, ∃ s20 : ByteArray, (convert 60 9 (.slice x11.a x11.len x11.cap)).run Tryd.prog w13 = .ok (.string s20) w19 ∧
    Calls Tryd.prog 119 #[.pointer (some a_0), .string s20] w19 (Rv fun v21 w22 => v21 = .tuple #[] ∧ R (.tuple #[]) w22))))
theorem B49_eq : @B49 = fun (a_0 : Addr) (a_1 : Addr) (w : World) (R : Value → World → Prop) => trF Tryd.prog G (lk [(2, [(4, .slc), (13, .int .i64)])]) Tryd.f49 [.pointer (some a_0), .pointer (some a_1)] w R := by kernel_rfl
theorem c49 (a_0 : Addr) (a_1 : Addr) (w : World) (R : Value → World → Prop) (h : B49 a_0 a_1 w R) : Calls Tryd.prog 49 #[.pointer (some a_0), .pointer (some a_1)] w (Rv R) := calls_of_tr (L := lk [(2, [(4, .slc), (13, .int .i64)])]) Tryd.func49 hG hM (by rw [B49_eq] at h; exact h)

/-- locution/seqbin.GetRow -/
def B50 (a_0 : Addr) (x_1 : Int) (w : World) (R : Value → World → Prop) : Prop :=
  (8 : Int) ≠ 0 ∧ (8 : Int) ≠ 0 ∧
    Calls Tryd.prog 120 #[.pointer (some a_0), .int .i64 (IntKind.i64.wrap ((IntKind.i64.wrap (Int.tdiv (max x_1 (0 : Int)) 8)) + (min (Int.tmod (max x_1 (0 : Int)) 8) (1 : Int))))] w (Rv fun v1 w2 =>
    ∃ s3 : ByteArray, v1 = .string s3 ∧ Calls Tryd.prog 47 #[.pointer (some a_0)] w2 (Rv fun v4 w5 => ∃ n6 : Int, v4 = .int .i64 n6 ∧
    br (!(decide (n6 = (0 : Int)))) (R (.pointer none) w5) (Calls Tryd.prog 82 #[] w5 (Rv fun v7 w8 => ∃ p9 : Option Addr, v7 = .pointer p9 ∧ ∃ (I10 : Int → World →
    Prop) (μ11 : Int → World → Nat), I10 (0 : Int) w8 ∧ ∀ x12 : Int, ∀ w13 : World, I10 x12 w13 → br (decide (x12 < (s3.size : Int))) (∃ c14 : UInt8, 0 ≤ x12 ∧
    s3[x12.toNat]? = some c14 ∧
    Calls Tryd.prog 22 #[.pointer p9, .int .u64 (IntKind.u64.wrap (UInt8.toNat c14 : Int)), .int .i64 (min (8 : Int) (IntKind.i64.wrap ((max x_1 (0 : Int)) - (IntKind.i64.wrap (8 * x12)))))] w13 (Rv fun v15 w16 =>
    ∃ n17 : Int, v15 = .int .i64 n17 ∧ br (!(decide (n17 = (0 : Int)))) (Calls Tryd.prog 114 #[.pointer (some a_0), .int .i64 3] w16 (Rv fun v18 w19 => v18 = .tuple #[] ∧
    R (.pointer none) w19)) (I10 (IntKind.i64.wrap (x12 + 1)) w16 ∧ μ11 (IntKind.i64.wrap (x12 + 1)) w16 < μ11 x12 w13))) (R (.pointer p9) w13)))))
theorem B50_eq : @B50 = fun (a_0 : Addr) (x_1 : Int) (w : World) (R : Value → World → Prop) => trF Tryd.prog G (lk [(7, [(24, .int .i64)])]) Tryd.f50 [.pointer (some a_0), .int .i64 x_1] w R := by kernel_rfl
theorem c50 (a_0 : Addr) (x_1 : Int) (w : World) (R : Value → World → Prop) (h : B50 a_0 x_1 w R) : Calls Tryd.prog 50 #[.pointer (some a_0), .int .i64 x_1] w (Rv R) := calls_of_tr (L := lk [(7, [(24, .int .i64)])]) Tryd.func50 hG hM (by rw [B50_eq] at h; exact h)

/-- locution/seqbin.PutPack -/
def B58 (a_0 : Addr) (a_1 : Addr) (w : World) (R : Value → World → Prop) : Prop :=
  Calls Tryd.prog 64 #[.pointer (some a_1)] w (Rv fun v1 w2 => ∃ n3 : Int, v1 = .int .i64 n3 ∧
    Calls Tryd.prog 108 #[.pointer (some a_0), .int .u64 (IntKind.u64.wrap n3)] w2 (Rv fun v4 w5 => v4 = .tuple #[] ∧
    Calls Tryd.prog 63 #[.pointer (some a_1)] w5 (Rv fun v6 w7 => ∃ n8 : Int, v6 = .int .i64 n8 ∧
    Calls Tryd.prog 108 #[.pointer (some a_0), .int .u64 (IntKind.u64.wrap n8)] w7 (Rv fun v9 w10 => v9 = .tuple #[] ∧
    Calls Tryd.prog 65 #[.pointer (some a_1)] w10 (Rv fun v11 w12 => ∃ l13 : Slc, v11 = .slice l13.a l13.len l13.cap ∧
    Calls Tryd.prog 64 #[.pointer (some a_1)] w12 (Rv fun v14 w15 => ∃ n16 : Int, v14 = .int .i64 n16 ∧ Calls Tryd.prog 63 #[.pointer (some a_1)] w15 (Rv fun v17 w18 =>
    ∃ n19 : Int, v17 = .int .i64 n19 ∧ Calls Tryd.prog 125 #[.slice l13.a l13.len l13.cap, .int .i64 (IntKind.i64.wrap (n16 * n19))] w18 (Rv fun v20 w21 =>
    ∃ p22 : Option Addr, ∃ n23 : Int, v20 = .tuple #[.pointer p22, .int .i64 n23] ∧ Calls Tryd.prog 49 #[.pointer (some a_0), .pointer p22] w21 (Rv fun v24 w25 =>
    v24 = .tuple #[] ∧ R (.tuple #[]) w25)))))))))
theorem B58_eq : @B58 = fun (a_0 : Addr) (a_1 : Addr) (w : World) (R : Value → World → Prop) => trF Tryd.prog G (lk []) Tryd.f58 [.pointer (some a_0), .pointer (some a_1)] w R := by kernel_rfl
theorem c58 (a_0 : Addr) (a_1 : Addr) (w : World) (R : Value → World → Prop) (h : B58 a_0 a_1 w R) : Calls Tryd.prog 58 #[.pointer (some a_0), .pointer (some a_1)] w (Rv R) := calls_of_tr (L := lk []) Tryd.func58 hG hM (by rw [B58_eq] at h; exact h)

/-- locution/seqbin.GetPack -/
def B62 (a_0 : Addr) (w : World) (R : Value → World → Prop) : Prop :=
  Calls Tryd.prog 112 #[.pointer (some a_0), .int .i64 64] w (Rv fun v1 w2 => ∃ n3 : Int, v1 = .int .i64 n3 ∧
    Calls Tryd.prog 112 #[.pointer (some a_0), .int .i64 1048576] w2 (Rv fun v4 w5 => ∃ n6 : Int, v4 = .int .i64 n6 ∧
    Calls Tryd.prog 50 #[.pointer (some a_0), .int .i64 (IntKind.i64.wrap (n3 * n6))] w5 (Rv fun v7 w8 => ∃ p9 : Option Addr, v7 = .pointer p9 ∧
    Calls Tryd.prog 47 #[.pointer (some a_0)] w8 (Rv fun v10 w11 => ∃ n12 : Int, v10 = .int .i64 n12 ∧
    br (!(decide (n12 = (0 : Int)))) (R (.pointer none) w11) (Calls Tryd.prog 56 #[.pointer p9] w11 (Rv fun v13 w14 => ∃ l15 : Slc, v13 = .slice l15.a l15.len l15.cap ∧
    Calls Tryd.prog 129 #[.int .i64 n3, .int .i64 n6, .slice l15.a l15.len l15.cap] w14 (Rv fun v16 w17 =>
    ∃ p18 : Option Addr, ∃ n19 : Int, v16 = .tuple #[.pointer p18, .int .i64 n19] ∧ R (.pointer p18) w17)))))))
theorem B62_eq : @B62 = fun (a_0 : Addr) (w : World) (R : Value → World → Prop) => trF Tryd.prog G (lk []) Tryd.f62 [.pointer (some a_0)] w R := by kernel_rfl
theorem c62 (a_0 : Addr) (w : World) (R : Value → World → Prop) (h : B62 a_0 w R) : Calls Tryd.prog 62 #[.pointer (some a_0)] w (Rv R) := calls_of_tr (L := lk []) Tryd.func62 hG hM (by rw [B62_eq] at h; exact h)

/-- locution/seqbin.GetSums -/
def B69 (a_0 : Addr) (w : World) (R : Value → World → Prop) : Prop :=
  Calls Tryd.prog 41 #[.pointer (some a_0)] w (Rv fun v1 w2 => ∃ p3 : Option Addr, v1 = .pointer p3 ∧
    (∃ u, (w2.alloc (.cells #[.pointer none] 48)).cell? ⟨w2.heap.size, 0, none⟩ = some u) ∧
    (w2.alloc (.cells #[.pointer none] 48)).frozen? ⟨w2.heap.size, 0, none⟩ = false ∧
    Calls Tryd.prog 47 #[.pointer (some a_0)] ((w2.alloc (.cells #[.pointer none] 48)).setCell ⟨w2.heap.size, 0, none⟩ (.pointer p3)) (Rv fun v4 w5 =>
    ∃ n6 : Int, v4 = .int .i64 n6 ∧ br (!(decide (n6 = (0 : Int)))) (([] : List Nat).Nodup ∧ (∀ D, D ∈ ([] : List Nat) → w5.heap[D]? = some (.deferred (some []))) ∧
    ∀ w7 : World, Kp (fun k => k ∈ ([] : List Nat)) w5 w7 → R (.pointer none) w7) (∃ p8 : Option Addr, w5.cell? ⟨w2.heap.size, 0, none⟩ = some (.pointer p8) ∧
    Calls Tryd.prog 42 #[.pointer p8, .int .i64 0] w5 (Rv fun v9 w10 => ∃ n11 : Int, v9 = .int .i64 n11 ∧
    br (!(decide (n11 = (0 : Int)))) (Calls Tryd.prog 114 #[.pointer (some a_0), .int .i64 3] w10 (Rv fun v12 w13 => v12 = .tuple #[] ∧ ([] : List Nat).Nodup ∧
    (∀ D, D ∈ ([] : List Nat) → w13.heap[D]? = some (.deferred (some []))) ∧ ∀ w14 : World, Kp (fun k => k ∈ ([] : List Nat)) w13 w14 →
    R (.pointer none) w14)) (∃ p15 : Option Addr, (w10.alloc (.cells #[.slice none 0 0] 37)).cell? ⟨w2.heap.size, 0, none⟩ = some (.pointer p15) ∧
    Calls Tryd.prog 30 #[.pointer p15] (w10.alloc (.cells #[.slice none 0 0] 37)) (Rv fun v16 w17 => ∃ v18 : Value, v16 = v18 ∧
    ∃ (g19 : Nat) (A20 C21 : Array Value), v18 = .func (.func g19) A20 C21 ∧ G g19 = true ∧ ∃ n22 : Nat, ∃ f30 : Nat → Int, ∃ f31 : Nat → Int, ∃ (D23 : Nat →
    Prop) (J24 : Nat → (Nat → Prop) → World → Prop) (X25 : Option Nat → (Nat → Prop) → World → Prop), Iter Tryd.prog g19 A20.toList C21.toList w17 n22 (fun j =>
    [.int .i64 (f30 j), .int .i64 (f31 j)]) D23 ∧ (∀ k, D23 k → k < w17.heap.size) ∧ (∀ j, Stab (J24 j)) ∧ (∀ o, Stab (X25 o)) ∧ J24 0 (fun _ => False) w17 ∧
    (∀ (j26 : Nat) (T27 : Nat → Prop) (w28 : World), j26 < n22 → J24 j26 T27 w28 → (∀ k, T27 k → w17.heap.size ≤ k) → T27 w17.heap.size → T27 (w17.heap.size + 1) →
    (∀ k, T27 k → k < w28.heap.size) → Kp (fun k => ¬ T27 k ∧ ¬ D23 k) w28 w28 ∧ ∀ w29 : World, Kp (fun k => k = w17.heap.size + 1) w28 w29 →
    br (decide ((0 : Int) < (f30 j26))) (∃ l32 : Slc, (World.drew w29).cell? ⟨w10.heap.size, 0, none⟩ = some (.slice l32.a l32.len l32.cap) ∧
    ∃ p33 : Option Addr, (World.drew w29).cell? ⟨w2.heap.size, 0, none⟩ = some (.pointer p33) ∧
    Calls Tryd.prog 42 #[.pointer p33, .int .i64 (IntKind.i64.wrap ((f30 j26) - 1))] (World.drew w29) (Rv fun v34 w35 => ∃ n36 : Int, v34 = .int .i64 n36 ∧
    w35.cell? ⟨w10.heap.size, 0, none⟩ = some (.slice l32.a l32.len l32.cap) ∧
    (w35.alloc (.cells #[.int .i64 (IntKind.i64.wrap ((f31 j26) - n36))] 3)).cell? ⟨w10.heap.size, 0, none⟩ = some (.slice l32.a l32.len l32.cap) ∧
    ∃ w37 : World, ∃ l38 : Slc, (Builtin.append_ #[37, 37] 37 #[.slice l32.a l32.len l32.cap, .slice (some ⟨w35.heap.size, 0, none⟩) 1 1]).run Tryd.prog (w35.alloc (.cells #[.int .i64 (IntKind.i64.wrap ((f31 j26) - n36))] 3)) = .ok (.slice l38.a l38.len l38.cap) w37 ∧
    (∃ u, w37.cell? ⟨w10.heap.size, 0, none⟩ = some u) ∧ w37.frozen? ⟨w10.heap.size, 0, none⟩ = false ∧ Kp (fun k => ¬ T27 k ∧
    ¬ D23 k) w29 (w37.setCell ⟨w10.heap.size, 0, none⟩ (.slice l38.a l38.len l38.cap)) ∧
    J24 (j26 + 1) T27 (w37.setCell ⟨w10.heap.size, 0, none⟩ (.slice l38.a l38.len l38.cap)))) (Kp (fun k => ¬ T27 k ∧ ¬ D23 k) w29 w29 ∧ J24 (j26 + 1) T27 w29)) ∧
    (∀ (T39 : Nat → Prop) (w40 : World), J24 n22 T39 w40 → ((∀ k, T39 k → w17.heap.size ≤ k ∧ k < w40.heap.size) ∧ T39 w17.heap.size) →
    w40.heap[w17.heap.size]? = some (.deferred (some [])) → ∃ l41 : Slc, w40.cell? ⟨w10.heap.size, 0, none⟩ = some (.slice l41.a l41.len l41.cap) ∧
    Calls Tryd.prog 34 #[.slice l41.a l41.len l41.cap] w40 (Rv fun v42 w43 => ∃ p44 : Option Addr, ∃ n45 : Int, v42 = .tuple #[.pointer p44, .int .i64 n45] ∧
    (w17.heap.size :: ([] : List Nat)).Nodup ∧ (∀ D, D ∈ (w17.heap.size :: ([] : List Nat)) → w43.heap[D]? = some (.deferred (some []))) ∧
    ∀ w46 : World, Kp (fun k => k ∈ (w17.heap.size :: ([] : List Nat))) w43 w46 → R (.pointer p44) w46)) ∧ (∀ (T47 : Nat → Prop) (w48 : World), X25 none T47 w48 →
    ((∀ k, T47 k → w17.heap.size ≤ k ∧ k < w48.heap.size) ∧ T47 w17.heap.size) → w48.heap[w17.heap.size]? = some (.deferred (some [])) →
    (w17.heap.size :: ([] : List Nat)).Nodup ∧ (∀ D, D ∈ (w17.heap.size :: ([] : List Nat)) → w48.heap[D]? = some (.deferred (some []))) ∧
    ∀ w49 : World, Kp (fun k => k ∈ (w17.heap.size :: ([] : List Nat))) w48 w49 → R (.pointer none) w49) ∧ True))))))
theorem B69_eq : @B69 = fun (a_0 : Addr) (w : World) (R : Value → World → Prop) => trFT Tryd.prog G (lk [(1000011, [(21, .int .i64), (22, .int .i64)])]) Tryd.f69 [.pointer (some a_0)] w R := by kernel_rfl
theorem c69 (a_0 : Addr) (w : World) (R : Value → World → Prop) (h : B69 a_0 w R) : Calls Tryd.prog 69 #[.pointer (some a_0)] w (Rv R) := calls_of_trT (L := lk [(1000011, [(21, .int .i64), (22, .int .i64)])]) Tryd.func69 hG hM (by rw [B69_eq] at h; exact h)

/-- locution/seqbin.PutSums -/
def B70 (a_0 : Addr) (a_1 : Addr) (w : World) (R : Value → World → Prop) : Prop :=
  (∃ u, ((w.alloc (.cells #[.int .i64 0] 3)).alloc (.cells #[.slice none 0 0] 37)).cell? ⟨(w.alloc (.cells #[.int .i64 0] 3)).heap.size, 0, none⟩ = some u) ∧
    ((w.alloc (.cells #[.int .i64 0] 3)).alloc (.cells #[.slice none 0 0] 37)).frozen? ⟨(w.alloc (.cells #[.int .i64 0] 3)).heap.size, 0, none⟩ = false ∧
    Calls Tryd.prog 35 #[.pointer (some a_1)] (((w.alloc (.cells #[.int .i64 0] 3)).alloc (.cells #[.slice none 0 0] 37)).setCell ⟨(w.alloc (.cells #[.int .i64 0] 3)).heap.size, 0, none⟩ (.slice (some ⟨w.heap.size, 0, none⟩) 1 1)) (Rv fun v1 w2 =>
    ∃ v3 : Value, v1 = v3 ∧ ∃ (g4 : Nat) (A5 C6 : Array Value), v3 = .func (.func g4) A5 C6 ∧ G g4 = true ∧ ∃ n7 : Nat, ∃ f15 : Nat → Int, ∃ f16 : Nat →
    Int, ∃ (D8 : Nat → Prop) (J9 : Nat → (Nat → Prop) → World → Prop) (X10 : Option Nat → (Nat → Prop) → World →
    Prop), Iter Tryd.prog g4 A5.toList C6.toList w2 n7 (fun j => [.int .i64 (f15 j), .int .i64 (f16 j)]) D8 ∧ (∀ k, D8 k → k < w2.heap.size) ∧ (∀ j, Stab (J9 j)) ∧
    (∀ o, Stab (X10 o)) ∧ J9 0 (fun _ => False) w2 ∧ (∀ (j11 : Nat) (T12 : Nat → Prop) (w13 : World), j11 < n7 → J9 j11 T12 w13 → (∀ k, T12 k → w2.heap.size ≤ k) →
    T12 w2.heap.size → T12 (w2.heap.size + 1) → (∀ k, T12 k → k < w13.heap.size) → Kp (fun k => ¬ T12 k ∧ ¬ D8 k) w13 w13 ∧ ∀ w14 : World, Kp (fun k =>
    k = w2.heap.size + 1) w13 w14 →
    ∃ l17 : Slc, (World.drew w14).cell? ⟨(w.alloc (.cells #[.int .i64 0] 3)).heap.size, 0, none⟩ = some (.slice l17.a l17.len l17.cap) ∧
    ∃ l18 : Slc, (World.drew w14).cell? ⟨(w.alloc (.cells #[.int .i64 0] 3)).heap.size, 0, none⟩ = some (.slice l18.a l18.len l18.cap) ∧ 0 ≤ (f15 j11) ∧
    (f15 j11) < (l18.len : Int) ∧ ∃ a19, l18.a = some a19 ∧ ∃ n20 : Int, (World.drew w14).cell? (Addr.add a19 ((f15 j11).toNat * 1)) = some (.int .i64 n20) ∧
    ((World.drew w14).alloc (.cells #[.int .i64 (IntKind.i64.wrap (n20 + (f16 j11)))] 3)).cell? ⟨(w.alloc (.cells #[.int .i64 0] 3)).heap.size, 0, none⟩ = some (.slice l17.a l17.len l17.cap) ∧
    ∃ w21 : World, ∃ l22 : Slc, (Builtin.append_ #[37, 37] 37 #[.slice l17.a l17.len l17.cap, .slice (some ⟨(World.drew w14).heap.size, 0, none⟩) 1 1]).run Tryd.prog ((World.drew w14).alloc (.cells #[.int .i64 (IntKind.i64.wrap (n20 + (f16 j11)))] 3)) = .ok (.slice l22.a l22.len l22.cap) w21 ∧
    (∃ u, w21.cell? ⟨(w.alloc (.cells #[.int .i64 0] 3)).heap.size, 0, none⟩ = some u) ∧
    w21.frozen? ⟨(w.alloc (.cells #[.int .i64 0] 3)).heap.size, 0, none⟩ = false ∧ Kp (fun k => ¬ T12 k ∧
    ¬ D8 k) w14 (w21.setCell ⟨(w.alloc (.cells #[.int .i64 0] 3)).heap.size, 0, none⟩ (.slice l22.a l22.len l22.cap)) ∧
    J9 (j11 + 1) T12 (w21.setCell ⟨(w.alloc (.cells #[.int .i64 0] 3)).heap.size, 0, none⟩ (.slice l22.a l22.len l22.cap))) ∧ (∀ (T23 : Nat →
    Prop) (w24 : World), J9 n7 T23 w24 → ((∀ k, T23 k → w2.heap.size ≤ k ∧ k < w24.heap.size) ∧ T23 w2.heap.size) →
    w24.heap[w2.heap.size]? = some (.deferred (some [])) →
    ∃ l25 : Slc, w24.cell? ⟨(w.alloc (.cells #[.int .i64 0] 3)).heap.size, 0, none⟩ = some (.slice l25.a l25.len l25.cap) ∧
    Calls Tryd.prog 29 #[.slice l25.a l25.len l25.cap] w24 (Rv fun v26 w27 => ∃ p28 : Option Addr, ∃ n29 : Int, v26 = .tuple #[.pointer p28, .int .i64 n29] ∧
    Calls Tryd.prog 37 #[.pointer (some a_0), .pointer p28] w27 (Rv fun v30 w31 => v30 = .tuple #[] ∧ (w2.heap.size :: ([] : List Nat)).Nodup ∧
    (∀ D, D ∈ (w2.heap.size :: ([] : List Nat)) → w31.heap[D]? = some (.deferred (some []))) ∧ ∀ w32 : World, Kp (fun k =>
    k ∈ (w2.heap.size :: ([] : List Nat))) w31 w32 → R (.tuple #[]) w32))) ∧ (∀ (T33 : Nat → Prop) (w34 : World), X10 none T33 w34 → ((∀ k, T33 k →
    w2.heap.size ≤ k ∧ k < w34.heap.size) ∧ T33 w2.heap.size) → w34.heap[w2.heap.size]? = some (.deferred (some [])) → (w2.heap.size :: ([] : List Nat)).Nodup ∧
    (∀ D, D ∈ (w2.heap.size :: ([] : List Nat)) → w34.heap[D]? = some (.deferred (some []))) ∧ ∀ w35 : World, Kp (fun k =>
    k ∈ (w2.heap.size :: ([] : List Nat))) w34 w35 → R (.tuple #[]) w35) ∧ True)
theorem B70_eq : @B70 = fun (a_0 : Addr) (a_1 : Addr) (w : World) (R : Value → World → Prop) => trFT Tryd.prog G (lk [(1000004, [(12, .int .i64), (13, .int .i64)])]) Tryd.f70 [.pointer (some a_0), .pointer (some a_1)] w R := by kernel_rfl
theorem c70 (a_0 : Addr) (a_1 : Addr) (w : World) (R : Value → World → Prop) (h : B70 a_0 a_1 w R) : Calls Tryd.prog 70 #[.pointer (some a_0), .pointer (some a_1)] w (Rv R) := calls_of_trT (L := lk [(1000004, [(12, .int .i64), (13, .int .i64)])]) Tryd.func70 hG hM (by rw [B70_eq] at h; exact h)

/-- locution/seqbin.bits -/
def B109 (a_0 : Addr) (w : World) (R : Value → World → Prop) : Prop :=
  Calls Tryd.prog 82 #[] w (Rv fun v1 w2 => ∃ p3 : Option Addr, v1 = .pointer p3 ∧ Calls Tryd.prog 82 #[] w2 (Rv fun v4 w5 => ∃ p6 : Option Addr, v4 = .pointer p6 ∧
    (∃ u, ((w5.alloc (.cells #[.pointer none] 33)).alloc (.cells #[.pointer none] 33)).cell? ⟨w5.heap.size, 0, none⟩ = some u) ∧
    ((w5.alloc (.cells #[.pointer none] 33)).alloc (.cells #[.pointer none] 33)).frozen? ⟨w5.heap.size, 0, none⟩ = false ∧
    (∃ u, (((w5.alloc (.cells #[.pointer none] 33)).alloc (.cells #[.pointer none] 33)).setCell ⟨w5.heap.size, 0, none⟩ (.pointer p3)).cell? ⟨(w5.alloc (.cells #[.pointer none] 33)).heap.size, 0, none⟩ = some u) ∧
    (((w5.alloc (.cells #[.pointer none] 33)).alloc (.cells #[.pointer none] 33)).setCell ⟨w5.heap.size, 0, none⟩ (.pointer p3)).frozen? ⟨(w5.alloc (.cells #[.pointer none] 33)).heap.size, 0, none⟩ = false ∧
    Calls Tryd.prog 43 #[.pointer (some a_0)] ((((w5.alloc (.cells #[.pointer none] 33)).alloc (.cells #[.pointer none] 33)).setCell ⟨w5.heap.size, 0, none⟩ (.pointer p3)).setCell ⟨(w5.alloc (.cells #[.pointer none] 33)).heap.size, 0, none⟩ (.pointer p6)) (Rv fun v7 w8 =>
    ∃ n9 : Int, v7 = .int .i64 n9 ∧ Calls Tryd.prog 107 #[.pointer (some a_0)] w8 (Rv fun v10 w11 => ∃ n12 : Int, v10 = .int .i64 n12 ∧
    Calls Tryd.prog 99 #[.int .i64 n9, .int .i64 n12] w11 (Rv fun v13 w14 => ∃ n15 : Int, v13 = .int .i64 n15 ∧
    (∃ u, (w14.alloc (.cells #[.int .i64 0] 3)).cell? ⟨w14.heap.size, 0, none⟩ = some u) ∧
    (w14.alloc (.cells #[.int .i64 0] 3)).frozen? ⟨w14.heap.size, 0, none⟩ = false ∧
    (∃ u, (((w14.alloc (.cells #[.int .i64 0] 3)).setCell ⟨w14.heap.size, 0, none⟩ (.int .i64 n15)).alloc (.cells #[.int .i64 0] 3)).cell? ⟨((w14.alloc (.cells #[.int .i64 0] 3)).setCell ⟨w14.heap.size, 0, none⟩ (.int .i64 n15)).heap.size, 0, none⟩ = some u) ∧
    (((w14.alloc (.cells #[.int .i64 0] 3)).setCell ⟨w14.heap.size, 0, none⟩ (.int .i64 n15)).alloc (.cells #[.int .i64 0] 3)).frozen? ⟨((w14.alloc (.cells #[.int .i64 0] 3)).setCell ⟨w14.heap.size, 0, none⟩ (.int .i64 n15)).heap.size, 0, none⟩ = false ∧
    Calls Tryd.prog 30 #[.pointer (some a_0)] ((((w14.alloc (.cells #[.int .i64 0] 3)).setCell ⟨w14.heap.size, 0, none⟩ (.int .i64 n15)).alloc (.cells #[.int .i64 0] 3)).setCell ⟨((w14.alloc (.cells #[.int .i64 0] 3)).setCell ⟨w14.heap.size, 0, none⟩ (.int .i64 n15)).heap.size, 0, none⟩ (.int .i64 0)) (Rv fun v16 w17 =>
    ∃ v18 : Value, v16 = v18 ∧ ∃ (g19 : Nat) (A20 C21 : Array Value), v18 = .func (.func g19) A20 C21 ∧ G g19 = true ∧ ∃ n22 : Nat, ∃ f30 : Nat → Int, ∃ f31 : Nat →
    Int, ∃ (D23 : Nat → Prop) (J24 : Nat → (Nat → Prop) → World → Prop) (X25 : Option Nat → (Nat → Prop) → World →
    Prop), Iter Tryd.prog g19 A20.toList C21.toList w17 n22 (fun j => [.int .i64 (f30 j), .int .i64 (f31 j)]) D23 ∧ (∀ k, D23 k → k < w17.heap.size) ∧
    (∀ j, Stab (J24 j)) ∧ (∀ o, Stab (X25 o)) ∧ J24 0 (fun _ => False) w17 ∧ (∀ (j26 : Nat) (T27 : Nat → Prop) (w28 : World), j26 < n22 → J24 j26 T27 w28 →
    (∀ k, T27 k → w17.heap.size ≤ k) → T27 w17.heap.size → T27 (w17.heap.size + 1) → (∀ k, T27 k → k < w28.heap.size) → Kp (fun k => ¬ T27 k ∧ ¬ D23 k) w28 w28 ∧
    ∀ w29 : World, Kp (fun k => k = w17.heap.size + 1) w28 w29 → ∃ p32 : Option Addr, (World.drew w29).cell? ⟨w5.heap.size, 0, none⟩ = some (.pointer p32) ∧
    ∃ n33 : Int, (World.drew w29).cell? ⟨w14.heap.size, 0, none⟩ = some (.int .i64 n33) ∧
    ∃ n34 : Int, (World.drew w29).cell? ⟨w14.heap.size, 0, none⟩ = some (.int .i64 n34) ∧ Calls Tryd.prog 88 #[.int .i64 n33] (World.drew w29) (Rv fun v35 w36 =>
    ∃ n37 : Int, v35 = .int .u64 n37 ∧ w36.cell? ⟨w14.heap.size, 0, none⟩ = some (.int .i64 n34) ∧ w36.cell? ⟨w5.heap.size, 0, none⟩ = some (.pointer p32) ∧
    Calls Tryd.prog 22 #[.pointer p32, .int .u64 (bAnd .u64 (IntKind.u64.wrap (f31 j26)) n37), .int .i64 n34] w36 (Rv fun v38 w39 => ∃ n40 : Int, v38 = .int .i64 n40 ∧
    ∃ (I41 : World → Prop) (μ42 : World → Nat), I41 w39 ∧ ∀ w43 : World, I41 w43 →
    ∃ n44 : Int, w43.cell? ⟨((w14.alloc (.cells #[.int .i64 0] 3)).setCell ⟨w14.heap.size, 0, none⟩ (.int .i64 n15)).heap.size, 0, none⟩ = some (.int .i64 n44) ∧
    ∃ n45 : Int, w43.cell? ⟨w14.heap.size, 0, none⟩ = some (.int .i64 n45) ∧ 0 ≤ (IntKind.u64.wrap n45) ∧
    br (decide (n44 < (shR .i64 (f31 j26) (IntKind.u64.wrap n45)))) (∃ p46 : Option Addr, w43.cell? ⟨(w5.alloc (.cells #[.pointer none] 33)).heap.size, 0, none⟩ = some (.pointer p46) ∧
    Calls Tryd.prog 22 #[.pointer p46, .int .u64 0, .int .i64 1] w43 (Rv fun v47 w48 => ∃ n49 : Int, v47 = .int .i64 n49 ∧
    ∃ n50 : Int, w48.cell? ⟨((w14.alloc (.cells #[.int .i64 0] 3)).setCell ⟨w14.heap.size, 0, none⟩ (.int .i64 n15)).heap.size, 0, none⟩ = some (.int .i64 n50) ∧
    (∃ u, w48.cell? ⟨((w14.alloc (.cells #[.int .i64 0] 3)).setCell ⟨w14.heap.size, 0, none⟩ (.int .i64 n15)).heap.size, 0, none⟩ = some u) ∧
    w48.frozen? ⟨((w14.alloc (.cells #[.int .i64 0] 3)).setCell ⟨w14.heap.size, 0, none⟩ (.int .i64 n15)).heap.size, 0, none⟩ = false ∧
    I41 (w48.setCell ⟨((w14.alloc (.cells #[.int .i64 0] 3)).setCell ⟨w14.heap.size, 0, none⟩ (.int .i64 n15)).heap.size, 0, none⟩ (.int .i64 (IntKind.i64.wrap (n50 + 1)))) ∧
    μ42 (w48.setCell ⟨((w14.alloc (.cells #[.int .i64 0] 3)).setCell ⟨w14.heap.size, 0, none⟩ (.int .i64 n15)).heap.size, 0, none⟩ (.int .i64 (IntKind.i64.wrap (n50 + 1)))) < μ42 w43)) (∃ p51 : Option Addr, w43.cell? ⟨(w5.alloc (.cells #[.pointer none] 33)).heap.size, 0, none⟩ = some (.pointer p51) ∧
    Calls Tryd.prog 22 #[.pointer p51, .int .u64 1, .int .i64 1] w43 (Rv fun v52 w53 => ∃ n54 : Int, v52 = .int .i64 n54 ∧ Kp (fun k => ¬ T27 k ∧ ¬ D23 k) w29 w53 ∧
    J24 (j26 + 1) T27 w53))))) ∧ (∀ (T55 : Nat → Prop) (w56 : World), J24 n22 T55 w56 → ((∀ k, T55 k → w17.heap.size ≤ k ∧ k < w56.heap.size) ∧ T55 w17.heap.size) →
    w56.heap[w17.heap.size]? = some (.deferred (some [])) →
    ∃ p57 : Option Addr, w56.cell? ⟨(w5.alloc (.cells #[.pointer none] 33)).heap.size, 0, none⟩ = some (.pointer p57) ∧
    Calls Tryd.prog 54 #[.pointer p57] w56 (Rv fun v58 w59 => ∃ n60 : Int, v58 = .int .i64 n60 ∧ ∃ (I61 : Int → World → Prop) (μ62 : Int → World →
    Nat), I61 (0 : Int) w59 ∧ ∀ x63 : Int, ∀ w64 : World, I61 x63 w64 →
    br (decide (x63 < n60)) (∃ p65 : Option Addr, (World.drew w64).cell? ⟨w5.heap.size, 0, none⟩ = some (.pointer p65) ∧
    ∃ p66 : Option Addr, (World.drew w64).cell? ⟨(w5.alloc (.cells #[.pointer none] 33)).heap.size, 0, none⟩ = some (.pointer p66) ∧
    Calls Tryd.prog 118 #[.pointer p66, .int .i64 x63, .int .i64 1] (World.drew w64) (Rv fun v67 w68 => ∃ n69 : Int, v67 = .int .u64 n69 ∧
    w68.cell? ⟨w5.heap.size, 0, none⟩ = some (.pointer p65) ∧ Calls Tryd.prog 22 #[.pointer p65, .int .u64 n69, .int .i64 1] w68 (Rv fun v70 w71 =>
    ∃ n72 : Int, v70 = .int .i64 n72 ∧ I61 (IntKind.i64.wrap (x63 + 1)) w71 ∧
    μ62 (IntKind.i64.wrap (x63 + 1)) w71 < μ62 x63 w64))) (∃ p73 : Option Addr, w64.cell? ⟨w5.heap.size, 0, none⟩ = some (.pointer p73) ∧
    (w17.heap.size :: ([] : List Nat)).Nodup ∧ (∀ D, D ∈ (w17.heap.size :: ([] : List Nat)) → w64.heap[D]? = some (.deferred (some []))) ∧
    ∀ w74 : World, Kp (fun k => k ∈ (w17.heap.size :: ([] : List Nat))) w64 w74 → R (.pointer p73) w74))) ∧ (∀ (T75 : Nat → Prop) (w76 : World), X25 none T75 w76 →
    ((∀ k, T75 k → w17.heap.size ≤ k ∧ k < w76.heap.size) ∧ T75 w17.heap.size) → w76.heap[w17.heap.size]? = some (.deferred (some [])) →
    (w17.heap.size :: ([] : List Nat)).Nodup ∧ (∀ D, D ∈ (w17.heap.size :: ([] : List Nat)) → w76.heap[D]? = some (.deferred (some []))) ∧
    ∀ w77 : World, Kp (fun k => k ∈ (w17.heap.size :: ([] : List Nat))) w76 w77 → R (.pointer none) w77) ∧ True))))))
theorem B109_eq : @B109 = fun (a_0 : Addr) (w : World) (R : Value → World → Prop) => trFT Tryd.prog G (lk [(1000006, [(19, .int .i64), (20, .int .i64)]), (7, []), (12, [(43, .int .i64)])]) Tryd.f109 [.pointer (some a_0)] w R := by kernel_rfl
theorem c109 (a_0 : Addr) (w : World) (R : Value → World → Prop) (h : B109 a_0 w R) : Calls Tryd.prog 109 #[.pointer (some a_0)] w (Rv R) := calls_of_trT (L := lk [(1000006, [(19, .int .i64), (20, .int .i64)]), (7, []), (12, [(43, .int .i64)])]) Tryd.func109 hG hM (by rw [B109_eq] at h; exact h)

/-- locution/seqbin.numbers -/
def B113 (a_0 : Addr) (x_1 : Int) (x_2 : Int) (w : World) (R : Value → World → Prop) : Prop :=
  ∃ w1 : World, ∃ l2 : Slc, (Instr.makeSlice 37 (.int .i64 0) (.int .i64 x_1)).run Tryd.prog w = .ok (.slice l2.a l2.len l2.cap) w1 ∧ ∃ (I3 : Slc → Int → Int → World →
    Prop) (μ4 : Slc → Int → Int → World → Nat), I3 l2 (0 : Int) (IntKind.i64.wrap (x_1 * x_2)) w1 ∧
    ∀ x5 : Slc, ∀ x6 : Int, ∀ x7 : Int, ∀ w8 : World, I3 x5 x6 x7 w8 → Calls Tryd.prog 54 #[.pointer (some a_0)] w8 (Rv fun v9 w10 => ∃ n11 : Int, v9 = .int .i64 n11 ∧
    br (decide (x7 < n11)) (Calls Tryd.prog 142 #[.pointer (some a_0), .int .i64 x7] w10 (Rv fun v12 w13 => ∃ b14 : Bool, v12 = .bool b14 ∧
    br (!b14) (I3 x5 (IntKind.i64.wrap (x6 + 1)) (IntKind.i64.wrap (x7 + 1)) w13 ∧
    μ4 x5 (IntKind.i64.wrap (x6 + 1)) (IntKind.i64.wrap (x7 + 1)) w13 < μ4 x5 x6 x7 w8) (br (decide ((x5.len : Int) = x_1)) (R (.tuple #[.slice none 0 0, .bool false]) w13) (0 ≤ (IntKind.u64.wrap x_2) ∧
    Calls Tryd.prog 118 #[.pointer (some a_0), .int .i64 (IntKind.i64.wrap ((x5.len : Int) * x_2)), .int .i64 x_2] w13 (Rv fun v15 w16 =>
    ∃ n17 : Int, v15 = .int .u64 n17 ∧
    ∃ w18 : World, ∃ l19 : Slc, (Builtin.append_ #[37, 37] 37 #[.slice x5.a x5.len x5.cap, .slice (some ⟨w16.heap.size, 0, none⟩) 1 1]).run Tryd.prog (w16.alloc (.cells #[.int .i64 (bOr .i64 (shL .i64 x6 (IntKind.u64.wrap x_2)) (IntKind.i64.wrap n17))] 3)) = .ok (.slice l19.a l19.len l19.cap) w18 ∧
    I3 l19 x6 (IntKind.i64.wrap (x7 + 1)) w18 ∧
    μ4 l19 x6 (IntKind.i64.wrap (x7 + 1)) w18 < μ4 x5 x6 x7 w8))))) (R (.tuple #[.slice x5.a x5.len x5.cap, .bool (decide ((x5.len : Int) = x_1))]) w10))
theorem B113_eq : @B113 = fun (a_0 : Addr) (x_1 : Int) (x_2 : Int) (w : World) (R : Value → World → Prop) => trF Tryd.prog G (lk [(4, [(8, .slc), (9, .int .i64), (10, .int .i64)])]) Tryd.f113 [.pointer (some a_0), .int .i64 x_1, .int .i64 x_2] w R := by kernel_rfl
theorem c113 (a_0 : Addr) (x_1 : Int) (x_2 : Int) (w : World) (R : Value → World → Prop) (h : B113 a_0 x_1 x_2 w R) : Calls Tryd.prog 113 #[.pointer (some a_0), .int .i64 x_1, .int .i64 x_2] w (Rv R) := calls_of_tr (L := lk [(4, [(8, .slc), (9, .int .i64), (10, .int .i64)])]) Tryd.func113 hG hM (by rw [B113_eq] at h; exact h)

/-- locution/locutionref11.Seq -/
def B39 (x_0 : Slc) (w : World) (R : Value → World → Prop) : Prop :=
  br (decide ((x_0.len : Int) = (0 : Int))) (Calls Tryd.prog 110 #[.int .u64 0] w (Rv fun v1 w2 => ∃ s3 : ByteArray, v1 = .string s3 ∧
    R (.string s3) w2)) (0 ≤ (IntKind.i64.wrap ((x_0.len : Int) - 1)) ∧ (IntKind.i64.wrap ((x_0.len : Int) - 1)) < (x_0.len : Int) ∧ ∃ a4, x_0.a = some a4 ∧
    ∃ n5 : Int, (World.drew w).cell? (Addr.add a4 ((IntKind.i64.wrap ((x_0.len : Int) - 1)).toNat * 1)) = some (.int .i64 n5) ∧
    Calls Tryd.prog 110 #[.int .u64 (IntKind.u64.wrap (x_0.len : Int))] (World.drew w) (Rv fun v6 w7 => ∃ s8 : ByteArray, v6 = .string s8 ∧
    w7.cell? (Addr.add a4 ((IntKind.i64.wrap ((x_0.len : Int) - 1)).toNat * 1)) = some (.int .i64 n5) ∧
    Calls Tryd.prog 110 #[.int .u64 (IntKind.u64.wrap n5)] w7 (Rv fun v9 w10 => ∃ s11 : ByteArray, v9 = .string s11 ∧ s8.size + s11.size ≤ 9223372036854775807 ∧
    Calls Tryd.prog 111 #[.slice x_0.a x_0.len x_0.cap] w10 (Rv fun v12 w13 => ∃ l14 : Slc, v12 = .slice l14.a l14.len l14.cap ∧
    Calls Tryd.prog 51 #[.slice l14.a l14.len l14.cap] w13 (Rv fun v15 w16 => ∃ s17 : ByteArray, v15 = .string s17 ∧ (s8 ++ s11).size + s17.size ≤ 9223372036854775807 ∧
    R (.string ((s8 ++ s11) ++ s17)) w16)))))
theorem B39_eq : @B39 = fun (x_0 : Slc) (w : World) (R : Value → World → Prop) => trF Tryd.prog G (lk []) Tryd.f39 [.slice x_0.a x_0.len x_0.cap] w R := by kernel_rfl
theorem c39 (x_0 : Slc) (w : World) (R : Value → World → Prop) (h : B39 x_0 w R) : Calls Tryd.prog 39 #[.slice x_0.a x_0.len x_0.cap] w (Rv R) := calls_of_tr (L := lk []) Tryd.func39 hG hM (by rw [B39_eq] at h; exact h)

/-- locution/locutionref11.Row -/
def B51 (x_0 : Slc) (w : World) (R : Value → World → Prop) : Prop :=
  ∃ (I1 : ByteArray → Int → World → Prop) (μ2 : ByteArray → Int → World → Nat), I1 (⟨#[]⟩ : ByteArray) (0 : Int) w ∧
    ∀ x3 : ByteArray, ∀ x4 : Int, ∀ w5 : World, I1 x3 x4 w5 →
    br (decide (x4 < (x_0.len : Int))) (Calls Tryd.prog 121 #[.slice x_0.a x_0.len x_0.cap, .int .i64 x4, .int .i64 8] w5 (Rv fun v6 w7 => ∃ n8 : Int, v6 = .int .u64 n8 ∧
    ∃ w9 : World, ∃ s10 : ByteArray, (convert 60 9 (.slice (some ⟨w7.heap.size, 0, none⟩) 1 1)).run Tryd.prog (w7.alloc (.cells #[.int .u8 (IntKind.u8.wrap n8)] 5)) = .ok (.string s10) w9 ∧
    x3.size + s10.size ≤ 9223372036854775807 ∧ I1 (x3 ++ s10) (IntKind.i64.wrap (x4 + 8)) w9 ∧
    μ2 (x3 ++ s10) (IntKind.i64.wrap (x4 + 8)) w9 < μ2 x3 x4 w5)) (R (.string x3) w5)
theorem B51_eq : @B51 = fun (x_0 : Slc) (w : World) (R : Value → World → Prop) => trF Tryd.prog G (lk [(3, [(3, .str), (4, .int .i64)])]) Tryd.f51 [.slice x_0.a x_0.len x_0.cap] w R := by kernel_rfl
theorem c51 (x_0 : Slc) (w : World) (R : Value → World → Prop) (h : B51 x_0 w R) : Calls Tryd.prog 51 #[.slice x_0.a x_0.len x_0.cap] w (Rv R) := calls_of_tr (L := lk [(3, [(3, .str), (4, .int .i64)])]) Tryd.func51 hG hM (by rw [B51_eq] at h; exact h)

/-- locution/locutionref11.GetRow -/
def B53 (a_0 : Addr) (x_1 : Int) (w : World) (R : Value → World → Prop) : Prop :=
  (8 : Int) ≠ 0 ∧ (8 : Int) ≠ 0 ∧
    Calls Tryd.prog 123 #[.pointer (some a_0), .int .i64 (IntKind.i64.wrap ((IntKind.i64.wrap (Int.tdiv (max x_1 (0 : Int)) 8)) + (min (Int.tmod (max x_1 (0 : Int)) 8) (1 : Int))))] w (Rv fun v1 w2 =>
    ∃ s3 : ByteArray, v1 = .string s3 ∧ ∃ n4 : Int, w2.cell? (Addr.add a_0 1) = some (.int .i64 n4) ∧
    br (!(decide (n4 = (0 : Int)))) (R (.slice none 0 0) w2) (∃ (I5 : Slc → Int → World → Prop) (μ6 : Slc → Int → World → Nat), I5 ⟨none, 0, 0⟩ (0 : Int) w2 ∧
    ∀ x7 : Slc, ∀ x8 : Int, ∀ w9 : World, I5 x7 x8 w9 → br (decide (x8 < (IntKind.i64.wrap (8 * (s3.size : Int))))) ((8 : Int) ≠ 0 ∧
    ∃ c10 : UInt8, 0 ≤ (IntKind.i64.wrap (Int.tdiv x8 8)) ∧ s3[(IntKind.i64.wrap (Int.tdiv x8 8)).toNat]? = some c10 ∧ (8 : Int) ≠ 0 ∧
    Calls Tryd.prog 76 #[.int .u64 (IntKind.u64.wrap (UInt8.toNat c10 : Int)), .int .i64 (Int.tmod x8 8)] w9 (Rv fun v11 w12 => ∃ b13 : Bool, v11 = .bool b13 ∧
    br (decide (x8 < (max x_1 (0 : Int)))) (∃ w14 : World, ∃ l15 : Slc, (Builtin.append_ #[39, 39] 39 #[.slice x7.a x7.len x7.cap, .slice (some ⟨w12.heap.size, 0, none⟩) 1 1]).run Tryd.prog (w12.alloc (.cells #[.bool b13] 4)) = .ok (.slice l15.a l15.len l15.cap) w14 ∧
    I5 l15 (IntKind.i64.wrap (x8 + 1)) w14 ∧ μ6 l15 (IntKind.i64.wrap (x8 + 1)) w14 < μ6 x7 x8 w9) (br b13 ((∃ u, w12.cell? (Addr.add a_0 1) = some u) ∧
    w12.frozen? (Addr.add a_0 1) = false ∧ R (.slice none 0 0) (w12.setCell (Addr.add a_0 1) (.int .i64 3))) (I5 x7 (IntKind.i64.wrap (x8 + 1)) w12 ∧
    μ6 x7 (IntKind.i64.wrap (x8 + 1)) w12 < μ6 x7 x8 w9)))) (R (.slice x7.a x7.len x7.cap) w9)))
theorem B53_eq : @B53 = fun (a_0 : Addr) (x_1 : Int) (w : World) (R : Value → World → Prop) => trF Tryd.prog G (lk [(7, [(6, .slc), (7, .int .i64)])]) Tryd.f53 [.pointer (some a_0), .int .i64 x_1] w R := by kernel_rfl
theorem c53 (a_0 : Addr) (x_1 : Int) (w : World) (R : Value → World → Prop) (h : B53 a_0 x_1 w R) : Calls Tryd.prog 53 #[.pointer (some a_0), .int .i64 x_1] w (Rv R) := calls_of_tr (L := lk [(7, [(6, .slc), (7, .int .i64)])]) Tryd.func53 hG hM (by rw [B53_eq] at h; exact h)

/-- locution/locutionref11.Pack -/
def B60 (x_0 : Int) (x_1 : Slc) (w : World) (R : Value → World → Prop) : Prop :=
  ∃ (I1 : Slc → Int → World → Prop) (μ2 : Slc → Int → World → Nat), I1 ⟨none, 0, 0⟩ (0 : Int) w ∧ ∀ x3 : Slc, ∀ x4 : Int, ∀ w5 : World, I1 x3 x4 w5 →
    br (decide (x4 < (x_1.len : Int))) (0 ≤ x4 ∧ x4 < (x_1.len : Int) ∧ ∃ a6, x_1.a = some a6 ∧
    ∃ n7 : Int, w5.cell? (Addr.add a6 (x4.toNat * 1)) = some (.int .u64 n7) ∧
    Calls Tryd.prog 117 #[.slice x3.a x3.len x3.cap, .int .u64 n7, .int .i64 x_0] w5 (Rv fun v8 w9 => ∃ l10 : Slc, v8 = .slice l10.a l10.len l10.cap ∧
    I1 l10 (IntKind.i64.wrap (x4 + 1)) w9 ∧
    μ2 l10 (IntKind.i64.wrap (x4 + 1)) w9 < μ2 x3 x4 w5)) (Calls Tryd.prog 110 #[.int .u64 (IntKind.u64.wrap x_0)] w5 (Rv fun v11 w12 =>
    ∃ s13 : ByteArray, v11 = .string s13 ∧ Calls Tryd.prog 110 #[.int .u64 (IntKind.u64.wrap (x_1.len : Int))] w12 (Rv fun v14 w15 =>
    ∃ s16 : ByteArray, v14 = .string s16 ∧ s13.size + s16.size ≤ 9223372036854775807 ∧ Calls Tryd.prog 51 #[.slice x3.a x3.len x3.cap] w15 (Rv fun v17 w18 =>
    ∃ s19 : ByteArray, v17 = .string s19 ∧ (s13 ++ s16).size + s19.size ≤ 9223372036854775807 ∧ R (.string ((s13 ++ s16) ++ s19)) w18))))
theorem B60_eq : @B60 = fun (x_0 : Int) (x_1 : Slc) (w : World) (R : Value → World → Prop) => trF Tryd.prog G (lk [(3, [(5, .slc), (6, .int .i64)])]) Tryd.f60 [.int .i64 x_0, .slice x_1.a x_1.len x_1.cap] w R := by kernel_rfl
theorem c60 (x_0 : Int) (x_1 : Slc) (w : World) (R : Value → World → Prop) (h : B60 x_0 x_1 w R) : Calls Tryd.prog 60 #[.int .i64 x_0, .slice x_1.a x_1.len x_1.cap] w (Rv R) := calls_of_tr (L := lk [(3, [(5, .slc), (6, .int .i64)])]) Tryd.func60 hG hM (by rw [B60_eq] at h; exact h)

/-- locution/locutionref11.GetPack -/
def B67 (a_0 : Addr) (w : World) (R : Value → World → Prop) : Prop :=
  Calls Tryd.prog 130 #[.pointer (some a_0), .int .i64 64] w (Rv fun v1 w2 => ∃ n3 : Int, v1 = .int .i64 n3 ∧
    Calls Tryd.prog 130 #[.pointer (some a_0), .int .i64 1048576] w2 (Rv fun v4 w5 => ∃ n6 : Int, v4 = .int .i64 n6 ∧
    Calls Tryd.prog 53 #[.pointer (some a_0), .int .i64 (IntKind.i64.wrap (n3 * n6))] w5 (Rv fun v7 w8 => ∃ l9 : Slc, v7 = .slice l9.a l9.len l9.cap ∧ ∃ (I10 : Slc →
    Int → World → Prop) (μ11 : Slc → Int → World → Nat), I10 ⟨none, 0, 0⟩ (0 : Int) w8 ∧ ∀ x12 : Slc, ∀ x13 : Int, ∀ w14 : World, I10 x12 x13 w14 →
    br (decide (x13 < n6)) (∃ n15 : Int, w14.cell? (Addr.add a_0 1) = some (.int .i64 n15) ∧
    br (decide (n15 = (0 : Int))) (Calls Tryd.prog 121 #[.slice l9.a l9.len l9.cap, .int .i64 (IntKind.i64.wrap (x13 * n3)), .int .i64 n3] w14 (Rv fun v16 w17 =>
    ∃ n18 : Int, v16 = .int .u64 n18 ∧
    ∃ w19 : World, ∃ l20 : Slc, (Builtin.append_ #[29, 29] 29 #[.slice x12.a x12.len x12.cap, .slice (some ⟨w17.heap.size, 0, none⟩) 1 1]).run Tryd.prog (w17.alloc (.cells #[.int .u64 n18] 22)) = .ok (.slice l20.a l20.len l20.cap) w19 ∧
    I10 l20 (IntKind.i64.wrap (x13 + 1)) w19 ∧
    μ11 l20 (IntKind.i64.wrap (x13 + 1)) w19 < μ11 x12 x13 w14)) (R (.tuple #[.int .i64 n3, .slice x12.a x12.len x12.cap]) w14)) (R (.tuple #[.int .i64 n3, .slice x12.a x12.len x12.cap]) w14))))
theorem B67_eq : @B67 = fun (a_0 : Addr) (w : World) (R : Value → World → Prop) => trF Tryd.prog G (lk [(6, [(7, .slc), (8, .int .i64)])]) Tryd.f67 [.pointer (some a_0)] w R := by kernel_rfl
theorem c67 (a_0 : Addr) (w : World) (R : Value → World → Prop) (h : B67 a_0 w R) : Calls Tryd.prog 67 #[.pointer (some a_0)] w (Rv R) := calls_of_tr (L := lk [(6, [(7, .slc), (8, .int .i64)])]) Tryd.func67 hG hM (by rw [B67_eq] at h; exact h)

/-- locution/locutionref11.GetSeq -/
def B68 (a_0 : Addr) (w : World) (R : Value → World → Prop) : Prop :=
  Calls Tryd.prog 130 #[.pointer (some a_0), .int .i64 1048576] w (Rv fun v1 w2 => ∃ n3 : Int, v1 = .int .i64 n3 ∧
    br (decide (n3 = (0 : Int))) (R (.slice none 0 0) w2) (∃ n4 : Int, w2.cell? (Addr.add a_0 1) = some (.int .i64 n4) ∧
    br (!(decide (n4 = (0 : Int)))) (R (.slice none 0 0) w2) (Calls Tryd.prog 130 #[.pointer (some a_0), .int .i64 1099511627776] w2 (Rv fun v5 w6 =>
    ∃ n7 : Int, v5 = .int .i64 n7 ∧ Calls Tryd.prog 115 #[.int .i64 n3, .int .i64 n7] w6 (Rv fun v8 w9 => ∃ n10 : Int, v8 = .int .i64 n10 ∧
    Calls Tryd.prog 131 #[.int .i64 n7, .int .i64 n10] w9 (Rv fun v11 w12 => ∃ n13 : Int, v11 = .int .i64 n13 ∧
    Calls Tryd.prog 53 #[.pointer (some a_0), .int .i64 (IntKind.i64.wrap ((IntKind.i64.wrap ((IntKind.i64.wrap (n3 * n10)) + n3)) + n13))] w12 (Rv fun v14 w15 =>
    ∃ l16 : Slc, v14 = .slice l16.a l16.len l16.cap ∧ ∃ n17 : Int, w15.cell? (Addr.add a_0 1) = some (.int .i64 n17) ∧
    br (!(decide (n17 = (0 : Int)))) (R (.slice none 0 0) w15) (∃ (I18 : Int → Int → World → Prop) (μ19 : Int → Int → World → Nat), I18 (1 : Int) (0 : Int) w15 ∧
    ∀ x20 : Int, ∀ x21 : Int, ∀ w22 : World, I18 x20 x21 w22 → br (decide (x21 < n10)) (I18 (IntKind.i64.wrap (x20 * 2)) (IntKind.i64.wrap (x21 + 1)) w22 ∧
    μ19 (IntKind.i64.wrap (x20 * 2)) (IntKind.i64.wrap (x21 + 1)) w22 < μ19 x20 x21 w22) (∃ (I23 : Slc → Int → Int → World → Prop) (μ24 : Slc → Int → Int → World →
    Nat), I23 ⟨none, 0, 0⟩ (0 : Int) (IntKind.i64.wrap (n3 * n10)) w22 ∧ ∀ x25 : Slc, ∀ x26 : Int, ∀ x27 : Int, ∀ w28 : World, I23 x25 x26 x27 w28 →
    br (decide (x27 < (l16.len : Int))) (0 ≤ x27 ∧ x27 < (l16.len : Int) ∧ ∃ a29, l16.a = some a29 ∧
    ∃ b30 : Bool, w28.cell? (Addr.add a29 (x27.toNat * 1)) = some (.bool b30) ∧ br (!b30) (I23 x25 (IntKind.i64.wrap (x26 + 1)) (IntKind.i64.wrap (x27 + 1)) w28 ∧
    μ24 x25 (IntKind.i64.wrap (x26 + 1)) (IntKind.i64.wrap (x27 + 1)) w28 < μ24 x25 x26 x27 w28) (br (decide ((x25.len : Int) < n3)) (Calls Tryd.prog 121 #[.slice l16.a l16.len l16.cap, .int .i64 (IntKind.i64.wrap ((x25.len : Int) * n10)), .int .i64 n10] w28 (Rv fun v31 w32 =>
    ∃ n33 : Int, v31 = .int .u64 n33 ∧
    ∃ w34 : World, ∃ l35 : Slc, (Builtin.append_ #[37, 37] 37 #[.slice x25.a x25.len x25.cap, .slice (some ⟨w32.heap.size, 0, none⟩) 1 1]).run Tryd.prog (w32.alloc (.cells #[.int .i64 (IntKind.i64.wrap ((IntKind.i64.wrap (x26 * x20)) + (IntKind.i64.wrap n33)))] 3)) = .ok (.slice l35.a l35.len l35.cap) w34 ∧
    I23 l35 x26 (IntKind.i64.wrap (x27 + 1)) w34 ∧
    μ24 l35 x26 (IntKind.i64.wrap (x27 + 1)) w34 < μ24 x25 x26 x27 w28)) (I23 x25 x26 (IntKind.i64.wrap (x27 + 1)) w28 ∧
    μ24 x25 x26 (IntKind.i64.wrap (x27 + 1)) w28 < μ24 x25 x26 x27 w28))) (br (!(decide ((x25.len : Int) = n3))) ((∃ u, w28.cell? (Addr.add a_0 1) = some u) ∧
    w28.frozen? (Addr.add a_0 1) = false ∧ R (.slice none 0 0) (w28.setCell (Addr.add a_0 1) (.int .i64 3))) (0 ≤ (IntKind.i64.wrap (n3 - 1)) ∧
    (IntKind.i64.wrap (n3 - 1)) < (x25.len : Int) ∧ ∃ a36, x25.a = some a36 ∧
    ∃ n37 : Int, w28.cell? (Addr.add a36 ((IntKind.i64.wrap (n3 - 1)).toNat * 1)) = some (.int .i64 n37) ∧
    br (!(decide (n37 = n7))) ((∃ u, w28.cell? (Addr.add a_0 1) = some u) ∧ w28.frozen? (Addr.add a_0 1) = false ∧
    R (.slice none 0 0) (w28.setCell (Addr.add a_0 1) (.int .i64 3))) (Calls Tryd.prog 27 #[.slice x25.a x25.len x25.cap] w28 (Rv fun v38 w39 =>
    ∃ n40 : Int, v38 = .int .i64 n40 ∧ br (!(decide (n40 = (0 : Int)))) ((∃ u, w39.cell? (Addr.add a_0 1) = some u) ∧ w39.frozen? (Addr.add a_0 1) = false ∧
    R (.slice none 0 0) (w39.setCell (Addr.add a_0 1) (.int .i64 3))) (Calls Tryd.prog 111 #[.slice x25.a x25.len x25.cap] w39 (Rv fun v41 w42 =>
    ∃ l43 : Slc, v41 = .slice l43.a l43.len l43.cap ∧ Calls Tryd.prog 132 #[.slice l43.a l43.len l43.cap, .slice l16.a l16.len l16.cap] w42 (Rv fun v44 w45 =>
    ∃ b46 : Bool, v44 = .bool b46 ∧ br (!b46) ((∃ u, w45.cell? (Addr.add a_0 1) = some u) ∧ w45.frozen? (Addr.add a_0 1) = false ∧
    R (.slice none 0 0) (w45.setCell (Addr.add a_0 1) (.int .i64 3))) (R (.slice x25.a x25.len x25.cap) w45)))))))))))))))))
theorem B68_eq : @B68 = fun (a_0 : Addr) (w : World) (R : Value → World → Prop) => trF Tryd.prog G (lk [(12, [(8, .int .i64), (9, .int .i64)]), (17, [(7, .slc), (10, .int .i64), (11, .int .i64)])]) Tryd.f68 [.pointer (some a_0)] w R := by kernel_rfl
theorem c68 (a_0 : Addr) (w : World) (R : Value → World → Prop) (h : B68 a_0 w R) : Calls Tryd.prog 68 #[.pointer (some a_0)] w (Rv R) := calls_of_tr (L := lk [(12, [(8, .int .i64), (9, .int .i64)]), (17, [(7, .slc), (10, .int .i64), (11, .int .i64)])]) Tryd.func68 hG hM (by rw [B68_eq] at h; exact h)

/-- locution/locutionref11.Bits -/
def B111 (x_0 : Slc) (w : World) (R : Value → World → Prop) : Prop :=
  br (decide ((x_0.len : Int) = (0 : Int))) (R (.slice none 0 0) w) (0 ≤ (IntKind.i64.wrap ((x_0.len : Int) - 1)) ∧
    (IntKind.i64.wrap ((x_0.len : Int) - 1)) < (x_0.len : Int) ∧ ∃ a1, x_0.a = some a1 ∧
    ∃ n2 : Int, w.cell? (Addr.add a1 ((IntKind.i64.wrap ((x_0.len : Int) - 1)).toNat * 1)) = some (.int .i64 n2) ∧
    Calls Tryd.prog 115 #[.int .i64 (x_0.len : Int), .int .i64 n2] w (Rv fun v3 w4 => ∃ n5 : Int, v3 = .int .i64 n5 ∧ ∃ (I6 : Slc → Slc → Int → Int → World →
    Prop) (μ7 : Slc → Slc → Int → Int → World → Nat), I6 ⟨none, 0, 0⟩ ⟨none, 0, 0⟩ (0 : Int) (0 : Int) w4 ∧
    ∀ x8 : Slc, ∀ x9 : Slc, ∀ x10 : Int, ∀ x11 : Int, ∀ w12 : World, I6 x8 x9 x10 x11 w12 → br (decide (x11 < (x_0.len : Int))) (0 ≤ x11 ∧ x11 < (x_0.len : Int) ∧
    ∃ a13, x_0.a = some a13 ∧ ∃ n14 : Int, w12.cell? (Addr.add a13 (x11.toNat * 1)) = some (.int .i64 n14) ∧
    Calls Tryd.prog 117 #[.slice x8.a x8.len x8.cap, .int .u64 (IntKind.u64.wrap n14), .int .i64 n5] w12 (Rv fun v15 w16 =>
    ∃ l17 : Slc, v15 = .slice l17.a l17.len l17.cap ∧ ∃ (I18 : Slc → Int → World → Prop) (μ19 : Slc → Int → World → Nat), I18 x9 x10 w16 ∧
    ∀ x20 : Slc, ∀ x21 : Int, ∀ w22 : World, I18 x20 x21 w22 → 0 ≤ x11 ∧ x11 < (x_0.len : Int) ∧ ∃ a23, x_0.a = some a23 ∧
    ∃ n24 : Int, w22.cell? (Addr.add a23 (x11.toNat * 1)) = some (.int .i64 n24) ∧ Calls Tryd.prog 131 #[.int .i64 n24, .int .i64 n5] w22 (Rv fun v25 w26 =>
    ∃ n27 : Int, v25 = .int .i64 n27 ∧ br (decide (x21 < n27)) (Calls Tryd.prog 117 #[.slice x20.a x20.len x20.cap, .int .u64 0, .int .i64 1] w26 (Rv fun v28 w29 =>
    ∃ l30 : Slc, v28 = .slice l30.a l30.len l30.cap ∧ I18 l30 (IntKind.i64.wrap (x21 + 1)) w29 ∧
    μ19 l30 (IntKind.i64.wrap (x21 + 1)) w29 < μ19 x20 x21 w22)) (Calls Tryd.prog 117 #[.slice x20.a x20.len x20.cap, .int .u64 1, .int .i64 1] w26 (Rv fun v31 w32 =>
    ∃ l33 : Slc, v31 = .slice l33.a l33.len l33.cap ∧ I6 l17 l33 x21 (IntKind.i64.wrap (x11 + 1)) w32 ∧
    μ7 l17 l33 x21 (IntKind.i64.wrap (x11 + 1)) w32 < μ7 x8 x9 x10 x11 w12))))) (∃ w34 : World, ∃ l35 : Slc, (Builtin.append_ #[39, 39] 39 #[.slice (some ⟨w12.heap.size, 0, none⟩) 0 0, .slice x8.a x8.len x8.cap]).run Tryd.prog (w12.alloc (.cells #[] 4)) = .ok (.slice l35.a l35.len l35.cap) w34 ∧
    ∃ w36 : World, ∃ l37 : Slc, (Builtin.append_ #[39, 39] 39 #[.slice l35.a l35.len l35.cap, .slice x9.a x9.len x9.cap]).run Tryd.prog w34 = .ok (.slice l37.a l37.len l37.cap) w36 ∧
    R (.slice l37.a l37.len l37.cap) w36)))
theorem B111_eq : @B111 = fun (x_0 : Slc) (w : World) (R : Value → World → Prop) => trF Tryd.prog G (lk [(7, [(3, .slc), (4, .slc), (6, .int .i64), (7, .int .i64)]), (10, [(4, .slc), (6, .int .i64)])]) Tryd.f111 [.slice x_0.a x_0.len x_0.cap] w R := by kernel_rfl
theorem c111 (x_0 : Slc) (w : World) (R : Value → World → Prop) (h : B111 x_0 w R) : Calls Tryd.prog 111 #[.slice x_0.a x_0.len x_0.cap] w (Rv R) := calls_of_tr (L := lk [(7, [(3, .slc), (4, .slc), (6, .int .i64), (7, .int .i64)]), (10, [(4, .slc), (6, .int .i64)])]) Tryd.func111 hG hM (by rw [B111_eq] at h; exact h)

/-- locution/locutionref11.upper -/
def B131 (x_0 : Int) (x_1 : Int) (w : World) (R : Value → World → Prop) : Prop :=
  ∃ (I1 : Int → Int → World → Prop) (μ2 : Int → Int → World → Nat), I1 x_0 (0 : Int) w ∧ ∀ x3 : Int, ∀ x4 : Int, ∀ w5 : World, I1 x3 x4 w5 →
    br (decide (x4 < x_1)) ((2 : Int) ≠ 0 ∧ I1 (IntKind.i64.wrap (Int.tdiv x3 2)) (IntKind.i64.wrap (x4 + 1)) w5 ∧
    μ2 (IntKind.i64.wrap (Int.tdiv x3 2)) (IntKind.i64.wrap (x4 + 1)) w5 < μ2 x3 x4 w5) (R (.int .i64 x3) w5)
theorem B131_eq : @B131 = fun (x_0 : Int) (x_1 : Int) (w : World) (R : Value → World → Prop) => trF Tryd.prog G (lk [(2, [(0, .int .i64), (5, .int .i64)])]) Tryd.f131 [.int .i64 x_0, .int .i64 x_1] w R := by kernel_rfl
theorem c131 (x_0 : Int) (x_1 : Int) (w : World) (R : Value → World → Prop) (h : B131 x_0 x_1 w R) : Calls Tryd.prog 131 #[.int .i64 x_0, .int .i64 x_1] w (Rv R) := calls_of_tr (L := lk [(2, [(0, .int .i64), (5, .int .i64)])]) Tryd.func131 hG hM (by rw [B131_eq] at h; exact h)

/-- locution/locutionref11.same -/
def B132 (x_0 : Slc) (x_1 : Slc) (w : World) (R : Value → World → Prop) : Prop :=
  br (!(decide ((x_0.len : Int) = (x_1.len : Int)))) (R (.bool false) w) (∃ (I1 : Int → World → Prop) (μ2 : Int → World → Nat), I1 (0 : Int) w ∧
    ∀ x3 : Int, ∀ w4 : World, I1 x3 w4 → br (decide (x3 < (x_0.len : Int))) (0 ≤ x3 ∧ x3 < (x_0.len : Int) ∧ ∃ a5, x_0.a = some a5 ∧
    ∃ b6 : Bool, (World.drew w4).cell? (Addr.add a5 (x3.toNat * 1)) = some (.bool b6) ∧ 0 ≤ x3 ∧ x3 < (x_1.len : Int) ∧ ∃ a7, x_1.a = some a7 ∧
    ∃ b8 : Bool, (World.drew w4).cell? (Addr.add a7 (x3.toNat * 1)) = some (.bool b8) ∧
    br (!(b6 == b8)) (R (.bool false) (World.drew w4)) (I1 (IntKind.i64.wrap (x3 + 1)) (World.drew w4) ∧
    μ2 (IntKind.i64.wrap (x3 + 1)) (World.drew w4) < μ2 x3 w4)) (R (.bool true) w4))
theorem B132_eq : @B132 = fun (x_0 : Slc) (x_1 : Slc) (w : World) (R : Value → World → Prop) => trF Tryd.prog G (lk [(4, [(5, .int .i64)])]) Tryd.f132 [.slice x_0.a x_0.len x_0.cap, .slice x_1.a x_1.len x_1.cap] w R := by kernel_rfl
theorem c132 (x_0 : Slc) (x_1 : Slc) (w : World) (R : Value → World → Prop) (h : B132 x_0 x_1 w R) : Calls Tryd.prog 132 #[.slice x_0.a x_0.len x_0.cap, .slice x_1.a x_1.len x_1.cap] w (Rv R) := calls_of_tr (L := lk [(4, [(5, .int .i64)])]) Tryd.func132 hG hM (by rw [B132_eq] at h; exact h)

/-- locution/locutionlaw11.SeqbinSeqs -/
def B7 (x_0 : Slc) (x_1 : ByteArray) (w : World) (R : Value → World → Prop) : Prop :=
  br (decide ((60 : Int) < (x_0.len : Int))) (Calls Tryd.prog 36 #[] w (Rv fun v1 w2 => ∃ b3 : Bool, v1 = .bool b3 ∧
    R (.bool b3) w2)) (br (decide ((200 : Int) < (x_1.size : Int))) (Calls Tryd.prog 36 #[] w (Rv fun v4 w5 => ∃ b6 : Bool, v4 = .bool b6 ∧
    R (.bool b6) w5)) (Calls Tryd.prog 27 #[.slice x_0.a x_0.len x_0.cap] w (Rv fun v7 w8 => ∃ n9 : Int, v7 = .int .i64 n9 ∧
    br (!(decide (n9 = (0 : Int)))) (Calls Tryd.prog 36 #[] w8 (Rv fun v10 w11 => ∃ b12 : Bool, v10 = .bool b12 ∧
    R (.bool b12) w11)) (Calls Tryd.prog 29 #[.slice x_0.a x_0.len x_0.cap] w8 (Rv fun v13 w14 =>
    ∃ p15 : Option Addr, ∃ n16 : Int, v13 = .tuple #[.pointer p15, .int .i64 n16] ∧
    Calls Tryd.prog 37 #[.pointer (some ⟨w14.heap.size, 0, none⟩), .pointer p15] (w14.alloc (.cells #[.slice none 0 0] 62)) (Rv fun v17 w18 => v17 = .tuple #[] ∧
    Calls Tryd.prog 38 #[.pointer (some ⟨w14.heap.size, 0, none⟩)] w18 (Rv fun v19 w20 => ∃ s21 : ByteArray, v19 = .string s21 ∧
    Calls Tryd.prog 39 #[.slice x_0.a x_0.len x_0.cap] w20 (Rv fun v22 w23 => ∃ s24 : ByteArray, v22 = .string s24 ∧
    br (!(s21.toList == s24.toList)) (R (.bool false) w23) (Calls Tryd.prog 38 #[.pointer (some ⟨w14.heap.size, 0, none⟩)] w23 (Rv fun v25 w26 =>
    ∃ s27 : ByteArray, v25 = .string s27 ∧ s27.size + x_1.size ≤ 9223372036854775807 ∧ Calls Tryd.prog 40 #[.string (s27 ++ x_1)] w26 (Rv fun v28 w29 =>
    ∃ p30 : Option Addr, v28 = .pointer p30 ∧ Calls Tryd.prog 41 #[.pointer p30] w29 (Rv fun v31 w32 => ∃ p33 : Option Addr, v31 = .pointer p33 ∧ ∃ (I34 : Int → World →
    Prop) (μ35 : Int → World → Nat), I34 (0 : Int) w32 ∧ ∀ x36 : Int, ∀ w37 : World, I34 x36 w37 → br (decide (x36 < (x_0.len : Int))) (0 ≤ x36 ∧
    x36 < (x_0.len : Int) ∧ ∃ a38, x_0.a = some a38 ∧ ∃ n39 : Int, (World.drew w37).cell? (Addr.add a38 (x36.toNat * 1)) = some (.int .i64 n39) ∧
    Calls Tryd.prog 42 #[.pointer p33, .int .i64 x36] (World.drew w37) (Rv fun v40 w41 => ∃ n42 : Int, v40 = .int .i64 n42 ∧
    w41.cell? (Addr.add a38 (x36.toNat * 1)) = some (.int .i64 n39) ∧ br (!(decide (n42 = n39))) (R (.bool false) w41) (I34 (IntKind.i64.wrap (x36 + 1)) w41 ∧
    μ35 (IntKind.i64.wrap (x36 + 1)) w41 < μ35 x36 w37))) (Calls Tryd.prog 43 #[.pointer p33] w37 (Rv fun v43 w44 => ∃ n45 : Int, v43 = .int .i64 n45 ∧
    br (decide (n45 = (x_0.len : Int))) (Calls Tryd.prog 44 #[.pointer p33] w44 (Rv fun v46 w47 => ∃ n48 : Int, v46 = .int .i64 n48 ∧
    Calls Tryd.prog 45 #[.slice x_0.a x_0.len x_0.cap] w47 (Rv fun v49 w50 => ∃ n51 : Int, v49 = .int .i64 n51 ∧
    br (decide (n48 = n51)) (Calls Tryd.prog 46 #[.pointer p30] w50 (Rv fun v52 w53 => ∃ n54 : Int, v52 = .int .i64 n54 ∧
    br (decide (n54 = (x_1.size : Int))) (Calls Tryd.prog 47 #[.pointer p30] w53 (Rv fun v55 w56 => ∃ n57 : Int, v55 = .int .i64 n57 ∧
    br (decide (n57 = (0 : Int))) (Calls Tryd.prog 36 #[] w56 (Rv fun v58 w59 => ∃ b60 : Bool, v58 = .bool b60 ∧
    R (.bool b60) w59)) (R (.bool false) w56))) (R (.bool false) w53))) (R (.bool false) w50)))) (R (.bool false) w44)))))))))))))))
theorem B7_eq : @B7 = fun (x_0 : Slc) (x_1 : ByteArray) (w : World) (R : Value → World → Prop) => trF Tryd.prog G (lk [(11, [(10, .int .i64)])]) Tryd.f7 [.slice x_0.a x_0.len x_0.cap, .string x_1] w R := by kernel_rfl
theorem c7 (x_0 : Slc) (x_1 : ByteArray) (w : World) (R : Value → World → Prop) (h : B7 x_0 x_1 w R) : Calls Tryd.prog 7 #[.slice x_0.a x_0.len x_0.cap, .string x_1] w (Rv R) := calls_of_tr (L := lk [(11, [(10, .int .i64)])]) Tryd.func7 hG hM (by rw [B7_eq] at h; exact h)

/-- locution/locutionlaw11.SeqbinRows -/
def B8 (x_0 : Slc) (x_1 : ByteArray) (x_2 : Int) (w : World) (R : Value → World → Prop) : Prop :=
  br (decide ((30 : Int) < (x_0.len : Int))) (Calls Tryd.prog 36 #[] w (Rv fun v1 w2 => ∃ b3 : Bool, v1 = .bool b3 ∧
    R (.bool b3) w2)) (br (decide ((300 : Int) < (x_1.size : Int))) (Calls Tryd.prog 36 #[] w (Rv fun v4 w5 => ∃ b6 : Bool, v4 = .bool b6 ∧
    R (.bool b6) w5)) (Calls Tryd.prog 48 #[.slice x_0.a x_0.len x_0.cap] w (Rv fun v7 w8 =>
    ∃ p9 : Option Addr, ∃ l10 : Slc, ∃ b11 : Bool, v7 = .tuple #[.pointer p9, .slice l10.a l10.len l10.cap, .bool b11] ∧
    br (!b11) (R (.bool false) w8) (Calls Tryd.prog 49 #[.pointer (some ⟨w8.heap.size, 0, none⟩), .pointer p9] (w8.alloc (.cells #[.slice none 0 0] 62)) (Rv fun v12 w13 =>
    v12 = .tuple #[] ∧ Calls Tryd.prog 38 #[.pointer (some ⟨w8.heap.size, 0, none⟩)] w13 (Rv fun v14 w15 => ∃ s16 : ByteArray, v14 = .string s16 ∧
    s16.size + x_1.size ≤ 9223372036854775807 ∧ Calls Tryd.prog 40 #[.string (s16 ++ x_1)] w15 (Rv fun v17 w18 => ∃ p19 : Option Addr, v17 = .pointer p19 ∧
    Calls Tryd.prog 50 #[.pointer p19, .int .i64 (l10.len : Int)] w18 (Rv fun v20 w21 => ∃ p22 : Option Addr, v20 = .pointer p22 ∧
    Calls Tryd.prog 38 #[.pointer (some ⟨w8.heap.size, 0, none⟩)] w21 (Rv fun v23 w24 => ∃ s25 : ByteArray, v23 = .string s25 ∧
    Calls Tryd.prog 51 #[.slice l10.a l10.len l10.cap] w24 (Rv fun v26 w27 => ∃ s28 : ByteArray, v26 = .string s28 ∧
    br (!(s25.toList == s28.toList)) (R (.bool false) w27) (Calls Tryd.prog 52 #[.pointer p22, .pointer p9] w27 (Rv fun v29 w30 => ∃ b31 : Bool, v29 = .bool b31 ∧
    br (!b31) (R (.bool false) w30) (Calls Tryd.prog 46 #[.pointer p19] w30 (Rv fun v32 w33 => ∃ n34 : Int, v32 = .int .i64 n34 ∧
    br (!(decide (n34 = (x_1.size : Int)))) (R (.bool false) w33) (Calls Tryd.prog 47 #[.pointer p19] w33 (Rv fun v35 w36 => ∃ n37 : Int, v35 = .int .i64 n37 ∧
    br (!(decide (n37 = (0 : Int)))) (R (.bool false) w36) (Calls Tryd.prog 53 #[.pointer (some ⟨w36.heap.size, 0, none⟩), .int .i64 x_2] (w36.alloc (.cells #[.string x_1, .int .i64 0] 80)) (Rv fun v38 w39 =>
    ∃ l40 : Slc, v38 = .slice l40.a l40.len l40.cap ∧ Calls Tryd.prog 40 #[.string x_1] w39 (Rv fun v41 w42 => ∃ p43 : Option Addr, v41 = .pointer p43 ∧
    Calls Tryd.prog 50 #[.pointer p43, .int .i64 x_2] w42 (Rv fun v44 w45 => ∃ p46 : Option Addr, v44 = .pointer p46 ∧
    ∃ n47 : Int, w45.cell? (Addr.add ⟨w36.heap.size, 0, none⟩ 1) = some (.int .i64 n47) ∧
    br (!(decide (n47 = (0 : Int)))) (br p46.isNone (∃ n48 : Int, (World.drew w45).cell? (Addr.add ⟨w36.heap.size, 0, none⟩ 1) = some (.int .i64 n48) ∧
    Calls Tryd.prog 47 #[.pointer p43] (World.drew w45) (Rv fun v49 w50 => ∃ n51 : Int, v49 = .int .i64 n51 ∧
    w50.cell? (Addr.add ⟨w36.heap.size, 0, none⟩ 1) = some (.int .i64 n48) ∧ br (decide (n51 = n48)) (Calls Tryd.prog 36 #[] w50 (Rv fun v52 w53 =>
    ∃ b54 : Bool, v52 = .bool b54 ∧
    R (.bool b54) w53)) (R (.bool false) w50))) (R (.bool false) (World.drew w45))) (Calls Tryd.prog 47 #[.pointer p43] (World.drew w45) (Rv fun v55 w56 =>
    ∃ n57 : Int, v55 = .int .i64 n57 ∧ br (decide (n57 = (0 : Int))) (Calls Tryd.prog 54 #[.pointer p46] w56 (Rv fun v58 w59 => ∃ n60 : Int, v58 = .int .i64 n60 ∧
    br (decide (n60 = (l40.len : Int))) (Calls Tryd.prog 56 #[.pointer p46] w59 (Rv fun v61 w62 => ∃ l63 : Slc, v61 = .slice l63.a l63.len l63.cap ∧
    Calls Tryd.prog 57 #[.slice l40.a l40.len l40.cap] w62 (Rv fun v64 w65 => ∃ l66 : Slc, v64 = .slice l66.a l66.len l66.cap ∧
    Calls Tryd.prog 55 #[.slice l63.a l63.len l63.cap, .slice l66.a l66.len l66.cap] w65 (Rv fun v67 w68 => ∃ b69 : Bool, v67 = .bool b69 ∧
    br b69 (∃ s70 : ByteArray, w68.cell? (Addr.add ⟨w36.heap.size, 0, none⟩ 0) = some (.string s70) ∧ Calls Tryd.prog 46 #[.pointer p43] w68 (Rv fun v71 w72 =>
    ∃ n73 : Int, v71 = .int .i64 n73 ∧ w72.cell? (Addr.add ⟨w36.heap.size, 0, none⟩ 0) = some (.string s70) ∧
    br (decide (n73 = (s70.size : Int))) (Calls Tryd.prog 36 #[] w72 (Rv fun v74 w75 => ∃ b76 : Bool, v74 = .bool b76 ∧
    R (.bool b76) w75)) (R (.bool false) w72))) (R (.bool false) w68))))) (R (.bool false) w59))) (R (.bool false) w56)))))))))))))))))))))))
theorem B8_eq : @B8 = fun (x_0 : Slc) (x_1 : ByteArray) (x_2 : Int) (w : World) (R : Value → World → Prop) => trF Tryd.prog G (lk []) Tryd.f8 [.slice x_0.a x_0.len x_0.cap, .string x_1, .int .i64 x_2] w R := by kernel_rfl
theorem c8 (x_0 : Slc) (x_1 : ByteArray) (x_2 : Int) (w : World) (R : Value → World → Prop) (h : B8 x_0 x_1 x_2 w R) : Calls Tryd.prog 8 #[.slice x_0.a x_0.len x_0.cap, .string x_1, .int .i64 x_2] w (Rv R) := calls_of_tr (L := lk []) Tryd.func8 hG hM (by rw [B8_eq] at h; exact h)

/-- locution/locutionlaw11.SeqbinPacks -/
def B9 (x_0 : Slc) (x_1 : ByteArray) (w : World) (R : Value → World → Prop) : Prop :=
  br (decide ((40 : Int) < (x_0.len : Int))) (Calls Tryd.prog 36 #[] w (Rv fun v1 w2 => ∃ b3 : Bool, v1 = .bool b3 ∧
    R (.bool b3) w2)) (br (decide ((200 : Int) < (x_1.size : Int))) (Calls Tryd.prog 36 #[] w (Rv fun v4 w5 => ∃ b6 : Bool, v4 = .bool b6 ∧
    R (.bool b6) w5)) (Calls Tryd.prog 59 #[.slice x_0.a x_0.len x_0.cap] (w.alloc (.cells #[.slice none 0 0] 62)) (Rv fun v7 w8 => ∃ p9 : Option Addr, v7 = .pointer p9 ∧
    Calls Tryd.prog 58 #[.pointer (some ⟨w.heap.size, 0, none⟩), .pointer p9] w8 (Rv fun v10 w11 => v10 = .tuple #[] ∧
    Calls Tryd.prog 38 #[.pointer (some ⟨w.heap.size, 0, none⟩)] w11 (Rv fun v12 w13 => ∃ s14 : ByteArray, v12 = .string s14 ∧
    Calls Tryd.prog 61 #[.slice x_0.a x_0.len x_0.cap] w13 (Rv fun v15 w16 => ∃ n17 : Int, v15 = .int .i64 n17 ∧
    Calls Tryd.prog 60 #[.int .i64 n17, .slice x_0.a x_0.len x_0.cap] w16 (Rv fun v18 w19 => ∃ s20 : ByteArray, v18 = .string s20 ∧
    br (!(s14.toList == s20.toList)) (R (.bool false) w19) (Calls Tryd.prog 38 #[.pointer (some ⟨w.heap.size, 0, none⟩)] w19 (Rv fun v21 w22 =>
    ∃ s23 : ByteArray, v21 = .string s23 ∧ s23.size + x_1.size ≤ 9223372036854775807 ∧ Calls Tryd.prog 40 #[.string (s23 ++ x_1)] w22 (Rv fun v24 w25 =>
    ∃ p26 : Option Addr, v24 = .pointer p26 ∧ Calls Tryd.prog 62 #[.pointer p26] w25 (Rv fun v27 w28 => ∃ p29 : Option Addr, v27 = .pointer p29 ∧
    Calls Tryd.prog 63 #[.pointer p29] w28 (Rv fun v30 w31 => ∃ n32 : Int, v30 = .int .i64 n32 ∧
    br (!(decide (n32 = (x_0.len : Int)))) (R (.bool false) w31) (Calls Tryd.prog 64 #[.pointer p29] w31 (Rv fun v33 w34 => ∃ n35 : Int, v33 = .int .i64 n35 ∧
    Calls Tryd.prog 61 #[.slice x_0.a x_0.len x_0.cap] w34 (Rv fun v36 w37 => ∃ n38 : Int, v36 = .int .i64 n38 ∧
    br (!(decide (n35 = n38))) (R (.bool false) w37) (Calls Tryd.prog 46 #[.pointer p26] w37 (Rv fun v39 w40 => ∃ n41 : Int, v39 = .int .i64 n41 ∧
    br (!(decide (n41 = (x_1.size : Int)))) (R (.bool false) w40) (Calls Tryd.prog 65 #[.pointer p29] w40 (Rv fun v42 w43 =>
    ∃ l44 : Slc, v42 = .slice l44.a l44.len l44.cap ∧ Calls Tryd.prog 61 #[.slice x_0.a x_0.len x_0.cap] w43 (Rv fun v45 w46 => ∃ n47 : Int, v45 = .int .i64 n47 ∧
    Calls Tryd.prog 66 #[.int .i64 n47, .slice x_0.a x_0.len x_0.cap] w46 (Rv fun v48 w49 => ∃ l50 : Slc, v48 = .slice l50.a l50.len l50.cap ∧
    Calls Tryd.prog 55 #[.slice l44.a l44.len l44.cap, .slice l50.a l50.len l50.cap] w49 (Rv fun v51 w52 => ∃ b53 : Bool, v51 = .bool b53 ∧
    br (!b53) (R (.bool false) w52) (Calls Tryd.prog 67 #[.pointer (some ⟨w52.heap.size, 0, none⟩)] (w52.alloc (.cells #[.string x_1, .int .i64 0] 80)) (Rv fun v54 w55 =>
    ∃ n56 : Int, ∃ l57 : Slc, v54 = .tuple #[.int .i64 n56, .slice l57.a l57.len l57.cap] ∧ Calls Tryd.prog 40 #[.string x_1] w55 (Rv fun v58 w59 =>
    ∃ p60 : Option Addr, v58 = .pointer p60 ∧ Calls Tryd.prog 62 #[.pointer p60] w59 (Rv fun v61 w62 => ∃ p63 : Option Addr, v61 = .pointer p63 ∧
    ∃ n64 : Int, (World.drew w62).cell? (Addr.add ⟨w52.heap.size, 0, none⟩ 1) = some (.int .i64 n64) ∧
    Calls Tryd.prog 47 #[.pointer p60] (World.drew w62) (Rv fun v65 w66 => ∃ n67 : Int, v65 = .int .i64 n67 ∧
    w66.cell? (Addr.add ⟨w52.heap.size, 0, none⟩ 1) = some (.int .i64 n64) ∧
    br (!(decide (n67 = n64))) (R (.bool false) w66) (∃ n68 : Int, w66.cell? (Addr.add ⟨w52.heap.size, 0, none⟩ 1) = some (.int .i64 n68) ∧
    br (!(decide (n68 = (0 : Int)))) (br (!p63.isNone) (R (.bool false) w66) (∃ n69 : Int, (World.drew w66).cell? (Addr.add ⟨w52.heap.size, 0, none⟩ 1) = some (.int .i64 n69) ∧
    br (!(decide (n69 = (0 : Int)))) (Calls Tryd.prog 36 #[] (World.drew w66) (Rv fun v70 w71 => ∃ b72 : Bool, v70 = .bool b72 ∧
    R (.bool b72) w71)) (Calls Tryd.prog 64 #[.pointer p63] (World.drew w66) (Rv fun v73 w74 => ∃ n75 : Int, v73 = .int .i64 n75 ∧
    br (decide (n75 = n56)) (Calls Tryd.prog 63 #[.pointer p63] w74 (Rv fun v76 w77 => ∃ n78 : Int, v76 = .int .i64 n78 ∧
    br (decide (n78 = (l57.len : Int))) (Calls Tryd.prog 65 #[.pointer p63] w77 (Rv fun v79 w80 => ∃ l81 : Slc, v79 = .slice l81.a l81.len l81.cap ∧
    Calls Tryd.prog 66 #[.int .i64 n56, .slice l57.a l57.len l57.cap] w80 (Rv fun v82 w83 => ∃ l84 : Slc, v82 = .slice l84.a l84.len l84.cap ∧
    Calls Tryd.prog 55 #[.slice l81.a l81.len l81.cap, .slice l84.a l84.len l84.cap] w83 (Rv fun v85 w86 => ∃ b87 : Bool, v85 = .bool b87 ∧
    br b87 (∃ s88 : ByteArray, w86.cell? (Addr.add ⟨w52.heap.size, 0, none⟩ 0) = some (.string s88) ∧ Calls Tryd.prog 46 #[.pointer p60] w86 (Rv fun v89 w90 =>
    ∃ n91 : Int, v89 = .int .i64 n91 ∧ w90.cell? (Addr.add ⟨w52.heap.size, 0, none⟩ 0) = some (.string s88) ∧
    br (decide (n91 = (s88.size : Int))) (Calls Tryd.prog 36 #[] w90 (Rv fun v92 w93 => ∃ b94 : Bool, v92 = .bool b94 ∧
    R (.bool b94) w93)) (R (.bool false) w90))) (R (.bool false) w86))))) (R (.bool false) w77))) (R (.bool false) w74))))) (∃ n95 : Int, (World.drew w66).cell? (Addr.add ⟨w52.heap.size, 0, none⟩ 1) = some (.int .i64 n95) ∧
    br (!(decide (n95 = (0 : Int)))) (Calls Tryd.prog 36 #[] (World.drew w66) (Rv fun v96 w97 => ∃ b98 : Bool, v96 = .bool b98 ∧
    R (.bool b98) w97)) (Calls Tryd.prog 64 #[.pointer p63] (World.drew w66) (Rv fun v99 w100 => ∃ n101 : Int, v99 = .int .i64 n101 ∧
    br (decide (n101 = n56)) (Calls Tryd.prog 63 #[.pointer p63] w100 (Rv fun v102 w103 => ∃ n104 : Int, v102 = .int .i64 n104 ∧
    br (decide (n104 = (l57.len : Int))) (Calls Tryd.prog 65 #[.pointer p63] w103 (Rv fun v105 w106 => ∃ l107 : Slc, v105 = .slice l107.a l107.len l107.cap ∧
    Calls Tryd.prog 66 #[.int .i64 n56, .slice l57.a l57.len l57.cap] w106 (Rv fun v108 w109 => ∃ l110 : Slc, v108 = .slice l110.a l110.len l110.cap ∧
    Calls Tryd.prog 55 #[.slice l107.a l107.len l107.cap, .slice l110.a l110.len l110.cap] w109 (Rv fun v111 w112 => ∃ b113 : Bool, v111 = .bool b113 ∧
    br b113 (∃ s114 : ByteArray, w112.cell? (Addr.add ⟨w52.heap.size, 0, none⟩ 0) = some (.string s114) ∧ Calls Tryd.prog 46 #[.pointer p60] w112 (Rv fun v115 w116 =>
    ∃ n117 : Int, v115 = .int .i64 n117 ∧ w116.cell? (Addr.add ⟨w52.heap.size, 0, none⟩ 0) = some (.string s114) ∧
    br (decide (n117 = (s114.size : Int))) (Calls Tryd.prog 36 #[] w116 (Rv fun v118 w119 => ∃ b120 : Bool, v118 = .bool b120 ∧
    R (.bool b120) w119)) (R (.bool false) w116))) (R (.bool false) w112))))) (R (.bool false) w103))) (R (.bool false) w100))))))))))))))))))))))))))))))))
theorem B9_eq : @B9 = fun (x_0 : Slc) (x_1 : ByteArray) (w : World) (R : Value → World → Prop) => trF Tryd.prog G (lk []) Tryd.f9 [.slice x_0.a x_0.len x_0.cap, .string x_1] w R := by kernel_rfl
theorem c9 (x_0 : Slc) (x_1 : ByteArray) (w : World) (R : Value → World → Prop) (h : B9 x_0 x_1 w R) : Calls Tryd.prog 9 #[.slice x_0.a x_0.len x_0.cap, .string x_1] w (Rv R) := calls_of_tr (L := lk []) Tryd.func9 hG hM (by rw [B9_eq] at h; exact h)

/-- locution/locutionlaw11.SeqbinGets -/
def B10 (x_0 : ByteArray) (w : World) (R : Value → World → Prop) : Prop :=
  br (decide ((300 : Int) < (x_0.size : Int))) (Calls Tryd.prog 36 #[] w (Rv fun v1 w2 => ∃ b3 : Bool, v1 = .bool b3 ∧
    R (.bool b3) w2)) (Calls Tryd.prog 68 #[.pointer (some ⟨w.heap.size, 0, none⟩)] (w.alloc (.cells #[.string x_0, .int .i64 0] 80)) (Rv fun v4 w5 =>
    ∃ l6 : Slc, v4 = .slice l6.a l6.len l6.cap ∧ Calls Tryd.prog 40 #[.string x_0] w5 (Rv fun v7 w8 => ∃ p9 : Option Addr, v7 = .pointer p9 ∧
    Calls Tryd.prog 41 #[.pointer p9] w8 (Rv fun v10 w11 => ∃ p12 : Option Addr, v10 = .pointer p12 ∧
    ∃ n13 : Int, (World.drew w11).cell? (Addr.add ⟨w.heap.size, 0, none⟩ 1) = some (.int .i64 n13) ∧ Calls Tryd.prog 47 #[.pointer p9] (World.drew w11) (Rv fun v14 w15 =>
    ∃ n16 : Int, v14 = .int .i64 n16 ∧ w15.cell? (Addr.add ⟨w.heap.size, 0, none⟩ 1) = some (.int .i64 n13) ∧
    br (!(decide (n16 = n13))) (R (.bool false) w15) (∃ n17 : Int, w15.cell? (Addr.add ⟨w.heap.size, 0, none⟩ 1) = some (.int .i64 n17) ∧
    br (!(decide (n17 = (0 : Int)))) (br p12.isNone (Calls Tryd.prog 41 #[.pointer p9] w15 (Rv fun v18 w19 => ∃ p20 : Option Addr, v18 = .pointer p20 ∧
    br p20.isNone (Calls Tryd.prog 62 #[.pointer p9] w19 (Rv fun v21 w22 => ∃ p23 : Option Addr, v21 = .pointer p23 ∧
    br p23.isNone (Calls Tryd.prog 69 #[.pointer p9] w22 (Rv fun v24 w25 => ∃ p26 : Option Addr, v24 = .pointer p26 ∧
    br p26.isNone (Calls Tryd.prog 36 #[] w25 (Rv fun v27 w28 => ∃ b29 : Bool, v27 = .bool b29 ∧
    R (.bool b29) w28)) (R (.bool false) w25))) (R (.bool false) w22))) (R (.bool false) w19))) (R (.bool false) w15)) (Calls Tryd.prog 37 #[.pointer (some ⟨w15.heap.size, 0, none⟩), .pointer p12] (w15.alloc (.cells #[.slice none 0 0] 62)) (Rv fun v30 w31 =>
    v30 = .tuple #[] ∧ ∃ (I32 : Int → World → Prop) (μ33 : Int → World → Nat), I32 (0 : Int) w31 ∧ ∀ x34 : Int, ∀ w35 : World, I32 x34 w35 →
    br (decide (x34 < (l6.len : Int))) (0 ≤ x34 ∧ x34 < (l6.len : Int) ∧ ∃ a36, l6.a = some a36 ∧
    ∃ n37 : Int, (World.drew w35).cell? (Addr.add a36 (x34.toNat * 1)) = some (.int .i64 n37) ∧
    Calls Tryd.prog 42 #[.pointer p12, .int .i64 x34] (World.drew w35) (Rv fun v38 w39 => ∃ n40 : Int, v38 = .int .i64 n40 ∧
    w39.cell? (Addr.add a36 (x34.toNat * 1)) = some (.int .i64 n37) ∧ br (!(decide (n40 = n37))) (R (.bool false) w39) (I32 (IntKind.i64.wrap (x34 + 1)) w39 ∧
    μ33 (IntKind.i64.wrap (x34 + 1)) w39 < μ33 x34 w35))) (Calls Tryd.prog 43 #[.pointer p12] (World.drew w35) (Rv fun v41 w42 => ∃ n43 : Int, v41 = .int .i64 n43 ∧
    br (decide (n43 = (l6.len : Int))) (∃ s44 : ByteArray, w42.cell? (Addr.add ⟨w.heap.size, 0, none⟩ 0) = some (.string s44) ∧
    Calls Tryd.prog 46 #[.pointer p9] w42 (Rv fun v45 w46 => ∃ n47 : Int, v45 = .int .i64 n47 ∧ w46.cell? (Addr.add ⟨w.heap.size, 0, none⟩ 0) = some (.string s44) ∧
    br (decide (n47 = (s44.size : Int))) (∃ s48 : ByteArray, w46.cell? (Addr.add ⟨w.heap.size, 0, none⟩ 0) = some (.string s48) ∧ 0 ≤ (0 : Int) ∧
    (0 : Int) ≤ IntKind.i64.wrap ((x_0.size : Int) - (s48.size : Int)) ∧ IntKind.i64.wrap ((x_0.size : Int) - (s48.size : Int)) ≤ (x_0.size : Int) ∧
    Calls Tryd.prog 38 #[.pointer (some ⟨w15.heap.size, 0, none⟩)] w46 (Rv fun v49 w50 => ∃ s51 : ByteArray, v49 = .string s51 ∧
    w50.cell? (Addr.add ⟨w.heap.size, 0, none⟩ 0) = some (.string s48) ∧
    br (s51.toList == (x_0.extract (Int.toNat (0 : Int)) (Int.toNat (IntKind.i64.wrap ((x_0.size : Int) - (s48.size : Int))))).toList) (Calls Tryd.prog 36 #[] w50 (Rv fun v52 w53 =>
    ∃ b54 : Bool, v52 = .bool b54 ∧ R (.bool b54) w53)) (R (.bool false) w50))) (R (.bool false) w46))) (R (.bool false) w42)))))))))))
theorem B10_eq : @B10 = fun (x_0 : ByteArray) (w : World) (R : Value → World → Prop) => trF Tryd.prog G (lk [(14, [(8, .int .i64)])]) Tryd.f10 [.string x_0] w R := by kernel_rfl
theorem c10 (x_0 : ByteArray) (w : World) (R : Value → World → Prop) (h : B10 x_0 w R) : Calls Tryd.prog 10 #[.string x_0] w (Rv R) := calls_of_tr (L := lk [(14, [(8, .int .i64)])]) Tryd.func10 hG hM (by rw [B10_eq] at h; exact h)

/-- locution/locutionlaw11.SeqbinSums -/
def B11 (x_0 : Slc) (x_1 : ByteArray) (w : World) (R : Value → World → Prop) : Prop :=
  br (decide ((40 : Int) < (x_0.len : Int))) (Calls Tryd.prog 36 #[] w (Rv fun v1 w2 => ∃ b3 : Bool, v1 = .bool b3 ∧
    R (.bool b3) w2)) (br (decide ((200 : Int) < (x_1.size : Int))) (Calls Tryd.prog 36 #[] w (Rv fun v4 w5 => ∃ b6 : Bool, v4 = .bool b6 ∧
    R (.bool b6) w5)) (Calls Tryd.prog 33 #[.slice x_0.a x_0.len x_0.cap] w (Rv fun v7 w8 =>
    ∃ l9 : Slc, ∃ b10 : Bool, v7 = .tuple #[.slice l9.a l9.len l9.cap, .bool b10] ∧ br (!b10) (Calls Tryd.prog 36 #[] w8 (Rv fun v11 w12 =>
    ∃ b13 : Bool, v11 = .bool b13 ∧ R (.bool b13) w12)) (Calls Tryd.prog 34 #[.slice x_0.a x_0.len x_0.cap] w8 (Rv fun v14 w15 =>
    ∃ p16 : Option Addr, ∃ n17 : Int, v14 = .tuple #[.pointer p16, .int .i64 n17] ∧
    Calls Tryd.prog 70 #[.pointer (some ⟨w15.heap.size, 0, none⟩), .pointer p16] (w15.alloc (.cells #[.slice none 0 0] 62)) (Rv fun v18 w19 => v18 = .tuple #[] ∧
    Calls Tryd.prog 38 #[.pointer (some ⟨w15.heap.size, 0, none⟩)] w19 (Rv fun v20 w21 => ∃ s22 : ByteArray, v20 = .string s22 ∧
    Calls Tryd.prog 40 #[.string s22] w21 (Rv fun v23 w24 => ∃ p25 : Option Addr, v23 = .pointer p25 ∧ Calls Tryd.prog 69 #[.pointer p25] w24 (Rv fun v26 w27 =>
    ∃ p28 : Option Addr, v26 = .pointer p28 ∧ Calls Tryd.prog 38 #[.pointer (some ⟨w15.heap.size, 0, none⟩)] (World.drew w27) (Rv fun v29 w30 =>
    ∃ s31 : ByteArray, v29 = .string s31 ∧ Calls Tryd.prog 39 #[.slice l9.a l9.len l9.cap] w30 (Rv fun v32 w33 => ∃ s34 : ByteArray, v32 = .string s34 ∧
    br (!(s31.toList == s34.toList)) (R (.bool false) w33) (Calls Tryd.prog 71 #[.pointer p28] w33 (Rv fun v35 w36 => ∃ n37 : Int, v35 = .int .i64 n37 ∧
    br (!(decide (n37 = (x_0.len : Int)))) (R (.bool false) w36) (0 ≤ (x_0.len : Int) ∧ (x_0.len : Int) < (l9.len : Int) ∧ ∃ a38, l9.a = some a38 ∧
    ∃ n39 : Int, w36.cell? (Addr.add a38 ((x_0.len : Int).toNat * 1)) = some (.int .i64 n39) ∧ Calls Tryd.prog 72 #[.pointer p28] w36 (Rv fun v40 w41 =>
    ∃ n42 : Int, v40 = .int .i64 n42 ∧ w41.cell? (Addr.add a38 ((x_0.len : Int).toNat * 1)) = some (.int .i64 n39) ∧
    br (!(decide (n42 = n39))) (R (.bool false) w41) (∃ (I43 : Int → World → Prop) (μ44 : Int → World → Nat), I43 (0 : Int) w41 ∧
    ∀ x45 : Int, ∀ w46 : World, I43 x45 w46 → br (decide (x45 < (x_0.len : Int))) (0 ≤ x45 ∧ x45 < (x_0.len : Int) ∧ ∃ a47, x_0.a = some a47 ∧
    ∃ n48 : Int, (World.drew w46).cell? (Addr.add a47 (x45.toNat * 1)) = some (.int .i64 n48) ∧
    Calls Tryd.prog 73 #[.pointer p28, .int .i64 x45] (World.drew w46) (Rv fun v49 w50 => ∃ n51 : Int, v49 = .int .i64 n51 ∧
    w50.cell? (Addr.add a47 (x45.toNat * 1)) = some (.int .i64 n48) ∧ br (!(decide (n51 = n48))) (R (.bool false) w50) (I43 (IntKind.i64.wrap (x45 + 1)) w50 ∧
    μ44 (IntKind.i64.wrap (x45 + 1)) w50 < μ44 x45 w46))) (Calls Tryd.prog 68 #[.pointer (some ⟨w46.heap.size, 0, none⟩)] (w46.alloc (.cells #[.string x_1, .int .i64 0] 80)) (Rv fun v52 w53 =>
    ∃ l54 : Slc, v52 = .slice l54.a l54.len l54.cap ∧ ∃ n55 : Int, w53.cell? (Addr.add ⟨w46.heap.size, 0, none⟩ 1) = some (.int .i64 n55) ∧
    br (decide (n55 = (0 : Int))) (br (decide ((l54.len : Int) = (0 : Int))) ((∃ u, w53.cell? (Addr.add ⟨w46.heap.size, 0, none⟩ 1) = some u) ∧
    w53.frozen? (Addr.add ⟨w46.heap.size, 0, none⟩ 1) = false ∧
    Calls Tryd.prog 40 #[.string x_1] (w53.setCell (Addr.add ⟨w46.heap.size, 0, none⟩ 1) (.int .i64 3)) (Rv fun v56 w57 => ∃ p58 : Option Addr, v56 = .pointer p58 ∧
    Calls Tryd.prog 69 #[.pointer p58] w57 (Rv fun v59 w60 => ∃ p61 : Option Addr, v59 = .pointer p61 ∧
    ∃ n62 : Int, (World.drew w60).cell? (Addr.add ⟨w46.heap.size, 0, none⟩ 1) = some (.int .i64 n62) ∧
    Calls Tryd.prog 47 #[.pointer p58] (World.drew w60) (Rv fun v63 w64 => ∃ n65 : Int, v63 = .int .i64 n65 ∧
    w64.cell? (Addr.add ⟨w46.heap.size, 0, none⟩ 1) = some (.int .i64 n62) ∧
    br (!(decide (n65 = n62))) (R (.bool false) w64) (∃ n66 : Int, w64.cell? (Addr.add ⟨w46.heap.size, 0, none⟩ 1) = some (.int .i64 n66) ∧
    br (!(decide (n66 = (0 : Int)))) (br (!p61.isNone) (R (.bool false) w64) (∃ n67 : Int, w64.cell? (Addr.add ⟨w46.heap.size, 0, none⟩ 1) = some (.int .i64 n67) ∧
    br (decide (n67 = (0 : Int))) (Calls Tryd.prog 71 #[.pointer p61] w64 (Rv fun v68 w69 => ∃ n70 : Int, v68 = .int .i64 n70 ∧
    br (!(decide (n70 = (IntKind.i64.wrap ((l54.len : Int) - 1))))) (R (.bool false) w69) (0 ≤ (IntKind.i64.wrap ((l54.len : Int) - 1)) ∧
    (IntKind.i64.wrap ((l54.len : Int) - 1)) < (l54.len : Int) ∧ ∃ a71, l54.a = some a71 ∧
    ∃ n72 : Int, w69.cell? (Addr.add a71 ((IntKind.i64.wrap ((l54.len : Int) - 1)).toNat * 1)) = some (.int .i64 n72) ∧
    Calls Tryd.prog 72 #[.pointer p61] w69 (Rv fun v73 w74 => ∃ n75 : Int, v73 = .int .i64 n75 ∧
    w74.cell? (Addr.add a71 ((IntKind.i64.wrap ((l54.len : Int) - 1)).toNat * 1)) = some (.int .i64 n72) ∧
    br (!(decide (n75 = n72))) (R (.bool false) w74) (Calls Tryd.prog 49 #[.pointer (some ⟨w74.heap.size, 0, none⟩), .pointer none] (w74.alloc (.cells #[.slice none 0 0] 62)) (Rv fun v76 w77 =>
    v76 = .tuple #[] ∧ Calls Tryd.prog 58 #[.pointer (some ⟨w74.heap.size, 0, none⟩), .pointer none] w77 (Rv fun v78 w79 => v78 = .tuple #[] ∧
    Calls Tryd.prog 37 #[.pointer (some ⟨w74.heap.size, 0, none⟩), .pointer none] w79 (Rv fun v80 w81 => v80 = .tuple #[] ∧
    Calls Tryd.prog 70 #[.pointer (some ⟨w74.heap.size, 0, none⟩), .pointer none] w81 (Rv fun v82 w83 => v82 = .tuple #[] ∧
    Calls Tryd.prog 38 #[.pointer (some ⟨w74.heap.size, 0, none⟩)] w83 (Rv fun v84 w85 => ∃ s86 : ByteArray, v84 = .string s86 ∧
    br (s86.toList == (⟨#[0, 0, 0, 1, 0, 1]⟩ : ByteArray).toList) (Calls Tryd.prog 36 #[] w85 (Rv fun v87 w88 => ∃ b89 : Bool, v87 = .bool b89 ∧
    R (.bool b89) w88)) (R (.bool false) w85))))))))))) (Calls Tryd.prog 49 #[.pointer (some ⟨w64.heap.size, 0, none⟩), .pointer none] (w64.alloc (.cells #[.slice none 0 0] 62)) (Rv fun v90 w91 =>
    v90 = .tuple #[] ∧ Calls Tryd.prog 58 #[.pointer (some ⟨w64.heap.size, 0, none⟩), .pointer none] w91 (Rv fun v92 w93 => v92 = .tuple #[] ∧
    Calls Tryd.prog 37 #[.pointer (some ⟨w64.heap.size, 0, none⟩), .pointer none] w93 (Rv fun v94 w95 => v94 = .tuple #[] ∧
    Calls Tryd.prog 70 #[.pointer (some ⟨w64.heap.size, 0, none⟩), .pointer none] w95 (Rv fun v96 w97 => v96 = .tuple #[] ∧
    Calls Tryd.prog 38 #[.pointer (some ⟨w64.heap.size, 0, none⟩)] w97 (Rv fun v98 w99 => ∃ s100 : ByteArray, v98 = .string s100 ∧
    br (s100.toList == (⟨#[0, 0, 0, 1, 0, 1]⟩ : ByteArray).toList) (Calls Tryd.prog 36 #[] w99 (Rv fun v101 w102 => ∃ b103 : Bool, v101 = .bool b103 ∧
    R (.bool b103) w102)) (R (.bool false) w99))))))))) (∃ n104 : Int, w64.cell? (Addr.add ⟨w46.heap.size, 0, none⟩ 1) = some (.int .i64 n104) ∧
    br (decide (n104 = (0 : Int))) (Calls Tryd.prog 71 #[.pointer p61] w64 (Rv fun v105 w106 => ∃ n107 : Int, v105 = .int .i64 n107 ∧
    br (!(decide (n107 = (IntKind.i64.wrap ((l54.len : Int) - 1))))) (R (.bool false) w106) (0 ≤ (IntKind.i64.wrap ((l54.len : Int) - 1)) ∧
    (IntKind.i64.wrap ((l54.len : Int) - 1)) < (l54.len : Int) ∧ ∃ a108, l54.a = some a108 ∧
    ∃ n109 : Int, w106.cell? (Addr.add a108 ((IntKind.i64.wrap ((l54.len : Int) - 1)).toNat * 1)) = some (.int .i64 n109) ∧
    Calls Tryd.prog 72 #[.pointer p61] w106 (Rv fun v110 w111 => ∃ n112 : Int, v110 = .int .i64 n112 ∧
    w111.cell? (Addr.add a108 ((IntKind.i64.wrap ((l54.len : Int) - 1)).toNat * 1)) = some (.int .i64 n109) ∧
    br (!(decide (n112 = n109))) (R (.bool false) w111) (Calls Tryd.prog 49 #[.pointer (some ⟨w111.heap.size, 0, none⟩), .pointer none] (w111.alloc (.cells #[.slice none 0 0] 62)) (Rv fun v113 w114 =>
    v113 = .tuple #[] ∧ Calls Tryd.prog 58 #[.pointer (some ⟨w111.heap.size, 0, none⟩), .pointer none] w114 (Rv fun v115 w116 => v115 = .tuple #[] ∧
    Calls Tryd.prog 37 #[.pointer (some ⟨w111.heap.size, 0, none⟩), .pointer none] w116 (Rv fun v117 w118 => v117 = .tuple #[] ∧
    Calls Tryd.prog 70 #[.pointer (some ⟨w111.heap.size, 0, none⟩), .pointer none] w118 (Rv fun v119 w120 => v119 = .tuple #[] ∧
    Calls Tryd.prog 38 #[.pointer (some ⟨w111.heap.size, 0, none⟩)] w120 (Rv fun v121 w122 => ∃ s123 : ByteArray, v121 = .string s123 ∧
    br (s123.toList == (⟨#[0, 0, 0, 1, 0, 1]⟩ : ByteArray).toList) (Calls Tryd.prog 36 #[] w122 (Rv fun v124 w125 => ∃ b126 : Bool, v124 = .bool b126 ∧
    R (.bool b126) w125)) (R (.bool false) w122))))))))))) (Calls Tryd.prog 49 #[.pointer (some ⟨w64.heap.size, 0, none⟩), .pointer none] (w64.alloc (.cells #[.slice none 0 0] 62)) (Rv fun v127 w128 =>
    v127 = .tuple #[] ∧ Calls Tryd.prog 58 #[.pointer (some ⟨w64.heap.size, 0, none⟩), .pointer none] w128 (Rv fun v129 w130 => v129 = .tuple #[] ∧
    Calls Tryd.prog 37 #[.pointer (some ⟨w64.heap.size, 0, none⟩), .pointer none] w130 (Rv fun v131 w132 => v131 = .tuple #[] ∧
    Calls Tryd.prog 70 #[.pointer (some ⟨w64.heap.size, 0, none⟩), .pointer none] w132 (Rv fun v133 w134 => v133 = .tuple #[] ∧
    Calls Tryd.prog 38 #[.pointer (some ⟨w64.heap.size, 0, none⟩)] w134 (Rv fun v135 w136 => ∃ s137 : ByteArray, v135 = .string s137 ∧
    br (s137.toList == (⟨#[0, 0, 0, 1, 0, 1]⟩ : ByteArray).toList) (Calls Tryd.prog 36 #[] w136 (Rv fun v138 w139 => ∃ b140 : Bool, v138 = .bool b140 ∧
    R (.bool b140) w139)) (R (.bool false) w136))))))))))))) (0 ≤ (0 : Int) ∧ 0 < (l54.len : Int) ∧ ∃ a141, l54.a = some a141 ∧
    ∃ n142 : Int, w53.cell? (Addr.add a141 ((0 : Int).toNat * 1)) = some (.int .i64 n142) ∧
    br (!(decide (n142 = (0 : Int)))) ((∃ u, w53.cell? (Addr.add ⟨w46.heap.size, 0, none⟩ 1) = some u) ∧ w53.frozen? (Addr.add ⟨w46.heap.size, 0, none⟩ 1) = false ∧
    Calls Tryd.prog 40 #[.string x_1] (w53.setCell (Addr.add ⟨w46.heap.size, 0, none⟩ 1) (.int .i64 3)) (Rv fun v143 w144 => ∃ p145 : Option Addr, v143 = .pointer p145 ∧
    Calls Tryd.prog 69 #[.pointer p145] w144 (Rv fun v146 w147 => ∃ p148 : Option Addr, v146 = .pointer p148 ∧
    ∃ n149 : Int, (World.drew w147).cell? (Addr.add ⟨w46.heap.size, 0, none⟩ 1) = some (.int .i64 n149) ∧
    Calls Tryd.prog 47 #[.pointer p145] (World.drew w147) (Rv fun v150 w151 => ∃ n152 : Int, v150 = .int .i64 n152 ∧
    w151.cell? (Addr.add ⟨w46.heap.size, 0, none⟩ 1) = some (.int .i64 n149) ∧
    br (!(decide (n152 = n149))) (R (.bool false) w151) (∃ n153 : Int, w151.cell? (Addr.add ⟨w46.heap.size, 0, none⟩ 1) = some (.int .i64 n153) ∧
    br (!(decide (n153 = (0 : Int)))) (br (!p148.isNone) (R (.bool false) w151) (∃ n154 : Int, w151.cell? (Addr.add ⟨w46.heap.size, 0, none⟩ 1) = some (.int .i64 n154) ∧
    br (decide (n154 = (0 : Int))) (Calls Tryd.prog 71 #[.pointer p148] w151 (Rv fun v155 w156 => ∃ n157 : Int, v155 = .int .i64 n157 ∧
    br (!(decide (n157 = (IntKind.i64.wrap ((l54.len : Int) - 1))))) (R (.bool false) w156) (0 ≤ (IntKind.i64.wrap ((l54.len : Int) - 1)) ∧
    (IntKind.i64.wrap ((l54.len : Int) - 1)) < (l54.len : Int) ∧ ∃ a158, l54.a = some a158 ∧
    ∃ n159 : Int, w156.cell? (Addr.add a158 ((IntKind.i64.wrap ((l54.len : Int) - 1)).toNat * 1)) = some (.int .i64 n159) ∧
    Calls Tryd.prog 72 #[.pointer p148] w156 (Rv fun v160 w161 => ∃ n162 : Int, v160 = .int .i64 n162 ∧
    w161.cell? (Addr.add a158 ((IntKind.i64.wrap ((l54.len : Int) - 1)).toNat * 1)) = some (.int .i64 n159) ∧
    br (!(decide (n162 = n159))) (R (.bool false) w161) (Calls Tryd.prog 49 #[.pointer (some ⟨w161.heap.size, 0, none⟩), .pointer none] (w161.alloc (.cells #[.slice none 0 0] 62)) (Rv fun v163 w164 =>
    v163 = .tuple #[] ∧ Calls Tryd.prog 58 #[.pointer (some ⟨w161.heap.size, 0, none⟩), .pointer none] w164 (Rv fun v165 w166 => v165 = .tuple #[] ∧
    Calls Tryd.prog 37 #[.pointer (some ⟨w161.heap.size, 0, none⟩), .pointer none] w166 (Rv fun v167 w168 => v167 = .tuple #[] ∧
    Calls Tryd.prog 70 #[.pointer (some ⟨w161.heap.size, 0, none⟩), .pointer none] w168 (Rv fun v169 w170 => v169 = .tuple #[] ∧
    Calls Tryd.prog 38 #[.pointer (some ⟨w161.heap.size, 0, none⟩)] w170 (Rv fun v171 w172 => ∃ s173 : ByteArray, v171 = .string s173 ∧
    br (s173.toList == (⟨#[0, 0, 0, 1, 0, 1]⟩ : ByteArray).toList) (Calls Tryd.prog 36 #[] w172 (Rv fun v174 w175 => ∃ b176 : Bool, v174 = .bool b176 ∧
    R (.bool b176) w175)) (R (.bool false) w172))))))))))) (Calls Tryd.prog 49 #[.pointer (some ⟨w151.heap.size, 0, none⟩), .pointer none] (w151.alloc (.cells #[.slice none 0 0] 62)) (Rv fun v177 w178 =>
    v177 = .tuple #[] ∧ Calls Tryd.prog 58 #[.pointer (some ⟨w151.heap.size, 0, none⟩), .pointer none] w178 (Rv fun v179 w180 => v179 = .tuple #[] ∧
    Calls Tryd.prog 37 #[.pointer (some ⟨w151.heap.size, 0, none⟩), .pointer none] w180 (Rv fun v181 w182 => v181 = .tuple #[] ∧
    Calls Tryd.prog 70 #[.pointer (some ⟨w151.heap.size, 0, none⟩), .pointer none] w182 (Rv fun v183 w184 => v183 = .tuple #[] ∧
    Calls Tryd.prog 38 #[.pointer (some ⟨w151.heap.size, 0, none⟩)] w184 (Rv fun v185 w186 => ∃ s187 : ByteArray, v185 = .string s187 ∧
    br (s187.toList == (⟨#[0, 0, 0, 1, 0, 1]⟩ : ByteArray).toList) (Calls Tryd.prog 36 #[] w186 (Rv fun v188 w189 => ∃ b190 : Bool, v188 = .bool b190 ∧
    R (.bool b190) w189)) (R (.bool false) w186))))))))) (∃ n191 : Int, w151.cell? (Addr.add ⟨w46.heap.size, 0, none⟩ 1) = some (.int .i64 n191) ∧
    br (decide (n191 = (0 : Int))) (Calls Tryd.prog 71 #[.pointer p148] w151 (Rv fun v192 w193 => ∃ n194 : Int, v192 = .int .i64 n194 ∧
    br (!(decide (n194 = (IntKind.i64.wrap ((l54.len : Int) - 1))))) (R (.bool false) w193) (0 ≤ (IntKind.i64.wrap ((l54.len : Int) - 1)) ∧
    (IntKind.i64.wrap ((l54.len : Int) - 1)) < (l54.len : Int) ∧ ∃ a195, l54.a = some a195 ∧
    ∃ n196 : Int, w193.cell? (Addr.add a195 ((IntKind.i64.wrap ((l54.len : Int) - 1)).toNat * 1)) = some (.int .i64 n196) ∧
    Calls Tryd.prog 72 #[.pointer p148] w193 (Rv fun v197 w198 => ∃ n199 : Int, v197 = .int .i64 n199 ∧
    w198.cell? (Addr.add a195 ((IntKind.i64.wrap ((l54.len : Int) - 1)).toNat * 1)) = some (.int .i64 n196) ∧
    br (!(decide (n199 = n196))) (R (.bool false) w198) (Calls Tryd.prog 49 #[.pointer (some ⟨w198.heap.size, 0, none⟩), .pointer none] (w198.alloc (.cells #[.slice none 0 0] 62)) (Rv fun v200 w201 =>
    v200 = .tuple #[] ∧ Calls Tryd.prog 58 #[.pointer (some ⟨w198.heap.size, 0, none⟩), .pointer none] w201 (Rv fun v202 w203 => v202 = .tuple #[] ∧
    Calls Tryd.prog 37 #[.pointer (some ⟨w198.heap.size, 0, none⟩), .pointer none] w203 (Rv fun v204 w205 => v204 = .tuple #[] ∧
    Calls Tryd.prog 70 #[.pointer (some ⟨w198.heap.size, 0, none⟩), .pointer none] w205 (Rv fun v206 w207 => v206 = .tuple #[] ∧
    Calls Tryd.prog 38 #[.pointer (some ⟨w198.heap.size, 0, none⟩)] w207 (Rv fun v208 w209 => ∃ s210 : ByteArray, v208 = .string s210 ∧
    br (s210.toList == (⟨#[0, 0, 0, 1, 0, 1]⟩ : ByteArray).toList) (Calls Tryd.prog 36 #[] w209 (Rv fun v211 w212 => ∃ b213 : Bool, v211 = .bool b213 ∧
    R (.bool b213) w212)) (R (.bool false) w209))))))))))) (Calls Tryd.prog 49 #[.pointer (some ⟨w151.heap.size, 0, none⟩), .pointer none] (w151.alloc (.cells #[.slice none 0 0] 62)) (Rv fun v214 w215 =>
    v214 = .tuple #[] ∧ Calls Tryd.prog 58 #[.pointer (some ⟨w151.heap.size, 0, none⟩), .pointer none] w215 (Rv fun v216 w217 => v216 = .tuple #[] ∧
    Calls Tryd.prog 37 #[.pointer (some ⟨w151.heap.size, 0, none⟩), .pointer none] w217 (Rv fun v218 w219 => v218 = .tuple #[] ∧
    Calls Tryd.prog 70 #[.pointer (some ⟨w151.heap.size, 0, none⟩), .pointer none] w219 (Rv fun v220 w221 => v220 = .tuple #[] ∧
    Calls Tryd.prog 38 #[.pointer (some ⟨w151.heap.size, 0, none⟩)] w221 (Rv fun v222 w223 => ∃ s224 : ByteArray, v222 = .string s224 ∧
    br (s224.toList == (⟨#[0, 0, 0, 1, 0, 1]⟩ : ByteArray).toList) (Calls Tryd.prog 36 #[] w223 (Rv fun v225 w226 => ∃ b227 : Bool, v225 = .bool b227 ∧
    R (.bool b227) w226)) (R (.bool false) w223))))))))))))) (Calls Tryd.prog 40 #[.string x_1] w53 (Rv fun v228 w229 => ∃ p230 : Option Addr, v228 = .pointer p230 ∧
    Calls Tryd.prog 69 #[.pointer p230] w229 (Rv fun v231 w232 => ∃ p233 : Option Addr, v231 = .pointer p233 ∧
    ∃ n234 : Int, (World.drew w232).cell? (Addr.add ⟨w46.heap.size, 0, none⟩ 1) = some (.int .i64 n234) ∧
    Calls Tryd.prog 47 #[.pointer p230] (World.drew w232) (Rv fun v235 w236 => ∃ n237 : Int, v235 = .int .i64 n237 ∧
    w236.cell? (Addr.add ⟨w46.heap.size, 0, none⟩ 1) = some (.int .i64 n234) ∧
    br (!(decide (n237 = n234))) (R (.bool false) w236) (∃ n238 : Int, w236.cell? (Addr.add ⟨w46.heap.size, 0, none⟩ 1) = some (.int .i64 n238) ∧
    br (!(decide (n238 = (0 : Int)))) (br (!p233.isNone) (R (.bool false) w236) (∃ n239 : Int, w236.cell? (Addr.add ⟨w46.heap.size, 0, none⟩ 1) = some (.int .i64 n239) ∧
    br (decide (n239 = (0 : Int))) (Calls Tryd.prog 71 #[.pointer p233] w236 (Rv fun v240 w241 => ∃ n242 : Int, v240 = .int .i64 n242 ∧
    br (!(decide (n242 = (IntKind.i64.wrap ((l54.len : Int) - 1))))) (R (.bool false) w241) (0 ≤ (IntKind.i64.wrap ((l54.len : Int) - 1)) ∧
    (IntKind.i64.wrap ((l54.len : Int) - 1)) < (l54.len : Int) ∧ ∃ a243, l54.a = some a243 ∧
    ∃ n244 : Int, w241.cell? (Addr.add a243 ((IntKind.i64.wrap ((l54.len : Int) - 1)).toNat * 1)) = some (.int .i64 n244) ∧
    Calls Tryd.prog 72 #[.pointer p233] w241 (Rv fun v245 w246 => ∃ n247 : Int, v245 = .int .i64 n247 ∧
    w246.cell? (Addr.add a243 ((IntKind.i64.wrap ((l54.len : Int) - 1)).toNat * 1)) = some (.int .i64 n244) ∧
    br (!(decide (n247 = n244))) (R (.bool false) w246) (Calls Tryd.prog 49 #[.pointer (some ⟨w246.heap.size, 0, none⟩), .pointer none] (w246.alloc (.cells #[.slice none 0 0] 62)) (Rv fun v248 w249 =>
    v248 = .tuple #[] ∧ Calls Tryd.prog 58 #[.pointer (some ⟨w246.heap.size, 0, none⟩), .pointer none] w249 (Rv fun v250 w251 => v250 = .tuple #[] ∧
    Calls Tryd.prog 37 #[.pointer (some ⟨w246.heap.size, 0, none⟩), .pointer none] w251 (Rv fun v252 w253 => v252 = .tuple #[] ∧
    Calls Tryd.prog 70 #[.pointer (some ⟨w246.heap.size, 0, none⟩), .pointer none] w253 (Rv fun v254 w255 => v254 = .tuple #[] ∧
    Calls Tryd.prog 38 #[.pointer (some ⟨w246.heap.size, 0, none⟩)] w255 (Rv fun v256 w257 => ∃ s258 : ByteArray, v256 = .string s258 ∧
    br (s258.toList == (⟨#[0, 0, 0, 1, 0, 1]⟩ : ByteArray).toList) (Calls Tryd.prog 36 #[] w257 (Rv fun v259 w260 => ∃ b261 : Bool, v259 = .bool b261 ∧
    R (.bool b261) w260)) (R (.bool false) w257))))))))))) (Calls Tryd.prog 49 #[.pointer (some ⟨w236.heap.size, 0, none⟩), .pointer none] (w236.alloc (.cells #[.slice none 0 0] 62)) (Rv fun v262 w263 =>
    v262 = .tuple #[] ∧ Calls Tryd.prog 58 #[.pointer (some ⟨w236.heap.size, 0, none⟩), .pointer none] w263 (Rv fun v264 w265 => v264 = .tuple #[] ∧
    Calls Tryd.prog 37 #[.pointer (some ⟨w236.heap.size, 0, none⟩), .pointer none] w265 (Rv fun v266 w267 => v266 = .tuple #[] ∧
    Calls Tryd.prog 70 #[.pointer (some ⟨w236.heap.size, 0, none⟩), .pointer none] w267 (Rv fun v268 w269 => v268 = .tuple #[] ∧
    Calls Tryd.prog 38 #[.pointer (some ⟨w236.heap.size, 0, none⟩)] w269 (Rv fun v270 w271 => ∃ s272 : ByteArray, v270 = .string s272 ∧
    br (s272.toList == (⟨#[0, 0, 0, 1, 0, 1]⟩ : ByteArray).toList) (Calls Tryd.prog 36 #[] w271 (Rv fun v273 w274 => ∃ b275 : Bool, v273 = .bool b275 ∧
    R (.bool b275) w274)) (R (.bool false) w271))))))))) (∃ n276 : Int, w236.cell? (Addr.add ⟨w46.heap.size, 0, none⟩ 1) = some (.int .i64 n276) ∧
    br (decide (n276 = (0 : Int))) (Calls Tryd.prog 71 #[.pointer p233] w236 (Rv fun v277 w278 => ∃ n279 : Int, v277 = .int .i64 n279 ∧
    br (!(decide (n279 = (IntKind.i64.wrap ((l54.len : Int) - 1))))) (R (.bool false) w278) (0 ≤ (IntKind.i64.wrap ((l54.len : Int) - 1)) ∧
    (IntKind.i64.wrap ((l54.len : Int) - 1)) < (l54.len : Int) ∧ ∃ a280, l54.a = some a280 ∧
    ∃ n281 : Int, w278.cell? (Addr.add a280 ((IntKind.i64.wrap ((l54.len : Int) - 1)).toNat * 1)) = some (.int .i64 n281) ∧
    Calls Tryd.prog 72 #[.pointer p233] w278 (Rv fun v282 w283 => ∃ n284 : Int, v282 = .int .i64 n284 ∧
    w283.cell? (Addr.add a280 ((IntKind.i64.wrap ((l54.len : Int) - 1)).toNat * 1)) = some (.int .i64 n281) ∧
    br (!(decide (n284 = n281))) (R (.bool false) w283) (Calls Tryd.prog 49 #[.pointer (some ⟨w283.heap.size, 0, none⟩), .pointer none] (w283.alloc (.cells #[.slice none 0 0] 62)) (Rv fun v285 w286 =>
    v285 = .tuple #[] ∧ Calls Tryd.prog 58 #[.pointer (some ⟨w283.heap.size, 0, none⟩), .pointer none] w286 (Rv fun v287 w288 => v287 = .tuple #[] ∧
    Calls Tryd.prog 37 #[.pointer (some ⟨w283.heap.size, 0, none⟩), .pointer none] w288 (Rv fun v289 w290 => v289 = .tuple #[] ∧
    Calls Tryd.prog 70 #[.pointer (some ⟨w283.heap.size, 0, none⟩), .pointer none] w290 (Rv fun v291 w292 => v291 = .tuple #[] ∧
    Calls Tryd.prog 38 #[.pointer (some ⟨w283.heap.size, 0, none⟩)] w292 (Rv fun v293 w294 => ∃ s295 : ByteArray, v293 = .string s295 ∧
    br (s295.toList == (⟨#[0, 0, 0, 1, 0, 1]⟩ : ByteArray).toList) (Calls Tryd.prog 36 #[] w294 (Rv fun v296 w297 => ∃ b298 : Bool, v296 = .bool b298 ∧
    R (.bool b298) w297)) (R (.bool false) w294))))))))))) (Calls Tryd.prog 49 #[.pointer (some ⟨w236.heap.size, 0, none⟩), .pointer none] (w236.alloc (.cells #[.slice none 0 0] 62)) (Rv fun v299 w300 =>
    v299 = .tuple #[] ∧ Calls Tryd.prog 58 #[.pointer (some ⟨w236.heap.size, 0, none⟩), .pointer none] w300 (Rv fun v301 w302 => v301 = .tuple #[] ∧
    Calls Tryd.prog 37 #[.pointer (some ⟨w236.heap.size, 0, none⟩), .pointer none] w302 (Rv fun v303 w304 => v303 = .tuple #[] ∧
    Calls Tryd.prog 70 #[.pointer (some ⟨w236.heap.size, 0, none⟩), .pointer none] w304 (Rv fun v305 w306 => v305 = .tuple #[] ∧
    Calls Tryd.prog 38 #[.pointer (some ⟨w236.heap.size, 0, none⟩)] w306 (Rv fun v307 w308 => ∃ s309 : ByteArray, v307 = .string s309 ∧
    br (s309.toList == (⟨#[0, 0, 0, 1, 0, 1]⟩ : ByteArray).toList) (Calls Tryd.prog 36 #[] w308 (Rv fun v310 w311 => ∃ b312 : Bool, v310 = .bool b312 ∧
    R (.bool b312) w311)) (R (.bool false) w308))))))))))))))) (Calls Tryd.prog 40 #[.string x_1] w53 (Rv fun v313 w314 => ∃ p315 : Option Addr, v313 = .pointer p315 ∧
    Calls Tryd.prog 69 #[.pointer p315] w314 (Rv fun v316 w317 => ∃ p318 : Option Addr, v316 = .pointer p318 ∧
    ∃ n319 : Int, (World.drew w317).cell? (Addr.add ⟨w46.heap.size, 0, none⟩ 1) = some (.int .i64 n319) ∧
    Calls Tryd.prog 47 #[.pointer p315] (World.drew w317) (Rv fun v320 w321 => ∃ n322 : Int, v320 = .int .i64 n322 ∧
    w321.cell? (Addr.add ⟨w46.heap.size, 0, none⟩ 1) = some (.int .i64 n319) ∧
    br (!(decide (n322 = n319))) (R (.bool false) w321) (∃ n323 : Int, w321.cell? (Addr.add ⟨w46.heap.size, 0, none⟩ 1) = some (.int .i64 n323) ∧
    br (!(decide (n323 = (0 : Int)))) (br (!p318.isNone) (R (.bool false) w321) (∃ n324 : Int, w321.cell? (Addr.add ⟨w46.heap.size, 0, none⟩ 1) = some (.int .i64 n324) ∧
    br (decide (n324 = (0 : Int))) (Calls Tryd.prog 71 #[.pointer p318] w321 (Rv fun v325 w326 => ∃ n327 : Int, v325 = .int .i64 n327 ∧
    br (!(decide (n327 = (IntKind.i64.wrap ((l54.len : Int) - 1))))) (R (.bool false) w326) (0 ≤ (IntKind.i64.wrap ((l54.len : Int) - 1)) ∧
    (IntKind.i64.wrap ((l54.len : Int) - 1)) < (l54.len : Int) ∧ ∃ a328, l54.a = some a328 ∧
    ∃ n329 : Int, w326.cell? (Addr.add a328 ((IntKind.i64.wrap ((l54.len : Int) - 1)).toNat * 1)) = some (.int .i64 n329) ∧
    Calls Tryd.prog 72 #[.pointer p318] w326 (Rv fun v330 w331 => ∃ n332 : Int, v330 = .int .i64 n332 ∧
    w331.cell? (Addr.add a328 ((IntKind.i64.wrap ((l54.len : Int) - 1)).toNat * 1)) = some (.int .i64 n329) ∧
    br (!(decide (n332 = n329))) (R (.bool false) w331) (Calls Tryd.prog 49 #[.pointer (some ⟨w331.heap.size, 0, none⟩), .pointer none] (w331.alloc (.cells #[.slice none 0 0] 62)) (Rv fun v333 w334 =>
    v333 = .tuple #[] ∧ Calls Tryd.prog 58 #[.pointer (some ⟨w331.heap.size, 0, none⟩), .pointer none] w334 (Rv fun v335 w336 => v335 = .tuple #[] ∧
    Calls Tryd.prog 37 #[.pointer (some ⟨w331.heap.size, 0, none⟩), .pointer none] w336 (Rv fun v337 w338 => v337 = .tuple #[] ∧
    Calls Tryd.prog 70 #[.pointer (some ⟨w331.heap.size, 0, none⟩), .pointer none] w338 (Rv fun v339 w340 => v339 = .tuple #[] ∧
    Calls Tryd.prog 38 #[.pointer (some ⟨w331.heap.size, 0, none⟩)] w340 (Rv fun v341 w342 => ∃ s343 : ByteArray, v341 = .string s343 ∧
    br (s343.toList == (⟨#[0, 0, 0, 1, 0, 1]⟩ : ByteArray).toList) (Calls Tryd.prog 36 #[] w342 (Rv fun v344 w345 => ∃ b346 : Bool, v344 = .bool b346 ∧
    R (.bool b346) w345)) (R (.bool false) w342))))))))))) (Calls Tryd.prog 49 #[.pointer (some ⟨w321.heap.size, 0, none⟩), .pointer none] (w321.alloc (.cells #[.slice none 0 0] 62)) (Rv fun v347 w348 =>
    v347 = .tuple #[] ∧ Calls Tryd.prog 58 #[.pointer (some ⟨w321.heap.size, 0, none⟩), .pointer none] w348 (Rv fun v349 w350 => v349 = .tuple #[] ∧
    Calls Tryd.prog 37 #[.pointer (some ⟨w321.heap.size, 0, none⟩), .pointer none] w350 (Rv fun v351 w352 => v351 = .tuple #[] ∧
    Calls Tryd.prog 70 #[.pointer (some ⟨w321.heap.size, 0, none⟩), .pointer none] w352 (Rv fun v353 w354 => v353 = .tuple #[] ∧
    Calls Tryd.prog 38 #[.pointer (some ⟨w321.heap.size, 0, none⟩)] w354 (Rv fun v355 w356 => ∃ s357 : ByteArray, v355 = .string s357 ∧
    br (s357.toList == (⟨#[0, 0, 0, 1, 0, 1]⟩ : ByteArray).toList) (Calls Tryd.prog 36 #[] w356 (Rv fun v358 w359 => ∃ b360 : Bool, v358 = .bool b360 ∧
    R (.bool b360) w359)) (R (.bool false) w356))))))))) (∃ n361 : Int, w321.cell? (Addr.add ⟨w46.heap.size, 0, none⟩ 1) = some (.int .i64 n361) ∧
    br (decide (n361 = (0 : Int))) (Calls Tryd.prog 71 #[.pointer p318] w321 (Rv fun v362 w363 => ∃ n364 : Int, v362 = .int .i64 n364 ∧
    br (!(decide (n364 = (IntKind.i64.wrap ((l54.len : Int) - 1))))) (R (.bool false) w363) (0 ≤ (IntKind.i64.wrap ((l54.len : Int) - 1)) ∧
    (IntKind.i64.wrap ((l54.len : Int) - 1)) < (l54.len : Int) ∧ ∃ a365, l54.a = some a365 ∧
    ∃ n366 : Int, w363.cell? (Addr.add a365 ((IntKind.i64.wrap ((l54.len : Int) - 1)).toNat * 1)) = some (.int .i64 n366) ∧
    Calls Tryd.prog 72 #[.pointer p318] w363 (Rv fun v367 w368 => ∃ n369 : Int, v367 = .int .i64 n369 ∧
    w368.cell? (Addr.add a365 ((IntKind.i64.wrap ((l54.len : Int) - 1)).toNat * 1)) = some (.int .i64 n366) ∧
    br (!(decide (n369 = n366))) (R (.bool false) w368) (Calls Tryd.prog 49 #[.pointer (some ⟨w368.heap.size, 0, none⟩), .pointer none] (w368.alloc (.cells #[.slice none 0 0] 62)) (Rv fun v370 w371 =>
    v370 = .tuple #[] ∧ Calls Tryd.prog 58 #[.pointer (some ⟨w368.heap.size, 0, none⟩), .pointer none] w371 (Rv fun v372 w373 => v372 = .tuple #[] ∧
    Calls Tryd.prog 37 #[.pointer (some ⟨w368.heap.size, 0, none⟩), .pointer none] w373 (Rv fun v374 w375 => v374 = .tuple #[] ∧
    Calls Tryd.prog 70 #[.pointer (some ⟨w368.heap.size, 0, none⟩), .pointer none] w375 (Rv fun v376 w377 => v376 = .tuple #[] ∧
    Calls Tryd.prog 38 #[.pointer (some ⟨w368.heap.size, 0, none⟩)] w377 (Rv fun v378 w379 => ∃ s380 : ByteArray, v378 = .string s380 ∧
    br (s380.toList == (⟨#[0, 0, 0, 1, 0, 1]⟩ : ByteArray).toList) (Calls Tryd.prog 36 #[] w379 (Rv fun v381 w382 => ∃ b383 : Bool, v381 = .bool b383 ∧
    R (.bool b383) w382)) (R (.bool false) w379))))))))))) (Calls Tryd.prog 49 #[.pointer (some ⟨w321.heap.size, 0, none⟩), .pointer none] (w321.alloc (.cells #[.slice none 0 0] 62)) (Rv fun v384 w385 =>
    v384 = .tuple #[] ∧ Calls Tryd.prog 58 #[.pointer (some ⟨w321.heap.size, 0, none⟩), .pointer none] w385 (Rv fun v386 w387 => v386 = .tuple #[] ∧
    Calls Tryd.prog 37 #[.pointer (some ⟨w321.heap.size, 0, none⟩), .pointer none] w387 (Rv fun v388 w389 => v388 = .tuple #[] ∧
    Calls Tryd.prog 70 #[.pointer (some ⟨w321.heap.size, 0, none⟩), .pointer none] w389 (Rv fun v390 w391 => v390 = .tuple #[] ∧
    Calls Tryd.prog 38 #[.pointer (some ⟨w321.heap.size, 0, none⟩)] w391 (Rv fun v392 w393 => ∃ s394 : ByteArray, v392 = .string s394 ∧
    br (s394.toList == (⟨#[0, 0, 0, 1, 0, 1]⟩ : ByteArray).toList) (Calls Tryd.prog 36 #[] w393 (Rv fun v395 w396 => ∃ b397 : Bool, v395 = .bool b397 ∧
    R (.bool b397) w396)) (R (.bool false) w393)))))))))))))))))))))))))))))))
theorem B11_eq : @B11 = fun (x_0 : Slc) (x_1 : ByteArray) (w : World) (R : Value → World → Prop) => trF Tryd.prog G (lk [(13, [(11, .int .i64)])]) Tryd.f11 [.slice x_0.a x_0.len x_0.cap, .string x_1] w R := by kernel_rfl
theorem c11 (x_0 : Slc) (x_1 : ByteArray) (w : World) (R : Value → World → Prop) (h : B11 x_0 x_1 w R) : Calls Tryd.prog 11 #[.slice x_0.a x_0.len x_0.cap, .string x_1] w (Rv R) := calls_of_tr (L := lk [(13, [(11, .int .i64)])]) Tryd.func11 hG hM (by rw [B11_eq] at h; exact h)

/-- locution/locutionlaw11.live -/
def B36  (w : World) (R : Value → World → Prop) : Prop :=
  Calls Tryd.prog 29 #[.slice (some ⟨w.heap.size, 0, none⟩) 3 3] (w.alloc (.cells #[.int .i64 3, .int .i64 4, .int .i64 7] 3)) (Rv fun v1 w2 =>
    ∃ p3 : Option Addr, ∃ n4 : Int, v1 = .tuple #[.pointer p3, .int .i64 n4] ∧
    Calls Tryd.prog 37 #[.pointer (some ⟨w2.heap.size, 0, none⟩), .pointer p3] (w2.alloc (.cells #[.slice none 0 0] 62)) (Rv fun v5 w6 => v5 = .tuple #[] ∧
    Calls Tryd.prog 40 #[.string (⟨#[3, 7, 85, 1]⟩ : ByteArray)] w6 (Rv fun v7 w8 => ∃ p9 : Option Addr, v7 = .pointer p9 ∧
    Calls Tryd.prog 41 #[.pointer p9] w8 (Rv fun v10 w11 => ∃ p12 : Option Addr, v10 = .pointer p12 ∧
    Calls Tryd.prog 38 #[.pointer (some ⟨w2.heap.size, 0, none⟩)] w11 (Rv fun v13 w14 => ∃ s15 : ByteArray, v13 = .string s15 ∧
    br (s15.toList == (⟨#[3, 7, 85, 1]⟩ : ByteArray).toList) (Calls Tryd.prog 43 #[.pointer p12] w14 (Rv fun v16 w17 => ∃ n18 : Int, v16 = .int .i64 n18 ∧
    br (decide (n18 = (3 : Int))) (Calls Tryd.prog 42 #[.pointer p12, .int .i64 1] w17 (Rv fun v19 w20 => ∃ n21 : Int, v19 = .int .i64 n21 ∧
    br (decide (n21 = (4 : Int))) (Calls Tryd.prog 107 #[.pointer p12] w20 (Rv fun v22 w23 => ∃ n24 : Int, v22 = .int .i64 n24 ∧
    R (.bool (decide (n24 = (7 : Int)))) w23)) (R (.bool false) w20))) (R (.bool false) w17))) (R (.bool false) w14))))))
theorem B36_eq : @B36 = fun (w : World) (R : Value → World → Prop) => trF Tryd.prog G (lk []) Tryd.f36 [] w R := by kernel_rfl
theorem c36  (w : World) (R : Value → World → Prop) (h : B36  w R) : Calls Tryd.prog 36 #[] w (Rv R) := calls_of_tr (L := lk []) Tryd.func36 hG hM (by rw [B36_eq] at h; exact h)

/-- locution/seqbin.PutRow -/
def B49n1 (a_0 : Addr) (w : World) (R : Value → World → Prop) : Prop :=
  Calls Tryd.prog 54 #[.pointer none] w (Rv fun v1 w2 => ∃ n3 : Int, v1 = .int .i64 n3 ∧ (8 : Int) ≠ 0 ∧
    ∃ w4 : World, ∃ l5 : Slc, (Instr.makeSlice 60 (.int .i64 0) (.int .i64 (IntKind.i64.wrap ((IntKind.i64.wrap (Int.tdiv n3 8)) + 1)))).run Tryd.prog w2 = .ok (.slice l5.a l5.len l5.cap) w4 ∧
    Calls Tryd.prog 54 #[.pointer none] w4 (Rv fun v6 w7 => ∃ n8 : Int, v6 = .int .i64 n8 ∧ ∃ (I9 : Slc → Int → World → Prop) (μ10 : Slc → Int → World →
    Nat), I9 l5 (0 : Int) w7 ∧ ∀ x11 : Slc, ∀ x12 : Int, ∀ w13 : World, I9 x11 x12 w13 → br (decide (x12 < n8)) ((8 : Int) ≠ 0 ∧
    br (decide ((Int.tmod x12 8) = (0 : Int))) (Calls Tryd.prog 118 #[.pointer none, .int .i64 x12, .int .i64 8] w13 (Rv fun v14 w15 => ∃ n16 : Int, v14 = .int .u64 n16 ∧
    ∃ w17 : World, ∃ l18 : Slc, (Builtin.append_ #[60, 60] 60 #[.slice x11.a x11.len x11.cap, .slice (some ⟨w15.heap.size, 0, none⟩) 1 1]).run Tryd.prog (w15.alloc (.cells #[.int .u8 (IntKind.u8.wrap n16)] 5)) = .ok (.slice l18.a l18.len l18.cap) w17 ∧
    I9 l18 (IntKind.i64.wrap (x12 + 1)) w17 ∧ μ10 l18 (IntKind.i64.wrap (x12 + 1)) w17 < μ10 x11 x12 w13)) (I9 x11 (IntKind.i64.wrap (x12 + 1)) w13 ∧
    μ10 x11 (IntKind.i64.wrap (x12 + 1)) w13 < μ10 x11 x12 w13)) (∃ w19 : World, ∃ s20 : ByteArray, (convert 60 9 (.slice x11.a x11.len x11.cap)).run Tryd.prog w13 = .ok (.string s20) w19 ∧
    Calls Tryd.prog 119 #[.pointer (some a_0), .string s20] w19 (Rv fun v21 w22 => v21 = .tuple #[] ∧ R (.tuple #[]) w22))))
theorem B49n1_eq : @B49n1 = fun (a_0 : Addr) (w : World) (R : Value → World → Prop) => trF Tryd.prog G (lk [(2, [(4, .slc), (13, .int .i64)])]) Tryd.f49 [.pointer (some a_0), .pointer none] w R := by kernel_rfl
theorem c49n1 (a_0 : Addr) (w : World) (R : Value → World → Prop) (h : B49n1 a_0 w R) : Calls Tryd.prog 49 #[.pointer (some a_0), .pointer none] w (Rv R) := calls_of_tr (L := lk [(2, [(4, .slc), (13, .int .i64)])]) Tryd.func49 hG hM (by rw [B49n1_eq] at h; exact h)

/-- locution/seqbin.PutPack -/
def B58n1 (a_0 : Addr) (w : World) (R : Value → World → Prop) : Prop :=
  Calls Tryd.prog 64 #[.pointer none] w (Rv fun v1 w2 => ∃ n3 : Int, v1 = .int .i64 n3 ∧
    Calls Tryd.prog 108 #[.pointer (some a_0), .int .u64 (IntKind.u64.wrap n3)] w2 (Rv fun v4 w5 => v4 = .tuple #[] ∧ Calls Tryd.prog 63 #[.pointer none] w5 (Rv fun v6 w7 =>
    ∃ n8 : Int, v6 = .int .i64 n8 ∧ Calls Tryd.prog 108 #[.pointer (some a_0), .int .u64 (IntKind.u64.wrap n8)] w7 (Rv fun v9 w10 => v9 = .tuple #[] ∧
    Calls Tryd.prog 65 #[.pointer none] w10 (Rv fun v11 w12 => ∃ l13 : Slc, v11 = .slice l13.a l13.len l13.cap ∧ Calls Tryd.prog 64 #[.pointer none] w12 (Rv fun v14 w15 =>
    ∃ n16 : Int, v14 = .int .i64 n16 ∧ Calls Tryd.prog 63 #[.pointer none] w15 (Rv fun v17 w18 => ∃ n19 : Int, v17 = .int .i64 n19 ∧
    Calls Tryd.prog 125 #[.slice l13.a l13.len l13.cap, .int .i64 (IntKind.i64.wrap (n16 * n19))] w18 (Rv fun v20 w21 =>
    ∃ p22 : Option Addr, ∃ n23 : Int, v20 = .tuple #[.pointer p22, .int .i64 n23] ∧ Calls Tryd.prog 49 #[.pointer (some a_0), .pointer p22] w21 (Rv fun v24 w25 =>
    v24 = .tuple #[] ∧ R (.tuple #[]) w25)))))))))
theorem B58n1_eq : @B58n1 = fun (a_0 : Addr) (w : World) (R : Value → World → Prop) => trF Tryd.prog G (lk []) Tryd.f58 [.pointer (some a_0), .pointer none] w R := by kernel_rfl
theorem c58n1 (a_0 : Addr) (w : World) (R : Value → World → Prop) (h : B58n1 a_0 w R) : Calls Tryd.prog 58 #[.pointer (some a_0), .pointer none] w (Rv R) := calls_of_tr (L := lk []) Tryd.func58 hG hM (by rw [B58n1_eq] at h; exact h)

/-- locution/seqbin.PutSeq -/
def B37n1 (a_0 : Addr) (w : World) (R : Value → World → Prop) : Prop :=
  Calls Tryd.prog 43 #[.pointer none] w (Rv fun v1 w2 => ∃ n3 : Int, v1 = .int .i64 n3 ∧
    Calls Tryd.prog 108 #[.pointer (some a_0), .int .u64 (IntKind.u64.wrap n3)] w2 (Rv fun v4 w5 => v4 = .tuple #[] ∧ Calls Tryd.prog 43 #[.pointer none] w5 (Rv fun v6 w7 =>
    ∃ n8 : Int, v6 = .int .i64 n8 ∧ br (decide ((0 : Int) < n8)) (Calls Tryd.prog 107 #[.pointer none] w7 (Rv fun v9 w10 => ∃ n11 : Int, v9 = .int .i64 n11 ∧
    Calls Tryd.prog 108 #[.pointer (some a_0), .int .u64 (IntKind.u64.wrap n11)] w10 (Rv fun v12 w13 => v12 = .tuple #[] ∧
    Calls Tryd.prog 109 #[.pointer none] w13 (Rv fun v14 w15 => ∃ p16 : Option Addr, v14 = .pointer p16 ∧
    Calls Tryd.prog 49 #[.pointer (some a_0), .pointer p16] w15 (Rv fun v17 w18 => v17 = .tuple #[] ∧ R (.tuple #[]) w18))))) (R (.tuple #[]) w7))))
theorem B37n1_eq : @B37n1 = fun (a_0 : Addr) (w : World) (R : Value → World → Prop) => trF Tryd.prog G (lk []) Tryd.f37 [.pointer (some a_0), .pointer none] w R := by kernel_rfl
theorem c37n1 (a_0 : Addr) (w : World) (R : Value → World → Prop) (h : B37n1 a_0 w R) : Calls Tryd.prog 37 #[.pointer (some a_0), .pointer none] w (Rv R) := calls_of_tr (L := lk []) Tryd.func37 hG hM (by rw [B37n1_eq] at h; exact h)

/-- locution/seqbin.PutSums -/
def B70n1 (a_0 : Addr) (w : World) (R : Value → World → Prop) : Prop :=
  (∃ u, ((w.alloc (.cells #[.int .i64 0] 3)).alloc (.cells #[.slice none 0 0] 37)).cell? ⟨(w.alloc (.cells #[.int .i64 0] 3)).heap.size, 0, none⟩ = some u) ∧
    ((w.alloc (.cells #[.int .i64 0] 3)).alloc (.cells #[.slice none 0 0] 37)).frozen? ⟨(w.alloc (.cells #[.int .i64 0] 3)).heap.size, 0, none⟩ = false ∧
    Calls Tryd.prog 35 #[.pointer none] (((w.alloc (.cells #[.int .i64 0] 3)).alloc (.cells #[.slice none 0 0] 37)).setCell ⟨(w.alloc (.cells #[.int .i64 0] 3)).heap.size, 0, none⟩ (.slice (some ⟨w.heap.size, 0, none⟩) 1 1)) (Rv fun v1 w2 =>
    ∃ v3 : Value, v1 = v3 ∧ ∃ (g4 : Nat) (A5 C6 : Array Value), v3 = .func (.func g4) A5 C6 ∧ G g4 = true ∧ ∃ n7 : Nat, ∃ f15 : Nat → Int, ∃ f16 : Nat →
    Int, ∃ (D8 : Nat → Prop) (J9 : Nat → (Nat → Prop) → World → Prop) (X10 : Option Nat → (Nat → Prop) → World →
    Prop), Iter Tryd.prog g4 A5.toList C6.toList w2 n7 (fun j => [.int .i64 (f15 j), .int .i64 (f16 j)]) D8 ∧ (∀ k, D8 k → k < w2.heap.size) ∧ (∀ j, Stab (J9 j)) ∧
    (∀ o, Stab (X10 o)) ∧ J9 0 (fun _ => False) w2 ∧ (∀ (j11 : Nat) (T12 : Nat → Prop) (w13 : World), j11 < n7 → J9 j11 T12 w13 → (∀ k, T12 k → w2.heap.size ≤ k) →
    T12 w2.heap.size → T12 (w2.heap.size + 1) → (∀ k, T12 k → k < w13.heap.size) → Kp (fun k => ¬ T12 k ∧ ¬ D8 k) w13 w13 ∧ ∀ w14 : World, Kp (fun k =>
    k = w2.heap.size + 1) w13 w14 →
    ∃ l17 : Slc, (World.drew w14).cell? ⟨(w.alloc (.cells #[.int .i64 0] 3)).heap.size, 0, none⟩ = some (.slice l17.a l17.len l17.cap) ∧
    ∃ l18 : Slc, (World.drew w14).cell? ⟨(w.alloc (.cells #[.int .i64 0] 3)).heap.size, 0, none⟩ = some (.slice l18.a l18.len l18.cap) ∧ 0 ≤ (f15 j11) ∧
    (f15 j11) < (l18.len : Int) ∧ ∃ a19, l18.a = some a19 ∧ ∃ n20 : Int, (World.drew w14).cell? (Addr.add a19 ((f15 j11).toNat * 1)) = some (.int .i64 n20) ∧
    ((World.drew w14).alloc (.cells #[.int .i64 (IntKind.i64.wrap (n20 + (f16 j11)))] 3)).cell? ⟨(w.alloc (.cells #[.int .i64 0] 3)).heap.size, 0, none⟩ = some (.slice l17.a l17.len l17.cap) ∧
    ∃ w21 : World, ∃ l22 : Slc, (Builtin.append_ #[37, 37] 37 #[.slice l17.a l17.len l17.cap, .slice (some ⟨(World.drew w14).heap.size, 0, none⟩) 1 1]).run Tryd.prog ((World.drew w14).alloc (.cells #[.int .i64 (IntKind.i64.wrap (n20 + (f16 j11)))] 3)) = .ok (.slice l22.a l22.len l22.cap) w21 ∧
    (∃ u, w21.cell? ⟨(w.alloc (.cells #[.int .i64 0] 3)).heap.size, 0, none⟩ = some u) ∧
    w21.frozen? ⟨(w.alloc (.cells #[.int .i64 0] 3)).heap.size, 0, none⟩ = false ∧ Kp (fun k => ¬ T12 k ∧
    ¬ D8 k) w14 (w21.setCell ⟨(w.alloc (.cells #[.int .i64 0] 3)).heap.size, 0, none⟩ (.slice l22.a l22.len l22.cap)) ∧
    J9 (j11 + 1) T12 (w21.setCell ⟨(w.alloc (.cells #[.int .i64 0] 3)).heap.size, 0, none⟩ (.slice l22.a l22.len l22.cap))) ∧ (∀ (T23 : Nat →
    Prop) (w24 : World), J9 n7 T23 w24 → ((∀ k, T23 k → w2.heap.size ≤ k ∧ k < w24.heap.size) ∧ T23 w2.heap.size) →
    w24.heap[w2.heap.size]? = some (.deferred (some [])) →
    ∃ l25 : Slc, w24.cell? ⟨(w.alloc (.cells #[.int .i64 0] 3)).heap.size, 0, none⟩ = some (.slice l25.a l25.len l25.cap) ∧
    Calls Tryd.prog 29 #[.slice l25.a l25.len l25.cap] w24 (Rv fun v26 w27 => ∃ p28 : Option Addr, ∃ n29 : Int, v26 = .tuple #[.pointer p28, .int .i64 n29] ∧
    Calls Tryd.prog 37 #[.pointer (some a_0), .pointer p28] w27 (Rv fun v30 w31 => v30 = .tuple #[] ∧ (w2.heap.size :: ([] : List Nat)).Nodup ∧
    (∀ D, D ∈ (w2.heap.size :: ([] : List Nat)) → w31.heap[D]? = some (.deferred (some []))) ∧ ∀ w32 : World, Kp (fun k =>
    k ∈ (w2.heap.size :: ([] : List Nat))) w31 w32 → R (.tuple #[]) w32))) ∧ (∀ (T33 : Nat → Prop) (w34 : World), X10 none T33 w34 → ((∀ k, T33 k →
    w2.heap.size ≤ k ∧ k < w34.heap.size) ∧ T33 w2.heap.size) → w34.heap[w2.heap.size]? = some (.deferred (some [])) → (w2.heap.size :: ([] : List Nat)).Nodup ∧
    (∀ D, D ∈ (w2.heap.size :: ([] : List Nat)) → w34.heap[D]? = some (.deferred (some []))) ∧ ∀ w35 : World, Kp (fun k =>
    k ∈ (w2.heap.size :: ([] : List Nat))) w34 w35 → R (.tuple #[]) w35) ∧ True)
theorem B70n1_eq : @B70n1 = fun (a_0 : Addr) (w : World) (R : Value → World → Prop) => trFT Tryd.prog G (lk [(1000004, [(12, .int .i64), (13, .int .i64)])]) Tryd.f70 [.pointer (some a_0), .pointer none] w R := by kernel_rfl
theorem c70n1 (a_0 : Addr) (w : World) (R : Value → World → Prop) (h : B70n1 a_0 w R) : Calls Tryd.prog 70 #[.pointer (some a_0), .pointer none] w (Rv R) := calls_of_trT (L := lk [(1000004, [(12, .int .i64), (13, .int .i64)])]) Tryd.func70 hG hM (by rw [B70n1_eq] at h; exact h)

/-- (*locution/prefix.Seq).All -/
def B35n  (w : World) (R : Value → World → Prop) : Prop :=
  R (.func (.func 106) #[] #[.pointer (some ⟨w.heap.size, 0, none⟩)]) (w.alloc (.cells #[.pointer none] 56))
theorem B35n_eq : @B35n = fun (w : World) (R : Value → World → Prop) => trF Tryd.prog G (lk []) Tryd.f35 [.pointer none] w R := by kernel_rfl
theorem c35n  (w : World) (R : Value → World → Prop) (h : B35n  w R) : Calls Tryd.prog 35 #[.pointer none] w (Rv R) := calls_of_tr (L := lk []) Tryd.func35 hG hM (by rw [B35n_eq] at h; exact h)

end Go.Proofs.YtomajpihimlcjaaDoor.V
