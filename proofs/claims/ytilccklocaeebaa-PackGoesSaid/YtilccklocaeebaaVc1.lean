/- A verification-condition generator for the model's code: what an operation asks. -/
import Derived.WalkKit
import Derived.OwnWalkIn
import Derived.TacticsInMore
import Derived.RangeFuncCalls
import Derived.RangeFuncLeaves
import Derived.RangeFuncNested
namespace Go.VC
open Go

abbrev Env := List (Nat × Option Value)

def find : Env → Nat → Option (Option Value)
  | [], _ => none
  | (j, v) :: e, i => match Nat.beq i j with
    | true => some v
    | false => find e i

def ev (loc base : Env) : Operand → Option Value
  | .tmp t => match find loc t with
    | some r => r
    | none => (find base t).join
  | .const v => some v
  | .global g => some (.pointer (some ⟨g, 0, none⟩))
  | .func f => some (.func (.func f) #[] #[])

/-- The kinds of one cell. -/
inductive Kd where
  | int (k : IntKind) | bool | str | ptr | slc | any

/-- A slice's three parts. -/
structure Slc where
  a : Option Addr
  len : Nat
  cap : Nat

def Slc.v (s : Slc) : Value := .slice s.a s.len s.cap

@[reducible] def Kd.T : Kd → Type
  | .int _ => Int | .bool => Bool | .str => ByteArray | .ptr => Option Addr | .slc => Slc | .any => Value

def Kd.inj : (k : Kd) → k.T → Value
  | .int k, n => .int k n
  | .bool, b => .bool b
  | .str, s => .string s
  | .ptr, p => .pointer p
  | .slc, s => .slice s.a s.len s.cap
  | .any, v => v

def Kd.prj : (k : Kd) → Value → Option k.T
  | .int k, .int k' n => match decide (k = k') with
    | true => some n
    | false => none
  | .bool, .bool b => some b
  | .str, .string s => some s
  | .ptr, .pointer p => some p
  | .slc, .slice a n c => some ⟨a, n, c⟩
  | .any, v => some v
  | _, _ => none

theorem Kd.prj_inj {k : Kd} {v : Value} {x : k.T} (h : k.prj v = some x) : k.inj x = v := by
  cases k <;> cases v <;> simp_all [Kd.prj, Kd.inj] <;> (try (cases h; exact ⟨rfl, rfl, rfl⟩))
  rename_i k k' n
  by_cases e : k = k' <;> simp_all

def kdOf (P : Program) (t : TypeId) : Kd :=
  match P.underlying t with
  | some (.int k) => .int k
  | some .bool => .bool
  | some .string => .str
  | some (.pointer _) => .ptr
  | some (.slice _) => .slc
  | _ => .any

def flatT (P : Program) : Nat → TypeId → List Kd
  | 0, _ => []
  | d + 1, t => match P.underlying t with
    | some (.struct fs) => fs.toList.flatMap fun f => flatT P d f.type
    | some (.array n e) => (List.replicate n (flatT P d e)).flatten
    | _ => [kdOf P t]

def isAggT (P : Program) (t : TypeId) : Bool :=
  match P.underlying t with
  | some (.struct _) | some (.array _ _) => true
  | _ => false

def ExK (k : Kd) (q : Value → Prop) : Prop :=
  match k with
  | .int kk => ∃ n : Int, q (.int kk n)
  | .bool => ∃ b : Bool, q (.bool b)
  | .str => ∃ s : ByteArray, q (.string s)
  | .ptr => ∃ p : Option Addr, q (.pointer p)
  | .slc => ∃ s : Slc, q (.slice s.a s.len s.cap)
  | .any => ∃ v : Value, q v

theorem ExK.ex {k : Kd} {q : Value → Prop} (h : ExK k q) : ∃ v, q v := by
  cases k <;> obtain ⟨x, hx⟩ := h <;> exact ⟨_, hx⟩

def ExL : List Kd → (List Value → Prop) → Prop
  | [], q => q []
  | k :: ks, q => ExK k fun v => ExL ks fun vs => q (v :: vs)

theorem ExL.ex {ks : List Kd} {q : List Value → Prop} (h : ExL ks q) : ∃ v, q v := by
  induction ks generalizing q with
  | nil => exact ⟨[], h⟩
  | cons k ks ih =>
    obtain ⟨v, h⟩ := ExK.ex h
    obtain ⟨vs, h⟩ := ih h
    exact ⟨_, h⟩

def ExV1 (P : Program) (t : TypeId) (q : Value → Prop) : Prop :=
  match isAggT P t with
  | true => ExL (flatT P 10 t) fun vs => q (.agg ⟨vs⟩)
  | false => ExK (kdOf P t) q

theorem ExV1.ex {P : Program} {t : TypeId} {q : Value → Prop} (h : ExV1 P t q) : ∃ v, q v := by
  unfold ExV1 at h
  split at h
  · obtain ⟨v, h⟩ := ExL.ex h; exact ⟨_, h⟩
  · exact ExK.ex h

def ExVs (P : Program) : List TypeId → (List Value → Prop) → Prop
  | [], q => q []
  | t :: ts, q => ExV1 P t fun v => ExVs P ts fun vs => q (v :: vs)

theorem ExVs.ex {P : Program} {ts : List TypeId} {q : List Value → Prop} (h : ExVs P ts q) : ∃ v, q v := by
  induction ts generalizing q with
  | nil => exact ⟨[], h⟩
  | cons t ts ih =>
    obtain ⟨v, h⟩ := ExV1.ex h
    obtain ⟨vs, h⟩ := ih h
    exact ⟨_, h⟩

/-- There is a value of the type (written out by its kind). -/
def ExV (P : Program) (t : TypeId) (q : Value → Prop) : Prop :=
  match P.underlying t with
  | some (.tuple ts) => ExVs P ts.toList fun vs => q (.tuple ⟨vs⟩)
  | _ => ExV1 P t q

theorem ExV.ex {P : Program} {t : TypeId} {q : Value → Prop} (h : ExV P t q) : ∃ v, q v := by
  unfold ExV at h
  split at h
  · obtain ⟨v, h⟩ := ExVs.ex h; exact ⟨_, h⟩
  · exact ExV1.ex h

/-- The call has returned a value. -/
def Rv (R : Value → World → Prop) : Ending → World → Prop := fun e w => ∃ v, e = .returned v ∧ R v w

theorem use {P : Program} {f : FuncId} {args : Array Value} {w : World} {R R' : Value → World → Prop}
    (h : Calls P f args w (Rv R)) (hr : ∀ v w', R v w' → R' v w') : Calls P f args w (Rv R') :=
  h.mono fun _ _ ⟨v, he, h⟩ => ⟨v, he, hr _ _ h⟩

/-- A round of a range over a function. -/
def YieldC (P : Program) (l : Nat) (args : Array Value) (w : World) (R : Value → World → Prop) : Prop :=
  YieldAt Fence.wide 0 P l args w (Rv R)

/-- A function value is called. -/
def CallFV (P : Program) (G : Nat → Bool) (f : Value) (args : List Value) (w : World) (R : Value → World → Prop) : Prop :=
  match f with
  | .func (.func g) first cap => match G g with
    | true => Calls P g ⟨first.toList ++ (args ++ cap.toList)⟩ w (Rv R)
    | false => False
  | .func (.yield l) first _ => YieldC P l ⟨first.toList ++ args⟩ w R
  | _ => False

def wv (v : Option Value) (q : Value → Prop) : Prop := match v with
  | some v => q v
  | none => False
def wb (v : Value) (q : Bool → Prop) : Prop := match v with
  | .bool b => q b
  | _ => False
def wi (v : Value) (q : IntKind → Int → Prop) : Prop := match v with
  | .int k n => q k n
  | _ => False
def wp (v : Value) (q : Option Addr → Prop) : Prop := match v with
  | .pointer p => q p
  | _ => False
@[reducible] def wa (p : Option Addr) (q : Addr → Prop) : Prop := match p with
  | some a => q a
  | none => False
def wsl (v : Value) (q : Option Addr → Nat → Nat → Prop) : Prop := match v with
  | .slice a n c => q a n c
  | _ => False

theorem wv.ex {v : Option Value} {q : Value → Prop} (h : wv v q) : ∃ x, v = some x ∧ q x := by
  cases v with
  | none => exact h.elim
  | some x => exact ⟨x, rfl, h⟩
theorem wb.ex {v : Value} {q : Bool → Prop} (h : wb v q) : ∃ x, v = .bool x ∧ q x := by
  cases v <;> first | exact h.elim | exact ⟨_, rfl, h⟩
theorem wi.ex {v : Value} {q : IntKind → Int → Prop} (h : wi v q) : ∃ k n, v = .int k n ∧ q k n := by
  cases v <;> first | exact h.elim | exact ⟨_, _, rfl, h⟩
theorem wp.ex {v : Value} {q : Option Addr → Prop} (h : wp v q) : ∃ x, v = .pointer x ∧ q x := by
  cases v <;> first | exact h.elim | exact ⟨_, rfl, h⟩
theorem wa.ex {v : Option Addr} {q : Addr → Prop} (h : wa v q) : ∃ x, v = some x ∧ q x := by
  cases v <;> first | exact h.elim | exact ⟨_, rfl, h⟩
theorem wsl.ex {v : Value} {q : Option Addr → Nat → Nat → Prop} (h : wsl v q) : ∃ a n c, v = .slice a n c ∧ q a n c := by
  cases v <;> first | exact h.elim | exact ⟨_, _, _, rfl, h⟩

/-- A run of the model's own, with the result written out by its type. -/
def Runs (P : Program) (t : TypeId) (m : Sem Value) (w : World) (k : Value → World → Prop) : Prop :=
  ∃ w', ExV P t fun v => m.run P w = .ok v w' ∧ k v w'

def Does (P : Program) (m : Sem Unit) (w : World) (k : World → Prop) : Prop :=
  ∃ w', m.run P w = .ok () w' ∧ k w'

/-- Is a value nil, of a type that has nil? -/
def isNilV : Value → Bool
  | .pointer p => p.isNone
  | .slice a _ _ => a.isNone
  | .map m => m.isNone
  | .nilFunc | .nilIface => true
  | _ => false

/-- A value that is stored into one cell. -/
def oneC (v : Value) (q : Prop) : Prop := match v with
  | .agg _ | .tuple _ => False
  | _ => q

def storesC (w : World) (a : Addr) : List Value → Nat → (World → Prop) → Prop
  | [], _, k => k w
  | v :: vs, i, k => oneC v ((∃ u, w.cell? (a.add i) = some u) ∧ w.frozen? (a.add i) = false ∧ storesC (w.setCell (a.add i) v) a vs (i + 1) k)

def cellsL : Value → List Value
  | .agg cs => cs.toList
  | v => [v]

theorem cellsL_eq (v : Value) : v.cells = ⟨cellsL v⟩ := by cases v <;> rfl

def storeC (w : World) (a : Addr) (v : Value) (k : World → Prop) : Prop :=
  match v with
  | .agg cs => storesC w a cs.toList 0 k
  | v => oneC v ((∃ u, w.cell? a = some u) ∧ w.frozen? a = false ∧ k (w.setCell a v))

def sizeIs (P : Program) (t : TypeId) (n : Nat) : Bool := match P.info? t with
  | some i => Nat.beq i.size n
  | none => false

def szOf (P : Program) (t : TypeId) : Nat := match P.info? t with
  | some i => i.size
  | none => 0
def hasT (P : Program) (t : TypeId) : Bool := match P.info? t, P.underlying t with
  | some _, some _ => true
  | _, _ => false

theorem szOf_run {P : Program} {t : TypeId} {w : World} (h : hasT P t = true) : (sizeOf t).run P w = .ok (szOf P t) w := by
  unfold hasT at h
  unfold szOf
  cases hi : P.info? t with
  | none => simp [hi] at h
  | some i => simp [sizeOf, typeInfo, hi]

/-- A test parts the way. -/
@[reducible] def br (b : Bool) (x y : Prop) : Prop := match b with
  | true => x
  | false => y
theorem br_dec {c : Prop} [Decidable c] {x y : Prop} (h1 : c → x) (h2 : ¬ c → y) : br (decide c) x y := by
  by_cases h : c
  · simp [br, h, h1 h]
  · simp [br, h, h2 h]
theorem br_not {b : Bool} {x y : Prop} (h : br b y x) : br (!b) x y := by cases b <;> exact h
theorem br_of {b : Bool} {x y : Prop} (h1 : b = true → x) (h2 : b = false → y) : br b x y := by
  cases b
  · exact h2 rfl
  · exact h1 rfl

def ck (b : Bool) (q : Prop) : Prop := match b with
  | true => q
  | false => False
theorem ck.ex {b : Bool} {q : Prop} (h : ck b q) : b = true ∧ q := by cases b <;> first | exact h.elim | exact ⟨rfl, h⟩

end Go.VC
