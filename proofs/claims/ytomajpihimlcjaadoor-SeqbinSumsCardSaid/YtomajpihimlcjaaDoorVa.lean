/- A verification-condition generator for the model's code: what an operation asks. A verification-condition generator for the model's code: what each operation asks, and that this is enough. A verification-condition generator for the model's code: one operation. A verification-condition generator for the model's code: what 'trOp' asks of an operation is enough. A verification-condition generator for the model's code: what 'trOp' asks of any operation is enough. A verification-condition generator for the model's code: operations that only reckon. A verification-condition generator for the model's code: regions that draw their order. Operations that only reckon are taken as soon as they can be; the others in every order that the edges let; a load that may come later must read the same behind each of the others. A verification-condition generator for the model's code: regions that draw their order (the walk through them). A verification-condition generator for the model's code: regions that draw their order: the condition is enough. A verification-condition generator for the model's code: regions, tests, loops, returns. A verification-condition generator for the model's code: a function's contract out of its verification condition. -/
import Derived.WalkKit
import Derived.OwnWalkIn
import Derived.TacticsInMore
import Derived.RangeFuncCalls
import Derived.RangeFuncLeaves
import Derived.RangeFuncNested
import Derived.OrdersIn
namespace Go.VC
open Go

abbrev Env := List (Nat × Option Value)

def find : Env → Nat → Option (Option Value)
  | [], _ => none
  | (j, v) :: e, i => match Nat.beq i j with
    | true => some v
    | false => find e i

def ev (loc base : Env) : Operand → Option Value
  | .tmp t => match find loc t with
    | some r => r
    | none => (find base t).join
  | .const v => some v
  | .global g => some (.pointer (some ⟨g, 0, none⟩))
  | .func f => some (.func (.func f) #[] #[])

/-- The kinds of one cell. -/
inductive Kd where
  | int (k : IntKind) | bool | str | ptr | slc | any

/-- A slice's three parts. -/
structure Slc where
  a : Option Addr
  len : Nat
  cap : Nat

def Slc.v (s : Slc) : Value := .slice s.a s.len s.cap

@[reducible] def Kd.T : Kd → Type
  | .int _ => Int | .bool => Bool | .str => ByteArray | .ptr => Option Addr | .slc => Slc | .any => Value

def Kd.inj : (k : Kd) → k.T → Value
  | .int k, n => .int k n
  | .bool, b => .bool b
  | .str, s => .string s
  | .ptr, p => .pointer p
  | .slc, s => .slice s.a s.len s.cap
  | .any, v => v

def Kd.prj : (k : Kd) → Value → Option k.T
  | .int k, .int k' n => match decide (k = k') with
    | true => some n
    | false => none
  | .bool, .bool b => some b
  | .str, .string s => some s
  | .ptr, .pointer p => some p
  | .slc, .slice a n c => some ⟨a, n, c⟩
  | .any, v => some v
  | _, _ => none

theorem Kd.prj_inj {k : Kd} {v : Value} {x : k.T} (h : k.prj v = some x) : k.inj x = v := by
  cases k <;> cases v <;> simp_all [Kd.prj, Kd.inj] <;> (try (cases h; exact ⟨rfl, rfl, rfl⟩))
  rename_i k k' n
  by_cases e : k = k' <;> simp_all

def kdOf (P : Program) (t : TypeId) : Kd :=
  match P.underlying t with
  | some (.int k) => .int k
  | some .bool => .bool
  | some .string => .str
  | some (.pointer _) => .ptr
  | some (.slice _) => .slc
  | _ => .any

def flatT (P : Program) : Nat → TypeId → List Kd
  | 0, _ => []
  | d + 1, t => match P.underlying t with
    | some (.struct fs) => fs.toList.flatMap fun f => flatT P d f.type
    | some (.array n e) => (List.replicate n (flatT P d e)).flatten
    | _ => [kdOf P t]

def isAggT (P : Program) (t : TypeId) : Bool :=
  match P.underlying t with
  | some (.struct _) | some (.array _ _) => true
  | _ => false

def ExK (k : Kd) (q : Value → Prop) : Prop :=
  match k with
  | .int kk => ∃ n : Int, q (.int kk n)
  | .bool => ∃ b : Bool, q (.bool b)
  | .str => ∃ s : ByteArray, q (.string s)
  | .ptr => ∃ p : Option Addr, q (.pointer p)
  | .slc => ∃ s : Slc, q (.slice s.a s.len s.cap)
  | .any => ∃ v : Value, q v

theorem ExK.ex {k : Kd} {q : Value → Prop} (h : ExK k q) : ∃ v, q v := by
  cases k <;> obtain ⟨x, hx⟩ := h <;> exact ⟨_, hx⟩

def ExL : List Kd → (List Value → Prop) → Prop
  | [], q => q []
  | k :: ks, q => ExK k fun v => ExL ks fun vs => q (v :: vs)

theorem ExL.ex {ks : List Kd} {q : List Value → Prop} (h : ExL ks q) : ∃ v, q v := by
  induction ks generalizing q with
  | nil => exact ⟨[], h⟩
  | cons k ks ih =>
    obtain ⟨v, h⟩ := ExK.ex h
    obtain ⟨vs, h⟩ := ih h
    exact ⟨_, h⟩

def ExV1 (P : Program) (t : TypeId) (q : Value → Prop) : Prop :=
  match isAggT P t with
  | true => ExL (flatT P 10 t) fun vs => q (.agg ⟨vs⟩)
  | false => ExK (kdOf P t) q

theorem ExV1.ex {P : Program} {t : TypeId} {q : Value → Prop} (h : ExV1 P t q) : ∃ v, q v := by
  unfold ExV1 at h
  split at h
  · obtain ⟨v, h⟩ := ExL.ex h; exact ⟨_, h⟩
  · exact ExK.ex h

def ExVs (P : Program) : List TypeId → (List Value → Prop) → Prop
  | [], q => q []
  | t :: ts, q => ExV1 P t fun v => ExVs P ts fun vs => q (v :: vs)

theorem ExVs.ex {P : Program} {ts : List TypeId} {q : List Value → Prop} (h : ExVs P ts q) : ∃ v, q v := by
  induction ts generalizing q with
  | nil => exact ⟨[], h⟩
  | cons t ts ih =>
    obtain ⟨v, h⟩ := ExV1.ex h
    obtain ⟨vs, h⟩ := ih h
    exact ⟨_, h⟩

/-- There is a value of the type (written out by its kind). -/
def ExV (P : Program) (t : TypeId) (q : Value → Prop) : Prop :=
  match P.underlying t with
  | some (.tuple ts) => ExVs P ts.toList fun vs => q (.tuple ⟨vs⟩)
  | _ => ExV1 P t q

theorem ExV.ex {P : Program} {t : TypeId} {q : Value → Prop} (h : ExV P t q) : ∃ v, q v := by
  unfold ExV at h
  split at h
  · obtain ⟨v, h⟩ := ExVs.ex h; exact ⟨_, h⟩
  · exact ExV1.ex h

/-- The call has returned a value. -/
def Rv (R : Value → World → Prop) : Ending → World → Prop := fun e w => ∃ v, e = .returned v ∧ R v w

theorem use {P : Program} {f : FuncId} {args : Array Value} {w : World} {R R' : Value → World → Prop}
    (h : Calls P f args w (Rv R)) (hr : ∀ v w', R v w' → R' v w') : Calls P f args w (Rv R') :=
  h.mono fun _ _ ⟨v, he, h⟩ => ⟨v, he, hr _ _ h⟩

/-- A round of a range over a function. -/
def YieldC (P : Program) (l : Nat) (args : Array Value) (w : World) (R : Value → World → Prop) : Prop :=
  YieldAt Fence.wide 0 P l args w (Rv R)

/-- A function value is called. -/
def CallFV (P : Program) (G : Nat → Bool) (f : Value) (args : List Value) (w : World) (R : Value → World → Prop) : Prop :=
  match f with
  | .func (.func g) first cap => match G g with
    | true => Calls P g ⟨first.toList ++ (args ++ cap.toList)⟩ w (Rv R)
    | false => False
  | .func (.yield l) first _ => YieldC P l ⟨first.toList ++ args⟩ w R
  | _ => False

def wv (v : Option Value) (q : Value → Prop) : Prop := match v with
  | some v => q v
  | none => False
def wb (v : Value) (q : Bool → Prop) : Prop := match v with
  | .bool b => q b
  | _ => False
def wi (v : Value) (q : IntKind → Int → Prop) : Prop := match v with
  | .int k n => q k n
  | _ => False
def wp (v : Value) (q : Option Addr → Prop) : Prop := match v with
  | .pointer p => q p
  | _ => False
@[reducible] def wa (p : Option Addr) (q : Addr → Prop) : Prop := match p with
  | some a => q a
  | none => False
def wsl (v : Value) (q : Option Addr → Nat → Nat → Prop) : Prop := match v with
  | .slice a n c => q a n c
  | _ => False

theorem wv.ex {v : Option Value} {q : Value → Prop} (h : wv v q) : ∃ x, v = some x ∧ q x := by
  cases v with
  | none => exact h.elim
  | some x => exact ⟨x, rfl, h⟩
theorem wb.ex {v : Value} {q : Bool → Prop} (h : wb v q) : ∃ x, v = .bool x ∧ q x := by
  cases v <;> first | exact h.elim | exact ⟨_, rfl, h⟩
theorem wi.ex {v : Value} {q : IntKind → Int → Prop} (h : wi v q) : ∃ k n, v = .int k n ∧ q k n := by
  cases v <;> first | exact h.elim | exact ⟨_, _, rfl, h⟩
theorem wp.ex {v : Value} {q : Option Addr → Prop} (h : wp v q) : ∃ x, v = .pointer x ∧ q x := by
  cases v <;> first | exact h.elim | exact ⟨_, rfl, h⟩
theorem wa.ex {v : Option Addr} {q : Addr → Prop} (h : wa v q) : ∃ x, v = some x ∧ q x := by
  cases v <;> first | exact h.elim | exact ⟨_, rfl, h⟩
theorem wsl.ex {v : Value} {q : Option Addr → Nat → Nat → Prop} (h : wsl v q) : ∃ a n c, v = .slice a n c ∧ q a n c := by
  cases v <;> first | exact h.elim | exact ⟨_, _, _, rfl, h⟩

/-- A run of the model's own, with the result written out by its type. -/
def Runs (P : Program) (t : TypeId) (m : Sem Value) (w : World) (k : Value → World → Prop) : Prop :=
  ∃ w', ExV P t fun v => m.run P w = .ok v w' ∧ k v w'

def Does (P : Program) (m : Sem Unit) (w : World) (k : World → Prop) : Prop :=
  ∃ w', m.run P w = .ok () w' ∧ k w'

/-- Is a value nil, of a type that has nil? -/
def isNilV : Value → Bool
  | .pointer p => p.isNone
  | .slice a _ _ => a.isNone
  | .map m => m.isNone
  | .nilFunc | .nilIface => true
  | _ => false

/-- A value that is stored into one cell. -/
def oneC (v : Value) (q : Prop) : Prop := match v with
  | .agg _ | .tuple _ => False
  | _ => q

def storesC (w : World) (a : Addr) : List Value → Nat → (World → Prop) → Prop
  | [], _, k => k w
  | v :: vs, i, k => oneC v ((∃ u, w.cell? (a.add i) = some u) ∧ w.frozen? (a.add i) = false ∧ storesC (w.setCell (a.add i) v) a vs (i + 1) k)

def cellsL : Value → List Value
  | .agg cs => cs.toList
  | v => [v]

theorem cellsL_eq (v : Value) : v.cells = ⟨cellsL v⟩ := by cases v <;> rfl

def storeC (w : World) (a : Addr) (v : Value) (k : World → Prop) : Prop :=
  match v with
  | .agg cs => storesC w a cs.toList 0 k
  | v => oneC v ((∃ u, w.cell? a = some u) ∧ w.frozen? a = false ∧ k (w.setCell a v))

def sizeIs (P : Program) (t : TypeId) (n : Nat) : Bool := match P.info? t with
  | some i => Nat.beq i.size n
  | none => false

def szOf (P : Program) (t : TypeId) : Nat := match P.info? t with
  | some i => i.size
  | none => 0
def hasT (P : Program) (t : TypeId) : Bool := match P.info? t, P.underlying t with
  | some _, some _ => true
  | _, _ => false

theorem szOf_run {P : Program} {t : TypeId} {w : World} (h : hasT P t = true) : (sizeOf t).run P w = .ok (szOf P t) w := by
  unfold hasT at h
  unfold szOf
  cases hi : P.info? t with
  | none => simp [hi] at h
  | some i => simp [sizeOf, typeInfo, hi]

/-- A test parts the way. -/
@[reducible] def br (b : Bool) (x y : Prop) : Prop := match b with
  | true => x
  | false => y
theorem br_dec {c : Prop} [Decidable c] {x y : Prop} (h1 : c → x) (h2 : ¬ c → y) : br (decide c) x y := by
  by_cases h : c
  · simp [br, h, h1 h]
  · simp [br, h, h2 h]
theorem br_not {b : Bool} {x y : Prop} (h : br b y x) : br (!b) x y := by cases b <;> exact h
theorem br_of {b : Bool} {x y : Prop} (h1 : b = true → x) (h2 : b = false → y) : br b x y := by
  cases b
  · exact h2 rfl
  · exact h1 rfl

def ck (b : Bool) (q : Prop) : Prop := match b with
  | true => q
  | false => False
theorem ck.ex {b : Bool} {q : Prop} (h : ck b q) : b = true ∧ q := by cases b <;> first | exact h.elim | exact ⟨rfl, h⟩

end Go.VC

namespace Go.VC
open Go

def bAnd (k : IntKind) (m n : Int) : Int := k.wrap (BitVec.ofInt k.bits m &&& BitVec.ofInt k.bits n).toNat
def bOr (k : IntKind) (m n : Int) : Int := k.wrap (BitVec.ofInt k.bits m ||| BitVec.ofInt k.bits n).toNat
def bXor (k : IntKind) (m n : Int) : Int := k.wrap (BitVec.ofInt k.bits m ^^^ BitVec.ofInt k.bits n).toNat
def bAndNot (k : IntKind) (m n : Int) : Int := k.wrap (BitVec.ofInt k.bits m &&& ~~~BitVec.ofInt k.bits n).toNat
def shL (k : IntKind) (m n : Int) : Int := k.wrap (m * 2 ^ (min n.toNat k.bits))
def shR (k : IntKind) (m n : Int) : Int := m.fdiv (2 ^ (min n.toNat k.bits))

def eqNil (P : Program) (t : TypeId) (a : Value) (k : Bool → Prop) : Prop :=
  match P.underlying t with
  | some (.pointer _) => wp a fun p => k p.isNone
  | some (.slice _) => wsl a fun p _ _ => k p.isNone
  | some (.interface _) => (a = .nilIface ∨ ∃ t' v, a = .iface t' v) ∧ k (isNilV a)
  | some (.func _ _ _) => (a = .nilFunc ∨ ∃ f x y, a = .func f x y) ∧ k (isNilV a)
  | some (.map _ _) => (∃ m, a = .map m) ∧ k (isNilV a)
  | _ => False

def nilFor (P : Program) (t : TypeId) (c : Value) : Bool :=
  match P.underlying t, c with
  | some (.pointer _), .pointer none => true
  | some (.slice _), .slice none _ _ => true
  | some (.interface _), .nilIface => true
  | some (.func _ _ _), .nilFunc => true
  | some (.map _ _), .map none => true
  | _, _ => false

def isConstO : Operand → Bool
  | .const _ => true
  | _ => false

def trEq (P : Program) (neg : Bool) (op : BinOp) (t rt : TypeId) (x y : Operand) (a b : Value) (w : World) (k : Value → World → Prop) : Prop :=
  match isConstO y && nilFor P t b with
  | true => eqNil P t a fun r => k (.bool (match neg with | true => !r | false => r)) w
  | false => match isConstO x && nilFor P t a with
    | true => eqNil P t b fun r => k (.bool (match neg with | true => !r | false => r)) w
    | false => Runs P rt (do eqGuard op t x y a b; binOp op t a b) w k

def trBin (P : Program) (op : BinOp) (t rt : TypeId) (x y : Operand) (a b : Value) (w : World) (k : Value → World → Prop) : Prop :=
  match a, b with
  | .int ka m, .int kb n =>
    match op with
    | .shl => 0 ≤ n ∧ k (.int ka (shL ka m n)) w
    | .shr => 0 ≤ n ∧ k (.int ka (shR ka m n)) w
    | .add => ck (decide (ka = kb)) (k (.int ka (ka.wrap (m + n))) w)
    | .sub => ck (decide (ka = kb)) (k (.int ka (ka.wrap (m - n))) w)
    | .mul => ck (decide (ka = kb)) (k (.int ka (ka.wrap (m * n))) w)
    | .quo => ck (decide (ka = kb)) (n ≠ 0 ∧ k (.int ka (ka.wrap (m.tdiv n))) w)
    | .rem => ck (decide (ka = kb)) (n ≠ 0 ∧ k (.int ka (m.tmod n)) w)
    | .and => ck (decide (ka = kb)) (k (.int ka (bAnd ka m n)) w)
    | .or => ck (decide (ka = kb)) (k (.int ka (bOr ka m n)) w)
    | .xor => ck (decide (ka = kb)) (k (.int ka (bXor ka m n)) w)
    | .andNot => ck (decide (ka = kb)) (k (.int ka (bAndNot ka m n)) w)
    | .eql => ck (decide (ka = kb)) (k (.bool (decide (m = n))) w)
    | .neq => ck (decide (ka = kb)) (k (.bool (!decide (m = n))) w)
    | .lss => ck (decide (ka = kb)) (k (.bool (decide (m < n))) w)
    | .leq => ck (decide (ka = kb)) (k (.bool (decide (m ≤ n))) w)
    | .gtr => ck (decide (ka = kb)) (k (.bool (decide (n < m))) w)
    | .geq => ck (decide (ka = kb)) (k (.bool (decide (n ≤ m))) w)
  | .string s, .string u =>
    match op with
    | .add => s.size + u.size ≤ 9223372036854775807 ∧ k (.string (s ++ u)) w
    | .eql => k (.bool (s.toList == u.toList)) w
    | .neq => k (.bool (!(s.toList == u.toList))) w
    | .lss => k (.bool (Op.bytesLess s.toList u.toList)) w
    | .leq => k (.bool (Op.bytesLess s.toList u.toList || s.toList == u.toList)) w
    | .gtr => k (.bool (!(Op.bytesLess s.toList u.toList || s.toList == u.toList))) w
    | .geq => k (.bool (!Op.bytesLess s.toList u.toList)) w
    | _ => False
  | .bool p, .bool q =>
    match op, P.underlying t with
    | .eql, some .bool => k (.bool (p == q)) w
    | .neq, some .bool => k (.bool (!(p == q))) w
    | _, _ => False
  | a, b =>
    match op with
    | .eql => trEq P false op t rt x y a b w k
    | .neq => trEq P true op t rt x y a b w k
    | _ => False

theorem eqGuard_int {P : Program} {w : World} (op : BinOp) (t : TypeId) (x y : Operand) (ka kb : IntKind) (m n : Int) : (eqGuard op t x y (.int ka m) (.int kb n)).run P w = .ok () w := by
  unfold eqGuard; cases op <;> simp
theorem eqGuard_str {P : Program} {w : World} (op : BinOp) (t : TypeId) (x y : Operand) (m n : ByteArray) : (eqGuard op t x y (.string m) (.string n)).run P w = .ok () w := by
  unfold eqGuard; cases op <;> simp
theorem eqGuard_bool {P : Program} {w : World} (op : BinOp) (t : TypeId) (x y : Operand) (m n : Bool) : (eqGuard op t x y (.bool m) (.bool n)).run P w = .ok () w := by
  unfold eqGuard; cases op <;> simp
theorem run_und {P : Program} {w : World} {t : TypeId} {d : TypeDesc} (h : P.underlying t = some d) : (underlying t).run P w = .ok d w := by
  simp [underlying, h]

section
variable {P : Program} {t : TypeId} {w : World}
theorem equalIn_bool (d : Nat) (hu : P.underlying t = some .bool) (p q : Bool) : (Op.equalIn (d + 1) t (.bool p) (.bool q)).run P w = .ok (p == q) w := by
  simp [Op.equalIn, run_und hu]
theorem equalIn_ptr (d : Nat) {e : TypeId} (hu : P.underlying t = some (.pointer e)) (p : Option Addr) : (Op.equalIn (d + 1) t (.pointer p) (.pointer none)).run P w = .ok p.isNone w := by
  cases p <;> simp [Op.equalIn, run_und hu]
theorem equalIn_ptr' (d : Nat) {e : TypeId} (hu : P.underlying t = some (.pointer e)) (p : Option Addr) : (Op.equalIn (d + 1) t (.pointer none) (.pointer p)).run P w = .ok p.isNone w := by
  cases p <;> simp [Op.equalIn, run_und hu]
theorem equalIn_slc (d : Nat) {e : TypeId} (hu : P.underlying t = some (.slice e)) (p : Option Addr) (a b c n : Nat) : (Op.equalIn (d + 1) t (.slice p a b) (.slice none c n)).run P w = .ok p.isNone w := by
  cases p <;> simp [Op.equalIn, run_und hu]
theorem equalIn_slc' (d : Nat) {e : TypeId} (hu : P.underlying t = some (.slice e)) (p : Option Addr) (a b c n : Nat) : (Op.equalIn (d + 1) t (.slice none c n) (.slice p a b)).run P w = .ok p.isNone w := by
  cases p <;> simp [Op.equalIn, run_und hu]
theorem equalIn_ifc (d : Nat) {e} (hu : P.underlying t = some (.interface e)) {a : Value} (ha : a = .nilIface ∨ ∃ t' v, a = .iface t' v) :
    (Op.equalIn (d + 1) t a .nilIface).run P w = .ok (isNilV a) w ∧ (Op.equalIn (d + 1) t .nilIface a).run P w = .ok (isNilV a) w := by
  rcases ha with rfl | ⟨t', v, rfl⟩ <;> simp [Op.equalIn, run_und hu, isNilV]
theorem equalIn_fun (d : Nat) {e1 e2 e3} (hu : P.underlying t = some (.func e1 e2 e3)) {a : Value} (ha : a = .nilFunc ∨ ∃ f x y, a = .func f x y) :
    (Op.equalIn (d + 1) t a .nilFunc).run P w = .ok (isNilV a) w ∧ (Op.equalIn (d + 1) t .nilFunc a).run P w = .ok (isNilV a) w := by
  rcases ha with rfl | ⟨t', v, x, rfl⟩ <;> simp [Op.equalIn, run_und hu, isNilV]
theorem equalIn_map (d : Nat) {e1 e2} (hu : P.underlying t = some (.map e1 e2)) (m : Option Nat) :
    (Op.equalIn (d + 1) t (.map m) (.map none)).run P w = .ok m.isNone w ∧ (Op.equalIn (d + 1) t (.map none) (.map m)).run P w = .ok m.isNone w := by
  cases m <;> simp [Op.equalIn, run_und hu]
end

theorem eq_of_equal {P : Program} {t : TypeId} {w : World} {x y : Operand} {a c : Value} {r : Bool} (hg : ∀ op, (eqGuard op t x y a c).run P w = .ok () w)
    (hb : (binOp .eql t a c) = (do pure (.bool (← Op.equal t a c)))) (hb' : (binOp .neq t a c) = (do pure (.bool (!(← Op.equal t a c))))) (h : ∀ d, (Op.equalIn (d + 1) t a c).run P w = .ok r w) :
    (do eqGuard .eql t x y a c; binOp .eql t a c : Sem Value).run P w = .ok (.bool r) w ∧ (do eqGuard .neq t x y a c; binOp .neq t a c : Sem Value).run P w = .ok (.bool !r) w := by
  have h' : (Op.equal t a c).run P w = .ok r w := h 9999
  rw [hb, hb']
  constructor <;> simp [hg, h']

theorem eqNil_run {P : Program} {t : TypeId} {a c : Value} {w : World} {x y : Operand} {k : Bool → Prop} (hc : nilFor P t c = true) (hy : isConstO y = true) (h : eqNil P t a k) :
    ∃ r, k r ∧ ((do eqGuard .eql t x y a c; binOp .eql t a c : Sem Value).run P w = .ok (.bool r) w ∧ (do eqGuard .neq t x y a c; binOp .neq t a c : Sem Value).run P w = .ok (.bool !r) w) ∧
      ((do eqGuard .eql t y x c a; binOp .eql t c a : Sem Value).run P w = .ok (.bool r) w ∧ (do eqGuard .neq t y x c a; binOp .neq t c a : Sem Value).run P w = .ok (.bool !r) w) := by
  obtain ⟨cv, rfl⟩ : ∃ cv, y = .const cv := by cases y <;> simp_all [isConstO]
  unfold nilFor at hc
  split at hc
  · rename_i e hu
    simp only [eqNil, hu] at h
    obtain ⟨p, rfl, h⟩ := wp.ex h
    exact ⟨_, h, eq_of_equal (fun op => by cases op <;> simp [eqGuard]) rfl rfl (fun d => equalIn_ptr d hu p), eq_of_equal (fun op => by cases op <;> simp [eqGuard]) rfl rfl (fun d => equalIn_ptr' d hu p)⟩
  · rename_i e n c' hu
    simp only [eqNil, hu] at h
    obtain ⟨p, m, q, rfl, h⟩ := wsl.ex h
    exact ⟨_, h, eq_of_equal (fun op => by cases op <;> simp [eqGuard]) rfl rfl (fun d => equalIn_slc d hu p _ _ _ _), eq_of_equal (fun op => by cases op <;> simp [eqGuard]) rfl rfl (fun d => equalIn_slc' d hu p _ _ _ _)⟩
  · rename_i e hu
    simp only [eqNil, hu] at h
    obtain ⟨ha, h⟩ := h
    refine ⟨_, h, eq_of_equal (fun op => ?_) ?_ ?_ (fun d => (equalIn_ifc d hu ha).1), eq_of_equal (fun op => ?_) ?_ ?_ (fun d => (equalIn_ifc d hu ha).2)⟩ <;> rcases ha with rfl | ⟨t', v, rfl⟩ <;> first | rfl | (cases op <;> simp [eqGuard])
  · rename_i hu
    simp only [eqNil, hu] at h
    obtain ⟨ha, h⟩ := h
    refine ⟨_, h, eq_of_equal (fun op => ?_) ?_ ?_ (fun d => (equalIn_fun d hu ha).1), eq_of_equal (fun op => ?_) ?_ ?_ (fun d => (equalIn_fun d hu ha).2)⟩ <;> rcases ha with rfl | ⟨f, p, q, rfl⟩ <;> first | rfl | (cases op <;> simp [eqGuard])
  · rename_i hu
    simp only [eqNil, hu] at h
    obtain ⟨⟨m, rfl⟩, h⟩ := h
    exact ⟨_, h, eq_of_equal (fun op => by cases op <;> simp [eqGuard]) rfl rfl (fun d => (equalIn_map d hu m).1), eq_of_equal (fun op => by cases op <;> simp [eqGuard]) rfl rfl (fun d => (equalIn_map d hu m).2)⟩
  · cases hc

theorem trEq_run {P : Program} {neg : Bool} {op : BinOp} {t rt : TypeId} {x y : Operand} {a b : Value} {w : World} {k : Value → World → Prop} (hop : op = match neg with | true => .neq | false => .eql)
    (h : trEq P neg op t rt x y a b w k) : ∃ v w', (do eqGuard op t x y a b; binOp op t a b : Sem Value).run P w = .ok v w' ∧ k v w' := by
  unfold trEq at h
  split at h
  · rename_i hc
    simp only [Bool.and_eq_true] at hc
    obtain ⟨r, hk, ⟨h1, h2⟩, _⟩ := eqNil_run (w := w) (x := x) hc.2 hc.1 h
    subst hop
    cases neg
    · exact ⟨_, _, h1, hk⟩
    · exact ⟨_, _, h2, hk⟩
  · split at h
    · rename_i hc
      simp only [Bool.and_eq_true] at hc
      obtain ⟨r, hk, _, ⟨h1, h2⟩⟩ := eqNil_run (w := w) (x := y) hc.2 hc.1 h
      subst hop
      cases neg
      · exact ⟨_, _, h1, hk⟩
      · exact ⟨_, _, h2, hk⟩
    · obtain ⟨w', h⟩ := h
      obtain ⟨v, h1, h2⟩ := ExV.ex h
      exact ⟨v, w', h1, h2⟩

theorem trBin_run {P : Program} {op : BinOp} {t rt : TypeId} {x y : Operand} {a b : Value} {w : World} {k : Value → World → Prop}
    (h : trBin P op t rt x y a b w k) : ∃ v w', (do eqGuard op t x y a b; binOp op t a b : Sem Value).run P w = .ok v w' ∧ k v w' := by
  unfold trBin at h
  split at h
  · rename_i ka m kb n
    simp only [Sem.run_bind, eqGuard_int, Result.andThen_ok]
    cases op <;> simp only at h
    case shl => exact ⟨_, w, by simp [binOp, Op.shift, show ¬ n < 0 by omega]; rfl, h.2⟩
    case shr => exact ⟨_, w, by simp [binOp, Op.shift, show ¬ n < 0 by omega]; rfl, h.2⟩
    all_goals
      obtain ⟨hk, h'⟩ := ck.ex h
      clear h
      have hk := of_decide_eq_true hk
      subst hk
      have h := h'
      clear h'
    case quo => exact ⟨_, w, by simp [binOp, Op.intDiv, h.1], h.2⟩
    case rem => exact ⟨_, w, by simp [binOp, Op.intDiv, h.1], h.2⟩
    case andNot => exact ⟨_, w, by simp only [binOp, ne_eq, not_true_eq_false, ↓reduceIte, Op.intBits]; rfl, h⟩
    all_goals exact ⟨_, w, by simp [binOp, Op.intArith, Op.intBits, Op.intCmp]; try rfl, h⟩
  · rename_i s u
    simp only [Sem.run_bind, eqGuard_str, Result.andThen_ok]
    cases op <;> simp only at h
    case add =>
      obtain ⟨h1, h⟩ := h
      exact ⟨_, w, by simp [binOp, Op.stringOp, IntKind.max, IntKind.signed, IntKind.bits]; omega, h⟩
    all_goals first | exact h.elim | exact ⟨_, w, by simp [binOp, Op.stringOp], h⟩
  · rename_i p q
    simp only [Sem.run_bind, eqGuard_bool, Result.andThen_ok]
    split at h
    · rename_i hu
      have he := equalIn_bool (w := w) 9999 hu p q
      exact ⟨_, w, by rw [show binOp .eql t (.bool p) (.bool q) = (do pure (.bool (← Op.equalIn (9999 + 1) t (.bool p) (.bool q)))) from rfl]; simp only [Sem.run_bind, he, Result.andThen_ok, Sem.run_pure], h⟩
    · rename_i hu
      have he := equalIn_bool (w := w) 9999 hu p q
      exact ⟨_, w, by rw [show binOp .neq t (.bool p) (.bool q) = (do pure (.bool (!(← Op.equalIn (9999 + 1) t (.bool p) (.bool q))))) from rfl]; simp only [Sem.run_bind, he, Result.andThen_ok, Sem.run_pure], h⟩
    · exact h.elim
  · split at h
    · exact trEq_run rfl h
    · exact trEq_run rfl h
    · exact h.elim

/-- A comparison with nil is told ahead of the rest (the other side may be unknown). -/
def trBinN (P : Program) (op : BinOp) (t rt : TypeId) (x y : Operand) (a b : Value) (w : World) (k : Value → World → Prop) : Prop :=
  match op with
  | .eql => match isConstO y && nilFor P t b with
    | true => eqNil P t a fun r => k (.bool r) w
    | false => trBin P .eql t rt x y a b w k
  | .neq => match isConstO y && nilFor P t b with
    | true => eqNil P t a fun r => k (.bool !r) w
    | false => trBin P .neq t rt x y a b w k
  | op => trBin P op t rt x y a b w k

theorem trBinN_run {P : Program} {op : BinOp} {t rt : TypeId} {x y : Operand} {a b : Value} {w : World} {k : Value → World → Prop}
    (h : trBinN P op t rt x y a b w k) : ∃ v w', (do eqGuard op t x y a b; binOp op t a b : Sem Value).run P w = .ok v w' ∧ k v w' := by
  unfold trBinN at h
  split at h
  · split at h
    · rename_i hc
      simp only [Bool.and_eq_true] at hc
      obtain ⟨r, hk, ⟨h1, _⟩, _⟩ := eqNil_run (w := w) (x := x) hc.2 hc.1 h
      exact ⟨_, _, h1, hk⟩
    · exact trBin_run h
  · split at h
    · rename_i hc
      simp only [Bool.and_eq_true] at hc
      obtain ⟨r, hk, ⟨_, h2⟩, _⟩ := eqNil_run (w := w) (x := x) hc.2 hc.1 h
      exact ⟨_, _, h2, hk⟩
    · exact trBin_run h
  · exact trBin_run h

end Go.VC

namespace Go.VC
open Go

abbrev Eval := Operand → Option Value
abbrev K := Value → World → Prop

def evs (e : Eval) : List Operand → Option (List Value)
  | [] => some []
  | x :: xs => match e x, evs e xs with
    | some v, some vs => some (v :: vs)
    | _, _ => none

def evps (e : Eval) : List (Nat × Operand) → Option (List (Nat × Value))
  | [] => some []
  | (i, x) :: xs => match e x, evps e xs with
    | some v, some vs => some ((i, v) :: vs)
    | _, _ => none

def wvs {α : Type} (v : Option α) (q : α → Prop) : Prop := match v with
  | some v => q v
  | none => False
theorem wvs.ex {α : Type} {v : Option α} {q : α → Prop} (h : wvs v q) : ∃ x, v = some x ∧ q x := by
  cases v with
  | none => exact h.elim
  | some x => exact ⟨x, rfl, h⟩

/-- Cells of a literal, written into its zero cells. -/
def fillL (place : Nat → Option (Nat × Nat)) (cells : List Value) : List (Nat × Value) → Option (List Value)
  | [] => some cells
  | (i, v) :: rest =>
    match place i with
    | none => none
    | some (off, size) => match Nat.beq (cellsL v).length size && Nat.ble (off + size) cells.length with
      | true => fillL place (cells.take off ++ (cellsL v ++ cells.drop (off + size))) rest
      | false => none

/-- 'T{..}', 'x.f', a variable of the type: the fields' places. -/
def fieldL (fs : List Field) (i : Nat) : Option Field := fs[i]?

def wio (e : Eval) (x : Option Operand) (d : Int) (q : Int → Prop) : Prop := match x with
  | none => q d
  | some x => wv (e x) fun v => wi v fun _ n => q n

def trSlice (P : Program) (t : TypeId) (e : Eval) (lo hi : Option Operand) (x : Value) (w : World) (k : K) : Prop :=
  match P.underlying t, x with
  | some .string, .string s => wio e lo 0 fun l => wio e hi s.size fun h => 0 ≤ l ∧ l ≤ h ∧ h ≤ s.size ∧ k (.string (s.extract l.toNat h.toNat)) w
  | some (.slice el), .slice a n c => wio e lo 0 fun l => wio e hi n fun h => 0 ≤ l ∧ l ≤ h ∧ h ≤ c ∧
      ck (hasT P el) (k (.slice (if c = l.toNat then a else a.map (·.add (l.toNat * szOf P el))) (h.toNat - l.toNat) (c - l.toNat)) w)
  | _, _ => False

def nilC (v : Value) (k : Value → Prop) : Prop := match v with
  | .pointer p => wa p fun a => k (.pointer (some a))
  | .nilIface | .nilFunc => False
  | .func (.method _) _ _ => False
  | v => k v

/-- The cells of a variable, from a place on. -/
def ldC (w : World) (a : Addr) : List Value → Nat → Prop → Prop
  | [], _, q => q
  | v :: vs, i, q => w.cell? (a.add i) = some v ∧ ldC w a vs (i + 1) q
theorem ldC.out {w : World} {a : Addr} : ∀ {vs : List Value} {i : Nat} {q : Prop}, ldC w a vs i q → (∀ j v, vs[j]? = some v → w.cell? (a.add (i + j)) = some v) ∧ q
  | [], i, q, h => ⟨fun j v hj => by simp at hj, h⟩
  | u :: vs, i, q, h => by
    obtain ⟨h0, h⟩ := h
    obtain ⟨h1, h2⟩ := ldC.out h
    refine ⟨fun j v hj => ?_, h2⟩
    cases j with
    | zero => simp at hj; subst hj; exact h0
    | succ j => have := h1 j v (by simpa using hj); rwa [show i + 1 + j = i + (j + 1) by omega] at this

def trLoad (P : Program) (t : TypeId) (a : Addr) (w : World) (k : K) : Prop :=
  match isAggT P t with
  | true => ExL (flatT P 10 t) fun vs => ck (sizeIs P t vs.length) (ldC w a vs 0 (k (.agg ⟨vs⟩) w))
  | false => ck (hasT P t) (ExK (kdOf P t) fun v => w.cell? a = some v ∧ k v w)

def trStore (P : Program) (t : TypeId) (a : Addr) (v : Value) (w : World) (k : World → Prop) : Prop :=
  match v with
  | .agg cs => ck (sizeIs P t cs.toList.length) (storesC w a cs.toList 0 k)
  | v => ck (sizeIs P t 1) (oneC v ((∃ u, w.cell? a = some u) ∧ w.frozen? a = false ∧ k (w.setCell a v)))

def trConv (P : Program) (s d rt : TypeId) (x : Value) (w : World) (k : K) : Prop :=
  match P.underlying s, P.underlying d, x with
  | some (.int _), some (.int kd), .int _ n => k (.int kd (kd.wrap n)) w
  | some .string, some .string, .string s => k (.string s) w
  | _, _, _ => Runs P rt (convert s d x) w k

def trIndex (P : Program) (t : TypeId) (x ix : Value) (w : World) (k : K) : Prop :=
  match P.underlying t, x, ix with
  | some .string, .string s, .int _ i => ∃ c, 0 ≤ i ∧ s[i.toNat]? = some c ∧ k (.int .u8 (UInt8.toNat c)) w
  | some (.array n el), .agg cs, .int _ i => ck (hasT P el && hasT P el) (0 ≤ i ∧ i < n ∧ (match isAggT P el with
      | true => k (.agg ⟨(cs.toList.drop (i.toNat * szOf P el)).take (szOf P el)⟩) w
      | false => ∃ v, cs.toList[i.toNat * szOf P el]? = some v ∧ k v w))
  | _, _, _ => False

def trIndexAddr (P : Program) (t : TypeId) (x ix : Value) (w : World) (k : K) : Prop :=
  match P.underlying t, x, ix with
  | some (.slice el), .slice a n _, .int _ i => ck (hasT P el) (0 ≤ i ∧ i < n ∧ ∃ b, a = some b ∧ k (.pointer (some (b.add (i.toNat * szOf P el)))) w)
  | some (.array n el), .pointer a, .int _ i => ck (hasT P el) (0 ≤ i ∧ i < n ∧ ∃ b, a = some b ∧ k (.pointer (some (b.add (i.toNat * szOf P el)))) w)
  | _, _, _ => False

def trField (P : Program) (t : TypeId) (x : Value) (f : Nat) (w : World) (k : K) : Prop :=
  match P.underlying t, x with
  | some (.struct fs), .agg cs => match fs.toList[f]? with
    | some f => ck (hasT P f.type) (match isAggT P f.type with
      | true => k (.agg ⟨(cs.toList.drop f.offset).take (szOf P f.type)⟩) w
      | false => wvs cs.toList[f.offset]? fun v => k v w)
    | none => False
  | _, _ => False

def trFieldAddr (P : Program) (t : TypeId) (x : Value) (f : Nat) (w : World) (k : K) : Prop :=
  match P.underlying t with
  | some (.struct fs) => match fs.toList[f]? with
    | some f => ck (hasT P f.type && !Nat.beq (szOf P f.type) 0) (wp x fun p => wa p fun a => k (.pointer (some (a.add f.offset))) w)
    | none => False
  | _ => False

def zeroOf (P : Program) (t : TypeId) : Option Value := (P.info? t).bind (·.zero)

def places (P : Program) (t : TypeId) (i : Nat) : Option (Nat × Nat) :=
  match P.underlying t with
  | some (.struct fs) => match fs.toList[i]? with
    | some f => some (f.offset, szOf P f.type)
    | none => none
  | some (.array _ el) => some (i * szOf P el, szOf P el)
  | _ => none

def fieldsOk (P : Program) (t : TypeId) : Bool :=
  match P.underlying t with
  | some (.struct fs) => fs.toList.all fun f => hasT P f.type
  | some (.array _ el) => hasT P el
  | _ => false

def trBuild (P : Program) (t : TypeId) (ps : List (Nat × Value)) (w : World) (k : K) : Prop :=
  ck (fieldsOk P t) (wvs (zeroOf P t) fun z => wvs (fillL (places P t) (cellsL z) ps) fun cs => k (.agg ⟨cs⟩) w)

def zeroCellsL (z : List Value) : Nat → List Value
  | 0 => []
  | n + 1 => z ++ zeroCellsL z n

def trBuildSlice (P : Program) (t : TypeId) (n : Nat) (ps : List (Nat × Value)) (w : World) (k : K) : Prop :=
  match P.underlying t with
  | some (.slice el) => ck (hasT P el && Nat.ble (n * szOf P el) 16777216) (wvs (zeroOf P el) fun z => ck (Nat.beq (cellsL z).length (szOf P el) && Nat.ble 1 (szOf P el))
      (wvs (fillL (fun i => some (i * szOf P el, szOf P el)) (zeroCellsL (cellsL z) n) ps) fun cs =>
        k (.slice (some ⟨w.heap.size, 0, none⟩) n n) (w.alloc (.cells ⟨cs⟩ el))))
  | _ => False

def trBuiltin (P : Program) (b : Builtin) (ats : Array TypeId) (rt : TypeId) (vs : List Value) (w : World) (k : K) : Prop :=
  match b, vs with
  | .len, [.string s] => match ats.toList with
    | t :: _ => match P.underlying t with
      | some .string => k (.int .i64 s.size) w
      | _ => False
    | _ => False
  | .len, [.slice a n c] => match ats.toList with
    | t :: _ => match P.underlying t with
      | some (.slice _) => k (.int .i64 n) w
      | _ => Runs P rt (Builtin.len_ ats rt #[.slice a n c]) w k
    | _ => False
  | .len, vs => Runs P rt (Builtin.len_ ats rt ⟨vs⟩) w k
  | .max, [.int k1 m, .int _ n] => k (.int k1 (max m n)) w
  | .min, [.int k1 m, .int _ n] => k (.int k1 (min m n)) w
  | .append, vs => Runs P rt (Builtin.append_ ats rt ⟨vs⟩) w k
  | .copy, vs => Runs P rt (Builtin.copy_ ats rt ⟨vs⟩) w k
  | .clear, vs => Runs P rt (Builtin.clear_ ats rt ⟨vs⟩) w k
  | .delete, vs => Runs P rt (Builtin.delete_ ats rt ⟨vs⟩) w k
  | .cap, vs => Runs P rt (Builtin.cap_ ats rt ⟨vs⟩) w k
  | .max, vs => Runs P rt (Builtin.max_ ats rt ⟨vs⟩) w k
  | .min, vs => Runs P rt (Builtin.min_ ats rt ⟨vs⟩) w k
  | _, _ => False

/-- A method is called on an interface value. -/
def CallM (P : Program) (G : Nat → Bool) (name : String) (recv : Value) (args : List Value) (w : World) (R : K) : Prop :=
  ∃ t v f r, recv = .iface t v ∧ (method (P.types.size + Made.depth) t v name).run P w = .ok (f, r) w ∧ G f = true ∧ Calls P f ⟨r :: args⟩ w (Rv R)

def TyV (P : Program) (t : TypeId) (v : Value) (k : Value → Prop) : Prop := ExV P t fun u => v = u ∧ k u
theorem TyV.out {P : Program} {t : TypeId} {v : Value} {k : Value → Prop} (h : TyV P t v k) : k v := by
  obtain ⟨u, rfl, h⟩ := ExV.ex h
  exact h

def trOp (P : Program) (G : Nat → Bool) (e : Eval) (o : Oper) (w : World) (k : K) : Prop :=
  match o.op with
  | .move x | .assign x => wv (e x) fun v => k v w
  | .pick c a b => wv (e c) fun c => wb c fun t => br t (wv (e a) fun v => k v w) (wv (e b) fun v => k v w)
  | .nilCheck x => wv (e x) fun x => nilC x fun v => k v w
  | .binOp op t x y _ => wv (e x) fun a => wv (e y) fun b => trBinN P op t o.type x y a b w k
  | .unOp .not _ x => wv (e x) fun a => wb a fun b => k (.bool !b) w
  | .unOp .neg _ x => wv (e x) fun a => wi a fun kd n => k (.int kd (kd.wrap (0 - n))) w
  | .unOp .xor _ x => wv (e x) fun a => wi a fun kd n => k (.int kd (bXor kd (if kd.signed then -1 else kd.max) n)) w
  | .convert s d x => wv (e x) fun x => trConv P s d o.type x w k
  | .load t a => wv (e a) fun p => wp p fun p => wa p fun a => trLoad P t a w k
  | .store t a x => wv (e a) fun p => wp p fun p => wa p fun a => wv (e x) fun v => trStore P t a v w fun w' => k undef w'
  | .fieldAddr t x f => wv (e x) fun x => trFieldAddr P t x f w k
  | .field t x f => wv (e x) fun x => trField P t x f w k
  | .indexAddr t x i => wv (e x) fun x => wv (e i) fun i => trIndexAddr P t x i w k
  | .index t x i => wv (e x) fun x => wv (e i) fun i => trIndex P t x i w k
  | .extract x i => wv (e x) fun x => match x with
    | .tuple vs => wvs vs.toList[i]? fun v => k v w
    | _ => False
  | .box t x => wv (e x) fun v => k (.pointer (some ⟨w.heap.size, 0, none⟩)) (w.alloc (.cells ⟨cellsL v⟩ t))
  | .alloc t => wvs (zeroOf P t) fun z => k (.pointer (some ⟨w.heap.size, 0, none⟩)) (w.alloc (.cells ⟨cellsL z⟩ t))
  | .build t ps => wvs (evps e ps.toList) fun ps => trBuild P t ps w k
  | .buildSlice t n ps => wvs (evps e ps.toList) fun ps => trBuildSlice P t n ps w k
  | .makeFunc fn first caps => wvs (evs e first.toList) fun fs => wvs (evs e caps.toList) fun cs => k (.func fn ⟨fs⟩ ⟨cs⟩) w
  | .makeInterface t x => match P.underlying t with
    | some (.interface _) | none => False
    | _ => wv (e x) fun v => k (.iface t v) w
  | .slice t x lo hi none => wv (e x) fun x => trSlice P t e lo hi x w k
  | .makeSlice t l c => wv (e l) fun l => wv (e c) fun c => Runs P o.type (Instr.makeSlice t l c) w k
  | .makeMap t none => Runs P o.type (Instr.makeMap t none) w k
  | .makeMap t (some x) => wv (e x) fun x => Runs P o.type (Instr.makeMap t (some x)) w k
  | .lookup t x i ok => wv (e x) fun x => wv (e i) fun i => Runs P o.type (Instr.lookup t x i ok) w k
  | .mapUpdate t m x y => wv (e m) fun m => wv (e x) fun x => wv (e y) fun y => Does P (Instr.mapUpdate t m x y) w fun w' => k undef w'
  | .insert t m x y => wv (e m) fun m => wv (e x) fun x => wv (e y) fun y => Does P (Instr.mapUpdate t m x y) w fun w' => k undef w'
  | .range t x => wv (e x) fun x => Runs P o.type (Instr.range t x) w k
  | .next x s => wv (e x) fun x => Runs P o.type (Instr.next x s o.type) w k
  | .entry x => wv (e x) fun x => Runs P o.type (Instr.entry x) w k
  | .typeAssert x t u ok => wv (e x) fun x => Runs P o.type (Instr.typeAssert x t u ok) w k
  | .call { callee := .value f, args, .. } => wvs (evs e args.toList) fun vs => wv (e f) fun f => CallFV P G f vs w fun v w' => TyV P o.type v fun v => k v w'
  | .call { callee := .builtin b, args, argTypes } => wvs (evs e args.toList) fun vs => trBuiltin P b argTypes o.type vs w k
  | .call { callee := .invoke r name, args, .. } => wvs (evs e args.toList) fun vs => wv (e r) fun r => CallM P G name r vs w fun v w' => TyV P o.type v fun v => k v w'
  | _ => False

/-- What an operation's run is good for. -/
inductive Post (P : Program) (k : K) : Result Next → Prop
  | value {v : Value} {w : World} (h : k v w) : Post P k (.ok (.value v) w)
  | skip {w : World} (h : k undef w) : Post P k (.ok .skip w)
  | enter {f : FuncId} {args : Array Value} {w : World} (h : Calls P f args w (Rv k)) : Post P k (.ok (.enter f args) w)
  | round {l : Nat} {f : FuncId} {tmps : Array Value} {assign body : Code} {w : World} (h : RoundIn Fence.wide 0 P l f tmps assign body w (Rv k)) : Post P k (.ok (.round l f tmps assign body) w)

end Go.VC

namespace Go.VC
open Go

section
variable {P : Program} {w : World} {k : K}

theorem Runs.ex {t : TypeId} {m : Sem Value} (h : Runs P t m w k) : ∃ v w', m.run P w = .ok v w' ∧ k v w' := by
  obtain ⟨w', h⟩ := h
  obtain ⟨v, h1, h2⟩ := ExV.ex h
  exact ⟨v, w', h1, h2⟩

theorem post_of_run {m : Sem Value} (h : ∃ v w', m.run P w = .ok v w' ∧ k v w') : Post P k ((do pure (.value (← m)) : Sem Next).run P w) := by
  obtain ⟨v, w', h1, h2⟩ := h
  simp only [Sem.run_bind, h1, Result.andThen_ok, Sem.run_pure]
  exact .value h2

theorem post_of_does {m : Sem Unit} (h : Does P m w fun w' => k undef w') : Post P k ((do m; pure .skip : Sem Next).run P w) := by
  obtain ⟨w', h1, h2⟩ := h
  simp only [Sem.run_bind, h1, Result.andThen_ok, Sem.run_pure]
  exact .skip h2

theorem isAggT_run {t : TypeId} (h : hasT P t = true) : (isAgg t).run P w = .ok (isAggT P t) w := by
  unfold hasT at h
  unfold isAgg isAggT
  cases hu : P.underlying t with
  | none => simp [hu] at h
  | some d =>
    simp only [Sem.run_bind, run_und hu, Result.andThen_ok]
    cases d <;> simp

theorem und_of_aggT {t : TypeId} (h : isAggT P t = true) : (isAgg t).run P w = .ok true w := by
  unfold isAggT at h
  unfold isAgg
  split at h
  · rename_i hu; simp [run_und hu]
  · rename_i hu; simp [run_und hu]
  · cases h

theorem loadCellsFrom_run (a : Addr) (vs : List Value) (i : Nat) (acc : Array Value) (h : ∀ j v, vs[j]? = some v → w.cell? (a.add (i + j)) = some v) :
    (loadCellsFrom a i vs.length acc).run P w = .ok ⟨acc.toList ++ vs⟩ w := by
  induction vs generalizing i acc with
  | nil => simp [loadCellsFrom]
  | cons v vs ih =>
    have h0 := h 0 v rfl
    simp only [Nat.add_zero] at h0
    have h1 := ih (i + 1) (acc.push v) (fun j v' hv => by have := h (j + 1) v' (by simpa using hv); rw [show i + 1 + j = i + (j + 1) by omega]; exact this)
    simp [loadCellsFrom, h0, h1]

theorem hasT_size {t : TypeId} {n : Nat} (h : sizeIs P t n = true) : (sizeOf t).run P w = .ok n w := by
  unfold sizeIs at h
  split at h
  · rename_i i hi
    simp [sizeOf, typeInfo, hi, Nat.eq_of_beq_eq_true h]
  · cases h

theorem trLoad_run {t : TypeId} {a : Addr} (h : trLoad P t a w k) : ∃ v w', (loadVar t a).run P w = .ok v w' ∧ k v w' := by
  unfold trLoad at h
  split at h
  · rename_i ha
    obtain ⟨vs, h⟩ := ExL.ex h
    obtain ⟨hs, h⟩ := ck.ex h
    obtain ⟨hc, h⟩ := ldC.out h
    refine ⟨_, w, ?_, h⟩
    have := loadCellsFrom_run (P := P) (w := w) a vs 0 #[] (fun j v hv => by simpa using hc j v hv)
    simp [loadVar, und_of_aggT ha, hasT_size hs, loadCells, this]
  · rename_i ha
    obtain ⟨hT, h⟩ := ck.ex h
    obtain ⟨v, hc, h⟩ := ExK.ex h
    refine ⟨v, w, ?_, h⟩
    have h1 := isAggT_run (w := w) hT
    rw [ha] at h1
    simp [loadVar, h1, hc]

def isOne : Value → Bool
  | .agg _ | .tuple _ => false
  | _ => true

theorem storesC_run {a : Addr} {vs : List Value} {i : Nat} {k : World → Prop} (h : storesC w a vs i k) : ∃ w', (storeCells a vs i).run P w = .ok () w' ∧ k w' := by
  induction vs generalizing w i with
  | nil => exact ⟨w, by simp [storeCells], h⟩
  | cons v vs ih =>
    simp only [storesC] at h
    have h1 : isOne v = true ∧ ((∃ u, w.cell? (a.add i) = some u) ∧ w.frozen? (a.add i) = false ∧ storesC (w.setCell (a.add i) v) a vs (i + 1) k) := by
      cases v <;> first | exact h.elim | exact ⟨rfl, h⟩
    obtain ⟨ho, ⟨u, hc⟩, hf, h⟩ := h1
    obtain ⟨w', hr, hk⟩ := ih h
    refine ⟨w', ?_, hk⟩
    simp only [storeCells, Sem.run_bind]
    have : (store (a.add i) v).run P w = .ok () (w.setCell (a.add i) v) := by
      cases v <;> simp_all [store, Sem.run, isOne]
    simp [this, hr]

theorem oneC_out {v : Value} {q : Prop} (h : oneC v q) : isOne v = true ∧ v.cells = #[v] ∧ q := by
  cases v <;> first | exact h.elim | exact ⟨rfl, rfl, h⟩

theorem trStore_run {t : TypeId} {a : Addr} {v : Value} {k : World → Prop} (h : trStore P t a v w k) : ∃ w', (storeVar t a v).run P w = .ok () w' ∧ k w' := by
  unfold trStore at h
  split at h
  · rename_i cs
    obtain ⟨hs, h⟩ := ck.ex h
    obtain ⟨w', hr, hk⟩ := storesC_run (P := P) h
    refine ⟨w', ?_, hk⟩
    have hs' := hasT_size (w := w) hs
    simp only [Array.length_toList] at hs'
    simp [storeVar, hs', Value.cells, hr]
  · obtain ⟨hs, h⟩ := ck.ex h
    obtain ⟨ho, hc, ⟨u, hcell⟩, hf, h⟩ := oneC_out h
    refine ⟨_, ?_, h⟩
    have : (store a v).run P w = .ok () (w.setCell a v) := by
      cases v <;> simp_all [store, Sem.run, isOne]
    simp [storeVar, hasT_size hs, hc, storeCells, show a.add 0 = a from rfl, this]


theorem part_run {t : TypeId} {cs : Array Value} {off : Nat} (hT : hasT P t = true) (h : match isAggT P t with
      | true => k (.agg ⟨(cs.toList.drop off).take (szOf P t)⟩) w
      | false => ∃ v, cs.toList[off]? = some v ∧ k v w) : ∃ v w', (part t cs off).run P w = .ok v w' ∧ k v w' := by
  have h1 := isAggT_run (w := w) hT
  have h2 := szOf_run (w := w) hT
  split at h
  · rename_i ha
    refine ⟨_, w, ?_, h⟩
    have : cs.extract off (off + szOf P t) = ⟨(cs.toList.drop off).take (szOf P t)⟩ := by
      apply Array.ext'
      simp [List.extract]
    simp [part, h1, ha, h2, this]
  · rename_i ha
    obtain ⟨v, hv, h⟩ := h
    refine ⟨v, w, ?_, h⟩
    have : cs[off]? = some v := by simpa using hv
    simp [part, h1, ha, this]

theorem trField_run {t : TypeId} {x : Value} {f : Nat} (h : trField P t x f w k) : ∃ v w', (Instr.field t x f).run P w = .ok v w' ∧ k v w' := by
  unfold trField at h
  split at h
  · rename_i fs cs hu
    split at h
    · rename_i fd hf
      obtain ⟨hT, h⟩ := ck.ex h
      have hf' : fs[f]? = some fd := by simpa using hf
      have h' : match isAggT P fd.type with
        | true => k (.agg ⟨(cs.toList.drop fd.offset).take (szOf P fd.type)⟩) w
        | false => ∃ v, cs.toList[fd.offset]? = some v ∧ k v w := by
        cases hag : isAggT P fd.type with
        | true => rw [hag] at h; exact h
        | false => rw [hag] at h; exact wvs.ex h
      obtain ⟨v, w', hr, hk⟩ := part_run hT h'
      refine ⟨v, w', ?_, hk⟩
      simp [Instr.field, run_und hu, hf', asAgg, hr]
    · exact h.elim
  · exact h.elim

theorem trFieldAddr_run {t : TypeId} {x : Value} {f : Nat} (h : trFieldAddr P t x f w k) : ∃ v w', (Instr.fieldAt t x f).run P w = .ok v w' ∧ k v w' := by
  unfold trFieldAddr at h
  split at h
  · rename_i fs hu
    split at h
    · rename_i fd hf
      obtain ⟨hT, h⟩ := ck.ex h
      obtain ⟨p, rfl, h⟩ := wp.ex h
      obtain ⟨a, rfl, h⟩ := wa.ex h
      simp only [Bool.and_eq_true, Bool.not_eq_true'] at hT
      have hf' : fs[f]? = some fd := by simpa using hf
      have h0 : szOf P fd.type ≠ 0 := Nat.ne_of_beq_eq_false hT.2
      refine ⟨_, w, ?_, h⟩
      simp [Instr.fieldAt, run_und hu, hf', Instr.sureAddr, fieldPlace, szOf_run hT.1, h0]
    · exact h.elim
  · exact h.elim

theorem trIndexAddr_run {t : TypeId} {x i : Value} (h : trIndexAddr P t x i w k) : ∃ v w', (Instr.indexAt t x i).run P w = .ok v w' ∧ k v w' := by
  unfold trIndexAddr at h
  split at h
  · rename_i el a n c kk j hu
    obtain ⟨hT, h0, h1, b, rfl, h'⟩ := ck.ex h
    exact ⟨_, w, by simp [Instr.indexAt, asIntOf, run_und hu, h0, h1, szOf_run hT], h'⟩
  · rename_i n el a kk j hu
    obtain ⟨hT, h0, h1, b, rfl, h'⟩ := ck.ex h
    exact ⟨_, w, by simp [Instr.indexAt, asIntOf, run_und hu, Instr.sureAddr, h0, h1, szOf_run hT], h'⟩
  · exact h.elim

theorem trIndex_run {t : TypeId} {x i : Value} (h : trIndex P t x i w k) : ∃ v w', (Instr.index t x i).run P w = .ok v w' ∧ k v w' := by
  unfold trIndex at h
  split at h
  · rename_i s kk j hu
    obtain ⟨c, h0, h1, h⟩ := h
    exact ⟨_, w, by simp [Instr.index, asIntOf, run_und hu, h0, h1], h⟩
  · rename_i n el cs kk j hu
    obtain ⟨hT, h0, h1, h⟩ := ck.ex h
    simp only [Bool.and_self] at hT
    obtain ⟨v, w', hr, hk⟩ := part_run hT h
    exact ⟨v, w', by simp [Instr.index, asIntOf, run_und hu, h0, h1, szOf_run hT, hr], hk⟩
  · exact h.elim

theorem wio_run {e : Eval} {ρ : Operand → Value} (he : ∀ x v, e x = some v → ρ x = v) {x : Option Operand} {d : Int} {q : Int → Prop} (h : wio e x d q) :
    (x = none ∧ q d) ∨ ∃ y kd n, x = some y ∧ ρ y = .int kd n ∧ q n := by
  unfold wio at h
  split at h
  · exact .inl ⟨rfl, h⟩
  · obtain ⟨v, hv, h⟩ := wv.ex h
    obtain ⟨kd, n, rfl, h⟩ := wi.ex h
    exact .inr ⟨_, kd, n, rfl, he _ _ hv, h⟩

theorem sliceBound_ok {kd : IntKind} {i : Int} {y : Nat} {c : BoundsCode} (h0 : 0 ≤ i) (h1 : i ≤ y) : (Instr.sliceBound (.int kd i) y c).run P w = .ok i.toNat w := by
  simp [Instr.sliceBound, asIntOf, h0, h1]

theorem trSlice_run {e : Eval} {ρ : Operand → Value} (he : ∀ x v, e x = some v → ρ x = v) {t : TypeId} {lo hi : Option Operand} {x : Value} (h : trSlice P t e lo hi x w k) :
    ∃ v w', (Instr.sliceAt t x (lo.map ρ) (hi.map ρ) none).run P w = .ok v w' ∧ k v w' := by
  unfold trSlice at h
  split at h
  · rename_i s hu
    have hs : ∀ (l hh : Int), 0 ≤ l → l ≤ hh → hh ≤ s.size → ∀ (L H : Option Value), (L = none ∧ l = 0 ∨ ∃ kd, L = some (.int kd l)) → (H = none ∧ hh = s.size ∨ ∃ kd, H = some (.int kd hh)) →
        (Instr.sliceAt t (.string s) L H none).run P w = .ok (.string (s.extract l.toNat hh.toNat)) w := by
      intro l hh h0 h1 h2 L H hL hH
      have hb2 : ∀ kd c, (Instr.sliceBound (.int kd hh) s.size c).run P w = .ok hh.toNat w := fun kd c => sliceBound_ok (by omega) h2
      have hb1 : ∀ kd c, (Instr.sliceBound (.int kd l) hh.toNat c).run P w = .ok l.toNat w := fun kd c => sliceBound_ok h0 (by omega)
      have hs0 : (hh = s.size → hh.toNat = s.size) := by omega
      rcases hL with ⟨rfl, rfl⟩ | ⟨kd, rfl⟩ <;> rcases hH with ⟨rfl, rfl⟩ | ⟨kd', rfl⟩ <;> simp [Instr.sliceAt, Instr.slice, run_und hu, Instr.sliceBounds, hb2] <;> (try simpa using hb1 _ _) <;> (try simp [hb1])
      · have := hb1 kd .sliceB; simp at this; simp [this]
    rcases wio_run he h with ⟨rfl, h1⟩ | ⟨y, kd, l, rfl, hl, h1⟩ <;> rcases wio_run he h1 with ⟨rfl, h2⟩ | ⟨y', kd', hh, rfl, hhv, h2⟩
    · exact ⟨_, w, hs _ _ h2.1 h2.2.1 h2.2.2.1 _ _ (.inl ⟨rfl, rfl⟩) (.inl ⟨rfl, rfl⟩), h2.2.2.2⟩
    · exact ⟨_, w, hs _ _ h2.1 h2.2.1 h2.2.2.1 _ _ (.inl ⟨rfl, rfl⟩) (.inr ⟨_, by simp [hhv]; rfl⟩), h2.2.2.2⟩
    · exact ⟨_, w, hs _ _ h2.1 h2.2.1 h2.2.2.1 _ _ (.inr ⟨_, by simp [hl]; rfl⟩) (.inl ⟨rfl, rfl⟩), h2.2.2.2⟩
    · exact ⟨_, w, hs _ _ h2.1 h2.2.1 h2.2.2.1 _ _ (.inr ⟨_, by simp [hl]; rfl⟩) (.inr ⟨_, by simp [hhv]; rfl⟩), h2.2.2.2⟩
  · rename_i el a n c hu
    have hs : hasT P el = true → ∀ (l hh : Int), 0 ≤ l → l ≤ hh → hh ≤ c → ∀ (L H : Option Value), (L = none ∧ l = 0 ∨ ∃ kd, L = some (.int kd l)) → (H = none ∧ hh = n ∨ ∃ kd, H = some (.int kd hh)) →
        (Instr.sliceAt t (.slice a n c) L H none).run P w = .ok (.slice (if c = l.toNat then a else a.map (·.add (l.toNat * szOf P el))) (hh.toNat - l.toNat) (c - l.toNat)) w := by
      intro hT l hh h0 h1 h2 L H hL hH
      have hb2 : ∀ kd cc, (Instr.sliceBound (.int kd hh) c cc).run P w = .ok hh.toNat w := fun kd cc => sliceBound_ok (by omega) h2
      have hb1 : ∀ kd cc, (Instr.sliceBound (.int kd l) hh.toNat cc).run P w = .ok l.toNat w := fun kd cc => sliceBound_ok h0 (by omega)
      rcases hL with ⟨rfl, rfl⟩ | ⟨kd, rfl⟩ <;> rcases hH with ⟨rfl, rfl⟩ | ⟨kd', rfl⟩ <;> simp [Instr.sliceAt, Instr.slice, run_und hu, Instr.sliceBounds, hb2, szOf_run hT] <;> (try simp [hb1])
      · have := hb1 kd .sliceB; simp at this; simp [this]
    rcases wio_run he h with ⟨rfl, h1⟩ | ⟨y, kd, l, rfl, hl, h1⟩ <;> rcases wio_run he h1 with ⟨rfl, h2⟩ | ⟨y', kd', hh, rfl, hhv, h2⟩ <;> obtain ⟨g0, g1, g2, h3⟩ := h2 <;> obtain ⟨hT, h4⟩ := ck.ex h3
    · exact ⟨_, w, hs hT _ _ g0 g1 g2 _ _ (.inl ⟨rfl, rfl⟩) (.inl ⟨rfl, rfl⟩), h4⟩
    · exact ⟨_, w, hs hT _ _ g0 g1 g2 _ _ (.inl ⟨rfl, rfl⟩) (.inr ⟨_, by simp [hhv]; rfl⟩), h4⟩
    · exact ⟨_, w, hs hT _ _ g0 g1 g2 _ _ (.inr ⟨_, by simp [hl]; rfl⟩) (.inl ⟨rfl, rfl⟩), h4⟩
    · exact ⟨_, w, hs hT _ _ g0 g1 g2 _ _ (.inr ⟨_, by simp [hl]; rfl⟩) (.inr ⟨_, by simp [hhv]; rfl⟩), h4⟩
  · exact h.elim

end
end Go.VC

namespace Go.VC
open Go

section
variable {P : Program} {w : World} {k : K}

theorem evs_map {e : Eval} {ρ : Operand → Value} (he : ∀ x v, e x = some v → ρ x = v) : ∀ {xs : List Operand} {vs : List Value}, evs e xs = some vs → xs.map ρ = vs
  | [], vs, h => by simp [evs] at h; simp [h]
  | x :: xs, vs, h => by
    simp only [evs] at h
    split at h
    · rename_i v vs' h1 h2
      simp only [Option.some.injEq] at h
      subst h
      simp [he _ _ h1, evs_map he h2]
    · cases h

theorem evps_map {e : Eval} {ρ : Operand → Value} (he : ∀ x v, e x = some v → ρ x = v) : ∀ {xs : List (Nat × Operand)} {vs : List (Nat × Value)}, evps e xs = some vs → xs.map (fun x => (x.1, ρ x.2)) = vs
  | [], vs, h => by simp [evps] at h; simp [h]
  | (i, x) :: xs, vs, h => by
    simp only [evps] at h
    split at h
    · rename_i v vs' h1 h2
      simp only [Option.some.injEq] at h
      subst h
      simp [he _ _ h1, evps_map he h2]
    · cases h

theorem foldl_set (vs cs : List Value) (off j : Nat) (h : off + j + vs.length ≤ cs.length) :
    ((vs.zipIdx j).foldl (fun (cs : Array Value) (c : Value × Nat) => cs.setIfInBounds (off + c.2) c.1) ⟨cs⟩) = ⟨cs.take (off + j) ++ (vs ++ cs.drop (off + j + vs.length))⟩ := by
  induction vs generalizing cs j with
  | nil => simp
  | cons v vs ih =>
    simp only [List.zipIdx_cons, List.foldl_cons]
    simp only [List.length_cons] at h
    have h1 : (Array.setIfInBounds (⟨cs⟩ : Array Value) (off + j) v) = ⟨cs.set (off + j) v⟩ := by
      simp
    rw [h1, ih (cs.set (off + j) v) (j + 1) (by simp; omega)]
    congr 1
    have hlt : off + j < cs.length := by omega
    rw [show off + (j + 1) = (off + j) + 1 by omega, List.take_add_one]
    simp only [List.take_set, List.length_cons]
    rw [List.drop_set_of_lt (by omega)]
    have hset : (cs.take (off + j)).set (off + j) v = cs.take (off + j) := List.set_eq_of_length_le (by simp; omega)
    simp [hlt, hset, show off + j + 1 + vs.length = off + j + (vs.length + 1) by omega]

theorem fillL_fill {place : Nat → Option (Nat × Nat)} : ∀ {ps : List (Nat × Value)} {cells out : List Value}, fillL place cells ps = some out → Instr.fill place ⟨cells⟩ ps = some ⟨out⟩
  | [], cells, out, h => by simp [fillL] at h; simp [Instr.fill, h]
  | (i, v) :: rest, cells, out, h => by
    simp only [fillL] at h
    simp only [Instr.fill]
    cases hp : place i with
    | none => simp [hp] at h
    | some os =>
      obtain ⟨off, size⟩ := os
      simp only [hp] at h ⊢
      split at h
      · rename_i hc
        simp only [Bool.and_eq_true] at hc
        have h1 := Nat.eq_of_beq_eq_true hc.1
        have h2 := Nat.le_of_ble_eq_true hc.2
        have hsz : v.cells.size = size := by rw [cellsL_eq]; simpa using h1
        rw [if_neg (by simp [hsz]; omega)]
        have hf := foldl_set (cellsL v) cells off 0 (by rw [h1]; omega)
        have hz : v.cells.zipIdx.foldl (fun (cs : Array Value) (x : Value × Nat) => match x with | (c, j) => cs.setIfInBounds (off + j) c) (⟨cells⟩ : Array Value)
            = ⟨cells.take off ++ (cellsL v ++ cells.drop (off + size))⟩ := by
          rw [cellsL_eq]
          simp only [Nat.add_zero, h1] at hf
          have hz2 : (⟨cellsL v⟩ : Array Value).zipIdx = ((cellsL v).zipIdx).toArray := by show (cellsL v).toArray.zipIdx = _; simp
          rw [hz2, List.foldl_toArray]
          exact hf
        rw [hz]
        exact fillL_fill h
      · cases h


theorem zeroOf_run {t : TypeId} {z : Value} (h : zeroOf P t = some z) : (zeroValue t).run P w = .ok z w := by
  unfold zeroOf at h
  cases hi : P.info? t with
  | none => simp [hi] at h
  | some i =>
    simp [hi] at h
    simp [zeroValue, typeInfo, hi, h]

theorem mapM_sizes (fs : List Field) (h : fs.all (fun f => hasT P f.type) = true) :
    (fs.mapM (fun f => do pure (f.offset, ← sizeOf f.type) : Field → Sem (Nat × Nat))).run P w = .ok (fs.map fun f => (f.offset, szOf P f.type)) w := by
  induction fs with
  | nil => simp
  | cons f fs ih =>
    simp only [List.all_cons, Bool.and_eq_true] at h
    simp only [List.mapM_cons, Sem.run_bind, szOf_run h.1, Result.andThen_ok, Sem.run_pure, ih h.2, List.map_cons]

theorem trBuild_run {t : TypeId} {ps : List (Nat × Value)} (h : trBuild P t ps w k) : ∃ v w', (Instr.build t ⟨ps⟩).run P w = .ok v w' ∧ k v w' := by
  unfold trBuild at h
  obtain ⟨hF, h⟩ := ck.ex h
  obtain ⟨z, hz, h⟩ := wvs.ex h
  obtain ⟨cs, hcs, h⟩ := wvs.ex h
  refine ⟨_, w, ?_, h⟩
  have hfill := fillL_fill hcs
  unfold fieldsOk at hF
  split at hF
  · rename_i fs hu
    have hm := mapM_sizes (P := P) (w := w) fs.toList (by simpa using hF)
    have hm' : (fs.mapM (fun f => do pure (f.offset, ← sizeOf f.type) : Field → Sem (Nat × Nat))).run P w = .ok (fs.map fun f => (f.offset, szOf P f.type)) w := by
      rw [Array.mapM_eq_mapM_toList]
      simp only [Sem.run_map, hm, Result.andThen_ok]
      congr 1
      apply Array.ext'
      simp
    have hpl : (fun i => (fs.map fun f => (f.offset, szOf P f.type))[i]?) = places P t := by
      funext i
      simp only [places, hu, Array.getElem?_map]
      cases hfi : fs[i]? with
      | none => simp [hfi]
      | some f => simp [hfi]
    have hfill' : Instr.fill (fun i => (fs.map fun f => (f.offset, szOf P f.type))[i]?) (Value.cells z) ps = some ⟨cs⟩ := by rw [hpl, cellsL_eq]; exact hfill
    simp only [Instr.build, Sem.run_bind, zeroOf_run hz, Result.andThen_ok, run_und hu, hm']
    simp only [hfill']
    rfl
  · rename_i n el hu
    have hpl : (fun i => some (i * szOf P el, szOf P el)) = places P t := by
      funext i
      simp [places, hu]
    have hfill' : Instr.fill (fun i => some (i * szOf P el, szOf P el)) (Value.cells z) ps = some ⟨cs⟩ := by rw [hpl, cellsL_eq]; exact hfill
    simp only [Instr.build, Sem.run_bind, zeroOf_run hz, Result.andThen_ok, run_und hu, szOf_run hF]
    simp only [hfill']
    rfl
  · cases hF

theorem zeroCellsL_eq (z : List Value) (n : Nat) : (Array.range (n * z.length)).map (fun i => (⟨z⟩ : Array Value)[i % z.length]!) = ⟨zeroCellsL z n⟩ := by
  apply Array.ext'
  simp only [Array.toList_map, Array.toList_range]
  induction n with
  | zero => simp [zeroCellsL]
  | succ n ih =>
    rw [show (n + 1) * z.length = z.length + n * z.length by rw [Nat.succ_mul]; omega, List.range_add, List.map_append]
    simp only [zeroCellsL]
    congr 1
    · apply List.ext_getElem?
      intro i
      simp only [List.getElem?_map]
      by_cases hi : i < z.length
      · simp [hi, Nat.mod_eq_of_lt hi]
      · simp [hi]
    · rw [← ih]
      simp [Function.comp_def]

theorem trBuildSlice_run {t : TypeId} {n : Nat} {ps : List (Nat × Value)} (h : trBuildSlice P t n ps w k) : ∃ v w', (Instr.buildSlice t n ⟨ps⟩).run P w = .ok v w' ∧ k v w' := by
  unfold trBuildSlice at h
  split at h
  · rename_i el hu
    obtain ⟨hF, h⟩ := ck.ex h
    simp only [Bool.and_eq_true] at hF
    obtain ⟨z, hz, h⟩ := wvs.ex h
    obtain ⟨hl, h⟩ := ck.ex h
    simp only [Bool.and_eq_true] at hl
    have h1 := Nat.eq_of_beq_eq_true hl.1
    have h2 := Nat.le_of_ble_eq_true hl.2
    have h3 := Nat.le_of_ble_eq_true hF.2
    obtain ⟨cs, hcs, h⟩ := wvs.ex h
    refine ⟨_, _, ?_, h⟩
    have hfill := fillL_fill hcs
    have hzc := zeroCellsL_eq (cellsL z) n
    rw [h1] at hzc
    have hz1 : z.cells.size = szOf P el := by rw [cellsL_eq]; simpa using h1
    have hcell : (Array.range (n * szOf P el)).map (fun i => z.cells[i % z.cells.size]!) = ⟨zeroCellsL (cellsL z) n⟩ := by
      rw [hz1, cellsL_eq]; exact hzc
    simp only [Instr.buildSlice, Sem.run_bind, run_und hu, Result.andThen_ok, szOf_run hF.1]
    rw [if_neg (by omega)]
    by_cases h0 : n * szOf P el = 0
    · have hn : n = 0 := by
        rcases Nat.mul_eq_zero.1 h0 with h | h
        · exact h
        · omega
      subst hn
      simp only [zeroCellsL] at hfill
      have hr : Array.range (0 * szOf P el) = #[] := by rw [h0]; rfl
      simp only [if_pos h0, Sem.run_bind, Sem.run_pure, Result.andThen_ok, hr, Array.map_empty]
      rw [show (#[] : Array Value) = ⟨[]⟩ from rfl, hfill]
      simp [newRow]
    · simp [h0, zeroOf_run hz, hcell, hfill, newRow]
  · exact h.elim


theorem max2_run {k1 k2 : IntKind} {m n : Int} : (Builtin.max2 (.int k1 m) (.int k2 n)).run P w = .ok (.int k1 (max m n)) w := by
  simp only [Builtin.max2, Sem.run_pure]
  congr 2
  split <;> omega
theorem min2_run {k1 k2 : IntKind} {m n : Int} : (Builtin.min2 (.int k1 m) (.int k2 n)).run P w = .ok (.int k1 (min m n)) w := by
  simp only [Builtin.min2, Sem.run_pure]
  congr 2
  split <;> omega

theorem trBuiltin_post {b : Builtin} {ats : Array TypeId} {rt : TypeId} {cs : Array Bool} {vs : List Value} (h : trBuiltin P b ats rt vs w k) : Post P k ((builtin b ats rt cs ⟨vs⟩).run P w) := by
  unfold trBuiltin at h
  split at h
  · split at h
    · rename_i t tl hat
      split at h
      · rename_i hu
        refine post_of_run ⟨_, w, ?_, h⟩
        have h0 : ats[0]? = some t := by rw [← Array.getElem?_toList, hat]; rfl
        simp [Builtin.len_, h0, run_und hu, goInt]
      · exact h.elim
    · exact h.elim
  · split at h
    · rename_i t tl hat
      split at h
      · rename_i hu
        refine post_of_run ⟨_, w, ?_, h⟩
        have h0 : ats[0]? = some t := by rw [← Array.getElem?_toList, hat]; rfl
        simp [Builtin.len_, h0, run_und hu, goInt]
      · exact post_of_run h.ex
    · exact h.elim
  · exact post_of_run h.ex
  · exact post_of_run ⟨_, w, by simp [Builtin.max_, max2_run], h⟩
  · exact post_of_run ⟨_, w, by simp [Builtin.min_, min2_run], h⟩
  · exact post_of_run h.ex
  · exact post_of_run h.ex
  · exact post_of_run h.ex
  · exact post_of_run h.ex
  · exact post_of_run h.ex
  · exact post_of_run h.ex
  · exact post_of_run h.ex
  · exact h.elim

end

/-- The functions that may be called are entered. -/
def Enters (P : Program) (G : Nat → Bool) : Prop := ∀ g, G g = true → ∀ args w, (callFunc g args).run P w = .ok (.enter g args) w

section
variable {P : Program} {G : Nat → Bool} {w : World} {k : K}

theorem callFV_post (hG : Enters P G) {f : Value} {args : Array Value} {vs : List Value} (hv : args.toList = vs) (h : CallFV P G f vs w k) :
    Post P k ((do let d ← Deferred.ofValue f args; invoke d.target d.args : Sem Next).run P w) := by
  unfold CallFV at h
  split at h
  · rename_i g first cap
    split at h
    · rename_i hg
      have he : first ++ args ++ cap = ⟨first.toList ++ (vs ++ cap.toList)⟩ := by apply Array.ext'; simp [hv]
      simp only [Deferred.ofValue, Sem.run_bind, Sem.run_pure, Result.andThen_ok, invoke, hG _ hg, he]
      exact .enter h
    · exact h.elim
  · rename_i l first cap
    obtain ⟨fn, tmps, assign, body, hy, hR⟩ := h
    have he : first ++ args = ⟨first.toList ++ vs⟩ := by apply Array.ext'; simp [hv]
    simp only [Deferred.ofValue, Sem.run_bind, Sem.run_pure, Result.andThen_ok, invoke, he, hy]
    exact .round hR
  · exact h.elim

theorem Rv_ty {t : TypeId} {P : Program} {f : FuncId} {args : Array Value} {w : World} (h : Calls P f args w (Rv fun v w' => TyV P t v fun v => k v w')) : Calls P f args w (Rv k) :=
  use h fun _ _ h => h.out

theorem callFV_ty {t : TypeId} {f : Value} {vs : List Value} (h : CallFV P G f vs w fun v w' => TyV P t v fun v => k v w') : CallFV P G f vs w k := by
  unfold CallFV at h ⊢
  split at h
  · split at h
    · exact use h fun _ _ h => h.out
    · exact h.elim
  · obtain ⟨fn, tmps, assign, body, hy, hR⟩ := h
    exact ⟨fn, tmps, assign, body, hy, hR.mono fun _ _ ⟨v, he, hk⟩ => ⟨v, he, hk.out⟩⟩
  · exact h.elim

theorem callM_post (hG : Enters P G) {name : String} {r : Value} {args : Array Value} {vs : List Value} (hv : args.toList = vs) (h : CallM P G name r vs w k) :
    Post P k ((invoke (.fn (.method name) #[]) (#[r] ++ args)).run P w) := by
  obtain ⟨t, v, f, rc, rfl, hm, hg, h⟩ := h
  have he : #[rc] ++ (#[Value.iface t v] ++ args).extract 1 (#[Value.iface t v] ++ args).size = ⟨rc :: vs⟩ := by apply Array.ext'; simp [hv]
  have hi : (invoke (.fn (.method name) #[]) (#[.iface t v] ++ args)).run P w = (callFunc f (#[rc] ++ (#[Value.iface t v] ++ args).extract 1 (#[Value.iface t v] ++ args).size)).run P w := by
    have h0 : (#[Value.iface t v] ++ args)[0]? = some (.iface t v) := by simp [Array.getElem?_append]
    simp [invoke, callMethod, hm, h0]
  rw [hi, hG _ hg, he]
  exact .enter h

theorem nilC_run {x : Value} {ρ : Operand → Value} {o : Oper} {y : Operand} (ho : o.op = .nilCheck y) (hy : ρ y = x) (h : nilC x fun v => k v w) : Post P k ((execOp ρ o).run P w) := by
  unfold nilC at h
  split at h
  · obtain ⟨a, rfl, h⟩ := wa.ex h
    simp only [execOp, ho, hy]
    exact .value h
  · exact h.elim
  · exact h.elim
  · exact h.elim
  · rename_i h1 h2 h3 h4
    simp only [execOp, ho, hy]
    cases x <;> first | exact .value h | exact (h1 _ rfl).elim | exact (h2 rfl).elim | exact (h3 rfl).elim | skip
    rename_i fn first cap
    cases fn <;> first | exact .value h | exact (h4 _ _ _ rfl).elim

theorem op_post (hG : Enters P G) {e : Eval} {ρ : Operand → Value} (he : ∀ x v, e x = some v → ρ x = v) {o : Oper} (h : trOp P G e o w k) : Post P k ((execOp ρ o).run P w) := by
  unfold trOp at h
  split at h
  case h_1 x ho => obtain ⟨v, hv, h⟩ := wv.ex h; simp only [execOp, ho, he _ _ hv]; exact .value h
  case h_2 x ho => obtain ⟨v, hv, h⟩ := wv.ex h; simp only [execOp, ho, he _ _ hv]; exact .value h
  case h_3 c a b ho =>
    obtain ⟨v, hv, h⟩ := wv.ex h
    obtain ⟨t, rfl, h⟩ := wb.ex h
    cases t
    · obtain ⟨u, hu, h⟩ := wv.ex h
      simp [execOp, ho, he _ _ hv, he _ _ hu, asBool]; exact .value h
    · obtain ⟨u, hu, h⟩ := wv.ex h
      simp [execOp, ho, he _ _ hv, he _ _ hu, asBool]; exact .value h
  case h_4 x ho => obtain ⟨v, hv, h⟩ := wv.ex h; exact nilC_run ho (he _ _ hv) h
  case h_5 op t x y yt ho =>
    obtain ⟨a, ha, h⟩ := wv.ex h
    obtain ⟨b, hb, h⟩ := wv.ex h
    simp only [execOp, ho, he _ _ ha, he _ _ hb]
    exact post_of_run (trBinN_run h)
  case h_6 t x ho =>
    obtain ⟨a, ha, h⟩ := wv.ex h
    obtain ⟨b, rfl, h⟩ := wb.ex h
    simp only [execOp, ho, he _ _ ha]
    exact post_of_run ⟨_, w, rfl, h⟩
  case h_7 t x ho =>
    obtain ⟨a, ha, h⟩ := wv.ex h
    obtain ⟨kd, n, rfl, h⟩ := wi.ex h
    simp only [execOp, ho, he _ _ ha]
    exact post_of_run ⟨_, w, rfl, h⟩
  case h_8 t x ho =>
    obtain ⟨a, ha, h⟩ := wv.ex h
    obtain ⟨kd, n, rfl, h⟩ := wi.ex h
    simp only [execOp, ho, he _ _ ha]
    exact post_of_run ⟨_, w, rfl, h⟩
  case h_9 s d x ho =>
    obtain ⟨a, ha, h⟩ := wv.ex h
    simp only [execOp, ho, he _ _ ha]
    refine post_of_run ?_
    unfold trConv at h
    split at h
    · rename_i h1 h2; exact ⟨_, w, by simp [convert, run_und h1, run_und h2, Conv.intToInt], h⟩
    · rename_i h1 h2; exact ⟨_, w, by simp [convert, run_und h1, run_und h2], h⟩
    · exact h.ex
  case h_10 t a ho =>
    obtain ⟨p, hp, h⟩ := wv.ex h
    obtain ⟨q, rfl, h⟩ := wp.ex h
    obtain ⟨ad, rfl, h⟩ := wa.ex h
    obtain ⟨v, w', hr, hk⟩ := trLoad_run h
    simp only [execOp, ho, he _ _ hp]
    exact post_of_run ⟨v, w', by simp [Instr.loadAt, Instr.sureAddr, hr], hk⟩
  case h_11 t a x ho =>
    obtain ⟨p, hp, h⟩ := wv.ex h
    obtain ⟨q, rfl, h⟩ := wp.ex h
    obtain ⟨ad, rfl, h⟩ := wa.ex h
    obtain ⟨v, hv, h⟩ := wv.ex h
    obtain ⟨w', hr, hk⟩ := trStore_run (P := P) h
    simp only [execOp, ho, he _ _ hp, he _ _ hv]
    exact post_of_does ⟨w', by simp [Instr.storeAt, Instr.sureAddr, hr], hk⟩
  case h_12 t x f ho => obtain ⟨v, hv, h⟩ := wv.ex h; simp only [execOp, ho, he _ _ hv]; exact post_of_run (trFieldAddr_run h)
  case h_13 t x f ho => obtain ⟨v, hv, h⟩ := wv.ex h; simp only [execOp, ho, he _ _ hv]; exact post_of_run (trField_run h)
  case h_14 t x i ho => obtain ⟨v, hv, h⟩ := wv.ex h; obtain ⟨u, hu, h⟩ := wv.ex h; simp only [execOp, ho, he _ _ hv, he _ _ hu]; exact post_of_run (trIndexAddr_run h)
  case h_15 t x i ho => obtain ⟨v, hv, h⟩ := wv.ex h; obtain ⟨u, hu, h⟩ := wv.ex h; simp only [execOp, ho, he _ _ hv, he _ _ hu]; exact post_of_run (trIndex_run h)
  case h_16 x i ho =>
    obtain ⟨v, hv, h⟩ := wv.ex h
    split at h
    · rename_i vs
      obtain ⟨u, hu, h⟩ := wvs.ex h
      have hu' : vs[i]? = some u := by simpa using hu
      simp only [execOp, ho, he _ _ hv]
      exact post_of_run ⟨u, w, by simp [Instr.extract, hu'], h⟩
    · exact h.elim
  case h_17 t x ho =>
    obtain ⟨v, hv, h⟩ := wv.ex h
    simp only [execOp, ho, he _ _ hv]
    exact post_of_run ⟨_, _, by simp [Instr.box, newVar, newRow, cellsL_eq], h⟩
  case h_18 t ho =>
    obtain ⟨z, hz, h⟩ := wvs.ex h
    simp only [execOp, ho]
    exact post_of_run ⟨_, _, by simp [Instr.alloc, zeroOf_run hz, newVar, newRow, cellsL_eq], h⟩
  case h_19 t ps ho =>
    obtain ⟨qs, hq, h⟩ := wvs.ex h
    have hm : (ps.map fun (i, x) => (i, ρ x)) = ⟨qs⟩ := by apply Array.ext'; rw [Array.toList_map]; exact evps_map he hq
    simp only [execOp, ho, hm]
    exact post_of_run (trBuild_run h)
  case h_20 t n ps ho =>
    obtain ⟨qs, hq, h⟩ := wvs.ex h
    have hm : (ps.map fun (i, x) => (i, ρ x)) = ⟨qs⟩ := by apply Array.ext'; rw [Array.toList_map]; exact evps_map he hq
    simp only [execOp, ho, hm]
    exact post_of_run (trBuildSlice_run h)
  case h_21 fn first caps ho =>
    obtain ⟨fs, hf, h⟩ := wvs.ex h
    obtain ⟨cs, hc, h⟩ := wvs.ex h
    have h1 : first.map ρ = ⟨fs⟩ := by apply Array.ext'; rw [Array.toList_map]; exact evs_map he hf
    have h2 : caps.map ρ = ⟨cs⟩ := by apply Array.ext'; rw [Array.toList_map]; exact evs_map he hc
    simp only [execOp, ho, h1, h2]
    exact post_of_run ⟨_, w, rfl, h⟩
  case h_22 t x ho =>
    split at h
    · exact h.elim
    · exact h.elim
    · rename_i h1 h2
      obtain ⟨v, hv, h⟩ := wv.ex h
      simp only [execOp, ho, he _ _ hv]
      refine post_of_run ⟨_, w, ?_, h⟩
      cases hu : P.underlying t with
      | none => exact (h2 hu).elim
      | some d => cases d <;> first | exact (h1 _ hu).elim | simp [Instr.makeInterface, run_und hu]
  case h_23 t x lo hi ho => obtain ⟨v, hv, h⟩ := wv.ex h; simp only [execOp, ho, he _ _ hv]; exact post_of_run (trSlice_run he h)
  case h_24 t l c ho => obtain ⟨v, hv, h⟩ := wv.ex h; obtain ⟨u, hu, h⟩ := wv.ex h; simp only [execOp, ho, he _ _ hv, he _ _ hu]; exact post_of_run h.ex
  case h_25 t ho => simp only [execOp, ho]; exact post_of_run h.ex
  case h_26 t x ho => obtain ⟨v, hv, h⟩ := wv.ex h; simp only [execOp, ho, Option.map_some, he _ _ hv]; exact post_of_run h.ex
  case h_27 t x i ok ho => obtain ⟨v, hv, h⟩ := wv.ex h; obtain ⟨u, hu, h⟩ := wv.ex h; simp only [execOp, ho, he _ _ hv, he _ _ hu]; exact post_of_run h.ex
  case h_28 t m x y ho => obtain ⟨v, hv, h⟩ := wv.ex h; obtain ⟨u, hu, h⟩ := wv.ex h; obtain ⟨z, hz, h⟩ := wv.ex h; simp only [execOp, ho, he _ _ hv, he _ _ hu, he _ _ hz]; exact post_of_does h
  case h_29 t m x y ho => obtain ⟨v, hv, h⟩ := wv.ex h; obtain ⟨u, hu, h⟩ := wv.ex h; obtain ⟨z, hz, h⟩ := wv.ex h; simp only [execOp, ho, he _ _ hv, he _ _ hu, he _ _ hz]; exact post_of_does h
  case h_30 t x ho => obtain ⟨v, hv, h⟩ := wv.ex h; simp only [execOp, ho, he _ _ hv]; exact post_of_run h.ex
  case h_31 x s ho => obtain ⟨v, hv, h⟩ := wv.ex h; simp only [execOp, ho, he _ _ hv]; exact post_of_run h.ex
  case h_32 x ho => obtain ⟨v, hv, h⟩ := wv.ex h; simp only [execOp, ho, he _ _ hv]; exact post_of_run h.ex
  case h_33 x t u ok ho => obtain ⟨v, hv, h⟩ := wv.ex h; simp only [execOp, ho, he _ _ hv]; exact post_of_run h.ex
  case h_34 f args ats ho =>
    obtain ⟨vs, hvs, h⟩ := wvs.ex h
    obtain ⟨v, hv, h⟩ := wv.ex h
    simp only [execOp, ho, resolve, he _ _ hv]
    exact callFV_post hG (by rw [Array.toList_map]; exact evs_map he hvs) (callFV_ty h)
  case h_35 b args ats ho =>
    obtain ⟨vs, hvs, h⟩ := wvs.ex h
    have hm : args.map ρ = ⟨vs⟩ := by apply Array.ext'; rw [Array.toList_map]; exact evs_map he hvs
    simp only [execOp, ho, resolve, hm, Sem.run_bind, Sem.run_pure, Result.andThen_ok, invoke]
    exact trBuiltin_post h
  case h_36 r name args ats ho =>
    obtain ⟨vs, hvs, h⟩ := wvs.ex h
    obtain ⟨v, hv, h⟩ := wv.ex h
    simp only [execOp, ho, resolve, he _ _ hv, Sem.run_bind, Sem.run_pure, Result.andThen_ok]
    obtain ⟨t, u, f, rc, h1, h2, h3, h4⟩ := h
    exact callM_post (vs := vs) hG (by rw [Array.toList_map]; exact evs_map he hvs) ⟨t, u, f, rc, h1, h2, h3, use h4 fun _ _ h => h.out⟩
  case h_37 => exact h.elim

end
end Go.VC

namespace Go.VC
open Go

/-- A run that, where it ends well, turns nothing and asks nothing of the world. -/
def PureRun {α : Type} (P : Program) (m : Sem α) : Prop := ∀ w v w', m.run P w = .ok v w' → w' = w ∧ ∀ w2, m.run P w2 = .ok v w2

section
variable {P : Program} {α β : Type}

theorem PureRun.pure (a : α) : PureRun P (Pure.pure a : Sem α) := fun w v w' h => by
  simp only [Sem.run_pure, Result.ok.injEq] at h
  obtain ⟨rfl, rfl⟩ := h
  exact ⟨rfl, fun _ => rfl⟩
theorem PureRun.bind {m : Sem α} {f : α → Sem β} (hm : PureRun P m) (hf : ∀ a, PureRun P (f a)) : PureRun P (m >>= f) := fun w v w' h => by
  simp only [Sem.run_bind] at h
  cases hr : m.run P w with
  | halt x y => rw [hr] at h; cases h
  | ok a w1 =>
    rw [hr] at h
    obtain ⟨rfl, h2⟩ := hm _ _ _ hr
    obtain ⟨rfl, h4⟩ := hf a _ _ _ h
    exact ⟨rfl, fun w2 => by simp only [Sem.run_bind, h2, Result.andThen_ok, h4]⟩
theorem PureRun.map {m : Sem α} {f : α → β} (hm : PureRun P m) : PureRun P (f <$> m) := fun w v w' h => by
  simp only [Sem.run_map] at h
  cases hr : m.run P w with
  | halt x y => rw [hr] at h; cases h
  | ok a w1 =>
    rw [hr] at h
    obtain ⟨rfl, h2⟩ := hm _ _ _ hr
    simp only [Result.andThen_ok, Result.ok.injEq] at h
    obtain ⟨rfl, rfl⟩ := h
    exact ⟨rfl, fun w2 => by simp only [Sem.run_map, h2, Result.andThen_ok]⟩
theorem PureRun.halts {m : Sem α} (h : ∀ w, ∃ x y, m.run P w = .halt x y) : PureRun P m := fun w v w' hr => by
  obtain ⟨x, y, hh⟩ := h w
  rw [hh] at hr; cases hr
theorem PureRun.stuck (s : String) : PureRun P (Go.stuck s : Sem α) := .halts fun _ => ⟨_, _, rfl⟩
theorem PureRun.unsup (s : Unsupported) : PureRun P (Go.unsupported s : Sem α) := .halts fun _ => ⟨_, _, rfl⟩
theorem PureRun.program : PureRun P Go.program := fun w v w' h => by
  simp only [run_program, Result.ok.injEq] at h
  obtain ⟨rfl, rfl⟩ := h
  exact ⟨rfl, fun _ => rfl⟩
theorem PureRun.und (t : TypeId) : PureRun P (underlying t) := .bind .program fun p => by
  split
  · exact .pure _
  · exact .stuck _
theorem PureRun.info (t : TypeId) : PureRun P (typeInfo t) := .bind .program fun p => by
  split
  · exact .pure _
  · exact .stuck _
theorem PureRun.size (t : TypeId) : PureRun P (sizeOf t) := .bind (.info t) fun _ => .pure _
theorem PureRun.agg (t : TypeId) : PureRun P (isAgg t) := .bind (.und t) fun d => by
  split <;> exact .pure _
theorem PureRun.part (t : TypeId) (cs : Array Value) (off : Nat) : PureRun P (Go.part t cs off) := .bind (.agg t) fun b => by
  split
  · exact .bind (.size t) fun _ => .pure _
  · split
    · exact .pure _
    · exact .stuck _
theorem PureRun.panic (e : RuntimeError) : PureRun P (runtimePanic e : Sem α) := .halts fun w => by
  cases e <;> simp [runtimePanic, goPanic]
  · unfold elemOf
    simp only [Sem.run_bind]
    cases h : (underlying P.rt.typeAssertionError).run P w with
    | halt x y => exact ⟨_, _, rfl⟩
    | ok d w1 => cases d <;> first | exact ⟨_, _, rfl⟩ | (simp [newVar, newRow])
  · unfold elemOf
    simp only [Sem.run_bind]
    cases h : (underlying P.rt.panicNilError).run P w with
    | halt x y => exact ⟨_, _, rfl⟩
    | ok d w1 => cases d <;> first | exact ⟨_, _, rfl⟩ | (simp [newVar, newRow])
theorem PureRun.bounds (k : IntKind) (x y : Int) (c : BoundsCode) : PureRun P (boundsPanic k x y c : Sem α) := .halts fun w => by
  have hp : ∀ e w, ∃ x y, (runtimePanic e : Sem α).run P w = .halt x y := fun e w => by
    cases hr : (runtimePanic e : Sem α).run P w with
    | halt x y => exact ⟨x, y, rfl⟩
    | ok v w' =>
      exfalso
      cases e <;> simp [runtimePanic, goPanic] at hr
      · unfold elemOf at hr
        simp only [Sem.run_bind] at hr
        cases h : (underlying P.rt.typeAssertionError).run P w with
        | halt x y => rw [h] at hr; cases hr
        | ok d w1 => rw [h] at hr; cases d <;> first | cases hr | (simp [newVar, newRow] at hr)
      · unfold elemOf at hr
        simp only [Sem.run_bind] at hr
        cases h : (underlying P.rt.panicNilError).run P w with
        | halt x y => rw [h] at hr; cases hr
        | ok d w1 => rw [h] at hr; cases d <;> first | cases hr | (simp [newVar, newRow] at hr)
  unfold boundsPanic
  split
  · rw [Sem.run_bind]
    simp only [Sem.run_map]
    cases hc : (choose (.extern "runtime.boundsError.signed" 2)).run P w with
    | halt x y => exact ⟨_, _, rfl⟩
    | ok a w1 => simp only [Result.andThen_ok]; exact hp _ _
  · simp only [Sem.run_bind, Sem.run_pure, Result.andThen_ok]; exact hp _ _
theorem PureRun.intOf (v : Value) : PureRun P (asIntOf v) := by
  unfold asIntOf
  split
  · exact .pure _
  · exact .unsup _
  · exact .stuck _
theorem PureRun.sure (v : Value) : PureRun P (Instr.sureAddr v) := by
  unfold Instr.sureAddr
  split
  · exact .pure _
  · exact .stuck _
theorem PureRun.field (t : TypeId) (x : Value) (f : Nat) : PureRun P (Instr.field t x f) := .bind (.und t) fun d => by
  split
  · split
    · refine .bind ?_ fun _ => .part _ _ _
      unfold asAgg
      split
      · exact .pure _
      · exact .stuck _
    · exact .stuck _
  · exact .stuck _
theorem PureRun.index (t : TypeId) (x i : Value) : PureRun P (Instr.index t x i) := .bind (.intOf i) fun ki => .bind (.und t) fun d => by
  split
  · split
    · exact .bind (.size _) fun _ => .part _ _ _
    · exact .bounds _ _ _ _
  · split
    · exact .pure _
    · exact .bounds _ _ _ _
  · exact .stuck _
theorem PureRun.extract (x : Value) (i : Nat) : PureRun P (Instr.extract x i) := by
  unfold Instr.extract
  split
  · split
    · exact .pure _
    · exact .stuck _
  · exact .stuck _
theorem PureRun.mkIface (t : TypeId) (x : Value) : PureRun P (Instr.makeInterface t x) := .bind (.und t) fun d => by
  split
  · exact .stuck _
  · exact .pure _
theorem PureRun.unary (op : UnOp) (x : Value) : PureRun P (Op.unary op x) := by
  unfold Op.unary
  split
  · exact .pure _
  · exact .pure _
  · exact .pure _
  · exact .pure _
  · exact .pure _
  · exact .unsup _
  · exact .unsup _
  · exact .stuck _
theorem PureRun.sliceBound (v : Value) (y : Nat) (c : BoundsCode) : PureRun P (Instr.sliceBound v y c) := by
  unfold Instr.sliceBound
  refine .bind (.intOf v) fun ki => ?_
  dsimp only
  split
  · exact .pure _
  · exact .bounds _ _ _ _
theorem PureRun.sliceBounds (b : Bool) (len cap : Nat) (lo hi : Option Value) : PureRun P (Instr.sliceBounds b len cap lo hi none) := by
  unfold Instr.sliceBounds
  repeat' first
    | exact PureRun.pure _
    | exact PureRun.stuck _
    | exact PureRun.unsup _
    | exact PureRun.panic _
    | exact PureRun.bounds _ _ _ _
    | exact PureRun.und _
    | exact PureRun.size _
    | exact PureRun.intOf _
    | exact PureRun.sure _
    | exact PureRun.sliceBound _ _ _
    | refine PureRun.bind ?_ (fun _ => ?_)
    | split
    | dsimp only
theorem PureRun.addr (v : Value) : PureRun P (asAddr v) := by
  unfold asAddr
  repeat' first
    | exact PureRun.pure _
    | exact PureRun.stuck _
    | exact PureRun.unsup _
    | exact PureRun.panic _
    | exact PureRun.bounds _ _ _ _
    | exact PureRun.und _
    | exact PureRun.size _
    | exact PureRun.intOf _
    | exact PureRun.sure _
    | exact PureRun.sliceBound _ _ _
    | exact PureRun.sliceBounds _ _ _ _ _
    | refine PureRun.bind ?_ (fun _ => ?_)
    | split
    | dsimp only
theorem PureRun.slice (t : TypeId) (x : Value) (lo hi : Option Value) : PureRun P (Instr.sliceAt t x lo hi none) := by
  unfold Instr.sliceAt Instr.slice
  repeat' first
    | exact PureRun.pure _
    | exact PureRun.stuck _
    | exact PureRun.unsup _
    | exact PureRun.panic _
    | exact PureRun.bounds _ _ _ _
    | exact PureRun.und _
    | exact PureRun.size _
    | exact PureRun.intOf _
    | exact PureRun.sure _
    | exact PureRun.sliceBound _ _ _
    | exact PureRun.sliceBounds _ _ _ _ _
    | refine PureRun.bind ?_ (fun _ => ?_)
    | exact PureRun.addr _
    | split
    | dsimp only
theorem PureRun.indexAt (t : TypeId) (x i : Value) : PureRun P (Instr.indexAt t x i) := by
  unfold Instr.indexAt
  repeat' first
    | exact PureRun.pure _
    | exact PureRun.stuck _
    | exact PureRun.unsup _
    | exact PureRun.panic _
    | exact PureRun.bounds _ _ _ _
    | exact PureRun.und _
    | exact PureRun.size _
    | exact PureRun.intOf _
    | exact PureRun.sure _
    | exact PureRun.sliceBound _ _ _
    | exact PureRun.sliceBounds _ _ _ _ _
    | refine PureRun.bind ?_ (fun _ => ?_)
    | split
    | dsimp only


theorem PureRun.toNext {m : Sem Value} (h : PureRun P m) : PureRun P (do Pure.pure (Next.value (← m)) : Sem Next) := .bind h fun _ => .pure _

def isConstNil (P : Program) (t : TypeId) (x : Operand) (v : Value) : Bool := isConstO x && nilFor P t v

/-- Two values whose comparison, sum .. asks nothing of memory. -/
def pb : Value → Value → Bool
  | .int _ _, .int _ _ => true
  | .string _, .string _ => true
  | .bool _, .bool _ => true
  | _, _ => false

def und0 (P : Program) (ts : Array TypeId) : Option TypeDesc := match ts.toList with
  | t :: _ => P.underlying t
  | [] => none

/-- An operation that only reckons, by its looks (a load, too). -/
def floO (P : Program) (o : Oper) : Bool :=
  match o.op with
  | .move _ | .assign _ | .pick _ _ _ | .nilCheck _ | .unOp _ _ _ | .load _ _ | .fieldAddr _ _ _ | .field _ _ _ | .indexAddr _ _ _ | .index _ _ _ | .extract _ _ | .makeInterface _ _ | .makeFunc _ _ _ => true
  | .slice _ _ _ _ none => true
  | .convert s d _ => match P.underlying s, P.underlying d with
    | some (.int _), some (.int _) => true
    | _, _ => false
  | .binOp _ _ _ _ _ => true
  | .call { callee := .builtin .len, argTypes := ts, .. } => match und0 P ts with
    | some .string | some (.slice _) => true
    | _ => false
  | _ => false

/-- The operands of such an operation. -/
def opsL : Op → List Operand
  | .move x | .assign x | .nilCheck x | .unOp _ _ x | .convert _ _ x | .load _ x | .fieldAddr _ x _ | .field _ x _ | .extract x _ | .makeInterface _ x => [x]
  | .pick c a b => [c, a, b]
  | .binOp _ _ x y _ | .indexAddr _ x y | .index _ x y => [x, y]
  | .makeFunc _ a b => a.toList ++ b.toList
  | .slice _ x lo hi _ => x :: (lo.toList ++ hi.toList)
  | .call c => c.args.toList
  | _ => []
def known (e : Eval) : List Operand → Bool
  | [] => true
  | x :: xs => (e x).isSome && known e xs

theorem execOp_congrL {ρ ρ' : Operand → Value} {o : Oper} (hf : floO P o = true) (h : ∀ x ∈ opsL o.op, ρ x = ρ' x) : execOp ρ o = execOp ρ' o := by
  unfold floO at hf
  split at hf
  case h_13 fn a b ho =>
    simp only [ho, opsL, List.mem_append, Array.mem_toList_iff] at h
    have h1 : a.map ρ = a.map ρ' := Array.map_congr_left fun x hx => h x (.inl hx)
    have h2 : b.map ρ = b.map ρ' := Array.map_congr_left fun x hx => h x (.inr hx)
    simp only [execOp, ho, h1, h2]
  case h_14 t x lo hi ho =>
    simp only [ho, opsL, List.mem_cons, List.mem_append, Option.mem_toList] at h
    have h1 : lo.map ρ = lo.map ρ' := by cases lo with | none => rfl | some y => simp [h y (.inr (.inl rfl))]
    have h2 : hi.map ρ = hi.map ρ' := by cases hi with | none => rfl | some y => simp [h y (.inr (.inr rfl))]
    simp only [execOp, ho, h1, h2, h x (.inl rfl), Option.map_none]
  case h_17 args ts ho =>
    simp only [ho, opsL, Array.mem_toList_iff] at h
    have h1 : args.map ρ = args.map ρ' := Array.map_congr_left fun x hx => h x hx
    simp only [execOp, ho, resolve, h1]
  case h_18 => cases hf
  all_goals
    rename_i ho
    simp only [ho, opsL, List.mem_cons, List.not_mem_nil, or_false, forall_eq_or_imp, forall_eq] at h
    simp only [execOp, ho, h]

/-- .. and by its operands' values. -/
def floV (P : Program) (e : Eval) (o : Oper) : Bool :=
  known e (opsL o.op) && match o.op with
  | .binOp op t x y _ => match e x, e y with
    | some a, some b => match op with
      | .eql | .neq => isConstNil P t y b || (isConstNil P t x a || pb a b)
      | _ => pb a b
    | _, _ => false
  | .convert _ _ x => match e x with
    | some (.int _ _) => true
    | _ => false
  | .call { args := xs, .. } => match evs e xs.toList with
    | some [.string _] | some [.slice _ _ _] => true
    | _ => false
  | _ => true

def isLoad (o : Oper) : Bool := match o.op with
  | .load _ _ => true
  | _ => false

end

section
variable {P : Program} {G : Nat → Bool} {k : K}

theorem eqNil_any {t : TypeId} {a : Value} {q q' : Bool → Prop} (h : eqNil P t a q) (hq : ∀ r, q r → q' r) : eqNil P t a q' := by
  unfold eqNil at h ⊢
  split at h
  · obtain ⟨p, rfl, h⟩ := wp.ex h; exact hq _ h
  · obtain ⟨p, n, c, rfl, h⟩ := wsl.ex h; exact hq _ h
  · exact ⟨h.1, hq _ h.2⟩
  · exact ⟨h.1, hq _ h.2⟩
  · exact ⟨h.1, hq _ h.2⟩
  · exact h.elim

theorem trEq_pure {neg : Bool} {op : BinOp} {t rt : TypeId} {x y : Operand} {a b : Value} {w : World} (hop : op = match neg with | true => .neq | false => .eql) (hv : (isConstNil P t y b || isConstNil P t x a) = true)
    (h : trEq P neg op t rt x y a b w k) : ∃ v, k v w ∧ ∀ w2, (do eqGuard op t x y a b; binOp op t a b : Sem Value).run P w2 = .ok v w2 := by
  unfold trEq at h
  split at h
  · rename_i hc
    simp only [Bool.and_eq_true] at hc
    have key : ∃ r, k (.bool (match neg with | true => !r | false => r)) w ∧ eqNil P t a (fun r' => r' = r) := by
      have : ∃ r, k (.bool (match neg with | true => !r | false => r)) w ∧ eqNil P t a (fun r' => r' = r) := by
        unfold eqNil at h ⊢
        split at h
        · obtain ⟨p, rfl, h⟩ := wp.ex h; exact ⟨_, h, rfl⟩
        · obtain ⟨p, n, c, rfl, h⟩ := wsl.ex h; exact ⟨_, h, rfl⟩
        · exact ⟨_, h.2, h.1, rfl⟩
        · exact ⟨_, h.2, h.1, rfl⟩
        · exact ⟨_, h.2, h.1, rfl⟩
        · exact h.elim
      obtain ⟨r, h1, h2⟩ := this
      exact ⟨r, h1, h2⟩
    obtain ⟨r, hk, hall⟩ := key
    refine ⟨_, hk, fun w2 => ?_⟩
    obtain ⟨r', rfl, ⟨h1, h2⟩, _⟩ := eqNil_run (w := w2) (x := x) hc.2 hc.1 hall
    subst hop
    cases neg
    · exact h1
    · exact h2
  · rename_i hc1
    split at h
    · rename_i hc
      simp only [Bool.and_eq_true] at hc
      have key : ∃ r, k (.bool (match neg with | true => !r | false => r)) w ∧ eqNil P t b (fun r' => r' = r) := by
        unfold eqNil at h ⊢
        split at h
        · obtain ⟨p, rfl, h⟩ := wp.ex h; exact ⟨_, h, rfl⟩
        · obtain ⟨p, n, c, rfl, h⟩ := wsl.ex h; exact ⟨_, h, rfl⟩
        · exact ⟨_, h.2, h.1, rfl⟩
        · exact ⟨_, h.2, h.1, rfl⟩
        · exact ⟨_, h.2, h.1, rfl⟩
        · exact h.elim
      obtain ⟨r, hk, hall⟩ := key
      refine ⟨_, hk, fun w2 => ?_⟩
      obtain ⟨r', rfl, _, ⟨h1, h2⟩⟩ := eqNil_run (w := w2) (x := y) hc.2 hc.1 hall
      subst hop
      cases neg
      · exact h1
      · exact h2
    · rename_i hc2
      simp only [isConstNil, Bool.or_eq_true] at hv
      rcases hv with hv | hv
      · exact absurd hv (by simpa using hc1)
      · exact absurd hv (by simpa using hc2)

theorem PureRun.eqBool (t : TypeId) (p q : Bool) (d : Nat) : PureRun P (Op.equalIn (d + 1) t (.bool p) (.bool q)) := by
  unfold Op.equalIn
  refine PureRun.bind (.und t) fun u => ?_
  repeat' first
    | contradiction
    | exact PureRun.pure _
    | exact PureRun.stuck _
    | exact PureRun.unsup _
    | exact PureRun.panic _
    | split
    | dsimp only
theorem PureRun.binBool (op : BinOp) (t : TypeId) (p q : Bool) : PureRun P (binOp op t (.bool p) (.bool q)) := by
  have he : PureRun P (Op.equal t (.bool p) (.bool q)) := PureRun.eqBool t p q 9999
  unfold binOp
  cases op <;> repeat' first
    | contradiction
    | exact PureRun.pure _
    | exact PureRun.stuck _
    | exact PureRun.unsup _
    | exact PureRun.panic _
    | exact PureRun.bind he (fun _ => PureRun.pure _)
    | split
    | dsimp only
theorem pb_pure {op : BinOp} {t : TypeId} {x y : Operand} {a b : Value} (hb : pb a b = true) {w : World} {v : Value} {w' : World}
    (h : (do eqGuard op t x y a b; binOp op t a b : Sem Value).run P w = .ok v w') : w' = w ∧ ∀ w2, (do eqGuard op t x y a b; binOp op t a b : Sem Value).run P w2 = .ok v w2 := by
  unfold pb at hb
  split at hb
  · rename_i k1 m k2 n
    have hp : PureRun P (binOp op t (.int k1 m) (.int k2 n)) := by
      unfold binOp
      repeat' first
        | contradiction
        | exact PureRun.pure _
        | exact PureRun.stuck _
        | exact PureRun.panic _
        | split
        | (unfold Op.shift)
        | (unfold Op.intArith)
        | (unfold Op.intDiv)
        | (unfold Op.intBits)
        | (unfold Op.intCmp)
        | dsimp only
    have := PureRun.bind (m := eqGuard op t x y (.int k1 m) (.int k2 n)) (f := fun _ => binOp op t (.int k1 m) (.int k2 n)) (fun w v w' h => by
      rw [eqGuard_int] at h; simp only [Result.ok.injEq] at h; obtain ⟨_, rfl⟩ := h; exact ⟨rfl, fun w2 => eqGuard_int _ _ _ _ _ _ _ _⟩) (fun _ => hp)
    exact this _ _ _ h
  · rename_i s u
    have hp : PureRun P (binOp op t (.string s) (.string u)) := by
      have : binOp op t (.string s) (.string u) = Op.stringOp op s u := by cases op <;> rfl
      rw [this]
      unfold Op.stringOp
      repeat' first
        | exact PureRun.pure _
        | exact PureRun.stuck _
        | exact PureRun.unsup _
        | split
        | dsimp only
    have := PureRun.bind (m := eqGuard op t x y (.string s) (.string u)) (f := fun _ => binOp op t (.string s) (.string u)) (fun w v w' h => by
      rw [eqGuard_str] at h; simp only [Result.ok.injEq] at h; obtain ⟨_, rfl⟩ := h; exact ⟨rfl, fun w2 => eqGuard_str _ _ _ _ _ _⟩) (fun _ => hp)
    exact this _ _ _ h
  · rename_i p q
    have := PureRun.bind (P := P) (m := eqGuard op t x y (.bool p) (.bool q)) (f := fun _ => binOp op t (.bool p) (.bool q)) (fun w v w' h => by
      rw [eqGuard_bool] at h; simp only [Result.ok.injEq] at h; obtain ⟨_, rfl⟩ := h; exact ⟨rfl, fun w2 => eqGuard_bool _ _ _ _ _ _⟩) (fun _ => PureRun.binBool op t p q)
    exact this _ _ _ h
  · cases hb
end
end Go.VC

namespace Go.VC
open Go

section
variable {P : Program} {G : Nat → Bool} {w : World} {k : K}

/-- An operation that only reckons: its value; and, if it is no load, the same in whatever world. -/
theorem flo_run {e : Eval} {ρ : Operand → Value} (hG : Enters P G) (he : ∀ x v, e x = some v → ρ x = v) {o : Oper} (hf : floO P o = true) (hv : floV P e o = true) (h : trOp P G e o w k) :
    ∃ v, k v w ∧ (execOp ρ o).run P w = .ok (.value v) w ∧ (isLoad o = false → ∀ w2, (execOp ρ o).run P w2 = .ok (.value v) w2) := by
  have gen : PureRun P (execOp ρ o) → (∀ f args w2 w3, (execOp ρ o).run P w2 ≠ .ok (.enter f args) w3) → (∀ w2 w3, (execOp ρ o).run P w2 ≠ .ok .skip w3) → (∀ l f tmps a b w2 w3, (execOp ρ o).run P w2 ≠ .ok (.round l f tmps a b) w3) →
      ∃ v, k v w ∧ (execOp ρ o).run P w = .ok (.value v) w ∧ (isLoad o = false → ∀ w2, (execOp ρ o).run P w2 = .ok (.value v) w2) := by
    intro hp h1 h2 h3
    have hpost := op_post hG he h
    cases hr : (execOp ρ o).run P w with
    | halt x y => rw [hr] at hpost; cases hpost
    | ok nx w' =>
      obtain ⟨rfl, hall⟩ := hp _ _ _ hr
      rw [hr] at hpost
      cases hpost with
      | value hk => exact ⟨_, hk, rfl, fun _ => hall⟩
      | skip hk => exact (h2 _ _ hr).elim
      | enter hk => exact (h1 _ _ _ _ hr).elim
      | round hk => exact (h3 _ _ _ _ _ _ _ hr).elim
  have val : ∀ m : Sem Value, execOp ρ o = (do Pure.pure (Next.value (← m))) → PureRun P m →
      ∃ v, k v w ∧ (execOp ρ o).run P w = .ok (.value v) w ∧ (isLoad o = false → ∀ w2, (execOp ρ o).run P w2 = .ok (.value v) w2) := by
    intro m hm hp
    have hne : ∀ w2 nx w3, (execOp ρ o).run P w2 = .ok nx w3 → ∃ v, nx = .value v := by
      intro w2 nx w3 hr
      rw [hm] at hr
      simp only [Sem.run_bind, Sem.run_pure] at hr
      cases hmr : m.run P w2 with
      | halt x y => rw [hmr] at hr; cases hr
      | ok v w4 => rw [hmr] at hr; simp only [Result.andThen_ok, Result.ok.injEq] at hr; exact ⟨v, hr.1.symm⟩
    refine gen (by rw [hm]; exact hp.toNext) ?_ ?_ ?_
    · intro f args w2 w3 hr; obtain ⟨v, hv⟩ := hne _ _ _ hr; cases hv
    · intro w2 w3 hr; obtain ⟨v, hv⟩ := hne _ _ _ hr; cases hv
    · intro l f tmps a b w2 w3 hr; obtain ⟨v, hv⟩ := hne _ _ _ hr; cases hv
  have direct : ∀ v, (∀ w2, (execOp ρ o).run P w2 = .ok (.value v) w2) → ∃ v, k v w ∧ (execOp ρ o).run P w = .ok (.value v) w ∧ (isLoad o = false → ∀ w2, (execOp ρ o).run P w2 = .ok (.value v) w2) := by
    intro v hall
    have hpost := op_post hG he h
    rw [hall] at hpost
    cases hpost with
    | value hk => exact ⟨_, hk, hall _, fun _ => hall⟩
  unfold floV at hv
  simp only [Bool.and_eq_true] at hv
  replace hv := hv.2
  unfold floO at hf
  split at hf
  case h_1 x ho => exact direct (ρ x) fun w2 => by simp only [execOp, ho]; rfl
  case h_2 x ho => exact direct (ρ x) fun w2 => by simp only [execOp, ho]; rfl
  case h_3 c a b ho =>
    simp only [trOp, ho] at h
    obtain ⟨v, hv, h⟩ := wv.ex h
    obtain ⟨t, rfl, _⟩ := wb.ex h
    exact direct (if t then ρ a else ρ b) fun w2 => by simp [execOp, ho, he _ _ hv, asBool]
  case h_4 x ho =>
    have h' := h
    simp only [trOp, ho] at h'
    obtain ⟨v, hv, h'⟩ := wv.ex h'
    refine direct v fun w2 => ?_
    simp only [execOp, ho, he _ _ hv]
    unfold nilC at h'
    split at h'
    · obtain ⟨a, rfl, _⟩ := wa.ex h'; rfl
    · exact h'.elim
    · exact h'.elim
    · exact h'.elim
    · rename_i h1 h2 h3 h4
      cases v <;> first | rfl | exact (h1 _ rfl).elim | exact (h2 rfl).elim | exact (h3 rfl).elim | skip
      rename_i fn first cap
      cases fn <;> first | rfl | exact (h4 _ _ _ rfl).elim
  case h_5 op t x ho => exact val (Op.unary op (ρ x)) (by simp only [execOp, ho]) (.unary _ _)
  case h_6 t a ho =>
    have h' := h
    simp only [trOp, ho] at h'
    obtain ⟨p, hp, h'⟩ := wv.ex h'
    obtain ⟨q, rfl, h'⟩ := wp.ex h'
    obtain ⟨ad, rfl, h'⟩ := wa.ex h'
    have hw : ∃ v, k v w ∧ (loadVar t ad).run P w = .ok v w := by
      unfold trLoad at h'
      split at h'
      · rename_i ha
        obtain ⟨vs, h'⟩ := ExL.ex h'
        obtain ⟨hs, h'⟩ := ck.ex h'
        obtain ⟨hc, h'⟩ := ldC.out h'
        refine ⟨_, h', ?_⟩
        have := loadCellsFrom_run (P := P) (w := w) ad vs 0 #[] (fun j v hv => by simpa using hc j v hv)
        simp [loadVar, und_of_aggT ha, hasT_size hs, loadCells, this]
      · rename_i ha
        obtain ⟨hT, h'⟩ := ck.ex h'
        obtain ⟨v, hc, h'⟩ := ExK.ex h'
        refine ⟨v, h', ?_⟩
        have h1 := isAggT_run (w := w) hT
        rw [ha] at h1
        simp [loadVar, h1, hc]
    obtain ⟨v, hk, hr⟩ := hw
    refine ⟨v, hk, ?_, fun hl => by simp [isLoad, ho] at hl⟩
    simp [execOp, ho, he _ _ hp, Instr.loadAt, Instr.sureAddr, hr]
  case h_7 t x f ho =>
    simp only [trOp, ho] at h
    obtain ⟨v, hv, h⟩ := wv.ex h
    unfold trFieldAddr at h
    split at h
    · rename_i fs hu
      split at h
      · rename_i fd hf
        obtain ⟨hT, h⟩ := ck.ex h
        obtain ⟨p, rfl, h⟩ := wp.ex h
        obtain ⟨a, rfl, h⟩ := wa.ex h
        simp only [Bool.and_eq_true, Bool.not_eq_true'] at hT
        have hf' : fs[f]? = some fd := by simpa using hf
        have h0 : szOf P fd.type ≠ 0 := Nat.ne_of_beq_eq_false hT.2
        have hall : ∀ w2, (execOp ρ o).run P w2 = .ok (.value (.pointer (some (a.add fd.offset)))) w2 := fun w2 => by
          simp [execOp, ho, he _ _ hv, Instr.fieldAt, run_und hu, hf', Instr.sureAddr, fieldPlace, szOf_run hT.1, h0]
        exact ⟨_, h, hall w, fun _ => hall⟩
      · exact h.elim
    · exact h.elim
  case h_8 t x f ho => exact val (Instr.field t (ρ x) f) (by simp only [execOp, ho]) (.field _ _ _)
  case h_9 t x i ho => exact val (Instr.indexAt t (ρ x) (ρ i)) (by simp only [execOp, ho]) (.indexAt _ _ _)
  case h_10 t x i ho => exact val (Instr.index t (ρ x) (ρ i)) (by simp only [execOp, ho]) (.index _ _ _)
  case h_11 x i ho => exact val (Instr.extract (ρ x) i) (by simp only [execOp, ho]) (.extract _ _)
  case h_12 t x ho => exact val (Instr.makeInterface t (ρ x)) (by simp only [execOp, ho]) (.mkIface _ _)
  case h_13 fn a b ho => exact val (Instr.makeFunc fn (a.map ρ) (b.map ρ)) (by simp only [execOp, ho]) (.pure _)
  case h_14 t x lo hi ho => exact val (Instr.sliceAt t (ρ x) (lo.map ρ) (hi.map ρ) none) (by simp only [execOp, ho, Option.map_none]) (.slice _ _ _ _)
  case h_15 s d x ho =>
    split at hf
    · rename_i hs hd
      simp only [ho] at hv
      split at hv
      · rename_i kd n hx
        refine val (convert s d (ρ x)) (by simp only [execOp, ho]) ?_
        rename_i _ kd2 _ _
        have hp : ∃ u, ∀ w2, (convert s d (ρ x)).run P w2 = .ok u w2 := ⟨_, fun w2 => by
          rw [he _ _ hx]; simp [convert, run_und hs, run_und hd, Conv.intToInt]; rfl⟩
        obtain ⟨u, hp⟩ := hp
        intro w1 v w' hr
        rw [hp] at hr
        simp only [Result.ok.injEq] at hr
        obtain ⟨rfl, rfl⟩ := hr
        exact ⟨rfl, hp⟩
      · cases hv
    · cases hf
  case h_16 op t x y yt ho =>
    simp only [ho] at hv
    split at hv
    · rename_i a b ha hb
      have e1 : execOp ρ o = (do Pure.pure (Next.value (← (do eqGuard op t x y a b; binOp op t a b : Sem Value)))) := by simp only [execOp, ho, he _ _ ha, he _ _ hb]
      have cmp : pb a b = true → ∃ v, k v w ∧ (execOp ρ o).run P w = .ok (.value v) w ∧ (isLoad o = false → ∀ w2, (execOp ρ o).run P w2 = .ok (.value v) w2) := fun hpb =>
        val _ e1 fun w1 v w' hr => pb_pure hpb hr
      have eqc : ∀ neg, op = (match neg with | true => BinOp.neq | false => .eql) → (isConstNil P t y b || (isConstNil P t x a || pb a b)) = true →
          ∃ v, k v w ∧ (execOp ρ o).run P w = .ok (.value v) w ∧ (isLoad o = false → ∀ w2, (execOp ρ o).run P w2 = .ok (.value v) w2) := by
        intro neg hop hcc
        cases hpb : pb a b with
        | true => exact cmp hpb
        | false =>
          rw [hpb, Bool.or_false] at hcc
          have h' := h
          simp only [trOp, ho, ha, hb, wv] at h'
          have h3 : trBin P op t o.type x y a b w k → trEq P neg op t o.type x y a b w k := by
            intro h'
            unfold trBin at h'
            split at h'
            · simp [pb] at hpb
            · simp [pb] at hpb
            · simp [pb] at hpb
            · subst hop; cases neg <;> exact h'
          have h2 : trEq P neg op t o.type x y a b w k := by
            unfold trBinN at h'
            subst hop
            cases neg
            · simp only at h'
              split at h'
              · rename_i hc
                unfold trEq
                rw [hc]
                exact h'
              · exact h3 h'
            · simp only at h'
              split at h'
              · rename_i hc
                unfold trEq
                rw [hc]
                exact h'
              · exact h3 h'
          obtain ⟨v, hk, hall⟩ := trEq_pure hop hcc h2
          have hall' : ∀ w2, (execOp ρ o).run P w2 = .ok (.value v) w2 := fun w2 => by
            rw [e1]
            have := hall w2
            simp only [Sem.run_bind] at this ⊢
            rw [this]
            rfl
          exact ⟨v, hk, hall' w, fun _ => hall'⟩
      cases op <;> first | exact eqc false rfl hv | exact eqc true rfl hv | exact cmp hv
    · cases hv
  case h_17 args ts ho =>
    simp only [ho] at hv
    have h' := h
    simp only [trOp, ho] at h'
    obtain ⟨vs, hvs, h'⟩ := wvs.ex h'
    have hm : args.map ρ = ⟨vs⟩ := by apply Array.ext'; rw [Array.toList_map]; exact evs_map he hvs
    have hu0 : ∃ t d, ts[0]? = some t ∧ P.underlying t = some d ∧ (d = .string ∨ ∃ el, d = .slice el) := by
      have key : ∀ d, und0 P ts = some d → ∃ t, ts[0]? = some t ∧ P.underlying t = some d := by
        intro d hd
        unfold und0 at hd
        split at hd
        · rename_i t tl ht
          exact ⟨t, by rw [← Array.getElem?_toList, ht]; rfl, hd⟩
        · cases hd
      split at hf
      · rename_i hu; obtain ⟨t, h1, h2⟩ := key _ hu; exact ⟨t, _, h1, h2, .inl rfl⟩
      · rename_i hu; obtain ⟨t, h1, h2⟩ := key _ hu; exact ⟨t, _, h1, h2, .inr ⟨_, rfl⟩⟩
      · cases hf
    obtain ⟨t, d, ht, hut, hd⟩ := hu0
    refine val (Builtin.len_ ts o.type ⟨vs⟩) (by simp only [execOp, ho, resolve, hm]; rfl) ?_
    rw [hvs] at hv
    have hlen2 : (∃ n, ∀ w2, (Builtin.len_ ts o.type ⟨vs⟩).run P w2 = .ok n w2) ∨ ∀ w2, ∃ x y, (Builtin.len_ ts o.type ⟨vs⟩).run P w2 = .halt x y := by
      split at hv
      · rename_i s hs
        simp only [Option.some.injEq] at hs
        subst hs
        rcases hd with rfl | ⟨el, rfl⟩
        · left; exact ⟨_, fun w2 => by simp [Builtin.len_, ht, run_und hut]; rfl⟩
        · right; intro w2; simp [Builtin.len_, ht, run_und hut]
      · rename_i a n c hs
        simp only [Option.some.injEq] at hs
        subst hs
        rcases hd with rfl | ⟨el, rfl⟩
        · right; intro w2; simp [Builtin.len_, ht, run_und hut]
        · left; exact ⟨_, fun w2 => by simp [Builtin.len_, ht, run_und hut]; rfl⟩
      · cases hv
    rcases hlen2 with ⟨n, hn⟩ | hn
    · intro w1 v w' hr
      rw [hn] at hr
      simp only [Result.ok.injEq] at hr
      obtain ⟨rfl, rfl⟩ := hr
      exact ⟨rfl, hn⟩
    · exact .halts hn
  case h_18 => cases hf


/-- The same, whatever frame agrees. -/
theorem flo_all {e : Eval} (hG : Enters P G) {o : Oper} (hf : floO P o = true) (hv : floV P e o = true) (h : trOp P G e o w k) :
    ∃ v, k v w ∧ ∀ ρ : Operand → Value, (∀ x u, e x = some u → ρ x = u) → (execOp ρ o).run P w = .ok (.value v) w ∧ (isLoad o = false → ∀ w2, (execOp ρ o).run P w2 = .ok (.value v) w2) := by
  obtain ⟨v, hk, h1, h2⟩ := flo_run (ρ := fun x => (e x).getD undef) hG (fun x v hx => by simp [hx]) hf hv h
  refine ⟨v, hk, fun ρ hρ => ?_⟩
  have hkn : known e (opsL o.op) = true := by
    unfold floV at hv
    simp only [Bool.and_eq_true] at hv
    exact hv.1
  have key : ∀ xs, known e xs = true → ∀ x ∈ xs, ρ x = (e x).getD undef := by
    intro xs
    induction xs with
    | nil => intro _ x hx; cases hx
    | cons y ys ih =>
      intro hk x hx
      simp only [known, Bool.and_eq_true] at hk
      rcases List.mem_cons.1 hx with rfl | hx
      · obtain ⟨u, hu⟩ := Option.isSome_iff_exists.1 hk.1
        rw [hρ _ _ hu, hu]; rfl
      · exact ih hk.2 x hx
  have he : execOp ρ o = execOp (fun x => (e x).getD undef) o := execOp_congrL hf (key _ hkn)
  rw [he]
  exact ⟨h1, h2⟩

end
end Go.VC

namespace Go.VC
open Go

abbrev Ct := List Nat → Env → World → Prop
abbrev Sl := Nat → Option Value

def upd (o : Oper) (v : Value) (loc : Env) : Env := match o.dst with
  | some d => (d, some v) :: loc
  | none => loc
def kil (o : Oper) (loc : Env) : Env := upd o undef loc
/-- A guard's value: a Bool; or what is left by an operation that was passed over. -/
def grd (g : Value) (f : Bool → Prop) (z : Prop) : Prop := match g with
  | .bool b => f b
  | .tuple _ => z
  | _ => False
def dstOk (N : Nat) (o : Oper) : Bool := match o.dst with
  | some d => Nat.blt d N
  | none => true
def slotOf (ops : List Oper) (j : Nat) : Option Nat := (ops[j]?).bind (·.dst)

def ebit (D i : Nat) : Bool := Nat.beq (Nat.land (Nat.shiftRight D i) 1) 1
def setb (D i : Nat) : Nat := Nat.lor D (Nat.shiftLeft 1 i)

theorem ebit_eq (D i : Nat) : ebit D i = D.testBit i := by
  have h : D.testBit i = ((D >>> i) &&& 1 != 0) := by rw [Nat.testBit, Nat.and_comm]
  rw [h]
  unfold ebit
  show Nat.beq ((D >>> i) &&& 1) 1 = _
  have : (D >>> i) &&& 1 = (D >>> i) % 2 := by rw [Nat.and_one_is_mod]
  rw [this]
  rcases Nat.mod_two_eq_zero_or_one (D >>> i) with h | h <;> rw [h] <;> rfl

theorem ebit_setb (D i j : Nat) : ebit (setb D i) j = (ebit D j || decide (i = j)) := by
  rw [ebit_eq, ebit_eq]
  show (D ||| (1 <<< i)).testBit j = _
  rw [Nat.testBit_or, Nat.one_shiftLeft, Nat.testBit_two_pow]

theorem ebit_zero (i : Nat) : ebit 0 i = false := by rw [ebit_eq]; simp

/-- The edges that bind in whatever order. -/
def aftL : List Edge → List Edge
  | [] => []
  | e :: es => match e.ground with
    | .textOnly _ | .gcOnly _ => aftL es
    | _ => e :: aftL es
def aft (o : Oper) : List Edge := aftL o.after.toList
theorem mem_aftL {es : List Edge} {e : Edge} : e ∈ aftL es ↔ e ∈ es ∧ Region.binds .any e = true := by
  induction es with
  | nil => simp [aftL]
  | cons x es ih =>
    have key : (Region.binds .any x = true ∧ aftL (x :: es) = x :: aftL es) ∨ (Region.binds .any x = false ∧ aftL (x :: es) = aftL es) := by
      obtain ⟨on, g⟩ := x
      cases g <;> simp [aftL, Region.binds]
    rcases key with ⟨h1, h2⟩ | ⟨h1, h2⟩
    · rw [h2, List.mem_cons, List.mem_cons, ih]
      constructor
      · rintro (rfl | h)
        · exact ⟨.inl rfl, h1⟩
        · exact ⟨.inr h.1, h.2⟩
      · rintro ⟨rfl | h, hb⟩
        · exact .inl rfl
        · exact .inr ⟨h, hb⟩
    · rw [h2, List.mem_cons, ih]
      constructor
      · rintro ⟨h, hb⟩; exact ⟨.inr h, hb⟩
      · rintro ⟨rfl | h, hb⟩
        · rw [h1] at hb; cases hb
        · exact ⟨h, hb⟩

def bmL (acc : List Nat) : List Edge → Nat
  | [] => 0
  | e :: es => Nat.lor (setb (bmL acc es) e.on) ((acc[e.on]?).getD 0)
def befs : List Oper → List Nat → List Nat
  | [], acc => acc
  | o :: os, acc => befs os (acc ++ [bmL acc (aft o)])
def bm (bms : List Nat) (i : Nat) : Nat := (bms[i]?).getD 0

theorem bmL_bit {acc : List Nat} {es : List Edge} {k : Nat} (h : ebit (bmL acc es) k = true) : ∃ e ∈ es, e.on = k ∨ ebit ((acc[e.on]?).getD 0) k = true := by
  induction es with
  | nil => simp [bmL, ebit_zero] at h
  | cons e es ih =>
    simp only [bmL] at h
    rw [ebit_eq] at h
    change (setb (bmL acc es) e.on ||| ((acc[e.on]?).getD 0)).testBit k = true at h
    rw [Nat.testBit_or, ← ebit_eq, ← ebit_eq, ebit_setb] at h
    simp only [Bool.or_eq_true, decide_eq_true_eq] at h
    rcases h with (h | h) | h
    · obtain ⟨e', he', h'⟩ := ih h; exact ⟨e', List.mem_cons_of_mem _ he', h'⟩
    · exact ⟨e, List.mem_cons_self, .inl h⟩
    · exact ⟨e, List.mem_cons_self, .inr h⟩

theorem befs_length (os : List Oper) (acc : List Nat) : (befs os acc).length = acc.length + os.length := by
  induction os generalizing acc with
  | nil => rfl
  | cons o os ih => simp only [befs, ih, List.length_append, List.length_cons, List.length_nil]; omega

theorem befs_prefix (os : List Oper) (acc : List Nat) : ∀ j, j < acc.length → (befs os acc)[j]? = acc[j]? := by
  induction os generalizing acc with
  | nil => intro j _; rfl
  | cons o os ih => intro j hj; simp only [befs]; rw [ih _ j (by simp; omega), List.getElem?_append_left hj]

theorem befs_get (os : List Oper) (acc : List Nat) (i : Nat) (o : Oper) (h : os[i]? = some o) : (befs os acc)[acc.length + i]? = some (bmL ((befs os acc).take (acc.length + i)) (aft o)) := by
  induction os generalizing acc i with
  | nil => simp at h
  | cons o' os ih =>
    cases i with
    | zero =>
      simp at h
      subst h
      simp only [befs, Nat.add_zero]
      rw [befs_prefix _ _ _ (by simp)]
      have : (befs os (acc ++ [bmL acc (aft o')])).take acc.length = acc := by
        apply List.ext_getElem?
        intro j
        by_cases hj : j < acc.length
        · rw [List.getElem?_take_of_lt hj, befs_prefix _ _ _ (by simp; omega), List.getElem?_append_left hj]
        · rw [List.getElem?_eq_none (by simp [befs_length]; omega), List.getElem?_eq_none (by omega)]
      rw [this]
      simp
    | succ i =>
      have := ih (acc ++ [bmL acc (aft o')]) i (by simpa using h)
      simp only [befs]
      simp only [List.length_append, List.length_cons, List.length_nil] at this
      rw [show acc.length + (i + 1) = acc.length + (0 + 1) + i by omega]
      exact this

/-- What lies before an operation lies there once its direct forerunners have been taken. -/
theorem bm_closed {ops : List Oper} {i : Nat} {o : Oper} (ho : ops[i]? = some o) {M : Nat → Prop} (hM : ∀ j, M j → ∀ k, ebit (bm (befs ops []) j) k = true → M k) (he : ∀ e ∈ (aft o), M e.on) :
    ∀ k, ebit (bm (befs ops []) i) k = true → M k := by
  intro k hk
  have hg := befs_get ops [] i o ho
  simp only [List.length_nil, Nat.zero_add] at hg
  simp only [bm, hg, Option.getD_some] at hk
  obtain ⟨e, hmem, h | h⟩ := bmL_bit hk
  · rw [← h]; exact he e hmem
  · refine hM e.on (he e hmem) k ?_
    simp only [bm]
    by_cases hlt : e.on < i
    · rw [List.getElem?_take_of_lt hlt] at h; exact h
    · rw [List.getElem?_eq_none (by simp; omega)] at h; simp [ebit_zero] at h

def edgeOk (i : Nat) (e : Edge) : Bool := Nat.blt e.on i
def edgesOk : List Oper → Nat → Bool
  | [], _ => true
  | o :: os, i => (aft o).all (edgeOk i) && edgesOk os (i + 1)

theorem edgesOk_get {os : List Oper} {i0 : Nat} (h : edgesOk os i0 = true) {i : Nat} {o : Oper} (ho : os[i]? = some o) : ∀ e ∈ (aft o), edgeOk (i0 + i) e = true := by
  induction os generalizing i0 i with
  | nil => simp at ho
  | cons o' os ih =>
    simp only [edgesOk, Bool.and_eq_true] at h
    cases i with
    | zero => simp at ho; subst ho; exact List.all_eq_true.1 h.1
    | succ i => have := ih h.2 (by simpa using ho); rwa [show i0 + (i + 1) = i0 + 1 + i by omega]

/-- Which operation writes a slot. -/
def wrF : List Oper → Nat → Nat → Option Nat
  | [], _, _ => none
  | o :: os, i, s => match o.dst with
    | some d => match Nat.beq d s with
      | true => some i
      | false => wrF os (i + 1) s
    | none => wrF os (i + 1) s
def hasDst : List Oper → Nat → Bool
  | [], _ => false
  | o :: os, s => match o.dst with
    | some d => match Nat.beq d s with
      | true => true
      | false => hasDst os s
    | none => hasDst os s
def dstsOk (N : Nat) : List Oper → Bool
  | [] => true
  | o :: os => match o.dst with
    | some d => Nat.blt d N && (!hasDst os d && dstsOk N os)
    | none => dstsOk N os

theorem nbeq {a b : Nat} : Nat.beq a b = false ↔ a ≠ b := by
  constructor
  · intro h e; subst e; simp [Nat.beq_refl] at h
  · intro h; cases hh : Nat.beq a b with
    | false => rfl
    | true => exact absurd (Nat.eq_of_beq_eq_true hh) h

theorem hasDst_of {os : List Oper} {i s : Nat} {o : Oper} (ho : os[i]? = some o) (hd : o.dst = some s) : hasDst os s = true := by
  induction os generalizing i with
  | nil => simp at ho
  | cons o' os ih =>
    simp only [hasDst]
    cases i with
    | zero => simp at ho; subst ho; simp [hd, Nat.beq_refl]
    | succ i =>
      have := ih (i := i) (by simpa using ho)
      split
      · split
        · rfl
        · exact this
      · exact this

theorem wrF_some {os : List Oper} {i0 s j : Nat} (h : wrF os i0 s = some j) : ∃ i o, j = i0 + i ∧ os[i]? = some o ∧ o.dst = some s := by
  induction os generalizing i0 with
  | nil => simp [wrF] at h
  | cons o os ih =>
    simp only [wrF] at h
    split at h
    · rename_i d hd
      split at h
      · rename_i hb
        simp only [Option.some.injEq] at h
        exact ⟨0, o, by omega, rfl, by rw [hd, Nat.eq_of_beq_eq_true hb]⟩
      · obtain ⟨i, o', h1, h2, h3⟩ := ih h; exact ⟨i + 1, o', by omega, h2, h3⟩
    · obtain ⟨i, o', h1, h2, h3⟩ := ih h; exact ⟨i + 1, o', by omega, h2, h3⟩

theorem wrF_of {N : Nat} {os : List Oper} (hok : dstsOk N os = true) {i0 i s : Nat} {o : Oper} (ho : os[i]? = some o) (hd : o.dst = some s) : wrF os i0 s = some (i0 + i) := by
  induction os generalizing i0 i with
  | nil => simp at ho
  | cons o' os ih =>
    simp only [dstsOk] at hok
    simp only [wrF]
    cases i with
    | zero => simp at ho; subst ho; simp [hd, Nat.beq_refl]
    | succ i =>
      have ho' : os[i]? = some o := by simpa using ho
      cases hd' : o'.dst with
      | none => rw [hd'] at hok; simp only; rw [ih hok ho']; simp; omega
      | some d =>
        rw [hd'] at hok
        simp only [Bool.and_eq_true, Bool.not_eq_true'] at hok
        have hne : d ≠ s := fun e => by subst e; rw [hasDst_of ho' hd] at hok; cases hok.2.1
        simp only [nbeq.2 hne]
        rw [ih hok.2.2 ho']
        simp; omega

theorem dstsOk_lt {N : Nat} {os : List Oper} (hok : dstsOk N os = true) {i s : Nat} {o : Oper} (ho : os[i]? = some o) (hd : o.dst = some s) : s < N := by
  induction os generalizing i with
  | nil => simp at ho
  | cons o' os ih =>
    simp only [dstsOk] at hok
    cases hd' : o'.dst with
    | none =>
      rw [hd'] at hok
      cases i with
      | zero => simp at ho; subst ho; rw [hd'] at hd; cases hd
      | succ i => exact ih hok (by simpa using ho)
    | some d =>
      rw [hd'] at hok
      simp only [Bool.and_eq_true] at hok
      cases i with
      | zero => simp at ho; subst ho; rw [hd'] at hd; cases hd; exact Nat.le_of_ble_eq_true hok.1
      | succ i => exact ih hok.2.2 (by simpa using ho)

/-- An operand as an operation of the region meets it. -/
def evD (ops : List Oper) (bms : List Nat) (old : Eval) (vals : Env) (i : Nat) : Eval := fun x => match x with
  | .tmp s => match wrF ops 0 s with
    | none => old (.tmp s)
    | some j => match ebit (bm bms i) j with
      | true => (find vals j).join
      | false => match ebit (bm bms j) i || Nat.beq i j with
        | true => old (.tmp s)
        | false => none
  | x => old x

def trG (ops : List Oper) (b : Nat) (vals : Env) (o : Oper) (run skip : Env → Prop) : Prop := match o.guard with
  | none => run vals
  | some (j, pos) => ck (ebit b j) (wvs (slotOf ops j) fun _ => wv (find vals j).join fun g => grd g (fun t => match pos with
      | true => br t (run ((j, some (.bool true)) :: vals)) (skip ((j, some (.bool false)) :: vals))
      | false => br t (skip ((j, some (.bool true)) :: vals)) (run ((j, some (.bool false)) :: vals))) (skip vals))

def ready1 (D : Nat) : List Edge → Bool
  | [] => true
  | e :: es => ebit D e.on && ready1 D es
def nextF (P : Program) : List Oper → Nat → Nat → Option (Nat × Oper)
  | [], _, _ => none
  | o :: os, i, D => match !ebit D i && (ready1 D (aft o) && floO P o) with
    | true => some (i, o)
    | false => nextF P os (i + 1) D
def readyS : List Oper → Nat → Nat → List (Nat × Oper)
  | [], _, _ => []
  | o :: os, i, D => match !ebit D i && ready1 D (aft o) with
    | true => (i, o) :: readyS os (i + 1) D
    | false => readyS os (i + 1) D
def allD : List Oper → Nat → Nat → Bool
  | [], _, _ => true
  | _ :: os, i, D => ebit D i && allD os (i + 1) D
def andS : List (Nat × Oper) → (Nat → Oper → Prop) → Prop
  | [], _ => True
  | (i, o) :: l, f => match l with
    | [] => f i o
    | l => f i o ∧ andS l f

def stab1 (P : Program) (t : TypeId) (w : World) (a : Addr) (v : Value) (q : Prop) : Prop := match isAggT P t with
  | true => match v with
    | .agg cs => ldC w a cs.toList 0 q
    | _ => False
  | false => w.cell? a = some v ∧ q

def stab (P : Program) (ops : List Oper) (bms : List Nat) (old : Eval) (vals : Env) (w : World) : List Nat → Prop → Prop
  | [], q => q
  | i :: is, q => wvs ops[i]? fun o => match o.op with
    | .load t a => wv (evD ops bms old vals i a) fun p => wp p fun p => wa p fun ad => wv (find vals i).join fun v => stab1 P t w ad v (stab P ops bms old vals w is q)
    | _ => False

def dropB (b : Nat) : List Nat → List Nat
  | [] => []
  | i :: is => match ebit b i with
    | true => dropB b is
    | false => i :: dropB b is

def trDr (P : Program) (G : Nat → Bool) (ops : List Oper) (bms : List Nat) (old : Eval) : Nat → Nat → Env → List Nat → World → (Env → World → Prop) → Prop
  | 0, _, _, _, _, _ => False
  | f + 1, D, vals, pend, w, kn => match nextF P ops 0 D with
    | some (i, o) => trG ops (bm bms i) vals o
        (fun vals => ck (floV P (evD ops bms old vals i) o) (trOp P G (evD ops bms old vals i) o w fun v _ =>
          trDr P G ops bms old f (setb D i) ((i, some v) :: vals) (match isLoad o with | true => i :: pend | false => pend) w kn))
        (fun vals => trDr P G ops bms old f (setb D i) ((i, some undef) :: vals) pend w kn)
    | none => match allD ops 0 D with
      | true => kn vals w
      | false => andS (readyS ops 0 D) fun i o => trG ops (bm bms i) vals o
          (fun vals => trOp P G (evD ops bms old vals i) o w fun v w' => stab P ops bms old vals w' (dropB (bm bms i) pend)
            (trDr P G ops bms old f (setb D i) ((i, some v) :: vals) (dropB (bm bms i) pend) w' kn))
          (fun vals => trDr P G ops bms old f (setb D i) ((i, some undef) :: vals) pend w kn)

end Go.VC

namespace Go.VC
open Go

/-- The fence that asks nothing, in a round or not. -/
def Wd (r : Option Nat) : Fence := { Fence.wide with round := r }

def mark (D : Nat) : Deferred := { target := .collected D, args := #[] }

section
variable {n : Nat} {P : Program} {Q : Exit → Act → World → Prop}

theorem callsIn_Wd {r : Option Nat} {f : FuncId} {args : Array Value} {w : World} {R : Ending → World → Prop} (h : Calls P f args w R) : CallsIn (Wd r) n P f args w R :=
  (callsIn_wide (n := n)).2 h

theorem roundIn_Wd {r : Option Nat} {l : Nat} {f : FuncId} {tmps : Array Value} {assign body : Code} {w : World} {R : Ending → World → Prop} (h : RoundIn Fence.wide 0 P l f tmps assign body w R) : RoundIn (Wd r) n P l f tmps assign body w R :=
  ⟨trivial, fun c cs _ => h.2 c cs (room_wide _)⟩

theorem wpIn_of_post {r : Option Nat} {o : Oper} {a : Act} {w : World} {next : Act → World → Prop} {k : K} (hnd : ∀ c, o.op ≠ .defer c) (h : Post P k ((execOp a.eval o).run P w))
    (hk : ∀ v w', k v w' → next (a.put o.dst v) w') : o.wpIn (Wd r) n P a w next Q := by
  refine ⟨fun _ _ => trivial, ?_⟩
  rw [Oper.semAt_eq _ _ _ hnd]
  revert h
  generalize (execOp a.eval o).run P w = res
  intro h
  cases h with
  | value h => exact hk _ _ h
  | skip h => exact hk _ _ h
  | enter h =>
    refine ⟨fun hd => by simp [Wd, Fence.wide] at hd, (callsIn_Wd (h.mono ?_))⟩
    rintro e w' ⟨v, rfl, h⟩
    exact hk _ _ h
  | round h =>
    refine ⟨fun hd => by simp [Wd, Fence.wide] at hd, (roundIn_Wd (h.mono ?_))⟩
    rintro e w' ⟨v, rfl, h⟩
    exact hk _ _ h

theorem trOp_nd {P : Program} {G : Nat → Bool} {e : Eval} {o : Oper} {w : World} {k : K} (h : trOp P G e o w k) : ∀ c, o.op ≠ .defer c := by
  intro c hc
  simp only [trOp, hc] at h
theorem floO_nd {o : Oper} (h : floO P o = true) : ∀ c, o.op ≠ .defer c := by
  intro c hc
  simp [floO, hc] at h

end

/-- What is known of values grows. -/
def Le (v v' : Env) : Prop := ∀ j u, find v j = some (some u) → find v' j = some (some u)
theorem Le.refl (v : Env) : Le v v := fun _ _ h => h
theorem Le.trans {a b c : Env} (h : Le a b) (k : Le b c) : Le a c := fun j u hj => k j u (h j u hj)
theorem find_cons_self (i : Nat) (v : Option Value) (e : Env) : find ((i, v) :: e) i = some v := by simp [find, Nat.beq_refl]
theorem find_cons_ne {i j : Nat} (h : j ≠ i) (v : Option Value) (e : Env) : find ((i, v) :: e) j = find e j := by simp only [find]; rw [nbeq.2 h]

/-- What a guard says: run (true), pass over (false). -/
def gst (vals : Env) (o : Oper) : Option Bool := match o.guard with
  | none => some true
  | some (j, pos) => match find vals j with
    | some (some (.bool b)) => some (b == pos)
    | some (some (.tuple _)) => some false
    | _ => none

theorem gst_mono {v v' : Env} (h : Le v v') {o : Oper} {b : Bool} (hg : gst v o = some b) : gst v' o = some b := by
  unfold gst at hg ⊢
  split at hg
  · exact hg
  · rename_i j pos hj
    split at hg
    · rename_i t ht; simp only [h _ _ ht]; exact hg
    · rename_i t ht; simp only [h _ _ ht]; exact hg
    · cases hg

theorem trG_out {ops : List Oper} {b : Nat} {vals : Env} {o : Oper} {run skip : Env → Prop} (h : trG ops b vals o run skip) :
    ∃ vals' t, Le vals vals' ∧ (∀ j, find vals' j ≠ none → find vals j ≠ none) ∧ gst vals' o = some t ∧ (match t with | true => run vals' | false => skip vals') ∧
      (∀ j pos, o.guard = some (j, pos) → ebit b j = true ∧ (slotOf ops j).isSome = true) := by
  unfold trG at h
  split at h
  · rename_i hg
    exact ⟨vals, true, Le.refl _, fun _ h => h, by simp [gst, hg], h, fun j pos h' => by rw [hg] at h'; cases h'⟩
  · rename_i j pos hg
    obtain ⟨hb, h⟩ := ck.ex h
    obtain ⟨s, hs, h⟩ := wvs.ex h
    obtain ⟨g, hgv, h⟩ := wv.ex h
    have hfj : find vals j = some (some g) := by
      cases hf : find vals j with
      | none => rw [hf] at hgv; cases hgv
      | some x => rw [hf] at hgv; simp at hgv; rw [hgv]
    have hgd : ∀ j' pos', o.guard = some (j', pos') → ebit b j' = true ∧ (slotOf ops j').isSome = true := by
      intro j' pos' h'
      rw [hg] at h'
      simp only [Option.some.injEq, Prod.mk.injEq] at h'
      obtain ⟨rfl, _⟩ := h'
      exact ⟨hb, by simp [hs]⟩
    have le : ∀ x, g = x → Le vals ((j, some x) :: vals) := fun x hx k u hk => by
      by_cases e : k = j
      · subst e; rw [hfj] at hk; simp only [Option.some.injEq] at hk; subst hk; subst hx; exact find_cons_self _ _ _
      · rw [find_cons_ne e]; exact hk
    have nn : ∀ x, ∀ k, find ((j, some x) :: vals) k ≠ none → find vals k ≠ none := fun x k hk => by
      by_cases e : k = j
      · subst e; rw [hfj]; simp
      · rwa [find_cons_ne e] at hk
    cases g <;> try exact h.elim
    case tuple vs => exact ⟨vals, false, Le.refl _, fun _ h => h, by simp [gst, hg, hfj], h, hgd⟩
    rename_i t
    simp only [grd] at h
    cases pos <;> cases t
    · exact ⟨_, true, le _ rfl, nn _, by simp [gst, hg, find_cons_self], h, hgd⟩
    · exact ⟨_, false, le _ rfl, nn _, by simp [gst, hg, find_cons_self], h, hgd⟩
    · exact ⟨_, false, le _ rfl, nn _, by simp [gst, hg, find_cons_self], h, hgd⟩
    · exact ⟨_, true, le _ rfl, nn _, by simp [gst, hg, find_cons_self], h, hgd⟩

theorem evD_mono {ops : List Oper} {bms : List Nat} {old : Eval} {v v' : Env} (h : Le v v') {i : Nat} {x : Operand} {u : Value} (hx : evD ops bms old v i x = some u) : evD ops bms old v' i x = some u := by
  unfold evD at hx ⊢
  split at hx
  · rename_i s
    cases hw : wrF ops 0 s with
    | none => rw [hw] at hx; simpa using hx
    | some j =>
      rw [hw] at hx
      simp only at hx ⊢
      cases hb : ebit (bm bms i) j with
      | true =>
        rw [hb] at hx
        simp only at hx ⊢
        have : find v j = some (some u) := by
          cases hf : find v j with
          | none => rw [hf] at hx; cases hx
          | some y => rw [hf] at hx; simp at hx; rw [hx]
        rw [h _ _ this]; rfl
      | false => rw [hb] at hx; exact hx
  · exact hx

theorem load_same {P : Program} {t : TypeId} {ad : Addr} {v : Value} {w w' : World} {q : Prop} (h : (loadVar t ad).run P w = .ok v w) (hs : stab1 P t w' ad v q) : (loadVar t ad).run P w' = .ok v w' ∧ q := by
  have hag : ∀ w1, (isAgg t).run P w1 = .ok (isAggT P t) w1 := by
    intro w1
    unfold isAgg isAggT
    cases hu : P.underlying t with
    | none => simp [loadVar, isAgg, underlying, hu] at h
    | some d => simp only [Sem.run_bind, run_und hu, Result.andThen_ok]; cases d <;> simp
  unfold stab1 at hs
  cases ha : isAggT P t with
  | true =>
    rw [ha] at hs
    simp only at hs
    cases v <;> try exact hs.elim
    rename_i cs
    simp only at hs
    obtain ⟨hc, hq⟩ := ldC.out hs
    refine ⟨?_, hq⟩
    have hsz : ∃ m, ∀ w1, (sizeOf t).run P w1 = .ok m w1 := by
      cases hi : P.info? t with
      | none => simp [loadVar, hag, ha, sizeOf, typeInfo, hi] at h
      | some i => exact ⟨i.size, fun w1 => by simp [sizeOf, typeInfo, hi]⟩
    obtain ⟨m, hm⟩ := hsz
    have hlen : cs.toList.length = m := by
      have h' : (loadCells ad m).run P w = .ok cs w := by
        simp only [loadVar, Sem.run_bind, hag, ha, Result.andThen_ok, if_true, hm] at h
        cases hl : (loadCells ad m).run P w with
        | halt x y => rw [hl] at h; cases h
        | ok a w1 => rw [hl] at h; simp only [Result.andThen_ok, Sem.run_pure, Result.ok.injEq, Value.agg.injEq] at h; obtain ⟨rfl, rfl⟩ := h; rfl
      have key : ∀ (k i : Nat) (acc : Array Value) (w1 w2 : World) (out : Array Value), (loadCellsFrom ad i k acc).run P w1 = .ok out w2 → out.size = acc.size + k := by
        intro k
        induction k with
        | zero => intro i acc w1 w2 out h; simp [loadCellsFrom] at h; rw [← h.1]; rfl
        | succ k ih =>
          intro i acc w1 w2 out h
          simp only [loadCellsFrom, Sem.run_bind] at h
          cases hl : (load (ad.add i)).run P w1 with
          | halt x y => rw [hl] at h; cases h
          | ok v w3 => rw [hl] at h; simp only [Result.andThen_ok] at h; have := ih _ _ _ _ _ h; simp at this; omega
      have := key m 0 #[] w w cs h'
      simpa using this
    have hl2 := loadCellsFrom_run (P := P) (w := w') ad cs.toList 0 #[] (fun j v hv => by simpa using hc j v hv)
    simp only [List.nil_append, hlen] at hl2
    simp only [loadVar, Sem.run_bind, hag, ha, Result.andThen_ok, if_true, hm, loadCells]
    rw [hl2]
    rfl
  | false =>
    rw [ha] at hs
    obtain ⟨hc, hq⟩ := hs
    exact ⟨by simp [loadVar, hag, ha, hc], hq⟩


/-- An operation that the condition has taken: passed over, or with its value. -/
def Rdy (P : Program) (ops : List Oper) (bms : List Nat) (old : Eval) (vals : Env) (i : Nat) (o : Oper) (w : World) : Prop :=
  (gst vals o = some false ∧ find vals i = some (some undef)) ∨
  (gst vals o = some true ∧ ∃ v, find vals i = some (some v) ∧ ∀ ρ : Operand → Value, (∀ x u, evD ops bms old vals i x = some u → ρ x = u) →
    (execOp ρ o).run P w = .ok (.value v) w ∧ (isLoad o = false → ∀ w2, (execOp ρ o).run P w2 = .ok (.value v) w2))

theorem Rdy.mono {P : Program} {ops : List Oper} {bms : List Nat} {old : Eval} {v v' : Env} {i : Nat} {o : Oper} {w : World} (hl : Le v v') (h : Rdy P ops bms old v i o w) : Rdy P ops bms old v' i o w := by
  rcases h with ⟨h1, h2⟩ | ⟨h1, u, h2, h3⟩
  · exact .inl ⟨gst_mono hl h1, hl _ _ h2⟩
  · exact .inr ⟨gst_mono hl h1, u, hl _ _ h2, fun ρ hρ => h3 ρ fun x y hx => hρ x y (evD_mono hl hx)⟩

theorem ready1_iff {D : Nat} {es : List Edge} : ready1 D es = true ↔ ∀ e ∈ es, ebit D e.on = true := by
  induction es with
  | nil => simp [ready1]
  | cons e es ih => simp [ready1, ih]

theorem nextF_some {P : Program} {os : List Oper} {i0 D i : Nat} {o : Oper} (h : nextF P os i0 D = some (i, o)) : ∃ k, i = i0 + k ∧ os[k]? = some o ∧ ebit D i = false ∧ ready1 D (aft o) = true ∧ floO P o = true := by
  induction os generalizing i0 with
  | nil => simp [nextF] at h
  | cons o' os ih =>
    simp only [nextF] at h
    split at h
    · rename_i hc
      simp only [Option.some.injEq, Prod.mk.injEq] at h
      obtain ⟨rfl, rfl⟩ := h
      simp only [Bool.and_eq_true, Bool.not_eq_true'] at hc
      exact ⟨0, rfl, rfl, hc.1, hc.2.1, hc.2.2⟩
    · obtain ⟨k, h1, h2, h3⟩ := ih h
      exact ⟨k + 1, by omega, h2, h3⟩

theorem nextF_none {P : Program} {os : List Oper} {i0 D : Nat} (h : nextF P os i0 D = none) {k : Nat} {o : Oper} (ho : os[k]? = some o) (hd : ebit D (i0 + k) = false) (hr : ready1 D (aft o) = true) : floO P o = false := by
  induction os generalizing i0 k with
  | nil => simp at ho
  | cons o' os ih =>
    simp only [nextF] at h
    split at h
    · cases h
    · rename_i hc
      cases k with
      | zero =>
        simp at ho; subst ho
        simp only [Nat.add_zero] at hd
        cases hf : floO P o' with
        | false => rfl
        | true => simp [hd, hr, hf] at hc
      | succ k => exact ih h (by simpa using ho) (by rwa [show i0 + 1 + k = i0 + (k + 1) by omega])

theorem readyS_mem {os : List Oper} {i0 D k : Nat} {o : Oper} (ho : os[k]? = some o) (hd : ebit D (i0 + k) = false) (hr : ready1 D (aft o) = true) : (i0 + k, o) ∈ readyS os i0 D := by
  induction os generalizing i0 k with
  | nil => simp at ho
  | cons o' os ih =>
    simp only [readyS]
    cases k with
    | zero =>
      simp at ho; subst ho
      simp only [Nat.add_zero] at hd
      simp [hd, hr]
    | succ k =>
      have := ih (i0 := i0 + 1) (k := k) (by simpa using ho) (by rwa [show i0 + 1 + k = i0 + (k + 1) by omega])
      rw [show i0 + (k + 1) = i0 + 1 + k by omega]
      split
      · exact List.mem_cons_of_mem _ this
      · exact this

theorem andS_mem {l : List (Nat × Oper)} {f : Nat → Oper → Prop} (h : andS l f) {i : Nat} {o : Oper} (hm : (i, o) ∈ l) : f i o := by
  induction l with
  | nil => cases hm
  | cons x l ih =>
    obtain ⟨j, p⟩ := x
    cases l with
    | nil =>
      simp only [List.mem_singleton, Prod.mk.injEq] at hm
      obtain ⟨rfl, rfl⟩ := hm
      exact h
    | cons y l =>
      simp only [andS] at h
      rcases List.mem_cons.1 hm with hm | hm
      · simp only [Prod.mk.injEq] at hm; obtain ⟨rfl, rfl⟩ := hm; exact h.1
      · exact ih h.2 hm

theorem allD_of {os : List Oper} {i0 D : Nat} (h : ∀ k, k < os.length → ebit D (i0 + k) = true) : allD os i0 D = true := by
  induction os generalizing i0 with
  | nil => rfl
  | cons o os ih =>
    simp only [allD, Bool.and_eq_true]
    refine ⟨by simpa using h 0 (by simp), ih fun k hk => ?_⟩
    have := h (k + 1) (by simp; omega)
    rwa [show i0 + 1 + k = i0 + (k + 1) by omega]

theorem mem_dropB {b i : Nat} {l : List Nat} (h : i ∈ l) (hb : ebit b i = false) : i ∈ dropB b l := by
  induction l with
  | nil => cases h
  | cons j l ih =>
    simp only [dropB]
    rcases List.mem_cons.1 h with rfl | h
    · rw [hb]; exact List.mem_cons_self
    · split
      · exact ih h
      · exact List.mem_cons_of_mem _ (ih h)

theorem stab_out {P : Program} {ops : List Oper} {bms : List Nat} {old : Eval} {vals : Env} {w' : World} : ∀ {l : List Nat} {q : Prop}, stab P ops bms old vals w' l q →
    q ∧ ∀ i ∈ l, ∃ o t a ad v, ops[i]? = some o ∧ o.op = .load t a ∧ evD ops bms old vals i a = some (.pointer (some ad)) ∧ find vals i = some (some v) ∧ stab1 P t w' ad v True
  | [], q, h => ⟨h, fun i hi => by cases hi⟩
  | j :: l, q, h => by
    simp only [stab] at h
    obtain ⟨o, ho, h⟩ := wvs.ex h
    split at h
    · rename_i t a hop
      obtain ⟨p, hp, h⟩ := wv.ex h
      obtain ⟨pp, rfl, h⟩ := wp.ex h
      obtain ⟨ad, rfl, h⟩ := wa.ex h
      obtain ⟨v, hv, h⟩ := wv.ex h
      have hf : find vals j = some (some v) := by
        cases hf : find vals j with
        | none => rw [hf] at hv; cases hv
        | some y => rw [hf] at hv; simp at hv; rw [hv]
      have hsplit : stab1 P t w' ad v True ∧ stab P ops bms old vals w' l q := by
        have key : ∀ (vs : List Value) (i : Nat) (q : Prop), ldC w' ad vs i q → ldC w' ad vs i True ∧ q := by
          intro vs
          induction vs with
          | nil => intro i q h; exact ⟨trivial, h⟩
          | cons v vs ih => intro i q h; exact ⟨⟨h.1, (ih _ _ h.2).1⟩, (ih _ _ h.2).2⟩
        unfold stab1 at h ⊢
        cases hagt : isAggT P t with
        | true =>
          rw [hagt] at h
          simp only at h ⊢
          cases v <;> first | exact h.elim | exact key _ _ _ h
        | false => rw [hagt] at h; exact ⟨⟨h.1, trivial⟩, h.2⟩
      obtain ⟨hq, hall⟩ := stab_out hsplit.2
      refine ⟨hq, fun i hi => ?_⟩
      rcases List.mem_cons.1 hi with rfl | hi
      · exact ⟨o, t, a, ad, v, ho, hop, hp, hf, hsplit.1⟩
      · exact hall i hi
    · exact h.elim

/-- The state of the walk through such a region: what the machine has done (M), what the condition has taken (D). -/
structure Sim (P : Program) (ops : List Oper) (bms : List Nat) (N : Nat) (ds : List Nat) (old : Eval) (M : Nat → Prop) (D : Nat) (vals : Env) (pend : List Nat) (w : World) (a : Act) : Prop where
  sub : ∀ i, M i → ebit D i = true
  dom : ∀ i, ebit D i = false → find vals i = none
  val : ∀ i, i < ops.length → ebit D i = true → ∃ v, find vals i = some (some v)
  clo : ∀ j, M j → ∀ k, ebit (bm bms j) k = true → M k
  rdy : ∀ i o, ebit D i = true → ¬ M i → ops[i]? = some o → floO P o = true ∧ Rdy P ops bms old vals i o w ∧ (isLoad o = true → gst vals o = some true → i ∈ pend) ∧ (∀ j pos, o.guard = some (j, pos) → ebit (bm bms i) j = true ∧ (slotOf ops j).isSome = true)
  size : a.tmps.size = N
  defers : a.defers = ds.map mark
  s0 : ∀ s v, wrF ops 0 s = none → old (.tmp s) = some v → a.tmps[s]? = some v
  s1 : ∀ s j v, wrF ops 0 s = some j → M j → find vals j = some (some v) → a.tmps[s]? = some v
  s2 : ∀ s j v, wrF ops 0 s = some j → ¬ M j → old (.tmp s) = some v → a.tmps[s]? = some v
  oldc : ∀ x v, (∀ s, x ≠ .tmp s) → old x = some v → a.eval x = v

theorem Sim.eval {P : Program} {ops : List Oper} {bms : List Nat} {N : Nat} {ds : List Nat} {old : Eval} {M : Nat → Prop} {D : Nat} {vals : Env} {pend : List Nat} {w : World} {a : Act} (h : Sim P ops bms N ds old M D vals pend w a)
    {i : Nat} (hb : ∀ k, ebit (bm bms i) k = true → M k) (hi : ¬ M i) : ∀ x u, evD ops bms old vals i x = some u → a.eval x = u := by
  intro x u hx
  have slot : ∀ s, a.tmps[s]? = some u → a.eval (.tmp s) = u := fun s hs => by simp [Act.eval, Array.getD_eq_getD_getElem?, hs]
  unfold evD at hx
  split at hx
  · rename_i s
    split at hx
    · rename_i hw; exact slot s (h.s0 s u hw hx)
    · rename_i j hw
      split at hx
      · rename_i hbj
        have hf : find vals j = some (some u) := by
          cases hf : find vals j with
          | none => rw [hf] at hx; cases hx
          | some y => rw [hf] at hx; simp at hx; rw [hx]
        exact slot s (h.s1 s j u hw (hb j hbj) hf)
      · split at hx
        · rename_i hor
          have hnj : ¬ M j := by
            intro hmj
            simp only [Bool.or_eq_true] at hor
            rcases hor with h1 | h1
            · exact hi (h.clo j hmj i h1)
            · exact hi (by rw [Nat.eq_of_beq_eq_true h1]; exact hmj)
          exact slot s (h.s2 s j u hw hnj hx)
        · cases hx
  · rename_i hne
    exact h.oldc x u (fun s e => hne s e) hx

theorem Sim.wanted {P : Program} {ops : Array Oper} {bms : List Nat} {N : Nat} {ds : List Nat} {old : Eval} {M : Nat → Prop} {D : Nat} {vals : Env} {pend : List Nat} {w : World} {a : Act} (h : Sim P ops.toList bms N ds old M D vals pend w a)
    (hok : dstsOk N ops.toList = true) {o : Oper} {t : Bool} (hg : gst vals o = some t) (hj : ∀ j pos, o.guard = some (j, pos) → M j ∧ (slotOf ops.toList j).isSome = true) : Region.wanted o (yielded ops a.tmps) = t := by
  unfold gst at hg
  split at hg
  · rename_i hn; simp only [Option.some.injEq] at hg; subst hg; simp [Region.wanted, hn]
  · rename_i j pos hgd
    obtain ⟨hm, hs⟩ := hj j pos hgd
    obtain ⟨s, hs⟩ := Option.isSome_iff_exists.1 hs
    have h2 : ((ops[j]?).bind (·.dst)) = some s := by simpa [slotOf] using hs
    obtain ⟨oj, hoj, hdj⟩ : ∃ oj, ops.toList[j]? = some oj ∧ oj.dst = some s := by
      unfold slotOf at hs
      cases ho : ops.toList[j]? with
      | none => rw [ho] at hs; cases hs
      | some oj => rw [ho] at hs; exact ⟨oj, rfl, hs⟩
    have hw := wrF_of hok (i0 := 0) hoj hdj
    simp only [Nat.zero_add] at hw
    simp only [Region.wanted, hgd, yielded, h2, Option.bind_some]
    split at hg
    · rename_i b hb
      simp only [Option.some.injEq] at hg
      rw [h.s1 s j _ hw hm hb]
      subst hg
      cases b <;> cases pos <;> rfl
    · rename_i vs hb
      simp only [Option.some.injEq] at hg
      rw [h.s1 s j _ hw hm hb]
      subst hg
      rfl
    · cases hg

/-- The machine takes an operation that leaves this value. -/
theorem Sim.put {P : Program} {ops : List Oper} {bms : List Nat} {N : Nat} {ds : List Nat} {old : Eval} {M : Nat → Prop} {D : Nat} {vals : Env} {pend : List Nat} {w : World} {a : Act} (h : Sim P ops bms N ds old M D vals pend w a)
    (hok : dstsOk N ops = true) {i : Nat} {o : Oper} (ho : ops[i]? = some o) {v : Value} (hv : find vals i = some (some v)) (hD : ebit D i = true) (hb : ∀ k, ebit (bm bms i) k = true → M k) :
    Sim P ops bms N ds old (fun j => M j ∨ j = i) D vals pend w (a.put o.dst v) := by
  have hsame : ∀ s, (∀ d, o.dst = some d → d ≠ s) → (a.put o.dst v).tmps[s]? = a.tmps[s]? := by
    intro s hs
    unfold Act.put
    cases hd : o.dst with
    | none => rfl
    | some d => simp only; rw [Array.getElem?_setIfInBounds_ne (hs d hd)]
  have hdst : ∀ s, o.dst = some s → (a.put o.dst v).tmps[s]? = some v := by
    intro s hs
    have := dstsOk_lt hok ho hs
    simp [Act.put, hs, h.size, this]
  have hsz : (a.put o.dst v).tmps.size = N := by unfold Act.put; split <;> simp [h.size]
  have hdf : (a.put o.dst v).defers = ds.map mark := by unfold Act.put; split <;> exact h.defers
  have hwr : ∀ s j, wrF ops 0 s = some j → o.dst = some s → j = i := by
    intro s j hw hd
    have := wrF_of hok (i0 := 0) ho hd
    rw [hw] at this; simp at this; exact this
  have hwi : ∀ s, wrF ops 0 s = some i → o.dst = some s := by
    intro s hw
    obtain ⟨k, o', h1, h2, h3⟩ := wrF_some hw
    have : k = i := by omega
    subst this
    rw [ho] at h2; cases h2; exact h3
  refine ⟨?_, h.dom, h.val, ?_, ?_, hsz, hdf, ?_, ?_, ?_, ?_⟩
  · rintro j (hj | rfl)
    · exact h.sub j hj
    · exact hD
  · rintro j (hj | rfl) k hk
    · exact .inl (h.clo j hj k hk)
    · exact .inl (hb k hk)
  · intro j oj hdj hnj hoj
    exact h.rdy j oj hdj (fun hm => hnj (.inl hm)) hoj
  · intro s u hw hu
    rw [hsame s (fun d hd e => by subst e; have := wrF_of hok (i0 := 0) ho hd; rw [hw] at this; cases this)]
    exact h.s0 s u hw hu
  · rintro s j u hw (hj | rfl) hf
    · by_cases hd : o.dst = some s
      · have := hwr s j hw hd
        subst this
        rw [hv] at hf; simp only [Option.some.injEq] at hf; subst hf
        exact hdst s hd
      · rw [hsame s (fun d hd' e => by subst e; exact hd hd')]; exact h.s1 s j u hw hj hf
    · rw [hv] at hf; simp only [Option.some.injEq] at hf; subst hf
      exact hdst s (hwi s hw)
  · intro s j u hw hnj hu
    rw [hsame s (fun d hd e => by subst e; exact hnj (.inr (hwr _ j hw hd)))]
    exact h.s2 s j u hw (fun hm => hnj (.inl hm)) hu
  · intro x u hx hu
    have := h.oldc x u hx hu
    cases x with
    | tmp s => exact (hx s rfl).elim
    | const c => exact this
    | global g => exact this
    | func f => exact this


section
variable {n : Nat} {P : Program} {G : Nat → Bool} {Q : Exit → Act → World → Prop}

/-- The condition takes all operations that only reckon. -/
theorem eager (hG : Enters P G) {ops : List Oper} {N : Nat} {ds : List Nat} {old : Eval} {M : Nat → Prop} {w : World} {a : Act} {kn : Env → World → Prop} :
    ∀ (f D : Nat) (vals : Env) (pend : List Nat), trDr P G ops (befs ops []) old f D vals pend w kn → Sim P ops (befs ops []) N ds old M D vals pend w a →
    ∃ f' D' vals' pend', trDr P G ops (befs ops []) old (f' + 1) D' vals' pend' w kn ∧ nextF P ops 0 D' = none ∧ Sim P ops (befs ops []) N ds old M D' vals' pend' w a := by
  intro f
  induction f with
  | zero => intro D vals pend h; exact h.elim
  | succ f ih =>
    intro D vals pend h hs
    cases hn : nextF P ops 0 D with
    | none => exact ⟨f, D, vals, pend, h, hn, hs⟩
    | some io =>
      obtain ⟨i, o⟩ := io
      obtain ⟨k, hk, ho, hD, hr, hf⟩ := nextF_some hn
      have hik : i = k := by omega
      subst hik
      simp only [trDr, hn] at h
      obtain ⟨vals', t, hle, hnn, hgt, hcont, hgd⟩ := trG_out h
      have step : ∀ (v : Value) (pend' : List Nat), (∀ j, j ∈ pend → j ∈ pend') → Rdy P ops (befs ops []) old ((i, some v) :: vals') i o w → (isLoad o = true → gst ((i, some v) :: vals') o = some true → i ∈ pend') →
          Sim P ops (befs ops []) N ds old M (setb D i) ((i, some v) :: vals') pend' w a := by
        intro v pend' hpe hrdy hld
        have hni : ¬ M i := fun hm => by have := hs.sub i hm; rw [hD] at this; cases this
        have hfi : find vals' i = none := by
          cases hfi : find vals' i with
          | none => rfl
          | some y => exact absurd (hs.dom i hD) (hnn i (by rw [hfi]; simp))
        have hle2 : Le vals ((i, some v) :: vals') := fun j u hj => by
          by_cases e : j = i
          · subst e; rw [hs.dom _ hD] at hj; cases hj
          · rw [find_cons_ne e]; exact hle _ _ hj
        refine ⟨?_, ?_, ?_, hs.clo, ?_, hs.size, hs.defers, hs.s0, ?_, hs.s2, hs.oldc⟩
        · intro j hj; rw [ebit_setb, hs.sub j hj]; rfl
        · intro j hj
          rw [ebit_setb] at hj
          simp only [Bool.or_eq_false_iff, decide_eq_false_iff_not] at hj
          rw [find_cons_ne (fun e => hj.2 e.symm)]
          cases hfj : find vals' j with
          | none => rfl
          | some y => exact absurd (hs.dom j hj.1) (hnn j (by rw [hfj]; simp))
        · intro j hjl hj
          rw [ebit_setb] at hj
          by_cases e : j = i
          · subst e; exact ⟨v, find_cons_self _ _ _⟩
          · simp only [Bool.or_eq_true, decide_eq_true_eq] at hj
            rcases hj with hj | hj
            · obtain ⟨u, hu⟩ := hs.val j hjl hj; exact ⟨u, hle2 _ _ hu⟩
            · exact absurd hj.symm e
        · intro j oj hj hnj hoj
          rw [ebit_setb] at hj
          by_cases e : j = i
          · subst e
            rw [ho] at hoj; cases hoj
            exact ⟨hf, hrdy, hld, hgd⟩
          · simp only [Bool.or_eq_true, decide_eq_true_eq] at hj
            rcases hj with hj | hj
            · obtain ⟨h1, h2, h3, h4⟩ := hs.rdy j oj hj hnj hoj
              refine ⟨h1, h2.mono hle2, fun hl hg => hpe j (h3 hl ?_), h4⟩
              rcases h2 with ⟨hg2, _⟩ | ⟨hg2, _⟩
              · rw [gst_mono hle2 hg2] at hg; cases hg
              · exact hg2
            · exact absurd hj.symm e
        · intro s j u hw hm hfu
          obtain ⟨k2, o2, e1, e2, e3⟩ := wrF_some hw
          have hlt : j < ops.length := by have := (List.getElem?_eq_some_iff.1 e2).1; omega
          obtain ⟨u', hu'⟩ := hs.val j hlt (hs.sub j hm)
          have := hle2 _ _ hu'
          rw [this] at hfu; simp only [Option.some.injEq] at hfu; subst hfu
          exact hs.s1 s j _ hw hm hu'
      have hgs : ∀ v, gst ((i, some v) :: vals') o = some t := by
        intro v
        refine gst_mono (fun j u hj => ?_) hgt
        by_cases e : j = i
        · subst e
          exfalso
          exact (hnn j (by rw [hj]; simp)) (hs.dom _ hD)
        · rw [find_cons_ne e]; exact hj
      cases t with
      | false => exact ih _ _ _ hcont (step undef pend (fun _ h => h) (.inl ⟨hgs _, find_cons_self _ _ _⟩) (fun _ hg => by rw [hgs] at hg; cases hg))
      | true =>
        obtain ⟨hfv, hcont⟩ := ck.ex hcont
        have hex : ∃ v, trDr P G ops (befs ops []) old f (setb D i) ((i, some v) :: vals') (match isLoad o with | true => i :: pend | false => pend) w kn ∧
            ∀ ρ : Operand → Value, (∀ x u, evD ops (befs ops []) old vals' i x = some u → ρ x = u) → (execOp ρ o).run P w = .ok (.value v) w ∧ (isLoad o = false → ∀ w2, (execOp ρ o).run P w2 = .ok (.value v) w2) := by
          exact flo_all hG hf hfv hcont
        obtain ⟨v, hk, hrun⟩ := hex
        refine ih _ _ _ hk (step v _ (fun j hj => ?_) (.inr ⟨hgs _, v, find_cons_self _ _ _, fun ρ hρ => hrun ρ fun x u hx => hρ x u (evD_mono (fun j u hj => ?_) hx)⟩) (fun hl _ => by rw [hl]; exact List.mem_cons_self))
        · cases isLoad o
          · exact hj
          · exact List.mem_cons_of_mem _ hj
        · by_cases e : j = i
          · subst e; exfalso; exact (hnn j (by rw [hj]; simp)) (hs.dom _ hD)
          · rw [find_cons_ne e]; exact hj


theorem countP_lt {α : Type} {p q : α → Bool} {l : List α} (hpq : ∀ x ∈ l, p x = true → q x = true) {y : α} (hy : y ∈ l) (hq : q y = true) (hp : p y = false) : l.countP p < l.countP q := by
  induction l with
  | nil => cases hy
  | cons z l ih =>
    have hle : l.countP p ≤ l.countP q := List.countP_mono_left fun x hx h => hpq x (List.mem_cons_of_mem _ hx) h
    simp only [List.countP_cons]
    rcases List.mem_cons.1 hy with rfl | hy
    · simp [hq, hp]; omega
    · have := ih (fun x hx h => hpq x (List.mem_cons_of_mem _ hx) h) hy
      cases hpz : p z with
      | false => simp; split <;> omega
      | true => rw [hpq z List.mem_cons_self hpz]; simp; omega

theorem load_of {o : Oper} (hl : isLoad o = true) : ∃ t a, o.op = .load t a := by
  unfold isLoad at hl
  split at hl
  · rename_i t a h; exact ⟨t, a, h⟩
  · cases hl

/-- **A region that draws its order: what the condition asks is enough.** -/
theorem dr_sound (hG : Enters P G) {r : Option Nat} {ops : Array Oper} {N : Nat} {ds : List Nat} {old : Eval} {kn : Env → World → Prop}
    (hed : edgesOk ops.toList 0 = true) (hok : dstsOk N ops.toList = true)
    (hQ : ∀ vals w a, kn vals w → a.tmps.size = N → a.defers = ds.map mark → (∀ x v, (∀ s, x ≠ .tmp s) → old x = some v → a.eval x = v) →
      (∀ s v, wrF ops.toList 0 s = none → old (.tmp s) = some v → a.tmps[s]? = some v) → (∀ s j v, wrF ops.toList 0 s = some j → find vals j = some (some v) → a.tmps[s]? = some v) → Q .normal a w) :
    ∀ (mf : Nat) (listed : Array Bool) (a : Act) (w : World) (f D : Nat) (vals : Env) (pend : List Nat), listed.size = ops.size → (List.range ops.size).countP (fun i => !listed.getD i true) ≤ mf →
      trDr P G ops.toList (befs ops.toList []) old f D vals pend w kn → Sim P ops.toList (befs ops.toList []) N ds old (fun i => i < ops.size ∧ listed.getD i false = true) D vals pend w a →
      wpAnyIn (Wd r) n P .any ops Q mf listed a w := by
  intro mf
  induction mf with
  | zero =>
    intro listed a w f D vals pend hsz hcnt h hs
    obtain ⟨f', D', vals', pend', h, hnf, hs⟩ := eager hG _ _ _ _ h hs
    have hall : ∀ i, i < ops.size → listed.getD i false = true := by
      intro i hi
      have h0 : (List.range ops.size).countP (fun i => !listed.getD i true) = 0 := by omega
      have := List.countP_eq_zero.1 h0 i (List.mem_range.2 hi)
      simp only [Array.getD_eq_getD_getElem?, Bool.not_eq_true', Bool.not_eq_false] at this ⊢
      rw [Array.getElem?_eq_getElem (by omega)] at this ⊢
      simpa using this
    have hD : allD ops.toList 0 D' = true := allD_of fun k hk => by rw [Nat.zero_add]; exact hs.sub k ⟨by simpa using hk, hall k (by simpa using hk)⟩
    simp only [trDr, hnf, hD] at h
    refine ⟨?_, hQ _ _ _ h hs.size hs.defers hs.oldc hs.s0 fun s j v hw hf => hs.s1 s j v hw ?_ hf⟩
    · unfold Region.ready
      rw [List.filter_eq_nil_iff]
      intro i hi
      have := hall i (List.mem_range.1 hi)
      have h2 : listed.getD i true = true := by
        have hi' := List.mem_range.1 hi
        simp only [Array.getD_eq_getD_getElem?] at this ⊢
        rw [Array.getElem?_eq_getElem (by omega)] at this ⊢
        simpa using this
      rw [h2]; simp
    · obtain ⟨k, o, h1, h2, h3⟩ := wrF_some hw
      have hlt := (List.getElem?_eq_some_iff.1 h2).1
      have : j = k := by omega
      subst this
      simp at hlt
      exact ⟨hlt, hall _ hlt⟩
  | succ mf ih =>
    intro listed a w f D vals pend hsz hcnt h hs
    obtain ⟨f', D', vals', pend', h, hnf, hs⟩ := eager hG _ _ _ _ h hs
    have getD_iff : ∀ i, i < ops.size → (listed.getD i true = listed.getD i false) := fun i hi => by
      simp only [Array.getD_eq_getD_getElem?]; rw [Array.getElem?_eq_getElem (by omega)]; rfl
    have ready_iff : ∀ i, i ∈ Region.ready .any ops listed ↔ i < ops.size ∧ listed.getD i false = false ∧ ∃ o, ops[i]? = some o ∧ ∀ e ∈ aft o, listed.getD e.on false = true := by
      intro i
      unfold Region.ready
      rw [List.mem_filter, List.mem_range]
      constructor
      · rintro ⟨hi, hb⟩
        rw [getD_iff i hi] at hb
        simp only [Bool.and_eq_true, Bool.not_eq_true'] at hb
        refine ⟨hi, hb.1, ops[i], by simp [hi], fun e he => ?_⟩
        have h2 := hb.2
        rw [Array.getElem?_eq_getElem hi] at h2
        simp only [Option.map_some, Option.getD_some] at h2
        have h3 := (Array.all_eq_true_iff_forall_mem.1 h2) e (Array.mem_toList_iff.1 (mem_aftL.1 he).1)
        simpa [(mem_aftL.1 he).2] using h3
      · rintro ⟨hi, hl, o, ho, hall⟩
        refine ⟨hi, ?_⟩
        rw [getD_iff i hi, hl, ho]
        simp only [Bool.not_false, Option.map_some, Option.getD_some, Bool.true_and]
        rw [Array.all_eq_true_iff_forall_mem]
        intro e he
        cases hb : Region.binds .any e with
        | false => simp
        | true => rw [hall e (mem_aftL.2 ⟨Array.mem_toList_iff.2 he, hb⟩)]; simp
    refine ⟨fun hnil => ?_, fun i hi => ?_⟩
    · -- nothing is ready: all is done
      have hall : ∀ i, i < ops.size → listed.getD i false = true := by
        intro i
        induction i using Nat.strongRecOn with
        | _ i ihi =>
          intro hi
          cases hl : listed.getD i false with
          | true => rfl
          | false =>
            exfalso
            have : i ∈ Region.ready .any ops listed := (ready_iff i).2 ⟨hi, hl, ops[i], by simp [hi], fun e he => by
              have hb3 := edgesOk_get hed (i := i) (o := ops[i]) (by simp [hi]) e he
              unfold edgeOk at hb3
              simp only [Nat.zero_add] at hb3
              have hlt : e.on < i := Nat.le_of_ble_eq_true hb3
              exact ihi e.on hlt (by omega)⟩
            rw [hnil] at this; cases this
      have hD : allD ops.toList 0 D' = true := allD_of fun k hk => by rw [Nat.zero_add]; exact hs.sub k ⟨by simpa using hk, hall k (by simpa using hk)⟩
      simp only [trDr, hnf, hD] at h
      refine hQ _ _ _ h hs.size hs.defers hs.oldc hs.s0 fun s j v hw hf => hs.s1 s j v hw ?_ hf
      obtain ⟨k, o, h1, h2, h3⟩ := wrF_some hw
      have hlt := (List.getElem?_eq_some_iff.1 h2).1
      have : j = k := by omega
      subst this
      simp at hlt
      exact ⟨hlt, hall _ hlt⟩
    · obtain ⟨hin, hli, o, ho, hedge⟩ := (ready_iff i).1 hi
      have hoL : ops.toList[i]? = some o := by simpa using ho
      have hni : ¬ (i < ops.size ∧ listed.getD i false = true) := fun hh => by rw [hli] at hh; cases hh.2
      have hb : ∀ k, ebit (bm (befs ops.toList []) i) k = true → (k < ops.size ∧ listed.getD k false = true) :=
        bm_closed hoL (M := fun k => k < ops.size ∧ listed.getD k false = true) hs.clo fun e he => ⟨by
          have hb3 := edgesOk_get hed (i := i) (o := o) hoL e he
          unfold edgeOk at hb3
          simp only [Nat.zero_add] at hb3
          have hlt : e.on < i := Nat.le_of_ble_eq_true hb3
          omega, hedge e he⟩
      have hM' : ∀ (v : Value) (vals2 : Env) (pend2 : List Nat) (D2 : Nat) (w2 : World), Sim P ops.toList (befs ops.toList []) N ds old (fun j => (j < ops.size ∧ listed.getD j false = true) ∨ j = i) D2 vals2 pend2 w2 (a.put o.dst v) →
          Sim P ops.toList (befs ops.toList []) N ds old (fun j => j < ops.size ∧ (listed.setIfInBounds i true).getD j false = true) D2 vals2 pend2 w2 (a.put o.dst v) := by
        intro v vals2 pend2 D2 w2 hsim
        have : (fun j => (j < ops.size ∧ listed.getD j false = true) ∨ j = i) = (fun j => j < ops.size ∧ (listed.setIfInBounds i true).getD j false = true) := by
          funext j
          simp only [Array.getD_eq_getD_getElem?]
          by_cases e : j = i
          · subst e
            rw [Array.getElem?_setIfInBounds_self_of_lt (by omega)]
            simp [hin]
          · rw [Array.getElem?_setIfInBounds_ne (Ne.symm e)]
            simp [e]
        rw [← this]; exact hsim
      have hcnt' : (List.range ops.size).countP (fun j => !(listed.setIfInBounds i true).getD j true) ≤ mf := by
        have key : (List.range ops.size).countP (fun j => !(listed.setIfInBounds i true).getD j true) < (List.range ops.size).countP (fun j => !listed.getD j true) := by
          have hsub : ∀ j, j ∈ List.range ops.size → (!(listed.setIfInBounds i true).getD j true) = true → (!listed.getD j true) = true := by
            intro j hj hh
            simp only [Array.getD_eq_getD_getElem?] at hh ⊢
            by_cases e : j = i
            · subst e; rw [Array.getElem?_setIfInBounds_self_of_lt (by omega)] at hh; simp at hh
            · rwa [Array.getElem?_setIfInBounds_ne (Ne.symm e)] at hh
          exact countP_lt hsub (List.mem_range.2 hin) (by rw [getD_iff i hin, hli]; rfl) (by
            simp only [Array.getD_eq_getD_getElem?]; rw [Array.getElem?_setIfInBounds_self_of_lt (by omega)]; rfl)
        omega
      unfold wpOpIn
      simp only [ho]
      cases hDi : ebit D' i with
      | true =>
        -- the condition has taken it
        obtain ⟨hfl, hrdy, _, hgd⟩ := hs.rdy i o hDi hni hoL
        have hgM : ∀ j pos, o.guard = some (j, pos) → (j < ops.size ∧ listed.getD j false = true) ∧ (slotOf ops.toList j).isSome = true := fun j pos hg => ⟨hb j (hgd j pos hg).1, (hgd j pos hg).2⟩
        rcases hrdy with ⟨hg, hv⟩ | ⟨hg, v, hv, hrun⟩
        · rw [if_neg (by rw [hs.wanted hok hg hgM]; simp)]
          exact ⟨fun _ _ => trivial, ih _ _ _ _ _ _ _ (by simpa using hsz) hcnt' h (hM' _ _ _ _ _ (hs.put hok hoL hv hDi hb))⟩
        · rw [if_pos (by rw [hs.wanted hok hg hgM])]
          have hr := (hrun a.eval (hs.eval hb hni)).1
          refine wpIn_of_post (k := fun v' w' => v' = v ∧ w' = w) (floO_nd hfl) (by rw [hr]; exact .value ⟨rfl, rfl⟩) ?_
          rintro v' w' ⟨rfl, rfl⟩
          exact ih _ _ _ _ _ _ _ (by simpa using hsz) hcnt' h (hM' _ _ _ _ _ (hs.put hok hoL hv hDi hb))
      | false =>
        have hr1 : ready1 D' (aft o) = true := ready1_iff.2 fun e he => hs.sub _ ⟨by
          have hb3 := edgesOk_get hed (i := i) (o := o) hoL e he
          unfold edgeOk at hb3
          simp only [Nat.zero_add] at hb3
          have hlt : e.on < i := Nat.le_of_ble_eq_true hb3
          omega, hedge e he⟩
        have hnall : allD ops.toList 0 D' = false := by
          cases hal : allD ops.toList 0 D' with
          | false => rfl
          | true =>
            exfalso
            have key : ∀ (os : List Oper) (i0 : Nat), allD os i0 D' = true → ∀ k, k < os.length → ebit D' (i0 + k) = true := by
              intro os
              induction os with
              | nil => intro i0 _ k hk; simp at hk
              | cons o os ih =>
                intro i0 h k hk
                simp only [allD, Bool.and_eq_true] at h
                cases k with
                | zero => simpa using h.1
                | succ k => have := ih (i0 + 1) h.2 k (by simpa using hk); rwa [show i0 + 1 + k = i0 + (k + 1) by omega] at this
            have := key _ 0 hal i (by simpa using hin)
            rw [Nat.zero_add, hDi] at this; cases this
        simp only [trDr, hnf, hnall] at h
        have hmem := readyS_mem (i0 := 0) (k := i) hoL (by rw [Nat.zero_add]; exact hDi) hr1
        rw [Nat.zero_add] at hmem
        have hvc := andS_mem h hmem
        obtain ⟨vals2, t, hle, hnn, hgt, hcont, hgd⟩ := trG_out hvc
        have hfi : find vals2 i = none := by
          cases hfi : find vals2 i with
          | none => rfl
          | some y => exact absurd (hs.dom i hDi) (hnn i (by rw [hfi]; simp))
        have hle3 : ∀ v, Le vals2 ((i, some v) :: vals2) := fun v j u hj => by
          by_cases e : j = i
          · subst e; rw [hfi] at hj; cases hj
          · rw [find_cons_ne e]; exact hj
        have hle2 : ∀ v, Le vals' ((i, some v) :: vals2) := fun v => hle.trans (hle3 v)
        have hgM : ∀ j pos, o.guard = some (j, pos) → (j < ops.size ∧ listed.getD j false = true) ∧ (slotOf ops.toList j).isSome = true := fun j pos hg => ⟨hb j (hgd j pos hg).1, (hgd j pos hg).2⟩
        -- the state with the guard's knowledge
        have hs2 : Sim P ops.toList (befs ops.toList []) N ds old (fun i => i < ops.size ∧ listed.getD i false = true) D' vals2 pend' w a := by
          refine ⟨hs.sub, ?_, ?_, hs.clo, ?_, hs.size, hs.defers, hs.s0, ?_, hs.s2, hs.oldc⟩
          · intro j hj
            cases hfj : find vals2 j with
            | none => rfl
            | some y => exact absurd (hs.dom j hj) (hnn j (by rw [hfj]; simp))
          · intro j hjl hj; obtain ⟨u, hu⟩ := hs.val j hjl hj; exact ⟨u, hle _ _ hu⟩
          · intro j oj hj hnj hoj
            obtain ⟨h1, h2, h3, h4⟩ := hs.rdy j oj hj hnj hoj
            refine ⟨h1, h2.mono hle, fun hl hg => h3 hl ?_, h4⟩
            rcases h2 with ⟨hg2, _⟩ | ⟨hg2, _⟩
            · rw [gst_mono hle hg2] at hg; cases hg
            · exact hg2
          · intro s j u hw hm hfu
            obtain ⟨k2, o2, e1, e2, e3⟩ := wrF_some hw
            have hlt : j < ops.toList.length := by have := (List.getElem?_eq_some_iff.1 e2).1; omega
            obtain ⟨u', hu'⟩ := hs.val j hlt (hs.sub j hm)
            have := hle _ _ hu'
            rw [this] at hfu; simp only [Option.some.injEq] at hfu; subst hfu
            exact hs.s1 s j _ hw hm hu'
        -- one more taken, by both
        have step : ∀ (v : Value) (pend2 : List Nat) (w2 : World),
            (∀ j oj, ebit D' j = true → ¬ (j < ops.size ∧ listed.getD j false = true) → ops.toList[j]? = some oj → Rdy P ops.toList (befs ops.toList []) old vals2 j oj w → Rdy P ops.toList (befs ops.toList []) old ((i, some v) :: vals2) j oj w2 ∧ (isLoad oj = true → gst ((i, some v) :: vals2) oj = some true → j ∈ pend2)) →
            Sim P ops.toList (befs ops.toList []) N ds old (fun j => j < ops.size ∧ (listed.setIfInBounds i true).getD j false = true) (setb D' i) ((i, some v) :: vals2) pend2 w2 (a.put o.dst v) := by
          intro v pend2 w2 hre
          refine hM' _ _ _ _ _ ?_
          have hs3 : Sim P ops.toList (befs ops.toList []) N ds old (fun i => i < ops.size ∧ listed.getD i false = true) D' ((i, some v) :: vals2) pend2 w2 a ∨ True := .inr trivial
          clear hs3
          -- first M grows over a state in which i counts as taken
          have base : Sim P ops.toList (befs ops.toList []) N ds old (fun j => (j < ops.size ∧ listed.getD j false = true) ∨ j = i) (setb D' i) ((i, some v) :: vals2) pend2 w2 (a.put o.dst v) := by
            have hsame : ∀ s, (∀ d, o.dst = some d → d ≠ s) → (a.put o.dst v).tmps[s]? = a.tmps[s]? := by
              intro s hss
              unfold Act.put
              cases hd : o.dst with
              | none => rfl
              | some d => simp only; rw [Array.getElem?_setIfInBounds_ne (hss d hd)]
            have hdst : ∀ s, o.dst = some s → (a.put o.dst v).tmps[s]? = some v := by
              intro s hss
              have := dstsOk_lt hok hoL hss
              simp [Act.put, hss, hs2.size, this]
            have hwr : ∀ s j, wrF ops.toList 0 s = some j → o.dst = some s → j = i := by
              intro s j hw hd
              have := wrF_of hok (i0 := 0) hoL hd
              rw [hw] at this; simp at this; exact this
            have hwi : ∀ s, wrF ops.toList 0 s = some i → o.dst = some s := by
              intro s hw
              obtain ⟨k, o', h1, h2, h3⟩ := wrF_some hw
              have : k = i := by omega
              subst this
              rw [hoL] at h2; cases h2; exact h3
            refine ⟨?_, ?_, ?_, ?_, ?_, ?_, ?_, ?_, ?_, ?_, ?_⟩
            · rintro j (hj | rfl)
              · rw [ebit_setb, hs2.sub j hj]; rfl
              · rw [ebit_setb]; simp
            · intro j hj
              rw [ebit_setb] at hj
              simp only [Bool.or_eq_false_iff, decide_eq_false_iff_not] at hj
              rw [find_cons_ne (fun e => hj.2 e.symm)]
              exact hs2.dom j hj.1
            · intro j hjl hj
              by_cases e : j = i
              · subst e; exact ⟨v, find_cons_self _ _ _⟩
              · rw [ebit_setb] at hj
                simp only [Bool.or_eq_true, decide_eq_true_eq] at hj
                rcases hj with hj | hj
                · obtain ⟨u, hu⟩ := hs2.val j hjl hj; exact ⟨u, hle3 v _ _ hu⟩
                · exact absurd hj.symm e
            · rintro j (hj | rfl) k hk
              · exact .inl (hs2.clo j hj k hk)
              · exact .inl (hb k hk)
            · intro j oj hj hnj hoj
              rw [ebit_setb] at hj
              have hne : j ≠ i := fun e => hnj (.inr e)
              have hnm : ¬ (j < ops.size ∧ listed.getD j false = true) := fun hm => hnj (.inl hm)
              have hj' : ebit D' j = true := by
                simp only [Bool.or_eq_true, decide_eq_true_eq] at hj
                rcases hj with hj | hj
                · exact hj
                · exact absurd hj.symm hne
              obtain ⟨h1, h2, h3, h4⟩ := hs2.rdy j oj hj' hnm hoj
              exact ⟨h1, (hre j oj hj' hnm hoj h2).1, (hre j oj hj' hnm hoj h2).2, h4⟩
            · unfold Act.put; split <;> simp [hs2.size]
            · unfold Act.put; split <;> exact hs2.defers
            · intro s u hw hu
              rw [hsame s (fun d hd e => by subst e; have := wrF_of hok (i0 := 0) hoL hd; rw [hw] at this; cases this)]
              exact hs2.s0 s u hw hu
            · rintro s j u hw (hj | rfl) hf
              · have hne : j ≠ i := fun e => by subst e; exact hni hj
                rw [find_cons_ne hne] at hf
                by_cases hd : o.dst = some s
                · exact absurd (hwr s j hw hd) hne
                · rw [hsame s (fun d hd' e => by subst e; exact hd hd')]; exact hs2.s1 s j u hw hj hf
              · rw [find_cons_self] at hf; simp only [Option.some.injEq] at hf; subst hf
                exact hdst s (hwi s hw)
            · intro s j u hw hnj hu
              rw [hsame s (fun d hd e => by subst e; exact hnj (.inr (hwr _ j hw hd)))]
              exact hs2.s2 s j u hw (fun hm => hnj (.inl hm)) hu
            · intro x u hx hu
              have := hs2.oldc x u hx hu
              cases x with
              | tmp s => exact (hx s rfl).elim
              | const c => exact this
              | global g => exact this
              | func f => exact this
          exact base
        cases t with
        | false =>
          rw [if_neg (by rw [hs2.wanted hok hgt hgM]; simp)]
          refine ⟨fun _ _ => trivial, ih _ _ _ _ _ _ _ (by simpa using hsz) hcnt' hcont (step undef pend' w fun j oj hj hnj hoj hr => ⟨hr.mono (hle3 _), fun hl hg => ?_⟩)⟩
          obtain ⟨_, h2, h3, _⟩ := hs2.rdy j oj hj hnj hoj
          refine h3 hl ?_
          rcases h2 with ⟨hg2, _⟩ | ⟨hg2, _⟩
          · rw [gst_mono (hle3 _) hg2] at hg; cases hg
          · exact hg2
        | true =>
          rw [if_pos (by rw [hs2.wanted hok hgt hgM])]
          refine wpIn_of_post (trOp_nd hcont) (op_post hG (hs2.eval hb hni) hcont) fun v w2 hk => ?_
          obtain ⟨hk, hst⟩ := stab_out hk
          refine ih _ _ _ _ _ _ _ (by simpa using hsz) hcnt' hk (step v _ w2 fun j oj hj hnj hoj hr => ?_)
          obtain ⟨hflo, h2, h3, _⟩ := hs2.rdy j oj hj hnj hoj
          have hjb : ebit (bm (befs ops.toList []) i) j = false := by
            cases hjb : ebit (bm (befs ops.toList []) i) j with
            | false => rfl
            | true => exact absurd (hb j hjb) hnj
          refine ⟨?_, fun hl hg => ?_⟩
          · rcases hr with ⟨hg, hv⟩ | ⟨hg, u, hu, hrun⟩
            · exact .inl ⟨gst_mono (hle3 _) hg, hle3 v _ _ hv⟩
            · refine .inr ⟨gst_mono (hle3 _) hg, u, hle3 v _ _ hu, fun ρ hρ => ?_⟩
              have hρ' : ∀ x y, evD ops.toList (befs ops.toList []) old vals2 j x = some y → ρ x = y := fun x y hx => hρ x y (evD_mono (hle3 _) hx)
              obtain ⟨hr1, hr2⟩ := hrun ρ hρ'
              cases hl : isLoad oj with
              | false => exact ⟨hr2 hl w2, fun _ => hr2 hl⟩
              | true =>
                refine ⟨?_, fun h => by cases h⟩
                obtain ⟨oo, tt, aa, ad, uu, ho1, ho2, ho3, ho4, ho5⟩ := hst j (mem_dropB (h3 hl hg) hjb)
                rw [hoj] at ho1; cases ho1
                rw [hu] at ho4; simp only [Option.some.injEq] at ho4; subst ho4
                have hpa := hρ' _ _ ho3
                have e1 : ∀ w3, (execOp ρ oj).run P w3 = ((loadVar tt ad).run P w3).andThen fun v w' => .ok (.value v) w' := fun w3 => by
                  simp [execOp, ho2, hpa, Instr.loadAt, Instr.sureAddr]
                rw [e1] at hr1 ⊢
                cases hlv : (loadVar tt ad).run P w with
                | halt x y => rw [hlv] at hr1; cases hr1
                | ok v3 w3 =>
                  rw [hlv] at hr1
                  simp only [Result.andThen_ok, Result.ok.injEq, Next.value.injEq] at hr1
                  obtain ⟨rfl, rfl⟩ := hr1
                  rw [(load_same hlv ho5).1]
                  rfl
          · refine mem_dropB (h3 hl ?_) hjb
            rcases h2 with ⟨hg2, _⟩ | ⟨hg2, _⟩
            · rw [gst_mono (hle3 _) hg2] at hg; cases hg
            · exact hg2

end
end Go.VC

namespace Go.VC
open Go

/-- What is known of the place where the code stands: the program, the functions that may be called, the number of slots, each loop's carried slots. -/
structure Cx where
  P : Program
  G : Nat → Bool
  N : Nat
  L : Nat → List (Nat × Kd)

def trOps (cx : Cx) (ops : List Oper) (base : Env) : List Oper → (Env → World → Prop) → Env → World → Prop
  | [], kn, loc, w => kn loc w
  | o :: os, kn, loc, w => ck (dstOk cx.N o) (match o.guard with
    | none => trOp cx.P cx.G (ev loc base) o w fun v w' => trOps cx ops base os kn (upd o v loc) w'
    | some (j, pos) => wvs (slotOf ops j) fun s => wv (ev loc base (.tmp s)) fun g => grd g (fun b =>
        match pos with
        | true => br b (trOp cx.P cx.G (ev ((s, some (.bool true)) :: loc) base) o w fun v w' => trOps cx ops base os kn (upd o v ((s, some (.bool true)) :: loc)) w')
            (trOps cx ops base os kn (kil o ((s, some (.bool false)) :: loc)) w)
        | false => br b (trOps cx ops base os kn (kil o ((s, some (.bool true)) :: loc)) w)
            (trOp cx.P cx.G (ev ((s, some (.bool false)) :: loc) base) o w fun v w' => trOps cx ops base os kn (upd o v ((s, some (.bool false)) :: loc)) w'))
        (trOps cx ops base os kn (kil o loc) w))

@[reducible] def Cur (R : Type) : List (Nat × Kd) → Type
  | [] => R
  | (_, k) :: ks => k.T → Cur R ks

def allK : (ks : List (Nat × Kd)) → Cur (World → Prop) ks → Cur (World → Nat) ks → (Env → (World → Prop) → (World → Nat) → Prop) → Prop
  | [], I, μ, q => q [] I μ
  | (s, k) :: ks, I, μ, q => ∀ x : k.T, allK ks (I x) (μ x) fun e I' μ' => q ((s, some (k.inj x)) :: e) I' μ'

def getK : (ks : List (Nat × Kd)) → Sl → Cur (World → Prop) ks → Cur (World → Nat) ks → ((World → Prop) → (World → Nat) → Prop) → Prop
  | [], _, I, μ, q => q I μ
  | (s, k) :: ks, f, I, μ, q => match f s with
    | some v => match k.prj v with
      | some x => getK ks f (I x) (μ x) q
      | none => False
    | none => False

def meas : (ks : List (Nat × Kd)) → Sl → Cur (World → Nat) ks → World → Nat
  | [], _, μ => μ
  | (s, k) :: ks, f, μ => match f s with
    | some v => match k.prj v with
      | some x => meas ks f (μ x)
      | none => fun _ => 0
    | none => fun _ => 0

def evS (loc base : Env) (s : Nat) : Option Value := ev loc base (.tmp s)

def firstR : Code → Option Nat
  | .region id _ _ => some id
  | .seq a b | .cond _ a b => match firstR a with
    | some i => some i
    | none => firstR b
  | .block _ c | .loop c => firstR c
  | .rangeFunc _ _ a _ => firstR a
  | _ => none

def mods : Code → List Nat
  | .region _ ops _ => ops.toList.filterMap (·.dst)
  | .seq a b | .cond _ a b => mods a ++ mods b
  | .block _ c | .loop c => mods c
  | _ => []

def isNil {α : Type} : List α → Bool
  | [] => true
  | _ => false

def inL (ms : List Nat) (s : Nat) : Bool := match ms with
  | [] => false
  | m :: ms => match Nat.beq s m with
    | true => true
    | false => inL ms s
def allIn (ms : List Nat) : Env → Bool
  | [] => true
  | (s, _) :: e => inL ms s && allIn ms e

def kills (ms : List Nat) : Env := ms.map fun s => (s, none)

/-- The slots behind a region that drew its order. -/
def finE (vals loc : Env) : List Oper → Nat → Env
  | [], _ => loc
  | o :: os, i => match o.dst with
    | some d => (d, (find vals i).join) :: finE vals loc os (i + 1)
    | none => finE vals loc os (i + 1)

theorem finE_find {vals loc : Env} {os : List Oper} {i : Nat} {s : Nat} : find (finE vals loc os i) s = match wrF os i s with
    | some j => some (find vals j).join
    | none => find loc s := by
  induction os generalizing i with
  | nil => rfl
  | cons o os ih =>
    simp only [finE, wrF]
    cases hd : o.dst with
    | none => simp only; exact ih
    | some d =>
      simp only [find]
      by_cases e : d = s
      · subst e; simp [Nat.beq_refl]
      · rw [nbeq.2 e, nbeq.2 (Ne.symm e)]; exact ih

def trC (cx : Cx) : Code → List Nat → Env → Ct → (Nat → Ct) → (List Nat → Sl → World → Prop) → Ct
  | .skip, _, _, kn, _, _, dl, loc, w => kn dl loc w
  | .region _ ops false, _, base, kn, _, _, dl, loc, w => trOps cx ops.toList base ops.toList (fun loc w => kn dl loc w) loc w
  | .region _ ops true, _, base, kn, _, _, dl, loc, w => ck (edgesOk ops.toList 0 && dstsOk cx.N ops.toList)
      (trDr cx.P cx.G ops.toList (befs ops.toList []) (ev loc base) (ops.toList.length + 1) 0 [] [] w.drew fun vals w => kn dl (finE vals loc ops.toList 0) w)
  | .seq a b, db, base, kn, kx, kr, dl, loc, w => trC cx a db base (fun dl loc w => trC cx b db base kn kx kr dl loc w) kx kr dl loc w
  | .cond c a b, db, base, kn, kx, kr, dl, loc, w => wv (ev loc base c) fun v => wb v fun t => br t (trC cx a db base kn kx kr dl loc w) (trC cx b db base kn kx kr dl loc w)
  | .block id c, db, base, kn, kx, kr, dl, loc, w => trC cx c db base kn (fun j dl loc w => match Nat.beq j id with
      | true => kn dl loc w
      | false => kx j dl loc w) kr dl loc w
  | .exit id, _, _, _, kx, _, dl, loc, w => kx id dl loc w
  | .ret, db, base, _, _, kr, dl, loc, w => kr (dl ++ db) (evS loc base) w
  | .loop c, db, base, _, kx, kr, dl, loc, w =>
      ∃ (I : Cur (World → Prop) (cx.L ((firstR c).getD 0))) (μ : Cur (World → Nat) (cx.L ((firstR c).getD 0))),
        getK (cx.L ((firstR c).getD 0)) (evS loc base) I μ (fun I' _ => I' w) ∧
        allK (cx.L ((firstR c).getD 0)) I μ fun ent I1 μ1 => ck (allIn (mods c) ent) (∀ w1, I1 w1 →
          trC cx c (dl ++ db) (kills (mods c) ++ (loc ++ base))
            (fun d2 l2 w2 => ck (isNil d2 && allIn (mods c) l2) (getK (cx.L ((firstR c).getD 0)) (evS l2 (kills (mods c) ++ (loc ++ base))) I μ (fun I2 μ2 => I2 w2 ∧ μ2 w2 < μ1 w1)))
            (fun j d2 l2 w2 => kx j (d2 ++ dl) (l2 ++ (kills (mods c) ++ loc)) w2) kr [] ent w1)
  | _, _, _, _, _, _, _, _, _ => False

/-- The frame is as told. -/
structure Ag (N : Nat) (ds : List Nat) (f : Sl) (a : Act) : Prop where
  size : a.tmps.size = N
  defers : a.defers = ds.map mark
  slot : ∀ s v, f s = some v → a.tmps[s]? = some v

theorem Ag.eval {N : Nat} {ds : List Nat} {loc base : Env} {a : Act} (h : Ag N ds (evS loc base) a) : ∀ x v, ev loc base x = some v → a.eval x = v := by
  intro x v hx
  cases x with
  | tmp t => have := h.slot t v hx; simp [Act.eval, Array.getD_eq_getD_getElem?, this]
  | const u => simpa [ev, Act.eval] using hx
  | global g => simpa [ev, Act.eval] using hx
  | func f => simpa [ev, Act.eval] using hx

theorem evS_cons (s : Nat) (v : Option Value) (loc base : Env) (t : Nat) : evS ((s, v) :: loc) base t = if t = s then v else evS loc base t := by
  simp only [evS, ev, find]
  by_cases h : t = s
  · subst h; simp [Nat.beq_refl]
  · have : Nat.beq t s = false := by
      cases hh : Nat.beq t s with
      | false => rfl
      | true => exact absurd (Nat.eq_of_beq_eq_true hh) h
    simp [this, h]

theorem Ag.upd {N : Nat} {ds : List Nat} {loc base : Env} {a : Act} (h : Ag N ds (evS loc base) a) {o : Oper} (ho : dstOk N o = true) (v : Value) : Ag N ds (evS (upd o v loc) base) (a.put o.dst v) := by
  unfold dstOk at ho
  unfold VC.upd Act.put
  cases hd : o.dst with
  | none => exact h
  | some d =>
    simp only [hd] at ho ⊢
    have hlt : d < N := Nat.le_of_ble_eq_true ho
    refine ⟨by simpa using h.size, h.defers, fun s u hs => ?_⟩
    rw [evS_cons] at hs
    split at hs
    · rename_i e; subst e; simp only [Option.some.injEq] at hs; subst hs; simp [h.size, hlt]
    · rename_i e; rw [Array.getElem?_setIfInBounds_ne (Ne.symm e)]; exact h.slot s u hs

theorem Ag.know {N : Nat} {ds : List Nat} {loc base : Env} {a : Act} (h : Ag N ds (evS loc base) a) {s : Nat} {v : Value} (hs : evS loc base s = some v) : Ag N ds (evS ((s, some v) :: loc) base) a :=
  ⟨h.size, h.defers, fun t u ht => by
    rw [evS_cons] at ht
    split at ht
    · rename_i e; subst e; rw [← ht] at *; exact h.slot _ _ hs
    · exact h.slot _ _ ht⟩

theorem wanted_of {ops : Array Oper} {a : Act} {N : Nat} {ds : List Nat} {f : Sl} (h : Ag N ds f a) {o : Oper} {j : Nat} {pos b : Bool} {s : Nat} (hg : o.guard = some (j, pos)) (hs : slotOf ops.toList j = some s) (hb : f s = some (.bool b)) :
    Region.wanted o (yielded ops a.tmps) = (b == pos) := by
  have h1 := h.slot _ _ hb
  have h2 : ((ops[j]?).bind (·.dst)) = some s := by simpa [slotOf] using hs
  simp only [Region.wanted, hg, yielded, h2, Option.bind_some, h1]
  cases b <;> cases pos <;> rfl

section
variable {F : Fence} {n : Nat} {P : Program} {Q : Exit → Act → World → Prop}

theorem trOps_sound {cx : Cx} (hG : Enters cx.P cx.G) {r : Option Nat} (ops : Array Oper) (ds : List Nat) (base : Env) :
    ∀ (os : List Oper) (i : Nat), (∀ j, os[j]? = ops[i + j]?) → ∀ (kn : Env → World → Prop) (loc : Env) (w : World) (a : Act), trOps cx ops.toList base os kn loc w → Ag cx.N ds (evS loc base) a →
      (∀ loc' w' a', kn loc' w' → Ag cx.N ds (evS loc' base) a' → Q .normal a' w') → wpOpsIn (Wd r) n cx.P ops Q (List.range' i os.length) a w
  | [], i, hi, kn, loc, w, a, h, ha, hQ => hQ _ _ _ h ha
  | o :: os, i, hi, kn, loc, w, a, h, ha, hQ => by
    have h0 : ops[i]? = some o := by simpa using (hi 0).symm
    have hi' : ∀ j, os[j]? = ops[i + 1 + j]? := fun j => by have := hi (j + 1); simpa [Nat.add_assoc, Nat.add_comm 1 j] using this
    have ih := trOps_sound hG (r := r) ops ds base os (i + 1) hi'
    simp only [List.length_cons, List.range'_succ, wpOpsIn, h0]
    simp only [trOps] at h
    obtain ⟨hd, h⟩ := ck.ex h
    have run : ∀ loc', Ag cx.N ds (evS loc' base) a → trOp cx.P cx.G (ev loc' base) o w (fun v w' => trOps cx ops.toList base os kn (VC.upd o v loc') w') → o.wpIn (Wd r) n cx.P a w (wpOpsIn (Wd r) n cx.P ops Q (List.range' (i + 1) os.length)) Q := fun loc' ha' h' =>
      wpIn_of_post (trOp_nd h') (op_post hG ha'.eval h') fun v w' hk => ih kn _ _ _ hk (ha'.upd hd v) hQ
    split at h
    · rename_i hg
      have hw : Region.wanted o (yielded ops a.tmps) = true := by simp [Region.wanted, hg]
      rw [if_pos hw]
      exact run loc ha h
    · rename_i j pos hg
      obtain ⟨s, hs, h⟩ := wvs.ex h
      obtain ⟨g, hgv, h⟩ := wv.ex h
      cases g <;> try exact h.elim
      case tuple vs =>
        have hw : Region.wanted o (yielded ops a.tmps) = false := by
          have h1 := ha.slot _ _ hgv
          have h2 : ((ops[j]?).bind (·.dst)) = some s := by simpa [slotOf] using hs
          simp only [Region.wanted, hg, yielded, h2, Option.bind_some, h1]
          rfl
        rw [if_neg (by rw [hw]; simp)]
        exact ⟨fun _ _ => trivial, ih kn _ _ _ h (ha.upd hd _) hQ⟩
      rename_i b
      have hw := wanted_of ha hg hs hgv
      cases pos <;> cases b
      · rw [if_pos (by rw [hw]; rfl)]
        exact run _ (ha.know hgv) h
      · rw [if_neg (by rw [hw]; simp)]
        exact ⟨fun _ _ => trivial, ih kn _ _ _ h ((ha.know hgv).upd hd _) hQ⟩
      · rw [if_neg (by rw [hw]; simp)]
        exact ⟨fun _ _ => trivial, ih kn _ _ _ h ((ha.know hgv).upd hd _) hQ⟩
      · rw [if_pos (by rw [hw]; rfl)]
        exact run _ (ha.know hgv) h


theorem find_append (e1 e2 : Env) (s : Nat) : find (e1 ++ e2) s = match find e1 s with
    | some r => some r
    | none => find e2 s := by
  induction e1 with
  | nil => rfl
  | cons x e1 ih =>
    obtain ⟨j, v⟩ := x
    simp only [List.cons_append, find]
    split
    · rfl
    · exact ih

theorem evS_assoc (l m b : Env) : evS l (m ++ b) = evS (l ++ m) b := by
  funext s
  simp only [evS, ev, find_append]
  cases find l s with
  | none => cases find m s <;> rfl
  | some r => rfl

theorem inL_iff {ms : List Nat} {s : Nat} : inL ms s = true ↔ s ∈ ms := by
  induction ms with
  | nil => simp [inL]
  | cons m ms ih =>
    simp only [inL]
    split
    · rename_i h; simp [Nat.eq_of_beq_eq_true h]
    · rename_i h
      rw [ih]
      have : s ≠ m := fun e => by subst e; simp [Nat.beq_refl] at h
      simp [this]

theorem find_none_of_allIn {ms : List Nat} {e : Env} (h : allIn ms e = true) {s : Nat} (hs : s ∉ ms) : find e s = none := by
  induction e with
  | nil => rfl
  | cons x e ih =>
    obtain ⟨j, v⟩ := x
    simp only [allIn, Bool.and_eq_true] at h
    simp only [find]
    split
    · rename_i hb
      have := Nat.eq_of_beq_eq_true hb
      subst this
      exact absurd (inL_iff.1 h.1) hs
    · exact ih h.2

theorem find_kills {ms : List Nat} (s : Nat) : find (kills ms) s = if s ∈ ms then some none else none := by
  induction ms with
  | nil => rfl
  | cons m ms ih =>
    simp only [kills, List.map_cons, find]
    by_cases h : s = m
    · subst h; simp [Nat.beq_refl]
    · have : Nat.beq s m = false := by
        cases hh : Nat.beq s m with
        | false => rfl
        | true => exact absurd (Nat.eq_of_beq_eq_true hh) h
      simp only [this, List.mem_cons, h, false_or]
      exact ih

/-- The carried slots, taken out of a frame. -/
theorem getK_out : ∀ {ks : List (Nat × Kd)} {f : Sl} {I : Cur (World → Prop) ks} {μ : Cur (World → Nat) ks} {q : (World → Prop) → (World → Nat) → Prop}, getK ks f I μ q →
    ∃ (e : Env) (I' : World → Prop) (μ' : World → Nat), q I' μ' ∧ (∀ s v, find e s = some v → v = f s ∧ v ≠ none) ∧ (∀ q', allK ks I μ q' → q' e I' μ') ∧ (∀ g : Sl, (∀ s v, f s = some v → g s = some v) → meas ks g μ = μ')
  | [], f, I, μ, q, h => ⟨[], I, μ, h, fun s v hs => by simp [find] at hs, fun q' h' => h', fun _ _ => rfl⟩
  | (s, k) :: ks, f, I, μ, q, h => by
    simp only [getK] at h
    split at h
    · rename_i v hv
      split at h
      · rename_i x hx
        obtain ⟨e, I', μ', hq, hf, ha, hm⟩ := getK_out h
        have hv' := Kd.prj_inj hx
        refine ⟨(s, some (k.inj x)) :: e, I', μ', hq, ?_, ?_, ?_⟩
        · intro t u ht
          simp only [find] at ht
          split at ht
          · rename_i hb
            have := Nat.eq_of_beq_eq_true hb
            subst this
            simp only [Option.some.injEq] at ht
            subst ht
            exact ⟨by rw [hv, hv'], by simp⟩
          · exact hf t u ht
        · intro q' h'
          exact ha _ (h' x)
        · intro g hg
          simp only [meas, hg _ _ hv, hx]
          exact hm g hg
      · exact h.elim
    · exact h.elim

theorem Ag.enter {N : Nat} {ds : List Nat} {f : Sl} {base : Env} {ms : List Nat} {e l : Env} {a : Act} (h : Ag N ds f a) (hf : f = evS l (kills ms ++ base) ∨ (f = evS [] base)) (hl : allIn ms l = true)
    (he : ∀ s v, find e s = some v → v = f s ∧ v ≠ none) : Ag N ds (evS e (kills ms ++ base)) a := by
  refine ⟨h.size, h.defers, fun s v hs => ?_⟩
  simp only [evS, ev, find_append, find_kills] at hs
  cases hfe : find e s with
  | some r =>
    rw [hfe] at hs
    simp only at hs
    subst hs
    exact h.slot s v ((he s _ hfe).1).symm
  | none =>
    rw [hfe] at hs
    simp only at hs
    by_cases hm : s ∈ ms
    · simp [hm] at hs
    · simp only [hm, if_false] at hs
      apply h.slot
      rcases hf with rfl | rfl
      · simp only [evS, ev, find_none_of_allIn hl hm, find_append, find_kills, hm, if_false]
        exact hs
      · simp only [evS, ev, find]
        exact hs

/-- What the code comes to. -/
def QC (N : Nat) (db : List Nat) (base : Env) (kn : Ct) (kx : Nat → Ct) (kr : List Nat → Sl → World → Prop) : Exit → Act → World → Prop
  | .normal, a, w => ∃ dl loc, Ag N (dl ++ db) (evS loc base) a ∧ kn dl loc w
  | .exit j, a, w => ∃ dl loc, Ag N (dl ++ db) (evS loc base) a ∧ kx j dl loc w
  | .ret, a, w => ∃ ds f, Ag N ds f a ∧ kr ds f w
  | _, _, _ => False

theorem trC_sound {cx : Cx} (hG : Enters cx.P cx.G) (hMx : cx.P.follows .mixedOrders = true) {r : Option Nat} (c : Code) : ∀ (db : List Nat) (base : Env) (kn : Ct) (kx : Nat → Ct) (kr : List Nat → Sl → World → Prop) (dl : List Nat) (loc : Env) (w : World) (a : Act),
    trC cx c db base kn kx kr dl loc w → Ag cx.N (dl ++ db) (evS loc base) a → c.wpIn (Wd r) n cx.P (QC cx.N db base kn kx kr) a w := by
  induction c with
  | skip => intro db base kn kx kr dl loc w a h ha; exact wpIn_skip ⟨dl, loc, ha, h⟩
  | region id ops draw =>
    intro db base kn kx kr dl loc w a h ha
    cases draw with
    | false =>
      refine wpIn_region ?_
      have := trOps_sound (Q := QC cx.N db base kn kx kr) (n := n) hG (r := r) ops (dl ++ db) base ops.toList 0 (fun j => by simp) _ loc w a h ha (fun loc' w' a' hk ha' => ⟨dl, loc', ha', hk⟩)
      rwa [Array.length_toList, ← List.range_eq_range'] at this
    | true =>
      obtain ⟨hck, h⟩ := ck.ex h
      simp only [Bool.and_eq_true] at hck
      refine wpIn_region_any hMx (dr_sound (N := cx.N) (ds := dl ++ db) hG hck.1 hck.2 ?_ ops.size _ a _ _ 0 [] [] (by simp) ?_ h ?_)
      · intro vals w' a' hk hsz hdf hoc h0 h1
        refine ⟨dl, _, ⟨hsz, hdf, fun s v hs => ?_⟩, hk⟩
        simp only [evS, ev, finE_find] at hs
        cases hw : wrF ops.toList 0 s with
        | none => rw [hw] at hs; exact h0 s v hw hs
        | some j =>
          rw [hw] at hs
          simp only at hs
          refine h1 s j v hw ?_
          cases hf : find vals j with
          | none => rw [hf] at hs; cases hs
          | some y => rw [hf] at hs; simp at hs; rw [hs]
      · have := List.countP_le_length (p := fun i => !(Array.replicate ops.size false).getD i true) (l := List.range ops.size)
        simpa using this
      · have hno : ∀ i, ¬ (i < ops.size ∧ (Array.replicate ops.size false).getD i false = true) := by
          rintro i ⟨hi, hh⟩
          simp [Array.getD_eq_getD_getElem?, hi] at hh
        refine ⟨fun i hi => (hno i hi).elim, fun _ _ => rfl, fun i _ hi => by simp [ebit_zero] at hi, fun j hj => (hno j hj).elim, fun i o hi => by simp [ebit_zero] at hi, ha.size, ha.defers, ?_, ?_, ?_, ?_⟩
        · intro s v _ hs; exact ha.slot s v hs
        · intro s j v _ hj; exact (hno j hj).elim
        · intro s j v _ _ hs; exact ha.slot s v hs
        · intro x v _ hx; exact ha.eval x v hx
  | seq x y ihx ihy =>
    intro db base kn kx kr dl loc w a h ha
    refine wpIn_seq (wpIn_mono (ihx db base _ kx kr dl loc w a h ha) ?_)
    intro e a' w' hq
    cases e with
    | normal => obtain ⟨dl', loc', ha', hk⟩ := hq; exact ihy db base kn kx kr dl' loc' w' a' hk ha'
    | exit j => exact hq
    | ret => exact hq
    | goto l => exact hq
    | panic c => exact hq
    | outgrown => exact hq
  | cond c x y ihx ihy =>
    intro db base kn kx kr dl loc w a h ha
    obtain ⟨v, hv, h⟩ := wv.ex h
    obtain ⟨t, rfl, h⟩ := wb.ex h
    cases t with
    | true => exact wpIn_cond_true (ha.eval _ _ hv) (ihx db base kn kx kr dl loc w a h ha)
    | false => exact wpIn_cond_false (ha.eval _ _ hv) (ihy db base kn kx kr dl loc w a h ha)
  | block id c ih =>
    intro db base kn kx kr dl loc w a h ha
    refine wpIn_block (wpIn_mono (ih db base kn _ kr dl loc w a h ha) ?_)
    intro e a' w' hq
    cases e with
    | normal => exact hq
    | exit j =>
      obtain ⟨dl', loc', ha', hk⟩ := hq
      simp only [Exit.inBlock]
      cases hb : Nat.beq j id with
      | true =>
        rw [hb] at hk
        rw [if_pos (Nat.eq_of_beq_eq_true hb)]
        exact ⟨dl', loc', ha', hk⟩
      | false =>
        rw [hb] at hk
        rw [if_neg (fun e => by subst e; simp [Nat.beq_refl] at hb)]
        exact ⟨dl', loc', ha', hk⟩
    | ret => exact hq
    | goto l => exact hq
    | panic c => exact hq
    | outgrown => exact hq
  | loop c ih =>
    intro db base kn kx kr dl loc w a h ha
    obtain ⟨I, μ, h0, hall⟩ := h
    obtain ⟨e0, I0, μ0, hI0, he0, hq0, hm0⟩ := getK_out h0
    have hent0 := hq0 _ hall
    refine wpIn_loop (fun a w => ∃ (e : Env) (I1 : World → Prop) (μ1 : World → Nat), allIn (mods c) e = true ∧ (∀ w1, I1 w1 → trC cx c (dl ++ db) (kills (mods c) ++ (loc ++ base))
            (fun d2 l2 w2 => ck (isNil d2 && allIn (mods c) l2) (getK (cx.L ((firstR c).getD 0)) (evS l2 (kills (mods c) ++ (loc ++ base))) I μ (fun I2 μ2 => I2 w2 ∧ μ2 w2 < μ1 w1)))
            (fun j d2 l2 w2 => kx j (d2 ++ dl) (l2 ++ (kills (mods c) ++ loc)) w2) kr [] e w1) ∧ I1 w ∧ Ag cx.N (dl ++ db) (evS e (kills (mods c) ++ (loc ++ base))) a ∧ meas (cx.L ((firstR c).getD 0)) (fun s => a.tmps[s]?) μ = μ1)
      (fun a w => meas (cx.L ((firstR c).getD 0)) (fun s => a.tmps[s]?) μ w) ?_ ?_
    · obtain ⟨ha1, ha2⟩ := ck.ex hent0
      refine ⟨e0, I0, μ0, ha1, ha2, hI0, ?_, hm0 _ ha.slot⟩
      exact Ag.enter (l := []) ha (.inr (by rw [evS_assoc]; rfl)) rfl he0
    · rintro a1 w1 ⟨e, I1, μ1, hal, hbody, hI, hag, hme⟩
      refine wpIn_mono (ih (dl ++ db) _ _ _ kr [] e w1 a1 (hbody w1 hI) (by simpa using hag)) ?_
      intro ex a2 w2 hq
      cases ex with
      | normal =>
        obtain ⟨d2, l2, hag2, hk⟩ := hq
        obtain ⟨hck, hk'⟩ := ck.ex hk
        clear hk
        simp only [Bool.and_eq_true] at hck
        have hd2 : d2 = [] := by cases d2 <;> simp_all [isNil]
        subst hd2
        simp only [List.nil_append] at hag2
        obtain ⟨e2, I2, μ2, ⟨hI2, hlt⟩, he2, hq2, hm2⟩ := getK_out hk'
        obtain ⟨hb1, hb2⟩ := ck.ex (hq2 _ hall)
        refine ⟨⟨e2, I2, μ2, hb1, hb2, hI2, Ag.enter hag2 (.inl rfl) hck.2 he2, hm2 _ hag2.slot⟩, ?_⟩
        rw [hm2 _ hag2.slot, hme]
        exact hlt
      | exit j =>
        obtain ⟨d2, l2, hag2, hk⟩ := hq
        refine ⟨_, _, ?_, hk⟩
        rw [← List.append_assoc (kills (mods c)) loc base, evS_assoc] at hag2
        rw [List.append_assoc]
        exact hag2
      | ret => exact hq
      | goto l => exact hq.elim
      | panic c => exact hq.elim
      | outgrown => exact hq.elim
  | rangeFunc f ps x y ihx ihy => intro db base kn kx kr dl loc w a h ha; exact h.elim
  | exit id => intro db base kn kx kr dl loc w a h ha; exact wpIn_exit ⟨dl, loc, ha, h⟩
  | scope c ih => intro db base kn kx kr dl loc w a h ha; exact h.elim
  | label l => intro db base kn kx kr dl loc w a h ha; exact h.elim
  | goto l => intro db base kn kx kr dl loc w a h ha; exact h.elim
  | ret => intro db base kn kx kr dl loc w a h ha; exact wpIn_ret ⟨_, _, ha, h⟩
  | refuse y => intro db base kn kx kr dl loc w a h ha; exact h.elim

end
end Go.VC

namespace Go.VC
open Go

/-- The loops' carried slots, by the first region of each. -/
def lk : List (Nat × List (Nat × Kd)) → Nat → List (Nat × Kd)
  | [], _ => []
  | (i, ks) :: l, j => match Nat.beq i j with
    | true => ks
    | false => lk l j

def resL : List ResultVar → Sl → Option (List Value)
  | [], _ => some []
  | .tmp t :: rs, f => match f t, resL rs f with
    | some v, some vs => some (v :: vs)
    | _, _ => none
  | .cell _ _ :: _, _ => none

def retV (rs : List ResultVar) (f : Sl) (k : Value → Prop) : Prop :=
  match rs with
  | [.tmp t] => wv (f t) k
  | rs => wvs (resL rs f) fun vs => k (.tuple ⟨vs⟩)

def entryL : List Value → Nat → Env
  | [], _ => []
  | v :: vs, i => (i, some v) :: entryL vs (i + 1)

def trF (P : Program) (G : Nat → Bool) (L : Nat → List (Nat × Kd)) (fn : Func) (args : List Value) (w : World) (R : K) : Prop :=
  match fn.body with
  | some c => ck (Nat.ble args.length fn.ntmps) (trC ⟨P, G, fn.ntmps, L⟩ c [] [] (fun dl loc w => ck (isNil dl) (retV fn.results.toList (evS loc []) fun v => R v w)) (fun _ _ _ _ => False)
      (fun ds f w => ck (isNil ds) (retV fn.results.toList f fun v => R v w)) [] (entryL args 0) w)
  | none => False

theorem entryL_find (vs : List Value) (i s : Nat) : find (entryL vs i) s = if s < i then none else (vs[s - i]?).map some := by
  induction vs generalizing i with
  | nil => simp [entryL, find]
  | cons v vs ih =>
    simp only [entryL, find]
    by_cases h : s = i
    · subst h; simp [Nat.beq_refl]
    · have hb : Nat.beq s i = false := by
        cases hh : Nat.beq s i with
        | false => rfl
        | true => exact absurd (Nat.eq_of_beq_eq_true hh) h
      rw [hb]
      simp only
      rw [ih]
      by_cases hlt : s < i
      · rw [if_pos (by omega), if_pos hlt]
      · rw [if_neg (by omega), if_neg hlt, show s - i = (s - (i + 1)) + 1 by omega, List.getElem?_cons_succ]

theorem resL_run {P : Program} {w : World} {f : Sl} {tmps : Array Value} (hf : ∀ s v, f s = some v → tmps[s]? = some v) : ∀ {rs : List ResultVar} {vs : List Value}, resL rs f = some vs →
    (rs.mapM fun | .tmp t => pure (tmps.getD t undef) | .cell a t => (do loadVar t (← asAddr (tmps.getD a undef)) : Sem Value) : Sem (List Value)).run P w = .ok vs w
  | [], vs, h => by simp [resL] at h; subst h; simp
  | .tmp t :: rs, vs, h => by
    simp only [resL] at h
    split at h
    · rename_i v vs' h1 h2
      simp only [Option.some.injEq] at h
      subst h
      have h3 : tmps.getD t undef = v := by simp [Array.getD_eq_getD_getElem?, hf _ _ h1]
      simp only [List.mapM_cons, Sem.run_bind, Sem.run_pure, Result.andThen_ok, resL_run hf h2, h3]
    · cases h
  | .cell _ _ :: _, vs, h => by simp [resL] at h


theorem resL_length : ∀ {rs : List ResultVar} {f : Sl} {vs : List Value}, resL rs f = some vs → vs.length = rs.length
  | [], f, vs, h => by simp [resL] at h; subst h; rfl
  | .tmp t :: rs, f, vs, h => by
    simp only [resL] at h
    split at h
    · rename_i v vs' h1 h2
      simp only [Option.some.injEq] at h
      subst h
      simp [resL_length h2]
    · cases h
  | .cell _ _ :: _, f, vs, h => by simp [resL] at h

theorem retV_run {P : Program} {w : World} {fn : Func} {f : Sl} {tmps : Array Value} {k : Value → Prop} (hf : ∀ s v, f s = some v → tmps[s]? = some v) (h : retV fn.results.toList f k) :
    ∃ v, (results fn tmps).run P w = .ok v w ∧ k v := by
  have key : ∀ vs, resL fn.results.toList f = some vs → (results fn tmps).run P w = .ok (if h : vs.length = 1 then vs[0] else .tuple ⟨vs⟩) w := by
    intro vs hvs
    have h1 := resL_run (P := P) (w := w) hf hvs
    unfold results
    rw [Array.mapM_eq_mapM_toList]
    simp only [Sem.run_bind, Sem.run_map]
    exact congrArg (fun r : Result (List Value) => (r.andThen fun a w' => Result.ok a.toArray w').andThen fun a w' => Sem.run P (pure (if h : a.size = 1 then a[0] else Value.tuple a)) w') h1
  unfold retV at h
  split at h
  · rename_i t hr
    obtain ⟨v, hv, h⟩ := wv.ex h
    exact ⟨v, key [v] (by rw [hr]; simp [resL, hv]), h⟩
  · rename_i hne
    obtain ⟨vs, hvs, h⟩ := wvs.ex h
    refine ⟨_, key vs hvs, ?_⟩
    have hl := resL_length hvs
    split
    · rename_i h1
      match hr : fn.results.toList with
      | [] => rw [hr] at hl; simp at hl; rw [hl] at h1; simp at h1
      | [.tmp t] => exact (hne t hr).elim
      | [.cell _ _] => rw [hr] at hvs; simp [resL] at hvs
      | _ :: _ :: _ => rw [hr] at hl; simp at hl; rw [hl] at h1; simp at h1
    · exact h

/-- A function's contract out of its verification condition. -/
theorem calls_of_tr {P : Program} {G : Nat → Bool} {L : Nat → List (Nat × Kd)} {f : FuncId} {fn : Func} {args : List Value} {w : World} {R : K} (hf : P.funcs[f]? = some fn) (hG : Enters P G) (hM : P.follows .mixedOrders = true)
    (h : trF P G L fn args w R) : Calls P f ⟨args⟩ w (Rv R) := by
  unfold trF at h
  split at h
  · rename_i c hb
    obtain ⟨hle, h⟩ := ck.ex h
    have hle := Nat.le_of_ble_eq_true hle
    refine (callsIn_wide (n := 0)).1 (callsIn_of_wp (F := Fence.wide) hf hb trivial ?_ rfl)
    refine wpIn_mono (Q := QC fn.ntmps [] [] (fun dl loc w => ck (isNil dl) (retV fn.results.toList (evS loc []) fun v => R v w)) (fun _ _ _ _ => False)
      (fun ds f w => ck (isNil ds) (retV fn.results.toList f fun v => R v w))) (trC_sound (cx := ⟨P, G, fn.ntmps, L⟩) hG hM (r := none) c [] [] _ _ _ [] (entryL args 0) w _ h ⟨?_, rfl, ?_⟩) ?_
    · simp; omega
    · intro s v hs
      simp only [evS, ev, entryL_find, Nat.not_lt_zero, if_false, Nat.sub_zero, find] at hs
      have hs' : args[s]? = some v := by
        cases ha : args[s]? with
        | none => rw [ha] at hs; simp at hs
        | some u => rw [ha] at hs; simpa using hs
      have hlt : s < args.length := (List.getElem?_eq_some_iff.1 hs').1
      have := (List.getElem?_eq_some_iff.1 hs').2
      simp [Array.getElem?_append, hlt, this]
    · intro e a w' hq
      have fin : ∀ (ds : List Nat) (fs : Sl), Ag fn.ntmps ds fs a → ck (isNil ds) (retV fn.results.toList fs fun v => R v w') → a.defers = [] ∧ ∃ v, (results fn a.tmps).run P w' = .ok v w' ∧ Rv R (.returned v) w' := by
        intro ds fs hag hk
        obtain ⟨hn, hk⟩ := ck.ex hk
        have hds : ds = [] := by cases ds <;> simp_all [isNil]
        obtain ⟨v, hr, hR⟩ := retV_run (P := P) (w := w') hag.slot hk
        exact ⟨by rw [hag.defers, hds]; rfl, v, hr, v, rfl, hR⟩
      cases e with
      | normal =>
        obtain ⟨dl, loc, hag, hk⟩ := hq
        exact fin _ _ hag (by simpa using hk)
      | exit j => obtain ⟨_, _, _, hk⟩ := hq; exact hk.elim
      | ret => obtain ⟨ds, fs, hag, hk⟩ := hq; exact fin _ _ hag hk
      | goto l => exact hq.elim
      | panic c => exact hq.elim
      | outgrown => exact hq.elim
  · exact h.elim

def enterOk (P : Program) (g : Nat) : Bool := match P.funcs[g]? with
  | some fn => fn.body.isSome && !(fn.name == "runtime.NumGoroutine")
  | none => false

/-- All functions from one to another may be called. -/
def span (a b : Nat) (g : Nat) : Bool := Nat.ble a g && Nat.ble g b
def spanOk (P : Program) : Nat → Nat → Bool
  | _, 0 => true
  | a, n + 1 => enterOk P a && spanOk P (a + 1) n

theorem enters_span {P : Program} {a n : Nat} (h : spanOk P a (n + 1) = true) : Enters P (span a (a + n)) := by
  intro g hg args w
  have key : ∀ n a, spanOk P a n = true → a ≤ g → g < a + n → enterOk P g = true := by
    intro n
    induction n with
    | zero => intro a _ h1 h2; omega
    | succ n ih =>
      intro a h h1 h2
      simp only [spanOk, Bool.and_eq_true] at h
      by_cases e : g = a
      · subst e; exact h.1
      · exact ih (a + 1) h.2 (by omega) (by omega)
  simp only [span, Bool.and_eq_true] at hg
  have h1 := Nat.le_of_ble_eq_true hg.1
  have h2 := Nat.le_of_ble_eq_true hg.2
  have hok := key (n + 1) a h h1 (by omega)
  unfold enterOk at hok
  split at hok
  · rename_i fn hfn
    simp only [Bool.and_eq_true, Bool.not_eq_true', beq_eq_false_iff_ne] at hok
    have hb : fn.body ≠ none := by cases hb : fn.body <;> simp_all
    simp [callFunc, hfn, hok.2, hb]
  · cases hok

end Go.VC
