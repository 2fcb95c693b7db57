/- A verification-condition generator for the model's code: one operation. -/
import Derived.Test.YtilccklocaeebaaVc2
namespace Go.VC
open Go

abbrev Eval := Operand → Option Value
abbrev K := Value → World → Prop

def evs (e : Eval) : List Operand → Option (List Value)
  | [] => some []
  | x :: xs => match e x, evs e xs with
    | some v, some vs => some (v :: vs)
    | _, _ => none

def evps (e : Eval) : List (Nat × Operand) → Option (List (Nat × Value))
  | [] => some []
  | (i, x) :: xs => match e x, evps e xs with
    | some v, some vs => some ((i, v) :: vs)
    | _, _ => none

def wvs {α : Type} (v : Option α) (q : α → Prop) : Prop := match v with
  | some v => q v
  | none => False
theorem wvs.ex {α : Type} {v : Option α} {q : α → Prop} (h : wvs v q) : ∃ x, v = some x ∧ q x := by
  cases v with
  | none => exact h.elim
  | some x => exact ⟨x, rfl, h⟩

/-- Cells of a literal, written into its zero cells. -/
def fillL (place : Nat → Option (Nat × Nat)) (cells : List Value) : List (Nat × Value) → Option (List Value)
  | [] => some cells
  | (i, v) :: rest =>
    match place i with
    | none => none
    | some (off, size) => match Nat.beq (cellsL v).length size && Nat.ble (off + size) cells.length with
      | true => fillL place (cells.take off ++ (cellsL v ++ cells.drop (off + size))) rest
      | false => none

/-- 'T{..}', 'x.f', a variable of the type: the fields' places. -/
def fieldL (fs : List Field) (i : Nat) : Option Field := fs[i]?

def wio (e : Eval) (x : Option Operand) (d : Int) (q : Int → Prop) : Prop := match x with
  | none => q d
  | some x => wv (e x) fun v => wi v fun _ n => q n

def trSlice (P : Program) (t : TypeId) (e : Eval) (lo hi : Option Operand) (x : Value) (w : World) (k : K) : Prop :=
  match P.underlying t, x with
  | some .string, .string s => wio e lo 0 fun l => wio e hi s.size fun h => 0 ≤ l ∧ l ≤ h ∧ h ≤ s.size ∧ k (.string (s.extract l.toNat h.toNat)) w
  | some (.slice el), .slice a n c => wio e lo 0 fun l => wio e hi n fun h => 0 ≤ l ∧ l ≤ h ∧ h ≤ c ∧
      ck (hasT P el) (k (.slice (if c = l.toNat then a else a.map (·.add (l.toNat * szOf P el))) (h.toNat - l.toNat) (c - l.toNat)) w)
  | _, _ => False

def nilC (v : Value) (k : Value → Prop) : Prop := match v with
  | .pointer p => wa p fun a => k (.pointer (some a))
  | .nilIface | .nilFunc => False
  | .func (.method _) _ _ => False
  | v => k v

/-- The cells of a variable, from a place on. -/
def ldC (w : World) (a : Addr) : List Value → Nat → Prop → Prop
  | [], _, q => q
  | v :: vs, i, q => w.cell? (a.add i) = some v ∧ ldC w a vs (i + 1) q
theorem ldC.out {w : World} {a : Addr} : ∀ {vs : List Value} {i : Nat} {q : Prop}, ldC w a vs i q → (∀ j v, vs[j]? = some v → w.cell? (a.add (i + j)) = some v) ∧ q
  | [], i, q, h => ⟨fun j v hj => by simp at hj, h⟩
  | u :: vs, i, q, h => by
    obtain ⟨h0, h⟩ := h
    obtain ⟨h1, h2⟩ := ldC.out h
    refine ⟨fun j v hj => ?_, h2⟩
    cases j with
    | zero => simp at hj; subst hj; exact h0
    | succ j => have := h1 j v (by simpa using hj); rwa [show i + 1 + j = i + (j + 1) by omega] at this

def trLoad (P : Program) (t : TypeId) (a : Addr) (w : World) (k : K) : Prop :=
  match isAggT P t with
  | true => ExL (flatT P 10 t) fun vs => ck (sizeIs P t vs.length) (ldC w a vs 0 (k (.agg ⟨vs⟩) w))
  | false => ck (hasT P t) (ExK (kdOf P t) fun v => w.cell? a = some v ∧ k v w)

def trStore (P : Program) (t : TypeId) (a : Addr) (v : Value) (w : World) (k : World → Prop) : Prop :=
  match v with
  | .agg cs => ck (sizeIs P t cs.toList.length) (storesC w a cs.toList 0 k)
  | v => ck (sizeIs P t 1) (oneC v ((∃ u, w.cell? a = some u) ∧ w.frozen? a = false ∧ k (w.setCell a v)))

def trConv (P : Program) (s d rt : TypeId) (x : Value) (w : World) (k : K) : Prop :=
  match P.underlying s, P.underlying d, x with
  | some (.int _), some (.int kd), .int _ n => k (.int kd (kd.wrap n)) w
  | some .string, some .string, .string s => k (.string s) w
  | _, _, _ => Runs P rt (convert s d x) w k

def trIndex (P : Program) (t : TypeId) (x ix : Value) (w : World) (k : K) : Prop :=
  match P.underlying t, x, ix with
  | some .string, .string s, .int _ i => ∃ c, 0 ≤ i ∧ s[i.toNat]? = some c ∧ k (.int .u8 (UInt8.toNat c)) w
  | some (.array n el), .agg cs, .int _ i => ck (hasT P el && hasT P el) (0 ≤ i ∧ i < n ∧ (match isAggT P el with
      | true => k (.agg ⟨(cs.toList.drop (i.toNat * szOf P el)).take (szOf P el)⟩) w
      | false => ∃ v, cs.toList[i.toNat * szOf P el]? = some v ∧ k v w))
  | _, _, _ => False

def trIndexAddr (P : Program) (t : TypeId) (x ix : Value) (w : World) (k : K) : Prop :=
  match P.underlying t, x, ix with
  | some (.slice el), .slice a n _, .int _ i => ck (hasT P el) (0 ≤ i ∧ i < n ∧ ∃ b, a = some b ∧ k (.pointer (some (b.add (i.toNat * szOf P el)))) w)
  | some (.array n el), .pointer a, .int _ i => ck (hasT P el) (0 ≤ i ∧ i < n ∧ ∃ b, a = some b ∧ k (.pointer (some (b.add (i.toNat * szOf P el)))) w)
  | _, _, _ => False

def trField (P : Program) (t : TypeId) (x : Value) (f : Nat) (w : World) (k : K) : Prop :=
  match P.underlying t, x with
  | some (.struct fs), .agg cs => match fs.toList[f]? with
    | some f => ck (hasT P f.type) (match isAggT P f.type with
      | true => k (.agg ⟨(cs.toList.drop f.offset).take (szOf P f.type)⟩) w
      | false => wvs cs.toList[f.offset]? fun v => k v w)
    | none => False
  | _, _ => False

def trFieldAddr (P : Program) (t : TypeId) (x : Value) (f : Nat) (w : World) (k : K) : Prop :=
  match P.underlying t with
  | some (.struct fs) => match fs.toList[f]? with
    | some f => ck (hasT P f.type && !Nat.beq (szOf P f.type) 0) (wp x fun p => wa p fun a => k (.pointer (some (a.add f.offset))) w)
    | none => False
  | _ => False

def zeroOf (P : Program) (t : TypeId) : Option Value := (P.info? t).bind (·.zero)

def places (P : Program) (t : TypeId) (i : Nat) : Option (Nat × Nat) :=
  match P.underlying t with
  | some (.struct fs) => match fs.toList[i]? with
    | some f => some (f.offset, szOf P f.type)
    | none => none
  | some (.array _ el) => some (i * szOf P el, szOf P el)
  | _ => none

def fieldsOk (P : Program) (t : TypeId) : Bool :=
  match P.underlying t with
  | some (.struct fs) => fs.toList.all fun f => hasT P f.type
  | some (.array _ el) => hasT P el
  | _ => false

def trBuild (P : Program) (t : TypeId) (ps : List (Nat × Value)) (w : World) (k : K) : Prop :=
  ck (fieldsOk P t) (wvs (zeroOf P t) fun z => wvs (fillL (places P t) (cellsL z) ps) fun cs => k (.agg ⟨cs⟩) w)

def zeroCellsL (z : List Value) : Nat → List Value
  | 0 => []
  | n + 1 => z ++ zeroCellsL z n

def trBuildSlice (P : Program) (t : TypeId) (n : Nat) (ps : List (Nat × Value)) (w : World) (k : K) : Prop :=
  match P.underlying t with
  | some (.slice el) => ck (hasT P el && Nat.ble (n * szOf P el) 16777216) (wvs (zeroOf P el) fun z => ck (Nat.beq (cellsL z).length (szOf P el) && Nat.ble 1 (szOf P el))
      (wvs (fillL (fun i => some (i * szOf P el, szOf P el)) (zeroCellsL (cellsL z) n) ps) fun cs =>
        k (.slice (some ⟨w.heap.size, 0, none⟩) n n) (w.alloc (.cells ⟨cs⟩ el))))
  | _ => False

def trBuiltin (P : Program) (b : Builtin) (ats : Array TypeId) (rt : TypeId) (vs : List Value) (w : World) (k : K) : Prop :=
  match b, vs with
  | .len, [.string s] => match ats.toList with
    | t :: _ => match P.underlying t with
      | some .string => k (.int .i64 s.size) w
      | _ => False
    | _ => False
  | .len, [.slice a n c] => match ats.toList with
    | t :: _ => match P.underlying t with
      | some (.slice _) => k (.int .i64 n) w
      | _ => Runs P rt (Builtin.len_ ats rt #[.slice a n c]) w k
    | _ => False
  | .len, vs => Runs P rt (Builtin.len_ ats rt ⟨vs⟩) w k
  | .max, [.int k1 m, .int _ n] => k (.int k1 (max m n)) w
  | .min, [.int k1 m, .int _ n] => k (.int k1 (min m n)) w
  | .append, vs => Runs P rt (Builtin.append_ ats rt ⟨vs⟩) w k
  | .copy, vs => Runs P rt (Builtin.copy_ ats rt ⟨vs⟩) w k
  | .clear, vs => Runs P rt (Builtin.clear_ ats rt ⟨vs⟩) w k
  | .delete, vs => Runs P rt (Builtin.delete_ ats rt ⟨vs⟩) w k
  | .cap, vs => Runs P rt (Builtin.cap_ ats rt ⟨vs⟩) w k
  | .max, vs => Runs P rt (Builtin.max_ ats rt ⟨vs⟩) w k
  | .min, vs => Runs P rt (Builtin.min_ ats rt ⟨vs⟩) w k
  | _, _ => False

/-- A method is called on an interface value. -/
def CallM (P : Program) (G : Nat → Bool) (name : String) (recv : Value) (args : List Value) (w : World) (R : K) : Prop :=
  ∃ t v f r, recv = .iface t v ∧ (method (P.types.size + Made.depth) t v name).run P w = .ok (f, r) w ∧ G f = true ∧ Calls P f ⟨r :: args⟩ w (Rv R)

def TyV (P : Program) (t : TypeId) (v : Value) (k : Value → Prop) : Prop := ExV P t fun u => v = u ∧ k u
theorem TyV.out {P : Program} {t : TypeId} {v : Value} {k : Value → Prop} (h : TyV P t v k) : k v := by
  obtain ⟨u, rfl, h⟩ := ExV.ex h
  exact h

def trOp (P : Program) (G : Nat → Bool) (e : Eval) (o : Oper) (w : World) (k : K) : Prop :=
  match o.op with
  | .move x | .assign x => wv (e x) fun v => k v w
  | .pick c a b => wv (e c) fun c => wb c fun t => br t (wv (e a) fun v => k v w) (wv (e b) fun v => k v w)
  | .nilCheck x => wv (e x) fun x => nilC x fun v => k v w
  | .binOp op t x y _ => wv (e x) fun a => wv (e y) fun b => trBinN P op t o.type x y a b w k
  | .unOp .not _ x => wv (e x) fun a => wb a fun b => k (.bool !b) w
  | .unOp .neg _ x => wv (e x) fun a => wi a fun kd n => k (.int kd (kd.wrap (0 - n))) w
  | .unOp .xor _ x => wv (e x) fun a => wi a fun kd n => k (.int kd (bXor kd (if kd.signed then -1 else kd.max) n)) w
  | .convert s d x => wv (e x) fun x => trConv P s d o.type x w k
  | .load t a => wv (e a) fun p => wp p fun p => wa p fun a => trLoad P t a w k
  | .store t a x => wv (e a) fun p => wp p fun p => wa p fun a => wv (e x) fun v => trStore P t a v w fun w' => k undef w'
  | .fieldAddr t x f => wv (e x) fun x => trFieldAddr P t x f w k
  | .field t x f => wv (e x) fun x => trField P t x f w k
  | .indexAddr t x i => wv (e x) fun x => wv (e i) fun i => trIndexAddr P t x i w k
  | .index t x i => wv (e x) fun x => wv (e i) fun i => trIndex P t x i w k
  | .extract x i => wv (e x) fun x => match x with
    | .tuple vs => wvs vs.toList[i]? fun v => k v w
    | _ => False
  | .box t x => wv (e x) fun v => k (.pointer (some ⟨w.heap.size, 0, none⟩)) (w.alloc (.cells ⟨cellsL v⟩ t))
  | .alloc t => wvs (zeroOf P t) fun z => k (.pointer (some ⟨w.heap.size, 0, none⟩)) (w.alloc (.cells ⟨cellsL z⟩ t))
  | .build t ps => wvs (evps e ps.toList) fun ps => trBuild P t ps w k
  | .buildSlice t n ps => wvs (evps e ps.toList) fun ps => trBuildSlice P t n ps w k
  | .makeFunc fn first caps => wvs (evs e first.toList) fun fs => wvs (evs e caps.toList) fun cs => k (.func fn ⟨fs⟩ ⟨cs⟩) w
  | .makeInterface t x => match P.underlying t with
    | some (.interface _) | none => False
    | _ => wv (e x) fun v => k (.iface t v) w
  | .slice t x lo hi none => wv (e x) fun x => trSlice P t e lo hi x w k
  | .makeSlice t l c => wv (e l) fun l => wv (e c) fun c => Runs P o.type (Instr.makeSlice t l c) w k
  | .makeMap t none => Runs P o.type (Instr.makeMap t none) w k
  | .makeMap t (some x) => wv (e x) fun x => Runs P o.type (Instr.makeMap t (some x)) w k
  | .lookup t x i ok => wv (e x) fun x => wv (e i) fun i => Runs P o.type (Instr.lookup t x i ok) w k
  | .mapUpdate t m x y => wv (e m) fun m => wv (e x) fun x => wv (e y) fun y => Does P (Instr.mapUpdate t m x y) w fun w' => k undef w'
  | .insert t m x y => wv (e m) fun m => wv (e x) fun x => wv (e y) fun y => Does P (Instr.mapUpdate t m x y) w fun w' => k undef w'
  | .range t x => wv (e x) fun x => Runs P o.type (Instr.range t x) w k
  | .next x s => wv (e x) fun x => Runs P o.type (Instr.next x s o.type) w k
  | .entry x => wv (e x) fun x => Runs P o.type (Instr.entry x) w k
  | .typeAssert x t u ok => wv (e x) fun x => Runs P o.type (Instr.typeAssert x t u ok) w k
  | .call { callee := .value f, args, .. } => wvs (evs e args.toList) fun vs => wv (e f) fun f => CallFV P G f vs w fun v w' => TyV P o.type v fun v => k v w'
  | .call { callee := .builtin b, args, argTypes } => wvs (evs e args.toList) fun vs => trBuiltin P b argTypes o.type vs w k
  | .call { callee := .invoke r name, args, .. } => wvs (evs e args.toList) fun vs => wv (e r) fun r => CallM P G name r vs w fun v w' => TyV P o.type v fun v => k v w'
  | _ => False

/-- What an operation's run is good for. -/
inductive Post (P : Program) (k : K) : Result Next → Prop
  | value {v : Value} {w : World} (h : k v w) : Post P k (.ok (.value v) w)
  | skip {w : World} (h : k undef w) : Post P k (.ok .skip w)
  | enter {f : FuncId} {args : Array Value} {w : World} (h : Calls P f args w (Rv k)) : Post P k (.ok (.enter f args) w)
  | round {l : Nat} {f : FuncId} {tmps : Array Value} {assign body : Code} {w : World} (h : RoundIn Fence.wide 0 P l f tmps assign body w (Rv k)) : Post P k (.ok (.round l f tmps assign body) w)

end Go.VC
