/- A verification-condition generator for the model's code: regions that draw their order (the walk through them). -/
import Derived.Test.YtilccklocaeebaaVc5d
import Derived.OrdersIn
namespace Go.VC
open Go

abbrev Ct := List Nat → Env → World → Prop
abbrev Sl := Nat → Option Value

def upd (o : Oper) (v : Value) (loc : Env) : Env := match o.dst with
  | some d => (d, some v) :: loc
  | none => loc
def kil (o : Oper) (loc : Env) : Env := upd o undef loc
/-- A guard's value: a Bool; or what is left by an operation that was passed over. -/
def grd (g : Value) (f : Bool → Prop) (z : Prop) : Prop := match g with
  | .bool b => f b
  | .tuple _ => z
  | _ => False
def dstOk (N : Nat) (o : Oper) : Bool := match o.dst with
  | some d => Nat.blt d N
  | none => true
def slotOf (ops : List Oper) (j : Nat) : Option Nat := (ops[j]?).bind (·.dst)

def ebit (D i : Nat) : Bool := Nat.beq (Nat.land (Nat.shiftRight D i) 1) 1
def setb (D i : Nat) : Nat := Nat.lor D (Nat.shiftLeft 1 i)

theorem ebit_eq (D i : Nat) : ebit D i = D.testBit i := by
  have h : D.testBit i = ((D >>> i) &&& 1 != 0) := by rw [Nat.testBit, Nat.and_comm]
  rw [h]
  unfold ebit
  show Nat.beq ((D >>> i) &&& 1) 1 = _
  have : (D >>> i) &&& 1 = (D >>> i) % 2 := by rw [Nat.and_one_is_mod]
  rw [this]
  rcases Nat.mod_two_eq_zero_or_one (D >>> i) with h | h <;> rw [h] <;> rfl

theorem ebit_setb (D i j : Nat) : ebit (setb D i) j = (ebit D j || decide (i = j)) := by
  rw [ebit_eq, ebit_eq]
  show (D ||| (1 <<< i)).testBit j = _
  rw [Nat.testBit_or, Nat.one_shiftLeft, Nat.testBit_two_pow]

theorem ebit_zero (i : Nat) : ebit 0 i = false := by rw [ebit_eq]; simp

/-- The edges that bind in whatever order. -/
def aftL : List Edge → List Edge
  | [] => []
  | e :: es => match e.ground with
    | .textOnly _ | .gcOnly _ => aftL es
    | _ => e :: aftL es
def aft (o : Oper) : List Edge := aftL o.after.toList
theorem mem_aftL {es : List Edge} {e : Edge} : e ∈ aftL es ↔ e ∈ es ∧ Region.binds .any e = true := by
  induction es with
  | nil => simp [aftL]
  | cons x es ih =>
    have key : (Region.binds .any x = true ∧ aftL (x :: es) = x :: aftL es) ∨ (Region.binds .any x = false ∧ aftL (x :: es) = aftL es) := by
      obtain ⟨on, g⟩ := x
      cases g <;> simp [aftL, Region.binds]
    rcases key with ⟨h1, h2⟩ | ⟨h1, h2⟩
    · rw [h2, List.mem_cons, List.mem_cons, ih]
      constructor
      · rintro (rfl | h)
        · exact ⟨.inl rfl, h1⟩
        · exact ⟨.inr h.1, h.2⟩
      · rintro ⟨rfl | h, hb⟩
        · exact .inl rfl
        · exact .inr ⟨h, hb⟩
    · rw [h2, List.mem_cons, ih]
      constructor
      · rintro ⟨h, hb⟩; exact ⟨.inr h, hb⟩
      · rintro ⟨rfl | h, hb⟩
        · rw [h1] at hb; cases hb
        · exact ⟨h, hb⟩

def bmL (acc : List Nat) : List Edge → Nat
  | [] => 0
  | e :: es => Nat.lor (setb (bmL acc es) e.on) ((acc[e.on]?).getD 0)
def befs : List Oper → List Nat → List Nat
  | [], acc => acc
  | o :: os, acc => befs os (acc ++ [bmL acc (aft o)])
def bm (bms : List Nat) (i : Nat) : Nat := (bms[i]?).getD 0

theorem bmL_bit {acc : List Nat} {es : List Edge} {k : Nat} (h : ebit (bmL acc es) k = true) : ∃ e ∈ es, e.on = k ∨ ebit ((acc[e.on]?).getD 0) k = true := by
  induction es with
  | nil => simp [bmL, ebit_zero] at h
  | cons e es ih =>
    simp only [bmL] at h
    rw [ebit_eq] at h
    change (setb (bmL acc es) e.on ||| ((acc[e.on]?).getD 0)).testBit k = true at h
    rw [Nat.testBit_or, ← ebit_eq, ← ebit_eq, ebit_setb] at h
    simp only [Bool.or_eq_true, decide_eq_true_eq] at h
    rcases h with (h | h) | h
    · obtain ⟨e', he', h'⟩ := ih h; exact ⟨e', List.mem_cons_of_mem _ he', h'⟩
    · exact ⟨e, List.mem_cons_self, .inl h⟩
    · exact ⟨e, List.mem_cons_self, .inr h⟩

theorem befs_length (os : List Oper) (acc : List Nat) : (befs os acc).length = acc.length + os.length := by
  induction os generalizing acc with
  | nil => rfl
  | cons o os ih => simp only [befs, ih, List.length_append, List.length_cons, List.length_nil]; omega

theorem befs_prefix (os : List Oper) (acc : List Nat) : ∀ j, j < acc.length → (befs os acc)[j]? = acc[j]? := by
  induction os generalizing acc with
  | nil => intro j _; rfl
  | cons o os ih => intro j hj; simp only [befs]; rw [ih _ j (by simp; omega), List.getElem?_append_left hj]

theorem befs_get (os : List Oper) (acc : List Nat) (i : Nat) (o : Oper) (h : os[i]? = some o) : (befs os acc)[acc.length + i]? = some (bmL ((befs os acc).take (acc.length + i)) (aft o)) := by
  induction os generalizing acc i with
  | nil => simp at h
  | cons o' os ih =>
    cases i with
    | zero =>
      simp at h
      subst h
      simp only [befs, Nat.add_zero]
      rw [befs_prefix _ _ _ (by simp)]
      have : (befs os (acc ++ [bmL acc (aft o')])).take acc.length = acc := by
        apply List.ext_getElem?
        intro j
        by_cases hj : j < acc.length
        · rw [List.getElem?_take_of_lt hj, befs_prefix _ _ _ (by simp; omega), List.getElem?_append_left hj]
        · rw [List.getElem?_eq_none (by simp [befs_length]; omega), List.getElem?_eq_none (by omega)]
      rw [this]
      simp
    | succ i =>
      have := ih (acc ++ [bmL acc (aft o')]) i (by simpa using h)
      simp only [befs]
      simp only [List.length_append, List.length_cons, List.length_nil] at this
      rw [show acc.length + (i + 1) = acc.length + (0 + 1) + i by omega]
      exact this

/-- What lies before an operation lies there once its direct forerunners have been taken. -/
theorem bm_closed {ops : List Oper} {i : Nat} {o : Oper} (ho : ops[i]? = some o) {M : Nat → Prop} (hM : ∀ j, M j → ∀ k, ebit (bm (befs ops []) j) k = true → M k) (he : ∀ e ∈ (aft o), M e.on) :
    ∀ k, ebit (bm (befs ops []) i) k = true → M k := by
  intro k hk
  have hg := befs_get ops [] i o ho
  simp only [List.length_nil, Nat.zero_add] at hg
  simp only [bm, hg, Option.getD_some] at hk
  obtain ⟨e, hmem, h | h⟩ := bmL_bit hk
  · rw [← h]; exact he e hmem
  · refine hM e.on (he e hmem) k ?_
    simp only [bm]
    by_cases hlt : e.on < i
    · rw [List.getElem?_take_of_lt hlt] at h; exact h
    · rw [List.getElem?_eq_none (by simp; omega)] at h; simp [ebit_zero] at h

def edgeOk (i : Nat) (e : Edge) : Bool := Nat.blt e.on i
def edgesOk : List Oper → Nat → Bool
  | [], _ => true
  | o :: os, i => (aft o).all (edgeOk i) && edgesOk os (i + 1)

theorem edgesOk_get {os : List Oper} {i0 : Nat} (h : edgesOk os i0 = true) {i : Nat} {o : Oper} (ho : os[i]? = some o) : ∀ e ∈ (aft o), edgeOk (i0 + i) e = true := by
  induction os generalizing i0 i with
  | nil => simp at ho
  | cons o' os ih =>
    simp only [edgesOk, Bool.and_eq_true] at h
    cases i with
    | zero => simp at ho; subst ho; exact List.all_eq_true.1 h.1
    | succ i => have := ih h.2 (by simpa using ho); rwa [show i0 + (i + 1) = i0 + 1 + i by omega]

/-- Which operation writes a slot. -/
def wrF : List Oper → Nat → Nat → Option Nat
  | [], _, _ => none
  | o :: os, i, s => match o.dst with
    | some d => match Nat.beq d s with
      | true => some i
      | false => wrF os (i + 1) s
    | none => wrF os (i + 1) s
def hasDst : List Oper → Nat → Bool
  | [], _ => false
  | o :: os, s => match o.dst with
    | some d => match Nat.beq d s with
      | true => true
      | false => hasDst os s
    | none => hasDst os s
def dstsOk (N : Nat) : List Oper → Bool
  | [] => true
  | o :: os => match o.dst with
    | some d => Nat.blt d N && (!hasDst os d && dstsOk N os)
    | none => dstsOk N os

theorem nbeq {a b : Nat} : Nat.beq a b = false ↔ a ≠ b := by
  constructor
  · intro h e; subst e; simp [Nat.beq_refl] at h
  · intro h; cases hh : Nat.beq a b with
    | false => rfl
    | true => exact absurd (Nat.eq_of_beq_eq_true hh) h

theorem hasDst_of {os : List Oper} {i s : Nat} {o : Oper} (ho : os[i]? = some o) (hd : o.dst = some s) : hasDst os s = true := by
  induction os generalizing i with
  | nil => simp at ho
  | cons o' os ih =>
    simp only [hasDst]
    cases i with
    | zero => simp at ho; subst ho; simp [hd, Nat.beq_refl]
    | succ i =>
      have := ih (i := i) (by simpa using ho)
      split
      · split
        · rfl
        · exact this
      · exact this

theorem wrF_some {os : List Oper} {i0 s j : Nat} (h : wrF os i0 s = some j) : ∃ i o, j = i0 + i ∧ os[i]? = some o ∧ o.dst = some s := by
  induction os generalizing i0 with
  | nil => simp [wrF] at h
  | cons o os ih =>
    simp only [wrF] at h
    split at h
    · rename_i d hd
      split at h
      · rename_i hb
        simp only [Option.some.injEq] at h
        exact ⟨0, o, by omega, rfl, by rw [hd, Nat.eq_of_beq_eq_true hb]⟩
      · obtain ⟨i, o', h1, h2, h3⟩ := ih h; exact ⟨i + 1, o', by omega, h2, h3⟩
    · obtain ⟨i, o', h1, h2, h3⟩ := ih h; exact ⟨i + 1, o', by omega, h2, h3⟩

theorem wrF_of {N : Nat} {os : List Oper} (hok : dstsOk N os = true) {i0 i s : Nat} {o : Oper} (ho : os[i]? = some o) (hd : o.dst = some s) : wrF os i0 s = some (i0 + i) := by
  induction os generalizing i0 i with
  | nil => simp at ho
  | cons o' os ih =>
    simp only [dstsOk] at hok
    simp only [wrF]
    cases i with
    | zero => simp at ho; subst ho; simp [hd, Nat.beq_refl]
    | succ i =>
      have ho' : os[i]? = some o := by simpa using ho
      cases hd' : o'.dst with
      | none => rw [hd'] at hok; simp only; rw [ih hok ho']; simp; omega
      | some d =>
        rw [hd'] at hok
        simp only [Bool.and_eq_true, Bool.not_eq_true'] at hok
        have hne : d ≠ s := fun e => by subst e; rw [hasDst_of ho' hd] at hok; cases hok.2.1
        simp only [nbeq.2 hne]
        rw [ih hok.2.2 ho']
        simp; omega

theorem dstsOk_lt {N : Nat} {os : List Oper} (hok : dstsOk N os = true) {i s : Nat} {o : Oper} (ho : os[i]? = some o) (hd : o.dst = some s) : s < N := by
  induction os generalizing i with
  | nil => simp at ho
  | cons o' os ih =>
    simp only [dstsOk] at hok
    cases hd' : o'.dst with
    | none =>
      rw [hd'] at hok
      cases i with
      | zero => simp at ho; subst ho; rw [hd'] at hd; cases hd
      | succ i => exact ih hok (by simpa using ho)
    | some d =>
      rw [hd'] at hok
      simp only [Bool.and_eq_true] at hok
      cases i with
      | zero => simp at ho; subst ho; rw [hd'] at hd; cases hd; exact Nat.le_of_ble_eq_true hok.1
      | succ i => exact ih hok.2.2 (by simpa using ho)

/-- An operand as an operation of the region meets it. -/
def evD (ops : List Oper) (bms : List Nat) (old : Eval) (vals : Env) (i : Nat) : Eval := fun x => match x with
  | .tmp s => match wrF ops 0 s with
    | none => old (.tmp s)
    | some j => match ebit (bm bms i) j with
      | true => (find vals j).join
      | false => match ebit (bm bms j) i || Nat.beq i j with
        | true => old (.tmp s)
        | false => none
  | x => old x

def trG (ops : List Oper) (b : Nat) (vals : Env) (o : Oper) (run skip : Env → Prop) : Prop := match o.guard with
  | none => run vals
  | some (j, pos) => ck (ebit b j) (wvs (slotOf ops j) fun _ => wv (find vals j).join fun g => grd g (fun t => match pos with
      | true => br t (run ((j, some (.bool true)) :: vals)) (skip ((j, some (.bool false)) :: vals))
      | false => br t (skip ((j, some (.bool true)) :: vals)) (run ((j, some (.bool false)) :: vals))) (skip vals))

def ready1 (D : Nat) : List Edge → Bool
  | [] => true
  | e :: es => ebit D e.on && ready1 D es
def nextF (P : Program) : List Oper → Nat → Nat → Option (Nat × Oper)
  | [], _, _ => none
  | o :: os, i, D => match !ebit D i && (ready1 D (aft o) && floO P o) with
    | true => some (i, o)
    | false => nextF P os (i + 1) D
def readyS : List Oper → Nat → Nat → List (Nat × Oper)
  | [], _, _ => []
  | o :: os, i, D => match !ebit D i && ready1 D (aft o) with
    | true => (i, o) :: readyS os (i + 1) D
    | false => readyS os (i + 1) D
def allD : List Oper → Nat → Nat → Bool
  | [], _, _ => true
  | _ :: os, i, D => ebit D i && allD os (i + 1) D
def andS : List (Nat × Oper) → (Nat → Oper → Prop) → Prop
  | [], _ => True
  | (i, o) :: l, f => match l with
    | [] => f i o
    | l => f i o ∧ andS l f

def stab1 (P : Program) (t : TypeId) (w : World) (a : Addr) (v : Value) (q : Prop) : Prop := match isAggT P t with
  | true => match v with
    | .agg cs => ldC w a cs.toList 0 q
    | _ => False
  | false => w.cell? a = some v ∧ q

def stab (P : Program) (ops : List Oper) (bms : List Nat) (old : Eval) (vals : Env) (w : World) : List Nat → Prop → Prop
  | [], q => q
  | i :: is, q => wvs ops[i]? fun o => match o.op with
    | .load t a => wv (evD ops bms old vals i a) fun p => wp p fun p => wa p fun ad => wv (find vals i).join fun v => stab1 P t w ad v (stab P ops bms old vals w is q)
    | _ => False

def dropB (b : Nat) : List Nat → List Nat
  | [] => []
  | i :: is => match ebit b i with
    | true => dropB b is
    | false => i :: dropB b is

def trDr (P : Program) (G : Nat → Bool) (ops : List Oper) (bms : List Nat) (old : Eval) : Nat → Nat → Env → List Nat → World → (Env → World → Prop) → Prop
  | 0, _, _, _, _, _ => False
  | f + 1, D, vals, pend, w, kn => match nextF P ops 0 D with
    | some (i, o) => trG ops (bm bms i) vals o
        (fun vals => ck (floV P (evD ops bms old vals i) o) (trOp P G (evD ops bms old vals i) o w fun v _ =>
          trDr P G ops bms old f (setb D i) ((i, some v) :: vals) (match isLoad o with | true => i :: pend | false => pend) w kn))
        (fun vals => trDr P G ops bms old f (setb D i) ((i, some undef) :: vals) pend w kn)
    | none => match allD ops 0 D with
      | true => kn vals w
      | false => andS (readyS ops 0 D) fun i o => trG ops (bm bms i) vals o
          (fun vals => trOp P G (evD ops bms old vals i) o w fun v w' => stab P ops bms old vals w' (dropB (bm bms i) pend)
            (trDr P G ops bms old f (setb D i) ((i, some v) :: vals) (dropB (bm bms i) pend) w' kn))
          (fun vals => trDr P G ops bms old f (setb D i) ((i, some undef) :: vals) pend w kn)

end Go.VC
