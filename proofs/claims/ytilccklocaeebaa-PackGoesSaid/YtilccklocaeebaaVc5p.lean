/- A verification-condition generator for the model's code: operations that only reckon. -/
import Derived.Test.YtilccklocaeebaaVc5
namespace Go.VC
open Go

/-- A run that, where it ends well, turns nothing and asks nothing of the world. -/
def PureRun {α : Type} (P : Program) (m : Sem α) : Prop := ∀ w v w', m.run P w = .ok v w' → w' = w ∧ ∀ w2, m.run P w2 = .ok v w2

section
variable {P : Program} {α β : Type}

theorem PureRun.pure (a : α) : PureRun P (Pure.pure a : Sem α) := fun w v w' h => by
  simp only [Sem.run_pure, Result.ok.injEq] at h
  obtain ⟨rfl, rfl⟩ := h
  exact ⟨rfl, fun _ => rfl⟩
theorem PureRun.bind {m : Sem α} {f : α → Sem β} (hm : PureRun P m) (hf : ∀ a, PureRun P (f a)) : PureRun P (m >>= f) := fun w v w' h => by
  simp only [Sem.run_bind] at h
  cases hr : m.run P w with
  | halt x y => rw [hr] at h; cases h
  | ok a w1 =>
    rw [hr] at h
    obtain ⟨rfl, h2⟩ := hm _ _ _ hr
    obtain ⟨rfl, h4⟩ := hf a _ _ _ h
    exact ⟨rfl, fun w2 => by simp only [Sem.run_bind, h2, Result.andThen_ok, h4]⟩
theorem PureRun.map {m : Sem α} {f : α → β} (hm : PureRun P m) : PureRun P (f <$> m) := fun w v w' h => by
  simp only [Sem.run_map] at h
  cases hr : m.run P w with
  | halt x y => rw [hr] at h; cases h
  | ok a w1 =>
    rw [hr] at h
    obtain ⟨rfl, h2⟩ := hm _ _ _ hr
    simp only [Result.andThen_ok, Result.ok.injEq] at h
    obtain ⟨rfl, rfl⟩ := h
    exact ⟨rfl, fun w2 => by simp only [Sem.run_map, h2, Result.andThen_ok]⟩
theorem PureRun.halts {m : Sem α} (h : ∀ w, ∃ x y, m.run P w = .halt x y) : PureRun P m := fun w v w' hr => by
  obtain ⟨x, y, hh⟩ := h w
  rw [hh] at hr; cases hr
theorem PureRun.stuck (s : String) : PureRun P (Go.stuck s : Sem α) := .halts fun _ => ⟨_, _, rfl⟩
theorem PureRun.unsup (s : Unsupported) : PureRun P (Go.unsupported s : Sem α) := .halts fun _ => ⟨_, _, rfl⟩
theorem PureRun.program : PureRun P Go.program := fun w v w' h => by
  simp only [run_program, Result.ok.injEq] at h
  obtain ⟨rfl, rfl⟩ := h
  exact ⟨rfl, fun _ => rfl⟩
theorem PureRun.und (t : TypeId) : PureRun P (underlying t) := .bind .program fun p => by
  split
  · exact .pure _
  · exact .stuck _
theorem PureRun.info (t : TypeId) : PureRun P (typeInfo t) := .bind .program fun p => by
  split
  · exact .pure _
  · exact .stuck _
theorem PureRun.size (t : TypeId) : PureRun P (sizeOf t) := .bind (.info t) fun _ => .pure _
theorem PureRun.agg (t : TypeId) : PureRun P (isAgg t) := .bind (.und t) fun d => by
  split <;> exact .pure _
theorem PureRun.part (t : TypeId) (cs : Array Value) (off : Nat) : PureRun P (Go.part t cs off) := .bind (.agg t) fun b => by
  split
  · exact .bind (.size t) fun _ => .pure _
  · split
    · exact .pure _
    · exact .stuck _
theorem PureRun.panic (e : RuntimeError) : PureRun P (runtimePanic e : Sem α) := .halts fun w => by
  cases e <;> simp [runtimePanic, goPanic]
  · unfold elemOf
    simp only [Sem.run_bind]
    cases h : (underlying P.rt.typeAssertionError).run P w with
    | halt x y => exact ⟨_, _, rfl⟩
    | ok d w1 => cases d <;> first | exact ⟨_, _, rfl⟩ | (simp [newVar, newRow])
  · unfold elemOf
    simp only [Sem.run_bind]
    cases h : (underlying P.rt.panicNilError).run P w with
    | halt x y => exact ⟨_, _, rfl⟩
    | ok d w1 => cases d <;> first | exact ⟨_, _, rfl⟩ | (simp [newVar, newRow])
theorem PureRun.bounds (k : IntKind) (x y : Int) (c : BoundsCode) : PureRun P (boundsPanic k x y c : Sem α) := .halts fun w => by
  have hp : ∀ e w, ∃ x y, (runtimePanic e : Sem α).run P w = .halt x y := fun e w => by
    cases hr : (runtimePanic e : Sem α).run P w with
    | halt x y => exact ⟨x, y, rfl⟩
    | ok v w' =>
      exfalso
      cases e <;> simp [runtimePanic, goPanic] at hr
      · unfold elemOf at hr
        simp only [Sem.run_bind] at hr
        cases h : (underlying P.rt.typeAssertionError).run P w with
        | halt x y => rw [h] at hr; cases hr
        | ok d w1 => rw [h] at hr; cases d <;> first | cases hr | (simp [newVar, newRow] at hr)
      · unfold elemOf at hr
        simp only [Sem.run_bind] at hr
        cases h : (underlying P.rt.panicNilError).run P w with
        | halt x y => rw [h] at hr; cases hr
        | ok d w1 => rw [h] at hr; cases d <;> first | cases hr | (simp [newVar, newRow] at hr)
  unfold boundsPanic
  split
  · rw [Sem.run_bind]
    simp only [Sem.run_map]
    cases hc : (choose (.extern "runtime.boundsError.signed" 2)).run P w with
    | halt x y => exact ⟨_, _, rfl⟩
    | ok a w1 => simp only [Result.andThen_ok]; exact hp _ _
  · simp only [Sem.run_bind, Sem.run_pure, Result.andThen_ok]; exact hp _ _
theorem PureRun.intOf (v : Value) : PureRun P (asIntOf v) := by
  unfold asIntOf
  split
  · exact .pure _
  · exact .unsup _
  · exact .stuck _
theorem PureRun.sure (v : Value) : PureRun P (Instr.sureAddr v) := by
  unfold Instr.sureAddr
  split
  · exact .pure _
  · exact .stuck _
theorem PureRun.field (t : TypeId) (x : Value) (f : Nat) : PureRun P (Instr.field t x f) := .bind (.und t) fun d => by
  split
  · split
    · refine .bind ?_ fun _ => .part _ _ _
      unfold asAgg
      split
      · exact .pure _
      · exact .stuck _
    · exact .stuck _
  · exact .stuck _
theorem PureRun.index (t : TypeId) (x i : Value) : PureRun P (Instr.index t x i) := .bind (.intOf i) fun ki => .bind (.und t) fun d => by
  split
  · split
    · exact .bind (.size _) fun _ => .part _ _ _
    · exact .bounds _ _ _ _
  · split
    · exact .pure _
    · exact .bounds _ _ _ _
  · exact .stuck _
theorem PureRun.extract (x : Value) (i : Nat) : PureRun P (Instr.extract x i) := by
  unfold Instr.extract
  split
  · split
    · exact .pure _
    · exact .stuck _
  · exact .stuck _
theorem PureRun.mkIface (t : TypeId) (x : Value) : PureRun P (Instr.makeInterface t x) := .bind (.und t) fun d => by
  split
  · exact .stuck _
  · exact .pure _
theorem PureRun.unary (op : UnOp) (x : Value) : PureRun P (Op.unary op x) := by
  unfold Op.unary
  split
  · exact .pure _
  · exact .pure _
  · exact .pure _
  · exact .pure _
  · exact .pure _
  · exact .unsup _
  · exact .unsup _
  · exact .stuck _
theorem PureRun.sliceBound (v : Value) (y : Nat) (c : BoundsCode) : PureRun P (Instr.sliceBound v y c) := by
  unfold Instr.sliceBound
  refine .bind (.intOf v) fun ki => ?_
  dsimp only
  split
  · exact .pure _
  · exact .bounds _ _ _ _
theorem PureRun.sliceBounds (b : Bool) (len cap : Nat) (lo hi : Option Value) : PureRun P (Instr.sliceBounds b len cap lo hi none) := by
  unfold Instr.sliceBounds
  repeat' first
    | exact PureRun.pure _
    | exact PureRun.stuck _
    | exact PureRun.unsup _
    | exact PureRun.panic _
    | exact PureRun.bounds _ _ _ _
    | exact PureRun.und _
    | exact PureRun.size _
    | exact PureRun.intOf _
    | exact PureRun.sure _
    | exact PureRun.sliceBound _ _ _
    | refine PureRun.bind ?_ (fun _ => ?_)
    | split
    | dsimp only
theorem PureRun.addr (v : Value) : PureRun P (asAddr v) := by
  unfold asAddr
  repeat' first
    | exact PureRun.pure _
    | exact PureRun.stuck _
    | exact PureRun.unsup _
    | exact PureRun.panic _
    | exact PureRun.bounds _ _ _ _
    | exact PureRun.und _
    | exact PureRun.size _
    | exact PureRun.intOf _
    | exact PureRun.sure _
    | exact PureRun.sliceBound _ _ _
    | exact PureRun.sliceBounds _ _ _ _ _
    | refine PureRun.bind ?_ (fun _ => ?_)
    | split
    | dsimp only
theorem PureRun.slice (t : TypeId) (x : Value) (lo hi : Option Value) : PureRun P (Instr.sliceAt t x lo hi none) := by
  unfold Instr.sliceAt Instr.slice
  repeat' first
    | exact PureRun.pure _
    | exact PureRun.stuck _
    | exact PureRun.unsup _
    | exact PureRun.panic _
    | exact PureRun.bounds _ _ _ _
    | exact PureRun.und _
    | exact PureRun.size _
    | exact PureRun.intOf _
    | exact PureRun.sure _
    | exact PureRun.sliceBound _ _ _
    | exact PureRun.sliceBounds _ _ _ _ _
    | refine PureRun.bind ?_ (fun _ => ?_)
    | exact PureRun.addr _
    | split
    | dsimp only
theorem PureRun.indexAt (t : TypeId) (x i : Value) : PureRun P (Instr.indexAt t x i) := by
  unfold Instr.indexAt
  repeat' first
    | exact PureRun.pure _
    | exact PureRun.stuck _
    | exact PureRun.unsup _
    | exact PureRun.panic _
    | exact PureRun.bounds _ _ _ _
    | exact PureRun.und _
    | exact PureRun.size _
    | exact PureRun.intOf _
    | exact PureRun.sure _
    | exact PureRun.sliceBound _ _ _
    | exact PureRun.sliceBounds _ _ _ _ _
    | refine PureRun.bind ?_ (fun _ => ?_)
    | split
    | dsimp only


theorem PureRun.toNext {m : Sem Value} (h : PureRun P m) : PureRun P (do Pure.pure (Next.value (← m)) : Sem Next) := .bind h fun _ => .pure _

def isConstNil (P : Program) (t : TypeId) (x : Operand) (v : Value) : Bool := isConstO x && nilFor P t v

/-- Two values whose comparison, sum .. asks nothing of memory. -/
def pb : Value → Value → Bool
  | .int _ _, .int _ _ => true
  | .string _, .string _ => true
  | _, _ => false

def und0 (P : Program) (ts : Array TypeId) : Option TypeDesc := match ts.toList with
  | t :: _ => P.underlying t
  | [] => none

/-- An operation that only reckons, by its looks (a load, too). -/
def floO (P : Program) (o : Oper) : Bool :=
  match o.op with
  | .move _ | .assign _ | .pick _ _ _ | .nilCheck _ | .unOp _ _ _ | .load _ _ | .fieldAddr _ _ _ | .field _ _ _ | .indexAddr _ _ _ | .index _ _ _ | .extract _ _ | .makeInterface _ _ | .makeFunc _ _ _ => true
  | .slice _ _ _ _ none => true
  | .convert s d _ => match P.underlying s, P.underlying d with
    | some (.int _), some (.int _) => true
    | _, _ => false
  | .binOp _ _ _ _ _ => true
  | .call { callee := .builtin .len, argTypes := ts, .. } => match und0 P ts with
    | some .string | some (.slice _) => true
    | _ => false
  | _ => false

/-- The operands of such an operation. -/
def opsL : Op → List Operand
  | .move x | .assign x | .nilCheck x | .unOp _ _ x | .convert _ _ x | .load _ x | .fieldAddr _ x _ | .field _ x _ | .extract x _ | .makeInterface _ x => [x]
  | .pick c a b => [c, a, b]
  | .binOp _ _ x y _ | .indexAddr _ x y | .index _ x y => [x, y]
  | .makeFunc _ a b => a.toList ++ b.toList
  | .slice _ x lo hi _ => x :: (lo.toList ++ hi.toList)
  | .call c => c.args.toList
  | _ => []
def known (e : Eval) : List Operand → Bool
  | [] => true
  | x :: xs => (e x).isSome && known e xs

theorem execOp_congrL {ρ ρ' : Operand → Value} {o : Oper} (hf : floO P o = true) (h : ∀ x ∈ opsL o.op, ρ x = ρ' x) : execOp ρ o = execOp ρ' o := by
  unfold floO at hf
  split at hf
  case h_13 fn a b ho =>
    simp only [ho, opsL, List.mem_append, Array.mem_toList_iff] at h
    have h1 : a.map ρ = a.map ρ' := Array.map_congr_left fun x hx => h x (.inl hx)
    have h2 : b.map ρ = b.map ρ' := Array.map_congr_left fun x hx => h x (.inr hx)
    simp only [execOp, ho, h1, h2]
  case h_14 t x lo hi ho =>
    simp only [ho, opsL, List.mem_cons, List.mem_append, Option.mem_toList] at h
    have h1 : lo.map ρ = lo.map ρ' := by cases lo with | none => rfl | some y => simp [h y (.inr (.inl rfl))]
    have h2 : hi.map ρ = hi.map ρ' := by cases hi with | none => rfl | some y => simp [h y (.inr (.inr rfl))]
    simp only [execOp, ho, h1, h2, h x (.inl rfl), Option.map_none]
  case h_17 args ts ho =>
    simp only [ho, opsL, Array.mem_toList_iff] at h
    have h1 : args.map ρ = args.map ρ' := Array.map_congr_left fun x hx => h x hx
    simp only [execOp, ho, resolve, h1]
  case h_18 => cases hf
  all_goals
    rename_i ho
    simp only [ho, opsL, List.mem_cons, List.not_mem_nil, or_false, forall_eq_or_imp, forall_eq] at h
    simp only [execOp, ho, h]

/-- .. and by its operands' values. -/
def floV (P : Program) (e : Eval) (o : Oper) : Bool :=
  known e (opsL o.op) && match o.op with
  | .binOp op t x y _ => match e x, e y with
    | some a, some b => match op with
      | .eql | .neq => isConstNil P t y b || (isConstNil P t x a || pb a b)
      | _ => pb a b
    | _, _ => false
  | .convert _ _ x => match e x with
    | some (.int _ _) => true
    | _ => false
  | .call { args := xs, .. } => match evs e xs.toList with
    | some [.string _] | some [.slice _ _ _] => true
    | _ => false
  | _ => true

def isLoad (o : Oper) : Bool := match o.op with
  | .load _ _ => true
  | _ => false

end

section
variable {P : Program} {G : Nat → Bool} {k : K}

theorem eqNil_any {t : TypeId} {a : Value} {q q' : Bool → Prop} (h : eqNil P t a q) (hq : ∀ r, q r → q' r) : eqNil P t a q' := by
  unfold eqNil at h ⊢
  split at h
  · obtain ⟨p, rfl, h⟩ := wp.ex h; exact hq _ h
  · obtain ⟨p, n, c, rfl, h⟩ := wsl.ex h; exact hq _ h
  · exact ⟨h.1, hq _ h.2⟩
  · exact ⟨h.1, hq _ h.2⟩
  · exact ⟨h.1, hq _ h.2⟩
  · exact h.elim

theorem trEq_pure {neg : Bool} {op : BinOp} {t rt : TypeId} {x y : Operand} {a b : Value} {w : World} (hop : op = match neg with | true => .neq | false => .eql) (hv : (isConstNil P t y b || isConstNil P t x a) = true)
    (h : trEq P neg op t rt x y a b w k) : ∃ v, k v w ∧ ∀ w2, (do eqGuard op t x y a b; binOp op t a b : Sem Value).run P w2 = .ok v w2 := by
  unfold trEq at h
  split at h
  · rename_i hc
    simp only [Bool.and_eq_true] at hc
    have key : ∃ r, k (.bool (match neg with | true => !r | false => r)) w ∧ eqNil P t a (fun r' => r' = r) := by
      have : ∃ r, k (.bool (match neg with | true => !r | false => r)) w ∧ eqNil P t a (fun r' => r' = r) := by
        unfold eqNil at h ⊢
        split at h
        · obtain ⟨p, rfl, h⟩ := wp.ex h; exact ⟨_, h, rfl⟩
        · obtain ⟨p, n, c, rfl, h⟩ := wsl.ex h; exact ⟨_, h, rfl⟩
        · exact ⟨_, h.2, h.1, rfl⟩
        · exact ⟨_, h.2, h.1, rfl⟩
        · exact ⟨_, h.2, h.1, rfl⟩
        · exact h.elim
      obtain ⟨r, h1, h2⟩ := this
      exact ⟨r, h1, h2⟩
    obtain ⟨r, hk, hall⟩ := key
    refine ⟨_, hk, fun w2 => ?_⟩
    obtain ⟨r', rfl, ⟨h1, h2⟩, _⟩ := eqNil_run (w := w2) (x := x) hc.2 hc.1 hall
    subst hop
    cases neg
    · exact h1
    · exact h2
  · rename_i hc1
    split at h
    · rename_i hc
      simp only [Bool.and_eq_true] at hc
      have key : ∃ r, k (.bool (match neg with | true => !r | false => r)) w ∧ eqNil P t b (fun r' => r' = r) := by
        unfold eqNil at h ⊢
        split at h
        · obtain ⟨p, rfl, h⟩ := wp.ex h; exact ⟨_, h, rfl⟩
        · obtain ⟨p, n, c, rfl, h⟩ := wsl.ex h; exact ⟨_, h, rfl⟩
        · exact ⟨_, h.2, h.1, rfl⟩
        · exact ⟨_, h.2, h.1, rfl⟩
        · exact ⟨_, h.2, h.1, rfl⟩
        · exact h.elim
      obtain ⟨r, hk, hall⟩ := key
      refine ⟨_, hk, fun w2 => ?_⟩
      obtain ⟨r', rfl, _, ⟨h1, h2⟩⟩ := eqNil_run (w := w2) (x := y) hc.2 hc.1 hall
      subst hop
      cases neg
      · exact h1
      · exact h2
    · rename_i hc2
      simp only [isConstNil, Bool.or_eq_true] at hv
      rcases hv with hv | hv
      · exact absurd hv (by simpa using hc1)
      · exact absurd hv (by simpa using hc2)

theorem pb_pure {op : BinOp} {t : TypeId} {x y : Operand} {a b : Value} (hb : pb a b = true) {w : World} {v : Value} {w' : World}
    (h : (do eqGuard op t x y a b; binOp op t a b : Sem Value).run P w = .ok v w') : w' = w ∧ ∀ w2, (do eqGuard op t x y a b; binOp op t a b : Sem Value).run P w2 = .ok v w2 := by
  unfold pb at hb
  split at hb
  · rename_i k1 m k2 n
    have hp : PureRun P (binOp op t (.int k1 m) (.int k2 n)) := by
      unfold binOp
      repeat' first
        | contradiction
        | exact PureRun.pure _
        | exact PureRun.stuck _
        | exact PureRun.panic _
        | split
        | (unfold Op.shift)
        | (unfold Op.intArith)
        | (unfold Op.intDiv)
        | (unfold Op.intBits)
        | (unfold Op.intCmp)
        | dsimp only
    have := PureRun.bind (m := eqGuard op t x y (.int k1 m) (.int k2 n)) (f := fun _ => binOp op t (.int k1 m) (.int k2 n)) (fun w v w' h => by
      rw [eqGuard_int] at h; simp only [Result.ok.injEq] at h; obtain ⟨_, rfl⟩ := h; exact ⟨rfl, fun w2 => eqGuard_int _ _ _ _ _ _ _ _⟩) (fun _ => hp)
    exact this _ _ _ h
  · rename_i s u
    have hp : PureRun P (binOp op t (.string s) (.string u)) := by
      have : binOp op t (.string s) (.string u) = Op.stringOp op s u := by cases op <;> rfl
      rw [this]
      unfold Op.stringOp
      repeat' first
        | exact PureRun.pure _
        | exact PureRun.stuck _
        | exact PureRun.unsup _
        | split
        | dsimp only
    have := PureRun.bind (m := eqGuard op t x y (.string s) (.string u)) (f := fun _ => binOp op t (.string s) (.string u)) (fun w v w' h => by
      rw [eqGuard_str] at h; simp only [Result.ok.injEq] at h; obtain ⟨_, rfl⟩ := h; exact ⟨rfl, fun w2 => eqGuard_str _ _ _ _ _ _⟩) (fun _ => hp)
    exact this _ _ _ h
  · cases hb
end
end Go.VC
