/- A verification-condition generator for the model's code: what each operation asks, and that this is enough. -/
import Derived.Test.YtilccklocaeebaaVc1
namespace Go.VC
open Go

def bAnd (k : IntKind) (m n : Int) : Int := k.wrap (BitVec.ofInt k.bits m &&& BitVec.ofInt k.bits n).toNat
def bOr (k : IntKind) (m n : Int) : Int := k.wrap (BitVec.ofInt k.bits m ||| BitVec.ofInt k.bits n).toNat
def bXor (k : IntKind) (m n : Int) : Int := k.wrap (BitVec.ofInt k.bits m ^^^ BitVec.ofInt k.bits n).toNat
def bAndNot (k : IntKind) (m n : Int) : Int := k.wrap (BitVec.ofInt k.bits m &&& ~~~BitVec.ofInt k.bits n).toNat
def shL (k : IntKind) (m n : Int) : Int := k.wrap (m * 2 ^ (min n.toNat k.bits))
def shR (k : IntKind) (m n : Int) : Int := m.fdiv (2 ^ (min n.toNat k.bits))

def eqNil (P : Program) (t : TypeId) (a : Value) (k : Bool → Prop) : Prop :=
  match P.underlying t with
  | some (.pointer _) => wp a fun p => k p.isNone
  | some (.slice _) => wsl a fun p _ _ => k p.isNone
  | some (.interface _) => (a = .nilIface ∨ ∃ t' v, a = .iface t' v) ∧ k (isNilV a)
  | some (.func _ _ _) => (a = .nilFunc ∨ ∃ f x y, a = .func f x y) ∧ k (isNilV a)
  | some (.map _ _) => (∃ m, a = .map m) ∧ k (isNilV a)
  | _ => False

def nilFor (P : Program) (t : TypeId) (c : Value) : Bool :=
  match P.underlying t, c with
  | some (.pointer _), .pointer none => true
  | some (.slice _), .slice none _ _ => true
  | some (.interface _), .nilIface => true
  | some (.func _ _ _), .nilFunc => true
  | some (.map _ _), .map none => true
  | _, _ => false

def isConstO : Operand → Bool
  | .const _ => true
  | _ => false

def trEq (P : Program) (neg : Bool) (op : BinOp) (t rt : TypeId) (x y : Operand) (a b : Value) (w : World) (k : Value → World → Prop) : Prop :=
  match isConstO y && nilFor P t b with
  | true => eqNil P t a fun r => k (.bool (match neg with | true => !r | false => r)) w
  | false => match isConstO x && nilFor P t a with
    | true => eqNil P t b fun r => k (.bool (match neg with | true => !r | false => r)) w
    | false => Runs P rt (do eqGuard op t x y a b; binOp op t a b) w k

def trBin (P : Program) (op : BinOp) (t rt : TypeId) (x y : Operand) (a b : Value) (w : World) (k : Value → World → Prop) : Prop :=
  match a, b with
  | .int ka m, .int kb n =>
    match op with
    | .shl => 0 ≤ n ∧ k (.int ka (shL ka m n)) w
    | .shr => 0 ≤ n ∧ k (.int ka (shR ka m n)) w
    | .add => ck (decide (ka = kb)) (k (.int ka (ka.wrap (m + n))) w)
    | .sub => ck (decide (ka = kb)) (k (.int ka (ka.wrap (m - n))) w)
    | .mul => ck (decide (ka = kb)) (k (.int ka (ka.wrap (m * n))) w)
    | .quo => ck (decide (ka = kb)) (n ≠ 0 ∧ k (.int ka (ka.wrap (m.tdiv n))) w)
    | .rem => ck (decide (ka = kb)) (n ≠ 0 ∧ k (.int ka (m.tmod n)) w)
    | .and => ck (decide (ka = kb)) (k (.int ka (bAnd ka m n)) w)
    | .or => ck (decide (ka = kb)) (k (.int ka (bOr ka m n)) w)
    | .xor => ck (decide (ka = kb)) (k (.int ka (bXor ka m n)) w)
    | .andNot => ck (decide (ka = kb)) (k (.int ka (bAndNot ka m n)) w)
    | .eql => ck (decide (ka = kb)) (k (.bool (decide (m = n))) w)
    | .neq => ck (decide (ka = kb)) (k (.bool (!decide (m = n))) w)
    | .lss => ck (decide (ka = kb)) (k (.bool (decide (m < n))) w)
    | .leq => ck (decide (ka = kb)) (k (.bool (decide (m ≤ n))) w)
    | .gtr => ck (decide (ka = kb)) (k (.bool (decide (n < m))) w)
    | .geq => ck (decide (ka = kb)) (k (.bool (decide (n ≤ m))) w)
  | .string s, .string u =>
    match op with
    | .add => s.size + u.size ≤ 9223372036854775807 ∧ k (.string (s ++ u)) w
    | .eql => k (.bool (s.toList == u.toList)) w
    | .neq => k (.bool (!(s.toList == u.toList))) w
    | .lss => k (.bool (Op.bytesLess s.toList u.toList)) w
    | .leq => k (.bool (Op.bytesLess s.toList u.toList || s.toList == u.toList)) w
    | .gtr => k (.bool (!(Op.bytesLess s.toList u.toList || s.toList == u.toList))) w
    | .geq => k (.bool (!Op.bytesLess s.toList u.toList)) w
    | _ => False
  | .bool p, .bool q =>
    match op, P.underlying t with
    | .eql, some .bool => k (.bool (p == q)) w
    | .neq, some .bool => k (.bool (!(p == q))) w
    | _, _ => False
  | a, b =>
    match op with
    | .eql => trEq P false op t rt x y a b w k
    | .neq => trEq P true op t rt x y a b w k
    | _ => False

theorem eqGuard_int {P : Program} {w : World} (op : BinOp) (t : TypeId) (x y : Operand) (ka kb : IntKind) (m n : Int) : (eqGuard op t x y (.int ka m) (.int kb n)).run P w = .ok () w := by
  unfold eqGuard; cases op <;> simp
theorem eqGuard_str {P : Program} {w : World} (op : BinOp) (t : TypeId) (x y : Operand) (m n : ByteArray) : (eqGuard op t x y (.string m) (.string n)).run P w = .ok () w := by
  unfold eqGuard; cases op <;> simp
theorem eqGuard_bool {P : Program} {w : World} (op : BinOp) (t : TypeId) (x y : Operand) (m n : Bool) : (eqGuard op t x y (.bool m) (.bool n)).run P w = .ok () w := by
  unfold eqGuard; cases op <;> simp
theorem run_und {P : Program} {w : World} {t : TypeId} {d : TypeDesc} (h : P.underlying t = some d) : (underlying t).run P w = .ok d w := by
  simp [underlying, h]

section
variable {P : Program} {t : TypeId} {w : World}
theorem equalIn_bool (d : Nat) (hu : P.underlying t = some .bool) (p q : Bool) : (Op.equalIn (d + 1) t (.bool p) (.bool q)).run P w = .ok (p == q) w := by
  simp [Op.equalIn, run_und hu]
theorem equalIn_ptr (d : Nat) {e : TypeId} (hu : P.underlying t = some (.pointer e)) (p : Option Addr) : (Op.equalIn (d + 1) t (.pointer p) (.pointer none)).run P w = .ok p.isNone w := by
  cases p <;> simp [Op.equalIn, run_und hu]
theorem equalIn_ptr' (d : Nat) {e : TypeId} (hu : P.underlying t = some (.pointer e)) (p : Option Addr) : (Op.equalIn (d + 1) t (.pointer none) (.pointer p)).run P w = .ok p.isNone w := by
  cases p <;> simp [Op.equalIn, run_und hu]
theorem equalIn_slc (d : Nat) {e : TypeId} (hu : P.underlying t = some (.slice e)) (p : Option Addr) (a b c n : Nat) : (Op.equalIn (d + 1) t (.slice p a b) (.slice none c n)).run P w = .ok p.isNone w := by
  cases p <;> simp [Op.equalIn, run_und hu]
theorem equalIn_slc' (d : Nat) {e : TypeId} (hu : P.underlying t = some (.slice e)) (p : Option Addr) (a b c n : Nat) : (Op.equalIn (d + 1) t (.slice none c n) (.slice p a b)).run P w = .ok p.isNone w := by
  cases p <;> simp [Op.equalIn, run_und hu]
theorem equalIn_ifc (d : Nat) {e} (hu : P.underlying t = some (.interface e)) {a : Value} (ha : a = .nilIface ∨ ∃ t' v, a = .iface t' v) :
    (Op.equalIn (d + 1) t a .nilIface).run P w = .ok (isNilV a) w ∧ (Op.equalIn (d + 1) t .nilIface a).run P w = .ok (isNilV a) w := by
  rcases ha with rfl | ⟨t', v, rfl⟩ <;> simp [Op.equalIn, run_und hu, isNilV]
theorem equalIn_fun (d : Nat) {e1 e2 e3} (hu : P.underlying t = some (.func e1 e2 e3)) {a : Value} (ha : a = .nilFunc ∨ ∃ f x y, a = .func f x y) :
    (Op.equalIn (d + 1) t a .nilFunc).run P w = .ok (isNilV a) w ∧ (Op.equalIn (d + 1) t .nilFunc a).run P w = .ok (isNilV a) w := by
  rcases ha with rfl | ⟨t', v, x, rfl⟩ <;> simp [Op.equalIn, run_und hu, isNilV]
theorem equalIn_map (d : Nat) {e1 e2} (hu : P.underlying t = some (.map e1 e2)) (m : Option Nat) :
    (Op.equalIn (d + 1) t (.map m) (.map none)).run P w = .ok m.isNone w ∧ (Op.equalIn (d + 1) t (.map none) (.map m)).run P w = .ok m.isNone w := by
  cases m <;> simp [Op.equalIn, run_und hu]
end

theorem eq_of_equal {P : Program} {t : TypeId} {w : World} {x y : Operand} {a c : Value} {r : Bool} (hg : ∀ op, (eqGuard op t x y a c).run P w = .ok () w)
    (hb : (binOp .eql t a c) = (do pure (.bool (← Op.equal t a c)))) (hb' : (binOp .neq t a c) = (do pure (.bool (!(← Op.equal t a c))))) (h : ∀ d, (Op.equalIn (d + 1) t a c).run P w = .ok r w) :
    (do eqGuard .eql t x y a c; binOp .eql t a c : Sem Value).run P w = .ok (.bool r) w ∧ (do eqGuard .neq t x y a c; binOp .neq t a c : Sem Value).run P w = .ok (.bool !r) w := by
  have h' : (Op.equal t a c).run P w = .ok r w := h 9999
  rw [hb, hb']
  constructor <;> simp [hg, h']

theorem eqNil_run {P : Program} {t : TypeId} {a c : Value} {w : World} {x y : Operand} {k : Bool → Prop} (hc : nilFor P t c = true) (hy : isConstO y = true) (h : eqNil P t a k) :
    ∃ r, k r ∧ ((do eqGuard .eql t x y a c; binOp .eql t a c : Sem Value).run P w = .ok (.bool r) w ∧ (do eqGuard .neq t x y a c; binOp .neq t a c : Sem Value).run P w = .ok (.bool !r) w) ∧
      ((do eqGuard .eql t y x c a; binOp .eql t c a : Sem Value).run P w = .ok (.bool r) w ∧ (do eqGuard .neq t y x c a; binOp .neq t c a : Sem Value).run P w = .ok (.bool !r) w) := by
  obtain ⟨cv, rfl⟩ : ∃ cv, y = .const cv := by cases y <;> simp_all [isConstO]
  unfold nilFor at hc
  split at hc
  · rename_i e hu
    simp only [eqNil, hu] at h
    obtain ⟨p, rfl, h⟩ := wp.ex h
    exact ⟨_, h, eq_of_equal (fun op => by cases op <;> simp [eqGuard]) rfl rfl (fun d => equalIn_ptr d hu p), eq_of_equal (fun op => by cases op <;> simp [eqGuard]) rfl rfl (fun d => equalIn_ptr' d hu p)⟩
  · rename_i e n c' hu
    simp only [eqNil, hu] at h
    obtain ⟨p, m, q, rfl, h⟩ := wsl.ex h
    exact ⟨_, h, eq_of_equal (fun op => by cases op <;> simp [eqGuard]) rfl rfl (fun d => equalIn_slc d hu p _ _ _ _), eq_of_equal (fun op => by cases op <;> simp [eqGuard]) rfl rfl (fun d => equalIn_slc' d hu p _ _ _ _)⟩
  · rename_i e hu
    simp only [eqNil, hu] at h
    obtain ⟨ha, h⟩ := h
    refine ⟨_, h, eq_of_equal (fun op => ?_) ?_ ?_ (fun d => (equalIn_ifc d hu ha).1), eq_of_equal (fun op => ?_) ?_ ?_ (fun d => (equalIn_ifc d hu ha).2)⟩ <;> rcases ha with rfl | ⟨t', v, rfl⟩ <;> first | rfl | (cases op <;> simp [eqGuard])
  · rename_i hu
    simp only [eqNil, hu] at h
    obtain ⟨ha, h⟩ := h
    refine ⟨_, h, eq_of_equal (fun op => ?_) ?_ ?_ (fun d => (equalIn_fun d hu ha).1), eq_of_equal (fun op => ?_) ?_ ?_ (fun d => (equalIn_fun d hu ha).2)⟩ <;> rcases ha with rfl | ⟨f, p, q, rfl⟩ <;> first | rfl | (cases op <;> simp [eqGuard])
  · rename_i hu
    simp only [eqNil, hu] at h
    obtain ⟨⟨m, rfl⟩, h⟩ := h
    exact ⟨_, h, eq_of_equal (fun op => by cases op <;> simp [eqGuard]) rfl rfl (fun d => (equalIn_map d hu m).1), eq_of_equal (fun op => by cases op <;> simp [eqGuard]) rfl rfl (fun d => (equalIn_map d hu m).2)⟩
  · cases hc

theorem trEq_run {P : Program} {neg : Bool} {op : BinOp} {t rt : TypeId} {x y : Operand} {a b : Value} {w : World} {k : Value → World → Prop} (hop : op = match neg with | true => .neq | false => .eql)
    (h : trEq P neg op t rt x y a b w k) : ∃ v w', (do eqGuard op t x y a b; binOp op t a b : Sem Value).run P w = .ok v w' ∧ k v w' := by
  unfold trEq at h
  split at h
  · rename_i hc
    simp only [Bool.and_eq_true] at hc
    obtain ⟨r, hk, ⟨h1, h2⟩, _⟩ := eqNil_run (w := w) (x := x) hc.2 hc.1 h
    subst hop
    cases neg
    · exact ⟨_, _, h1, hk⟩
    · exact ⟨_, _, h2, hk⟩
  · split at h
    · rename_i hc
      simp only [Bool.and_eq_true] at hc
      obtain ⟨r, hk, _, ⟨h1, h2⟩⟩ := eqNil_run (w := w) (x := y) hc.2 hc.1 h
      subst hop
      cases neg
      · exact ⟨_, _, h1, hk⟩
      · exact ⟨_, _, h2, hk⟩
    · obtain ⟨w', h⟩ := h
      obtain ⟨v, h1, h2⟩ := ExV.ex h
      exact ⟨v, w', h1, h2⟩

theorem trBin_run {P : Program} {op : BinOp} {t rt : TypeId} {x y : Operand} {a b : Value} {w : World} {k : Value → World → Prop}
    (h : trBin P op t rt x y a b w k) : ∃ v w', (do eqGuard op t x y a b; binOp op t a b : Sem Value).run P w = .ok v w' ∧ k v w' := by
  unfold trBin at h
  split at h
  · rename_i ka m kb n
    simp only [Sem.run_bind, eqGuard_int, Result.andThen_ok]
    cases op <;> simp only at h
    case shl => exact ⟨_, w, by simp [binOp, Op.shift, show ¬ n < 0 by omega]; rfl, h.2⟩
    case shr => exact ⟨_, w, by simp [binOp, Op.shift, show ¬ n < 0 by omega]; rfl, h.2⟩
    all_goals
      obtain ⟨hk, h'⟩ := ck.ex h
      clear h
      have hk := of_decide_eq_true hk
      subst hk
      have h := h'
      clear h'
    case quo => exact ⟨_, w, by simp [binOp, Op.intDiv, h.1], h.2⟩
    case rem => exact ⟨_, w, by simp [binOp, Op.intDiv, h.1], h.2⟩
    case andNot => exact ⟨_, w, by simp only [binOp, ne_eq, not_true_eq_false, ↓reduceIte, Op.intBits]; rfl, h⟩
    all_goals exact ⟨_, w, by simp [binOp, Op.intArith, Op.intBits, Op.intCmp]; try rfl, h⟩
  · rename_i s u
    simp only [Sem.run_bind, eqGuard_str, Result.andThen_ok]
    cases op <;> simp only at h
    case add =>
      obtain ⟨h1, h⟩ := h
      exact ⟨_, w, by simp [binOp, Op.stringOp, IntKind.max, IntKind.signed, IntKind.bits]; omega, h⟩
    all_goals first | exact h.elim | exact ⟨_, w, by simp [binOp, Op.stringOp], h⟩
  · rename_i p q
    simp only [Sem.run_bind, eqGuard_bool, Result.andThen_ok]
    split at h
    · rename_i hu
      have he := equalIn_bool (w := w) 9999 hu p q
      exact ⟨_, w, by rw [show binOp .eql t (.bool p) (.bool q) = (do pure (.bool (← Op.equalIn (9999 + 1) t (.bool p) (.bool q)))) from rfl]; simp only [Sem.run_bind, he, Result.andThen_ok, Sem.run_pure], h⟩
    · rename_i hu
      have he := equalIn_bool (w := w) 9999 hu p q
      exact ⟨_, w, by rw [show binOp .neq t (.bool p) (.bool q) = (do pure (.bool (!(← Op.equalIn (9999 + 1) t (.bool p) (.bool q))))) from rfl]; simp only [Sem.run_bind, he, Result.andThen_ok, Sem.run_pure], h⟩
    · exact h.elim
  · split at h
    · exact trEq_run rfl h
    · exact trEq_run rfl h
    · exact h.elim

/-- A comparison with nil is told ahead of the rest (the other side may be unknown). -/
def trBinN (P : Program) (op : BinOp) (t rt : TypeId) (x y : Operand) (a b : Value) (w : World) (k : Value → World → Prop) : Prop :=
  match op with
  | .eql => match isConstO y && nilFor P t b with
    | true => eqNil P t a fun r => k (.bool r) w
    | false => trBin P .eql t rt x y a b w k
  | .neq => match isConstO y && nilFor P t b with
    | true => eqNil P t a fun r => k (.bool !r) w
    | false => trBin P .neq t rt x y a b w k
  | op => trBin P op t rt x y a b w k

theorem trBinN_run {P : Program} {op : BinOp} {t rt : TypeId} {x y : Operand} {a b : Value} {w : World} {k : Value → World → Prop}
    (h : trBinN P op t rt x y a b w k) : ∃ v w', (do eqGuard op t x y a b; binOp op t a b : Sem Value).run P w = .ok v w' ∧ k v w' := by
  unfold trBinN at h
  split at h
  · split at h
    · rename_i hc
      simp only [Bool.and_eq_true] at hc
      obtain ⟨r, hk, ⟨h1, _⟩, _⟩ := eqNil_run (w := w) (x := x) hc.2 hc.1 h
      exact ⟨_, _, h1, hk⟩
    · exact trBin_run h
  · split at h
    · rename_i hc
      simp only [Bool.and_eq_true] at hc
      obtain ⟨r, hk, ⟨_, h2⟩, _⟩ := eqNil_run (w := w) (x := x) hc.2 hc.1 h
      exact ⟨_, _, h2, hk⟩
    · exact trBin_run h
  · exact trBin_run h

end Go.VC
