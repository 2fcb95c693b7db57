/- A verification-condition generator for the model's code: ranges over functions; functions that hold them. -/
import Derived.Test.YtilccklocaeebaaMm
namespace Go.VC
open Go Go.RowKit

/-- The step changes private blocks alone; more blocks may be private behind it. -/
structure Gr (T T' : Nat → Prop) (w w' : World) : Prop where
  kp : Kp T w w'
  up : ∀ k, T k → T' k
  fr : ∀ k, T' k → T k ∨ w.heap.size ≤ k

/-- What is said abides what a private step changes. -/
def Stab (J : (Nat → Prop) → World → Prop) : Prop := ∀ T T' w w', J T w → Gr T T' w w' → J T' w'

/-- An iterator: called at whatever loop's yield it hands on the n elements one behind the other, until the loop has enough; it changes blocks of its own alone, and the rounds must leave these, and its data, as they are. -/
def Iter (P : Program) (g : Nat) (first cap : List Value) (w : World) (n : Nat) (xs : Nat → List Value) (Dt : Nat → Prop) : Prop :=
  ∀ (l : Nat) (J : Nat → (Nat → Prop) → World → Prop) (X : (Nat → Prop) → World → Prop) (w1 : World),
    Kp (fun _ => False) w w1 → (∀ j, Stab (J j)) → Stab X →
    (∀ j T w', j < n → J j T w' → (∀ k, T k → w1.heap.size ≤ k) →
      YieldC P l ⟨xs j⟩ w' fun v w'' => Kp (fun k => ¬ T k ∧ ¬ Dt k) w' w'' ∧ ((v = .bool true ∧ J (j + 1) T w'') ∨ (v = .bool false ∧ X T w''))) →
    J 0 (fun _ => False) w1 →
    Calls P g ⟨first ++ (.func (.yield l) #[] #[] :: cap)⟩ w1 (Rv fun _ w' => ∃ T, (∀ k, T k → w1.heap.size ≤ k) ∧ (J n T w' ∨ X T w'))

def exXs : List (Nat × Kd) → ((Nat → List Value) → Prop) → Prop
  | [], q => q (fun _ => [])
  | (_, k) :: ks, q => ∃ x : Nat → k.T, exXs ks fun f => q (fun j => k.inj (x j) :: f j)
theorem exXs.ex : ∀ {ks : List (Nat × Kd)} {q : (Nat → List Value) → Prop}, exXs ks q → ∃ f, (∀ j, (f j).length = ks.length) ∧ q f
  | [], q, h => ⟨_, fun _ => rfl, h⟩
  | (_, k) :: ks, q, h => by
    obtain ⟨x, h⟩ := h
    obtain ⟨f, hl, h⟩ := exXs.ex h
    exact ⟨_, fun j => by simp [hl j], h⟩

/-- The exits by which code may be left. -/
def exitsOf : Code → List Nat
  | .exit id => [id]
  | .seq a b | .cond _ a b => exitsOf a ++ (exitsOf b).filter (fun j => !inL (exitsOf a) j)
  | .block id c => (exitsOf c).filter (fun j => !Nat.beq j id)
  | .loop c => exitsOf c
  | _ => []

def allIds : List Nat → (Nat → Prop) → Prop
  | [], _ => True
  | [i], q => q i
  | i :: is, q => q i ∧ allIds is q
theorem allIds.out : ∀ {is : List Nat} {q : Nat → Prop}, allIds is q → ∀ i, i ∈ is → q i
  | [], q, _, i, hi => by cases hi
  | [j], q, h, i, hi => by have := List.mem_singleton.1 hi; subst this; exact h
  | j :: k :: is, q, h, i, hi => by
    rcases List.mem_cons.1 hi with e | e
    · subst e; exact h.1
    · exact allIds.out h.2 i e

def psE : Env → List Nat → List Value → Env
  | acc, p :: ps, v :: vs => psE ((p, some v) :: acc) ps vs
  | acc, _, _ => acc

def allLt (N : Nat) : List Nat → Bool
  | [] => true
  | p :: ps => Nat.blt p N && allLt N ps

def rfKey (body : Code) : Nat := 1000000 + (firstR body).getD 0

/-- One round. -/
def rfBody (cx : Cx) (base : Env) (assign body : Code) (S : Nat → Prop) (l : Nat) (J1 : World → Prop) (X : Option Nat → World → Prop) (loc0 : Env) (w1 : World) : Prop :=
  trC cx assign [] base (fun dl l2 w2 => ck (isNil dl) (Kp S w1 w2 ∧ ∀ w3, Kp (fun k => k = l) w2 w3 →
      trC cx body [] base (fun dl _ w4 => ck (isNil dl) (Kp S w3 w4 ∧ J1 w4))
        (fun id dl _ w4 => ck (isNil dl && inL (exitsOf body) id) (Kp S w3 w4 ∧ X (some id) w4))
        (fun dl _ w4 => ck (isNil dl) (Kp S w3 w4 ∧ X none w4)) [] l2 w3))
    (fun _ _ _ _ => False) (fun _ _ _ => False) [] loc0 w1

/-- A range over a function. -/
def RfC (cx : Cx) (gf : Nat) (first cap : List Value) (ps : List Nat) (assign body : Code) (base : Env) (kn : Ct) (kx : Nat → Ct) (kr : List Nat → Sl → World → Prop) (ds : List Nat) (loc : Env) (w : World) : Prop :=
  ck (allLt cx.N ps && Nat.beq ps.length (cx.L (rfKey body)).length) (∃ n : Nat, exXs (cx.L (rfKey body)) fun xs => ∃ (Dt : Nat → Prop) (J : Nat → (Nat → Prop) → World → Prop) (X : Option Nat → (Nat → Prop) → World → Prop),
    Iter cx.P gf first cap w n xs Dt ∧ (∀ k, Dt k → k < w.heap.size) ∧ (∀ j, Stab (J j)) ∧ (∀ o, Stab (X o)) ∧ J 0 (fun _ => False) w ∧
    (∀ (j : Nat) (T : Nat → Prop) (w1 : World), j < n → J j T w1 → (∀ k, T k → w.heap.size ≤ k) → T w.heap.size → T (w.heap.size + 1) →
      rfBody cx (loc ++ base) assign body (fun k => ¬ T k ∧ ¬ Dt k) (w.heap.size + 1) (J (j + 1) T) (fun o => X o T) (psE [] ps (xs j)) w1) ∧
    (∀ (T : Nat → Prop) (w2 : World), J n T w2 → (∀ k, T k → w.heap.size ≤ k) → w2.heap[w.heap.size]? = some (.deferred (some [])) → kn (w.heap.size :: ds) loc w2) ∧
    (∀ (T : Nat → Prop) (w2 : World), X none T w2 → (∀ k, T k → w.heap.size ≤ k) → w2.heap[w.heap.size]? = some (.deferred (some [])) → kr (w.heap.size :: ds) (evS loc base) w2) ∧
    allIds (exitsOf body) fun id => ∀ (T : Nat → Prop) (w2 : World), X (some id) T w2 → (∀ k, T k → w.heap.size ≤ k) → w2.heap[w.heap.size]? = some (.deferred (some [])) → kx id (w.heap.size :: ds) loc w2)

theorem Kp.putObj {S : Nat → Prop} {w w' : World} (h : Kp S w w') {l : Nat} {o o' : Obj} (hl : w'.heap[l]? = some o) (ho : o.isCells = false) (ho' : o'.isCells = false) (hS : l < w.heap.size → S l) : Kp S w (w'.putObj l o') := by
  refine ⟨h.os, h.tape, h.out, by have := h.size; simpa using this, fun a => ?_, fun k hk hn => ?_⟩
  · rw [← h.fz a]
    by_cases e : a.block = l
    · have hlt := heap_lt hl
      unfold World.frozen?
      rw [e, World.putObj_heap_same hlt, hl]
      cases o <;> cases o' <;> first | rfl | (simp [Obj.isCells] at ho ho')
    · exact World.frozen?_of_block (World.putObj_heap_other e)
  · rw [World.putObj_heap_other (fun e => hn (by subst e; exact hS hk))]
    exact h.keep k hk hn

theorem Kp.allocO {S : Nat → Prop} {w w' : World} (h : Kp S w w') {o : Obj} (ho : o.isCells = false) : Kp S w (w'.alloc o) :=
  ⟨h.os, h.tape, h.out, by have := h.size; simp; omega, fun a => by
      rw [← h.fz a]
      unfold World.frozen?
      by_cases e : a.block < w'.heap.size
      · rw [heap_alloc_old w' o e]
      · have h1 : w'.heap[a.block]? = none := Array.getElem?_eq_none (by omega)
        rw [h1]
        by_cases e2 : a.block = w'.heap.size
        · rw [e2, World.alloc_heap_new]
          cases o <;> first | rfl | (simp [Obj.isCells] at ho)
        · rw [Array.getElem?_eq_none (by simp; omega)], fun k hk hn => (heap_alloc_old w' _ (Nat.lt_of_lt_of_le hk h.size)).trans (h.keep k hk hn)⟩

section
variable {N : Nat} {base : Env}
theorem ps_slots : ∀ (ps : List Nat) (vs : List Value) (acc : Env) (tmps : Array Value), tmps.size = N → allLt N ps = true → (∀ s v, evS acc base s = some v → tmps[s]? = some v) →
    ((ps.zip vs).foldl (fun (t : Array Value) (x : Nat × Value) => t.setIfInBounds x.1 x.2) tmps).size = N ∧
    ∀ s v, evS (psE acc ps vs) base s = some v → ((ps.zip vs).foldl (fun (t : Array Value) (x : Nat × Value) => t.setIfInBounds x.1 x.2) tmps)[s]? = some v
  | [], vs, acc, tmps, hs, _, h => by cases vs <;> exact ⟨hs, h⟩
  | p :: ps, [], acc, tmps, hs, _, h => ⟨hs, h⟩
  | p :: ps, v :: vs, acc, tmps, hs, hl, h => by
    simp only [allLt, Bool.and_eq_true] at hl
    have hlt : p < N := Nat.le_of_ble_eq_true hl.1
    simp only [List.zip_cons_cons, List.foldl_cons, psE]
    refine ps_slots ps vs _ _ (by simpa using hs) hl.2 (fun s u hu => ?_)
    rw [evS_cons] at hu
    split at hu
    · rename_i e; subst e; simp only [Option.some.injEq] at hu; subst hu; simp [hs, hlt]
    · rename_i e; rw [Array.getElem?_setIfInBounds_ne (Ne.symm e)]; exact h s u hu
end

section
variable {n : Nat} {cx : Cx}

theorem rf_sound (hG : Enters cx.P cx.G) (hMx : cx.P.follows .mixedOrders = true) {g : Operand} {ps : Array Nat} {assign body : Code} {base : Env} {kn : Ct} {kx : Nat → Ct} {kr : List Nat → Sl → World → Prop} {ds : List Nat} {loc : Env} {w : World} {a : Act}
    {gf : Nat} {first cap : Array Value} (hg : a.eval g = .func (.func gf) first cap) (hgg : cx.G gf = true) (h : RfC cx gf first.toList cap.toList ps.toList assign body base kn kx kr ds loc w) (ha : Ag cx.N ds (evS loc base) a) :
    (Code.rangeFunc g ps assign body).wpIn (Wd none) n cx.P (QC cx.N [] base kn kx kr) a w := by
  obtain ⟨hck, h⟩ := ck.ex h
  simp only [Bool.and_eq_true] at hck
  obtain ⟨hps, hpl⟩ := hck
  have hpl := Nat.eq_of_beq_eq_true hpl
  obtain ⟨m, h⟩ := h
  obtain ⟨xs, hxl, Dt, J, X, hit, hDt, hJs, hXs, h0, hrd, hdone, hret, hex⟩ := exXs.ex h
  refine wpIn_rangeFunc ?_
  intro fn _
  show ∃ (l : Nat) (mk : List Deferred) (w₁ : World) (d : Deferred) (w₁' : World) (f : FuncId) (args : Array Value) (w₂ : World), (Instr.enterLoop fn a.tmps ps assign body none).run cx.P w = .ok (l, mk) w₁ ∧ _
  obtain ⟨rec, hrec⟩ : ∃ rec : LoopState → Option Code → Loop, rec = fun st pe => { state := st, pending := pe, fn, tmps := a.tmps, params := ps, assign, body, defers := w.heap.size } := ⟨_, rfl⟩
  obtain ⟨W1, hW1⟩ : ∃ W1, (w.alloc (.deferred (some []))).alloc (.loop (rec .ready none)) = W1 := ⟨_, rfl⟩
  have hL1 : W1.heap[w.heap.size + 1]? = some (.loop (rec .ready none)) := by
    rw [← hW1]; have := World.alloc_heap_new (w.alloc (.deferred (some []))) (.loop (rec .ready none)); rwa [World.size_alloc] at this
  have hK1 : W1.heap[w.heap.size]? = some (.deferred (some [])) := by
    rw [← hW1]; exact (Below.heap_alloc _ _ _ (by simp)).trans (World.alloc_heap_new w _)
  have hkp1 : Kp (fun _ => False) w W1 := by rw [← hW1]; exact ((Kp.refl _ _).allocO rfl).allocO rfl
  have hs1 : W1.heap.size = w.heap.size + 2 := by rw [← hW1]; simp
  let T0 : Nat → Prop := fun k => k = w.heap.size ∨ k = w.heap.size + 1
  refine ⟨w.heap.size + 1, [mark w.heap.size], W1, { target := .fn (.func gf) cap, args := first ++ #[.func (.yield (w.heap.size + 1)) #[] #[]] }, W1, gf,
    ⟨first.toList ++ (.func (.yield (w.heap.size + 1)) #[] #[] :: cap.toList)⟩, W1, ?_, ?_, fun _ _ => trivial, ?_, fun hd => by simp [Wd, Fence.wide] at hd, ?_⟩
  · rw [← hW1, hrec]; exact run_enterLoop_outer _ _ _ _ _
  · simp only [resolve, hg]
    simp [Deferred.ofValue, Act.eval]
  · have he : first ++ #[Value.func (.yield (w.heap.size + 1)) #[] #[]] ++ cap = ⟨first.toList ++ (.func (.yield (w.heap.size + 1)) #[] #[] :: cap.toList)⟩ := by apply Array.ext'; simp
    simp only [invoke, hG _ hgg, he]
  · refine callsIn_Wd ?_
    -- the rounds
    have hit' := hit (w.heap.size + 1)
      (fun j T W => J j (fun k => T k ∨ T0 k) W ∧ W.heap[w.heap.size + 1]? = some (.loop (rec .ready none)) ∧ W.heap[w.heap.size]? = some (.deferred (some [])) ∧ ∀ k, T k → ¬ T0 k)
      (fun T W => (∃ o c, X o (fun k => T k ∨ T0 k) W ∧ (match o with | none => c = Code.ret | some id => c = Code.exit id ∧ inL (exitsOf body) id = true) ∧ W.heap[w.heap.size + 1]? = some (.loop (rec .done (some c)))) ∧ W.heap[w.heap.size]? = some (.deferred (some [])) ∧ ∀ k, T k → ¬ T0 k)
      W1 hkp1 ?_ ?_ ?_ ?_
    · refine hit'.mono ?_
      rintro e W2 ⟨v, rfl, T, hT, h2⟩
      have fin : ∀ (st : LoopState) (jump : Option Code) (Y : (Nat → Prop) → World → Prop), Stab Y → st ≠ .busy → Y (fun k => T k ∨ T0 k) W2 → W2.heap[w.heap.size + 1]? = some (.loop (rec st jump)) → W2.heap[w.heap.size]? = some (.deferred (some [])) →
          ∃ W3, (Instr.endLoop (w.heap.size + 1)).run cx.P W2 = .ok jump W3 ∧ Y (fun k => T k ∨ T0 k) W3 ∧ W3.heap[w.heap.size]? = some (.deferred (some [])) := by
        intro st jump Y hY hst hy hl hd
        refine ⟨_, by have := run_endLoop (P := cx.P) hl (by rw [hrec]; simpa using hst); rw [hrec] at this; exact this, ?_, ?_⟩
        · exact hY _ _ _ _ hy ⟨(Kp.refl _ _).putObj hl rfl rfl (fun _ => .inr (.inr rfl)), fun _ h => h, fun _ h => .inl h⟩
        · exact (World.putObj_heap_other (by omega)).trans hd
      have hT2 : ∀ k, (T k ∨ T0 k) → w.heap.size ≤ k := by
        rintro k (hk | hk)
        · have := hT k hk; omega
        · rcases hk with rfl | rfl <;> omega
      have hag : Ag cx.N (w.heap.size :: ds) (evS loc base) { a with defers := [mark w.heap.size] ++ a.defers } := ⟨ha.size, by simp [ha.defers], ha.slot⟩
      rcases h2 with ⟨hj, hl, hd, _⟩ | ⟨⟨o, c, hx, hc, hl⟩, hd, _⟩
      · obtain ⟨W3, hr3, hj3, hd3⟩ := fin .ready none (J m) (hJs m) (by simp) hj hl hd
        exact ⟨none, W3, hr3, _, loc, by simpa using hag, hdone _ _ hj3 hT2 hd3⟩
      · obtain ⟨W3, hr3, hj3, hd3⟩ := fin .done (some c) (X o) (hXs o) (by simp) hx hl hd
        refine ⟨some c, W3, hr3, ?_⟩
        cases o with
        | none =>
          simp only at hc
          subst hc
          exact wpIn_ret ⟨_, _, hag, hret _ _ hj3 hT2 hd3⟩
        | some id =>
          simp only at hc
          obtain ⟨rfl, hid⟩ := hc
          exact wpIn_exit ⟨_, loc, by simpa using hag, (hex.out id (inL_iff.1 hid)) _ _ hj3 hT2 hd3⟩
    · rintro j T T' A B ⟨hj, hl, hd, hn⟩ hg'
      have n1 : ∀ k, T0 k → ¬ T k := fun k h1 h2 => hn k h2 h1
      refine ⟨hJs j _ _ _ _ hj ⟨hg'.kp.mono (fun _ _ h => .inl h), ?_, ?_⟩, (hg'.kp.keep _ (heap_lt hl) (n1 _ (.inr rfl))).trans hl, (hg'.kp.keep _ (heap_lt hd) (n1 _ (.inl rfl))).trans hd, fun k hk h0 => ?_⟩
      · rintro k (h1 | h1)
        · exact .inl (hg'.up k h1)
        · exact .inr h1
      · rintro k (h1 | h1)
        · rcases hg'.fr k h1 with h2 | h2
          · exact .inl (.inl h2)
          · exact .inr h2
        · exact .inl (.inr h1)
      · rcases hg'.fr k hk with h2 | h2
        · exact hn k h2 h0
        · have := heap_lt hl; rcases h0 with rfl | rfl <;> omega
    · rintro T T' A B ⟨⟨o, c, hj, hc, hl⟩, hd, hn⟩ hg'
      have n1 : ∀ k, T0 k → ¬ T k := fun k h1 h2 => hn k h2 h1
      refine ⟨⟨o, c, hXs o _ _ _ _ hj ⟨hg'.kp.mono (fun _ _ h => .inl h), ?_, ?_⟩, hc, (hg'.kp.keep _ (heap_lt hl) (n1 _ (.inr rfl))).trans hl⟩, (hg'.kp.keep _ (heap_lt hd) (n1 _ (.inl rfl))).trans hd, fun k hk h0 => ?_⟩
      · rintro k (h1 | h1)
        · exact .inl (hg'.up k h1)
        · exact .inr h1
      · rintro k (h1 | h1)
        · rcases hg'.fr k h1 with h2 | h2
          · exact .inl (.inl h2)
          · exact .inr h2
        · exact .inl (.inr h1)
      · rcases hg'.fr k hk with h2 | h2
        · exact hn k h2 h0
        · have := heap_lt hl; rcases h0 with rfl | rfl <;> omega
    · rintro j T W hjm ⟨hj, hl, hd, hn⟩ hT
      have hlt := heap_lt hl
      have hy := run_yield (P := cx.P) (args := ⟨xs j⟩) hl (by rw [hrec]; simp only [List.size_toArray]; rw [hxl j, ← hpl]; simp)
      rw [hrec] at hy
      refine ⟨fn, _, assign, body, hy, ?_⟩
      have hb := hrd j _ W hjm hj (by
        rintro k (hk | hk)
        · have := hT k hk; omega
        · rcases hk with rfl | rfl <;> omega) (.inr (.inl rfl)) (.inr (.inr rfl))
      have hzip : (ps.zip (⟨xs j⟩ : Array Value)).foldl (fun (t : Array Value) (x : Nat × Value) => t.setIfInBounds x.1 x.2) a.tmps = (ps.toList.zip (xs j)).foldl (fun (t : Array Value) (x : Nat × Value) => t.setIfInBounds x.1 x.2) a.tmps := by
        rw [← Array.foldl_toList]
        simp
      obtain ⟨hz1, hz2⟩ := ps_slots (N := cx.N) (base := loc ++ base) ps.toList (xs j) [] a.tmps ha.size hps (fun s v hs => by
        rw [evS_assoc] at hs; exact ha.slot s v (by simpa using hs))
      have hag0 : Ag cx.N [] (evS (psE [] ps.toList (xs j)) (loc ++ base)) { tmps := (ps.zip (⟨xs j⟩ : Array Value)).foldl (fun (t : Array Value) (x : Nat × Value) => t.setIfInBounds x.1 x.2) a.tmps, defers := [] } :=
        ⟨by rw [hzip]; exact hz1, rfl, by rw [hzip]; exact hz2⟩
      refine roundIn_of_wpIn (F := Fence.wide) (n := 0) trivial (wpIn_mono (trC_sound (cx := cx) (n := 0) hG hMx (r := some (w.heap.size + 1)) assign [] (loc ++ base) _ _ _ [] _ W _ hb hag0) ?_)
      rintro e a1 Wa hq
      cases e with
      | normal =>
        obtain ⟨dl, l2, hag1, hk⟩ := hq
        obtain ⟨hn2, hk'⟩ := ck.ex hk
        clear hk
        obtain ⟨hkp, hk⟩ := hk'
        have hdl : dl = [] := by cases dl <;> simp_all [isNil]
        subst hdl
        have nS : ∀ k, T0 k → ¬ (¬ (T k ∨ T0 k) ∧ ¬ Dt k) := fun k h1 h2 => h2.1 (.inr h1)
        have hla := (hkp.keep _ hlt (nS _ (.inr rfl))).trans hl
        have hda := (hkp.keep _ (heap_lt hd) (nS _ (.inl rfl))).trans hd
        refine ⟨_, run_beginRound hla (by rw [hrec]), ?_⟩
        have hlb : (Wa.putObj (w.heap.size + 1) (.loop { rec .ready none with state := .busy })).heap[w.heap.size + 1]? = some (.loop { rec .ready none with state := .busy }) := World.putObj_heap_same (heap_lt hla)
        have hdb : (Wa.putObj (w.heap.size + 1) (.loop { rec .ready none with state := .busy })).heap[w.heap.size]? = some (.deferred (some [])) := (World.putObj_heap_other (by omega)).trans hda
        have hkb : Kp (fun k => k = w.heap.size + 1) Wa (Wa.putObj (w.heap.size + 1) (.loop { rec .ready none with state := .busy })) := (Kp.refl _ _).putObj hla rfl rfl (fun _ => rfl)
        have hbody := hk _ hkb
        generalize Wa.putObj (w.heap.size + 1) (.loop { rec .ready none with state := .busy }) = Wb at *
        refine wpIn_mono (trC_sound (cx := cx) (n := 0) hG hMx (r := some (w.heap.size + 1)) body [] (loc ++ base) _ _ _ [] _ Wb _ hbody hag1) ?_
        have fin : ∀ (jump : Option Code) (W3 : World), Kp (fun k => ¬ (T k ∨ T0 k) ∧ ¬ Dt k) Wb W3 →
            ∃ W4, (Instr.endRound (w.heap.size + 1) jump).run cx.P W3 = .ok (.bool jump.isNone) W4 ∧ W4.heap[w.heap.size + 1]? = some (.loop (rec (if jump.isNone then .ready else .done) jump)) ∧
              W4.heap[w.heap.size]? = some (.deferred (some [])) ∧ Kp (fun k => ¬ T k ∧ ¬ Dt k) W W4 ∧ Gr (fun k => T k ∨ T0 k) (fun k => T k ∨ T0 k) W3 W4 := by
          intro jump W3 hk3
          have hl3 := (hk3.keep _ (heap_lt hlb) (nS _ (.inr rfl))).trans hlb
          have hd3 := (hk3.keep _ (heap_lt hdb) (nS _ (.inl rfl))).trans hdb
          have hr := run_endRound (P := cx.P) jump hl3
          have hDl : ∀ k, T0 k → ¬ Dt k := fun k h1 h2 => by have := hDt k h2; rcases h1 with rfl | rfl <;> omega
          have hTl : ∀ k, T0 k → ¬ T k := fun k h1 h2 => hn k h2 h1
          refine ⟨_, hr, ?_, (World.putObj_heap_other (by omega)).trans hd3, ?_, ⟨(Kp.refl _ _).putObj hl3 rfl rfl (fun _ => .inr (.inr rfl)), fun _ h => h, fun _ h => .inl h⟩⟩
          · have := World.putObj_heap_same (w := W3) (o := .loop (rec (if jump.isNone then .ready else .done) jump)) (heap_lt hl3)
            rw [hrec] at this ⊢
            exact this
          · refine Kp.putObj ?_ hl3 rfl rfl (fun _ => ⟨hTl _ (.inr rfl), hDl _ (.inr rfl)⟩)
            have ha1 : Kp (fun k => ¬ T k ∧ ¬ Dt k) W Wa := hkp.mono (fun k _ h => ⟨fun q => h.1 (.inl q), h.2⟩)
            have ha2 : Kp (fun k => ¬ T k ∧ ¬ Dt k) W Wb := ha1.trans hkb (fun k _ h => by subst h; exact ⟨hTl _ (.inr rfl), hDl _ (.inr rfl)⟩)
            exact ha2.trans hk3 (fun k _ h => ⟨fun q => h.1 (.inl q), h.2⟩)
        rintro e2 a2 W3 hq2
        cases e2 with
        | normal =>
          obtain ⟨dl, l4, _, hk2⟩ := hq2
          obtain ⟨_, hk3, hj3⟩ := ck.ex hk2
          obtain ⟨W4, hr4, hl4, hd4, hkp4, hg4⟩ := fin none W3 hk3
          exact ⟨_, W4, hr4, _, rfl, hkp4, .inl ⟨rfl, hJs _ _ _ _ _ hj3 hg4, hl4, hd4, hn⟩⟩
        | exit id =>
          obtain ⟨dl, l4, _, hk2⟩ := hq2
          obtain ⟨hck2, hk3, hx3⟩ := ck.ex hk2
          simp only [Bool.and_eq_true] at hck2
          obtain ⟨W4, hr4, hl4, hd4, hkp4, hg4⟩ := fin (some (.exit id)) W3 hk3
          exact ⟨_, W4, hr4, _, rfl, hkp4, .inr ⟨rfl, ⟨some id, _, hXs _ _ _ _ _ hx3 hg4, ⟨rfl, hck2.2⟩, hl4⟩, hd4, hn⟩⟩
        | ret =>
          obtain ⟨dl, f, _, hk2⟩ := hq2
          obtain ⟨_, hk3, hx3⟩ := ck.ex hk2
          obtain ⟨W4, hr4, hl4, hd4, hkp4, hg4⟩ := fin (some .ret) W3 hk3
          exact ⟨_, W4, hr4, _, rfl, hkp4, .inr ⟨rfl, ⟨none, _, hXs _ _ _ _ _ hx3 hg4, rfl, hl4⟩, hd4, hn⟩⟩
        | goto t => exact hq2.elim
        | panic ch => exact hq2.elim
        | outgrown => exact hq2.elim
      | exit id => obtain ⟨_, _, _, hk⟩ := hq; exact hk.elim
      | ret => obtain ⟨_, _, _, hk⟩ := hq; exact hk.elim
      | goto t => exact hq.elim
      | panic ch => exact hq.elim
      | outgrown => exact hq.elim
    · refine ⟨hJs 0 _ _ _ _ h0 ⟨hkp1, fun _ h => h.elim, ?_⟩, hL1, hK1, fun _ h => h.elim⟩
      rintro k (h | h)
      · exact h.elim
      · rcases h with rfl | rfl
        · exact .inr (Nat.le_refl _)
        · exact .inr (Nat.le_succ _)
end
end Go.VC
