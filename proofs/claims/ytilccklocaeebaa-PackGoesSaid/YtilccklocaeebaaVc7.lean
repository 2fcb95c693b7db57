/- A verification-condition generator for the model's code: a function's contract out of its verification condition. -/
import Derived.Test.YtilccklocaeebaaVc6
namespace Go.VC
open Go

/-- The loops' carried slots, by the first region of each. -/
def lk : List (Nat × List (Nat × Kd)) → Nat → List (Nat × Kd)
  | [], _ => []
  | (i, ks) :: l, j => match Nat.beq i j with
    | true => ks
    | false => lk l j

def resL : List ResultVar → Sl → Option (List Value)
  | [], _ => some []
  | .tmp t :: rs, f => match f t, resL rs f with
    | some v, some vs => some (v :: vs)
    | _, _ => none
  | .cell _ _ :: _, _ => none

def retV (rs : List ResultVar) (f : Sl) (k : Value → Prop) : Prop :=
  match rs with
  | [.tmp t] => wv (f t) k
  | rs => wvs (resL rs f) fun vs => k (.tuple ⟨vs⟩)

def entryL : List Value → Nat → Env
  | [], _ => []
  | v :: vs, i => (i, some v) :: entryL vs (i + 1)

def trF (P : Program) (G : Nat → Bool) (L : Nat → List (Nat × Kd)) (fn : Func) (args : List Value) (w : World) (R : K) : Prop :=
  match fn.body with
  | some c => ck (Nat.ble args.length fn.ntmps) (trC ⟨P, G, fn.ntmps, L⟩ c [] [] (fun dl loc w => ck (isNil dl) (retV fn.results.toList (evS loc []) fun v => R v w)) (fun _ _ _ _ => False)
      (fun ds f w => ck (isNil ds) (retV fn.results.toList f fun v => R v w)) [] (entryL args 0) w)
  | none => False

theorem entryL_find (vs : List Value) (i s : Nat) : find (entryL vs i) s = if s < i then none else (vs[s - i]?).map some := by
  induction vs generalizing i with
  | nil => simp [entryL, find]
  | cons v vs ih =>
    simp only [entryL, find]
    by_cases h : s = i
    · subst h; simp [Nat.beq_refl]
    · have hb : Nat.beq s i = false := by
        cases hh : Nat.beq s i with
        | false => rfl
        | true => exact absurd (Nat.eq_of_beq_eq_true hh) h
      rw [hb]
      simp only
      rw [ih]
      by_cases hlt : s < i
      · rw [if_pos (by omega), if_pos hlt]
      · rw [if_neg (by omega), if_neg hlt, show s - i = (s - (i + 1)) + 1 by omega, List.getElem?_cons_succ]

theorem resL_run {P : Program} {w : World} {f : Sl} {tmps : Array Value} (hf : ∀ s v, f s = some v → tmps[s]? = some v) : ∀ {rs : List ResultVar} {vs : List Value}, resL rs f = some vs →
    (rs.mapM fun | .tmp t => pure (tmps.getD t undef) | .cell a t => (do loadVar t (← asAddr (tmps.getD a undef)) : Sem Value) : Sem (List Value)).run P w = .ok vs w
  | [], vs, h => by simp [resL] at h; subst h; simp
  | .tmp t :: rs, vs, h => by
    simp only [resL] at h
    split at h
    · rename_i v vs' h1 h2
      simp only [Option.some.injEq] at h
      subst h
      have h3 : tmps.getD t undef = v := by simp [Array.getD_eq_getD_getElem?, hf _ _ h1]
      simp only [List.mapM_cons, Sem.run_bind, Sem.run_pure, Result.andThen_ok, resL_run hf h2, h3]
    · cases h
  | .cell _ _ :: _, vs, h => by simp [resL] at h


theorem resL_length : ∀ {rs : List ResultVar} {f : Sl} {vs : List Value}, resL rs f = some vs → vs.length = rs.length
  | [], f, vs, h => by simp [resL] at h; subst h; rfl
  | .tmp t :: rs, f, vs, h => by
    simp only [resL] at h
    split at h
    · rename_i v vs' h1 h2
      simp only [Option.some.injEq] at h
      subst h
      simp [resL_length h2]
    · cases h
  | .cell _ _ :: _, f, vs, h => by simp [resL] at h

theorem retV_run {P : Program} {w : World} {fn : Func} {f : Sl} {tmps : Array Value} {k : Value → Prop} (hf : ∀ s v, f s = some v → tmps[s]? = some v) (h : retV fn.results.toList f k) :
    ∃ v, (results fn tmps).run P w = .ok v w ∧ k v := by
  have key : ∀ vs, resL fn.results.toList f = some vs → (results fn tmps).run P w = .ok (if h : vs.length = 1 then vs[0] else .tuple ⟨vs⟩) w := by
    intro vs hvs
    have h1 := resL_run (P := P) (w := w) hf hvs
    unfold results
    rw [Array.mapM_eq_mapM_toList]
    simp only [Sem.run_bind, Sem.run_map]
    exact congrArg (fun r : Result (List Value) => (r.andThen fun a w' => Result.ok a.toArray w').andThen fun a w' => Sem.run P (pure (if h : a.size = 1 then a[0] else Value.tuple a)) w') h1
  unfold retV at h
  split at h
  · rename_i t hr
    obtain ⟨v, hv, h⟩ := wv.ex h
    exact ⟨v, key [v] (by rw [hr]; simp [resL, hv]), h⟩
  · rename_i hne
    obtain ⟨vs, hvs, h⟩ := wvs.ex h
    refine ⟨_, key vs hvs, ?_⟩
    have hl := resL_length hvs
    split
    · rename_i h1
      match hr : fn.results.toList with
      | [] => rw [hr] at hl; simp at hl; rw [hl] at h1; simp at h1
      | [.tmp t] => exact (hne t hr).elim
      | [.cell _ _] => rw [hr] at hvs; simp [resL] at hvs
      | _ :: _ :: _ => rw [hr] at hl; simp at hl; rw [hl] at h1; simp at h1
    · exact h

/-- A function's contract out of its verification condition. -/
theorem calls_of_tr {P : Program} {G : Nat → Bool} {L : Nat → List (Nat × Kd)} {f : FuncId} {fn : Func} {args : List Value} {w : World} {R : K} (hf : P.funcs[f]? = some fn) (hG : Enters P G) (hM : P.follows .mixedOrders = true)
    (h : trF P G L fn args w R) : Calls P f ⟨args⟩ w (Rv R) := by
  unfold trF at h
  split at h
  · rename_i c hb
    obtain ⟨hle, h⟩ := ck.ex h
    have hle := Nat.le_of_ble_eq_true hle
    refine (callsIn_wide (n := 0)).1 (callsIn_of_wp (F := Fence.wide) hf hb trivial ?_ rfl)
    refine wpIn_mono (Q := QC fn.ntmps [] [] (fun dl loc w => ck (isNil dl) (retV fn.results.toList (evS loc []) fun v => R v w)) (fun _ _ _ _ => False)
      (fun ds f w => ck (isNil ds) (retV fn.results.toList f fun v => R v w))) (trC_sound (cx := ⟨P, G, fn.ntmps, L⟩) hG hM (r := none) c [] [] _ _ _ [] (entryL args 0) w _ h ⟨?_, rfl, ?_⟩) ?_
    · simp; omega
    · intro s v hs
      simp only [evS, ev, entryL_find, Nat.not_lt_zero, if_false, Nat.sub_zero, find] at hs
      have hs' : args[s]? = some v := by
        cases ha : args[s]? with
        | none => rw [ha] at hs; simp at hs
        | some u => rw [ha] at hs; simpa using hs
      have hlt : s < args.length := (List.getElem?_eq_some_iff.1 hs').1
      have := (List.getElem?_eq_some_iff.1 hs').2
      simp [Array.getElem?_append, hlt, this]
    · intro e a w' hq
      have fin : ∀ (ds : List Nat) (fs : Sl), Ag fn.ntmps ds fs a → ck (isNil ds) (retV fn.results.toList fs fun v => R v w') → a.defers = [] ∧ ∃ v, (results fn a.tmps).run P w' = .ok v w' ∧ Rv R (.returned v) w' := by
        intro ds fs hag hk
        obtain ⟨hn, hk⟩ := ck.ex hk
        have hds : ds = [] := by cases ds <;> simp_all [isNil]
        obtain ⟨v, hr, hR⟩ := retV_run (P := P) (w := w') hag.slot hk
        exact ⟨by rw [hag.defers, hds]; rfl, v, hr, v, rfl, hR⟩
      cases e with
      | normal =>
        obtain ⟨dl, loc, hag, hk⟩ := hq
        exact fin _ _ hag (by simpa using hk)
      | exit j => obtain ⟨_, _, _, hk⟩ := hq; exact hk.elim
      | ret => obtain ⟨ds, fs, hag, hk⟩ := hq; exact fin _ _ hag hk
      | goto l => exact hq.elim
      | panic c => exact hq.elim
      | outgrown => exact hq.elim
  · exact h.elim

def enterOk (P : Program) (g : Nat) : Bool := match P.funcs[g]? with
  | some fn => fn.body.isSome && !(fn.name == "runtime.NumGoroutine")
  | none => false

/-- All functions from one to another may be called. -/
def span (a b : Nat) (g : Nat) : Bool := Nat.ble a g && Nat.ble g b
def spanOk (P : Program) : Nat → Nat → Bool
  | _, 0 => true
  | a, n + 1 => enterOk P a && spanOk P (a + 1) n

theorem enters_span {P : Program} {a n : Nat} (h : spanOk P a (n + 1) = true) : Enters P (span a (a + n)) := by
  intro g hg args w
  have key : ∀ n a, spanOk P a n = true → a ≤ g → g < a + n → enterOk P g = true := by
    intro n
    induction n with
    | zero => intro a _ h1 h2; omega
    | succ n ih =>
      intro a h h1 h2
      simp only [spanOk, Bool.and_eq_true] at h
      by_cases e : g = a
      · subst e; exact h.1
      · exact ih (a + 1) h.2 (by omega) (by omega)
  simp only [span, Bool.and_eq_true] at hg
  have h1 := Nat.le_of_ble_eq_true hg.1
  have h2 := Nat.le_of_ble_eq_true hg.2
  have hok := key (n + 1) a h h1 (by omega)
  unfold enterOk at hok
  split at hok
  · rename_i fn hfn
    simp only [Bool.and_eq_true, Bool.not_eq_true', beq_eq_false_iff_ne] at hok
    have hb : fn.body ≠ none := by cases hb : fn.body <;> simp_all
    simp [callFunc, hfn, hok.2, hb]
  · cases hok

end Go.VC
