/- A verification-condition generator for the model's code: regions that draw their order: the condition is enough. -/
import Derived.Test.YtilccklocaeebaaVc5e
namespace Go.VC
open Go

/-- The fence that asks nothing, in a round or not. -/
def Wd (r : Option Nat) : Fence := { Fence.wide with round := r }

def mark (D : Nat) : Deferred := { target := .collected D, args := #[] }

section
variable {n : Nat} {P : Program} {Q : Exit → Act → World → Prop}

theorem callsIn_Wd {r : Option Nat} {f : FuncId} {args : Array Value} {w : World} {R : Ending → World → Prop} (h : Calls P f args w R) : CallsIn (Wd r) n P f args w R :=
  (callsIn_wide (n := n)).2 h

theorem roundIn_Wd {r : Option Nat} {l : Nat} {f : FuncId} {tmps : Array Value} {assign body : Code} {w : World} {R : Ending → World → Prop} (h : RoundIn Fence.wide 0 P l f tmps assign body w R) : RoundIn (Wd r) n P l f tmps assign body w R :=
  ⟨trivial, fun c cs _ => h.2 c cs (room_wide _)⟩

theorem wpIn_of_post {r : Option Nat} {o : Oper} {a : Act} {w : World} {next : Act → World → Prop} {k : K} (hnd : ∀ c, o.op ≠ .defer c) (h : Post P k ((execOp a.eval o).run P w))
    (hk : ∀ v w', k v w' → next (a.put o.dst v) w') : o.wpIn (Wd r) n P a w next Q := by
  refine ⟨fun _ _ => trivial, ?_⟩
  rw [Oper.semAt_eq _ _ _ hnd]
  revert h
  generalize (execOp a.eval o).run P w = res
  intro h
  cases h with
  | value h => exact hk _ _ h
  | skip h => exact hk _ _ h
  | enter h =>
    refine ⟨fun hd => by simp [Wd, Fence.wide] at hd, (callsIn_Wd (h.mono ?_))⟩
    rintro e w' ⟨v, rfl, h⟩
    exact hk _ _ h
  | round h =>
    refine ⟨fun hd => by simp [Wd, Fence.wide] at hd, (roundIn_Wd (h.mono ?_))⟩
    rintro e w' ⟨v, rfl, h⟩
    exact hk _ _ h

theorem trOp_nd {P : Program} {G : Nat → Bool} {e : Eval} {o : Oper} {w : World} {k : K} (h : trOp P G e o w k) : ∀ c, o.op ≠ .defer c := by
  intro c hc
  simp only [trOp, hc] at h
theorem floO_nd {o : Oper} (h : floO P o = true) : ∀ c, o.op ≠ .defer c := by
  intro c hc
  simp [floO, hc] at h

end

/-- What is known of values grows. -/
def Le (v v' : Env) : Prop := ∀ j u, find v j = some (some u) → find v' j = some (some u)
theorem Le.refl (v : Env) : Le v v := fun _ _ h => h
theorem Le.trans {a b c : Env} (h : Le a b) (k : Le b c) : Le a c := fun j u hj => k j u (h j u hj)
theorem find_cons_self (i : Nat) (v : Option Value) (e : Env) : find ((i, v) :: e) i = some v := by simp [find, Nat.beq_refl]
theorem find_cons_ne {i j : Nat} (h : j ≠ i) (v : Option Value) (e : Env) : find ((i, v) :: e) j = find e j := by simp only [find]; rw [nbeq.2 h]

/-- What a guard says: run (true), pass over (false). -/
def gst (vals : Env) (o : Oper) : Option Bool := match o.guard with
  | none => some true
  | some (j, pos) => match find vals j with
    | some (some (.bool b)) => some (b == pos)
    | some (some (.tuple _)) => some false
    | _ => none

theorem gst_mono {v v' : Env} (h : Le v v') {o : Oper} {b : Bool} (hg : gst v o = some b) : gst v' o = some b := by
  unfold gst at hg ⊢
  split at hg
  · exact hg
  · rename_i j pos hj
    split at hg
    · rename_i t ht; simp only [h _ _ ht]; exact hg
    · rename_i t ht; simp only [h _ _ ht]; exact hg
    · cases hg

theorem trG_out {ops : List Oper} {b : Nat} {vals : Env} {o : Oper} {run skip : Env → Prop} (h : trG ops b vals o run skip) :
    ∃ vals' t, Le vals vals' ∧ (∀ j, find vals' j ≠ none → find vals j ≠ none) ∧ gst vals' o = some t ∧ (match t with | true => run vals' | false => skip vals') ∧
      (∀ j pos, o.guard = some (j, pos) → ebit b j = true ∧ (slotOf ops j).isSome = true) := by
  unfold trG at h
  split at h
  · rename_i hg
    exact ⟨vals, true, Le.refl _, fun _ h => h, by simp [gst, hg], h, fun j pos h' => by rw [hg] at h'; cases h'⟩
  · rename_i j pos hg
    obtain ⟨hb, h⟩ := ck.ex h
    obtain ⟨s, hs, h⟩ := wvs.ex h
    obtain ⟨g, hgv, h⟩ := wv.ex h
    have hfj : find vals j = some (some g) := by
      cases hf : find vals j with
      | none => rw [hf] at hgv; cases hgv
      | some x => rw [hf] at hgv; simp at hgv; rw [hgv]
    have hgd : ∀ j' pos', o.guard = some (j', pos') → ebit b j' = true ∧ (slotOf ops j').isSome = true := by
      intro j' pos' h'
      rw [hg] at h'
      simp only [Option.some.injEq, Prod.mk.injEq] at h'
      obtain ⟨rfl, _⟩ := h'
      exact ⟨hb, by simp [hs]⟩
    have le : ∀ x, g = x → Le vals ((j, some x) :: vals) := fun x hx k u hk => by
      by_cases e : k = j
      · subst e; rw [hfj] at hk; simp only [Option.some.injEq] at hk; subst hk; subst hx; exact find_cons_self _ _ _
      · rw [find_cons_ne e]; exact hk
    have nn : ∀ x, ∀ k, find ((j, some x) :: vals) k ≠ none → find vals k ≠ none := fun x k hk => by
      by_cases e : k = j
      · subst e; rw [hfj]; simp
      · rwa [find_cons_ne e] at hk
    cases g <;> try exact h.elim
    case tuple vs => exact ⟨vals, false, Le.refl _, fun _ h => h, by simp [gst, hg, hfj], h, hgd⟩
    rename_i t
    simp only [grd] at h
    cases pos <;> cases t
    · exact ⟨_, true, le _ rfl, nn _, by simp [gst, hg, find_cons_self], h, hgd⟩
    · exact ⟨_, false, le _ rfl, nn _, by simp [gst, hg, find_cons_self], h, hgd⟩
    · exact ⟨_, false, le _ rfl, nn _, by simp [gst, hg, find_cons_self], h, hgd⟩
    · exact ⟨_, true, le _ rfl, nn _, by simp [gst, hg, find_cons_self], h, hgd⟩

theorem evD_mono {ops : List Oper} {bms : List Nat} {old : Eval} {v v' : Env} (h : Le v v') {i : Nat} {x : Operand} {u : Value} (hx : evD ops bms old v i x = some u) : evD ops bms old v' i x = some u := by
  unfold evD at hx ⊢
  split at hx
  · rename_i s
    cases hw : wrF ops 0 s with
    | none => rw [hw] at hx; simpa using hx
    | some j =>
      rw [hw] at hx
      simp only at hx ⊢
      cases hb : ebit (bm bms i) j with
      | true =>
        rw [hb] at hx
        simp only at hx ⊢
        have : find v j = some (some u) := by
          cases hf : find v j with
          | none => rw [hf] at hx; cases hx
          | some y => rw [hf] at hx; simp at hx; rw [hx]
        rw [h _ _ this]; rfl
      | false => rw [hb] at hx; exact hx
  · exact hx

theorem load_same {P : Program} {t : TypeId} {ad : Addr} {v : Value} {w w' : World} {q : Prop} (h : (loadVar t ad).run P w = .ok v w) (hs : stab1 P t w' ad v q) : (loadVar t ad).run P w' = .ok v w' ∧ q := by
  have hag : ∀ w1, (isAgg t).run P w1 = .ok (isAggT P t) w1 := by
    intro w1
    unfold isAgg isAggT
    cases hu : P.underlying t with
    | none => simp [loadVar, isAgg, underlying, hu] at h
    | some d => simp only [Sem.run_bind, run_und hu, Result.andThen_ok]; cases d <;> simp
  unfold stab1 at hs
  cases ha : isAggT P t with
  | true =>
    rw [ha] at hs
    simp only at hs
    cases v <;> try exact hs.elim
    rename_i cs
    simp only at hs
    obtain ⟨hc, hq⟩ := ldC.out hs
    refine ⟨?_, hq⟩
    have hsz : ∃ m, ∀ w1, (sizeOf t).run P w1 = .ok m w1 := by
      cases hi : P.info? t with
      | none => simp [loadVar, hag, ha, sizeOf, typeInfo, hi] at h
      | some i => exact ⟨i.size, fun w1 => by simp [sizeOf, typeInfo, hi]⟩
    obtain ⟨m, hm⟩ := hsz
    have hlen : cs.toList.length = m := by
      have h' : (loadCells ad m).run P w = .ok cs w := by
        simp only [loadVar, Sem.run_bind, hag, ha, Result.andThen_ok, if_true, hm] at h
        cases hl : (loadCells ad m).run P w with
        | halt x y => rw [hl] at h; cases h
        | ok a w1 => rw [hl] at h; simp only [Result.andThen_ok, Sem.run_pure, Result.ok.injEq, Value.agg.injEq] at h; obtain ⟨rfl, rfl⟩ := h; rfl
      have key : ∀ (k i : Nat) (acc : Array Value) (w1 w2 : World) (out : Array Value), (loadCellsFrom ad i k acc).run P w1 = .ok out w2 → out.size = acc.size + k := by
        intro k
        induction k with
        | zero => intro i acc w1 w2 out h; simp [loadCellsFrom] at h; rw [← h.1]; rfl
        | succ k ih =>
          intro i acc w1 w2 out h
          simp only [loadCellsFrom, Sem.run_bind] at h
          cases hl : (load (ad.add i)).run P w1 with
          | halt x y => rw [hl] at h; cases h
          | ok v w3 => rw [hl] at h; simp only [Result.andThen_ok] at h; have := ih _ _ _ _ _ h; simp at this; omega
      have := key m 0 #[] w w cs h'
      simpa using this
    have hl2 := loadCellsFrom_run (P := P) (w := w') ad cs.toList 0 #[] (fun j v hv => by simpa using hc j v hv)
    simp only [List.nil_append, hlen] at hl2
    simp only [loadVar, Sem.run_bind, hag, ha, Result.andThen_ok, if_true, hm, loadCells]
    rw [hl2]
    rfl
  | false =>
    rw [ha] at hs
    obtain ⟨hc, hq⟩ := hs
    exact ⟨by simp [loadVar, hag, ha, hc], hq⟩


/-- An operation that the condition has taken: passed over, or with its value. -/
def Rdy (P : Program) (ops : List Oper) (bms : List Nat) (old : Eval) (vals : Env) (i : Nat) (o : Oper) (w : World) : Prop :=
  (gst vals o = some false ∧ find vals i = some (some undef)) ∨
  (gst vals o = some true ∧ ∃ v, find vals i = some (some v) ∧ ∀ ρ : Operand → Value, (∀ x u, evD ops bms old vals i x = some u → ρ x = u) →
    (execOp ρ o).run P w = .ok (.value v) w ∧ (isLoad o = false → ∀ w2, (execOp ρ o).run P w2 = .ok (.value v) w2))

theorem Rdy.mono {P : Program} {ops : List Oper} {bms : List Nat} {old : Eval} {v v' : Env} {i : Nat} {o : Oper} {w : World} (hl : Le v v') (h : Rdy P ops bms old v i o w) : Rdy P ops bms old v' i o w := by
  rcases h with ⟨h1, h2⟩ | ⟨h1, u, h2, h3⟩
  · exact .inl ⟨gst_mono hl h1, hl _ _ h2⟩
  · exact .inr ⟨gst_mono hl h1, u, hl _ _ h2, fun ρ hρ => h3 ρ fun x y hx => hρ x y (evD_mono hl hx)⟩

theorem ready1_iff {D : Nat} {es : List Edge} : ready1 D es = true ↔ ∀ e ∈ es, ebit D e.on = true := by
  induction es with
  | nil => simp [ready1]
  | cons e es ih => simp [ready1, ih]

theorem nextF_some {P : Program} {os : List Oper} {i0 D i : Nat} {o : Oper} (h : nextF P os i0 D = some (i, o)) : ∃ k, i = i0 + k ∧ os[k]? = some o ∧ ebit D i = false ∧ ready1 D (aft o) = true ∧ floO P o = true := by
  induction os generalizing i0 with
  | nil => simp [nextF] at h
  | cons o' os ih =>
    simp only [nextF] at h
    split at h
    · rename_i hc
      simp only [Option.some.injEq, Prod.mk.injEq] at h
      obtain ⟨rfl, rfl⟩ := h
      simp only [Bool.and_eq_true, Bool.not_eq_true'] at hc
      exact ⟨0, rfl, rfl, hc.1, hc.2.1, hc.2.2⟩
    · obtain ⟨k, h1, h2, h3⟩ := ih h
      exact ⟨k + 1, by omega, h2, h3⟩

theorem nextF_none {P : Program} {os : List Oper} {i0 D : Nat} (h : nextF P os i0 D = none) {k : Nat} {o : Oper} (ho : os[k]? = some o) (hd : ebit D (i0 + k) = false) (hr : ready1 D (aft o) = true) : floO P o = false := by
  induction os generalizing i0 k with
  | nil => simp at ho
  | cons o' os ih =>
    simp only [nextF] at h
    split at h
    · cases h
    · rename_i hc
      cases k with
      | zero =>
        simp at ho; subst ho
        simp only [Nat.add_zero] at hd
        cases hf : floO P o' with
        | false => rfl
        | true => simp [hd, hr, hf] at hc
      | succ k => exact ih h (by simpa using ho) (by rwa [show i0 + 1 + k = i0 + (k + 1) by omega])

theorem readyS_mem {os : List Oper} {i0 D k : Nat} {o : Oper} (ho : os[k]? = some o) (hd : ebit D (i0 + k) = false) (hr : ready1 D (aft o) = true) : (i0 + k, o) ∈ readyS os i0 D := by
  induction os generalizing i0 k with
  | nil => simp at ho
  | cons o' os ih =>
    simp only [readyS]
    cases k with
    | zero =>
      simp at ho; subst ho
      simp only [Nat.add_zero] at hd
      simp [hd, hr]
    | succ k =>
      have := ih (i0 := i0 + 1) (k := k) (by simpa using ho) (by rwa [show i0 + 1 + k = i0 + (k + 1) by omega])
      rw [show i0 + (k + 1) = i0 + 1 + k by omega]
      split
      · exact List.mem_cons_of_mem _ this
      · exact this

theorem andS_mem {l : List (Nat × Oper)} {f : Nat → Oper → Prop} (h : andS l f) {i : Nat} {o : Oper} (hm : (i, o) ∈ l) : f i o := by
  induction l with
  | nil => cases hm
  | cons x l ih =>
    obtain ⟨j, p⟩ := x
    cases l with
    | nil =>
      simp only [List.mem_singleton, Prod.mk.injEq] at hm
      obtain ⟨rfl, rfl⟩ := hm
      exact h
    | cons y l =>
      simp only [andS] at h
      rcases List.mem_cons.1 hm with hm | hm
      · simp only [Prod.mk.injEq] at hm; obtain ⟨rfl, rfl⟩ := hm; exact h.1
      · exact ih h.2 hm

theorem allD_of {os : List Oper} {i0 D : Nat} (h : ∀ k, k < os.length → ebit D (i0 + k) = true) : allD os i0 D = true := by
  induction os generalizing i0 with
  | nil => rfl
  | cons o os ih =>
    simp only [allD, Bool.and_eq_true]
    refine ⟨by simpa using h 0 (by simp), ih fun k hk => ?_⟩
    have := h (k + 1) (by simp; omega)
    rwa [show i0 + 1 + k = i0 + (k + 1) by omega]

theorem mem_dropB {b i : Nat} {l : List Nat} (h : i ∈ l) (hb : ebit b i = false) : i ∈ dropB b l := by
  induction l with
  | nil => cases h
  | cons j l ih =>
    simp only [dropB]
    rcases List.mem_cons.1 h with rfl | h
    · rw [hb]; exact List.mem_cons_self
    · split
      · exact ih h
      · exact List.mem_cons_of_mem _ (ih h)

theorem stab_out {P : Program} {ops : List Oper} {bms : List Nat} {old : Eval} {vals : Env} {w' : World} : ∀ {l : List Nat} {q : Prop}, stab P ops bms old vals w' l q →
    q ∧ ∀ i ∈ l, ∃ o t a ad v, ops[i]? = some o ∧ o.op = .load t a ∧ evD ops bms old vals i a = some (.pointer (some ad)) ∧ find vals i = some (some v) ∧ stab1 P t w' ad v True
  | [], q, h => ⟨h, fun i hi => by cases hi⟩
  | j :: l, q, h => by
    simp only [stab] at h
    obtain ⟨o, ho, h⟩ := wvs.ex h
    split at h
    · rename_i t a hop
      obtain ⟨p, hp, h⟩ := wv.ex h
      obtain ⟨pp, rfl, h⟩ := wp.ex h
      obtain ⟨ad, rfl, h⟩ := wa.ex h
      obtain ⟨v, hv, h⟩ := wv.ex h
      have hf : find vals j = some (some v) := by
        cases hf : find vals j with
        | none => rw [hf] at hv; cases hv
        | some y => rw [hf] at hv; simp at hv; rw [hv]
      have hsplit : stab1 P t w' ad v True ∧ stab P ops bms old vals w' l q := by
        have key : ∀ (vs : List Value) (i : Nat) (q : Prop), ldC w' ad vs i q → ldC w' ad vs i True ∧ q := by
          intro vs
          induction vs with
          | nil => intro i q h; exact ⟨trivial, h⟩
          | cons v vs ih => intro i q h; exact ⟨⟨h.1, (ih _ _ h.2).1⟩, (ih _ _ h.2).2⟩
        unfold stab1 at h ⊢
        cases hagt : isAggT P t with
        | true =>
          rw [hagt] at h
          simp only at h ⊢
          cases v <;> first | exact h.elim | exact key _ _ _ h
        | false => rw [hagt] at h; exact ⟨⟨h.1, trivial⟩, h.2⟩
      obtain ⟨hq, hall⟩ := stab_out hsplit.2
      refine ⟨hq, fun i hi => ?_⟩
      rcases List.mem_cons.1 hi with rfl | hi
      · exact ⟨o, t, a, ad, v, ho, hop, hp, hf, hsplit.1⟩
      · exact hall i hi
    · exact h.elim

/-- The state of the walk through such a region: what the machine has done (M), what the condition has taken (D). -/
structure Sim (P : Program) (ops : List Oper) (bms : List Nat) (N : Nat) (ds : List Nat) (old : Eval) (M : Nat → Prop) (D : Nat) (vals : Env) (pend : List Nat) (w : World) (a : Act) : Prop where
  sub : ∀ i, M i → ebit D i = true
  dom : ∀ i, ebit D i = false → find vals i = none
  val : ∀ i, i < ops.length → ebit D i = true → ∃ v, find vals i = some (some v)
  clo : ∀ j, M j → ∀ k, ebit (bm bms j) k = true → M k
  rdy : ∀ i o, ebit D i = true → ¬ M i → ops[i]? = some o → floO P o = true ∧ Rdy P ops bms old vals i o w ∧ (isLoad o = true → gst vals o = some true → i ∈ pend) ∧ (∀ j pos, o.guard = some (j, pos) → ebit (bm bms i) j = true ∧ (slotOf ops j).isSome = true)
  size : a.tmps.size = N
  defers : a.defers = ds.map mark
  s0 : ∀ s v, wrF ops 0 s = none → old (.tmp s) = some v → a.tmps[s]? = some v
  s1 : ∀ s j v, wrF ops 0 s = some j → M j → find vals j = some (some v) → a.tmps[s]? = some v
  s2 : ∀ s j v, wrF ops 0 s = some j → ¬ M j → old (.tmp s) = some v → a.tmps[s]? = some v
  oldc : ∀ x v, (∀ s, x ≠ .tmp s) → old x = some v → a.eval x = v

theorem Sim.eval {P : Program} {ops : List Oper} {bms : List Nat} {N : Nat} {ds : List Nat} {old : Eval} {M : Nat → Prop} {D : Nat} {vals : Env} {pend : List Nat} {w : World} {a : Act} (h : Sim P ops bms N ds old M D vals pend w a)
    {i : Nat} (hb : ∀ k, ebit (bm bms i) k = true → M k) (hi : ¬ M i) : ∀ x u, evD ops bms old vals i x = some u → a.eval x = u := by
  intro x u hx
  have slot : ∀ s, a.tmps[s]? = some u → a.eval (.tmp s) = u := fun s hs => by simp [Act.eval, Array.getD_eq_getD_getElem?, hs]
  unfold evD at hx
  split at hx
  · rename_i s
    split at hx
    · rename_i hw; exact slot s (h.s0 s u hw hx)
    · rename_i j hw
      split at hx
      · rename_i hbj
        have hf : find vals j = some (some u) := by
          cases hf : find vals j with
          | none => rw [hf] at hx; cases hx
          | some y => rw [hf] at hx; simp at hx; rw [hx]
        exact slot s (h.s1 s j u hw (hb j hbj) hf)
      · split at hx
        · rename_i hor
          have hnj : ¬ M j := by
            intro hmj
            simp only [Bool.or_eq_true] at hor
            rcases hor with h1 | h1
            · exact hi (h.clo j hmj i h1)
            · exact hi (by rw [Nat.eq_of_beq_eq_true h1]; exact hmj)
          exact slot s (h.s2 s j u hw hnj hx)
        · cases hx
  · rename_i hne
    exact h.oldc x u (fun s e => hne s e) hx

theorem Sim.wanted {P : Program} {ops : Array Oper} {bms : List Nat} {N : Nat} {ds : List Nat} {old : Eval} {M : Nat → Prop} {D : Nat} {vals : Env} {pend : List Nat} {w : World} {a : Act} (h : Sim P ops.toList bms N ds old M D vals pend w a)
    (hok : dstsOk N ops.toList = true) {o : Oper} {t : Bool} (hg : gst vals o = some t) (hj : ∀ j pos, o.guard = some (j, pos) → M j ∧ (slotOf ops.toList j).isSome = true) : Region.wanted o (yielded ops a.tmps) = t := by
  unfold gst at hg
  split at hg
  · rename_i hn; simp only [Option.some.injEq] at hg; subst hg; simp [Region.wanted, hn]
  · rename_i j pos hgd
    obtain ⟨hm, hs⟩ := hj j pos hgd
    obtain ⟨s, hs⟩ := Option.isSome_iff_exists.1 hs
    have h2 : ((ops[j]?).bind (·.dst)) = some s := by simpa [slotOf] using hs
    obtain ⟨oj, hoj, hdj⟩ : ∃ oj, ops.toList[j]? = some oj ∧ oj.dst = some s := by
      unfold slotOf at hs
      cases ho : ops.toList[j]? with
      | none => rw [ho] at hs; cases hs
      | some oj => rw [ho] at hs; exact ⟨oj, rfl, hs⟩
    have hw := wrF_of hok (i0 := 0) hoj hdj
    simp only [Nat.zero_add] at hw
    simp only [Region.wanted, hgd, yielded, h2, Option.bind_some]
    split at hg
    · rename_i b hb
      simp only [Option.some.injEq] at hg
      rw [h.s1 s j _ hw hm hb]
      subst hg
      cases b <;> cases pos <;> rfl
    · rename_i vs hb
      simp only [Option.some.injEq] at hg
      rw [h.s1 s j _ hw hm hb]
      subst hg
      rfl
    · cases hg

/-- The machine takes an operation that leaves this value. -/
theorem Sim.put {P : Program} {ops : List Oper} {bms : List Nat} {N : Nat} {ds : List Nat} {old : Eval} {M : Nat → Prop} {D : Nat} {vals : Env} {pend : List Nat} {w : World} {a : Act} (h : Sim P ops bms N ds old M D vals pend w a)
    (hok : dstsOk N ops = true) {i : Nat} {o : Oper} (ho : ops[i]? = some o) {v : Value} (hv : find vals i = some (some v)) (hD : ebit D i = true) (hb : ∀ k, ebit (bm bms i) k = true → M k) :
    Sim P ops bms N ds old (fun j => M j ∨ j = i) D vals pend w (a.put o.dst v) := by
  have hsame : ∀ s, (∀ d, o.dst = some d → d ≠ s) → (a.put o.dst v).tmps[s]? = a.tmps[s]? := by
    intro s hs
    unfold Act.put
    cases hd : o.dst with
    | none => rfl
    | some d => simp only; rw [Array.getElem?_setIfInBounds_ne (hs d hd)]
  have hdst : ∀ s, o.dst = some s → (a.put o.dst v).tmps[s]? = some v := by
    intro s hs
    have := dstsOk_lt hok ho hs
    simp [Act.put, hs, h.size, this]
  have hsz : (a.put o.dst v).tmps.size = N := by unfold Act.put; split <;> simp [h.size]
  have hdf : (a.put o.dst v).defers = ds.map mark := by unfold Act.put; split <;> exact h.defers
  have hwr : ∀ s j, wrF ops 0 s = some j → o.dst = some s → j = i := by
    intro s j hw hd
    have := wrF_of hok (i0 := 0) ho hd
    rw [hw] at this; simp at this; exact this
  have hwi : ∀ s, wrF ops 0 s = some i → o.dst = some s := by
    intro s hw
    obtain ⟨k, o', h1, h2, h3⟩ := wrF_some hw
    have : k = i := by omega
    subst this
    rw [ho] at h2; cases h2; exact h3
  refine ⟨?_, h.dom, h.val, ?_, ?_, hsz, hdf, ?_, ?_, ?_, ?_⟩
  · rintro j (hj | rfl)
    · exact h.sub j hj
    · exact hD
  · rintro j (hj | rfl) k hk
    · exact .inl (h.clo j hj k hk)
    · exact .inl (hb k hk)
  · intro j oj hdj hnj hoj
    exact h.rdy j oj hdj (fun hm => hnj (.inl hm)) hoj
  · intro s u hw hu
    rw [hsame s (fun d hd e => by subst e; have := wrF_of hok (i0 := 0) ho hd; rw [hw] at this; cases this)]
    exact h.s0 s u hw hu
  · rintro s j u hw (hj | rfl) hf
    · by_cases hd : o.dst = some s
      · have := hwr s j hw hd
        subst this
        rw [hv] at hf; simp only [Option.some.injEq] at hf; subst hf
        exact hdst s hd
      · rw [hsame s (fun d hd' e => by subst e; exact hd hd')]; exact h.s1 s j u hw hj hf
    · rw [hv] at hf; simp only [Option.some.injEq] at hf; subst hf
      exact hdst s (hwi s hw)
  · intro s j u hw hnj hu
    rw [hsame s (fun d hd e => by subst e; exact hnj (.inr (hwr _ j hw hd)))]
    exact h.s2 s j u hw (fun hm => hnj (.inl hm)) hu
  · intro x u hx hu
    have := h.oldc x u hx hu
    cases x with
    | tmp s => exact (hx s rfl).elim
    | const c => exact this
    | global g => exact this
    | func f => exact this


section
variable {n : Nat} {P : Program} {G : Nat → Bool} {Q : Exit → Act → World → Prop}

/-- The condition takes all operations that only reckon. -/
theorem eager (hG : Enters P G) {ops : List Oper} {N : Nat} {ds : List Nat} {old : Eval} {M : Nat → Prop} {w : World} {a : Act} {kn : Env → World → Prop} :
    ∀ (f D : Nat) (vals : Env) (pend : List Nat), trDr P G ops (befs ops []) old f D vals pend w kn → Sim P ops (befs ops []) N ds old M D vals pend w a →
    ∃ f' D' vals' pend', trDr P G ops (befs ops []) old (f' + 1) D' vals' pend' w kn ∧ nextF P ops 0 D' = none ∧ Sim P ops (befs ops []) N ds old M D' vals' pend' w a := by
  intro f
  induction f with
  | zero => intro D vals pend h; exact h.elim
  | succ f ih =>
    intro D vals pend h hs
    cases hn : nextF P ops 0 D with
    | none => exact ⟨f, D, vals, pend, h, hn, hs⟩
    | some io =>
      obtain ⟨i, o⟩ := io
      obtain ⟨k, hk, ho, hD, hr, hf⟩ := nextF_some hn
      have hik : i = k := by omega
      subst hik
      simp only [trDr, hn] at h
      obtain ⟨vals', t, hle, hnn, hgt, hcont, hgd⟩ := trG_out h
      have step : ∀ (v : Value) (pend' : List Nat), (∀ j, j ∈ pend → j ∈ pend') → Rdy P ops (befs ops []) old ((i, some v) :: vals') i o w → (isLoad o = true → gst ((i, some v) :: vals') o = some true → i ∈ pend') →
          Sim P ops (befs ops []) N ds old M (setb D i) ((i, some v) :: vals') pend' w a := by
        intro v pend' hpe hrdy hld
        have hni : ¬ M i := fun hm => by have := hs.sub i hm; rw [hD] at this; cases this
        have hfi : find vals' i = none := by
          cases hfi : find vals' i with
          | none => rfl
          | some y => exact absurd (hs.dom i hD) (hnn i (by rw [hfi]; simp))
        have hle2 : Le vals ((i, some v) :: vals') := fun j u hj => by
          by_cases e : j = i
          · subst e; rw [hs.dom _ hD] at hj; cases hj
          · rw [find_cons_ne e]; exact hle _ _ hj
        refine ⟨?_, ?_, ?_, hs.clo, ?_, hs.size, hs.defers, hs.s0, ?_, hs.s2, hs.oldc⟩
        · intro j hj; rw [ebit_setb, hs.sub j hj]; rfl
        · intro j hj
          rw [ebit_setb] at hj
          simp only [Bool.or_eq_false_iff, decide_eq_false_iff_not] at hj
          rw [find_cons_ne (fun e => hj.2 e.symm)]
          cases hfj : find vals' j with
          | none => rfl
          | some y => exact absurd (hs.dom j hj.1) (hnn j (by rw [hfj]; simp))
        · intro j hjl hj
          rw [ebit_setb] at hj
          by_cases e : j = i
          · subst e; exact ⟨v, find_cons_self _ _ _⟩
          · simp only [Bool.or_eq_true, decide_eq_true_eq] at hj
            rcases hj with hj | hj
            · obtain ⟨u, hu⟩ := hs.val j hjl hj; exact ⟨u, hle2 _ _ hu⟩
            · exact absurd hj.symm e
        · intro j oj hj hnj hoj
          rw [ebit_setb] at hj
          by_cases e : j = i
          · subst e
            rw [ho] at hoj; cases hoj
            exact ⟨hf, hrdy, hld, hgd⟩
          · simp only [Bool.or_eq_true, decide_eq_true_eq] at hj
            rcases hj with hj | hj
            · obtain ⟨h1, h2, h3, h4⟩ := hs.rdy j oj hj hnj hoj
              refine ⟨h1, h2.mono hle2, fun hl hg => hpe j (h3 hl ?_), h4⟩
              rcases h2 with ⟨hg2, _⟩ | ⟨hg2, _⟩
              · rw [gst_mono hle2 hg2] at hg; cases hg
              · exact hg2
            · exact absurd hj.symm e
        · intro s j u hw hm hfu
          obtain ⟨k2, o2, e1, e2, e3⟩ := wrF_some hw
          have hlt : j < ops.length := by have := (List.getElem?_eq_some_iff.1 e2).1; omega
          obtain ⟨u', hu'⟩ := hs.val j hlt (hs.sub j hm)
          have := hle2 _ _ hu'
          rw [this] at hfu; simp only [Option.some.injEq] at hfu; subst hfu
          exact hs.s1 s j _ hw hm hu'
      have hgs : ∀ v, gst ((i, some v) :: vals') o = some t := by
        intro v
        refine gst_mono (fun j u hj => ?_) hgt
        by_cases e : j = i
        · subst e
          exfalso
          exact (hnn j (by rw [hj]; simp)) (hs.dom _ hD)
        · rw [find_cons_ne e]; exact hj
      cases t with
      | false => exact ih _ _ _ hcont (step undef pend (fun _ h => h) (.inl ⟨hgs _, find_cons_self _ _ _⟩) (fun _ hg => by rw [hgs] at hg; cases hg))
      | true =>
        obtain ⟨hfv, hcont⟩ := ck.ex hcont
        have hex : ∃ v, trDr P G ops (befs ops []) old f (setb D i) ((i, some v) :: vals') (match isLoad o with | true => i :: pend | false => pend) w kn ∧
            ∀ ρ : Operand → Value, (∀ x u, evD ops (befs ops []) old vals' i x = some u → ρ x = u) → (execOp ρ o).run P w = .ok (.value v) w ∧ (isLoad o = false → ∀ w2, (execOp ρ o).run P w2 = .ok (.value v) w2) := by
          exact flo_all hG hf hfv hcont
        obtain ⟨v, hk, hrun⟩ := hex
        refine ih _ _ _ hk (step v _ (fun j hj => ?_) (.inr ⟨hgs _, v, find_cons_self _ _ _, fun ρ hρ => hrun ρ fun x u hx => hρ x u (evD_mono (fun j u hj => ?_) hx)⟩) (fun hl _ => by rw [hl]; exact List.mem_cons_self))
        · cases isLoad o
          · exact hj
          · exact List.mem_cons_of_mem _ hj
        · by_cases e : j = i
          · subst e; exfalso; exact (hnn j (by rw [hj]; simp)) (hs.dom _ hD)
          · rw [find_cons_ne e]; exact hj


theorem countP_lt {α : Type} {p q : α → Bool} {l : List α} (hpq : ∀ x ∈ l, p x = true → q x = true) {y : α} (hy : y ∈ l) (hq : q y = true) (hp : p y = false) : l.countP p < l.countP q := by
  induction l with
  | nil => cases hy
  | cons z l ih =>
    have hle : l.countP p ≤ l.countP q := List.countP_mono_left fun x hx h => hpq x (List.mem_cons_of_mem _ hx) h
    simp only [List.countP_cons]
    rcases List.mem_cons.1 hy with rfl | hy
    · simp [hq, hp]; omega
    · have := ih (fun x hx h => hpq x (List.mem_cons_of_mem _ hx) h) hy
      cases hpz : p z with
      | false => simp; split <;> omega
      | true => rw [hpq z List.mem_cons_self hpz]; simp; omega

theorem load_of {o : Oper} (hl : isLoad o = true) : ∃ t a, o.op = .load t a := by
  unfold isLoad at hl
  split at hl
  · rename_i t a h; exact ⟨t, a, h⟩
  · cases hl

/-- **A region that draws its order: what the condition asks is enough.** -/
theorem dr_sound (hG : Enters P G) {r : Option Nat} {ops : Array Oper} {N : Nat} {ds : List Nat} {old : Eval} {kn : Env → World → Prop}
    (hed : edgesOk ops.toList 0 = true) (hok : dstsOk N ops.toList = true)
    (hQ : ∀ vals w a, kn vals w → a.tmps.size = N → a.defers = ds.map mark → (∀ x v, (∀ s, x ≠ .tmp s) → old x = some v → a.eval x = v) →
      (∀ s v, wrF ops.toList 0 s = none → old (.tmp s) = some v → a.tmps[s]? = some v) → (∀ s j v, wrF ops.toList 0 s = some j → find vals j = some (some v) → a.tmps[s]? = some v) → Q .normal a w) :
    ∀ (mf : Nat) (listed : Array Bool) (a : Act) (w : World) (f D : Nat) (vals : Env) (pend : List Nat), listed.size = ops.size → (List.range ops.size).countP (fun i => !listed.getD i true) ≤ mf →
      trDr P G ops.toList (befs ops.toList []) old f D vals pend w kn → Sim P ops.toList (befs ops.toList []) N ds old (fun i => i < ops.size ∧ listed.getD i false = true) D vals pend w a →
      wpAnyIn (Wd r) n P .any ops Q mf listed a w := by
  intro mf
  induction mf with
  | zero =>
    intro listed a w f D vals pend hsz hcnt h hs
    obtain ⟨f', D', vals', pend', h, hnf, hs⟩ := eager hG _ _ _ _ h hs
    have hall : ∀ i, i < ops.size → listed.getD i false = true := by
      intro i hi
      have h0 : (List.range ops.size).countP (fun i => !listed.getD i true) = 0 := by omega
      have := List.countP_eq_zero.1 h0 i (List.mem_range.2 hi)
      simp only [Array.getD_eq_getD_getElem?, Bool.not_eq_true', Bool.not_eq_false] at this ⊢
      rw [Array.getElem?_eq_getElem (by omega)] at this ⊢
      simpa using this
    have hD : allD ops.toList 0 D' = true := allD_of fun k hk => by rw [Nat.zero_add]; exact hs.sub k ⟨by simpa using hk, hall k (by simpa using hk)⟩
    simp only [trDr, hnf, hD] at h
    refine ⟨?_, hQ _ _ _ h hs.size hs.defers hs.oldc hs.s0 fun s j v hw hf => hs.s1 s j v hw ?_ hf⟩
    · unfold Region.ready
      rw [List.filter_eq_nil_iff]
      intro i hi
      have := hall i (List.mem_range.1 hi)
      have h2 : listed.getD i true = true := by
        have hi' := List.mem_range.1 hi
        simp only [Array.getD_eq_getD_getElem?] at this ⊢
        rw [Array.getElem?_eq_getElem (by omega)] at this ⊢
        simpa using this
      rw [h2]; simp
    · obtain ⟨k, o, h1, h2, h3⟩ := wrF_some hw
      have hlt := (List.getElem?_eq_some_iff.1 h2).1
      have : j = k := by omega
      subst this
      simp at hlt
      exact ⟨hlt, hall _ hlt⟩
  | succ mf ih =>
    intro listed a w f D vals pend hsz hcnt h hs
    obtain ⟨f', D', vals', pend', h, hnf, hs⟩ := eager hG _ _ _ _ h hs
    have getD_iff : ∀ i, i < ops.size → (listed.getD i true = listed.getD i false) := fun i hi => by
      simp only [Array.getD_eq_getD_getElem?]; rw [Array.getElem?_eq_getElem (by omega)]; rfl
    have ready_iff : ∀ i, i ∈ Region.ready .any ops listed ↔ i < ops.size ∧ listed.getD i false = false ∧ ∃ o, ops[i]? = some o ∧ ∀ e ∈ aft o, listed.getD e.on false = true := by
      intro i
      unfold Region.ready
      rw [List.mem_filter, List.mem_range]
      constructor
      · rintro ⟨hi, hb⟩
        rw [getD_iff i hi] at hb
        simp only [Bool.and_eq_true, Bool.not_eq_true'] at hb
        refine ⟨hi, hb.1, ops[i], by simp [hi], fun e he => ?_⟩
        have h2 := hb.2
        rw [Array.getElem?_eq_getElem hi] at h2
        simp only [Option.map_some, Option.getD_some] at h2
        have h3 := (Array.all_eq_true_iff_forall_mem.1 h2) e (Array.mem_toList_iff.1 (mem_aftL.1 he).1)
        simpa [(mem_aftL.1 he).2] using h3
      · rintro ⟨hi, hl, o, ho, hall⟩
        refine ⟨hi, ?_⟩
        rw [getD_iff i hi, hl, ho]
        simp only [Bool.not_false, Option.map_some, Option.getD_some, Bool.true_and]
        rw [Array.all_eq_true_iff_forall_mem]
        intro e he
        cases hb : Region.binds .any e with
        | false => simp
        | true => rw [hall e (mem_aftL.2 ⟨Array.mem_toList_iff.2 he, hb⟩)]; simp
    refine ⟨fun hnil => ?_, fun i hi => ?_⟩
    · -- nothing is ready: all is done
      have hall : ∀ i, i < ops.size → listed.getD i false = true := by
        intro i
        induction i using Nat.strongRecOn with
        | _ i ihi =>
          intro hi
          cases hl : listed.getD i false with
          | true => rfl
          | false =>
            exfalso
            have : i ∈ Region.ready .any ops listed := (ready_iff i).2 ⟨hi, hl, ops[i], by simp [hi], fun e he => by
              have hb3 := edgesOk_get hed (i := i) (o := ops[i]) (by simp [hi]) e he
              unfold edgeOk at hb3
              simp only [Nat.zero_add] at hb3
              have hlt : e.on < i := Nat.le_of_ble_eq_true hb3
              exact ihi e.on hlt (by omega)⟩
            rw [hnil] at this; cases this
      have hD : allD ops.toList 0 D' = true := allD_of fun k hk => by rw [Nat.zero_add]; exact hs.sub k ⟨by simpa using hk, hall k (by simpa using hk)⟩
      simp only [trDr, hnf, hD] at h
      refine hQ _ _ _ h hs.size hs.defers hs.oldc hs.s0 fun s j v hw hf => hs.s1 s j v hw ?_ hf
      obtain ⟨k, o, h1, h2, h3⟩ := wrF_some hw
      have hlt := (List.getElem?_eq_some_iff.1 h2).1
      have : j = k := by omega
      subst this
      simp at hlt
      exact ⟨hlt, hall _ hlt⟩
    · obtain ⟨hin, hli, o, ho, hedge⟩ := (ready_iff i).1 hi
      have hoL : ops.toList[i]? = some o := by simpa using ho
      have hni : ¬ (i < ops.size ∧ listed.getD i false = true) := fun hh => by rw [hli] at hh; cases hh.2
      have hb : ∀ k, ebit (bm (befs ops.toList []) i) k = true → (k < ops.size ∧ listed.getD k false = true) :=
        bm_closed hoL (M := fun k => k < ops.size ∧ listed.getD k false = true) hs.clo fun e he => ⟨by
          have hb3 := edgesOk_get hed (i := i) (o := o) hoL e he
          unfold edgeOk at hb3
          simp only [Nat.zero_add] at hb3
          have hlt : e.on < i := Nat.le_of_ble_eq_true hb3
          omega, hedge e he⟩
      have hM' : ∀ (v : Value) (vals2 : Env) (pend2 : List Nat) (D2 : Nat) (w2 : World), Sim P ops.toList (befs ops.toList []) N ds old (fun j => (j < ops.size ∧ listed.getD j false = true) ∨ j = i) D2 vals2 pend2 w2 (a.put o.dst v) →
          Sim P ops.toList (befs ops.toList []) N ds old (fun j => j < ops.size ∧ (listed.setIfInBounds i true).getD j false = true) D2 vals2 pend2 w2 (a.put o.dst v) := by
        intro v vals2 pend2 D2 w2 hsim
        have : (fun j => (j < ops.size ∧ listed.getD j false = true) ∨ j = i) = (fun j => j < ops.size ∧ (listed.setIfInBounds i true).getD j false = true) := by
          funext j
          simp only [Array.getD_eq_getD_getElem?]
          by_cases e : j = i
          · subst e
            rw [Array.getElem?_setIfInBounds_self_of_lt (by omega)]
            simp [hin]
          · rw [Array.getElem?_setIfInBounds_ne (Ne.symm e)]
            simp [e]
        rw [← this]; exact hsim
      have hcnt' : (List.range ops.size).countP (fun j => !(listed.setIfInBounds i true).getD j true) ≤ mf := by
        have key : (List.range ops.size).countP (fun j => !(listed.setIfInBounds i true).getD j true) < (List.range ops.size).countP (fun j => !listed.getD j true) := by
          have hsub : ∀ j, j ∈ List.range ops.size → (!(listed.setIfInBounds i true).getD j true) = true → (!listed.getD j true) = true := by
            intro j hj hh
            simp only [Array.getD_eq_getD_getElem?] at hh ⊢
            by_cases e : j = i
            · subst e; rw [Array.getElem?_setIfInBounds_self_of_lt (by omega)] at hh; simp at hh
            · rwa [Array.getElem?_setIfInBounds_ne (Ne.symm e)] at hh
          exact countP_lt hsub (List.mem_range.2 hin) (by rw [getD_iff i hin, hli]; rfl) (by
            simp only [Array.getD_eq_getD_getElem?]; rw [Array.getElem?_setIfInBounds_self_of_lt (by omega)]; rfl)
        omega
      unfold wpOpIn
      simp only [ho]
      cases hDi : ebit D' i with
      | true =>
        -- the condition has taken it
        obtain ⟨hfl, hrdy, _, hgd⟩ := hs.rdy i o hDi hni hoL
        have hgM : ∀ j pos, o.guard = some (j, pos) → (j < ops.size ∧ listed.getD j false = true) ∧ (slotOf ops.toList j).isSome = true := fun j pos hg => ⟨hb j (hgd j pos hg).1, (hgd j pos hg).2⟩
        rcases hrdy with ⟨hg, hv⟩ | ⟨hg, v, hv, hrun⟩
        · rw [if_neg (by rw [hs.wanted hok hg hgM]; simp)]
          exact ⟨fun _ _ => trivial, ih _ _ _ _ _ _ _ (by simpa using hsz) hcnt' h (hM' _ _ _ _ _ (hs.put hok hoL hv hDi hb))⟩
        · rw [if_pos (by rw [hs.wanted hok hg hgM])]
          have hr := (hrun a.eval (hs.eval hb hni)).1
          refine wpIn_of_post (k := fun v' w' => v' = v ∧ w' = w) (floO_nd hfl) (by rw [hr]; exact .value ⟨rfl, rfl⟩) ?_
          rintro v' w' ⟨rfl, rfl⟩
          exact ih _ _ _ _ _ _ _ (by simpa using hsz) hcnt' h (hM' _ _ _ _ _ (hs.put hok hoL hv hDi hb))
      | false =>
        have hr1 : ready1 D' (aft o) = true := ready1_iff.2 fun e he => hs.sub _ ⟨by
          have hb3 := edgesOk_get hed (i := i) (o := o) hoL e he
          unfold edgeOk at hb3
          simp only [Nat.zero_add] at hb3
          have hlt : e.on < i := Nat.le_of_ble_eq_true hb3
          omega, hedge e he⟩
        have hnall : allD ops.toList 0 D' = false := by
          cases hal : allD ops.toList 0 D' with
          | false => rfl
          | true =>
            exfalso
            have key : ∀ (os : List Oper) (i0 : Nat), allD os i0 D' = true → ∀ k, k < os.length → ebit D' (i0 + k) = true := by
              intro os
              induction os with
              | nil => intro i0 _ k hk; simp at hk
              | cons o os ih =>
                intro i0 h k hk
                simp only [allD, Bool.and_eq_true] at h
                cases k with
                | zero => simpa using h.1
                | succ k => have := ih (i0 + 1) h.2 k (by simpa using hk); rwa [show i0 + 1 + k = i0 + (k + 1) by omega] at this
            have := key _ 0 hal i (by simpa using hin)
            rw [Nat.zero_add, hDi] at this; cases this
        simp only [trDr, hnf, hnall] at h
        have hmem := readyS_mem (i0 := 0) (k := i) hoL (by rw [Nat.zero_add]; exact hDi) hr1
        rw [Nat.zero_add] at hmem
        have hvc := andS_mem h hmem
        obtain ⟨vals2, t, hle, hnn, hgt, hcont, hgd⟩ := trG_out hvc
        have hfi : find vals2 i = none := by
          cases hfi : find vals2 i with
          | none => rfl
          | some y => exact absurd (hs.dom i hDi) (hnn i (by rw [hfi]; simp))
        have hle3 : ∀ v, Le vals2 ((i, some v) :: vals2) := fun v j u hj => by
          by_cases e : j = i
          · subst e; rw [hfi] at hj; cases hj
          · rw [find_cons_ne e]; exact hj
        have hle2 : ∀ v, Le vals' ((i, some v) :: vals2) := fun v => hle.trans (hle3 v)
        have hgM : ∀ j pos, o.guard = some (j, pos) → (j < ops.size ∧ listed.getD j false = true) ∧ (slotOf ops.toList j).isSome = true := fun j pos hg => ⟨hb j (hgd j pos hg).1, (hgd j pos hg).2⟩
        -- the state with the guard's knowledge
        have hs2 : Sim P ops.toList (befs ops.toList []) N ds old (fun i => i < ops.size ∧ listed.getD i false = true) D' vals2 pend' w a := by
          refine ⟨hs.sub, ?_, ?_, hs.clo, ?_, hs.size, hs.defers, hs.s0, ?_, hs.s2, hs.oldc⟩
          · intro j hj
            cases hfj : find vals2 j with
            | none => rfl
            | some y => exact absurd (hs.dom j hj) (hnn j (by rw [hfj]; simp))
          · intro j hjl hj; obtain ⟨u, hu⟩ := hs.val j hjl hj; exact ⟨u, hle _ _ hu⟩
          · intro j oj hj hnj hoj
            obtain ⟨h1, h2, h3, h4⟩ := hs.rdy j oj hj hnj hoj
            refine ⟨h1, h2.mono hle, fun hl hg => h3 hl ?_, h4⟩
            rcases h2 with ⟨hg2, _⟩ | ⟨hg2, _⟩
            · rw [gst_mono hle hg2] at hg; cases hg
            · exact hg2
          · intro s j u hw hm hfu
            obtain ⟨k2, o2, e1, e2, e3⟩ := wrF_some hw
            have hlt : j < ops.toList.length := by have := (List.getElem?_eq_some_iff.1 e2).1; omega
            obtain ⟨u', hu'⟩ := hs.val j hlt (hs.sub j hm)
            have := hle _ _ hu'
            rw [this] at hfu; simp only [Option.some.injEq] at hfu; subst hfu
            exact hs.s1 s j _ hw hm hu'
        -- one more taken, by both
        have step : ∀ (v : Value) (pend2 : List Nat) (w2 : World),
            (∀ j oj, ebit D' j = true → ¬ (j < ops.size ∧ listed.getD j false = true) → ops.toList[j]? = some oj → Rdy P ops.toList (befs ops.toList []) old vals2 j oj w → Rdy P ops.toList (befs ops.toList []) old ((i, some v) :: vals2) j oj w2 ∧ (isLoad oj = true → gst ((i, some v) :: vals2) oj = some true → j ∈ pend2)) →
            Sim P ops.toList (befs ops.toList []) N ds old (fun j => j < ops.size ∧ (listed.setIfInBounds i true).getD j false = true) (setb D' i) ((i, some v) :: vals2) pend2 w2 (a.put o.dst v) := by
          intro v pend2 w2 hre
          refine hM' _ _ _ _ _ ?_
          have hs3 : Sim P ops.toList (befs ops.toList []) N ds old (fun i => i < ops.size ∧ listed.getD i false = true) D' ((i, some v) :: vals2) pend2 w2 a ∨ True := .inr trivial
          clear hs3
          -- first M grows over a state in which i counts as taken
          have base : Sim P ops.toList (befs ops.toList []) N ds old (fun j => (j < ops.size ∧ listed.getD j false = true) ∨ j = i) (setb D' i) ((i, some v) :: vals2) pend2 w2 (a.put o.dst v) := by
            have hsame : ∀ s, (∀ d, o.dst = some d → d ≠ s) → (a.put o.dst v).tmps[s]? = a.tmps[s]? := by
              intro s hss
              unfold Act.put
              cases hd : o.dst with
              | none => rfl
              | some d => simp only; rw [Array.getElem?_setIfInBounds_ne (hss d hd)]
            have hdst : ∀ s, o.dst = some s → (a.put o.dst v).tmps[s]? = some v := by
              intro s hss
              have := dstsOk_lt hok hoL hss
              simp [Act.put, hss, hs2.size, this]
            have hwr : ∀ s j, wrF ops.toList 0 s = some j → o.dst = some s → j = i := by
              intro s j hw hd
              have := wrF_of hok (i0 := 0) hoL hd
              rw [hw] at this; simp at this; exact this
            have hwi : ∀ s, wrF ops.toList 0 s = some i → o.dst = some s := by
              intro s hw
              obtain ⟨k, o', h1, h2, h3⟩ := wrF_some hw
              have : k = i := by omega
              subst this
              rw [hoL] at h2; cases h2; exact h3
            refine ⟨?_, ?_, ?_, ?_, ?_, ?_, ?_, ?_, ?_, ?_, ?_⟩
            · rintro j (hj | rfl)
              · rw [ebit_setb, hs2.sub j hj]; rfl
              · rw [ebit_setb]; simp
            · intro j hj
              rw [ebit_setb] at hj
              simp only [Bool.or_eq_false_iff, decide_eq_false_iff_not] at hj
              rw [find_cons_ne (fun e => hj.2 e.symm)]
              exact hs2.dom j hj.1
            · intro j hjl hj
              by_cases e : j = i
              · subst e; exact ⟨v, find_cons_self _ _ _⟩
              · rw [ebit_setb] at hj
                simp only [Bool.or_eq_true, decide_eq_true_eq] at hj
                rcases hj with hj | hj
                · obtain ⟨u, hu⟩ := hs2.val j hjl hj; exact ⟨u, hle3 v _ _ hu⟩
                · exact absurd hj.symm e
            · rintro j (hj | rfl) k hk
              · exact .inl (hs2.clo j hj k hk)
              · exact .inl (hb k hk)
            · intro j oj hj hnj hoj
              rw [ebit_setb] at hj
              have hne : j ≠ i := fun e => hnj (.inr e)
              have hnm : ¬ (j < ops.size ∧ listed.getD j false = true) := fun hm => hnj (.inl hm)
              have hj' : ebit D' j = true := by
                simp only [Bool.or_eq_true, decide_eq_true_eq] at hj
                rcases hj with hj | hj
                · exact hj
                · exact absurd hj.symm hne
              obtain ⟨h1, h2, h3, h4⟩ := hs2.rdy j oj hj' hnm hoj
              exact ⟨h1, (hre j oj hj' hnm hoj h2).1, (hre j oj hj' hnm hoj h2).2, h4⟩
            · unfold Act.put; split <;> simp [hs2.size]
            · unfold Act.put; split <;> exact hs2.defers
            · intro s u hw hu
              rw [hsame s (fun d hd e => by subst e; have := wrF_of hok (i0 := 0) hoL hd; rw [hw] at this; cases this)]
              exact hs2.s0 s u hw hu
            · rintro s j u hw (hj | rfl) hf
              · have hne : j ≠ i := fun e => by subst e; exact hni hj
                rw [find_cons_ne hne] at hf
                by_cases hd : o.dst = some s
                · exact absurd (hwr s j hw hd) hne
                · rw [hsame s (fun d hd' e => by subst e; exact hd hd')]; exact hs2.s1 s j u hw hj hf
              · rw [find_cons_self] at hf; simp only [Option.some.injEq] at hf; subst hf
                exact hdst s (hwi s hw)
            · intro s j u hw hnj hu
              rw [hsame s (fun d hd e => by subst e; exact hnj (.inr (hwr _ j hw hd)))]
              exact hs2.s2 s j u hw (fun hm => hnj (.inl hm)) hu
            · intro x u hx hu
              have := hs2.oldc x u hx hu
              cases x with
              | tmp s => exact (hx s rfl).elim
              | const c => exact this
              | global g => exact this
              | func f => exact this
          exact base
        cases t with
        | false =>
          rw [if_neg (by rw [hs2.wanted hok hgt hgM]; simp)]
          refine ⟨fun _ _ => trivial, ih _ _ _ _ _ _ _ (by simpa using hsz) hcnt' hcont (step undef pend' w fun j oj hj hnj hoj hr => ⟨hr.mono (hle3 _), fun hl hg => ?_⟩)⟩
          obtain ⟨_, h2, h3, _⟩ := hs2.rdy j oj hj hnj hoj
          refine h3 hl ?_
          rcases h2 with ⟨hg2, _⟩ | ⟨hg2, _⟩
          · rw [gst_mono (hle3 _) hg2] at hg; cases hg
          · exact hg2
        | true =>
          rw [if_pos (by rw [hs2.wanted hok hgt hgM])]
          refine wpIn_of_post (trOp_nd hcont) (op_post hG (hs2.eval hb hni) hcont) fun v w2 hk => ?_
          obtain ⟨hk, hst⟩ := stab_out hk
          refine ih _ _ _ _ _ _ _ (by simpa using hsz) hcnt' hk (step v _ w2 fun j oj hj hnj hoj hr => ?_)
          obtain ⟨hflo, h2, h3, _⟩ := hs2.rdy j oj hj hnj hoj
          have hjb : ebit (bm (befs ops.toList []) i) j = false := by
            cases hjb : ebit (bm (befs ops.toList []) i) j with
            | false => rfl
            | true => exact absurd (hb j hjb) hnj
          refine ⟨?_, fun hl hg => ?_⟩
          · rcases hr with ⟨hg, hv⟩ | ⟨hg, u, hu, hrun⟩
            · exact .inl ⟨gst_mono (hle3 _) hg, hle3 v _ _ hv⟩
            · refine .inr ⟨gst_mono (hle3 _) hg, u, hle3 v _ _ hu, fun ρ hρ => ?_⟩
              have hρ' : ∀ x y, evD ops.toList (befs ops.toList []) old vals2 j x = some y → ρ x = y := fun x y hx => hρ x y (evD_mono (hle3 _) hx)
              obtain ⟨hr1, hr2⟩ := hrun ρ hρ'
              cases hl : isLoad oj with
              | false => exact ⟨hr2 hl w2, fun _ => hr2 hl⟩
              | true =>
                refine ⟨?_, fun h => by cases h⟩
                obtain ⟨oo, tt, aa, ad, uu, ho1, ho2, ho3, ho4, ho5⟩ := hst j (mem_dropB (h3 hl hg) hjb)
                rw [hoj] at ho1; cases ho1
                rw [hu] at ho4; simp only [Option.some.injEq] at ho4; subst ho4
                have hpa := hρ' _ _ ho3
                have e1 : ∀ w3, (execOp ρ oj).run P w3 = ((loadVar tt ad).run P w3).andThen fun v w' => .ok (.value v) w' := fun w3 => by
                  simp [execOp, ho2, hpa, Instr.loadAt, Instr.sureAddr]
                rw [e1] at hr1 ⊢
                cases hlv : (loadVar tt ad).run P w with
                | halt x y => rw [hlv] at hr1; cases hr1
                | ok v3 w3 =>
                  rw [hlv] at hr1
                  simp only [Result.andThen_ok, Result.ok.injEq, Next.value.injEq] at hr1
                  obtain ⟨rfl, rfl⟩ := hr1
                  rw [(load_same hlv ho5).1]
                  rfl
          · refine mem_dropB (h3 hl ?_) hjb
            rcases h2 with ⟨hg2, _⟩ | ⟨hg2, _⟩
            · rw [gst_mono (hle3 _) hg2] at hg; cases hg
            · exact hg2

end
end Go.VC
