/- A verification-condition generator for the model's code: functions that hold ranges over functions. -/
import Derived.Test.YtilccklocaeebaaVc8
namespace Go.VC
open Go Go.RowKit

def hasRf : Code → Bool
  | .seq a b | .cond _ a b => hasRf a || hasRf b
  | .block _ c | .loop c => hasRf c
  | .rangeFunc _ _ _ _ => true
  | _ => false

def trT (cx : Cx) : Code → Env → Ct → (Nat → Ct) → (List Nat → Sl → World → Prop) → Ct
  | .seq a b, base, kn, kx, kr, ds, loc, w => trT cx a base (fun ds loc w => trT cx b base kn kx kr ds loc w) kx kr ds loc w
  | .cond c a b, base, kn, kx, kr, ds, loc, w => wv (ev loc base c) fun v => wb v fun t => br t (trT cx a base kn kx kr ds loc w) (trT cx b base kn kx kr ds loc w)
  | .block id c, base, kn, kx, kr, ds, loc, w => trT cx c base kn (fun j ds loc w => match Nat.beq j id with
      | true => kn ds loc w
      | false => kx j ds loc w) kr ds loc w
  | .loop c, base, kn, kx, kr, ds, loc, w => match hasRf c with
    | false => trC cx (.loop c) [] base kn kx kr ds loc w
    | true => ∃ (I : List Nat → Cur (World → Prop) (cx.L ((firstR c).getD 0))) (μ : Cur (World → Nat) (cx.L ((firstR c).getD 0))),
        getK (cx.L ((firstR c).getD 0)) (evS loc base) (I ds) μ (fun I' _ => I' w) ∧
        ∀ d1 : List Nat, allK (cx.L ((firstR c).getD 0)) (I d1) μ fun ent I1 μ1 => ck (allIn (mods c) ent) (∀ w1, I1 w1 →
          trT cx c (kills (mods c) ++ (loc ++ base))
            (fun d2 l2 w2 => ck (allIn (mods c) l2) (getK (cx.L ((firstR c).getD 0)) (evS l2 (kills (mods c) ++ (loc ++ base))) (I d2) μ (fun I2 μ2 => I2 w2 ∧ μ2 w2 < μ1 w1)))
            (fun j d2 l2 w2 => kx j d2 (l2 ++ (kills (mods c) ++ loc)) w2) kr d1 ent w1)
  | .rangeFunc g ps assign body, base, kn, kx, kr, ds, loc, w => wv (ev loc base g) fun f => ∃ (gf : Nat) (first cap : Array Value), f = .func (.func gf) first cap ∧ cx.G gf = true ∧ RfC cx gf first.toList cap.toList ps.toList assign body base kn kx kr ds loc w
  | c, base, kn, kx, kr, ds, loc, w => trC cx c [] base kn kx kr ds loc w

section
variable {n : Nat}
theorem trT_sound {cx : Cx} (hG : Enters cx.P cx.G) (hMx : cx.P.follows .mixedOrders = true) (c : Code) : ∀ (base : Env) (kn : Ct) (kx : Nat → Ct) (kr : List Nat → Sl → World → Prop) (ds : List Nat) (loc : Env) (w : World) (a : Act),
    trT cx c base kn kx kr ds loc w → Ag cx.N ds (evS loc base) a → c.wpIn (Wd none) n cx.P (QC cx.N [] base kn kx kr) a w := by
  have leaf : ∀ (c : Code) (base : Env) (kn : Ct) (kx : Nat → Ct) (kr : List Nat → Sl → World → Prop) (ds : List Nat) (loc : Env) (w : World) (a : Act),
      trC cx c [] base kn kx kr ds loc w → Ag cx.N ds (evS loc base) a → c.wpIn (Wd none) n cx.P (QC cx.N [] base kn kx kr) a w :=
    fun c base kn kx kr ds loc w a h ha => trC_sound hG hMx c [] base kn kx kr ds loc w a h (by simpa using ha)
  induction c with
  | seq x y ihx ihy =>
    intro base kn kx kr ds loc w a h ha
    refine wpIn_seq (wpIn_mono (ihx base _ kx kr ds loc w a h ha) ?_)
    intro e a' w' hq
    cases e with
    | normal => obtain ⟨dl', loc', ha', hk⟩ := hq; exact ihy base kn kx kr dl' loc' w' a' hk (by simpa using ha')
    | exit j => exact hq
    | ret => exact hq
    | goto l => exact hq
    | panic c => exact hq
    | outgrown => exact hq
  | cond c x y ihx ihy =>
    intro base kn kx kr ds loc w a h ha
    obtain ⟨v, hv, h⟩ := wv.ex h
    obtain ⟨t, rfl, h⟩ := wb.ex h
    cases t with
    | true => exact wpIn_cond_true (ha.eval _ _ hv) (ihx base kn kx kr ds loc w a h ha)
    | false => exact wpIn_cond_false (ha.eval _ _ hv) (ihy base kn kx kr ds loc w a h ha)
  | block id c ih =>
    intro base kn kx kr ds loc w a h ha
    refine wpIn_block (wpIn_mono (ih base kn _ kr ds loc w a h ha) ?_)
    intro e a' w' hq
    cases e with
    | normal => exact hq
    | exit j =>
      obtain ⟨dl', loc', ha', hk⟩ := hq
      simp only [Exit.inBlock]
      cases hb : Nat.beq j id with
      | true =>
        rw [hb] at hk
        rw [if_pos (Nat.eq_of_beq_eq_true hb)]
        exact ⟨dl', loc', ha', hk⟩
      | false =>
        rw [hb] at hk
        rw [if_neg (fun e => by subst e; simp [Nat.beq_refl] at hb)]
        exact ⟨dl', loc', ha', hk⟩
    | ret => exact hq
    | goto l => exact hq
    | panic c => exact hq
    | outgrown => exact hq
  | loop c ih =>
    intro base kn kx kr ds loc w a h ha
    unfold trT at h
    split at h
    · exact leaf _ _ _ _ _ _ _ _ _ h ha
    obtain ⟨I, μ, h0, hall⟩ := h
    obtain ⟨e0, I0, μ0, hI0, he0, hq0, hm0⟩ := getK_out h0
    have hent0 := hq0 _ (hall ds)
    refine wpIn_loop (fun a w => ∃ (d1 : List Nat) (e : Env) (I1 : World → Prop) (μ1 : World → Nat), allIn (mods c) e = true ∧ (∀ w1, I1 w1 → trT cx c (kills (mods c) ++ (loc ++ base))
            (fun d2 l2 w2 => ck (allIn (mods c) l2) (getK (cx.L ((firstR c).getD 0)) (evS l2 (kills (mods c) ++ (loc ++ base))) (I d2) μ (fun I2 μ2 => I2 w2 ∧ μ2 w2 < μ1 w1)))
            (fun j d2 l2 w2 => kx j d2 (l2 ++ (kills (mods c) ++ loc)) w2) kr d1 e w1) ∧ I1 w ∧ Ag cx.N d1 (evS e (kills (mods c) ++ (loc ++ base))) a ∧ meas (cx.L ((firstR c).getD 0)) (fun s => a.tmps[s]?) μ = μ1)
      (fun a w => meas (cx.L ((firstR c).getD 0)) (fun s => a.tmps[s]?) μ w) ?_ ?_
    · obtain ⟨ha1, ha2⟩ := ck.ex hent0
      refine ⟨ds, e0, I0, μ0, ha1, ha2, hI0, ?_, hm0 _ ha.slot⟩
      exact Ag.enter (l := []) ha (.inr (by rw [evS_assoc]; rfl)) rfl he0
    · rintro a1 w1 ⟨d1, e, I1, μ1, hal, hbody, hI, hag, hme⟩
      refine wpIn_mono (ih _ _ _ kr d1 e w1 a1 (hbody w1 hI) hag) ?_
      intro ex a2 w2 hq
      cases ex with
      | normal =>
        obtain ⟨d2, l2, hag2, hk⟩ := hq
        obtain ⟨hck, hk'⟩ := ck.ex hk
        clear hk
        simp only [List.append_nil] at hag2
        obtain ⟨e2, I2, μ2, ⟨hI2, hlt⟩, he2, hq2, hm2⟩ := getK_out hk'
        obtain ⟨hb1, hb2⟩ := ck.ex (hq2 _ (hall d2))
        refine ⟨⟨d2, e2, I2, μ2, hb1, hb2, hI2, Ag.enter hag2 (.inl rfl) hck he2, hm2 _ hag2.slot⟩, ?_⟩
        rw [hm2 _ hag2.slot, hme]
        exact hlt
      | exit j =>
        obtain ⟨d2, l2, hag2, hk⟩ := hq
        refine ⟨_, _, ?_, hk⟩
        rw [← List.append_assoc (kills (mods c)) loc base, evS_assoc] at hag2
        exact hag2
      | ret => exact hq
      | goto l => exact hq.elim
      | panic c => exact hq.elim
      | outgrown => exact hq.elim
  | rangeFunc f ps x y ihx ihy =>
    intro base kn kx kr ds loc w a h ha
    obtain ⟨v, hv, h⟩ := wv.ex h
    obtain ⟨gf, first, cap, rfl, hgg, h⟩ := h
    exact rf_sound hG hMx (ha.eval _ _ hv) hgg h ha
  | skip => exact leaf _
  | region id ops draw => exact leaf _
  | exit id => exact leaf _
  | scope c ih => exact leaf _
  | label l => exact leaf _
  | goto l => exact leaf _
  | ret => exact leaf _
  | refuse y => exact leaf _
end

/-- The results, out of slots or cells. -/
def resW (P : Program) : List ResultVar → Sl → World → (List Value → Prop) → Prop
  | [], _, _, q => q []
  | .tmp t :: rs, f, w, q => wv (f t) fun v => resW P rs f w fun vs => q (v :: vs)
  | .cell a t :: rs, f, w, q => wv (f a) fun p => wp p fun p => wa p fun a => trLoad P t a w fun v _ => resW P rs f w fun vs => q (v :: vs)

def retW (P : Program) (rs : List ResultVar) (f : Sl) (w : World) (R : K) : Prop := resW P rs f w fun vs => match vs with
  | [v] => R v w
  | vs => R (.tuple ⟨vs⟩) w

/-- What a function that leaves with marks owes. -/
def retM (P : Program) (rs : List ResultVar) (R : K) (ds : List Nat) (f : Sl) (w : World) : Prop :=
  ds.Nodup ∧ (∀ D, D ∈ ds → w.heap[D]? = some (.deferred (some []))) ∧ ∀ w', Kp (fun k => k ∈ ds) w w' → retW P rs f w' R

def trFT (P : Program) (G : Nat → Bool) (L : Nat → List (Nat × Kd)) (fn : Func) (args : List Value) (w : World) (R : K) : Prop :=
  match fn.body with
  | some c => ck (Nat.ble args.length fn.ntmps) (trT ⟨P, G, fn.ntmps, L⟩ c [] (fun ds loc w => retM P fn.results.toList R ds (evS loc []) w) (fun _ _ _ _ => False)
      (fun ds f w => retM P fn.results.toList R ds f w) [] (entryL args 0) w)
  | none => False

theorem loadVar_same {P : Program} {t : TypeId} {a : Addr} {w : World} {k : K} (h : trLoad P t a w k) : ∃ v, (loadVar t a).run P w = .ok v w ∧ k v w := by
  unfold trLoad at h
  split at h
  · rename_i ha
    obtain ⟨vs, h⟩ := ExL.ex h
    obtain ⟨hs, h⟩ := ck.ex h
    obtain ⟨hc, h⟩ := ldC.out h
    refine ⟨_, ?_, h⟩
    have := loadCellsFrom_run (P := P) (w := w) a vs 0 #[] (fun j v hv => by simpa using hc j v hv)
    simp [loadVar, und_of_aggT ha, hasT_size hs, loadCells, this]
  · rename_i ha
    obtain ⟨hT, h⟩ := ck.ex h
    obtain ⟨v, hc, h⟩ := ExK.ex h
    refine ⟨v, ?_, h⟩
    have h1 := isAggT_run (w := w) hT
    rw [ha] at h1
    simp [loadVar, h1, hc]

theorem resW_run {P : Program} {w : World} {f : Sl} {tmps : Array Value} (hf : ∀ s v, f s = some v → tmps[s]? = some v) : ∀ {rs : List ResultVar} {q : List Value → Prop}, resW P rs f w q →
    ∃ vs, (rs.mapM fun | .tmp t => pure (tmps.getD t undef) | .cell a t => (do loadVar t (← asAddr (tmps.getD a undef)) : Sem Value) : Sem (List Value)).run P w = .ok vs w ∧ q vs
  | [], q, h => ⟨[], by simp, h⟩
  | .tmp t :: rs, q, h => by
    obtain ⟨v, hv, h⟩ := wv.ex h
    obtain ⟨vs, hr, hq⟩ := resW_run hf h
    have h3 : tmps.getD t undef = v := by simp [Array.getD_eq_getD_getElem?, hf _ _ hv]
    exact ⟨v :: vs, by simp only [List.mapM_cons, Sem.run_bind, Sem.run_pure, Result.andThen_ok, hr, h3], hq⟩
  | .cell a t :: rs, q, h => by
    obtain ⟨p, hv, h1⟩ := wv.ex h
    obtain ⟨p2, rfl, h2⟩ := wp.ex h1
    obtain ⟨ad, rfl, h4⟩ := wa.ex h2
    obtain ⟨v, hl, h5⟩ := loadVar_same h4
    obtain ⟨vs, hr, hq⟩ := resW_run hf h5
    have h3 : tmps.getD a undef = .pointer (some ad) := by simp [Array.getD_eq_getD_getElem?, hf _ _ hv]
    have h6 : (asAddr (.pointer (some ad))).run P w = .ok ad w := by simp [asAddr]
    exact ⟨v :: vs, by simp only [List.mapM_cons, Sem.run_bind, Sem.run_pure, Result.andThen_ok, hr, h3, h6, hl], hq⟩

theorem retW_run {P : Program} {w : World} {fn : Func} {f : Sl} {tmps : Array Value} {R : K} (hf : ∀ s v, f s = some v → tmps[s]? = some v) (h : retW P fn.results.toList f w R) :
    ∃ v, (results fn tmps).run P w = .ok v w ∧ R v w := by
  obtain ⟨vs, hr, hq⟩ := resW_run hf h
  refine ⟨if h : vs.length = 1 then vs[0] else .tuple ⟨vs⟩, ?_, ?_⟩
  · unfold results
    rw [Array.mapM_eq_mapM_toList]
    simp only [Sem.run_bind, Sem.run_map]
    exact congrArg (fun r : Result (List Value) => (r.andThen fun a w' => Result.ok a.toArray w').andThen fun a w' => Sem.run P (pure (if h : a.size = 1 then a[0] else Value.tuple a)) w') hr
  · match vs, hq with
    | [], hq => exact hq
    | [v], hq => exact hq
    | v :: u :: vs, hq => simpa using hq

theorem leaves_of_marks {P : Program} {n : Nat} {fn : Func} {f : Sl} {tmps : Array Value} {R : K} (hf : ∀ s v, f s = some v → tmps[s]? = some v) : ∀ (ds : List Nat) (w : World), retM P fn.results.toList R ds f w →
    LeavesInM Fence.wide n P fn tmps (Rv R) (ds.map mark) .returning w
  | [], w, ⟨_, _, h⟩ => by
    obtain ⟨v, hr, hR⟩ := retW_run hf (h w (Kp.refl _ _))
    exact ⟨v, hr, v, rfl, hR⟩
  | D :: ds, w, ⟨hn, hd, h⟩ => by
    refine ⟨by simp, .inl ⟨D, _, rfl, run_takeDeferred (hd D (by simp)), leaves_of_marks hf ds _ ⟨(List.nodup_cons.1 hn).2, fun E hE => ?_, fun w' hk => h w' ?_⟩⟩⟩
    · rw [World.putObj_heap_other (fun e => (List.nodup_cons.1 hn).1 (by subst e; exact hE))]
      exact hd E (List.mem_cons_of_mem _ hE)
    · have : Kp (fun k => k ∈ D :: ds) w (w.putObj D (.deferred none)) := (Kp.refl _ _).putObj (hd D (by simp)) rfl rfl (fun _ => by simp)
      exact this.trans hk (fun k _ hk => List.mem_cons_of_mem _ hk)

theorem calls_of_trT {P : Program} {G : Nat → Bool} {L : Nat → List (Nat × Kd)} {f : FuncId} {fn : Func} {args : List Value} {w : World} {R : K} (hf : P.funcs[f]? = some fn) (hG : Enters P G) (hM : P.follows .mixedOrders = true)
    (h : trFT P G L fn args w R) : Calls P f ⟨args⟩ w (Rv R) := by
  unfold trFT at h
  split at h
  · rename_i c hb
    obtain ⟨hle, h⟩ := ck.ex h
    have hle := Nat.le_of_ble_eq_true hle
    refine (callsIn_wide (n := 0)).1 (callsIn_of_wp_marks (F := Fence.wide) hf hb trivial ?_ rfl)
    refine wpIn_mono (Q := QC fn.ntmps [] [] (fun ds loc w => retM P fn.results.toList R ds (evS loc []) w) (fun _ _ _ _ => False) (fun ds f w => retM P fn.results.toList R ds f w))
      (trT_sound (cx := ⟨P, G, fn.ntmps, L⟩) hG hM c [] _ _ _ [] (entryL args 0) w _ h ⟨?_, rfl, ?_⟩) ?_
    · simp; omega
    · intro s v hs
      simp only [evS, ev, entryL_find, Nat.not_lt_zero, if_false, Nat.sub_zero, find] at hs
      have hs' : args[s]? = some v := by
        cases ha : args[s]? with
        | none => rw [ha] at hs; simp at hs
        | some u => rw [ha] at hs; simpa using hs
      have hlt : s < args.length := (List.getElem?_eq_some_iff.1 hs').1
      have := (List.getElem?_eq_some_iff.1 hs').2
      simp [Array.getElem?_append, hlt, this]
    · intro e a w' hq
      cases e with
      | normal =>
        obtain ⟨dl, loc, hag, hk⟩ := hq
        simp only [List.append_nil] at hag
        show LeavesInM Fence.wide 0 P fn a.tmps (Rv R) a.defers .returning w'
        rw [hag.defers]
        exact leaves_of_marks hag.slot dl w' hk
      | exit j => obtain ⟨_, _, _, hk⟩ := hq; exact hk.elim
      | ret =>
        obtain ⟨ds, fs, hag, hk⟩ := hq
        show LeavesInM Fence.wide 0 P fn a.tmps (Rv R) a.defers .returning w'
        rw [hag.defers]
        exact leaves_of_marks hag.slot ds w' hk
      | goto l => exact hq.elim
      | panic c => exact hq.elim
      | outgrown => exact hq.elim
  · exact h.elim

end Go.VC
