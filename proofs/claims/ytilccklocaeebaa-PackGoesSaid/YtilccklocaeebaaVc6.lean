/- A verification-condition generator for the model's code: regions, tests, loops, returns. -/
import Derived.Test.YtilccklocaeebaaVc5f
namespace Go.VC
open Go

/-- What is known of the place where the code stands: the program, the functions that may be called, the number of slots, each loop's carried slots. -/
structure Cx where
  P : Program
  G : Nat → Bool
  N : Nat
  L : Nat → List (Nat × Kd)

def trOps (cx : Cx) (ops : List Oper) (base : Env) : List Oper → (Env → World → Prop) → Env → World → Prop
  | [], kn, loc, w => kn loc w
  | o :: os, kn, loc, w => ck (dstOk cx.N o) (match o.guard with
    | none => trOp cx.P cx.G (ev loc base) o w fun v w' => trOps cx ops base os kn (upd o v loc) w'
    | some (j, pos) => wvs (slotOf ops j) fun s => wv (ev loc base (.tmp s)) fun g => grd g (fun b =>
        match pos with
        | true => br b (trOp cx.P cx.G (ev ((s, some (.bool true)) :: loc) base) o w fun v w' => trOps cx ops base os kn (upd o v ((s, some (.bool true)) :: loc)) w')
            (trOps cx ops base os kn (kil o ((s, some (.bool false)) :: loc)) w)
        | false => br b (trOps cx ops base os kn (kil o ((s, some (.bool true)) :: loc)) w)
            (trOp cx.P cx.G (ev ((s, some (.bool false)) :: loc) base) o w fun v w' => trOps cx ops base os kn (upd o v ((s, some (.bool false)) :: loc)) w'))
        (trOps cx ops base os kn (kil o loc) w))

@[reducible] def Cur (R : Type) : List (Nat × Kd) → Type
  | [] => R
  | (_, k) :: ks => k.T → Cur R ks

def allK : (ks : List (Nat × Kd)) → Cur (World → Prop) ks → Cur (World → Nat) ks → (Env → (World → Prop) → (World → Nat) → Prop) → Prop
  | [], I, μ, q => q [] I μ
  | (s, k) :: ks, I, μ, q => ∀ x : k.T, allK ks (I x) (μ x) fun e I' μ' => q ((s, some (k.inj x)) :: e) I' μ'

def getK : (ks : List (Nat × Kd)) → Sl → Cur (World → Prop) ks → Cur (World → Nat) ks → ((World → Prop) → (World → Nat) → Prop) → Prop
  | [], _, I, μ, q => q I μ
  | (s, k) :: ks, f, I, μ, q => match f s with
    | some v => match k.prj v with
      | some x => getK ks f (I x) (μ x) q
      | none => False
    | none => False

def meas : (ks : List (Nat × Kd)) → Sl → Cur (World → Nat) ks → World → Nat
  | [], _, μ => μ
  | (s, k) :: ks, f, μ => match f s with
    | some v => match k.prj v with
      | some x => meas ks f (μ x)
      | none => fun _ => 0
    | none => fun _ => 0

def evS (loc base : Env) (s : Nat) : Option Value := ev loc base (.tmp s)

def firstR : Code → Option Nat
  | .region id _ _ => some id
  | .seq a b | .cond _ a b => match firstR a with
    | some i => some i
    | none => firstR b
  | .block _ c | .loop c => firstR c
  | .rangeFunc _ _ a _ => firstR a
  | _ => none

def mods : Code → List Nat
  | .region _ ops _ => ops.toList.filterMap (·.dst)
  | .seq a b | .cond _ a b => mods a ++ mods b
  | .block _ c | .loop c => mods c
  | _ => []

def isNil {α : Type} : List α → Bool
  | [] => true
  | _ => false

def inL (ms : List Nat) (s : Nat) : Bool := match ms with
  | [] => false
  | m :: ms => match Nat.beq s m with
    | true => true
    | false => inL ms s
def allIn (ms : List Nat) : Env → Bool
  | [] => true
  | (s, _) :: e => inL ms s && allIn ms e

def kills (ms : List Nat) : Env := ms.map fun s => (s, none)

/-- The slots behind a region that drew its order. -/
def finE (vals loc : Env) : List Oper → Nat → Env
  | [], _ => loc
  | o :: os, i => match o.dst with
    | some d => (d, (find vals i).join) :: finE vals loc os (i + 1)
    | none => finE vals loc os (i + 1)

theorem finE_find {vals loc : Env} {os : List Oper} {i : Nat} {s : Nat} : find (finE vals loc os i) s = match wrF os i s with
    | some j => some (find vals j).join
    | none => find loc s := by
  induction os generalizing i with
  | nil => rfl
  | cons o os ih =>
    simp only [finE, wrF]
    cases hd : o.dst with
    | none => simp only; exact ih
    | some d =>
      simp only [find]
      by_cases e : d = s
      · subst e; simp [Nat.beq_refl]
      · rw [nbeq.2 e, nbeq.2 (Ne.symm e)]; exact ih

def trC (cx : Cx) : Code → List Nat → Env → Ct → (Nat → Ct) → (List Nat → Sl → World → Prop) → Ct
  | .skip, _, _, kn, _, _, dl, loc, w => kn dl loc w
  | .region _ ops false, _, base, kn, _, _, dl, loc, w => trOps cx ops.toList base ops.toList (fun loc w => kn dl loc w) loc w
  | .region _ ops true, _, base, kn, _, _, dl, loc, w => ck (edgesOk ops.toList 0 && dstsOk cx.N ops.toList)
      (trDr cx.P cx.G ops.toList (befs ops.toList []) (ev loc base) (ops.toList.length + 1) 0 [] [] w.drew fun vals w => kn dl (finE vals loc ops.toList 0) w)
  | .seq a b, db, base, kn, kx, kr, dl, loc, w => trC cx a db base (fun dl loc w => trC cx b db base kn kx kr dl loc w) kx kr dl loc w
  | .cond c a b, db, base, kn, kx, kr, dl, loc, w => wv (ev loc base c) fun v => wb v fun t => br t (trC cx a db base kn kx kr dl loc w) (trC cx b db base kn kx kr dl loc w)
  | .block id c, db, base, kn, kx, kr, dl, loc, w => trC cx c db base kn (fun j dl loc w => match Nat.beq j id with
      | true => kn dl loc w
      | false => kx j dl loc w) kr dl loc w
  | .exit id, _, _, _, kx, _, dl, loc, w => kx id dl loc w
  | .ret, db, base, _, _, kr, dl, loc, w => kr (dl ++ db) (evS loc base) w
  | .loop c, db, base, _, kx, kr, dl, loc, w =>
      ∃ (I : Cur (World → Prop) (cx.L ((firstR c).getD 0))) (μ : Cur (World → Nat) (cx.L ((firstR c).getD 0))),
        getK (cx.L ((firstR c).getD 0)) (evS loc base) I μ (fun I' _ => I' w) ∧
        allK (cx.L ((firstR c).getD 0)) I μ fun ent I1 μ1 => ck (allIn (mods c) ent) (∀ w1, I1 w1 →
          trC cx c (dl ++ db) (kills (mods c) ++ (loc ++ base))
            (fun d2 l2 w2 => ck (isNil d2 && allIn (mods c) l2) (getK (cx.L ((firstR c).getD 0)) (evS l2 (kills (mods c) ++ (loc ++ base))) I μ (fun I2 μ2 => I2 w2 ∧ μ2 w2 < μ1 w1)))
            (fun j d2 l2 w2 => kx j (d2 ++ dl) (l2 ++ (kills (mods c) ++ loc)) w2) kr [] ent w1)
  | _, _, _, _, _, _, _, _, _ => False

/-- The frame is as told. -/
structure Ag (N : Nat) (ds : List Nat) (f : Sl) (a : Act) : Prop where
  size : a.tmps.size = N
  defers : a.defers = ds.map mark
  slot : ∀ s v, f s = some v → a.tmps[s]? = some v

theorem Ag.eval {N : Nat} {ds : List Nat} {loc base : Env} {a : Act} (h : Ag N ds (evS loc base) a) : ∀ x v, ev loc base x = some v → a.eval x = v := by
  intro x v hx
  cases x with
  | tmp t => have := h.slot t v hx; simp [Act.eval, Array.getD_eq_getD_getElem?, this]
  | const u => simpa [ev, Act.eval] using hx
  | global g => simpa [ev, Act.eval] using hx
  | func f => simpa [ev, Act.eval] using hx

theorem evS_cons (s : Nat) (v : Option Value) (loc base : Env) (t : Nat) : evS ((s, v) :: loc) base t = if t = s then v else evS loc base t := by
  simp only [evS, ev, find]
  by_cases h : t = s
  · subst h; simp [Nat.beq_refl]
  · have : Nat.beq t s = false := by
      cases hh : Nat.beq t s with
      | false => rfl
      | true => exact absurd (Nat.eq_of_beq_eq_true hh) h
    simp [this, h]

theorem Ag.upd {N : Nat} {ds : List Nat} {loc base : Env} {a : Act} (h : Ag N ds (evS loc base) a) {o : Oper} (ho : dstOk N o = true) (v : Value) : Ag N ds (evS (upd o v loc) base) (a.put o.dst v) := by
  unfold dstOk at ho
  unfold VC.upd Act.put
  cases hd : o.dst with
  | none => exact h
  | some d =>
    simp only [hd] at ho ⊢
    have hlt : d < N := Nat.le_of_ble_eq_true ho
    refine ⟨by simpa using h.size, h.defers, fun s u hs => ?_⟩
    rw [evS_cons] at hs
    split at hs
    · rename_i e; subst e; simp only [Option.some.injEq] at hs; subst hs; simp [h.size, hlt]
    · rename_i e; rw [Array.getElem?_setIfInBounds_ne (Ne.symm e)]; exact h.slot s u hs

theorem Ag.know {N : Nat} {ds : List Nat} {loc base : Env} {a : Act} (h : Ag N ds (evS loc base) a) {s : Nat} {v : Value} (hs : evS loc base s = some v) : Ag N ds (evS ((s, some v) :: loc) base) a :=
  ⟨h.size, h.defers, fun t u ht => by
    rw [evS_cons] at ht
    split at ht
    · rename_i e; subst e; rw [← ht] at *; exact h.slot _ _ hs
    · exact h.slot _ _ ht⟩

theorem wanted_of {ops : Array Oper} {a : Act} {N : Nat} {ds : List Nat} {f : Sl} (h : Ag N ds f a) {o : Oper} {j : Nat} {pos b : Bool} {s : Nat} (hg : o.guard = some (j, pos)) (hs : slotOf ops.toList j = some s) (hb : f s = some (.bool b)) :
    Region.wanted o (yielded ops a.tmps) = (b == pos) := by
  have h1 := h.slot _ _ hb
  have h2 : ((ops[j]?).bind (·.dst)) = some s := by simpa [slotOf] using hs
  simp only [Region.wanted, hg, yielded, h2, Option.bind_some, h1]
  cases b <;> cases pos <;> rfl

section
variable {F : Fence} {n : Nat} {P : Program} {Q : Exit → Act → World → Prop}

theorem trOps_sound {cx : Cx} (hG : Enters cx.P cx.G) {r : Option Nat} (ops : Array Oper) (ds : List Nat) (base : Env) :
    ∀ (os : List Oper) (i : Nat), (∀ j, os[j]? = ops[i + j]?) → ∀ (kn : Env → World → Prop) (loc : Env) (w : World) (a : Act), trOps cx ops.toList base os kn loc w → Ag cx.N ds (evS loc base) a →
      (∀ loc' w' a', kn loc' w' → Ag cx.N ds (evS loc' base) a' → Q .normal a' w') → wpOpsIn (Wd r) n cx.P ops Q (List.range' i os.length) a w
  | [], i, hi, kn, loc, w, a, h, ha, hQ => hQ _ _ _ h ha
  | o :: os, i, hi, kn, loc, w, a, h, ha, hQ => by
    have h0 : ops[i]? = some o := by simpa using (hi 0).symm
    have hi' : ∀ j, os[j]? = ops[i + 1 + j]? := fun j => by have := hi (j + 1); simpa [Nat.add_assoc, Nat.add_comm 1 j] using this
    have ih := trOps_sound hG (r := r) ops ds base os (i + 1) hi'
    simp only [List.length_cons, List.range'_succ, wpOpsIn, h0]
    simp only [trOps] at h
    obtain ⟨hd, h⟩ := ck.ex h
    have run : ∀ loc', Ag cx.N ds (evS loc' base) a → trOp cx.P cx.G (ev loc' base) o w (fun v w' => trOps cx ops.toList base os kn (VC.upd o v loc') w') → o.wpIn (Wd r) n cx.P a w (wpOpsIn (Wd r) n cx.P ops Q (List.range' (i + 1) os.length)) Q := fun loc' ha' h' =>
      wpIn_of_post (trOp_nd h') (op_post hG ha'.eval h') fun v w' hk => ih kn _ _ _ hk (ha'.upd hd v) hQ
    split at h
    · rename_i hg
      have hw : Region.wanted o (yielded ops a.tmps) = true := by simp [Region.wanted, hg]
      rw [if_pos hw]
      exact run loc ha h
    · rename_i j pos hg
      obtain ⟨s, hs, h⟩ := wvs.ex h
      obtain ⟨g, hgv, h⟩ := wv.ex h
      cases g <;> try exact h.elim
      case tuple vs =>
        have hw : Region.wanted o (yielded ops a.tmps) = false := by
          have h1 := ha.slot _ _ hgv
          have h2 : ((ops[j]?).bind (·.dst)) = some s := by simpa [slotOf] using hs
          simp only [Region.wanted, hg, yielded, h2, Option.bind_some, h1]
          rfl
        rw [if_neg (by rw [hw]; simp)]
        exact ⟨fun _ _ => trivial, ih kn _ _ _ h (ha.upd hd _) hQ⟩
      rename_i b
      have hw := wanted_of ha hg hs hgv
      cases pos <;> cases b
      · rw [if_pos (by rw [hw]; rfl)]
        exact run _ (ha.know hgv) h
      · rw [if_neg (by rw [hw]; simp)]
        exact ⟨fun _ _ => trivial, ih kn _ _ _ h ((ha.know hgv).upd hd _) hQ⟩
      · rw [if_neg (by rw [hw]; simp)]
        exact ⟨fun _ _ => trivial, ih kn _ _ _ h ((ha.know hgv).upd hd _) hQ⟩
      · rw [if_pos (by rw [hw]; rfl)]
        exact run _ (ha.know hgv) h


theorem find_append (e1 e2 : Env) (s : Nat) : find (e1 ++ e2) s = match find e1 s with
    | some r => some r
    | none => find e2 s := by
  induction e1 with
  | nil => rfl
  | cons x e1 ih =>
    obtain ⟨j, v⟩ := x
    simp only [List.cons_append, find]
    split
    · rfl
    · exact ih

theorem evS_assoc (l m b : Env) : evS l (m ++ b) = evS (l ++ m) b := by
  funext s
  simp only [evS, ev, find_append]
  cases find l s with
  | none => cases find m s <;> rfl
  | some r => rfl

theorem inL_iff {ms : List Nat} {s : Nat} : inL ms s = true ↔ s ∈ ms := by
  induction ms with
  | nil => simp [inL]
  | cons m ms ih =>
    simp only [inL]
    split
    · rename_i h; simp [Nat.eq_of_beq_eq_true h]
    · rename_i h
      rw [ih]
      have : s ≠ m := fun e => by subst e; simp [Nat.beq_refl] at h
      simp [this]

theorem find_none_of_allIn {ms : List Nat} {e : Env} (h : allIn ms e = true) {s : Nat} (hs : s ∉ ms) : find e s = none := by
  induction e with
  | nil => rfl
  | cons x e ih =>
    obtain ⟨j, v⟩ := x
    simp only [allIn, Bool.and_eq_true] at h
    simp only [find]
    split
    · rename_i hb
      have := Nat.eq_of_beq_eq_true hb
      subst this
      exact absurd (inL_iff.1 h.1) hs
    · exact ih h.2

theorem find_kills {ms : List Nat} (s : Nat) : find (kills ms) s = if s ∈ ms then some none else none := by
  induction ms with
  | nil => rfl
  | cons m ms ih =>
    simp only [kills, List.map_cons, find]
    by_cases h : s = m
    · subst h; simp [Nat.beq_refl]
    · have : Nat.beq s m = false := by
        cases hh : Nat.beq s m with
        | false => rfl
        | true => exact absurd (Nat.eq_of_beq_eq_true hh) h
      simp only [this, List.mem_cons, h, false_or]
      exact ih

/-- The carried slots, taken out of a frame. -/
theorem getK_out : ∀ {ks : List (Nat × Kd)} {f : Sl} {I : Cur (World → Prop) ks} {μ : Cur (World → Nat) ks} {q : (World → Prop) → (World → Nat) → Prop}, getK ks f I μ q →
    ∃ (e : Env) (I' : World → Prop) (μ' : World → Nat), q I' μ' ∧ (∀ s v, find e s = some v → v = f s ∧ v ≠ none) ∧ (∀ q', allK ks I μ q' → q' e I' μ') ∧ (∀ g : Sl, (∀ s v, f s = some v → g s = some v) → meas ks g μ = μ')
  | [], f, I, μ, q, h => ⟨[], I, μ, h, fun s v hs => by simp [find] at hs, fun q' h' => h', fun _ _ => rfl⟩
  | (s, k) :: ks, f, I, μ, q, h => by
    simp only [getK] at h
    split at h
    · rename_i v hv
      split at h
      · rename_i x hx
        obtain ⟨e, I', μ', hq, hf, ha, hm⟩ := getK_out h
        have hv' := Kd.prj_inj hx
        refine ⟨(s, some (k.inj x)) :: e, I', μ', hq, ?_, ?_, ?_⟩
        · intro t u ht
          simp only [find] at ht
          split at ht
          · rename_i hb
            have := Nat.eq_of_beq_eq_true hb
            subst this
            simp only [Option.some.injEq] at ht
            subst ht
            exact ⟨by rw [hv, hv'], by simp⟩
          · exact hf t u ht
        · intro q' h'
          exact ha _ (h' x)
        · intro g hg
          simp only [meas, hg _ _ hv, hx]
          exact hm g hg
      · exact h.elim
    · exact h.elim

theorem Ag.enter {N : Nat} {ds : List Nat} {f : Sl} {base : Env} {ms : List Nat} {e l : Env} {a : Act} (h : Ag N ds f a) (hf : f = evS l (kills ms ++ base) ∨ (f = evS [] base)) (hl : allIn ms l = true)
    (he : ∀ s v, find e s = some v → v = f s ∧ v ≠ none) : Ag N ds (evS e (kills ms ++ base)) a := by
  refine ⟨h.size, h.defers, fun s v hs => ?_⟩
  simp only [evS, ev, find_append, find_kills] at hs
  cases hfe : find e s with
  | some r =>
    rw [hfe] at hs
    simp only at hs
    subst hs
    exact h.slot s v ((he s _ hfe).1).symm
  | none =>
    rw [hfe] at hs
    simp only at hs
    by_cases hm : s ∈ ms
    · simp [hm] at hs
    · simp only [hm, if_false] at hs
      apply h.slot
      rcases hf with rfl | rfl
      · simp only [evS, ev, find_none_of_allIn hl hm, find_append, find_kills, hm, if_false]
        exact hs
      · simp only [evS, ev, find]
        exact hs

/-- What the code comes to. -/
def QC (N : Nat) (db : List Nat) (base : Env) (kn : Ct) (kx : Nat → Ct) (kr : List Nat → Sl → World → Prop) : Exit → Act → World → Prop
  | .normal, a, w => ∃ dl loc, Ag N (dl ++ db) (evS loc base) a ∧ kn dl loc w
  | .exit j, a, w => ∃ dl loc, Ag N (dl ++ db) (evS loc base) a ∧ kx j dl loc w
  | .ret, a, w => ∃ ds f, Ag N ds f a ∧ kr ds f w
  | _, _, _ => False

theorem trC_sound {cx : Cx} (hG : Enters cx.P cx.G) (hMx : cx.P.follows .mixedOrders = true) {r : Option Nat} (c : Code) : ∀ (db : List Nat) (base : Env) (kn : Ct) (kx : Nat → Ct) (kr : List Nat → Sl → World → Prop) (dl : List Nat) (loc : Env) (w : World) (a : Act),
    trC cx c db base kn kx kr dl loc w → Ag cx.N (dl ++ db) (evS loc base) a → c.wpIn (Wd r) n cx.P (QC cx.N db base kn kx kr) a w := by
  induction c with
  | skip => intro db base kn kx kr dl loc w a h ha; exact wpIn_skip ⟨dl, loc, ha, h⟩
  | region id ops draw =>
    intro db base kn kx kr dl loc w a h ha
    cases draw with
    | false =>
      refine wpIn_region ?_
      have := trOps_sound (Q := QC cx.N db base kn kx kr) (n := n) hG (r := r) ops (dl ++ db) base ops.toList 0 (fun j => by simp) _ loc w a h ha (fun loc' w' a' hk ha' => ⟨dl, loc', ha', hk⟩)
      rwa [Array.length_toList, ← List.range_eq_range'] at this
    | true =>
      obtain ⟨hck, h⟩ := ck.ex h
      simp only [Bool.and_eq_true] at hck
      refine wpIn_region_any hMx (dr_sound (N := cx.N) (ds := dl ++ db) hG hck.1 hck.2 ?_ ops.size _ a _ _ 0 [] [] (by simp) ?_ h ?_)
      · intro vals w' a' hk hsz hdf hoc h0 h1
        refine ⟨dl, _, ⟨hsz, hdf, fun s v hs => ?_⟩, hk⟩
        simp only [evS, ev, finE_find] at hs
        cases hw : wrF ops.toList 0 s with
        | none => rw [hw] at hs; exact h0 s v hw hs
        | some j =>
          rw [hw] at hs
          simp only at hs
          refine h1 s j v hw ?_
          cases hf : find vals j with
          | none => rw [hf] at hs; cases hs
          | some y => rw [hf] at hs; simp at hs; rw [hs]
      · have := List.countP_le_length (p := fun i => !(Array.replicate ops.size false).getD i true) (l := List.range ops.size)
        simpa using this
      · have hno : ∀ i, ¬ (i < ops.size ∧ (Array.replicate ops.size false).getD i false = true) := by
          rintro i ⟨hi, hh⟩
          simp [Array.getD_eq_getD_getElem?, hi] at hh
        refine ⟨fun i hi => (hno i hi).elim, fun _ _ => rfl, fun i _ hi => by simp [ebit_zero] at hi, fun j hj => (hno j hj).elim, fun i o hi => by simp [ebit_zero] at hi, ha.size, ha.defers, ?_, ?_, ?_, ?_⟩
        · intro s v _ hs; exact ha.slot s v hs
        · intro s j v _ hj; exact (hno j hj).elim
        · intro s j v _ _ hs; exact ha.slot s v hs
        · intro x v _ hx; exact ha.eval x v hx
  | seq x y ihx ihy =>
    intro db base kn kx kr dl loc w a h ha
    refine wpIn_seq (wpIn_mono (ihx db base _ kx kr dl loc w a h ha) ?_)
    intro e a' w' hq
    cases e with
    | normal => obtain ⟨dl', loc', ha', hk⟩ := hq; exact ihy db base kn kx kr dl' loc' w' a' hk ha'
    | exit j => exact hq
    | ret => exact hq
    | goto l => exact hq
    | panic c => exact hq
    | outgrown => exact hq
  | cond c x y ihx ihy =>
    intro db base kn kx kr dl loc w a h ha
    obtain ⟨v, hv, h⟩ := wv.ex h
    obtain ⟨t, rfl, h⟩ := wb.ex h
    cases t with
    | true => exact wpIn_cond_true (ha.eval _ _ hv) (ihx db base kn kx kr dl loc w a h ha)
    | false => exact wpIn_cond_false (ha.eval _ _ hv) (ihy db base kn kx kr dl loc w a h ha)
  | block id c ih =>
    intro db base kn kx kr dl loc w a h ha
    refine wpIn_block (wpIn_mono (ih db base kn _ kr dl loc w a h ha) ?_)
    intro e a' w' hq
    cases e with
    | normal => exact hq
    | exit j =>
      obtain ⟨dl', loc', ha', hk⟩ := hq
      simp only [Exit.inBlock]
      cases hb : Nat.beq j id with
      | true =>
        rw [hb] at hk
        rw [if_pos (Nat.eq_of_beq_eq_true hb)]
        exact ⟨dl', loc', ha', hk⟩
      | false =>
        rw [hb] at hk
        rw [if_neg (fun e => by subst e; simp [Nat.beq_refl] at hb)]
        exact ⟨dl', loc', ha', hk⟩
    | ret => exact hq
    | goto l => exact hq
    | panic c => exact hq
    | outgrown => exact hq
  | loop c ih =>
    intro db base kn kx kr dl loc w a h ha
    obtain ⟨I, μ, h0, hall⟩ := h
    obtain ⟨e0, I0, μ0, hI0, he0, hq0, hm0⟩ := getK_out h0
    have hent0 := hq0 _ hall
    refine wpIn_loop (fun a w => ∃ (e : Env) (I1 : World → Prop) (μ1 : World → Nat), allIn (mods c) e = true ∧ (∀ w1, I1 w1 → trC cx c (dl ++ db) (kills (mods c) ++ (loc ++ base))
            (fun d2 l2 w2 => ck (isNil d2 && allIn (mods c) l2) (getK (cx.L ((firstR c).getD 0)) (evS l2 (kills (mods c) ++ (loc ++ base))) I μ (fun I2 μ2 => I2 w2 ∧ μ2 w2 < μ1 w1)))
            (fun j d2 l2 w2 => kx j (d2 ++ dl) (l2 ++ (kills (mods c) ++ loc)) w2) kr [] e w1) ∧ I1 w ∧ Ag cx.N (dl ++ db) (evS e (kills (mods c) ++ (loc ++ base))) a ∧ meas (cx.L ((firstR c).getD 0)) (fun s => a.tmps[s]?) μ = μ1)
      (fun a w => meas (cx.L ((firstR c).getD 0)) (fun s => a.tmps[s]?) μ w) ?_ ?_
    · obtain ⟨ha1, ha2⟩ := ck.ex hent0
      refine ⟨e0, I0, μ0, ha1, ha2, hI0, ?_, hm0 _ ha.slot⟩
      exact Ag.enter (l := []) ha (.inr (by rw [evS_assoc]; rfl)) rfl he0
    · rintro a1 w1 ⟨e, I1, μ1, hal, hbody, hI, hag, hme⟩
      refine wpIn_mono (ih (dl ++ db) _ _ _ kr [] e w1 a1 (hbody w1 hI) (by simpa using hag)) ?_
      intro ex a2 w2 hq
      cases ex with
      | normal =>
        obtain ⟨d2, l2, hag2, hk⟩ := hq
        obtain ⟨hck, hk'⟩ := ck.ex hk
        clear hk
        simp only [Bool.and_eq_true] at hck
        have hd2 : d2 = [] := by cases d2 <;> simp_all [isNil]
        subst hd2
        simp only [List.nil_append] at hag2
        obtain ⟨e2, I2, μ2, ⟨hI2, hlt⟩, he2, hq2, hm2⟩ := getK_out hk'
        obtain ⟨hb1, hb2⟩ := ck.ex (hq2 _ hall)
        refine ⟨⟨e2, I2, μ2, hb1, hb2, hI2, Ag.enter hag2 (.inl rfl) hck.2 he2, hm2 _ hag2.slot⟩, ?_⟩
        rw [hm2 _ hag2.slot, hme]
        exact hlt
      | exit j =>
        obtain ⟨d2, l2, hag2, hk⟩ := hq
        refine ⟨_, _, ?_, hk⟩
        rw [← List.append_assoc (kills (mods c)) loc base, evS_assoc] at hag2
        rw [List.append_assoc]
        exact hag2
      | ret => exact hq
      | goto l => exact hq.elim
      | panic c => exact hq.elim
      | outgrown => exact hq.elim
  | rangeFunc f ps x y ihx ihy => intro db base kn kx kr dl loc w a h ha; exact h.elim
  | exit id => intro db base kn kx kr dl loc w a h ha; exact wpIn_exit ⟨dl, loc, ha, h⟩
  | scope c ih => intro db base kn kx kr dl loc w a h ha; exact h.elim
  | label l => intro db base kn kx kr dl loc w a h ha; exact h.elim
  | goto l => intro db base kn kx kr dl loc w a h ha; exact h.elim
  | ret => intro db base kn kx kr dl loc w a h ha; exact wpIn_ret ⟨_, _, ha, h⟩
  | refuse y => intro db base kn kx kr dl loc w a h ha; exact h.elim

end
end Go.VC
