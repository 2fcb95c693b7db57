/- A verification-condition generator for the model's code: regions that draw their order. Operations that only reckon are taken as soon as they can be; the others in every order that the edges let; a load that may come later must read the same behind each of the others. -/
import Derived.Test.YtilccklocaeebaaVc5p
namespace Go.VC
open Go

section
variable {P : Program} {G : Nat → Bool} {w : World} {k : K}

/-- An operation that only reckons: its value; and, if it is no load, the same in whatever world. -/
theorem flo_run {e : Eval} {ρ : Operand → Value} (hG : Enters P G) (he : ∀ x v, e x = some v → ρ x = v) {o : Oper} (hf : floO P o = true) (hv : floV P e o = true) (h : trOp P G e o w k) :
    ∃ v, k v w ∧ (execOp ρ o).run P w = .ok (.value v) w ∧ (isLoad o = false → ∀ w2, (execOp ρ o).run P w2 = .ok (.value v) w2) := by
  have gen : PureRun P (execOp ρ o) → (∀ f args w2 w3, (execOp ρ o).run P w2 ≠ .ok (.enter f args) w3) → (∀ w2 w3, (execOp ρ o).run P w2 ≠ .ok .skip w3) → (∀ l f tmps a b w2 w3, (execOp ρ o).run P w2 ≠ .ok (.round l f tmps a b) w3) →
      ∃ v, k v w ∧ (execOp ρ o).run P w = .ok (.value v) w ∧ (isLoad o = false → ∀ w2, (execOp ρ o).run P w2 = .ok (.value v) w2) := by
    intro hp h1 h2 h3
    have hpost := op_post hG he h
    cases hr : (execOp ρ o).run P w with
    | halt x y => rw [hr] at hpost; cases hpost
    | ok nx w' =>
      obtain ⟨rfl, hall⟩ := hp _ _ _ hr
      rw [hr] at hpost
      cases hpost with
      | value hk => exact ⟨_, hk, rfl, fun _ => hall⟩
      | skip hk => exact (h2 _ _ hr).elim
      | enter hk => exact (h1 _ _ _ _ hr).elim
      | round hk => exact (h3 _ _ _ _ _ _ _ hr).elim
  have val : ∀ m : Sem Value, execOp ρ o = (do Pure.pure (Next.value (← m))) → PureRun P m →
      ∃ v, k v w ∧ (execOp ρ o).run P w = .ok (.value v) w ∧ (isLoad o = false → ∀ w2, (execOp ρ o).run P w2 = .ok (.value v) w2) := by
    intro m hm hp
    have hne : ∀ w2 nx w3, (execOp ρ o).run P w2 = .ok nx w3 → ∃ v, nx = .value v := by
      intro w2 nx w3 hr
      rw [hm] at hr
      simp only [Sem.run_bind, Sem.run_pure] at hr
      cases hmr : m.run P w2 with
      | halt x y => rw [hmr] at hr; cases hr
      | ok v w4 => rw [hmr] at hr; simp only [Result.andThen_ok, Result.ok.injEq] at hr; exact ⟨v, hr.1.symm⟩
    refine gen (by rw [hm]; exact hp.toNext) ?_ ?_ ?_
    · intro f args w2 w3 hr; obtain ⟨v, hv⟩ := hne _ _ _ hr; cases hv
    · intro w2 w3 hr; obtain ⟨v, hv⟩ := hne _ _ _ hr; cases hv
    · intro l f tmps a b w2 w3 hr; obtain ⟨v, hv⟩ := hne _ _ _ hr; cases hv
  have direct : ∀ v, (∀ w2, (execOp ρ o).run P w2 = .ok (.value v) w2) → ∃ v, k v w ∧ (execOp ρ o).run P w = .ok (.value v) w ∧ (isLoad o = false → ∀ w2, (execOp ρ o).run P w2 = .ok (.value v) w2) := by
    intro v hall
    have hpost := op_post hG he h
    rw [hall] at hpost
    cases hpost with
    | value hk => exact ⟨_, hk, hall _, fun _ => hall⟩
  unfold floV at hv
  simp only [Bool.and_eq_true] at hv
  replace hv := hv.2
  unfold floO at hf
  split at hf
  case h_1 x ho => exact direct (ρ x) fun w2 => by simp only [execOp, ho]; rfl
  case h_2 x ho => exact direct (ρ x) fun w2 => by simp only [execOp, ho]; rfl
  case h_3 c a b ho =>
    simp only [trOp, ho] at h
    obtain ⟨v, hv, h⟩ := wv.ex h
    obtain ⟨t, rfl, _⟩ := wb.ex h
    exact direct (if t then ρ a else ρ b) fun w2 => by simp [execOp, ho, he _ _ hv, asBool]
  case h_4 x ho =>
    have h' := h
    simp only [trOp, ho] at h'
    obtain ⟨v, hv, h'⟩ := wv.ex h'
    refine direct v fun w2 => ?_
    simp only [execOp, ho, he _ _ hv]
    unfold nilC at h'
    split at h'
    · obtain ⟨a, rfl, _⟩ := wa.ex h'; rfl
    · exact h'.elim
    · exact h'.elim
    · exact h'.elim
    · rename_i h1 h2 h3 h4
      cases v <;> first | rfl | exact (h1 _ rfl).elim | exact (h2 rfl).elim | exact (h3 rfl).elim | skip
      rename_i fn first cap
      cases fn <;> first | rfl | exact (h4 _ _ _ rfl).elim
  case h_5 op t x ho => exact val (Op.unary op (ρ x)) (by simp only [execOp, ho]) (.unary _ _)
  case h_6 t a ho =>
    have h' := h
    simp only [trOp, ho] at h'
    obtain ⟨p, hp, h'⟩ := wv.ex h'
    obtain ⟨q, rfl, h'⟩ := wp.ex h'
    obtain ⟨ad, rfl, h'⟩ := wa.ex h'
    have hw : ∃ v, k v w ∧ (loadVar t ad).run P w = .ok v w := by
      unfold trLoad at h'
      split at h'
      · rename_i ha
        obtain ⟨vs, h'⟩ := ExL.ex h'
        obtain ⟨hs, h'⟩ := ck.ex h'
        obtain ⟨hc, h'⟩ := ldC.out h'
        refine ⟨_, h', ?_⟩
        have := loadCellsFrom_run (P := P) (w := w) ad vs 0 #[] (fun j v hv => by simpa using hc j v hv)
        simp [loadVar, und_of_aggT ha, hasT_size hs, loadCells, this]
      · rename_i ha
        obtain ⟨hT, h'⟩ := ck.ex h'
        obtain ⟨v, hc, h'⟩ := ExK.ex h'
        refine ⟨v, h', ?_⟩
        have h1 := isAggT_run (w := w) hT
        rw [ha] at h1
        simp [loadVar, h1, hc]
    obtain ⟨v, hk, hr⟩ := hw
    refine ⟨v, hk, ?_, fun hl => by simp [isLoad, ho] at hl⟩
    simp [execOp, ho, he _ _ hp, Instr.loadAt, Instr.sureAddr, hr]
  case h_7 t x f ho =>
    simp only [trOp, ho] at h
    obtain ⟨v, hv, h⟩ := wv.ex h
    unfold trFieldAddr at h
    split at h
    · rename_i fs hu
      split at h
      · rename_i fd hf
        obtain ⟨hT, h⟩ := ck.ex h
        obtain ⟨p, rfl, h⟩ := wp.ex h
        obtain ⟨a, rfl, h⟩ := wa.ex h
        simp only [Bool.and_eq_true, Bool.not_eq_true'] at hT
        have hf' : fs[f]? = some fd := by simpa using hf
        have h0 : szOf P fd.type ≠ 0 := Nat.ne_of_beq_eq_false hT.2
        have hall : ∀ w2, (execOp ρ o).run P w2 = .ok (.value (.pointer (some (a.add fd.offset)))) w2 := fun w2 => by
          simp [execOp, ho, he _ _ hv, Instr.fieldAt, run_und hu, hf', Instr.sureAddr, fieldPlace, szOf_run hT.1, h0]
        exact ⟨_, h, hall w, fun _ => hall⟩
      · exact h.elim
    · exact h.elim
  case h_8 t x f ho => exact val (Instr.field t (ρ x) f) (by simp only [execOp, ho]) (.field _ _ _)
  case h_9 t x i ho => exact val (Instr.indexAt t (ρ x) (ρ i)) (by simp only [execOp, ho]) (.indexAt _ _ _)
  case h_10 t x i ho => exact val (Instr.index t (ρ x) (ρ i)) (by simp only [execOp, ho]) (.index _ _ _)
  case h_11 x i ho => exact val (Instr.extract (ρ x) i) (by simp only [execOp, ho]) (.extract _ _)
  case h_12 t x ho => exact val (Instr.makeInterface t (ρ x)) (by simp only [execOp, ho]) (.mkIface _ _)
  case h_13 fn a b ho => exact val (Instr.makeFunc fn (a.map ρ) (b.map ρ)) (by simp only [execOp, ho]) (.pure _)
  case h_14 t x lo hi ho => exact val (Instr.sliceAt t (ρ x) (lo.map ρ) (hi.map ρ) none) (by simp only [execOp, ho, Option.map_none]) (.slice _ _ _ _)
  case h_15 s d x ho =>
    split at hf
    · rename_i hs hd
      simp only [ho] at hv
      split at hv
      · rename_i kd n hx
        refine val (convert s d (ρ x)) (by simp only [execOp, ho]) ?_
        rename_i _ kd2 _ _
        have hp : ∃ u, ∀ w2, (convert s d (ρ x)).run P w2 = .ok u w2 := ⟨_, fun w2 => by
          rw [he _ _ hx]; simp [convert, run_und hs, run_und hd, Conv.intToInt]; rfl⟩
        obtain ⟨u, hp⟩ := hp
        intro w1 v w' hr
        rw [hp] at hr
        simp only [Result.ok.injEq] at hr
        obtain ⟨rfl, rfl⟩ := hr
        exact ⟨rfl, hp⟩
      · cases hv
    · cases hf
  case h_16 op t x y yt ho =>
    simp only [ho] at hv
    split at hv
    · rename_i a b ha hb
      have e1 : execOp ρ o = (do Pure.pure (Next.value (← (do eqGuard op t x y a b; binOp op t a b : Sem Value)))) := by simp only [execOp, ho, he _ _ ha, he _ _ hb]
      have cmp : pb a b = true → ∃ v, k v w ∧ (execOp ρ o).run P w = .ok (.value v) w ∧ (isLoad o = false → ∀ w2, (execOp ρ o).run P w2 = .ok (.value v) w2) := fun hpb =>
        val _ e1 fun w1 v w' hr => pb_pure hpb hr
      have eqc : ∀ neg, op = (match neg with | true => BinOp.neq | false => .eql) → (isConstNil P t y b || (isConstNil P t x a || pb a b)) = true →
          ∃ v, k v w ∧ (execOp ρ o).run P w = .ok (.value v) w ∧ (isLoad o = false → ∀ w2, (execOp ρ o).run P w2 = .ok (.value v) w2) := by
        intro neg hop hcc
        cases hpb : pb a b with
        | true => exact cmp hpb
        | false =>
          rw [hpb, Bool.or_false] at hcc
          have h' := h
          simp only [trOp, ho, ha, hb, wv] at h'
          have h3 : trBin P op t o.type x y a b w k → trEq P neg op t o.type x y a b w k := by
            intro h'
            unfold trBin at h'
            split at h'
            · simp [pb] at hpb
            · simp [pb] at hpb
            · rename_i p q
              exfalso
              simp only [isConstNil, nilFor, Bool.or_eq_true, Bool.and_eq_true] at hcc
              rcases hcc with ⟨_, hcc⟩ | ⟨_, hcc⟩
              · split at hcc <;> simp_all
              · split at hcc <;> simp_all
            · subst hop; cases neg <;> exact h'
          have h2 : trEq P neg op t o.type x y a b w k := by
            unfold trBinN at h'
            subst hop
            cases neg
            · simp only at h'
              split at h'
              · rename_i hc
                unfold trEq
                rw [hc]
                exact h'
              · exact h3 h'
            · simp only at h'
              split at h'
              · rename_i hc
                unfold trEq
                rw [hc]
                exact h'
              · exact h3 h'
          obtain ⟨v, hk, hall⟩ := trEq_pure hop hcc h2
          have hall' : ∀ w2, (execOp ρ o).run P w2 = .ok (.value v) w2 := fun w2 => by
            rw [e1]
            have := hall w2
            simp only [Sem.run_bind] at this ⊢
            rw [this]
            rfl
          exact ⟨v, hk, hall' w, fun _ => hall'⟩
      cases op <;> first | exact eqc false rfl hv | exact eqc true rfl hv | exact cmp hv
    · cases hv
  case h_17 args ts ho =>
    simp only [ho] at hv
    have h' := h
    simp only [trOp, ho] at h'
    obtain ⟨vs, hvs, h'⟩ := wvs.ex h'
    have hm : args.map ρ = ⟨vs⟩ := by apply Array.ext'; rw [Array.toList_map]; exact evs_map he hvs
    have hu0 : ∃ t d, ts[0]? = some t ∧ P.underlying t = some d ∧ (d = .string ∨ ∃ el, d = .slice el) := by
      have key : ∀ d, und0 P ts = some d → ∃ t, ts[0]? = some t ∧ P.underlying t = some d := by
        intro d hd
        unfold und0 at hd
        split at hd
        · rename_i t tl ht
          exact ⟨t, by rw [← Array.getElem?_toList, ht]; rfl, hd⟩
        · cases hd
      split at hf
      · rename_i hu; obtain ⟨t, h1, h2⟩ := key _ hu; exact ⟨t, _, h1, h2, .inl rfl⟩
      · rename_i hu; obtain ⟨t, h1, h2⟩ := key _ hu; exact ⟨t, _, h1, h2, .inr ⟨_, rfl⟩⟩
      · cases hf
    obtain ⟨t, d, ht, hut, hd⟩ := hu0
    refine val (Builtin.len_ ts o.type ⟨vs⟩) (by simp only [execOp, ho, resolve, hm]; rfl) ?_
    rw [hvs] at hv
    have hlen2 : (∃ n, ∀ w2, (Builtin.len_ ts o.type ⟨vs⟩).run P w2 = .ok n w2) ∨ ∀ w2, ∃ x y, (Builtin.len_ ts o.type ⟨vs⟩).run P w2 = .halt x y := by
      split at hv
      · rename_i s hs
        simp only [Option.some.injEq] at hs
        subst hs
        rcases hd with rfl | ⟨el, rfl⟩
        · left; exact ⟨_, fun w2 => by simp [Builtin.len_, ht, run_und hut]; rfl⟩
        · right; intro w2; simp [Builtin.len_, ht, run_und hut]
      · rename_i a n c hs
        simp only [Option.some.injEq] at hs
        subst hs
        rcases hd with rfl | ⟨el, rfl⟩
        · right; intro w2; simp [Builtin.len_, ht, run_und hut]
        · left; exact ⟨_, fun w2 => by simp [Builtin.len_, ht, run_und hut]; rfl⟩
      · cases hv
    rcases hlen2 with ⟨n, hn⟩ | hn
    · intro w1 v w' hr
      rw [hn] at hr
      simp only [Result.ok.injEq] at hr
      obtain ⟨rfl, rfl⟩ := hr
      exact ⟨rfl, hn⟩
    · exact .halts hn
  case h_18 => cases hf


/-- The same, whatever frame agrees. -/
theorem flo_all {e : Eval} (hG : Enters P G) {o : Oper} (hf : floO P o = true) (hv : floV P e o = true) (h : trOp P G e o w k) :
    ∃ v, k v w ∧ ∀ ρ : Operand → Value, (∀ x u, e x = some u → ρ x = u) → (execOp ρ o).run P w = .ok (.value v) w ∧ (isLoad o = false → ∀ w2, (execOp ρ o).run P w2 = .ok (.value v) w2) := by
  obtain ⟨v, hk, h1, h2⟩ := flo_run (ρ := fun x => (e x).getD undef) hG (fun x v hx => by simp [hx]) hf hv h
  refine ⟨v, hk, fun ρ hρ => ?_⟩
  have hkn : known e (opsL o.op) = true := by
    unfold floV at hv
    simp only [Bool.and_eq_true] at hv
    exact hv.1
  have key : ∀ xs, known e xs = true → ∀ x ∈ xs, ρ x = (e x).getD undef := by
    intro xs
    induction xs with
    | nil => intro _ x hx; cases hx
    | cons y ys ih =>
      intro hk x hx
      simp only [known, Bool.and_eq_true] at hk
      rcases List.mem_cons.1 hx with rfl | hx
      · obtain ⟨u, hu⟩ := Option.isSome_iff_exists.1 hk.1
        rw [hρ _ _ hu, hu]; rfl
      · exact ih hk.2 x hx
  have he : execOp ρ o = execOp (fun x => (e x).getD undef) o := execOp_congrL hf (key _ hkn)
  rw [he]
  exact ⟨h1, h2⟩

end
end Go.VC
