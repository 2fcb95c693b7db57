/- A verification-condition generator for the model's code: what 'trOp' asks of any operation is enough. -/
import Derived.Test.YtilccklocaeebaaVc4
namespace Go.VC
open Go

section
variable {P : Program} {w : World} {k : K}

theorem evs_map {e : Eval} {ρ : Operand → Value} (he : ∀ x v, e x = some v → ρ x = v) : ∀ {xs : List Operand} {vs : List Value}, evs e xs = some vs → xs.map ρ = vs
  | [], vs, h => by simp [evs] at h; simp [h]
  | x :: xs, vs, h => by
    simp only [evs] at h
    split at h
    · rename_i v vs' h1 h2
      simp only [Option.some.injEq] at h
      subst h
      simp [he _ _ h1, evs_map he h2]
    · cases h

theorem evps_map {e : Eval} {ρ : Operand → Value} (he : ∀ x v, e x = some v → ρ x = v) : ∀ {xs : List (Nat × Operand)} {vs : List (Nat × Value)}, evps e xs = some vs → xs.map (fun x => (x.1, ρ x.2)) = vs
  | [], vs, h => by simp [evps] at h; simp [h]
  | (i, x) :: xs, vs, h => by
    simp only [evps] at h
    split at h
    · rename_i v vs' h1 h2
      simp only [Option.some.injEq] at h
      subst h
      simp [he _ _ h1, evps_map he h2]
    · cases h

theorem foldl_set (vs cs : List Value) (off j : Nat) (h : off + j + vs.length ≤ cs.length) :
    ((vs.zipIdx j).foldl (fun (cs : Array Value) (c : Value × Nat) => cs.setIfInBounds (off + c.2) c.1) ⟨cs⟩) = ⟨cs.take (off + j) ++ (vs ++ cs.drop (off + j + vs.length))⟩ := by
  induction vs generalizing cs j with
  | nil => simp
  | cons v vs ih =>
    simp only [List.zipIdx_cons, List.foldl_cons]
    simp only [List.length_cons] at h
    have h1 : (Array.setIfInBounds (⟨cs⟩ : Array Value) (off + j) v) = ⟨cs.set (off + j) v⟩ := by
      simp
    rw [h1, ih (cs.set (off + j) v) (j + 1) (by simp; omega)]
    congr 1
    have hlt : off + j < cs.length := by omega
    rw [show off + (j + 1) = (off + j) + 1 by omega, List.take_add_one]
    simp only [List.take_set, List.length_cons]
    rw [List.drop_set_of_lt (by omega)]
    have hset : (cs.take (off + j)).set (off + j) v = cs.take (off + j) := List.set_eq_of_length_le (by simp; omega)
    simp [hlt, hset, show off + j + 1 + vs.length = off + j + (vs.length + 1) by omega]

theorem fillL_fill {place : Nat → Option (Nat × Nat)} : ∀ {ps : List (Nat × Value)} {cells out : List Value}, fillL place cells ps = some out → Instr.fill place ⟨cells⟩ ps = some ⟨out⟩
  | [], cells, out, h => by simp [fillL] at h; simp [Instr.fill, h]
  | (i, v) :: rest, cells, out, h => by
    simp only [fillL] at h
    simp only [Instr.fill]
    cases hp : place i with
    | none => simp [hp] at h
    | some os =>
      obtain ⟨off, size⟩ := os
      simp only [hp] at h ⊢
      split at h
      · rename_i hc
        simp only [Bool.and_eq_true] at hc
        have h1 := Nat.eq_of_beq_eq_true hc.1
        have h2 := Nat.le_of_ble_eq_true hc.2
        have hsz : v.cells.size = size := by rw [cellsL_eq]; simpa using h1
        rw [if_neg (by simp [hsz]; omega)]
        have hf := foldl_set (cellsL v) cells off 0 (by rw [h1]; omega)
        have hz : v.cells.zipIdx.foldl (fun (cs : Array Value) (x : Value × Nat) => match x with | (c, j) => cs.setIfInBounds (off + j) c) (⟨cells⟩ : Array Value)
            = ⟨cells.take off ++ (cellsL v ++ cells.drop (off + size))⟩ := by
          rw [cellsL_eq]
          simp only [Nat.add_zero, h1] at hf
          have hz2 : (⟨cellsL v⟩ : Array Value).zipIdx = ((cellsL v).zipIdx).toArray := by show (cellsL v).toArray.zipIdx = _; simp
          rw [hz2, List.foldl_toArray]
          exact hf
        rw [hz]
        exact fillL_fill h
      · cases h


theorem zeroOf_run {t : TypeId} {z : Value} (h : zeroOf P t = some z) : (zeroValue t).run P w = .ok z w := by
  unfold zeroOf at h
  cases hi : P.info? t with
  | none => simp [hi] at h
  | some i =>
    simp [hi] at h
    simp [zeroValue, typeInfo, hi, h]

theorem mapM_sizes (fs : List Field) (h : fs.all (fun f => hasT P f.type) = true) :
    (fs.mapM (fun f => do pure (f.offset, ← sizeOf f.type) : Field → Sem (Nat × Nat))).run P w = .ok (fs.map fun f => (f.offset, szOf P f.type)) w := by
  induction fs with
  | nil => simp
  | cons f fs ih =>
    simp only [List.all_cons, Bool.and_eq_true] at h
    simp only [List.mapM_cons, Sem.run_bind, szOf_run h.1, Result.andThen_ok, Sem.run_pure, ih h.2, List.map_cons]

theorem trBuild_run {t : TypeId} {ps : List (Nat × Value)} (h : trBuild P t ps w k) : ∃ v w', (Instr.build t ⟨ps⟩).run P w = .ok v w' ∧ k v w' := by
  unfold trBuild at h
  obtain ⟨hF, h⟩ := ck.ex h
  obtain ⟨z, hz, h⟩ := wvs.ex h
  obtain ⟨cs, hcs, h⟩ := wvs.ex h
  refine ⟨_, w, ?_, h⟩
  have hfill := fillL_fill hcs
  unfold fieldsOk at hF
  split at hF
  · rename_i fs hu
    have hm := mapM_sizes (P := P) (w := w) fs.toList (by simpa using hF)
    have hm' : (fs.mapM (fun f => do pure (f.offset, ← sizeOf f.type) : Field → Sem (Nat × Nat))).run P w = .ok (fs.map fun f => (f.offset, szOf P f.type)) w := by
      rw [Array.mapM_eq_mapM_toList]
      simp only [Sem.run_map, hm, Result.andThen_ok]
      congr 1
      apply Array.ext'
      simp
    have hpl : (fun i => (fs.map fun f => (f.offset, szOf P f.type))[i]?) = places P t := by
      funext i
      simp only [places, hu, Array.getElem?_map]
      cases hfi : fs[i]? with
      | none => simp [hfi]
      | some f => simp [hfi]
    have hfill' : Instr.fill (fun i => (fs.map fun f => (f.offset, szOf P f.type))[i]?) (Value.cells z) ps = some ⟨cs⟩ := by rw [hpl, cellsL_eq]; exact hfill
    simp only [Instr.build, Sem.run_bind, zeroOf_run hz, Result.andThen_ok, run_und hu, hm']
    simp only [hfill']
    rfl
  · rename_i n el hu
    have hpl : (fun i => some (i * szOf P el, szOf P el)) = places P t := by
      funext i
      simp [places, hu]
    have hfill' : Instr.fill (fun i => some (i * szOf P el, szOf P el)) (Value.cells z) ps = some ⟨cs⟩ := by rw [hpl, cellsL_eq]; exact hfill
    simp only [Instr.build, Sem.run_bind, zeroOf_run hz, Result.andThen_ok, run_und hu, szOf_run hF]
    simp only [hfill']
    rfl
  · cases hF

theorem zeroCellsL_eq (z : List Value) (n : Nat) : (Array.range (n * z.length)).map (fun i => (⟨z⟩ : Array Value)[i % z.length]!) = ⟨zeroCellsL z n⟩ := by
  apply Array.ext'
  simp only [Array.toList_map, Array.toList_range]
  induction n with
  | zero => simp [zeroCellsL]
  | succ n ih =>
    rw [show (n + 1) * z.length = z.length + n * z.length by rw [Nat.succ_mul]; omega, List.range_add, List.map_append]
    simp only [zeroCellsL]
    congr 1
    · apply List.ext_getElem?
      intro i
      simp only [List.getElem?_map]
      by_cases hi : i < z.length
      · simp [hi, Nat.mod_eq_of_lt hi]
      · simp [hi]
    · rw [← ih]
      simp [Function.comp_def]

theorem trBuildSlice_run {t : TypeId} {n : Nat} {ps : List (Nat × Value)} (h : trBuildSlice P t n ps w k) : ∃ v w', (Instr.buildSlice t n ⟨ps⟩).run P w = .ok v w' ∧ k v w' := by
  unfold trBuildSlice at h
  split at h
  · rename_i el hu
    obtain ⟨hF, h⟩ := ck.ex h
    simp only [Bool.and_eq_true] at hF
    obtain ⟨z, hz, h⟩ := wvs.ex h
    obtain ⟨hl, h⟩ := ck.ex h
    simp only [Bool.and_eq_true] at hl
    have h1 := Nat.eq_of_beq_eq_true hl.1
    have h2 := Nat.le_of_ble_eq_true hl.2
    have h3 := Nat.le_of_ble_eq_true hF.2
    obtain ⟨cs, hcs, h⟩ := wvs.ex h
    refine ⟨_, _, ?_, h⟩
    have hfill := fillL_fill hcs
    have hzc := zeroCellsL_eq (cellsL z) n
    rw [h1] at hzc
    have hz1 : z.cells.size = szOf P el := by rw [cellsL_eq]; simpa using h1
    have hcell : (Array.range (n * szOf P el)).map (fun i => z.cells[i % z.cells.size]!) = ⟨zeroCellsL (cellsL z) n⟩ := by
      rw [hz1, cellsL_eq]; exact hzc
    simp only [Instr.buildSlice, Sem.run_bind, run_und hu, Result.andThen_ok, szOf_run hF.1]
    rw [if_neg (by omega)]
    by_cases h0 : n * szOf P el = 0
    · have hn : n = 0 := by
        rcases Nat.mul_eq_zero.1 h0 with h | h
        · exact h
        · omega
      subst hn
      simp only [zeroCellsL] at hfill
      have hr : Array.range (0 * szOf P el) = #[] := by rw [h0]; rfl
      simp only [if_pos h0, Sem.run_bind, Sem.run_pure, Result.andThen_ok, hr, Array.map_empty]
      rw [show (#[] : Array Value) = ⟨[]⟩ from rfl, hfill]
      simp [newRow]
    · simp [h0, zeroOf_run hz, hcell, hfill, newRow]
  · exact h.elim


theorem max2_run {k1 k2 : IntKind} {m n : Int} : (Builtin.max2 (.int k1 m) (.int k2 n)).run P w = .ok (.int k1 (max m n)) w := by
  simp only [Builtin.max2, Sem.run_pure]
  congr 2
  split <;> omega
theorem min2_run {k1 k2 : IntKind} {m n : Int} : (Builtin.min2 (.int k1 m) (.int k2 n)).run P w = .ok (.int k1 (min m n)) w := by
  simp only [Builtin.min2, Sem.run_pure]
  congr 2
  split <;> omega

theorem trBuiltin_post {b : Builtin} {ats : Array TypeId} {rt : TypeId} {cs : Array Bool} {vs : List Value} (h : trBuiltin P b ats rt vs w k) : Post P k ((builtin b ats rt cs ⟨vs⟩).run P w) := by
  unfold trBuiltin at h
  split at h
  · split at h
    · rename_i t tl hat
      split at h
      · rename_i hu
        refine post_of_run ⟨_, w, ?_, h⟩
        have h0 : ats[0]? = some t := by rw [← Array.getElem?_toList, hat]; rfl
        simp [Builtin.len_, h0, run_und hu, goInt]
      · exact h.elim
    · exact h.elim
  · split at h
    · rename_i t tl hat
      split at h
      · rename_i hu
        refine post_of_run ⟨_, w, ?_, h⟩
        have h0 : ats[0]? = some t := by rw [← Array.getElem?_toList, hat]; rfl
        simp [Builtin.len_, h0, run_und hu, goInt]
      · exact post_of_run h.ex
    · exact h.elim
  · exact post_of_run h.ex
  · exact post_of_run ⟨_, w, by simp [Builtin.max_, max2_run], h⟩
  · exact post_of_run ⟨_, w, by simp [Builtin.min_, min2_run], h⟩
  · exact post_of_run h.ex
  · exact post_of_run h.ex
  · exact post_of_run h.ex
  · exact post_of_run h.ex
  · exact post_of_run h.ex
  · exact post_of_run h.ex
  · exact post_of_run h.ex
  · exact h.elim

end

/-- The functions that may be called are entered. -/
def Enters (P : Program) (G : Nat → Bool) : Prop := ∀ g, G g = true → ∀ args w, (callFunc g args).run P w = .ok (.enter g args) w

section
variable {P : Program} {G : Nat → Bool} {w : World} {k : K}

theorem callFV_post (hG : Enters P G) {f : Value} {args : Array Value} {vs : List Value} (hv : args.toList = vs) (h : CallFV P G f vs w k) :
    Post P k ((do let d ← Deferred.ofValue f args; invoke d.target d.args : Sem Next).run P w) := by
  unfold CallFV at h
  split at h
  · rename_i g first cap
    split at h
    · rename_i hg
      have he : first ++ args ++ cap = ⟨first.toList ++ (vs ++ cap.toList)⟩ := by apply Array.ext'; simp [hv]
      simp only [Deferred.ofValue, Sem.run_bind, Sem.run_pure, Result.andThen_ok, invoke, hG _ hg, he]
      exact .enter h
    · exact h.elim
  · rename_i l first cap
    obtain ⟨fn, tmps, assign, body, hy, hR⟩ := h
    have he : first ++ args = ⟨first.toList ++ vs⟩ := by apply Array.ext'; simp [hv]
    simp only [Deferred.ofValue, Sem.run_bind, Sem.run_pure, Result.andThen_ok, invoke, he, hy]
    exact .round hR
  · exact h.elim

theorem Rv_ty {t : TypeId} {P : Program} {f : FuncId} {args : Array Value} {w : World} (h : Calls P f args w (Rv fun v w' => TyV P t v fun v => k v w')) : Calls P f args w (Rv k) :=
  use h fun _ _ h => h.out

theorem callFV_ty {t : TypeId} {f : Value} {vs : List Value} (h : CallFV P G f vs w fun v w' => TyV P t v fun v => k v w') : CallFV P G f vs w k := by
  unfold CallFV at h ⊢
  split at h
  · split at h
    · exact use h fun _ _ h => h.out
    · exact h.elim
  · obtain ⟨fn, tmps, assign, body, hy, hR⟩ := h
    exact ⟨fn, tmps, assign, body, hy, hR.mono fun _ _ ⟨v, he, hk⟩ => ⟨v, he, hk.out⟩⟩
  · exact h.elim

theorem callM_post (hG : Enters P G) {name : String} {r : Value} {args : Array Value} {vs : List Value} (hv : args.toList = vs) (h : CallM P G name r vs w k) :
    Post P k ((invoke (.fn (.method name) #[]) (#[r] ++ args)).run P w) := by
  obtain ⟨t, v, f, rc, rfl, hm, hg, h⟩ := h
  have he : #[rc] ++ (#[Value.iface t v] ++ args).extract 1 (#[Value.iface t v] ++ args).size = ⟨rc :: vs⟩ := by apply Array.ext'; simp [hv]
  have hi : (invoke (.fn (.method name) #[]) (#[.iface t v] ++ args)).run P w = (callFunc f (#[rc] ++ (#[Value.iface t v] ++ args).extract 1 (#[Value.iface t v] ++ args).size)).run P w := by
    have h0 : (#[Value.iface t v] ++ args)[0]? = some (.iface t v) := by simp [Array.getElem?_append]
    simp [invoke, callMethod, hm, h0]
  rw [hi, hG _ hg, he]
  exact .enter h

theorem nilC_run {x : Value} {ρ : Operand → Value} {o : Oper} {y : Operand} (ho : o.op = .nilCheck y) (hy : ρ y = x) (h : nilC x fun v => k v w) : Post P k ((execOp ρ o).run P w) := by
  unfold nilC at h
  split at h
  · obtain ⟨a, rfl, h⟩ := wa.ex h
    simp only [execOp, ho, hy]
    exact .value h
  · exact h.elim
  · exact h.elim
  · exact h.elim
  · rename_i h1 h2 h3 h4
    simp only [execOp, ho, hy]
    cases x <;> first | exact .value h | exact (h1 _ rfl).elim | exact (h2 rfl).elim | exact (h3 rfl).elim | skip
    rename_i fn first cap
    cases fn <;> first | exact .value h | exact (h4 _ _ _ rfl).elim

theorem op_post (hG : Enters P G) {e : Eval} {ρ : Operand → Value} (he : ∀ x v, e x = some v → ρ x = v) {o : Oper} (h : trOp P G e o w k) : Post P k ((execOp ρ o).run P w) := by
  unfold trOp at h
  split at h
  case h_1 x ho => obtain ⟨v, hv, h⟩ := wv.ex h; simp only [execOp, ho, he _ _ hv]; exact .value h
  case h_2 x ho => obtain ⟨v, hv, h⟩ := wv.ex h; simp only [execOp, ho, he _ _ hv]; exact .value h
  case h_3 c a b ho =>
    obtain ⟨v, hv, h⟩ := wv.ex h
    obtain ⟨t, rfl, h⟩ := wb.ex h
    cases t
    · obtain ⟨u, hu, h⟩ := wv.ex h
      simp [execOp, ho, he _ _ hv, he _ _ hu, asBool]; exact .value h
    · obtain ⟨u, hu, h⟩ := wv.ex h
      simp [execOp, ho, he _ _ hv, he _ _ hu, asBool]; exact .value h
  case h_4 x ho => obtain ⟨v, hv, h⟩ := wv.ex h; exact nilC_run ho (he _ _ hv) h
  case h_5 op t x y yt ho =>
    obtain ⟨a, ha, h⟩ := wv.ex h
    obtain ⟨b, hb, h⟩ := wv.ex h
    simp only [execOp, ho, he _ _ ha, he _ _ hb]
    exact post_of_run (trBinN_run h)
  case h_6 t x ho =>
    obtain ⟨a, ha, h⟩ := wv.ex h
    obtain ⟨b, rfl, h⟩ := wb.ex h
    simp only [execOp, ho, he _ _ ha]
    exact post_of_run ⟨_, w, rfl, h⟩
  case h_7 t x ho =>
    obtain ⟨a, ha, h⟩ := wv.ex h
    obtain ⟨kd, n, rfl, h⟩ := wi.ex h
    simp only [execOp, ho, he _ _ ha]
    exact post_of_run ⟨_, w, rfl, h⟩
  case h_8 t x ho =>
    obtain ⟨a, ha, h⟩ := wv.ex h
    obtain ⟨kd, n, rfl, h⟩ := wi.ex h
    simp only [execOp, ho, he _ _ ha]
    exact post_of_run ⟨_, w, rfl, h⟩
  case h_9 s d x ho =>
    obtain ⟨a, ha, h⟩ := wv.ex h
    simp only [execOp, ho, he _ _ ha]
    refine post_of_run ?_
    unfold trConv at h
    split at h
    · rename_i h1 h2; exact ⟨_, w, by simp [convert, run_und h1, run_und h2, Conv.intToInt], h⟩
    · rename_i h1 h2; exact ⟨_, w, by simp [convert, run_und h1, run_und h2], h⟩
    · exact h.ex
  case h_10 t a ho =>
    obtain ⟨p, hp, h⟩ := wv.ex h
    obtain ⟨q, rfl, h⟩ := wp.ex h
    obtain ⟨ad, rfl, h⟩ := wa.ex h
    obtain ⟨v, w', hr, hk⟩ := trLoad_run h
    simp only [execOp, ho, he _ _ hp]
    exact post_of_run ⟨v, w', by simp [Instr.loadAt, Instr.sureAddr, hr], hk⟩
  case h_11 t a x ho =>
    obtain ⟨p, hp, h⟩ := wv.ex h
    obtain ⟨q, rfl, h⟩ := wp.ex h
    obtain ⟨ad, rfl, h⟩ := wa.ex h
    obtain ⟨v, hv, h⟩ := wv.ex h
    obtain ⟨w', hr, hk⟩ := trStore_run (P := P) h
    simp only [execOp, ho, he _ _ hp, he _ _ hv]
    exact post_of_does ⟨w', by simp [Instr.storeAt, Instr.sureAddr, hr], hk⟩
  case h_12 t x f ho => obtain ⟨v, hv, h⟩ := wv.ex h; simp only [execOp, ho, he _ _ hv]; exact post_of_run (trFieldAddr_run h)
  case h_13 t x f ho => obtain ⟨v, hv, h⟩ := wv.ex h; simp only [execOp, ho, he _ _ hv]; exact post_of_run (trField_run h)
  case h_14 t x i ho => obtain ⟨v, hv, h⟩ := wv.ex h; obtain ⟨u, hu, h⟩ := wv.ex h; simp only [execOp, ho, he _ _ hv, he _ _ hu]; exact post_of_run (trIndexAddr_run h)
  case h_15 t x i ho => obtain ⟨v, hv, h⟩ := wv.ex h; obtain ⟨u, hu, h⟩ := wv.ex h; simp only [execOp, ho, he _ _ hv, he _ _ hu]; exact post_of_run (trIndex_run h)
  case h_16 x i ho =>
    obtain ⟨v, hv, h⟩ := wv.ex h
    split at h
    · rename_i vs
      obtain ⟨u, hu, h⟩ := wvs.ex h
      have hu' : vs[i]? = some u := by simpa using hu
      simp only [execOp, ho, he _ _ hv]
      exact post_of_run ⟨u, w, by simp [Instr.extract, hu'], h⟩
    · exact h.elim
  case h_17 t x ho =>
    obtain ⟨v, hv, h⟩ := wv.ex h
    simp only [execOp, ho, he _ _ hv]
    exact post_of_run ⟨_, _, by simp [Instr.box, newVar, newRow, cellsL_eq], h⟩
  case h_18 t ho =>
    obtain ⟨z, hz, h⟩ := wvs.ex h
    simp only [execOp, ho]
    exact post_of_run ⟨_, _, by simp [Instr.alloc, zeroOf_run hz, newVar, newRow, cellsL_eq], h⟩
  case h_19 t ps ho =>
    obtain ⟨qs, hq, h⟩ := wvs.ex h
    have hm : (ps.map fun (i, x) => (i, ρ x)) = ⟨qs⟩ := by apply Array.ext'; rw [Array.toList_map]; exact evps_map he hq
    simp only [execOp, ho, hm]
    exact post_of_run (trBuild_run h)
  case h_20 t n ps ho =>
    obtain ⟨qs, hq, h⟩ := wvs.ex h
    have hm : (ps.map fun (i, x) => (i, ρ x)) = ⟨qs⟩ := by apply Array.ext'; rw [Array.toList_map]; exact evps_map he hq
    simp only [execOp, ho, hm]
    exact post_of_run (trBuildSlice_run h)
  case h_21 fn first caps ho =>
    obtain ⟨fs, hf, h⟩ := wvs.ex h
    obtain ⟨cs, hc, h⟩ := wvs.ex h
    have h1 : first.map ρ = ⟨fs⟩ := by apply Array.ext'; rw [Array.toList_map]; exact evs_map he hf
    have h2 : caps.map ρ = ⟨cs⟩ := by apply Array.ext'; rw [Array.toList_map]; exact evs_map he hc
    simp only [execOp, ho, h1, h2]
    exact post_of_run ⟨_, w, rfl, h⟩
  case h_22 t x ho =>
    split at h
    · exact h.elim
    · exact h.elim
    · rename_i h1 h2
      obtain ⟨v, hv, h⟩ := wv.ex h
      simp only [execOp, ho, he _ _ hv]
      refine post_of_run ⟨_, w, ?_, h⟩
      cases hu : P.underlying t with
      | none => exact (h2 hu).elim
      | some d => cases d <;> first | exact (h1 _ hu).elim | simp [Instr.makeInterface, run_und hu]
  case h_23 t x lo hi ho => obtain ⟨v, hv, h⟩ := wv.ex h; simp only [execOp, ho, he _ _ hv]; exact post_of_run (trSlice_run he h)
  case h_24 t l c ho => obtain ⟨v, hv, h⟩ := wv.ex h; obtain ⟨u, hu, h⟩ := wv.ex h; simp only [execOp, ho, he _ _ hv, he _ _ hu]; exact post_of_run h.ex
  case h_25 t ho => simp only [execOp, ho]; exact post_of_run h.ex
  case h_26 t x ho => obtain ⟨v, hv, h⟩ := wv.ex h; simp only [execOp, ho, Option.map_some, he _ _ hv]; exact post_of_run h.ex
  case h_27 t x i ok ho => obtain ⟨v, hv, h⟩ := wv.ex h; obtain ⟨u, hu, h⟩ := wv.ex h; simp only [execOp, ho, he _ _ hv, he _ _ hu]; exact post_of_run h.ex
  case h_28 t m x y ho => obtain ⟨v, hv, h⟩ := wv.ex h; obtain ⟨u, hu, h⟩ := wv.ex h; obtain ⟨z, hz, h⟩ := wv.ex h; simp only [execOp, ho, he _ _ hv, he _ _ hu, he _ _ hz]; exact post_of_does h
  case h_29 t m x y ho => obtain ⟨v, hv, h⟩ := wv.ex h; obtain ⟨u, hu, h⟩ := wv.ex h; obtain ⟨z, hz, h⟩ := wv.ex h; simp only [execOp, ho, he _ _ hv, he _ _ hu, he _ _ hz]; exact post_of_does h
  case h_30 t x ho => obtain ⟨v, hv, h⟩ := wv.ex h; simp only [execOp, ho, he _ _ hv]; exact post_of_run h.ex
  case h_31 x s ho => obtain ⟨v, hv, h⟩ := wv.ex h; simp only [execOp, ho, he _ _ hv]; exact post_of_run h.ex
  case h_32 x ho => obtain ⟨v, hv, h⟩ := wv.ex h; simp only [execOp, ho, he _ _ hv]; exact post_of_run h.ex
  case h_33 x t u ok ho => obtain ⟨v, hv, h⟩ := wv.ex h; simp only [execOp, ho, he _ _ hv]; exact post_of_run h.ex
  case h_34 f args ats ho =>
    obtain ⟨vs, hvs, h⟩ := wvs.ex h
    obtain ⟨v, hv, h⟩ := wv.ex h
    simp only [execOp, ho, resolve, he _ _ hv]
    exact callFV_post hG (by rw [Array.toList_map]; exact evs_map he hvs) (callFV_ty h)
  case h_35 b args ats ho =>
    obtain ⟨vs, hvs, h⟩ := wvs.ex h
    have hm : args.map ρ = ⟨vs⟩ := by apply Array.ext'; rw [Array.toList_map]; exact evs_map he hvs
    simp only [execOp, ho, resolve, hm, Sem.run_bind, Sem.run_pure, Result.andThen_ok, invoke]
    exact trBuiltin_post h
  case h_36 r name args ats ho =>
    obtain ⟨vs, hvs, h⟩ := wvs.ex h
    obtain ⟨v, hv, h⟩ := wv.ex h
    simp only [execOp, ho, resolve, he _ _ hv, Sem.run_bind, Sem.run_pure, Result.andThen_ok]
    obtain ⟨t, u, f, rc, h1, h2, h3, h4⟩ := h
    exact callM_post (vs := vs) hG (by rw [Array.toList_map]; exact evs_map he hvs) ⟨t, u, f, rc, h1, h2, h3, use h4 fun _ _ h => h.out⟩
  case h_37 => exact h.elim

end
end Go.VC
