/- A verification-condition generator for the model's code: what 'trOp' asks of an operation is enough. -/
import Derived.Test.YtilccklocaeebaaVc3
namespace Go.VC
open Go

section
variable {P : Program} {w : World} {k : K}

theorem Runs.ex {t : TypeId} {m : Sem Value} (h : Runs P t m w k) : ∃ v w', m.run P w = .ok v w' ∧ k v w' := by
  obtain ⟨w', h⟩ := h
  obtain ⟨v, h1, h2⟩ := ExV.ex h
  exact ⟨v, w', h1, h2⟩

theorem post_of_run {m : Sem Value} (h : ∃ v w', m.run P w = .ok v w' ∧ k v w') : Post P k ((do pure (.value (← m)) : Sem Next).run P w) := by
  obtain ⟨v, w', h1, h2⟩ := h
  simp only [Sem.run_bind, h1, Result.andThen_ok, Sem.run_pure]
  exact .value h2

theorem post_of_does {m : Sem Unit} (h : Does P m w fun w' => k undef w') : Post P k ((do m; pure .skip : Sem Next).run P w) := by
  obtain ⟨w', h1, h2⟩ := h
  simp only [Sem.run_bind, h1, Result.andThen_ok, Sem.run_pure]
  exact .skip h2

theorem isAggT_run {t : TypeId} (h : hasT P t = true) : (isAgg t).run P w = .ok (isAggT P t) w := by
  unfold hasT at h
  unfold isAgg isAggT
  cases hu : P.underlying t with
  | none => simp [hu] at h
  | some d =>
    simp only [Sem.run_bind, run_und hu, Result.andThen_ok]
    cases d <;> simp

theorem und_of_aggT {t : TypeId} (h : isAggT P t = true) : (isAgg t).run P w = .ok true w := by
  unfold isAggT at h
  unfold isAgg
  split at h
  · rename_i hu; simp [run_und hu]
  · rename_i hu; simp [run_und hu]
  · cases h

theorem loadCellsFrom_run (a : Addr) (vs : List Value) (i : Nat) (acc : Array Value) (h : ∀ j v, vs[j]? = some v → w.cell? (a.add (i + j)) = some v) :
    (loadCellsFrom a i vs.length acc).run P w = .ok ⟨acc.toList ++ vs⟩ w := by
  induction vs generalizing i acc with
  | nil => simp [loadCellsFrom]
  | cons v vs ih =>
    have h0 := h 0 v rfl
    simp only [Nat.add_zero] at h0
    have h1 := ih (i + 1) (acc.push v) (fun j v' hv => by have := h (j + 1) v' (by simpa using hv); rw [show i + 1 + j = i + (j + 1) by omega]; exact this)
    simp [loadCellsFrom, h0, h1]

theorem hasT_size {t : TypeId} {n : Nat} (h : sizeIs P t n = true) : (sizeOf t).run P w = .ok n w := by
  unfold sizeIs at h
  split at h
  · rename_i i hi
    simp [sizeOf, typeInfo, hi, Nat.eq_of_beq_eq_true h]
  · cases h

theorem trLoad_run {t : TypeId} {a : Addr} (h : trLoad P t a w k) : ∃ v w', (loadVar t a).run P w = .ok v w' ∧ k v w' := by
  unfold trLoad at h
  split at h
  · rename_i ha
    obtain ⟨vs, h⟩ := ExL.ex h
    obtain ⟨hs, h⟩ := ck.ex h
    obtain ⟨hc, h⟩ := ldC.out h
    refine ⟨_, w, ?_, h⟩
    have := loadCellsFrom_run (P := P) (w := w) a vs 0 #[] (fun j v hv => by simpa using hc j v hv)
    simp [loadVar, und_of_aggT ha, hasT_size hs, loadCells, this]
  · rename_i ha
    obtain ⟨hT, h⟩ := ck.ex h
    obtain ⟨v, hc, h⟩ := ExK.ex h
    refine ⟨v, w, ?_, h⟩
    have h1 := isAggT_run (w := w) hT
    rw [ha] at h1
    simp [loadVar, h1, hc]

def isOne : Value → Bool
  | .agg _ | .tuple _ => false
  | _ => true

theorem storesC_run {a : Addr} {vs : List Value} {i : Nat} {k : World → Prop} (h : storesC w a vs i k) : ∃ w', (storeCells a vs i).run P w = .ok () w' ∧ k w' := by
  induction vs generalizing w i with
  | nil => exact ⟨w, by simp [storeCells], h⟩
  | cons v vs ih =>
    simp only [storesC] at h
    have h1 : isOne v = true ∧ ((∃ u, w.cell? (a.add i) = some u) ∧ w.frozen? (a.add i) = false ∧ storesC (w.setCell (a.add i) v) a vs (i + 1) k) := by
      cases v <;> first | exact h.elim | exact ⟨rfl, h⟩
    obtain ⟨ho, ⟨u, hc⟩, hf, h⟩ := h1
    obtain ⟨w', hr, hk⟩ := ih h
    refine ⟨w', ?_, hk⟩
    simp only [storeCells, Sem.run_bind]
    have : (store (a.add i) v).run P w = .ok () (w.setCell (a.add i) v) := by
      cases v <;> simp_all [store, Sem.run, isOne]
    simp [this, hr]

theorem oneC_out {v : Value} {q : Prop} (h : oneC v q) : isOne v = true ∧ v.cells = #[v] ∧ q := by
  cases v <;> first | exact h.elim | exact ⟨rfl, rfl, h⟩

theorem trStore_run {t : TypeId} {a : Addr} {v : Value} {k : World → Prop} (h : trStore P t a v w k) : ∃ w', (storeVar t a v).run P w = .ok () w' ∧ k w' := by
  unfold trStore at h
  split at h
  · rename_i cs
    obtain ⟨hs, h⟩ := ck.ex h
    obtain ⟨w', hr, hk⟩ := storesC_run (P := P) h
    refine ⟨w', ?_, hk⟩
    have hs' := hasT_size (w := w) hs
    simp only [Array.length_toList] at hs'
    simp [storeVar, hs', Value.cells, hr]
  · obtain ⟨hs, h⟩ := ck.ex h
    obtain ⟨ho, hc, ⟨u, hcell⟩, hf, h⟩ := oneC_out h
    refine ⟨_, ?_, h⟩
    have : (store a v).run P w = .ok () (w.setCell a v) := by
      cases v <;> simp_all [store, Sem.run, isOne]
    simp [storeVar, hasT_size hs, hc, storeCells, show a.add 0 = a from rfl, this]


theorem part_run {t : TypeId} {cs : Array Value} {off : Nat} (hT : hasT P t = true) (h : match isAggT P t with
      | true => k (.agg ⟨(cs.toList.drop off).take (szOf P t)⟩) w
      | false => ∃ v, cs.toList[off]? = some v ∧ k v w) : ∃ v w', (part t cs off).run P w = .ok v w' ∧ k v w' := by
  have h1 := isAggT_run (w := w) hT
  have h2 := szOf_run (w := w) hT
  split at h
  · rename_i ha
    refine ⟨_, w, ?_, h⟩
    have : cs.extract off (off + szOf P t) = ⟨(cs.toList.drop off).take (szOf P t)⟩ := by
      apply Array.ext'
      simp [List.extract]
    simp [part, h1, ha, h2, this]
  · rename_i ha
    obtain ⟨v, hv, h⟩ := h
    refine ⟨v, w, ?_, h⟩
    have : cs[off]? = some v := by simpa using hv
    simp [part, h1, ha, this]

theorem trField_run {t : TypeId} {x : Value} {f : Nat} (h : trField P t x f w k) : ∃ v w', (Instr.field t x f).run P w = .ok v w' ∧ k v w' := by
  unfold trField at h
  split at h
  · rename_i fs cs hu
    split at h
    · rename_i fd hf
      obtain ⟨hT, h⟩ := ck.ex h
      have hf' : fs[f]? = some fd := by simpa using hf
      have h' : match isAggT P fd.type with
        | true => k (.agg ⟨(cs.toList.drop fd.offset).take (szOf P fd.type)⟩) w
        | false => ∃ v, cs.toList[fd.offset]? = some v ∧ k v w := by
        cases hag : isAggT P fd.type with
        | true => rw [hag] at h; exact h
        | false => rw [hag] at h; exact wvs.ex h
      obtain ⟨v, w', hr, hk⟩ := part_run hT h'
      refine ⟨v, w', ?_, hk⟩
      simp [Instr.field, run_und hu, hf', asAgg, hr]
    · exact h.elim
  · exact h.elim

theorem trFieldAddr_run {t : TypeId} {x : Value} {f : Nat} (h : trFieldAddr P t x f w k) : ∃ v w', (Instr.fieldAt t x f).run P w = .ok v w' ∧ k v w' := by
  unfold trFieldAddr at h
  split at h
  · rename_i fs hu
    split at h
    · rename_i fd hf
      obtain ⟨hT, h⟩ := ck.ex h
      obtain ⟨p, rfl, h⟩ := wp.ex h
      obtain ⟨a, rfl, h⟩ := wa.ex h
      simp only [Bool.and_eq_true, Bool.not_eq_true'] at hT
      have hf' : fs[f]? = some fd := by simpa using hf
      have h0 : szOf P fd.type ≠ 0 := Nat.ne_of_beq_eq_false hT.2
      refine ⟨_, w, ?_, h⟩
      simp [Instr.fieldAt, run_und hu, hf', Instr.sureAddr, fieldPlace, szOf_run hT.1, h0]
    · exact h.elim
  · exact h.elim

theorem trIndexAddr_run {t : TypeId} {x i : Value} (h : trIndexAddr P t x i w k) : ∃ v w', (Instr.indexAt t x i).run P w = .ok v w' ∧ k v w' := by
  unfold trIndexAddr at h
  split at h
  · rename_i el a n c kk j hu
    obtain ⟨hT, h0, h1, b, rfl, h'⟩ := ck.ex h
    exact ⟨_, w, by simp [Instr.indexAt, asIntOf, run_und hu, h0, h1, szOf_run hT], h'⟩
  · rename_i n el a kk j hu
    obtain ⟨hT, h0, h1, b, rfl, h'⟩ := ck.ex h
    exact ⟨_, w, by simp [Instr.indexAt, asIntOf, run_und hu, Instr.sureAddr, h0, h1, szOf_run hT], h'⟩
  · exact h.elim

theorem trIndex_run {t : TypeId} {x i : Value} (h : trIndex P t x i w k) : ∃ v w', (Instr.index t x i).run P w = .ok v w' ∧ k v w' := by
  unfold trIndex at h
  split at h
  · rename_i s kk j hu
    obtain ⟨c, h0, h1, h⟩ := h
    exact ⟨_, w, by simp [Instr.index, asIntOf, run_und hu, h0, h1], h⟩
  · rename_i n el cs kk j hu
    obtain ⟨hT, h0, h1, h⟩ := ck.ex h
    simp only [Bool.and_self] at hT
    obtain ⟨v, w', hr, hk⟩ := part_run hT h
    exact ⟨v, w', by simp [Instr.index, asIntOf, run_und hu, h0, h1, szOf_run hT, hr], hk⟩
  · exact h.elim

theorem wio_run {e : Eval} {ρ : Operand → Value} (he : ∀ x v, e x = some v → ρ x = v) {x : Option Operand} {d : Int} {q : Int → Prop} (h : wio e x d q) :
    (x = none ∧ q d) ∨ ∃ y kd n, x = some y ∧ ρ y = .int kd n ∧ q n := by
  unfold wio at h
  split at h
  · exact .inl ⟨rfl, h⟩
  · obtain ⟨v, hv, h⟩ := wv.ex h
    obtain ⟨kd, n, rfl, h⟩ := wi.ex h
    exact .inr ⟨_, kd, n, rfl, he _ _ hv, h⟩

theorem sliceBound_ok {kd : IntKind} {i : Int} {y : Nat} {c : BoundsCode} (h0 : 0 ≤ i) (h1 : i ≤ y) : (Instr.sliceBound (.int kd i) y c).run P w = .ok i.toNat w := by
  simp [Instr.sliceBound, asIntOf, h0, h1]

theorem trSlice_run {e : Eval} {ρ : Operand → Value} (he : ∀ x v, e x = some v → ρ x = v) {t : TypeId} {lo hi : Option Operand} {x : Value} (h : trSlice P t e lo hi x w k) :
    ∃ v w', (Instr.sliceAt t x (lo.map ρ) (hi.map ρ) none).run P w = .ok v w' ∧ k v w' := by
  unfold trSlice at h
  split at h
  · rename_i s hu
    have hs : ∀ (l hh : Int), 0 ≤ l → l ≤ hh → hh ≤ s.size → ∀ (L H : Option Value), (L = none ∧ l = 0 ∨ ∃ kd, L = some (.int kd l)) → (H = none ∧ hh = s.size ∨ ∃ kd, H = some (.int kd hh)) →
        (Instr.sliceAt t (.string s) L H none).run P w = .ok (.string (s.extract l.toNat hh.toNat)) w := by
      intro l hh h0 h1 h2 L H hL hH
      have hb2 : ∀ kd c, (Instr.sliceBound (.int kd hh) s.size c).run P w = .ok hh.toNat w := fun kd c => sliceBound_ok (by omega) h2
      have hb1 : ∀ kd c, (Instr.sliceBound (.int kd l) hh.toNat c).run P w = .ok l.toNat w := fun kd c => sliceBound_ok h0 (by omega)
      have hs0 : (hh = s.size → hh.toNat = s.size) := by omega
      rcases hL with ⟨rfl, rfl⟩ | ⟨kd, rfl⟩ <;> rcases hH with ⟨rfl, rfl⟩ | ⟨kd', rfl⟩ <;> simp [Instr.sliceAt, Instr.slice, run_und hu, Instr.sliceBounds, hb2] <;> (try simpa using hb1 _ _) <;> (try simp [hb1])
      · have := hb1 kd .sliceB; simp at this; simp [this]
    rcases wio_run he h with ⟨rfl, h1⟩ | ⟨y, kd, l, rfl, hl, h1⟩ <;> rcases wio_run he h1 with ⟨rfl, h2⟩ | ⟨y', kd', hh, rfl, hhv, h2⟩
    · exact ⟨_, w, hs _ _ h2.1 h2.2.1 h2.2.2.1 _ _ (.inl ⟨rfl, rfl⟩) (.inl ⟨rfl, rfl⟩), h2.2.2.2⟩
    · exact ⟨_, w, hs _ _ h2.1 h2.2.1 h2.2.2.1 _ _ (.inl ⟨rfl, rfl⟩) (.inr ⟨_, by simp [hhv]; rfl⟩), h2.2.2.2⟩
    · exact ⟨_, w, hs _ _ h2.1 h2.2.1 h2.2.2.1 _ _ (.inr ⟨_, by simp [hl]; rfl⟩) (.inl ⟨rfl, rfl⟩), h2.2.2.2⟩
    · exact ⟨_, w, hs _ _ h2.1 h2.2.1 h2.2.2.1 _ _ (.inr ⟨_, by simp [hl]; rfl⟩) (.inr ⟨_, by simp [hhv]; rfl⟩), h2.2.2.2⟩
  · rename_i el a n c hu
    have hs : hasT P el = true → ∀ (l hh : Int), 0 ≤ l → l ≤ hh → hh ≤ c → ∀ (L H : Option Value), (L = none ∧ l = 0 ∨ ∃ kd, L = some (.int kd l)) → (H = none ∧ hh = n ∨ ∃ kd, H = some (.int kd hh)) →
        (Instr.sliceAt t (.slice a n c) L H none).run P w = .ok (.slice (if c = l.toNat then a else a.map (·.add (l.toNat * szOf P el))) (hh.toNat - l.toNat) (c - l.toNat)) w := by
      intro hT l hh h0 h1 h2 L H hL hH
      have hb2 : ∀ kd cc, (Instr.sliceBound (.int kd hh) c cc).run P w = .ok hh.toNat w := fun kd cc => sliceBound_ok (by omega) h2
      have hb1 : ∀ kd cc, (Instr.sliceBound (.int kd l) hh.toNat cc).run P w = .ok l.toNat w := fun kd cc => sliceBound_ok h0 (by omega)
      rcases hL with ⟨rfl, rfl⟩ | ⟨kd, rfl⟩ <;> rcases hH with ⟨rfl, rfl⟩ | ⟨kd', rfl⟩ <;> simp [Instr.sliceAt, Instr.slice, run_und hu, Instr.sliceBounds, hb2, szOf_run hT] <;> (try simp [hb1])
      · have := hb1 kd .sliceB; simp at this; simp [this]
    rcases wio_run he h with ⟨rfl, h1⟩ | ⟨y, kd, l, rfl, hl, h1⟩ <;> rcases wio_run he h1 with ⟨rfl, h2⟩ | ⟨y', kd', hh, rfl, hhv, h2⟩ <;> obtain ⟨g0, g1, g2, h3⟩ := h2 <;> obtain ⟨hT, h4⟩ := ck.ex h3
    · exact ⟨_, w, hs hT _ _ g0 g1 g2 _ _ (.inl ⟨rfl, rfl⟩) (.inl ⟨rfl, rfl⟩), h4⟩
    · exact ⟨_, w, hs hT _ _ g0 g1 g2 _ _ (.inl ⟨rfl, rfl⟩) (.inr ⟨_, by simp [hhv]; rfl⟩), h4⟩
    · exact ⟨_, w, hs hT _ _ g0 g1 g2 _ _ (.inr ⟨_, by simp [hl]; rfl⟩) (.inl ⟨rfl, rfl⟩), h4⟩
    · exact ⟨_, w, hs hT _ _ g0 g1 g2 _ _ (.inr ⟨_, by simp [hl]; rfl⟩) (.inr ⟨_, by simp [hhv]; rfl⟩), h4⟩
  · exact h.elim

end
end Go.VC
