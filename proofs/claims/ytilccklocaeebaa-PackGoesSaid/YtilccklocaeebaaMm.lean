/- Memory: blocks that are known whole, slices that the work owns, slices that can be read, and what a step leaves as it was. No program here. -/
import Derived.Test.YtilccklocaeebaaVc7
import Derived.Laws.AppendOwn
import Derived.RowKit3
import Derived.Below
namespace Go.VC
open Go Go.RowKit

/-- A block and what it holds. -/
def Blk (w : World) (b : Nat) (cs : List Value) (T : TypeId) : Prop := w.heap[b]? = some (.cells cs.toArray T (0, 0))

/-- What is as it was: all but the named blocks. -/
structure Kp (S : Nat → Prop) (w w' : World) : Prop where
  os : w'.os = w.os
  tape : w'.tape = w.tape
  out : w'.output = w.output
  size : w.heap.size ≤ w'.heap.size
  fz : ∀ a, w'.frozen? a = w.frozen? a
  keep : ∀ k, k < w.heap.size → ¬ S k → w'.heap[k]? = w.heap[k]?

variable {S S' : Nat → Prop} {w w' w'' : World} {b : Nat} {cs xs news : List Value} {T e : TypeId} {l : Slc} {size : Nat}

theorem Kp.refl (S : Nat → Prop) (w : World) : Kp S w w := ⟨rfl, rfl, rfl, Nat.le_refl _, fun _ => rfl, fun _ _ _ => rfl⟩
theorem Kp.trans (h : Kp S w w') (g : Kp S' w' w'') (hs : ∀ k, k < w.heap.size → S' k → S k) : Kp S w w'' :=
  ⟨g.os.trans h.os, g.tape.trans h.tape, g.out.trans h.out, Nat.le_trans h.size g.size, fun a => (g.fz a).trans (h.fz a), fun k hk hn => (g.keep k (Nat.lt_of_lt_of_le hk h.size) (fun e => hn (hs k hk e))).trans (h.keep k hk hn)⟩
theorem Kp.mono (h : Kp S w w') (hs : ∀ k, k < w.heap.size → S k → S' k) : Kp S' w w' :=
  ⟨h.os, h.tape, h.out, h.size, h.fz, fun k hk hn => h.keep k hk (fun e => hn (hs k hk e))⟩
theorem Kp.drew (h : Kp S w w') : Kp S w w'.drew := ⟨h.os, h.tape, h.out, h.size, h.fz, h.keep⟩
theorem Kp.alloc (h : Kp S w w') (c : Array Value) (t : TypeId) : Kp S w (w'.alloc (.cells c t)) :=
  ⟨h.os, h.tape, h.out, by have := h.size; simp; omega, fun a => (frozen?_alloc_cells _ _ _ a).trans (h.fz a), fun k hk hn => (heap_alloc_old w' _ (Nat.lt_of_lt_of_le hk h.size)).trans (h.keep k hk hn)⟩
theorem Kp.set (h : Kp S w w') (a : Addr) (v : Value) (ha : a.block < w.heap.size → S a.block) : Kp S w (w'.setCell a v) :=
  ⟨h.os, h.tape, h.out, by have := h.size; simpa using this, fun x => (World.frozen?_setCell _ _ _ _).trans (h.fz x), fun k hk hn => (heap_setCell_other w' a k v (fun e => hn (e ▸ ha (e ▸ hk)))).trans (h.keep k hk hn)⟩
theorem Kp.toGrown (h : Kp (fun _ => False) w w') : Grown w w' := by
  have hb : ∀ k, k < w.heap.size → w'.heap[k]? = w.heap[k]? := fun k hk => h.keep k hk id
  refine ⟨⟨h.os, h.out, fun i hi => ?_⟩, h.fz, h.size⟩
  rw [hb i hi]
  split
  · rename_i e1 e2; rw [e1] at e2; cases e2; exact ⟨rfl, rfl, rfl, fun _ _ => rfl⟩
  · rename_i e1 e2; rw [e1] at e2; cases e2; exact .inr ⟨rfl, rfl⟩
  · rfl

theorem Kp.toBelow (h : Kp (fun _ => False) w w') : Below w.heap.size w w' := ⟨h.os, h.tape, h.out, h.size, fun k hk => h.keep k hk id⟩

theorem add0 (b i : Nat) : Addr.add ⟨b, 0, none⟩ i = ⟨b, i, none⟩ := by rw [Addr.add_lit, Nat.zero_add]
theorem add_block (a : Addr) (i : Nat) : (Addr.add a i).block = a.block := by unfold Addr.add; split <;> rfl
theorem heap_lt {k : Nat} {o : Obj} (h : w.heap[k]? = some o) : k < w.heap.size := by
  by_cases g : k < w.heap.size
  · exact g
  · rw [Array.getElem?_eq_none (by omega)] at h; cases h

theorem Blk.lt (h : Blk w b cs T) : b < w.heap.size := heap_lt h
theorem Blk.cell (h : Blk w b cs T) (i : Nat) : w.cell? (Addr.add ⟨b, 0, none⟩ i) = cs[i]? := by
  rw [add0, cell_of_row w b i _ T (0, 0) h]; simp
theorem Blk.cell0 (h : Blk w b cs T) (i : Nat) : w.cell? ⟨b, i, none⟩ = cs[i]? := by
  rw [cell_of_row w b i _ T (0, 0) h]; simp
theorem Blk.frozen (h : Blk w b cs T) (i : Nat) : w.frozen? (Addr.add ⟨b, 0, none⟩ i) = false := by
  rw [add0, frozen_of_row w b i _ T h]
theorem Blk.set (h : Blk w b cs T) (i : Nat) (v : Value) : Blk (w.setCell (Addr.add ⟨b, 0, none⟩ i) v) b (cs.set i v) T := by
  unfold Blk
  rw [add0, heap_setCell_same w b i _ T v h]
  simp
theorem Blk.kp (h : Blk w b cs T) (g : Kp S w w') (hn : ¬ S b) : Blk w' b cs T := (g.keep b h.lt hn).trans h
theorem Blk.drew (h : Blk w b cs T) : Blk w.drew b cs T := h
theorem Blk.new (w : World) (cs : List Value) (T : TypeId) : Blk (w.alloc (.cells cs.toArray T)) w.heap.size cs T := heap_alloc_new w _
theorem Blk.alloc (h : Blk w b cs T) (o : Obj) : Blk (w.alloc o) b cs T := (heap_alloc_old w o h.lt).trans h
theorem Blk.set_other (h : Blk w b cs T) (a : Addr) (v : Value) (hn : b ≠ a.block) : Blk (w.setCell a v) b cs T := (heap_setCell_other w a b v hn).trans h

/-- The block of a slice. -/
def On (l : Slc) (k : Nat) : Prop := ∃ a, l.a = some a ∧ a.block = k
theorem On.nil {k : Nat} {n m : Nat} : ¬ On ⟨none, n, m⟩ k := fun ⟨_, h, _⟩ => by cases h

/-- A slice whose cells can be read. -/
def Rd (w : World) (l : Slc) (xs : List Value) : Prop := ∀ i, i < xs.length → ∃ a, l.a = some a ∧ w.cell? (Addr.add a i) = xs[i]?
theorem cell_lt {a : Addr} {v : Value} (h : w.cell? a = some v) : a.block < w.heap.size := World.block_lt_of_cell? w a h
theorem Rd.kp (h : Rd w l xs) (g : Kp S w w') (hn : ∀ k, On l k → ¬ S k) : Rd w' l xs := fun i hi => by
  obtain ⟨a, ha, hc⟩ := h i hi
  refine ⟨a, ha, ?_⟩
  have h1 : w.cell? (Addr.add a i) = some xs[i] := by rw [hc]; simp [hi]
  have h2 := cell_lt h1
  rw [add_block] at h2
  rw [World.cell?_of_block (w := w) (by rw [add_block]; exact g.keep _ h2 (hn _ ⟨a, ha, rfl⟩)), hc]
theorem Rd.nil (w : World) (l : Slc) : Rd w l [] := fun i hi => absurd hi (by simp)

/-- A slice that the work owns: its cells lie at the start of a block of its own. -/
structure Ownd (w : World) (l : Slc) (e : TypeId) (size : Nat) (xs : List Value) : Prop where
  row : w.ownsRow 0 e size (.slice l.a l.len l.cap) l.len xs

theorem Ownd.len (h : Ownd w l e size xs) : xs.length = l.len * size := h.row.1
theorem Ownd.nil (w : World) (e : TypeId) (size : Nat) : Ownd w ⟨none, 0, 0⟩ e size [] := ⟨World.ownsRow_nil w 0 e size⟩
theorem Ownd.cases (h : Ownd w l e size xs) : (l = ⟨none, 0, 0⟩ ∧ xs = []) ∨ ∃ g cur, l.a = some ⟨g, 0, none⟩ ∧ Blk w g cur e ∧ l.len ≤ l.cap ∧ l.cap ≤ maxLen ∧ cur.length = l.cap * size ∧ cur.take (l.len * size) = xs := by
  obtain ⟨a, n, c⟩ := l
  rcases h.row.2 with ⟨h1, h2⟩ | ⟨g, cap, cur, h1, _, h2, h3, h4, h5, h6⟩
  · left
    cases h1
    exact ⟨rfl, List.eq_nil_of_length_eq_zero (by simpa using h.len)⟩
  · right
    cases h1
    exact ⟨g, cur.toList, rfl, by simpa [Blk] using h2, h3, h4, by simpa using h5, h6⟩
theorem Ownd.mk' {g : Nat} {cur : List Value} (ha : l.a = some ⟨g, 0, none⟩) (hb : Blk w g cur e) (h1 : l.len ≤ l.cap) (h2 : l.cap ≤ maxLen) (h3 : cur.length = l.cap * size) (h4 : cur.take (l.len * size) = xs) : Ownd w l e size xs := by
  obtain ⟨a, n, c⟩ := l
  simp only at ha h1 h2 h3 h4
  subst ha
  refine ⟨⟨?_, .inr ⟨g, c, cur.toArray, rfl, Nat.zero_le _, hb, h1, h2, by simpa using h3, by simpa using h4⟩⟩⟩
  rw [← h4, List.length_take, h3, Nat.min_eq_left (Nat.mul_le_mul_right _ h1)]
theorem Ownd.on (h : Ownd w l e size xs) {k : Nat} (hk : On l k) : k < w.heap.size := by
  obtain ⟨a, ha, rfl⟩ := hk
  rcases h.cases with ⟨rfl, _⟩ | ⟨g, cur, hg, hb, _⟩
  · cases ha
  · rw [hg] at ha; cases ha; exact hb.lt
theorem Ownd.rd (h : Ownd w l e size xs) : Rd w l xs := fun i hi => by
  rcases h.cases with ⟨rfl, rfl⟩ | ⟨g, cur, hg, hb, _, _, _, ht⟩
  · exact absurd hi (by simp)
  · refine ⟨_, hg, ?_⟩
    have hi2 : i < l.len * size := by rw [← h.len]; exact hi
    rw [hb.cell, ← ht, List.getElem?_take, if_pos hi2]
theorem Ownd.eq_of (h : Ownd w l e size xs) (hk : ∀ k, On l k → w'.heap[k]? = w.heap[k]?) : Ownd w' l e size xs := by
  rcases h.cases with ⟨rfl, rfl⟩ | ⟨g, cur, hg, hb, h1, h2, h3, ht⟩
  · exact Ownd.nil _ _ _
  · exact Ownd.mk' hg ((hk g ⟨_, hg, rfl⟩).trans hb) h1 h2 h3 ht
theorem Ownd.kp (h : Ownd w l e size xs) (g : Kp S w w') (hn : ∀ k, On l k → ¬ S k) : Ownd w' l e size xs :=
  h.eq_of fun k hk => g.keep k (h.on hk) (hn k hk)
theorem Ownd.drew (h : Ownd w l e size xs) : Ownd w.drew l e size xs := h.eq_of fun _ _ => rfl
theorem Ownd.alloc (h : Ownd w l e size xs) (o : Obj) : Ownd (w.alloc o) l e size xs := h.eq_of fun _ hk => heap_alloc_old w o (h.on hk)
theorem Ownd.set_other (h : Ownd w l e size xs) (a : Addr) (v : Value) (hn : ¬ On l a.block) : Ownd (w.setCell a v) l e size xs :=
  h.eq_of fun k hk => heap_setCell_other w a k v (fun e => hn (e ▸ hk))
/-- A cell of an owned slice: it can be read, written, and what it is then. -/
theorem Ownd.at (h : Ownd w l e size xs) {i : Nat} (hi : i < xs.length) : ∃ a, l.a = some a ∧ w.cell? (Addr.add a i) = some xs[i] ∧ w.frozen? (Addr.add a i) = false ∧
    ∀ v, Ownd (w.setCell (Addr.add a i) v) l e size (xs.set i v) := by
  obtain ⟨a, ha, hc⟩ := h.rd i hi
  rcases h.cases with ⟨rfl, rfl⟩ | ⟨g, cur, hg, hb, h1, h2, h3, ht⟩
  · exact absurd hi (by simp)
  · rw [hg] at ha; cases ha
    refine ⟨_, hg, by rw [hc]; simp [hi], hb.frozen i, fun v => Ownd.mk' hg (hb.set i v) h1 h2 (by simpa using h3) ?_⟩
    rw [List.take_set, ht]

/-- 'append' of cells that can be read, onto an owned slice. -/
theorem append_own {P : Program} {t ty : TypeId} {i : TypeInfo} {z : Value} {bytes : Nat} (ht : P.underlying t = some (.slice e)) (hi : P.info? e = some i) (hz : i.zero = some z)
    (hsize : i.size = size) (hby : i.bytes = bytes) (hzs : z.cells.size = size) (hsz : 0 < size) (h : Ownd w l e size xs)
    (a : Addr) (m c : Nat) (hl : news.length = m * size) (hnews : ∀ j u, news[j]? = some u → w.cell? (a.add j) = some u) (h1 : ∀ u ∈ news, u.oneCell' = true)
    (h63 : l.len + m ≤ maxLen) (hbytes : (l.len + m) * bytes ≤ 140737488355328) :
    ∃ w' l', (Builtin.append_ #[t, t] ty #[.slice l.a l.len l.cap, .slice (some a) m c]).run P w = .ok (.slice l'.a l'.len l'.cap) w' ∧
      Ownd w' l' e size (xs ++ news) ∧ l'.len = l.len + m ∧ Kp (On l) w w' ∧ (∀ k, On l' k → On l k ∨ w.heap.size ≤ k) := by
  obtain ⟨v', w1, hr, ho, hg, _⟩ := run_append_own (P := P) w 0 t ty e i z size bytes ht hi hz hsize hby hzs hsz _ _ _ h.row a m c news hl hnews h1 h63 hbytes (Nat.zero_le _)
  subst hsize
  subst hby
  rcases h.cases with ⟨rfl, rfl⟩ | ⟨g, cur, hga, hb, hlc, hcm, hcl, htk⟩
  · by_cases hm : m = 0
    · subst hm
      have hn : news = [] := List.eq_nil_of_length_eq_zero (by simpa using hl)
      subst hn
      rcases ho.2 with ⟨rfl, _⟩ | ⟨g, cap, cur, rfl, _, h2, _⟩
      · refine ⟨w1, ⟨none, 0, 0⟩, hr, Ownd.nil _ _ _, rfl, ?_, fun k hk => absurd hk On.nil⟩
        have : (Builtin.append_ #[t, t] ty #[.slice none 0 0, .slice (some a) 0 c]).run P w = .ok (.slice none 0 0) w := by
          simp [Builtin.append_, run_underlying ht, sizeOf, typeInfo, hi, Builtin.lenOf, Builtin.firstCells, loadCells, loadCellsFrom]
        rw [this] at hr; cases hr; exact Kp.refl _ _
      · have : (Builtin.append_ #[t, t] ty #[.slice none 0 0, .slice (some a) 0 c]).run P w = .ok (.slice none 0 0) w := by
          simp [Builtin.append_, run_underlying ht, sizeOf, typeInfo, hi, Builtin.lenOf, Builtin.firstCells, loadCells, loadCellsFrom]
        rw [this] at hr; cases hr
    · have hr2 := run_append_nil (P := P) w t ty e i z ht hi hz a m c news hl hnews (by omega) (by simp only [maxLen] at h63; omega) (by have hb := hbytes; simp only [Nat.zero_add] at hb; omega)
      rw [hr] at hr2; cases hr2
      have e0 : (⟨none, 0, 0⟩ : Slc).len + m = m := Nat.zero_add m
      rw [e0] at ho ⊢
      refine ⟨_, ⟨some ⟨w.heap.size, 0, none⟩, m, grownCap w m 0 e⟩, hr, ⟨ho⟩, rfl, (Kp.refl _ w).drew.alloc _ _, fun k hk => ?_⟩
      obtain ⟨b, hb, rfl⟩ := hk; cases hb; exact .inr (Nat.le_refl _)
  · by_cases hroom : l.len + m ≤ l.cap
    · have hfit : l.len * i.size + news.length ≤ cur.toArray.size := by simp only [List.size_toArray]; rw [hl, hcl, ← Nat.add_mul]; exact Nat.mul_le_mul_right _ hroom
      have hr2 := run_append_room (P := P) w t ty e i ht hi g l.len l.cap cur.toArray hb a m c news hl hnews h1 hroom hfit
      rw [← hga, hr] at hr2; cases hr2
      refine ⟨_, ⟨_, _, _⟩, hr, ⟨ho⟩, rfl, ⟨rfl, rfl, rfl, by simp, fun x => ?_, fun k _ hk => setRow_other w g k _ (fun e => hk ⟨_, hga, e.symm⟩)⟩, fun k hk => .inl hk⟩
      by_cases hx : x.block = g
      · have e1 := setRow_heap w g cur.toArray (cur.toArray.toList.take (l.len * i.size) ++ news ++ cur.toArray.toList.drop (l.len * i.size + news.length)).toArray e (0, 0) hb
        unfold World.frozen?
        rw [hx, e1, show w.heap[g]? = _ from hb]
      · exact World.frozen?_of_block (setRow_other w g _ _ hx)
    · have holds : ∀ j u, xs[j]? = some u → w.cell? ((⟨g, 0, none⟩ : Addr).add j) = some u := h.row.cells (g := g) (by rw [hga]; rfl)
      have hr2 := run_append_grow (P := P) w t ty e i z ht hi hz ⟨g, 0, none⟩ l.len l.cap xs h.len holds a m c news hl hnews (by omega) (by simp only [maxLen] at h63; omega) (growslice_fits (by omega) hbytes)
      rw [← hga, hr] at hr2; cases hr2
      refine ⟨_, ⟨_, _, _⟩, hr, ⟨ho⟩, rfl, (Kp.refl _ w).drew.alloc _ _, fun k hk => ?_⟩
      obtain ⟨b, hb, rfl⟩ := hk; cases hb; exact .inr (Nat.le_refl _)

/-- What 'append' must know of a slice's type: its element, its cells and its bytes. -/
def El (P : Program) (t e : TypeId) (size bytes : Nat) : Prop :=
  P.underlying t = some (.slice e) ∧ ∃ i z, P.info? e = some i ∧ i.zero = some z ∧ i.size = size ∧ i.bytes = bytes ∧ z.cells.size = size

def elC (P : Program) (e : TypeId) (size bytes : Nat) : Bool :=
  match P.info? e with
  | some i => match i.zero with
    | some z => (i.size == size) && (i.bytes == bytes) && (z.cells.size == size)
    | none => false
  | none => false
theorem El.of {P : Program} {t e : TypeId} {size bytes : Nat} (h1 : P.underlying t = some (.slice e)) (h2 : elC P e size bytes = true) : El P t e size bytes := by
  refine ⟨h1, ?_⟩
  unfold elC at h2
  split at h2
  · rename_i i hi
    split at h2
    · rename_i z hz
      simp only [Bool.and_eq_true, beq_iff_eq] at h2
      exact ⟨i, z, hi, hz, h2.1.1, h2.1.2, h2.2⟩
    · cases h2
  · cases h2

/-- 'append' of a slice that can be read (it may be nil). -/
theorem append_rd {P : Program} {t ty : TypeId} {bytes : Nat} (he : El P t e size bytes) (hsz : 0 < size) (h : Ownd w l e size xs)
    (src : Slc) (hl : news.length = src.len * size) (hr : Rd w src news) (h1 : ∀ u ∈ news, u.oneCell' = true)
    (h63 : l.len + src.len ≤ maxLen) (hbytes : (l.len + src.len) * bytes ≤ 140737488355328) :
    ∃ w' l', (Builtin.append_ #[t, t] ty #[.slice l.a l.len l.cap, .slice src.a src.len src.cap]).run P w = .ok (.slice l'.a l'.len l'.cap) w' ∧
      Ownd w' l' e size (xs ++ news) ∧ l'.len = l.len + src.len ∧ Kp (On l) w w' ∧ (∀ k, On l' k → On l k ∨ w.heap.size ≤ k) := by
  obtain ⟨ht, i, z, hi, hz, hs, hb, hzs⟩ := he
  cases ha : src.a with
  | some a =>
    refine append_own ht hi hz hs hb hzs hsz h a src.len src.cap hl (fun j u hu => ?_) h1 h63 hbytes
    have hj : j < news.length := by
      by_cases g : j < news.length
      · exact g
      · rw [List.getElem?_eq_none (by omega)] at hu; cases hu
    obtain ⟨a', ha', hc⟩ := hr j hj
    rw [ha] at ha'; cases ha'
    rw [hc, hu]
  | none =>
    have hn : news = [] := by
      cases news with
      | nil => rfl
      | cons x y => obtain ⟨a, ha', _⟩ := hr 0 (by simp); rw [ha] at ha'; cases ha'
    subst hn
    have h0 : src.len = 0 := by
      rcases Nat.eq_zero_or_pos src.len with h | h
      · exact h
      · have := Nat.mul_pos h hsz; simp at hl; omega
    have hcap : l.len ≤ l.cap := by
      rcases h.cases with ⟨rfl, _⟩ | ⟨_, _, _, _, h, _⟩
      · exact Nat.le_refl _
      · exact h
    have hrun : (Builtin.append_ #[t, t] ty #[.slice l.a l.len l.cap, .slice none src.len src.cap]).run P w = .ok (.slice l.a l.len l.cap) w := by
      rw [h0]
      cases hla : l.a <;> simp [Builtin.append_, run_underlying ht, sizeOf, typeInfo, hi, Builtin.lenOf, Builtin.firstCells, hcap]
      rfl
    exact ⟨w, l, hrun, by simpa using h, by rw [h0]; rfl, Kp.refl _ _, fun k hk => .inl hk⟩

/-- 'append' of one value of one cell. -/
theorem append_one {P : Program} {t ty : TypeId} {bytes : Nat} (he : El P t e 1 bytes) (h : Ownd w l e 1 xs) (u : Value) (hu : u.oneCell' = true)
    (h63 : l.len + 1 ≤ maxLen) (hbytes : (l.len + 1) * bytes ≤ 140737488355328) :
    ∃ w' l', (Builtin.append_ #[t, t] ty #[.slice l.a l.len l.cap, .slice (some ⟨w.heap.size, 0, none⟩) 1 1]).run P (w.alloc (.cells #[u] e)) = .ok (.slice l'.a l'.len l'.cap) w' ∧
      Ownd w' l' e 1 (xs ++ [u]) ∧ l'.len = l.len + 1 ∧ Kp (On l) w w' ∧ (∀ k, On l' k → On l k ∨ w.heap.size ≤ k) := by
  have hb := Blk.new w [u] e
  obtain ⟨w', l', hr, ho, hl, hk, hf⟩ := append_rd (news := [u]) (ty := ty) he (by omega) (h.alloc (.cells #[u] e)) ⟨some ⟨w.heap.size, 0, none⟩, 1, 1⟩ (by simp)
    (fun i hi => ⟨_, rfl, by rw [hb.cell]⟩) (by simpa using hu) h63 hbytes
  exact ⟨w', l', hr, ho, hl, ((Kp.refl (On l) w).alloc _ _).trans hk (fun _ _ h => h), fun k hk => (hf k hk).imp id (fun h => by simp at h; omega)⟩

/-- A new empty slice that is not nil. -/
theorem Ownd.empty (w : World) (e : TypeId) (size : Nat) : Ownd (w.alloc (.cells #[] e)) ⟨some ⟨w.heap.size, 0, none⟩, 0, 0⟩ e size [] :=
  Ownd.mk' rfl (Blk.new w [] e) (Nat.le_refl _) (Nat.zero_le _) (by simp) (by simp)
end Go.VC
