/- Memory: blocks that are known whole, slices that the work owns, slices that can be read, and what a step leaves as it was. No program here. A verification-condition generator for the model's code: ranges over functions; functions that hold them. A verification-condition generator for the model's code: functions that hold ranges over functions. Plain arithmetic of words of 64 bits; the model's operations on them. No program here. -/
import Derived.Test.YtomajpihimlcjaaDoorVa
import Derived.Laws.AppendOwn
import Derived.RowKit3
import Derived.Below
namespace Go.VC
open Go Go.RowKit

/-- A block and what it holds. -/
def Blk (w : World) (b : Nat) (cs : List Value) (T : TypeId) : Prop := w.heap[b]? = some (.cells cs.toArray T (0, 0))

/-- What is as it was: all but the named blocks. -/
structure Kp (S : Nat → Prop) (w w' : World) : Prop where
  os : w'.os = w.os
  tape : w'.tape = w.tape
  out : w'.output = w.output
  size : w.heap.size ≤ w'.heap.size
  fz : ∀ a, w'.frozen? a = w.frozen? a
  keep : ∀ k, k < w.heap.size → ¬ S k → w'.heap[k]? = w.heap[k]?

variable {S S' : Nat → Prop} {w w' w'' : World} {b : Nat} {cs xs news : List Value} {T e : TypeId} {l : Slc} {size : Nat}

theorem Kp.refl (S : Nat → Prop) (w : World) : Kp S w w := ⟨rfl, rfl, rfl, Nat.le_refl _, fun _ => rfl, fun _ _ _ => rfl⟩
theorem Kp.trans (h : Kp S w w') (g : Kp S' w' w'') (hs : ∀ k, k < w.heap.size → S' k → S k) : Kp S w w'' :=
  ⟨g.os.trans h.os, g.tape.trans h.tape, g.out.trans h.out, Nat.le_trans h.size g.size, fun a => (g.fz a).trans (h.fz a), fun k hk hn => (g.keep k (Nat.lt_of_lt_of_le hk h.size) (fun e => hn (hs k hk e))).trans (h.keep k hk hn)⟩
theorem Kp.mono (h : Kp S w w') (hs : ∀ k, k < w.heap.size → S k → S' k) : Kp S' w w' :=
  ⟨h.os, h.tape, h.out, h.size, h.fz, fun k hk hn => h.keep k hk (fun e => hn (hs k hk e))⟩
theorem Kp.drew (h : Kp S w w') : Kp S w w'.drew := ⟨h.os, h.tape, h.out, h.size, h.fz, h.keep⟩
theorem Kp.alloc (h : Kp S w w') (c : Array Value) (t : TypeId) : Kp S w (w'.alloc (.cells c t)) :=
  ⟨h.os, h.tape, h.out, by have := h.size; simp; omega, fun a => (frozen?_alloc_cells _ _ _ a).trans (h.fz a), fun k hk hn => (heap_alloc_old w' _ (Nat.lt_of_lt_of_le hk h.size)).trans (h.keep k hk hn)⟩
theorem Kp.set (h : Kp S w w') (a : Addr) (v : Value) (ha : a.block < w.heap.size → S a.block) : Kp S w (w'.setCell a v) :=
  ⟨h.os, h.tape, h.out, by have := h.size; simpa using this, fun x => (World.frozen?_setCell _ _ _ _).trans (h.fz x), fun k hk hn => (heap_setCell_other w' a k v (fun e => hn (e ▸ ha (e ▸ hk)))).trans (h.keep k hk hn)⟩
theorem Kp.toGrown (h : Kp (fun _ => False) w w') : Grown w w' := by
  have hb : ∀ k, k < w.heap.size → w'.heap[k]? = w.heap[k]? := fun k hk => h.keep k hk id
  refine ⟨⟨h.os, h.out, fun i hi => ?_⟩, h.fz, h.size⟩
  rw [hb i hi]
  split
  · rename_i e1 e2; rw [e1] at e2; cases e2; exact ⟨rfl, rfl, rfl, fun _ _ => rfl⟩
  · rename_i e1 e2; rw [e1] at e2; cases e2; exact .inr ⟨rfl, rfl⟩
  · rfl

theorem Kp.toBelow (h : Kp (fun _ => False) w w') : Below w.heap.size w w' := ⟨h.os, h.tape, h.out, h.size, fun k hk => h.keep k hk id⟩

theorem add0 (b i : Nat) : Addr.add ⟨b, 0, none⟩ i = ⟨b, i, none⟩ := by rw [Addr.add_lit, Nat.zero_add]
theorem add_block (a : Addr) (i : Nat) : (Addr.add a i).block = a.block := by unfold Addr.add; split <;> rfl
theorem heap_lt {k : Nat} {o : Obj} (h : w.heap[k]? = some o) : k < w.heap.size := by
  by_cases g : k < w.heap.size
  · exact g
  · rw [Array.getElem?_eq_none (by omega)] at h; cases h

theorem Blk.lt (h : Blk w b cs T) : b < w.heap.size := heap_lt h
theorem Blk.cell (h : Blk w b cs T) (i : Nat) : w.cell? (Addr.add ⟨b, 0, none⟩ i) = cs[i]? := by
  rw [add0, cell_of_row w b i _ T (0, 0) h]; simp
theorem Blk.cell0 (h : Blk w b cs T) (i : Nat) : w.cell? ⟨b, i, none⟩ = cs[i]? := by
  rw [cell_of_row w b i _ T (0, 0) h]; simp
theorem Blk.frozen (h : Blk w b cs T) (i : Nat) : w.frozen? (Addr.add ⟨b, 0, none⟩ i) = false := by
  rw [add0, frozen_of_row w b i _ T h]
theorem Blk.set (h : Blk w b cs T) (i : Nat) (v : Value) : Blk (w.setCell (Addr.add ⟨b, 0, none⟩ i) v) b (cs.set i v) T := by
  unfold Blk
  rw [add0, heap_setCell_same w b i _ T v h]
  simp
theorem Blk.kp (h : Blk w b cs T) (g : Kp S w w') (hn : ¬ S b) : Blk w' b cs T := (g.keep b h.lt hn).trans h
theorem Blk.drew (h : Blk w b cs T) : Blk w.drew b cs T := h
theorem Blk.new (w : World) (cs : List Value) (T : TypeId) : Blk (w.alloc (.cells cs.toArray T)) w.heap.size cs T := heap_alloc_new w _
theorem Blk.alloc (h : Blk w b cs T) (o : Obj) : Blk (w.alloc o) b cs T := (heap_alloc_old w o h.lt).trans h
theorem Blk.set_other (h : Blk w b cs T) (a : Addr) (v : Value) (hn : b ≠ a.block) : Blk (w.setCell a v) b cs T := (heap_setCell_other w a b v hn).trans h

/-- The block of a slice. -/
def On (l : Slc) (k : Nat) : Prop := ∃ a, l.a = some a ∧ a.block = k
theorem On.nil {k : Nat} {n m : Nat} : ¬ On ⟨none, n, m⟩ k := fun ⟨_, h, _⟩ => by cases h

/-- A slice whose cells can be read. -/
def Rd (w : World) (l : Slc) (xs : List Value) : Prop := ∀ i, i < xs.length → ∃ a, l.a = some a ∧ w.cell? (Addr.add a i) = xs[i]?
theorem cell_lt {a : Addr} {v : Value} (h : w.cell? a = some v) : a.block < w.heap.size := World.block_lt_of_cell? w a h
theorem Rd.kp (h : Rd w l xs) (g : Kp S w w') (hn : ∀ k, On l k → ¬ S k) : Rd w' l xs := fun i hi => by
  obtain ⟨a, ha, hc⟩ := h i hi
  refine ⟨a, ha, ?_⟩
  have h1 : w.cell? (Addr.add a i) = some xs[i] := by rw [hc]; simp [hi]
  have h2 := cell_lt h1
  rw [add_block] at h2
  rw [World.cell?_of_block (w := w) (by rw [add_block]; exact g.keep _ h2 (hn _ ⟨a, ha, rfl⟩)), hc]
theorem Rd.nil (w : World) (l : Slc) : Rd w l [] := fun i hi => absurd hi (by simp)

/-- A slice that the work owns: its cells lie at the start of a block of its own. -/
structure Ownd (w : World) (l : Slc) (e : TypeId) (size : Nat) (xs : List Value) : Prop where
  row : w.ownsRow 0 e size (.slice l.a l.len l.cap) l.len xs

theorem Ownd.len (h : Ownd w l e size xs) : xs.length = l.len * size := h.row.1
theorem Ownd.nil (w : World) (e : TypeId) (size : Nat) : Ownd w ⟨none, 0, 0⟩ e size [] := ⟨World.ownsRow_nil w 0 e size⟩
theorem Ownd.cases (h : Ownd w l e size xs) : (l = ⟨none, 0, 0⟩ ∧ xs = []) ∨ ∃ g cur, l.a = some ⟨g, 0, none⟩ ∧ Blk w g cur e ∧ l.len ≤ l.cap ∧ l.cap ≤ maxLen ∧ cur.length = l.cap * size ∧ cur.take (l.len * size) = xs := by
  obtain ⟨a, n, c⟩ := l
  rcases h.row.2 with ⟨h1, h2⟩ | ⟨g, cap, cur, h1, _, h2, h3, h4, h5, h6⟩
  · left
    cases h1
    exact ⟨rfl, List.eq_nil_of_length_eq_zero (by simpa using h.len)⟩
  · right
    cases h1
    exact ⟨g, cur.toList, rfl, by simpa [Blk] using h2, h3, h4, by simpa using h5, h6⟩
theorem Ownd.mk' {g : Nat} {cur : List Value} (ha : l.a = some ⟨g, 0, none⟩) (hb : Blk w g cur e) (h1 : l.len ≤ l.cap) (h2 : l.cap ≤ maxLen) (h3 : cur.length = l.cap * size) (h4 : cur.take (l.len * size) = xs) : Ownd w l e size xs := by
  obtain ⟨a, n, c⟩ := l
  simp only at ha h1 h2 h3 h4
  subst ha
  refine ⟨⟨?_, .inr ⟨g, c, cur.toArray, rfl, Nat.zero_le _, hb, h1, h2, by simpa using h3, by simpa using h4⟩⟩⟩
  rw [← h4, List.length_take, h3, Nat.min_eq_left (Nat.mul_le_mul_right _ h1)]
theorem Ownd.on (h : Ownd w l e size xs) {k : Nat} (hk : On l k) : k < w.heap.size := by
  obtain ⟨a, ha, rfl⟩ := hk
  rcases h.cases with ⟨rfl, _⟩ | ⟨g, cur, hg, hb, _⟩
  · cases ha
  · rw [hg] at ha; cases ha; exact hb.lt
theorem Ownd.rd (h : Ownd w l e size xs) : Rd w l xs := fun i hi => by
  rcases h.cases with ⟨rfl, rfl⟩ | ⟨g, cur, hg, hb, _, _, _, ht⟩
  · exact absurd hi (by simp)
  · refine ⟨_, hg, ?_⟩
    have hi2 : i < l.len * size := by rw [← h.len]; exact hi
    rw [hb.cell, ← ht, List.getElem?_take, if_pos hi2]
theorem Ownd.eq_of (h : Ownd w l e size xs) (hk : ∀ k, On l k → w'.heap[k]? = w.heap[k]?) : Ownd w' l e size xs := by
  rcases h.cases with ⟨rfl, rfl⟩ | ⟨g, cur, hg, hb, h1, h2, h3, ht⟩
  · exact Ownd.nil _ _ _
  · exact Ownd.mk' hg ((hk g ⟨_, hg, rfl⟩).trans hb) h1 h2 h3 ht
theorem Ownd.kp (h : Ownd w l e size xs) (g : Kp S w w') (hn : ∀ k, On l k → ¬ S k) : Ownd w' l e size xs :=
  h.eq_of fun k hk => g.keep k (h.on hk) (hn k hk)
theorem Ownd.drew (h : Ownd w l e size xs) : Ownd w.drew l e size xs := h.eq_of fun _ _ => rfl
theorem Ownd.alloc (h : Ownd w l e size xs) (o : Obj) : Ownd (w.alloc o) l e size xs := h.eq_of fun _ hk => heap_alloc_old w o (h.on hk)
theorem Ownd.set_other (h : Ownd w l e size xs) (a : Addr) (v : Value) (hn : ¬ On l a.block) : Ownd (w.setCell a v) l e size xs :=
  h.eq_of fun k hk => heap_setCell_other w a k v (fun e => hn (e ▸ hk))
/-- A cell of an owned slice: it can be read, written, and what it is then. -/
theorem Ownd.at (h : Ownd w l e size xs) {i : Nat} (hi : i < xs.length) : ∃ a, l.a = some a ∧ w.cell? (Addr.add a i) = some xs[i] ∧ w.frozen? (Addr.add a i) = false ∧
    ∀ v, Ownd (w.setCell (Addr.add a i) v) l e size (xs.set i v) := by
  obtain ⟨a, ha, hc⟩ := h.rd i hi
  rcases h.cases with ⟨rfl, rfl⟩ | ⟨g, cur, hg, hb, h1, h2, h3, ht⟩
  · exact absurd hi (by simp)
  · rw [hg] at ha; cases ha
    refine ⟨_, hg, by rw [hc]; simp [hi], hb.frozen i, fun v => Ownd.mk' hg (hb.set i v) h1 h2 (by simpa using h3) ?_⟩
    rw [List.take_set, ht]

/-- 'append' of cells that can be read, onto an owned slice. -/
theorem append_own {P : Program} {t ty : TypeId} {i : TypeInfo} {z : Value} {bytes : Nat} (ht : P.underlying t = some (.slice e)) (hi : P.info? e = some i) (hz : i.zero = some z)
    (hsize : i.size = size) (hby : i.bytes = bytes) (hzs : z.cells.size = size) (hsz : 0 < size) (h : Ownd w l e size xs)
    (a : Addr) (m c : Nat) (hl : news.length = m * size) (hnews : ∀ j u, news[j]? = some u → w.cell? (a.add j) = some u) (h1 : ∀ u ∈ news, u.oneCell' = true)
    (h63 : l.len + m ≤ maxLen) (hbytes : (l.len + m) * bytes ≤ 140737488355328) :
    ∃ w' l', (Builtin.append_ #[t, t] ty #[.slice l.a l.len l.cap, .slice (some a) m c]).run P w = .ok (.slice l'.a l'.len l'.cap) w' ∧
      Ownd w' l' e size (xs ++ news) ∧ l'.len = l.len + m ∧ Kp (On l) w w' ∧ (∀ k, On l' k → On l k ∨ w.heap.size ≤ k) := by
  obtain ⟨v', w1, hr, ho, hg, _⟩ := run_append_own (P := P) w 0 t ty e i z size bytes ht hi hz hsize hby hzs hsz _ _ _ h.row a m c news hl hnews h1 h63 hbytes (Nat.zero_le _)
  subst hsize
  subst hby
  rcases h.cases with ⟨rfl, rfl⟩ | ⟨g, cur, hga, hb, hlc, hcm, hcl, htk⟩
  · by_cases hm : m = 0
    · subst hm
      have hn : news = [] := List.eq_nil_of_length_eq_zero (by simpa using hl)
      subst hn
      rcases ho.2 with ⟨rfl, _⟩ | ⟨g, cap, cur, rfl, _, h2, _⟩
      · refine ⟨w1, ⟨none, 0, 0⟩, hr, Ownd.nil _ _ _, rfl, ?_, fun k hk => absurd hk On.nil⟩
        have : (Builtin.append_ #[t, t] ty #[.slice none 0 0, .slice (some a) 0 c]).run P w = .ok (.slice none 0 0) w := by
          simp [Builtin.append_, run_underlying ht, sizeOf, typeInfo, hi, Builtin.lenOf, Builtin.firstCells, loadCells, loadCellsFrom]
        rw [this] at hr; cases hr; exact Kp.refl _ _
      · have : (Builtin.append_ #[t, t] ty #[.slice none 0 0, .slice (some a) 0 c]).run P w = .ok (.slice none 0 0) w := by
          simp [Builtin.append_, run_underlying ht, sizeOf, typeInfo, hi, Builtin.lenOf, Builtin.firstCells, loadCells, loadCellsFrom]
        rw [this] at hr; cases hr
    · have hr2 := run_append_nil (P := P) w t ty e i z ht hi hz a m c news hl hnews (by omega) (by simp only [maxLen] at h63; omega) (by have hb := hbytes; simp only [Nat.zero_add] at hb; omega)
      rw [hr] at hr2; cases hr2
      have e0 : (⟨none, 0, 0⟩ : Slc).len + m = m := Nat.zero_add m
      rw [e0] at ho ⊢
      refine ⟨_, ⟨some ⟨w.heap.size, 0, none⟩, m, grownCap w m 0 e⟩, hr, ⟨ho⟩, rfl, (Kp.refl _ w).drew.alloc _ _, fun k hk => ?_⟩
      obtain ⟨b, hb, rfl⟩ := hk; cases hb; exact .inr (Nat.le_refl _)
  · by_cases hroom : l.len + m ≤ l.cap
    · have hfit : l.len * i.size + news.length ≤ cur.toArray.size := by simp only [List.size_toArray]; rw [hl, hcl, ← Nat.add_mul]; exact Nat.mul_le_mul_right _ hroom
      have hr2 := run_append_room (P := P) w t ty e i ht hi g l.len l.cap cur.toArray hb a m c news hl hnews h1 hroom hfit
      rw [← hga, hr] at hr2; cases hr2
      refine ⟨_, ⟨_, _, _⟩, hr, ⟨ho⟩, rfl, ⟨rfl, rfl, rfl, by simp, fun x => ?_, fun k _ hk => setRow_other w g k _ (fun e => hk ⟨_, hga, e.symm⟩)⟩, fun k hk => .inl hk⟩
      by_cases hx : x.block = g
      · have e1 := setRow_heap w g cur.toArray (cur.toArray.toList.take (l.len * i.size) ++ news ++ cur.toArray.toList.drop (l.len * i.size + news.length)).toArray e (0, 0) hb
        unfold World.frozen?
        rw [hx, e1, show w.heap[g]? = _ from hb]
      · exact World.frozen?_of_block (setRow_other w g _ _ hx)
    · have holds : ∀ j u, xs[j]? = some u → w.cell? ((⟨g, 0, none⟩ : Addr).add j) = some u := h.row.cells (g := g) (by rw [hga]; rfl)
      have hr2 := run_append_grow (P := P) w t ty e i z ht hi hz ⟨g, 0, none⟩ l.len l.cap xs h.len holds a m c news hl hnews (by omega) (by simp only [maxLen] at h63; omega) (growslice_fits (by omega) hbytes)
      rw [← hga, hr] at hr2; cases hr2
      refine ⟨_, ⟨_, _, _⟩, hr, ⟨ho⟩, rfl, (Kp.refl _ w).drew.alloc _ _, fun k hk => ?_⟩
      obtain ⟨b, hb, rfl⟩ := hk; cases hb; exact .inr (Nat.le_refl _)

/-- What 'append' must know of a slice's type: its element, its cells and its bytes. -/
def El (P : Program) (t e : TypeId) (size bytes : Nat) : Prop :=
  P.underlying t = some (.slice e) ∧ ∃ i z, P.info? e = some i ∧ i.zero = some z ∧ i.size = size ∧ i.bytes = bytes ∧ z.cells.size = size

def elC (P : Program) (e : TypeId) (size bytes : Nat) : Bool :=
  match P.info? e with
  | some i => match i.zero with
    | some z => (i.size == size) && (i.bytes == bytes) && (z.cells.size == size)
    | none => false
  | none => false
theorem El.of {P : Program} {t e : TypeId} {size bytes : Nat} (h1 : P.underlying t = some (.slice e)) (h2 : elC P e size bytes = true) : El P t e size bytes := by
  refine ⟨h1, ?_⟩
  unfold elC at h2
  split at h2
  · rename_i i hi
    split at h2
    · rename_i z hz
      simp only [Bool.and_eq_true, beq_iff_eq] at h2
      exact ⟨i, z, hi, hz, h2.1.1, h2.1.2, h2.2⟩
    · cases h2
  · cases h2

/-- 'append' of a slice that can be read (it may be nil). -/
theorem append_rd {P : Program} {t ty : TypeId} {bytes : Nat} (he : El P t e size bytes) (hsz : 0 < size) (h : Ownd w l e size xs)
    (src : Slc) (hl : news.length = src.len * size) (hr : Rd w src news) (h1 : ∀ u ∈ news, u.oneCell' = true)
    (h63 : l.len + src.len ≤ maxLen) (hbytes : (l.len + src.len) * bytes ≤ 140737488355328) :
    ∃ w' l', (Builtin.append_ #[t, t] ty #[.slice l.a l.len l.cap, .slice src.a src.len src.cap]).run P w = .ok (.slice l'.a l'.len l'.cap) w' ∧
      Ownd w' l' e size (xs ++ news) ∧ l'.len = l.len + src.len ∧ Kp (On l) w w' ∧ (∀ k, On l' k → On l k ∨ w.heap.size ≤ k) := by
  obtain ⟨ht, i, z, hi, hz, hs, hb, hzs⟩ := he
  cases ha : src.a with
  | some a =>
    refine append_own ht hi hz hs hb hzs hsz h a src.len src.cap hl (fun j u hu => ?_) h1 h63 hbytes
    have hj : j < news.length := by
      by_cases g : j < news.length
      · exact g
      · rw [List.getElem?_eq_none (by omega)] at hu; cases hu
    obtain ⟨a', ha', hc⟩ := hr j hj
    rw [ha] at ha'; cases ha'
    rw [hc, hu]
  | none =>
    have hn : news = [] := by
      cases news with
      | nil => rfl
      | cons x y => obtain ⟨a, ha', _⟩ := hr 0 (by simp); rw [ha] at ha'; cases ha'
    subst hn
    have h0 : src.len = 0 := by
      rcases Nat.eq_zero_or_pos src.len with h | h
      · exact h
      · have := Nat.mul_pos h hsz; simp at hl; omega
    have hcap : l.len ≤ l.cap := by
      rcases h.cases with ⟨rfl, _⟩ | ⟨_, _, _, _, h, _⟩
      · exact Nat.le_refl _
      · exact h
    have hrun : (Builtin.append_ #[t, t] ty #[.slice l.a l.len l.cap, .slice none src.len src.cap]).run P w = .ok (.slice l.a l.len l.cap) w := by
      rw [h0]
      cases hla : l.a <;> simp [Builtin.append_, run_underlying ht, sizeOf, typeInfo, hi, Builtin.lenOf, Builtin.firstCells, hcap]
      rfl
    exact ⟨w, l, hrun, by simpa using h, by rw [h0]; rfl, Kp.refl _ _, fun k hk => .inl hk⟩

/-- 'append' of one value of one cell. -/
theorem append_one {P : Program} {t ty : TypeId} {bytes : Nat} (he : El P t e 1 bytes) (h : Ownd w l e 1 xs) (u : Value) (hu : u.oneCell' = true)
    (h63 : l.len + 1 ≤ maxLen) (hbytes : (l.len + 1) * bytes ≤ 140737488355328) :
    ∃ w' l', (Builtin.append_ #[t, t] ty #[.slice l.a l.len l.cap, .slice (some ⟨w.heap.size, 0, none⟩) 1 1]).run P (w.alloc (.cells #[u] e)) = .ok (.slice l'.a l'.len l'.cap) w' ∧
      Ownd w' l' e 1 (xs ++ [u]) ∧ l'.len = l.len + 1 ∧ Kp (On l) w w' ∧ (∀ k, On l' k → On l k ∨ w.heap.size ≤ k) := by
  have hb := Blk.new w [u] e
  obtain ⟨w', l', hr, ho, hl, hk, hf⟩ := append_rd (news := [u]) (ty := ty) he (by omega) (h.alloc (.cells #[u] e)) ⟨some ⟨w.heap.size, 0, none⟩, 1, 1⟩ (by simp)
    (fun i hi => ⟨_, rfl, by rw [hb.cell]⟩) (by simpa using hu) h63 hbytes
  exact ⟨w', l', hr, ho, hl, ((Kp.refl (On l) w).alloc _ _).trans hk (fun _ _ h => h), fun k hk => (hf k hk).imp id (fun h => by simp at h; omega)⟩

/-- A new empty slice that is not nil. -/
theorem Ownd.empty (w : World) (e : TypeId) (size : Nat) : Ownd (w.alloc (.cells #[] e)) ⟨some ⟨w.heap.size, 0, none⟩, 0, 0⟩ e size [] :=
  Ownd.mk' rfl (Blk.new w [] e) (Nat.le_refl _) (Nat.zero_le _) (by simp) (by simp)
end Go.VC

namespace Go.VC
open Go Go.RowKit

/-- The step changes private blocks alone; more blocks may be private behind it. -/
structure Gr (T T' : Nat → Prop) (w w' : World) : Prop where
  kp : Kp T w w'
  up : ∀ k, T k → T' k
  fr : ∀ k, T' k → T k ∨ w.heap.size ≤ k

/-- What is said abides what a private step changes. -/
def Stab (J : (Nat → Prop) → World → Prop) : Prop := ∀ T T' w w', J T w → Gr T T' w w' → J T' w'

/-- An iterator: called at whatever loop's yield it hands on the n elements one behind the other, until the loop has enough; it changes blocks of its own alone, and the rounds must leave these, and its data, as they are. -/
def Iter (P : Program) (g : Nat) (first cap : List Value) (w : World) (n : Nat) (xs : Nat → List Value) (Dt : Nat → Prop) : Prop :=
  ∀ (l : Nat) (J : Nat → (Nat → Prop) → World → Prop) (X : (Nat → Prop) → World → Prop) (w1 : World),
    Kp (fun _ => False) w w1 → (∀ j, Stab (J j)) → Stab X →
    (∀ j T w', j < n → J j T w' → (∀ k, T k → w1.heap.size ≤ k) → (∀ k, T k → k < w'.heap.size) →
      YieldC P l ⟨xs j⟩ w' fun v w'' => Kp (fun k => ¬ T k ∧ ¬ Dt k) w' w'' ∧ ((v = .bool true ∧ J (j + 1) T w'') ∨ (v = .bool false ∧ X T w''))) →
    J 0 (fun _ => False) w1 →
    Calls P g ⟨first ++ (.func (.yield l) #[] #[] :: cap)⟩ w1 (Rv fun _ w' => ∃ T, (∀ k, T k → w1.heap.size ≤ k ∧ k < w'.heap.size) ∧ (J n T w' ∨ X T w'))

def exXs : List (Nat × Kd) → ((Nat → List Value) → Prop) → Prop
  | [], q => q (fun _ => [])
  | (_, k) :: ks, q => ∃ x : Nat → k.T, exXs ks fun f => q (fun j => k.inj (x j) :: f j)
theorem exXs.ex : ∀ {ks : List (Nat × Kd)} {q : (Nat → List Value) → Prop}, exXs ks q → ∃ f, (∀ j, (f j).length = ks.length) ∧ q f
  | [], q, h => ⟨_, fun _ => rfl, h⟩
  | (_, k) :: ks, q, h => by
    obtain ⟨x, h⟩ := h
    obtain ⟨f, hl, h⟩ := exXs.ex h
    exact ⟨_, fun j => by simp [hl j], h⟩

/-- The exits by which code may be left. -/
def exitsOf : Code → List Nat
  | .exit id => [id]
  | .seq a b | .cond _ a b => exitsOf a ++ (exitsOf b).filter (fun j => !inL (exitsOf a) j)
  | .block id c => (exitsOf c).filter (fun j => !Nat.beq j id)
  | .loop c => exitsOf c
  | _ => []

def allIds : List Nat → (Nat → Prop) → Prop
  | [], _ => True
  | [i], q => q i
  | i :: is, q => q i ∧ allIds is q
theorem allIds.out : ∀ {is : List Nat} {q : Nat → Prop}, allIds is q → ∀ i, i ∈ is → q i
  | [], q, _, i, hi => by cases hi
  | [j], q, h, i, hi => by have := List.mem_singleton.1 hi; subst this; exact h
  | j :: k :: is, q, h, i, hi => by
    rcases List.mem_cons.1 hi with e | e
    · subst e; exact h.1
    · exact allIds.out h.2 i e

def psE : Env → List Nat → List Value → Env
  | acc, p :: ps, v :: vs => psE ((p, some v) :: acc) ps vs
  | acc, _, _ => acc

def allLt (N : Nat) : List Nat → Bool
  | [] => true
  | p :: ps => Nat.blt p N && allLt N ps

def rfKey (body : Code) : Nat := 1000000 + (firstR body).getD 0

/-- One round. -/
def rfBody (cx : Cx) (base : Env) (assign body : Code) (S : Nat → Prop) (l : Nat) (J1 : World → Prop) (X : Option Nat → World → Prop) (loc0 : Env) (w1 : World) : Prop :=
  trC cx assign [] base (fun dl l2 w2 => ck (isNil dl) (Kp S w1 w2 ∧ ∀ w3, Kp (fun k => k = l) w2 w3 →
      trC cx body [] base (fun dl _ w4 => ck (isNil dl) (Kp S w3 w4 ∧ J1 w4))
        (fun id dl _ w4 => ck (isNil dl && inL (exitsOf body) id) (Kp S w3 w4 ∧ X (some id) w4))
        (fun dl _ w4 => ck (isNil dl) (Kp S w3 w4 ∧ X none w4)) [] l2 w3))
    (fun _ _ _ _ => False) (fun _ _ _ => False) [] loc0 w1

/-- A range over a function. -/
def RfC (cx : Cx) (gf : Nat) (first cap : List Value) (ps : List Nat) (assign body : Code) (base : Env) (kn : Ct) (kx : Nat → Ct) (kr : List Nat → Sl → World → Prop) (ds : List Nat) (loc : Env) (w : World) : Prop :=
  ck (allLt cx.N ps && Nat.beq ps.length (cx.L (rfKey body)).length) (∃ n : Nat, exXs (cx.L (rfKey body)) fun xs => ∃ (Dt : Nat → Prop) (J : Nat → (Nat → Prop) → World → Prop) (X : Option Nat → (Nat → Prop) → World → Prop),
    Iter cx.P gf first cap w n xs Dt ∧ (∀ k, Dt k → k < w.heap.size) ∧ (∀ j, Stab (J j)) ∧ (∀ o, Stab (X o)) ∧ J 0 (fun _ => False) w ∧
    (∀ (j : Nat) (T : Nat → Prop) (w1 : World), j < n → J j T w1 → (∀ k, T k → w.heap.size ≤ k) → T w.heap.size → T (w.heap.size + 1) → (∀ k, T k → k < w1.heap.size) →
      rfBody cx (loc ++ base) assign body (fun k => ¬ T k ∧ ¬ Dt k) (w.heap.size + 1) (J (j + 1) T) (fun o => X o T) (psE [] ps (xs j)) w1) ∧
    (∀ (T : Nat → Prop) (w2 : World), J n T w2 → ((∀ k, T k → w.heap.size ≤ k ∧ k < w2.heap.size) ∧ T w.heap.size) → w2.heap[w.heap.size]? = some (.deferred (some [])) → kn (w.heap.size :: ds) loc w2) ∧
    (∀ (T : Nat → Prop) (w2 : World), X none T w2 → ((∀ k, T k → w.heap.size ≤ k ∧ k < w2.heap.size) ∧ T w.heap.size) → w2.heap[w.heap.size]? = some (.deferred (some [])) → kr (w.heap.size :: ds) (evS loc base) w2) ∧
    allIds (exitsOf body) fun id => ∀ (T : Nat → Prop) (w2 : World), X (some id) T w2 → ((∀ k, T k → w.heap.size ≤ k ∧ k < w2.heap.size) ∧ T w.heap.size) → w2.heap[w.heap.size]? = some (.deferred (some [])) → kx id (w.heap.size :: ds) loc w2)

theorem Kp.putObj {S : Nat → Prop} {w w' : World} (h : Kp S w w') {l : Nat} {o o' : Obj} (hl : w'.heap[l]? = some o) (ho : o.isCells = false) (ho' : o'.isCells = false) (hS : l < w.heap.size → S l) : Kp S w (w'.putObj l o') := by
  refine ⟨h.os, h.tape, h.out, by have := h.size; simpa using this, fun a => ?_, fun k hk hn => ?_⟩
  · rw [← h.fz a]
    by_cases e : a.block = l
    · have hlt := heap_lt hl
      unfold World.frozen?
      rw [e, World.putObj_heap_same hlt, hl]
      cases o <;> cases o' <;> first | rfl | (simp [Obj.isCells] at ho ho')
    · exact World.frozen?_of_block (World.putObj_heap_other e)
  · rw [World.putObj_heap_other (fun e => hn (by subst e; exact hS hk))]
    exact h.keep k hk hn

theorem Kp.allocO {S : Nat → Prop} {w w' : World} (h : Kp S w w') {o : Obj} (ho : o.isCells = false) : Kp S w (w'.alloc o) :=
  ⟨h.os, h.tape, h.out, by have := h.size; simp; omega, fun a => by
      rw [← h.fz a]
      unfold World.frozen?
      by_cases e : a.block < w'.heap.size
      · rw [heap_alloc_old w' o e]
      · have h1 : w'.heap[a.block]? = none := Array.getElem?_eq_none (by omega)
        rw [h1]
        by_cases e2 : a.block = w'.heap.size
        · rw [e2, World.alloc_heap_new]
          cases o <;> first | rfl | (simp [Obj.isCells] at ho)
        · rw [Array.getElem?_eq_none (by simp; omega)], fun k hk hn => (heap_alloc_old w' _ (Nat.lt_of_lt_of_le hk h.size)).trans (h.keep k hk hn)⟩

section
variable {N : Nat} {base : Env}
theorem ps_slots : ∀ (ps : List Nat) (vs : List Value) (acc : Env) (tmps : Array Value), tmps.size = N → allLt N ps = true → (∀ s v, evS acc base s = some v → tmps[s]? = some v) →
    ((ps.zip vs).foldl (fun (t : Array Value) (x : Nat × Value) => t.setIfInBounds x.1 x.2) tmps).size = N ∧
    ∀ s v, evS (psE acc ps vs) base s = some v → ((ps.zip vs).foldl (fun (t : Array Value) (x : Nat × Value) => t.setIfInBounds x.1 x.2) tmps)[s]? = some v
  | [], vs, acc, tmps, hs, _, h => by cases vs <;> exact ⟨hs, h⟩
  | p :: ps, [], acc, tmps, hs, _, h => ⟨hs, h⟩
  | p :: ps, v :: vs, acc, tmps, hs, hl, h => by
    simp only [allLt, Bool.and_eq_true] at hl
    have hlt : p < N := Nat.le_of_ble_eq_true hl.1
    simp only [List.zip_cons_cons, List.foldl_cons, psE]
    refine ps_slots ps vs _ _ (by simpa using hs) hl.2 (fun s u hu => ?_)
    rw [evS_cons] at hu
    split at hu
    · rename_i e; subst e; simp only [Option.some.injEq] at hu; subst hu; simp [hs, hlt]
    · rename_i e; rw [Array.getElem?_setIfInBounds_ne (Ne.symm e)]; exact h s u hu
end

section
variable {n : Nat} {cx : Cx}

theorem rf_sound (hG : Enters cx.P cx.G) (hMx : cx.P.follows .mixedOrders = true) {g : Operand} {ps : Array Nat} {assign body : Code} {base : Env} {kn : Ct} {kx : Nat → Ct} {kr : List Nat → Sl → World → Prop} {ds : List Nat} {loc : Env} {w : World} {a : Act}
    {gf : Nat} {first cap : Array Value} (hg : a.eval g = .func (.func gf) first cap) (hgg : cx.G gf = true) (h : RfC cx gf first.toList cap.toList ps.toList assign body base kn kx kr ds loc w) (ha : Ag cx.N ds (evS loc base) a) :
    (Code.rangeFunc g ps assign body).wpIn (Wd none) n cx.P (QC cx.N [] base kn kx kr) a w := by
  obtain ⟨hck, h⟩ := ck.ex h
  simp only [Bool.and_eq_true] at hck
  obtain ⟨hps, hpl⟩ := hck
  have hpl := Nat.eq_of_beq_eq_true hpl
  obtain ⟨m, h⟩ := h
  obtain ⟨xs, hxl, Dt, J, X, hit, hDt, hJs, hXs, h0, hrd, hdone, hret, hex⟩ := exXs.ex h
  refine wpIn_rangeFunc ?_
  intro fn _
  show ∃ (l : Nat) (mk : List Deferred) (w₁ : World) (d : Deferred) (w₁' : World) (f : FuncId) (args : Array Value) (w₂ : World), (Instr.enterLoop fn a.tmps ps assign body none).run cx.P w = .ok (l, mk) w₁ ∧ _
  obtain ⟨rec, hrec⟩ : ∃ rec : LoopState → Option Code → Loop, rec = fun st pe => { state := st, pending := pe, fn, tmps := a.tmps, params := ps, assign, body, defers := w.heap.size } := ⟨_, rfl⟩
  obtain ⟨W1, hW1⟩ : ∃ W1, (w.alloc (.deferred (some []))).alloc (.loop (rec .ready none)) = W1 := ⟨_, rfl⟩
  have hL1 : W1.heap[w.heap.size + 1]? = some (.loop (rec .ready none)) := by
    rw [← hW1]; have := World.alloc_heap_new (w.alloc (.deferred (some []))) (.loop (rec .ready none)); rwa [World.size_alloc] at this
  have hK1 : W1.heap[w.heap.size]? = some (.deferred (some [])) := by
    rw [← hW1]; exact (Below.heap_alloc _ _ _ (by simp)).trans (World.alloc_heap_new w _)
  have hkp1 : Kp (fun _ => False) w W1 := by rw [← hW1]; exact ((Kp.refl _ _).allocO rfl).allocO rfl
  have hs1 : W1.heap.size = w.heap.size + 2 := by rw [← hW1]; simp
  let T0 : Nat → Prop := fun k => k = w.heap.size ∨ k = w.heap.size + 1
  refine ⟨w.heap.size + 1, [mark w.heap.size], W1, { target := .fn (.func gf) cap, args := first ++ #[.func (.yield (w.heap.size + 1)) #[] #[]] }, W1, gf,
    ⟨first.toList ++ (.func (.yield (w.heap.size + 1)) #[] #[] :: cap.toList)⟩, W1, ?_, ?_, fun _ _ => trivial, ?_, fun hd => by simp [Wd, Fence.wide] at hd, ?_⟩
  · rw [← hW1, hrec]; exact run_enterLoop_outer _ _ _ _ _
  · simp only [resolve, hg]
    simp [Deferred.ofValue, Act.eval]
  · have he : first ++ #[Value.func (.yield (w.heap.size + 1)) #[] #[]] ++ cap = ⟨first.toList ++ (.func (.yield (w.heap.size + 1)) #[] #[] :: cap.toList)⟩ := by apply Array.ext'; simp
    simp only [invoke, hG _ hgg, he]
  · refine callsIn_Wd ?_
    -- the rounds
    have hit' := hit (w.heap.size + 1)
      (fun j T W => J j (fun k => T k ∨ T0 k) W ∧ W.heap[w.heap.size + 1]? = some (.loop (rec .ready none)) ∧ W.heap[w.heap.size]? = some (.deferred (some [])) ∧ ∀ k, T k → ¬ T0 k)
      (fun T W => (∃ o c, X o (fun k => T k ∨ T0 k) W ∧ (match o with | none => c = Code.ret | some id => c = Code.exit id ∧ inL (exitsOf body) id = true) ∧ W.heap[w.heap.size + 1]? = some (.loop (rec .done (some c)))) ∧ W.heap[w.heap.size]? = some (.deferred (some [])) ∧ ∀ k, T k → ¬ T0 k)
      W1 hkp1 ?_ ?_ ?_ ?_
    · refine hit'.mono ?_
      rintro e W2 ⟨v, rfl, T, hT, h2⟩
      have fin : ∀ (st : LoopState) (jump : Option Code) (Y : (Nat → Prop) → World → Prop), Stab Y → st ≠ .busy → Y (fun k => T k ∨ T0 k) W2 → W2.heap[w.heap.size + 1]? = some (.loop (rec st jump)) → W2.heap[w.heap.size]? = some (.deferred (some [])) →
          ∃ W3, (Instr.endLoop (w.heap.size + 1)).run cx.P W2 = .ok jump W3 ∧ Y (fun k => T k ∨ T0 k) W3 ∧ W3.heap[w.heap.size]? = some (.deferred (some [])) ∧ (∀ k, (T k ∨ T0 k) → w.heap.size ≤ k ∧ k < W3.heap.size) := by
        intro st jump Y hY hst hy hl hd
        refine ⟨_, by have := run_endLoop (P := cx.P) hl (by rw [hrec]; simpa using hst); rw [hrec] at this; exact this, ?_, ?_, ?_⟩
        · exact hY _ _ _ _ hy ⟨(Kp.refl _ _).putObj hl rfl rfl (fun _ => .inr (.inr rfl)), fun _ h => h, fun _ h => .inl h⟩
        · exact (World.putObj_heap_other (by omega)).trans hd
        · have hz := heap_lt hl
          intro k hk
          have hks : w.heap.size ≤ k ∧ k < W2.heap.size := by
            rcases hk with hk | hk
            · have := hT k hk; omega
            · rcases hk with rfl | rfl <;> omega
          simpa using hks
      have hag : Ag cx.N (w.heap.size :: ds) (evS loc base) { a with defers := [mark w.heap.size] ++ a.defers } := ⟨ha.size, by simp [ha.defers], ha.slot⟩
      rcases h2 with ⟨hj, hl, hd, _⟩ | ⟨⟨o, c, hx, hc, hl⟩, hd, _⟩
      · obtain ⟨W3, hr3, hj3, hd3, hT2⟩ := fin .ready none (J m) (hJs m) (by simp) hj hl hd
        exact ⟨none, W3, hr3, _, loc, by simpa using hag, hdone _ _ hj3 ⟨hT2, .inr (.inl rfl)⟩ hd3⟩
      · obtain ⟨W3, hr3, hj3, hd3, hT2⟩ := fin .done (some c) (X o) (hXs o) (by simp) hx hl hd
        refine ⟨some c, W3, hr3, ?_⟩
        cases o with
        | none =>
          simp only at hc
          subst hc
          exact wpIn_ret ⟨_, _, hag, hret _ _ hj3 ⟨hT2, .inr (.inl rfl)⟩ hd3⟩
        | some id =>
          simp only at hc
          obtain ⟨rfl, hid⟩ := hc
          exact wpIn_exit ⟨_, loc, by simpa using hag, (hex.out id (inL_iff.1 hid)) _ _ hj3 ⟨hT2, .inr (.inl rfl)⟩ hd3⟩
    · rintro j T T' A B ⟨hj, hl, hd, hn⟩ hg'
      have n1 : ∀ k, T0 k → ¬ T k := fun k h1 h2 => hn k h2 h1
      refine ⟨hJs j _ _ _ _ hj ⟨hg'.kp.mono (fun _ _ h => .inl h), ?_, ?_⟩, (hg'.kp.keep _ (heap_lt hl) (n1 _ (.inr rfl))).trans hl, (hg'.kp.keep _ (heap_lt hd) (n1 _ (.inl rfl))).trans hd, fun k hk h0 => ?_⟩
      · rintro k (h1 | h1)
        · exact .inl (hg'.up k h1)
        · exact .inr h1
      · rintro k (h1 | h1)
        · rcases hg'.fr k h1 with h2 | h2
          · exact .inl (.inl h2)
          · exact .inr h2
        · exact .inl (.inr h1)
      · rcases hg'.fr k hk with h2 | h2
        · exact hn k h2 h0
        · have := heap_lt hl; rcases h0 with rfl | rfl <;> omega
    · rintro T T' A B ⟨⟨o, c, hj, hc, hl⟩, hd, hn⟩ hg'
      have n1 : ∀ k, T0 k → ¬ T k := fun k h1 h2 => hn k h2 h1
      refine ⟨⟨o, c, hXs o _ _ _ _ hj ⟨hg'.kp.mono (fun _ _ h => .inl h), ?_, ?_⟩, hc, (hg'.kp.keep _ (heap_lt hl) (n1 _ (.inr rfl))).trans hl⟩, (hg'.kp.keep _ (heap_lt hd) (n1 _ (.inl rfl))).trans hd, fun k hk h0 => ?_⟩
      · rintro k (h1 | h1)
        · exact .inl (hg'.up k h1)
        · exact .inr h1
      · rintro k (h1 | h1)
        · rcases hg'.fr k h1 with h2 | h2
          · exact .inl (.inl h2)
          · exact .inr h2
        · exact .inl (.inr h1)
      · rcases hg'.fr k hk with h2 | h2
        · exact hn k h2 h0
        · have := heap_lt hl; rcases h0 with rfl | rfl <;> omega
    · rintro j T W hjm ⟨hj, hl, hd, hn⟩ hT hTb
      have hlt := heap_lt hl
      have hy := run_yield (P := cx.P) (args := ⟨xs j⟩) hl (by rw [hrec]; simp only [List.size_toArray]; rw [hxl j, ← hpl]; simp)
      rw [hrec] at hy
      refine ⟨fn, _, assign, body, hy, ?_⟩
      have hb := hrd j _ W hjm hj (by
        rintro k (hk | hk)
        · have := hT k hk; omega
        · rcases hk with rfl | rfl <;> omega) (.inr (.inl rfl)) (.inr (.inr rfl)) (by
        rintro k (hk | hk)
        · exact hTb k hk
        · rcases hk with rfl | rfl
          · exact heap_lt hd
          · exact hlt)
      have hzip : (ps.zip (⟨xs j⟩ : Array Value)).foldl (fun (t : Array Value) (x : Nat × Value) => t.setIfInBounds x.1 x.2) a.tmps = (ps.toList.zip (xs j)).foldl (fun (t : Array Value) (x : Nat × Value) => t.setIfInBounds x.1 x.2) a.tmps := by
        rw [← Array.foldl_toList]
        simp
      obtain ⟨hz1, hz2⟩ := ps_slots (N := cx.N) (base := loc ++ base) ps.toList (xs j) [] a.tmps ha.size hps (fun s v hs => by
        rw [evS_assoc] at hs; exact ha.slot s v (by simpa using hs))
      have hag0 : Ag cx.N [] (evS (psE [] ps.toList (xs j)) (loc ++ base)) { tmps := (ps.zip (⟨xs j⟩ : Array Value)).foldl (fun (t : Array Value) (x : Nat × Value) => t.setIfInBounds x.1 x.2) a.tmps, defers := [] } :=
        ⟨by rw [hzip]; exact hz1, rfl, by rw [hzip]; exact hz2⟩
      refine roundIn_of_wpIn (F := Fence.wide) (n := 0) trivial (wpIn_mono (trC_sound (cx := cx) (n := 0) hG hMx (r := some (w.heap.size + 1)) assign [] (loc ++ base) _ _ _ [] _ W _ hb hag0) ?_)
      rintro e a1 Wa hq
      cases e with
      | normal =>
        obtain ⟨dl, l2, hag1, hk⟩ := hq
        obtain ⟨hn2, hk'⟩ := ck.ex hk
        clear hk
        obtain ⟨hkp, hk⟩ := hk'
        have hdl : dl = [] := by cases dl <;> simp_all [isNil]
        subst hdl
        have nS : ∀ k, T0 k → ¬ (¬ (T k ∨ T0 k) ∧ ¬ Dt k) := fun k h1 h2 => h2.1 (.inr h1)
        have hla := (hkp.keep _ hlt (nS _ (.inr rfl))).trans hl
        have hda := (hkp.keep _ (heap_lt hd) (nS _ (.inl rfl))).trans hd
        refine ⟨_, run_beginRound hla (by rw [hrec]), ?_⟩
        have hlb : (Wa.putObj (w.heap.size + 1) (.loop { rec .ready none with state := .busy })).heap[w.heap.size + 1]? = some (.loop { rec .ready none with state := .busy }) := World.putObj_heap_same (heap_lt hla)
        have hdb : (Wa.putObj (w.heap.size + 1) (.loop { rec .ready none with state := .busy })).heap[w.heap.size]? = some (.deferred (some [])) := (World.putObj_heap_other (by omega)).trans hda
        have hkb : Kp (fun k => k = w.heap.size + 1) Wa (Wa.putObj (w.heap.size + 1) (.loop { rec .ready none with state := .busy })) := (Kp.refl _ _).putObj hla rfl rfl (fun _ => rfl)
        have hbody := hk _ hkb
        generalize Wa.putObj (w.heap.size + 1) (.loop { rec .ready none with state := .busy }) = Wb at *
        refine wpIn_mono (trC_sound (cx := cx) (n := 0) hG hMx (r := some (w.heap.size + 1)) body [] (loc ++ base) _ _ _ [] _ Wb _ hbody hag1) ?_
        have fin : ∀ (jump : Option Code) (W3 : World), Kp (fun k => ¬ (T k ∨ T0 k) ∧ ¬ Dt k) Wb W3 →
            ∃ W4, (Instr.endRound (w.heap.size + 1) jump).run cx.P W3 = .ok (.bool jump.isNone) W4 ∧ W4.heap[w.heap.size + 1]? = some (.loop (rec (if jump.isNone then .ready else .done) jump)) ∧
              W4.heap[w.heap.size]? = some (.deferred (some [])) ∧ Kp (fun k => ¬ T k ∧ ¬ Dt k) W W4 ∧ Gr (fun k => T k ∨ T0 k) (fun k => T k ∨ T0 k) W3 W4 := by
          intro jump W3 hk3
          have hl3 := (hk3.keep _ (heap_lt hlb) (nS _ (.inr rfl))).trans hlb
          have hd3 := (hk3.keep _ (heap_lt hdb) (nS _ (.inl rfl))).trans hdb
          have hr := run_endRound (P := cx.P) jump hl3
          have hDl : ∀ k, T0 k → ¬ Dt k := fun k h1 h2 => by have := hDt k h2; rcases h1 with rfl | rfl <;> omega
          have hTl : ∀ k, T0 k → ¬ T k := fun k h1 h2 => hn k h2 h1
          refine ⟨_, hr, ?_, (World.putObj_heap_other (by omega)).trans hd3, ?_, ⟨(Kp.refl _ _).putObj hl3 rfl rfl (fun _ => .inr (.inr rfl)), fun _ h => h, fun _ h => .inl h⟩⟩
          · have := World.putObj_heap_same (w := W3) (o := .loop (rec (if jump.isNone then .ready else .done) jump)) (heap_lt hl3)
            rw [hrec] at this ⊢
            exact this
          · refine Kp.putObj ?_ hl3 rfl rfl (fun _ => ⟨hTl _ (.inr rfl), hDl _ (.inr rfl)⟩)
            have ha1 : Kp (fun k => ¬ T k ∧ ¬ Dt k) W Wa := hkp.mono (fun k _ h => ⟨fun q => h.1 (.inl q), h.2⟩)
            have ha2 : Kp (fun k => ¬ T k ∧ ¬ Dt k) W Wb := ha1.trans hkb (fun k _ h => by subst h; exact ⟨hTl _ (.inr rfl), hDl _ (.inr rfl)⟩)
            exact ha2.trans hk3 (fun k _ h => ⟨fun q => h.1 (.inl q), h.2⟩)
        rintro e2 a2 W3 hq2
        cases e2 with
        | normal =>
          obtain ⟨dl, l4, _, hk2⟩ := hq2
          obtain ⟨_, hk3, hj3⟩ := ck.ex hk2
          obtain ⟨W4, hr4, hl4, hd4, hkp4, hg4⟩ := fin none W3 hk3
          exact ⟨_, W4, hr4, _, rfl, hkp4, .inl ⟨rfl, hJs _ _ _ _ _ hj3 hg4, hl4, hd4, hn⟩⟩
        | exit id =>
          obtain ⟨dl, l4, _, hk2⟩ := hq2
          obtain ⟨hck2, hk3, hx3⟩ := ck.ex hk2
          simp only [Bool.and_eq_true] at hck2
          obtain ⟨W4, hr4, hl4, hd4, hkp4, hg4⟩ := fin (some (.exit id)) W3 hk3
          exact ⟨_, W4, hr4, _, rfl, hkp4, .inr ⟨rfl, ⟨some id, _, hXs _ _ _ _ _ hx3 hg4, ⟨rfl, hck2.2⟩, hl4⟩, hd4, hn⟩⟩
        | ret =>
          obtain ⟨dl, f, _, hk2⟩ := hq2
          obtain ⟨_, hk3, hx3⟩ := ck.ex hk2
          obtain ⟨W4, hr4, hl4, hd4, hkp4, hg4⟩ := fin (some .ret) W3 hk3
          exact ⟨_, W4, hr4, _, rfl, hkp4, .inr ⟨rfl, ⟨none, _, hXs _ _ _ _ _ hx3 hg4, rfl, hl4⟩, hd4, hn⟩⟩
        | goto t => exact hq2.elim
        | panic ch => exact hq2.elim
        | outgrown => exact hq2.elim
      | exit id => obtain ⟨_, _, _, hk⟩ := hq; exact hk.elim
      | ret => obtain ⟨_, _, _, hk⟩ := hq; exact hk.elim
      | goto t => exact hq.elim
      | panic ch => exact hq.elim
      | outgrown => exact hq.elim
    · refine ⟨hJs 0 _ _ _ _ h0 ⟨hkp1, fun _ h => h.elim, ?_⟩, hL1, hK1, fun _ h => h.elim⟩
      rintro k (h | h)
      · exact h.elim
      · rcases h with rfl | rfl
        · exact .inr (Nat.le_refl _)
        · exact .inr (Nat.le_succ _)
end
end Go.VC

namespace Go.VC
open Go Go.RowKit

def hasRf : Code → Bool
  | .seq a b | .cond _ a b => hasRf a || hasRf b
  | .block _ c | .loop c => hasRf c
  | .rangeFunc _ _ _ _ => true
  | _ => false

def trT (cx : Cx) : Code → Env → Ct → (Nat → Ct) → (List Nat → Sl → World → Prop) → Ct
  | .seq a b, base, kn, kx, kr, ds, loc, w => trT cx a base (fun ds loc w => trT cx b base kn kx kr ds loc w) kx kr ds loc w
  | .cond c a b, base, kn, kx, kr, ds, loc, w => wv (ev loc base c) fun v => wb v fun t => br t (trT cx a base kn kx kr ds loc w) (trT cx b base kn kx kr ds loc w)
  | .block id c, base, kn, kx, kr, ds, loc, w => trT cx c base kn (fun j ds loc w => match Nat.beq j id with
      | true => kn ds loc w
      | false => kx j ds loc w) kr ds loc w
  | .loop c, base, kn, kx, kr, ds, loc, w => match hasRf c with
    | false => trC cx (.loop c) [] base kn kx kr ds loc w
    | true => ∃ (I : List Nat → Cur (World → Prop) (cx.L ((firstR c).getD 0))) (μ : Cur (World → Nat) (cx.L ((firstR c).getD 0))),
        getK (cx.L ((firstR c).getD 0)) (evS loc base) (I ds) μ (fun I' _ => I' w) ∧
        ∀ d1 : List Nat, allK (cx.L ((firstR c).getD 0)) (I d1) μ fun ent I1 μ1 => ck (allIn (mods c) ent) (∀ w1, I1 w1 →
          trT cx c (kills (mods c) ++ (loc ++ base))
            (fun d2 l2 w2 => ck (allIn (mods c) l2) (getK (cx.L ((firstR c).getD 0)) (evS l2 (kills (mods c) ++ (loc ++ base))) (I d2) μ (fun I2 μ2 => I2 w2 ∧ μ2 w2 < μ1 w1)))
            (fun j d2 l2 w2 => kx j d2 (l2 ++ (kills (mods c) ++ loc)) w2) kr d1 ent w1)
  | .rangeFunc g ps assign body, base, kn, kx, kr, ds, loc, w => wv (ev loc base g) fun f => ∃ (gf : Nat) (first cap : Array Value), f = .func (.func gf) first cap ∧ cx.G gf = true ∧ RfC cx gf first.toList cap.toList ps.toList assign body base kn kx kr ds loc w
  | c, base, kn, kx, kr, ds, loc, w => trC cx c [] base kn kx kr ds loc w

section
variable {n : Nat}
theorem trT_sound {cx : Cx} (hG : Enters cx.P cx.G) (hMx : cx.P.follows .mixedOrders = true) (c : Code) : ∀ (base : Env) (kn : Ct) (kx : Nat → Ct) (kr : List Nat → Sl → World → Prop) (ds : List Nat) (loc : Env) (w : World) (a : Act),
    trT cx c base kn kx kr ds loc w → Ag cx.N ds (evS loc base) a → c.wpIn (Wd none) n cx.P (QC cx.N [] base kn kx kr) a w := by
  have leaf : ∀ (c : Code) (base : Env) (kn : Ct) (kx : Nat → Ct) (kr : List Nat → Sl → World → Prop) (ds : List Nat) (loc : Env) (w : World) (a : Act),
      trC cx c [] base kn kx kr ds loc w → Ag cx.N ds (evS loc base) a → c.wpIn (Wd none) n cx.P (QC cx.N [] base kn kx kr) a w :=
    fun c base kn kx kr ds loc w a h ha => trC_sound hG hMx c [] base kn kx kr ds loc w a h (by simpa using ha)
  induction c with
  | seq x y ihx ihy =>
    intro base kn kx kr ds loc w a h ha
    refine wpIn_seq (wpIn_mono (ihx base _ kx kr ds loc w a h ha) ?_)
    intro e a' w' hq
    cases e with
    | normal => obtain ⟨dl', loc', ha', hk⟩ := hq; exact ihy base kn kx kr dl' loc' w' a' hk (by simpa using ha')
    | exit j => exact hq
    | ret => exact hq
    | goto l => exact hq
    | panic c => exact hq
    | outgrown => exact hq
  | cond c x y ihx ihy =>
    intro base kn kx kr ds loc w a h ha
    obtain ⟨v, hv, h⟩ := wv.ex h
    obtain ⟨t, rfl, h⟩ := wb.ex h
    cases t with
    | true => exact wpIn_cond_true (ha.eval _ _ hv) (ihx base kn kx kr ds loc w a h ha)
    | false => exact wpIn_cond_false (ha.eval _ _ hv) (ihy base kn kx kr ds loc w a h ha)
  | block id c ih =>
    intro base kn kx kr ds loc w a h ha
    refine wpIn_block (wpIn_mono (ih base kn _ kr ds loc w a h ha) ?_)
    intro e a' w' hq
    cases e with
    | normal => exact hq
    | exit j =>
      obtain ⟨dl', loc', ha', hk⟩ := hq
      simp only [Exit.inBlock]
      cases hb : Nat.beq j id with
      | true =>
        rw [hb] at hk
        rw [if_pos (Nat.eq_of_beq_eq_true hb)]
        exact ⟨dl', loc', ha', hk⟩
      | false =>
        rw [hb] at hk
        rw [if_neg (fun e => by subst e; simp [Nat.beq_refl] at hb)]
        exact ⟨dl', loc', ha', hk⟩
    | ret => exact hq
    | goto l => exact hq
    | panic c => exact hq
    | outgrown => exact hq
  | loop c ih =>
    intro base kn kx kr ds loc w a h ha
    unfold trT at h
    split at h
    · exact leaf _ _ _ _ _ _ _ _ _ h ha
    obtain ⟨I, μ, h0, hall⟩ := h
    obtain ⟨e0, I0, μ0, hI0, he0, hq0, hm0⟩ := getK_out h0
    have hent0 := hq0 _ (hall ds)
    refine wpIn_loop (fun a w => ∃ (d1 : List Nat) (e : Env) (I1 : World → Prop) (μ1 : World → Nat), allIn (mods c) e = true ∧ (∀ w1, I1 w1 → trT cx c (kills (mods c) ++ (loc ++ base))
            (fun d2 l2 w2 => ck (allIn (mods c) l2) (getK (cx.L ((firstR c).getD 0)) (evS l2 (kills (mods c) ++ (loc ++ base))) (I d2) μ (fun I2 μ2 => I2 w2 ∧ μ2 w2 < μ1 w1)))
            (fun j d2 l2 w2 => kx j d2 (l2 ++ (kills (mods c) ++ loc)) w2) kr d1 e w1) ∧ I1 w ∧ Ag cx.N d1 (evS e (kills (mods c) ++ (loc ++ base))) a ∧ meas (cx.L ((firstR c).getD 0)) (fun s => a.tmps[s]?) μ = μ1)
      (fun a w => meas (cx.L ((firstR c).getD 0)) (fun s => a.tmps[s]?) μ w) ?_ ?_
    · obtain ⟨ha1, ha2⟩ := ck.ex hent0
      refine ⟨ds, e0, I0, μ0, ha1, ha2, hI0, ?_, hm0 _ ha.slot⟩
      exact Ag.enter (l := []) ha (.inr (by rw [evS_assoc]; rfl)) rfl he0
    · rintro a1 w1 ⟨d1, e, I1, μ1, hal, hbody, hI, hag, hme⟩
      refine wpIn_mono (ih _ _ _ kr d1 e w1 a1 (hbody w1 hI) hag) ?_
      intro ex a2 w2 hq
      cases ex with
      | normal =>
        obtain ⟨d2, l2, hag2, hk⟩ := hq
        obtain ⟨hck, hk'⟩ := ck.ex hk
        clear hk
        simp only [List.append_nil] at hag2
        obtain ⟨e2, I2, μ2, ⟨hI2, hlt⟩, he2, hq2, hm2⟩ := getK_out hk'
        obtain ⟨hb1, hb2⟩ := ck.ex (hq2 _ (hall d2))
        refine ⟨⟨d2, e2, I2, μ2, hb1, hb2, hI2, Ag.enter hag2 (.inl rfl) hck he2, hm2 _ hag2.slot⟩, ?_⟩
        rw [hm2 _ hag2.slot, hme]
        exact hlt
      | exit j =>
        obtain ⟨d2, l2, hag2, hk⟩ := hq
        refine ⟨_, _, ?_, hk⟩
        rw [← List.append_assoc (kills (mods c)) loc base, evS_assoc] at hag2
        exact hag2
      | ret => exact hq
      | goto l => exact hq.elim
      | panic c => exact hq.elim
      | outgrown => exact hq.elim
  | rangeFunc f ps x y ihx ihy =>
    intro base kn kx kr ds loc w a h ha
    obtain ⟨v, hv, h⟩ := wv.ex h
    obtain ⟨gf, first, cap, rfl, hgg, h⟩ := h
    exact rf_sound hG hMx (ha.eval _ _ hv) hgg h ha
  | skip => exact leaf _
  | region id ops draw => exact leaf _
  | exit id => exact leaf _
  | scope c ih => exact leaf _
  | label l => exact leaf _
  | goto l => exact leaf _
  | ret => exact leaf _
  | refuse y => exact leaf _
end

/-- The results, out of slots or cells. -/
def resW (P : Program) : List ResultVar → Sl → World → (List Value → Prop) → Prop
  | [], _, _, q => q []
  | .tmp t :: rs, f, w, q => wv (f t) fun v => resW P rs f w fun vs => q (v :: vs)
  | .cell a t :: rs, f, w, q => wv (f a) fun p => wp p fun p => wa p fun a => trLoad P t a w fun v _ => resW P rs f w fun vs => q (v :: vs)

def retW (P : Program) (rs : List ResultVar) (f : Sl) (w : World) (R : K) : Prop := resW P rs f w fun vs => match vs with
  | [v] => R v w
  | vs => R (.tuple ⟨vs⟩) w

/-- What a function that leaves with marks owes. -/
def retM (P : Program) (rs : List ResultVar) (R : K) (ds : List Nat) (f : Sl) (w : World) : Prop :=
  ds.Nodup ∧ (∀ D, D ∈ ds → w.heap[D]? = some (.deferred (some []))) ∧ ∀ w', Kp (fun k => k ∈ ds) w w' → retW P rs f w' R

def trFT (P : Program) (G : Nat → Bool) (L : Nat → List (Nat × Kd)) (fn : Func) (args : List Value) (w : World) (R : K) : Prop :=
  match fn.body with
  | some c => ck (Nat.ble args.length fn.ntmps) (trT ⟨P, G, fn.ntmps, L⟩ c [] (fun ds loc w => retM P fn.results.toList R ds (evS loc []) w) (fun _ _ _ _ => False)
      (fun ds f w => retM P fn.results.toList R ds f w) [] (entryL args 0) w)
  | none => False

theorem loadVar_same {P : Program} {t : TypeId} {a : Addr} {w : World} {k : K} (h : trLoad P t a w k) : ∃ v, (loadVar t a).run P w = .ok v w ∧ k v w := by
  unfold trLoad at h
  split at h
  · rename_i ha
    obtain ⟨vs, h⟩ := ExL.ex h
    obtain ⟨hs, h⟩ := ck.ex h
    obtain ⟨hc, h⟩ := ldC.out h
    refine ⟨_, ?_, h⟩
    have := loadCellsFrom_run (P := P) (w := w) a vs 0 #[] (fun j v hv => by simpa using hc j v hv)
    simp [loadVar, und_of_aggT ha, hasT_size hs, loadCells, this]
  · rename_i ha
    obtain ⟨hT, h⟩ := ck.ex h
    obtain ⟨v, hc, h⟩ := ExK.ex h
    refine ⟨v, ?_, h⟩
    have h1 := isAggT_run (w := w) hT
    rw [ha] at h1
    simp [loadVar, h1, hc]

theorem resW_run {P : Program} {w : World} {f : Sl} {tmps : Array Value} (hf : ∀ s v, f s = some v → tmps[s]? = some v) : ∀ {rs : List ResultVar} {q : List Value → Prop}, resW P rs f w q →
    ∃ vs, (rs.mapM fun | .tmp t => pure (tmps.getD t undef) | .cell a t => (do loadVar t (← asAddr (tmps.getD a undef)) : Sem Value) : Sem (List Value)).run P w = .ok vs w ∧ q vs
  | [], q, h => ⟨[], by simp, h⟩
  | .tmp t :: rs, q, h => by
    obtain ⟨v, hv, h⟩ := wv.ex h
    obtain ⟨vs, hr, hq⟩ := resW_run hf h
    have h3 : tmps.getD t undef = v := by simp [Array.getD_eq_getD_getElem?, hf _ _ hv]
    exact ⟨v :: vs, by simp only [List.mapM_cons, Sem.run_bind, Sem.run_pure, Result.andThen_ok, hr, h3], hq⟩
  | .cell a t :: rs, q, h => by
    obtain ⟨p, hv, h1⟩ := wv.ex h
    obtain ⟨p2, rfl, h2⟩ := wp.ex h1
    obtain ⟨ad, rfl, h4⟩ := wa.ex h2
    obtain ⟨v, hl, h5⟩ := loadVar_same h4
    obtain ⟨vs, hr, hq⟩ := resW_run hf h5
    have h3 : tmps.getD a undef = .pointer (some ad) := by simp [Array.getD_eq_getD_getElem?, hf _ _ hv]
    have h6 : (asAddr (.pointer (some ad))).run P w = .ok ad w := by simp [asAddr]
    exact ⟨v :: vs, by simp only [List.mapM_cons, Sem.run_bind, Sem.run_pure, Result.andThen_ok, hr, h3, h6, hl], hq⟩

theorem retW_run {P : Program} {w : World} {fn : Func} {f : Sl} {tmps : Array Value} {R : K} (hf : ∀ s v, f s = some v → tmps[s]? = some v) (h : retW P fn.results.toList f w R) :
    ∃ v, (results fn tmps).run P w = .ok v w ∧ R v w := by
  obtain ⟨vs, hr, hq⟩ := resW_run hf h
  refine ⟨if h : vs.length = 1 then vs[0] else .tuple ⟨vs⟩, ?_, ?_⟩
  · unfold results
    rw [Array.mapM_eq_mapM_toList]
    simp only [Sem.run_bind, Sem.run_map]
    exact congrArg (fun r : Result (List Value) => (r.andThen fun a w' => Result.ok a.toArray w').andThen fun a w' => Sem.run P (pure (if h : a.size = 1 then a[0] else Value.tuple a)) w') hr
  · match vs, hq with
    | [], hq => exact hq
    | [v], hq => exact hq
    | v :: u :: vs, hq => simpa using hq

theorem leaves_of_marks {P : Program} {n : Nat} {fn : Func} {f : Sl} {tmps : Array Value} {R : K} (hf : ∀ s v, f s = some v → tmps[s]? = some v) : ∀ (ds : List Nat) (w : World), retM P fn.results.toList R ds f w →
    LeavesInM Fence.wide n P fn tmps (Rv R) (ds.map mark) .returning w
  | [], w, ⟨_, _, h⟩ => by
    obtain ⟨v, hr, hR⟩ := retW_run hf (h w (Kp.refl _ _))
    exact ⟨v, hr, v, rfl, hR⟩
  | D :: ds, w, ⟨hn, hd, h⟩ => by
    refine ⟨by simp, .inl ⟨D, _, rfl, run_takeDeferred (hd D (by simp)), leaves_of_marks hf ds _ ⟨(List.nodup_cons.1 hn).2, fun E hE => ?_, fun w' hk => h w' ?_⟩⟩⟩
    · rw [World.putObj_heap_other (fun e => (List.nodup_cons.1 hn).1 (by subst e; exact hE))]
      exact hd E (List.mem_cons_of_mem _ hE)
    · have : Kp (fun k => k ∈ D :: ds) w (w.putObj D (.deferred none)) := (Kp.refl _ _).putObj (hd D (by simp)) rfl rfl (fun _ => by simp)
      exact this.trans hk (fun k _ hk => List.mem_cons_of_mem _ hk)

theorem calls_of_trT {P : Program} {G : Nat → Bool} {L : Nat → List (Nat × Kd)} {f : FuncId} {fn : Func} {args : List Value} {w : World} {R : K} (hf : P.funcs[f]? = some fn) (hG : Enters P G) (hM : P.follows .mixedOrders = true)
    (h : trFT P G L fn args w R) : Calls P f ⟨args⟩ w (Rv R) := by
  unfold trFT at h
  split at h
  · rename_i c hb
    obtain ⟨hle, h⟩ := ck.ex h
    have hle := Nat.le_of_ble_eq_true hle
    refine (callsIn_wide (n := 0)).1 (callsIn_of_wp_marks (F := Fence.wide) hf hb trivial ?_ rfl)
    refine wpIn_mono (Q := QC fn.ntmps [] [] (fun ds loc w => retM P fn.results.toList R ds (evS loc []) w) (fun _ _ _ _ => False) (fun ds f w => retM P fn.results.toList R ds f w))
      (trT_sound (cx := ⟨P, G, fn.ntmps, L⟩) hG hM c [] _ _ _ [] (entryL args 0) w _ h ⟨?_, rfl, ?_⟩) ?_
    · simp; omega
    · intro s v hs
      simp only [evS, ev, entryL_find, Nat.not_lt_zero, if_false, Nat.sub_zero, find] at hs
      have hs' : args[s]? = some v := by
        cases ha : args[s]? with
        | none => rw [ha] at hs; simp at hs
        | some u => rw [ha] at hs; simpa using hs
      have hlt : s < args.length := (List.getElem?_eq_some_iff.1 hs').1
      have := (List.getElem?_eq_some_iff.1 hs').2
      simp [Array.getElem?_append, hlt, this]
    · intro e a w' hq
      cases e with
      | normal =>
        obtain ⟨dl, loc, hag, hk⟩ := hq
        simp only [List.append_nil] at hag
        show LeavesInM Fence.wide 0 P fn a.tmps (Rv R) a.defers .returning w'
        rw [hag.defers]
        exact leaves_of_marks hag.slot dl w' hk
      | exit j => obtain ⟨_, _, _, hk⟩ := hq; exact hk.elim
      | ret =>
        obtain ⟨ds, fs, hag, hk⟩ := hq
        show LeavesInM Fence.wide 0 P fn a.tmps (Rv R) a.defers .returning w'
        rw [hag.defers]
        exact leaves_of_marks hag.slot ds w' hk
      | goto l => exact hq.elim
      | panic c => exact hq.elim
      | outgrown => exact hq.elim
  · exact h.elim

end Go.VC

namespace Go.VC
open Go

/-! ### wraps -/
theorem w64 {x : Int} (h : -9223372036854775808 ≤ x ∧ x ≤ 9223372036854775807) : IntKind.i64.wrap x = x := by
  simp only [IntKind.wrap, IntKind.bits, IntKind.signed]; simp; omega
theorem wu64 {x : Int} (h : 0 ≤ x ∧ x ≤ 18446744073709551615) : IntKind.u64.wrap x = x := by
  simp only [IntKind.wrap, IntKind.bits, IntKind.signed]; simp; omega
theorem wu64' (x : Int) : IntKind.u64.wrap x = x % 18446744073709551616 := by
  simp only [IntKind.wrap, IntKind.bits, IntKind.signed]; simp
theorem wu8' (x : Int) : IntKind.u8.wrap x = x % 256 := by
  simp only [IntKind.wrap, IntKind.bits, IntKind.signed]; simp
theorem wu8 {x : Int} (h : 0 ≤ x ∧ x ≤ 255) : IntKind.u8.wrap x = x := by rw [wu8']; omega
theorem w64' (x : Int) : IntKind.i64.wrap x = (x + 9223372036854775808) % 18446744073709551616 - 9223372036854775808 := by
  simp only [IntKind.wrap, IntKind.bits, IntKind.signed]; simp; omega

theorem bits_of (k : IntKind) (m : Nat) : (BitVec.ofInt k.bits (m : Int)).toNat = m % 2 ^ k.bits := by
  rw [BitVec.ofInt_natCast, BitVec.toNat_ofNat]

theorem and_u64 {m n : Nat} (hm : m < 18446744073709551616) (hn : n < 18446744073709551616) : bAnd .u64 (m : Int) (n : Int) = ((m &&& n : Nat) : Int) := by
  unfold bAnd
  rw [BitVec.toNat_and, bits_of, bits_of, wu64']
  simp only [IntKind.bits, Nat.reducePow, Nat.mod_eq_of_lt hm, Nat.mod_eq_of_lt hn]
  have : m &&& n ≤ m := Nat.and_le_left
  omega
theorem or_u64 {m n : Nat} (hm : m < 18446744073709551616) (hn : n < 18446744073709551616) : bOr .u64 (m : Int) (n : Int) = ((m ||| n : Nat) : Int) := by
  unfold bOr
  rw [BitVec.toNat_or, bits_of, bits_of, wu64']
  simp only [IntKind.bits, Nat.reducePow, Nat.mod_eq_of_lt hm, Nat.mod_eq_of_lt hn]
  have : m ||| n < 2 ^ 64 := Nat.or_lt_two_pow (by omega) (by omega)
  omega
theorem xor_u64 {m n : Nat} (hm : m < 18446744073709551616) (hn : n < 18446744073709551616) : bXor .u64 (m : Int) (n : Int) = ((m ^^^ n : Nat) : Int) := by
  unfold bXor
  rw [BitVec.toNat_xor, bits_of, bits_of, wu64']
  simp only [IntKind.bits, Nat.reducePow, Nat.mod_eq_of_lt hm, Nat.mod_eq_of_lt hn]
  have : m ^^^ n < 2 ^ 64 := Nat.xor_lt_two_pow (by omega) (by omega)
  omega
theorem and_i64 {m n : Nat} (hm : m < 9223372036854775808) (hn : n < 9223372036854775808) : bAnd .i64 (m : Int) (n : Int) = ((m &&& n : Nat) : Int) := by
  unfold bAnd
  rw [BitVec.toNat_and, bits_of, bits_of]
  simp only [IntKind.bits, Nat.reducePow, Nat.mod_eq_of_lt (show m < 18446744073709551616 by omega), Nat.mod_eq_of_lt (show n < 18446744073709551616 by omega)]
  have : m &&& n ≤ m := Nat.and_le_left
  exact w64 ⟨by omega, by omega⟩
theorem and_u8 {m n : Nat} (hm : m < 256) (hn : n < 256) : bAnd .u8 (m : Int) (n : Int) = ((m &&& n : Nat) : Int) := by
  unfold bAnd
  rw [BitVec.toNat_and, bits_of, bits_of, wu8']
  simp only [IntKind.bits, Nat.reducePow, Nat.mod_eq_of_lt hm, Nat.mod_eq_of_lt hn]
  have : m &&& n ≤ m := Nat.and_le_left
  omega
theorem or_u8 {m n : Nat} (hm : m < 256) (hn : n < 256) : bOr .u8 (m : Int) (n : Int) = ((m ||| n : Nat) : Int) := by
  unfold bOr
  rw [BitVec.toNat_or, bits_of, bits_of, wu8']
  simp only [IntKind.bits, Nat.reducePow, Nat.mod_eq_of_lt hm, Nat.mod_eq_of_lt hn]
  have : m ||| n < 2 ^ 8 := Nat.or_lt_two_pow (by omega) (by omega)
  omega

theorem shr_u64 {m : Nat} (hm : m < 18446744073709551616) (k : Nat) : shR .u64 (m : Int) (k : Int) = ((m >>> k : Nat) : Int) := by
  unfold shR
  simp only [Int.toNat_natCast, IntKind.bits]
  rw [Nat.shiftRight_eq_div_pow]
  by_cases hk : k ≤ 64
  · rw [Nat.min_eq_left hk, Int.fdiv_eq_ediv_of_nonneg _ (by exact Int.pow_nonneg (by omega))]
    push_cast; rfl
  · rw [Nat.min_eq_right (by omega), Int.fdiv_eq_ediv_of_nonneg _ (by exact Int.pow_nonneg (by omega)), show (2 : Int) ^ 64 = 18446744073709551616 from rfl]
    have h1 : m / 2 ^ k = 0 := Nat.div_eq_of_lt (Nat.lt_of_lt_of_le hm (by
      have : (2 : Nat) ^ 64 ≤ 2 ^ k := Nat.pow_le_pow_right (by omega) (by omega)
      omega))
    rw [h1]
    omega
theorem shl_u64 (m k : Nat) : shL .u64 (m : Int) (k : Int) = (((m <<< k) % 18446744073709551616 : Nat) : Int) := by
  unfold shL
  simp only [Int.toNat_natCast, IntKind.bits]
  rw [wu64', Nat.shiftLeft_eq]
  by_cases hk : k ≤ 64
  · rw [Nat.min_eq_left hk]
    rw [Int.natCast_emod, Int.natCast_mul, Int.natCast_pow]
    rfl
  · rw [Nat.min_eq_right (by omega)]
    have h2 : m * 2 ^ k % 18446744073709551616 = 0 := by
      obtain ⟨j, rfl⟩ : ∃ j, k = 64 + j := ⟨k - 64, by omega⟩
      rw [Nat.pow_add, show (2 : Nat) ^ 64 = 18446744073709551616 from rfl, ← Nat.mul_assoc, Nat.mul_comm m, Nat.mul_assoc]
      exact Nat.mul_mod_right _ _
    rw [h2]
    have h3 : (2 : Int) ^ 64 = 18446744073709551616 := rfl
    rw [h3]
    omega

/-! ### bits -/
/-- How many of the first numbers are as told. -/
def cnt (p : Nat → Bool) : Nat → Nat
  | 0 => 0
  | n + 1 => cnt p n + (if p n then 1 else 0)
/-- The number of these bits. -/
def ofB (p : Nat → Bool) : Nat → Nat
  | 0 => 0
  | n + 1 => ofB p n + (if p n then 2 ^ n else 0)

theorem cnt_le (p : Nat → Bool) (n : Nat) : cnt p n ≤ n := by
  induction n with
  | zero => simp [cnt]
  | succ n ih => simp only [cnt]; split <;> omega
theorem cnt_congr {p q : Nat → Bool} {n : Nat} (h : ∀ i, i < n → p i = q i) : cnt p n = cnt q n := by
  induction n with
  | zero => rfl
  | succ n ih => simp only [cnt, ih (fun i hi => h i (by omega)), h n (by omega)]
theorem cnt_add (p : Nat → Bool) (m n : Nat) : cnt p (m + n) = cnt p m + cnt (fun i => p (m + i)) n := by
  induction n with
  | zero => simp [cnt]
  | succ n ih => rw [← Nat.add_assoc]; simp only [cnt, ih]; omega
theorem cnt_mono (p : Nat → Bool) {m n : Nat} (h : m ≤ n) : cnt p m ≤ cnt p n := by
  obtain ⟨k, rfl⟩ : ∃ k, n = m + k := ⟨n - m, by omega⟩
  rw [cnt_add]; omega
theorem cnt_false (n : Nat) : cnt (fun _ => false) n = 0 := by
  induction n with
  | zero => rfl
  | succ n ih => simp [cnt, ih]

theorem ofB_lt (p : Nat → Bool) (n : Nat) : ofB p n < 2 ^ n := by
  induction n with
  | zero => simp [ofB]
  | succ n ih => simp only [ofB, Nat.pow_succ]; split <;> omega
theorem testBit_ofB (p : Nat → Bool) (n i : Nat) : (ofB p n).testBit i = (decide (i < n) && p i) := by
  induction n with
  | zero => simp [ofB]
  | succ n ih =>
    simp only [ofB]
    by_cases hp : p n = true
    · rw [if_pos hp, Nat.add_comm]
      have h1 := Nat.testBit_two_pow_mul_add 1 (ofB_lt p n) i
      rw [Nat.mul_one] at h1
      rw [h1]
      by_cases hi : i < n
      · rw [if_pos hi, ih]; simp [hi, show i < n + 1 by omega]
      · rw [if_neg hi]
        by_cases e : i = n
        · subst e; simp [hp]
        · have : ¬ i < n + 1 := by omega
          obtain ⟨j, hj⟩ : ∃ j, i - n = j + 1 := ⟨i - n - 1, by omega⟩
          simp [this, hj, Nat.testBit_succ]
    · rw [if_neg hp, Nat.add_zero, ih]
      by_cases e : i = n
      · subst e; simp [Bool.not_eq_true _ ▸ hp]
      · have : (decide (i < n + 1)) = decide (i < n) := by simp; omega
        rw [this]
theorem ofB_testBit (x n : Nat) : ofB x.testBit n = x % 2 ^ n := by
  apply Nat.eq_of_testBit_eq
  intro i
  rw [testBit_ofB, Nat.testBit_mod_two_pow]
theorem ofB_congr {p q : Nat → Bool} {n : Nat} (h : ∀ i, i < n → p i = q i) : ofB p n = ofB q n := by
  induction n with
  | zero => rfl
  | succ n ih => simp only [ofB, ih (fun i hi => h i (by omega)), h n (by omega)]

theorem tb_lt {x : Nat} (hx : x < 18446744073709551616) {i : Nat} (hi : 64 ≤ i) : x.testBit i = false :=
  Nat.testBit_lt_two_pow (Nat.lt_of_lt_of_le hx (by have : (2:Nat)^64 ≤ 2^i := Nat.pow_le_pow_right (by omega) hi; omega))

/-! ### the ones of a word -/
theorem bw {h m c M q : Nat} (hc : c < 2 ^ 8) (hm : m < 2 ^ (8 - h)) (hh : h ≤ 8) : ((2 ^ 8 * q + c) >>> h) &&& (2 ^ 8 * M + m) = 2 ^ 8 * ((q >>> h) &&& M) + ((c >>> h) &&& m) := by
  have hm8 : m < 2 ^ 8 := Nat.lt_of_lt_of_le hm (Nat.pow_le_pow_right (by omega) (by omega))
  have hlt : (c >>> h) &&& m < 2 ^ 8 := Nat.lt_of_le_of_lt Nat.and_le_right hm8
  apply Nat.eq_of_testBit_eq
  intro i
  rw [Nat.testBit_and, Nat.testBit_shiftRight, Nat.testBit_two_pow_mul_add _ hc, Nat.testBit_two_pow_mul_add _ hm8, Nat.testBit_two_pow_mul_add _ hlt]
  by_cases hi : i < 8
  · simp only [hi, if_true, Nat.testBit_and, Nat.testBit_shiftRight]
    by_cases h2 : h + i < 8
    · simp [h2]
    · have : m.testBit i = false := Nat.testBit_lt_two_pow (Nat.lt_of_lt_of_le hm (Nat.pow_le_pow_right (by omega) (by omega)))
      simp [this]
  · simp only [hi, if_false, Nat.testBit_and, Nat.testBit_shiftRight, show ¬ h + i < 8 by omega]
    rw [show h + i - 8 = h + (i - 8) by omega]

/-- A number by its bytes, the lowest first. -/
def val : List Nat → Nat
  | [] => 0
  | c :: cs => 2 ^ 8 * val cs + c

theorem val_and {h m : Nat} (hh : h ≤ 8) (hm : m < 2 ^ (8 - h)) : ∀ {cs : List Nat}, (∀ c ∈ cs, c < 2 ^ 8) → (val cs >>> h) &&& val (cs.map fun _ => m) = val (cs.map fun c => (c >>> h) &&& m)
  | [], _ => by simp [val]
  | c :: cs, hc => by
    simp only [List.map_cons, val]
    rw [bw (hc c List.mem_cons_self) hm hh, val_and hh hm (fun x hx => hc x (List.mem_cons_of_mem _ hx))]
theorem val_add (f g : Nat → Nat) : ∀ (cs : List Nat), val (cs.map f) + val (cs.map g) = val (cs.map fun c => f c + g c)
  | [] => rfl
  | c :: cs => by
    have := val_add f g cs
    simp only [List.map_cons, val, Nat.reducePow] at this ⊢
    omega

def s1 (c : Nat) : Nat := ((c >>> 1) &&& 85) + ((c >>> 0) &&& 85)
def s2 (c : Nat) : Nat := ((c >>> 2) &&& 51) + ((c >>> 0) &&& 51)
def s3 (d : Nat) : Nat := d / 16 + d % 16

theorem s12 : ∀ c : Fin 256, s1 c.val < 256 ∧ s2 (s1 c.val) / 16 ≤ 4 ∧ s2 (s1 c.val) % 16 ≤ 4 ∧ s2 (s1 c.val) < 256 ∧ s3 (s2 (s1 c.val)) = cnt c.val.testBit 8 := by decide +kernel

theorem val_s3 : ∀ {ds : List Nat}, (∀ d ∈ ds, d / 16 ≤ 4 ∧ d % 16 ≤ 4) → ((val ds / 16 + val ds) &&& val (ds.map fun _ => 15) = val (ds.map s3)) ∧ val ds % 16 ≤ 4
  | [], _ => by simp [val]
  | d :: ds, hd => by
    obtain ⟨ih, ih2⟩ := val_s3 (ds := ds) (fun x hx => hd x (List.mem_cons_of_mem _ hx))
    obtain ⟨h1, h2⟩ := hd d List.mem_cons_self
    simp only [List.map_cons, val, Nat.reducePow]
    refine ⟨?_, by omega⟩
    have e : (256 * val ds + d) / 16 + (256 * val ds + d) = 2 ^ 8 * (val ds / 16 + val ds) + (16 * (val ds % 16) + d + d / 16) := by simp only [Nat.reducePow]; omega
    rw [e]
    have hb := bw (h := 0) (m := 15) (c := 16 * (val ds % 16) + d + d / 16) (M := val (ds.map fun _ => 15)) (q := val ds / 16 + val ds) (by simp only [Nat.reducePow]; omega) (by decide) (by omega)
    simp only [Nat.shiftRight_zero, Nat.reducePow] at hb ⊢
    rw [hb, ih]
    have : (16 * (val ds % 16) + d + d / 16) &&& 15 = s3 d := by
      rw [show (15 : Nat) = 2 ^ 4 - 1 from rfl, Nat.and_two_pow_sub_one_eq_mod]
      unfold s3
      simp only [Nat.reducePow]
      omega
    rw [this]

theorem cnt_val : ∀ {cs : List Nat}, (∀ c ∈ cs, c < 2 ^ 8) → cnt (val cs).testBit (8 * cs.length) = (cs.map fun c => cnt c.testBit 8).sum
  | [], _ => rfl
  | c :: cs, hc => by
    have h0 := hc c List.mem_cons_self
    rw [List.length_cons, show 8 * (cs.length + 1) = 8 + 8 * cs.length by omega, cnt_add, List.map_cons, List.sum_cons, ← cnt_val (fun x hx => hc x (List.mem_cons_of_mem _ hx))]
    congr 1
    · exact cnt_congr fun i hi => by simp only [val]; rw [Nat.testBit_two_pow_mul_add _ h0, if_pos hi]
    · exact cnt_congr fun i _ => by simp only [val]; rw [Nat.testBit_two_pow_mul_add _ h0, if_neg (by omega)]; congr 1; omega

/-- The ones of a word. -/
def pc (x : Nat) : Nat := cnt x.testBit 64

def swar1 (x : Nat) : Nat := ((x >>> 1) &&& 6148914691236517205) + ((x >>> 0) &&& 6148914691236517205)
def swar2 (x : Nat) : Nat := ((x >>> 2) &&& 3689348814741910323) + ((x >>> 0) &&& 3689348814741910323)
def swar3 (x : Nat) : Nat := (x / 16 + x) &&& 1085102592571150095

theorem bytes8 (x : Nat) (hx : x < 18446744073709551616) : ∃ c0 c1 c2 c3 c4 c5 c6 c7, x = val [c0, c1, c2, c3, c4, c5, c6, c7] ∧ ∀ c ∈ [c0, c1, c2, c3, c4, c5, c6, c7], c < 2 ^ 8 := by
  refine ⟨x % 256, x / 256 % 256, x / 65536 % 256, x / 16777216 % 256, x / 4294967296 % 256, x / 1099511627776 % 256, x / 281474976710656 % 256, x / 72057594037927936 % 256, ?_, ?_⟩
  · simp only [val, Nat.reducePow]; omega
  · intro c hc
    simp only [List.mem_cons, List.not_mem_nil, or_false] at hc
    rcases hc with rfl | rfl | rfl | rfl | rfl | rfl | rfl | rfl <;> exact Nat.mod_lt _ (by omega)

theorem swar (x : Nat) (hx : x < 18446744073709551616) : ∃ c0 c1 c2 c3 c4 c5 c6 c7, swar3 (swar2 (swar1 x)) = val [c0, c1, c2, c3, c4, c5, c6, c7] ∧ (∀ c ∈ [c0, c1, c2, c3, c4, c5, c6, c7], c ≤ 8) ∧ pc x = c0 + c1 + c2 + c3 + c4 + c5 + c6 + c7 ∧
    swar1 x < 18446744073709551616 ∧ swar2 (swar1 x) < 4919131752989213765 := by
  obtain ⟨c0, c1, c2, c3, c4, c5, c6, c7, rfl, hc⟩ := bytes8 x hx
  have e1 : swar1 (val [c0, c1, c2, c3, c4, c5, c6, c7]) = val ([c0, c1, c2, c3, c4, c5, c6, c7].map s1) := by
    unfold swar1
    have a := val_and (h := 1) (m := 85) (by omega) (by decide) hc
    have b := val_and (h := 0) (m := 85) (by omega) (by decide) hc
    have m : val ([c0, c1, c2, c3, c4, c5, c6, c7].map fun _ => 85) = 6148914691236517205 := by simp [val]
    rw [m] at a b
    rw [a, b, val_add]
    rfl
  have h1 : ∀ c ∈ [c0, c1, c2, c3, c4, c5, c6, c7].map s1, c < 2 ^ 8 := by
    intro c hm
    obtain ⟨d, hd, rfl⟩ := List.mem_map.1 hm
    exact (s12 ⟨d, hc d hd⟩).1
  have e2 : swar2 (val ([c0, c1, c2, c3, c4, c5, c6, c7].map s1)) = val (([c0, c1, c2, c3, c4, c5, c6, c7].map s1).map s2) := by
    unfold swar2
    have a := val_and (h := 2) (m := 51) (by omega) (by decide) h1
    have b := val_and (h := 0) (m := 51) (by omega) (by decide) h1
    have m : val (([c0, c1, c2, c3, c4, c5, c6, c7].map s1).map fun _ => 51) = 3689348814741910323 := by simp [val]
    rw [m] at a b
    rw [a, b, val_add]
    rfl
  have h2 : ∀ c ∈ ([c0, c1, c2, c3, c4, c5, c6, c7].map s1).map s2, c / 16 ≤ 4 ∧ c % 16 ≤ 4 := by
    intro c hm
    obtain ⟨d, hd, rfl⟩ := List.mem_map.1 hm
    obtain ⟨f, hf, rfl⟩ := List.mem_map.1 hd
    have := s12 ⟨f, hc f hf⟩
    exact ⟨this.2.1, this.2.2.1⟩
  have e3 : swar3 (val (([c0, c1, c2, c3, c4, c5, c6, c7].map s1).map s2)) = val ((([c0, c1, c2, c3, c4, c5, c6, c7].map s1).map s2).map s3) := by
    unfold swar3
    have a := (val_s3 h2).1
    have m : val ((([c0, c1, c2, c3, c4, c5, c6, c7].map s1).map s2).map fun _ => 15) = 1085102592571150095 := by simp [val]
    rw [m] at a
    exact a
  have hb : ∀ c ∈ [c0, c1, c2, c3, c4, c5, c6, c7], s3 (s2 (s1 c)) = cnt c.testBit 8 ∧ s3 (s2 (s1 c)) ≤ 8 ∧ s1 c ≤ 255 ∧ s2 (s1 c) ≤ 68 := by
    intro c hm
    have := s12 ⟨c, hc c hm⟩
    refine ⟨this.2.2.2.2, by rw [this.2.2.2.2]; exact cnt_le _ _, by have := this.1; simp only at this; omega, by have h := this.2; simp only at h; omega⟩
  refine ⟨s3 (s2 (s1 c0)), s3 (s2 (s1 c1)), s3 (s2 (s1 c2)), s3 (s2 (s1 c3)), s3 (s2 (s1 c4)), s3 (s2 (s1 c5)), s3 (s2 (s1 c6)), s3 (s2 (s1 c7)), ?_, ?_, ?_, ?_, ?_⟩
  · rw [e1, e2, e3]; rfl
  · intro c hm
    simp only [List.mem_cons, List.not_mem_nil, or_false] at hm hb
    rcases hm with rfl | rfl | rfl | rfl | rfl | rfl | rfl | rfl <;> exact (hb _ (by simp)).2.1
  · have := cnt_val hc
    simp only [List.length_cons, List.length_nil, List.map_cons, List.map_nil, List.sum_cons, List.sum_nil] at this
    unfold pc
    rw [show (64 : Nat) = 8 * (0 + 1 + 1 + 1 + 1 + 1 + 1 + 1 + 1) from rfl, this]
    simp only [List.mem_cons, List.not_mem_nil, or_false, forall_eq_or_imp, forall_eq] at hb
    omega
  · rw [e1]
    simp only [List.mem_cons, List.not_mem_nil, or_false, forall_eq_or_imp, forall_eq] at hb
    simp only [List.map_cons, List.map_nil, val, Nat.reducePow]
    omega
  · rw [e1, e2]
    simp only [List.mem_cons, List.not_mem_nil, or_false, forall_eq_or_imp, forall_eq] at hb
    simp only [List.map_cons, List.map_nil, val, Nat.reducePow]
    omega


theorem swarA {c0 c1 c2 c3 c4 c5 c6 c7 a : Nat} (h0 : c0 ≤ 8)
    (ha : a = c0 + 256 * (c1 + 256 * (c2 + 256 * (c3 + 256 * (c4 + 256 * (c5 + 256 * (c6 + 256 * c7))))))) :
    a + a / 256 = (c0 + c1) + 256 * ((c1 + c2) + 256 * ((c2 + c3) + 256 * ((c3 + c4) + 256 * ((c4 + c5) + 256 * ((c5 + c6) + 256 * ((c6 + c7) + 256 * c7)))))) := by
  have : a / 256 = c1 + 256 * (c2 + 256 * (c3 + 256 * (c4 + 256 * (c5 + 256 * (c6 + 256 * c7))))) := by
    rw [ha]; clear ha
    generalize c1 + 256 * (c2 + 256 * (c3 + 256 * (c4 + 256 * (c5 + 256 * (c6 + 256 * c7))))) = r
    omega
  rw [this, ha]; clear this ha h0
  omega
theorem swarB {d0 d1 d2 d3 d4 d5 d6 d7 a : Nat} (h0 : d0 ≤ 16) (h1 : d1 ≤ 16)
    (ha : a = d0 + 256 * (d1 + 256 * (d2 + 256 * (d3 + 256 * (d4 + 256 * (d5 + 256 * (d6 + 256 * d7))))))) :
    a + a / 65536 = (d0 + d2) + 256 * ((d1 + d3) + 256 * ((d2 + d4) + 256 * ((d3 + d5) + 256 * ((d4 + d6) + 256 * ((d5 + d7) + 256 * (d6 + 256 * d7)))))) := by
  have : a / 65536 = d2 + 256 * (d3 + 256 * (d4 + 256 * (d5 + 256 * (d6 + 256 * d7)))) := by
    rw [ha]; clear ha
    generalize d2 + 256 * (d3 + 256 * (d4 + 256 * (d5 + 256 * (d6 + 256 * d7)))) = r
    omega
  rw [this, ha]; clear this ha h0 h1
  omega
theorem swarC {e0 e1 e2 e3 r a : Nat} (h0 : e0 ≤ 32) (h1 : e1 ≤ 32) (h2 : e2 ≤ 32) (h3 : e3 ≤ 32)
    (ha : a = e0 + 256 * (e1 + 256 * (e2 + 256 * (e3 + 256 * r)))) :
    a + a / 4294967296 = (e0 + r) + 256 * (e1 + 256 * (e2 + 256 * (e3 + 256 * r))) := by
  have : a / 4294967296 = r := by
    rw [ha]; clear ha
    omega
  rw [this, ha]; clear this ha h0 h1 h2 h3
  omega
theorem swarE {c0 c1 c2 c3 c4 c5 c6 c7 a : Nat} (h0 : c0 ≤ 8) (h1 : c1 ≤ 8) (h2 : c2 ≤ 8) (h3 : c3 ≤ 8) (h4 : c4 ≤ 8) (h5 : c5 ≤ 8) (h6 : c6 ≤ 8) (h7 : c7 ≤ 8)
    (ha : a = val [c0, c1, c2, c3, c4, c5, c6, c7]) :
    a < 1000000000000000000 ∧ a + a / 256 < 2000000000000000000 ∧ (a + a / 256) + (a + a / 256) / 65536 < 3000000000000000000 ∧
    ((a + a / 256) + (a + a / 256) / 65536) + ((a + a / 256) + (a + a / 256) / 65536) / 4294967296 < 4000000000000000000 ∧
    (((a + a / 256) + (a + a / 256) / 65536) + ((a + a / 256) + (a + a / 256) / 65536) / 4294967296) % 128 = c0 + c1 + c2 + c3 + c4 + c5 + c6 + c7 := by
  have ha' : a = c0 + 256 * (c1 + 256 * (c2 + 256 * (c3 + 256 * (c4 + 256 * (c5 + 256 * (c6 + 256 * c7)))))) := by
    rw [ha]; simp only [val, Nat.reducePow]; omega
  clear ha
  have hlt : a < 1000000000000000000 := by omega
  have eA := swarA h0 ha'
  generalize hb : a + a / 256 = b at *
  have hb' : b < 2000000000000000000 := by omega
  clear ha' hb
  have eB := swarB (d0 := c0 + c1) (d1 := c1 + c2) (by omega) (by omega) eA
  generalize hd : b + b / 65536 = d at *
  have hd' : d < 3000000000000000000 := by omega
  clear eA hd
  have eC := swarC (e0 := c0 + c1 + (c2 + c3)) (e1 := c1 + c2 + (c3 + c4)) (e2 := c2 + c3 + (c4 + c5)) (e3 := c3 + c4 + (c5 + c6)) (by omega) (by omega) (by omega) (by omega) eB
  generalize he : d + d / 4294967296 = f at *
  refine ⟨hlt, hb', hd', by omega, ?_⟩
  clear hd' eB he hlt hb'
  rw [eC]
  generalize c1 + c2 + (c3 + c4) + 256 * (c2 + c3 + (c4 + c5) + 256 * (c3 + c4 + (c5 + c6) + 256 * (c4 + c5 + (c6 + c7) + 256 * (c5 + c6 + c7 + 256 * (c6 + c7 + 256 * c7))))) = r
  omega

theorem addU {m n : Nat} (h : m + n < 18446744073709551616) : IntKind.u64.wrap ((m : Int) + (n : Int)) = ((m + n : Nat) : Int) := by
  rw [wu64 ⟨by omega, by omega⟩, Int.natCast_add]
theorem shrC {m k : Nat} (hm : m < 18446744073709551616) : shR .u64 (m : Int) (k : Int) = ((m / 2 ^ k : Nat) : Int) := by
  rw [shr_u64 hm, Nat.shiftRight_eq_div_pow]
/-- The ones of a word, as the machine's library counts them. -/
theorem swarI (x : Nat) (hx : x < 18446744073709551616) : ∃ a b d e : Nat,
    IntKind.u64.wrap (bAnd .u64 (shR .u64 (x : Int) 1) 6148914691236517205 + bAnd .u64 (x : Int) 6148914691236517205) = (swar1 x : Int) ∧
    IntKind.u64.wrap (bAnd .u64 (shR .u64 (swar1 x : Int) 2) 3689348814741910323 + bAnd .u64 (swar1 x : Int) 3689348814741910323) = (swar2 (swar1 x) : Int) ∧
    bAnd .u64 (IntKind.u64.wrap (shR .u64 (swar2 (swar1 x) : Int) 4 + (swar2 (swar1 x) : Int))) 1085102592571150095 = (a : Int) ∧
    IntKind.u64.wrap ((a : Int) + shR .u64 (a : Int) 8) = (b : Int) ∧
    IntKind.u64.wrap ((b : Int) + shR .u64 (b : Int) 16) = (d : Int) ∧
    IntKind.u64.wrap ((d : Int) + shR .u64 (d : Int) 32) = (e : Int) ∧
    bAnd .i64 (IntKind.i64.wrap (e : Int)) 127 = (pc x : Int) := by
  obtain ⟨c0, c1, c2, c3, c4, c5, c6, c7, hv, hc, hp, hb1, hb2⟩ := swar x hx
  have an : ∀ (m n : Nat), m < 18446744073709551616 → n < 18446744073709551616 → bAnd .u64 (m : Int) (n : Int) = ((m &&& n : Nat) : Int) := fun m n hm hn => and_u64 hm hn
  have lt : ∀ (m k : Nat), m < 18446744073709551616 → m >>> k < 18446744073709551616 := fun m k hm => Nat.lt_of_le_of_lt (by rw [Nat.shiftRight_eq_div_pow]; exact Nat.div_le_self _ _) hm
  obtain ⟨e1, e2, e3, e4, e5⟩ := swarE (hc c0 (by simp)) (hc c1 (by simp)) (hc c2 (by simp)) (hc c3 (by simp)) (hc c4 (by simp)) (hc c5 (by simp)) (hc c6 (by simp)) (hc c7 (by simp)) hv
  have A1 : IntKind.u64.wrap ((swar3 (swar2 (swar1 x)) : Int) + shR .u64 (swar3 (swar2 (swar1 x)) : Int) 8) = ((swar3 (swar2 (swar1 x)) + swar3 (swar2 (swar1 x)) / 256 : Nat) : Int) := by
    rw [show (8 : Int) = ((8 : Nat) : Int) from rfl, shrC (by omega)]
    exact addU (by simp only [Nat.reducePow]; omega)
  generalize hA : swar3 (swar2 (swar1 x)) = a at *
  have A2 : IntKind.u64.wrap (((a + a / 256 : Nat) : Int) + shR .u64 ((a + a / 256 : Nat) : Int) 16) = (((a + a / 256) + (a + a / 256) / 65536 : Nat) : Int) := by
    rw [show (16 : Int) = ((16 : Nat) : Int) from rfl, shrC (by omega)]
    exact addU (by simp only [Nat.reducePow]; omega)
  have A3 : IntKind.u64.wrap (((a + a / 256) + (a + a / 256) / 65536 : Nat) + shR .u64 ((a + a / 256) + (a + a / 256) / 65536 : Nat) 32) = ((((a + a / 256) + (a + a / 256) / 65536) + ((a + a / 256) + (a + a / 256) / 65536) / 4294967296 : Nat) : Int) := by
    rw [show (32 : Int) = ((32 : Nat) : Int) from rfl, shrC (by omega)]
    exact addU (by simp only [Nat.reducePow]; omega)
  refine ⟨a, _, _, _, ?_, ?_, ?_, A1, A2, A3, ?_⟩
  · rw [show (1 : Int) = ((1 : Nat) : Int) from rfl, shr_u64 hx, show (6148914691236517205 : Int) = ((6148914691236517205 : Nat) : Int) from rfl,
      an _ _ (lt x 1 hx) (by omega), an _ _ hx (by omega)]
    exact addU hb1
  · rw [show (2 : Int) = ((2 : Nat) : Int) from rfl, shr_u64 hb1, show (3689348814741910323 : Int) = ((3689348814741910323 : Nat) : Int) from rfl,
      an _ _ (lt _ 2 hb1) (by omega), an _ _ hb1 (by omega)]
    exact addU (show swar2 (swar1 x) < _ by omega)
  · rw [show (4 : Int) = ((4 : Nat) : Int) from rfl, shrC (by omega), addU (by simp only [Nat.reducePow]; omega), show (1085102592571150095 : Int) = ((1085102592571150095 : Nat) : Int) from rfl,
      an _ _ (by simp only [Nat.reducePow]; omega) (by omega), ← hA]
    rfl
  · rw [w64 ⟨by omega, by omega⟩, show (127 : Int) = ((127 : Nat) : Int) from rfl, and_i64 (by omega) (by omega), show (127 : Nat) = 2 ^ 7 - 1 from rfl, Nat.and_two_pow_sub_one_eq_mod]
    rw [show (2 : Nat) ^ 7 = 128 from rfl, e5, hp]

end Go.VC
