/- The directory that selects: made, asked. The directory that selects: asked. The laws of the chapter on directories that select (but the one that iterates). -/
import Derived.Test.YtomajpihimlcjaaDoorDa
import Derived.Test.YtomajpihimlcjaaDoorBS
namespace Go.VC
open Go
variable {S : Nat → Prop} {w w' : World} {l : Slc} {cs xs : List Value} {T e : TypeId} {s c : Nat}
/-- 'append' of one value to a slice that lies in a cell of an object. -/
theorem fapp {P : Program} {t ty : TypeId} {bytes : Nat} (he : El P t e 1 bytes) (hb : Blk w s cs T) (hc : c < cs.length) (hO : Ownd w l e 1 xs) (hn : ¬ On l s) (u : Value) (hu : u.oneCell' = true)
    (h63 : l.len + 1 ≤ maxLen) (hby : (l.len + 1) * bytes ≤ 140737488355328) :
    ∃ w2 o, (Builtin.append_ #[t, t] ty #[.slice l.a l.len l.cap, .slice (some ⟨w.heap.size, 0, none⟩) 1 1]).run P (w.alloc (.cells #[u] e)) = .ok (.slice o.a o.len o.cap) w2 ∧
      (∃ u, w2.cell? (Addr.add ⟨s, 0, none⟩ c) = some u) ∧ w2.frozen? (Addr.add ⟨s, 0, none⟩ c) = false ∧
      Blk (w2.setCell (Addr.add ⟨s, 0, none⟩ c) (.slice o.a o.len o.cap)) s (cs.set c (.slice o.a o.len o.cap)) T ∧
      Ownd (w2.setCell (Addr.add ⟨s, 0, none⟩ c) (.slice o.a o.len o.cap)) o e 1 (xs ++ [u]) ∧ ¬ On o s ∧ o.len = l.len + 1 ∧
      Kp (fun k => k = s ∨ On l k) w (w2.setCell (Addr.add ⟨s, 0, none⟩ c) (.slice o.a o.len o.cap)) ∧ (∀ k, On o k → On l k ∨ w.heap.size ≤ k) := by
  obtain ⟨w2, o2, hr2, ho2, hl2, hk2, hf2⟩ := append_one (ty := ty) he hO u hu h63 hby
  have hb2 := hb.kp hk2 hn
  have hs := hb.lt
  have hne : ¬ On o2 s := fun hk => by
    rcases hf2 s hk with g | g
    · exact hn g
    · omega
  refine ⟨w2, o2, hr2, ?_, hb2.frozen c, hb2.set c _, ho2.set_other _ _ (by rw [add_block]; exact hne), hne, hl2, ?_, hf2⟩
  · rw [hb2.cell]; exact ⟨cs[c], List.getElem?_eq_getElem hc⟩
  · exact (hk2.mono (fun _ _ h => .inr h)).set _ _ (fun _ => .inl (by rw [add_block]))
/-- The length of the slice in an object's cell. -/
def lenC (s c : Nat) (w : World) : Nat := match w.cell? (Addr.add ⟨s, 0, none⟩ c) with
  | some (.slice _ n _) => n
  | _ => 0
theorem lenC_of (h : w.cell? (Addr.add ⟨s, 0, none⟩ c) = some (.slice l.a l.len l.cap)) : lenC s c w = l.len := by unfold lenC; rw [h]
abbrev S32 (x : Nat) : Value := .int .i32 (x : Int)
/-- Samples that can be read. -/
structure RdS (w : World) (l : Slc) (xs : List Nat) : Prop where
  len : xs.length = l.len
  rd : Rd w l (xs.map S32)
theorem RdS.at {xs : List Nat} (h : RdS w l xs) {i : Int} (h0 : 0 ≤ i) (h1 : i < l.len) : ∃ a, l.a = some a ∧ w.cell? (Addr.add a (i.toNat * 1)) = some (S32 (wg xs i.toNat)) := by
  have hl := h.len
  obtain ⟨a, ha, hc⟩ := h.rd i.toNat (by rw [List.length_map]; omega)
  refine ⟨a, ha, ?_⟩
  rw [Nat.mul_one, hc]
  unfold wg
  rw [List.getElem?_map, List.getElem?_eq_getElem (by omega)]
  rfl
theorem RdS.kp {xs : List Nat} (h : RdS w l xs) (g : Kp S w w') (hn : ∀ k, On l k → ¬ S k) : RdS w' l xs := ⟨h.len, h.rd.kp g hn⟩
theorem Ownd.rdS {xs : List Nat} (h : Ownd w l e 1 (xs.map S32)) : RdS w l xs := ⟨by have := h.len; simpa using this, h.rd⟩
theorem wi32 {x : Int} (h : -2147483648 ≤ x ∧ x ≤ 2147483647) : IntKind.i32.wrap x = x := by
  simp only [IntKind.wrap, IntKind.bits, IntKind.signed]; simp; omega
/-- The samples of the first k words. -/
def SI (p : Nat → Bool) (k : Nat) (ss : List Nat) : Prop := SampOk p ss ∧ (∀ x ∈ ss, x < k) ∧ cnt p (64 * k) ≤ 64 * ss.length ∧ 64 * ss.length < cnt p (64 * k) + 64
/-- The samples while a word's are laid. -/
def SJ (p : Nat → Bool) (k : Nat) (ss : List Nat) : Prop := SampOk p ss ∧ (∀ x ∈ ss, x < k + 1) ∧ cnt p (64 * k) ≤ 64 * ss.length ∧ 64 * ss.length < cnt p (64 * (k + 1)) + 64
theorem SI.start {p : Nat → Bool} {k : Nat} {ss : List Nat} (h : SI p k ss) : SJ p k ss := by
  obtain ⟨h1, h2, h3, h4⟩ := h
  have := cnt_mono p (m := 64 * k) (n := 64 * (k + 1)) (by omega)
  exact ⟨h1, fun x hx => by have := h2 x hx; omega, h3, by omega⟩
theorem SJ.done {p : Nat → Bool} {k : Nat} {ss : List Nat} (h : SJ p k ss) (h5 : cnt p (64 * (k + 1)) ≤ 64 * ss.length) : SI p (k + 1) ss := ⟨h.1, h.2.1, h5, h.2.2.2⟩
theorem SJ.step {p : Nat → Bool} {k : Nat} {ss : List Nat} (h : SJ p k ss) (h5 : 64 * ss.length < cnt p (64 * (k + 1))) : SJ p k (ss ++ [k]) := by
  obtain ⟨h1, h2, h3, h4⟩ := h
  refine ⟨h1.snoc h3 h5, fun x hx => ?_, by rw [List.length_append]; omega, by rw [List.length_append, List.length_singleton]; omega⟩
  rcases List.mem_append.1 hx with g | g
  · exact h2 x g
  · have := List.mem_singleton.1 g; omega
theorem cnt_step (p : Nat → Bool) (k : Nat) : cnt p (64 * (k + 1)) ≤ cnt p (64 * k) + 64 ∧ cnt p (64 * k) ≤ cnt p (64 * (k + 1)) := by
  have h1 := cnt_add p (64 * k) 64
  have h2 := cnt_le (fun i => p (64 * k + i)) 64
  rw [show 64 * (k + 1) = 64 * k + 64 by omega]
  omega
theorem pc_word (bits : List Bool) (k : Nat) : cnt (bg bits) (64 * (k + 1)) = cnt (bg bits) (64 * k) + pc (wordOf bits k) := by
  rw [show 64 * (k + 1) = 64 * k + 64 by omega, cnt_add]
  have : pc (wordOf bits k) = cnt (fun i => bg bits (64 * k + i)) 64 := cnt_congr fun i hi => testBit_wordOf bits k i hi
  rw [this]
theorem nz_word {bits : List Bool} {k : Nat} (h : k < (bits.length + 63) / 64) : ((cnt (nz bits) (64 * (k + 1)) : Nat) : Int) = (cnt (nz bits) (64 * k) : Nat) + (min (64 : Int) ((bits.length : Int) - 64 * k) - (pc (wordOf bits k) : Nat)) := by
  have h1 := pc_word bits k
  have h2 := cnt_nz (bits := bits) (n := 64 * k) (by omega)
  by_cases g : 64 * (k + 1) ≤ bits.length
  · have h3 := cnt_nz g
    omega
  · have h3 := cnt_nz (bits := bits) (Nat.le_refl _)
    rw [cnt_stop (p := nz bits) (fun i hi => nz_out hi) (show bits.length ≤ 64 * (k + 1) by omega)]
    rw [cnt_stop (p := bg bits) (fun i hi => bg_out hi) (show bits.length ≤ 64 * (k + 1) by omega)] at h1
    omega
end Go.VC

namespace Go.Proofs.YtomajpihimlcjaaDoor.V
open Go Go.VC
variable {w w' w0 : World} {l lw lo lz : Slc} {bits : List Bool} {so sz ss : List Nat} {d r s B : Nat}
theorem elS : El Tryd.prog 106 21 1 4 := El.of (by kernel_rfl) (by kernel_rfl)

/-- A directory under way: its samples. -/
structure Sst (w0 : World) (s d : Nat) (lw lo lz : Slc) (n : Nat) (w : World) (so sz : List Nat) : Prop where
  blk : Blk w s [.slice lw.a lw.len lw.cap, .pointer (some ⟨d, 0, none⟩), .slice lo.a lo.len lo.cap, .slice lz.a lz.len lz.cap, .int .i64 (n : Int)] 108
  oo : Ownd w lo 21 1 (so.map S32)
  oz : Ownd w lz 21 1 (sz.map S32)
  no : ¬ On lo s
  nz : ¬ On lz s
  dj : ∀ k, On lo k → ¬ On lz k
  kp : Kp VC.no w0 w
  fs : w0.heap.size ≤ s
  fo : ∀ k, On lo k → w0.heap.size ≤ k
  fz : ∀ k, On lz k → w0.heap.size ≤ k
theorem Sst.kpo {n : Nat} (h : Sst w0 s d lw lo lz n w so sz) (g : Kp VC.no w w') : Sst w0 s d lw lo lz n w' so sz :=
  ⟨h.blk.kp g id, h.oo.kp g (fun _ _ f => f), h.oz.kp g (fun _ _ f => f), h.no, h.nz, h.dj, h.kp.t g, h.fs, h.fo, h.fz⟩

theorem Sst.addo {n : Nat} (h : Sst w0 s d lw lo lz n w so sz) (x : Nat) (hb : so.length ≤ 1000000000) :
    ∃ w2 o, (Builtin.append_ #[106, 106] 106 #[.slice lo.a lo.len lo.cap, .slice (some ⟨w.heap.size, 0, none⟩) 1 1]).run Tryd.prog (w.alloc (.cells #[S32 x] 21)) = .ok (.slice o.a o.len o.cap) w2 ∧
      (∃ u, w2.cell? (Addr.add ⟨s, 0, none⟩ 2) = some u) ∧ w2.frozen? (Addr.add ⟨s, 0, none⟩ 2) = false ∧
      Sst w0 s d lw o lz n (w2.setCell (Addr.add ⟨s, 0, none⟩ 2) (.slice o.a o.len o.cap)) (so ++ [x]) sz := by
  have hl := h.oo.rdS.len
  obtain ⟨w2, o, hr, hu, hf, hb2, ho2, hn2, hl2, hk2, hf2⟩ := fapp (c := 2) (ty := 106) elS h.blk (by simp) h.oo h.no (S32 x) rfl (by simp only [maxLen]; omega) (by omega)
  have hs := h.blk.lt
  have hks := h.kp.size
  refine ⟨w2, o, hr, hu, hf, hb2, by simpa using ho2, h.oz.kp hk2 (fun k h1 h2 => ?_), hn2, h.nz, fun k hk hk2 => ?_, h.kp.trans hk2 (fun k hk hk2 => ?_), h.fs, fun k hk => ?_, h.fz⟩
  · rcases h2 with rfl | h2
    · exact h.nz h1
    · exact h.dj k h2 h1
  · rcases hf2 k hk with g | g
    · exact h.dj k g hk2
    · have := h.oz.on hk2; omega
  · rcases hk2 with rfl | g
    · have := h.fs; omega
    · have := h.fo k g; omega
  · rcases hf2 k hk with g | g
    · exact h.fo k g
    · omega
theorem Sst.addz {n : Nat} (h : Sst w0 s d lw lo lz n w so sz) (x : Nat) (hb : sz.length ≤ 1000000000) :
    ∃ w2 o, (Builtin.append_ #[106, 106] 106 #[.slice lz.a lz.len lz.cap, .slice (some ⟨w.heap.size, 0, none⟩) 1 1]).run Tryd.prog (w.alloc (.cells #[S32 x] 21)) = .ok (.slice o.a o.len o.cap) w2 ∧
      (∃ u, w2.cell? (Addr.add ⟨s, 0, none⟩ 3) = some u) ∧ w2.frozen? (Addr.add ⟨s, 0, none⟩ 3) = false ∧
      Sst w0 s d lw lo o n (w2.setCell (Addr.add ⟨s, 0, none⟩ 3) (.slice o.a o.len o.cap)) so (sz ++ [x]) := by
  have hl := h.oz.rdS.len
  obtain ⟨w2, o, hr, hu, hf, hb2, ho2, hn2, hl2, hk2, hf2⟩ := fapp (c := 3) (ty := 106) elS h.blk (by simp) h.oz h.nz (S32 x) rfl (by simp only [maxLen]; omega) (by omega)
  have hs := h.blk.lt
  have hks := h.kp.size
  refine ⟨w2, o, hr, hu, hf, hb2, h.oo.kp hk2 (fun k h1 h2 => ?_), by simpa using ho2, h.no, hn2, fun k hk hk2 => ?_, h.kp.trans hk2 (fun k hk hk2 => ?_), h.fs, h.fo, fun k hk => ?_⟩
  · rcases h2 with rfl | h2
    · exact h.no h1
    · exact h.dj k h1 h2
  · rcases hf2 k hk2 with g | g
    · exact h.dj k hk g
    · have := h.oo.on hk; omega
  · rcases hk2 with rfl | g
    · have := h.fs; omega
    · have := h.fz k g; omega
  · rcases hf2 k hk with g | g
    · exact h.fz k g
    · omega

/-- A directory that selects, its blocks from B on. -/
structure SelAt (w : World) (s d : Nat) (lw lo lz : Slc) (bits : List Bool) (so sz : List Nat) (B : Nat) : Prop where
  blk : Blk w s [.slice lw.a lw.len lw.cap, .pointer (some ⟨d, 0, none⟩), .slice lo.a lo.len lo.cap, .slice lz.a lz.len lz.cap, .int .i64 (bits.length : Int)] 108
  words : RdW w lw (wordsOf bits)
  dir : DirB w d bits B
  ro : RdS w lo so
  rz : RdS w lz sz
  io : SI (bg bits) ((bits.length + 63) / 64) so
  iz : SI (nz bits) ((bits.length + 63) / 64) sz
  fr : B ≤ s ∧ (∀ k, On lw k → B ≤ k) ∧ (∀ k, On lo k → B ≤ k) ∧ (∀ k, On lz k → B ≤ k)
def SelB (w : World) (s : Nat) (bits : List Bool) (B : Nat) : Prop := ∃ d lw lo lz so sz, SelAt w s d lw lo lz bits so sz B
theorem SelAt.kp {S : Nat → Prop} (h : SelAt w s d lw lo lz bits so sz B) (g : Kp S w w') (hn : ∀ k, B ≤ k → ¬ S k) : SelAt w' s d lw lo lz bits so sz B :=
  ⟨h.blk.kp g (hn _ h.fr.1), h.words.kp g (fun k hk => hn k (h.fr.2.1 k hk)), h.dir.kp g hn, h.ro.kp g (fun k hk => hn k (h.fr.2.2.1 k hk)), h.rz.kp g (fun k hk => hn k (h.fr.2.2.2 k hk)), h.io, h.iz, h.fr⟩
theorem SelB.kp {S : Nat → Prop} (h : SelB w s bits B) (g : Kp S w w') (hn : ∀ k, B ≤ k → ¬ S k) : SelB w' s bits B := by
  obtain ⟨d, lw, lo, lz, so, sz, h⟩ := h
  exact ⟨d, lw, lo, lz, so, sz, h.kp g hn⟩
theorem SelB.kpo (h : SelB w s bits B) (g : Kp no w w') : SelB w' s bits B := h.kp g (fun _ _ f => f)

theorem sNew (h : RowB w r bits B) (hsz : bits.length ≤ 1000000000) : Calls Tryd.prog 19 #[.pointer (some ⟨r, 0, none⟩)] w (Rv fun v w' => ∃ s, v = .pointer (some ⟨s, 0, none⟩) ∧ SelB w' s bits w.heap.size ∧ Kp no w w') := by
  refine c19 _ _ _ ?_
  unfold B19
  have hwl := length_wordsOf bits
  obtain ⟨rl, hrow⟩ := h.row
  refine use (words1 hrow (by omega)) ?_
  rintro _ w1 ⟨lw, rfl, hO, k1, f1⟩
  have hlw : lw.len = (bits.length + 63) / 64 := by have := hO.len; simp at this; omega
  have hW1 := hO.rdW (fun _ hx => wordsOf_lt hx)
  refine ⟨lw, rfl, use (rNewB (h.kpo k1) hsz) ?_⟩
  rintro _ w2 ⟨d, rfl, hd, k2⟩
  have hs1 := k1.size
  have hs2 := k2.size
  refine ⟨_, rfl, usei (len1 (hrow.kp (k1.t k2) (fun _ _ f => f))) ⟨_, rfl, ?_⟩⟩
  have hW2 := hW1.kp k2 (fun _ _ f => f)
  have S0 : Sst w2 w2.heap.size d lw ⟨none, 0, 0⟩ ⟨none, 0, 0⟩ bits.length (w2.alloc (.cells #[.slice lw.a lw.len lw.cap, .pointer (some ⟨d, 0, none⟩), .slice none 0 0, .slice none 0 0, .int .i64 (bits.length : Int)] 108)) [] [] :=
    ⟨Blk.new _ _ _, Ownd.nil _ _ _, Ownd.nil _ _ _, On.nil, On.nil, fun k hk => absurd hk On.nil, (Kp.refl _ _).alloc _ _, Nat.le_refl _, fun k hk => absurd hk On.nil, fun k hk => absurd hk On.nil⟩
  generalize w2.alloc (.cells #[.slice lw.a lw.len lw.cap, .pointer (some ⟨d, 0, none⟩), .slice none 0 0, .slice none 0 0, .int .i64 (bits.length : Int)] 108) = w3 at *
  have hcb : ∀ i, cnt (bg bits) i ≤ bits.length := fun i => by
    by_cases g : i ≤ bits.length
    · have := cnt_le (bg bits) i; omega
    · rw [cnt_end (by omega)]; exact cnt_le _ _
  have hcz : ∀ i, cnt (nz bits) i ≤ bits.length := fun i => by
    by_cases g : i ≤ bits.length
    · have := cnt_le (nz bits) i; omega
    · rw [cnt_stop (p := nz bits) (fun i hi => nz_out hi) (show bits.length ≤ i by omega)]; exact cnt_le _ _
  refine ⟨lw, S0.blk.cell 0, fun on ze k w' => ∃ (m : Nat) (lo lz : Slc) (so sz : List Nat), k = m ∧ m ≤ (bits.length + 63) / 64 ∧ Sst w2 w2.heap.size d lw lo lz bits.length w' so sz ∧
      on = (cnt (bg bits) (64 * m) : Nat) ∧ ze = (cnt (nz bits) (64 * m) : Nat) ∧ SI (bg bits) m so ∧ SI (nz bits) m sz, fun _ _ k _ => (lw.len - k).toNat,
    ⟨0, _, _, [], [], rfl, by omega, S0, rfl, rfl, ⟨SampOk.nil _, by simp, by simp [cnt], by simp [cnt]⟩, ⟨SampOk.nil _, by simp, by simp [cnt], by simp [cnt]⟩⟩, ?_⟩
  rintro on ze k w4 ⟨m, lo, lz, so, sz, rfl, hm, hS, rfl, rfl, io, iz⟩
  refine br_dec (fun hlt => ?_) (fun hlt => ?_)
  · have hmw : m < (bits.length + 63) / 64 := by omega
    obtain ⟨a, ha, hc⟩ := (hW2.kp hS.kp (fun _ _ f => f)).at (i := (m : Int)) (by omega) hlt
    rw [Int.toNat_natCast, wg_wordsOf] at hc
    refine ⟨lw, hS.blk.cell 0, by omega, hlt, a, ha, _, by rw [Int.toNat_natCast]; exact hc, usei (ones _ _ (wordOf_lt bits m)) ⟨_, rfl, _, hS.blk.cell 4, ?_⟩⟩
    have hp := pc_word bits m
    have hz := nz_word hmw
    have b1 := hcb (64 * m)
    have b2 := hcb (64 * (m + 1))
    have b3 := hcz (64 * m)
    have b4 := hcz (64 * (m + 1))
    have hpc : pc (wordOf bits m) ≤ 64 := cnt_le _ _
    have eo : IntKind.i64.wrap (((cnt (bg bits) (64 * m) : Nat) : Int) + ((pc (wordOf bits m) : Nat) : Int)) = (cnt (bg bits) (64 * (m + 1)) : Nat) := by rw [w64 ⟨by omega, by omega⟩]; omega
    have ez : IntKind.i64.wrap (((cnt (nz bits) (64 * m) : Nat) : Int) + IntKind.i64.wrap (min (64 : Int) (IntKind.i64.wrap ((bits.length : Int) - IntKind.i64.wrap ((m : Int) * 64))) - ((pc (wordOf bits m) : Nat) : Int))) = (cnt (nz bits) (64 * (m + 1)) : Nat) := by
      rw [w64 (x := (m : Int) * 64) ⟨by omega, by omega⟩, w64 (x := (bits.length : Int) - (m : Int) * 64) ⟨by omega, by omega⟩, w64 (x := min (64 : Int) _ - _) ⟨by omega, by omega⟩, w64 ⟨by omega, by omega⟩, hz]; omega
    rw [eo, ez]
    have slen : ∀ {p : Nat → Bool} {ss : List Nat}, SJ p m ss → cnt p (64 * (m + 1)) ≤ bits.length → ss.length ≤ 1000000000 := fun h1 h2 => by have := h1.2.2.2; omega
    refine ⟨fun w' => ∃ (lo : Slc) (so : List Nat), Sst w2 w2.heap.size d lw lo lz bits.length w' so sz ∧ SJ (bg bits) m so, fun w' => 2000000000 - lenC w2.heap.size 2 w', ⟨lo, so, hS, io.start⟩, ?_⟩
    rintro w5 ⟨lo, so, hS, jo⟩
    have hol := hS.oo.rdS.len
    have hs1 := slen jo b2
    have el : IntKind.i64.wrap ((lo.len : Int) * 64) = ((64 * so.length : Nat) : Int) := by rw [w64 ⟨by omega, by omega⟩]; omega
    refine ⟨lo, hS.blk.cell 2, ?_⟩
    rw [el]
    refine br_dec (fun h5 => ⟨lo, hS.blk.cell 2, ?_⟩) (fun h5 => ?_)
    · obtain ⟨w6, o, hr, hu, hf, hS6⟩ := hS.addo m hs1
      rw [wi32 (x := (m : Int)) ⟨by omega, by omega⟩]
      refine ⟨w6, o, hr, hu, hf, ⟨o, _, hS6, jo.step (by omega)⟩, ?_⟩
      dsimp only
      have e1 := hS6.oo.rdS.len
      rw [List.length_append, List.length_singleton] at e1
      rw [lenC_of (hS.blk.cell 2), lenC_of (hS6.blk.cell 2)]
      omega
    · refine ⟨fun w' => ∃ (lz : Slc) (sz : List Nat), Sst w2 w2.heap.size d lw lo lz bits.length w' so sz ∧ SJ (nz bits) m sz, fun w' => 2000000000 - lenC w2.heap.size 3 w', ⟨lz, sz, hS, iz.start⟩, ?_⟩
      rintro w7 ⟨lz, sz, hS, jz⟩
      have hzl := hS.oz.rdS.len
      have hs2 := slen jz b4
      have ell : IntKind.i64.wrap ((lz.len : Int) * 64) = ((64 * sz.length : Nat) : Int) := by rw [w64 ⟨by omega, by omega⟩]; omega
      refine ⟨lz, hS.blk.cell 3, ?_⟩
      rw [ell]
      refine br_dec (fun h6 => ⟨lz, hS.blk.cell 3, ?_⟩) (fun h6 => ?_)
      · obtain ⟨w8, o, hr, hu, hf, hS8⟩ := hS.addz m hs2
        rw [wi32 (x := (m : Int)) ⟨by omega, by omega⟩]
        refine ⟨w8, o, hr, hu, hf, ⟨o, _, hS8, jz.step (by omega)⟩, ?_⟩
        dsimp only
        have e1 := hS8.oz.rdS.len
        rw [List.length_append, List.length_singleton] at e1
        rw [lenC_of (hS.blk.cell 3), lenC_of (hS8.blk.cell 3)]
        omega
      · rw [w64 (x := (m : Int) + 1) ⟨by omega, by omega⟩]
        exact ⟨⟨m + 1, lo, lz, so, sz, by omega, by omega, hS, rfl, rfl, jo.done (by omega), jz.done (by omega)⟩, by dsimp only; omega⟩
  · have hme : m = (bits.length + 63) / 64 := by omega
    subst hme
    refine ⟨_, rfl, ⟨d, lw, lo, lz, so, sz, hS.blk, hW2.kp hS.kp (fun _ _ f => f), ?_, hS.oo.rdS, hS.oz.rdS, io, iz, ⟨?_, fun k hk => ?_, fun k hk => ?_, fun k hk => ?_⟩⟩, (k1.t k2).t hS.kp⟩
    · obtain ⟨x1, x2, x3, hd1, hd2⟩ := hd.kpo hS.kp
      exact ⟨x1, x2, x3, hd1, fun k hk => by have := hd2 k hk; omega⟩
    · omega
    · have := f1 k hk; omega
    · have := hS.fo k hk; omega
    · have := hS.fz k hk; omega
end Go.Proofs.YtomajpihimlcjaaDoor.V

namespace Go.VC
open Go
theorem comp_u64 {x : Nat} (hx : x < 18446744073709551616) : bXor .u64 (if IntKind.u64.signed then -1 else IntKind.u64.max) (x : Int) = ((18446744073709551615 ^^^ x : Nat) : Int) := by
  rw [show (if IntKind.u64.signed then (-1 : Int) else IntKind.u64.max) = ((18446744073709551615 : Nat) : Int) by decide]
  exact xor_u64 (by omega) hx
theorem comp_lt {x : Nat} (hx : x < 18446744073709551616) : 18446744073709551615 ^^^ x < 18446744073709551616 := Nat.xor_lt_two_pow (n := 64) (by omega) hx
theorem comp_bit {x i : Nat} (hi : i < 64) : (18446744073709551615 ^^^ x).testBit i = !x.testBit i := by
  have : (18446744073709551615 : Nat).testBit i = true := by
    rw [show (18446744073709551615 : Nat) = 2 ^ 64 - 1 by decide, Nat.testBit_two_pow_sub_one]; simp [hi]
  rw [Nat.testBit_xor, this]; simp
theorem cnt_comp {x n : Nat} (hn : n ≤ 64) : cnt (18446744073709551615 ^^^ x).testBit n + cnt x.testBit n = n := by
  rw [cnt_congr (q := fun i => !x.testBit i) (fun i hi => comp_bit (by omega)), cnt_not]
theorem cnt_word (bits : List Bool) (k a : Nat) (ha : a ≤ 64) : cnt (bg bits) (64 * k + a) = cnt (bg bits) (64 * k) + cnt (wordOf bits k).testBit a := by
  rw [cnt_add, cnt_congr (p := (wordOf bits k).testBit) (fun i hi => testBit_wordOf bits k i (by omega))]
end Go.VC
namespace Go.Proofs.YtomajpihimlcjaaDoor.V
open Go Go.VC
variable {w w' w0 : World} {l lw lo lz lS : Slc} {bits : List Bool} {so sz ss : List Nat} {d r s B k : Nat}

theorem sspan (hb : ∃ cs, Blk w s (.slice lw.a lw.len lw.cap :: cs) 108) (h : RdS w lS ss) (hx : ∀ x ∈ ss, x < 100000000) (hk : k / 64 < ss.length) (h64 : k ≤ 1000000000) :
    IsK 90 #[.pointer (some ⟨s, 0, none⟩), .slice lS.a lS.len lS.cap, .int .i64 k] w
      (.tuple #[.int .i64 (wg ss (k / 64) : Nat), .int .i64 ((if k / 64 + 1 < ss.length then wg ss (k / 64 + 1) + 1 else lw.len : Nat) : Int)]) := by
  refine c90 _ _ _ _ _ ?_
  unfold B90
  obtain ⟨cs, hb⟩ := hb
  have hl := h.len
  have kd : Kp no w w.drew := (Kp.refl _ _).drew
  have hd := h.kp kd (fun _ _ f => f)
  have e1 : IntKind.i64.wrap (Int.tdiv (k : Int) 64) = ((k / 64 : Nat) : Int) := by rw [Int.tdiv_eq_ediv_of_nonneg (by omega), w64 ⟨by omega, by omega⟩]; omega
  have e2 : IntKind.i64.wrap (((k / 64 : Nat) : Int) + 1) = ((k / 64 + 1 : Nat) : Int) := by rw [w64 ⟨by omega, by omega⟩]; omega
  have hw : ∀ j, j < ss.length → wg ss j < 100000000 := fun j hj => by
    unfold wg; rw [List.getElem?_eq_getElem hj]; exact hx _ (List.getElem_mem _)
  rw [e1]
  obtain ⟨a, ha, hc⟩ := hd.at (i := ((k / 64 : Nat) : Int)) (by omega) (by omega)
  rw [Int.toNat_natCast] at hc
  have h1 := hw _ hk
  refine ⟨by omega, by omega, by omega, a, ha, _, by rw [Int.toNat_natCast]; exact hc, lw, (hb.kp kd id).cell 0, by omega, ?_⟩
  rw [e2, w64 (x := ((wg ss (k / 64) : Nat) : Int)) ⟨by omega, by omega⟩]
  refine br_dec (fun h5 => ?_) (fun h5 => ⟨?_, kd⟩)
  · obtain ⟨b, hb2, hc2⟩ := hd.at (i := ((k / 64 + 1 : Nat) : Int)) (by omega) h5
    rw [Int.toNat_natCast] at hc2
    have h2 := hw (k / 64 + 1) (by omega)
    refine ⟨by omega, by omega, h5, b, hb2, _, by rw [Int.toNat_natCast]; exact hc2, ?_, kd⟩
    rw [if_pos (by omega), w64 (x := ((wg ss (k / 64 + 1) : Nat) : Int)) ⟨by omega, by omega⟩, w64 ⟨by omega, by omega⟩]
    rfl
  · rw [if_neg (by omega)]

theorem srch {g : Nat} (hg : G g = true) {a : Addr} (F : Nat → Nat) {lo hi : Nat} {kk : Int} (hlt : lo < hi) (hhi : hi ≤ 100000000) (h1 : (F (64 * lo) : Int) ≤ kk) (h2 : kk < (F (64 * hi) : Int))
    (H : ∀ w' j, Kp no w w' → j < hi → Calls Tryd.prog g #[.int .i64 ((64 * j : Nat) : Int), .pointer (some a)] w' (Rv fun v u => v = .int .i64 (F (64 * j) : Nat) ∧ Kp no w' u)) :
    Calls Tryd.prog 91 #[.int .i64 lo, .int .i64 hi, .int .i64 kk, .func (.func g) #[] #[.pointer (some a)]] w (Rv fun v w' => Kp no w w' ∧ ∃ j : Nat, v = .int .i64 j ∧ lo ≤ j ∧ j < hi ∧ (F (64 * j) : Int) ≤ kk ∧ kk < (F (64 * (j + 1)) : Int)) := by
  refine c91 _ _ _ _ _ _ ?_
  unfold B91
  refine ⟨fun x y w' => Kp no w w' ∧ ∃ a b : Nat, x = a ∧ y = b ∧ lo ≤ a ∧ a < b ∧ b ≤ hi ∧ (F (64 * a) : Int) ≤ kk ∧ kk < (F (64 * b) : Int), fun x y _ => (y - x).toNat, ⟨Kp.refl _ _, lo, hi, rfl, rfl, Nat.le_refl _, hlt, Nat.le_refl _, h1, h2⟩, ?_⟩
  rintro x y w1 ⟨k1, p, q, rfl, rfl, hp, hpq, hq, f1, f2⟩
  rw [w64 (x := (q : Int) - (p : Int)) ⟨by omega, by omega⟩]
  refine br_dec (fun h5 => ⟨by omega, ?_⟩) (fun h5 => ?_)
  · have e1 : IntKind.i64.wrap ((p : Int) + IntKind.i64.wrap (Int.tdiv ((q : Int) - (p : Int)) 2)) = ((p + (q - p) / 2 : Nat) : Int) := by
      rw [Int.tdiv_eq_ediv_of_nonneg (by omega), w64 (x := ((q : Int) - (p : Int)) / 2) ⟨by omega, by omega⟩, w64 ⟨by omega, by omega⟩]; omega
    rw [e1]
    have e2 : IntKind.i64.wrap (((p + (q - p) / 2 : Nat) : Int) * 64) = ((64 * (p + (q - p) / 2) : Nat) : Int) := by rw [w64 ⟨by omega, by omega⟩]; omega
    rw [e2]
    unfold CallFV
    simp only [hg]
    refine use (H w1 (p + (q - p) / 2) k1 (by omega)) ?_
    rintro _ w2 ⟨rfl, k2⟩
    refine ⟨_, rfl, br_dec (fun h6 => ⟨⟨k1.t k2, _, _, rfl, rfl, by omega, by omega, hq, h6, f2⟩, by omega⟩) (fun h6 => ⟨⟨k1.t k2, _, _, rfl, rfl, hp, by omega, by omega, f1, by omega⟩, by omega⟩)⟩
  · obtain rfl : q = p + 1 := by omega
    exact ⟨k1, p, rfl, hp, by omega, f1, f2⟩

/-- What the samples say of the words that are searched. -/
theorem SI_span {p : Nat → Bool} {K k : Nat} {ss : List Nat} (h : SI p K ss) (hk : k < cnt p (64 * K)) :
    k / 64 < ss.length ∧ wg ss (k / 64) < K ∧ cnt p (64 * wg ss (k / 64)) ≤ k ∧ wg ss (k / 64) < (if k / 64 + 1 < ss.length then wg ss (k / 64 + 1) + 1 else K) ∧ (if k / 64 + 1 < ss.length then wg ss (k / 64 + 1) + 1 else K) ≤ K ∧ k < cnt p (64 * (if k / 64 + 1 < ss.length then wg ss (k / 64 + 1) + 1 else K)) := by
  obtain ⟨h1, h2, h3, h4⟩ := h
  have hl : k / 64 < ss.length := by omega
  have hw : ∀ j, j < ss.length → wg ss j < K := fun j hj => by
    unfold wg; rw [List.getElem?_eq_getElem hj]; exact h2 _ (List.getElem_mem _)
  have s1 := h1 (k / 64) hl
  have c1 := hw _ hl
  refine ⟨hl, c1, by omega, ?_⟩
  split
  · rename_i g
    have s2 := h1 _ g
    have c2 := hw _ g
    refine ⟨?_, by omega, by omega⟩
    by_cases e : wg ss (k / 64) < wg ss (k / 64 + 1) + 1
    · exact e
    · have := cnt_mono p (m := 64 * (wg ss (k / 64 + 1) + 1)) (n := 64 * wg ss (k / 64)) (by omega)
      omega
  · exact ⟨c1, Nat.le_refl _, hk⟩

theorem SelB.len (h : SelB w s bits B) : Is 24 #[.pointer none] w (.int .i64 0) := by
  refine c24n _ _ ?_
  unfold B24n
  exact ⟨rfl, rfl⟩
theorem clampL_all (bits : List Bool) : clampL bits (bits.length : Int) = bits.length := by unfold clampL; omega

theorem sOnes (h : SelB w s bits B) (hsz : bits.length ≤ 1000000000) : IsK 24 #[.pointer (some ⟨s, 0, none⟩)] w (.int .i64 (cnt (bg bits) bits.length)) := by
  refine c24 _ _ _ ?_
  unfold B24
  obtain ⟨d, lw, lo, lz, so, sz, h⟩ := h
  have kd : Kp no w w.drew := (Kp.refl _ _).drew
  have hd := h.kp kd (fun _ _ f => f)
  refine ⟨_, hd.blk.cell 1, _, hd.blk.cell 4, usek (rankB hd.dir (by omega) _) fun w1 k1 => ⟨_, rfl, ?_, kd.t k1⟩⟩
  rw [clampL_all]

theorem sOne (h : SelB w s bits B) (hsz : bits.length ≤ 1000000000) (k : Int) : IsK 25 #[.pointer (some ⟨s, 0, none⟩), .int .i64 k] w (.int .i64 (atL (plc (bg bits) bits.length) k)) := by
  refine c25 _ _ _ _ ?_
  unfold B25
  have hb0 := Blk.new w [.pointer (some ⟨s, 0, none⟩)] 35
  have kA : Kp no w (w.alloc (.cells #[.pointer (some ⟨s, 0, none⟩)] 35)) := (Kp.refl _ _).alloc _ _
  have h1 := h.kpo kA
  generalize w.alloc (.cells #[.pointer (some ⟨s, 0, none⟩)] 35) = w1 at *
  have none_ : k < 0 ∨ (cnt (bg bits) bits.length : Int) ≤ k → atL (plc (bg bits) bits.length) k = -1 := fun hh => ((PlaceP.eq (.inl ⟨rfl, hh⟩))).symm
  refine br_dec (fun h5 => ⟨by rw [none_ (.inl h5)], kA⟩) (fun h5 => ⟨_, hb0.cell0 0, usek (sOnes h1 hsz) fun w2 k2 => ⟨_, rfl, br_dec (fun h6 => ⟨by rw [none_ (.inr h6)], kA.t k2⟩) (fun h6 => ?_)⟩⟩)
  obtain ⟨k, rfl⟩ : ∃ j : Nat, k = j := ⟨k.toNat, by omega⟩
  obtain ⟨d, lw, lo, lz, so, sz, h1⟩ := h1
  have kd : Kp no w1 w2.drew := k2.drew
  have hb2 := hb0.kp kd id
  have h2 := h1.kp kd (fun _ _ f => f)
  generalize World.drew w2 = w3 at *
  have hlw := h1.words.len
  rw [length_wordsOf] at hlw
  have hce : cnt (bg bits) bits.length = cnt (bg bits) (64 * ((bits.length + 63) / 64)) := (cnt_end (by omega)).symm
  have hsp := SI_span h1.io (k := k) (by omega)
  obtain ⟨s1, s2, s3, s4, s5, s6⟩ := hsp
  refine ⟨_, hb2.cell0 0, _, hb2.cell0 0, lo, h2.blk.cell 2, usek (sspan ⟨_, h2.blk⟩ h2.ro (fun x hx => by have := h1.io.2.1 x hx; omega) s1 (by have := cnt_le (bg bits) bits.length; omega)) fun w4 k4 => ⟨_, _, rfl, ?_⟩⟩
  rw [hlw] at s2 s4 s5 s6
  have hF := srch (w := w4) (g := 92) (by decide +kernel) (a := ⟨w.heap.size, 0, none⟩) (cnt (bg bits)) (kk := k) s4 (by omega) (by omega) (by omega) (fun w' j kw hj => by
    refine c92 _ _ _ _ ?_
    unfold B92
    have kk := k4.t kw
    have h3 := h2.kp kk (fun _ _ f => f)
    refine ⟨_, (hb2.kp kk id).cell0 0, _, h3.blk.cell 1, usek (rankB h3.dir (by omega) _) fun w5 k5 => ⟨_, rfl, ?_, k5⟩⟩
    have : clampL bits ((64 * j : Nat) : Int) = 64 * j := by unfold clampL; omega
    rw [this])
  refine use hF ?_
  rintro _ w5 ⟨k5, at_, rfl, a1, a2, a3, a4⟩
  have kd5 : Kp no w3 w5.drew := (k4.t k5).drew
  have hb5 := hb2.kp kd5 id
  have h5' := h2.kp kd5 (fun _ _ f => f)
  have kall : Kp no w w5.drew := kA.t (kd.t kd5)
  generalize World.drew w5 = w6 at *
  obtain ⟨aw, ha, hc⟩ := h5'.words.at (i := (at_ : Int)) (by omega) (by omega)
  rw [Int.toNat_natCast, wg_wordsOf] at hc
  refine ⟨_, rfl, _, hb5.cell0 0, lw, h5'.blk.cell 0, by omega, by omega, aw, ha, _, by rw [Int.toNat_natCast]; exact hc, _, hb5.cell0 0, _, h5'.blk.cell 1, ?_⟩
  have e1 : IntKind.i64.wrap ((at_ : Int) * 64) = ((64 * at_ : Nat) : Int) := by rw [w64 ⟨by omega, by omega⟩]; omega
  rw [e1]
  refine usek (rankB h5'.dir (by omega) _) fun w7 k7 => ⟨_, rfl, ?_⟩
  have hcl : clampL bits ((64 * at_ : Nat) : Int) = 64 * at_ := by unfold clampL; omega
  have h7 := h5'.kp k7 (fun _ _ f => f)
  obtain ⟨aw2, ha2, hc2⟩ := h7.words.at (i := (at_ : Int)) (by omega) (by omega)
  rw [ha] at ha2; cases ha2
  rw [Int.toNat_natCast, wg_wordsOf] at hc2
  rw [hcl]
  refine ⟨by rw [Int.toNat_natCast]; exact hc2, h7.blk.cell 0, (hb5.kp k7 id).cell0 0, use (select w7 _ (wordOf_lt bits at_) _) ?_⟩
  rintro _ w8 ⟨rfl, q, rfl, hq⟩
  have hp := pc_word bits at_
  have hcc := cnt_le (bg bits) (64 * at_)
  have hcd := cnt_le (bg bits) (64 * (at_ + 1))
  rw [w64 (x := (k : Int) - _) ⟨by omega, by omega⟩] at hq
  rcases hq with ⟨rfl, hq | hq⟩ | ⟨b, rfl, hb, hbit, hcb⟩
  · omega
  · omega
  · rw [testBit_wordOf _ _ _ hb] at hbit
    have hlen : 64 * at_ + b < bits.length := by
      by_cases g : 64 * at_ + b < bits.length
      · exact g
      · rw [bg_out (by omega)] at hbit; cases hbit
    refine ⟨_, rfl, ?_, kall.t k7⟩
    rw [w64 ⟨by omega, by omega⟩]
    have hP : PlaceP (bg bits) bits.length (k : Int) ((64 * at_ + b : Nat) : Int) := .inr ⟨_, rfl, hlen, hbit, by rw [cnt_word bits at_ b (by omega)]; omega⟩
    rw [← hP.eq]
    congr 1

theorem sZero (h : SelB w s bits B) (hsz : bits.length ≤ 1000000000) (k : Int) : IsK 26 #[.pointer (some ⟨s, 0, none⟩), .int .i64 k] w (.int .i64 (atL (plc (nz bits) bits.length) k)) := by
  refine c26 _ _ _ _ ?_
  unfold B26
  have hb0 := (Blk.new w [.pointer (some ⟨s, 0, none⟩)] 35).drew
  have kA : Kp no w (World.drew (w.alloc (.cells #[.pointer (some ⟨s, 0, none⟩)] 35))) := ((Kp.refl _ _).alloc _ _).drew
  have h1 := h.kpo kA
  generalize World.drew (w.alloc (.cells #[.pointer (some ⟨s, 0, none⟩)] 35)) = w1 at *
  have none_ : k < 0 ∨ (cnt (nz bits) bits.length : Int) ≤ k → atL (plc (nz bits) bits.length) k = -1 := fun hh => ((PlaceP.eq (.inl ⟨rfl, hh⟩))).symm
  obtain ⟨d, lw, lo, lz, so, sz, h1⟩ := h1
  have hcn := cnt_nz (bits := bits) (Nat.le_refl _)
  refine ⟨_, hb0.cell0 0, br_of (fun hh => by cases hh) (fun _ => br_dec (fun h5 => ⟨by rw [none_ (.inl h5)], kA⟩) (fun h5 => ⟨_, hb0.cell0 0, _, h1.blk.cell 1, _, hb0.cell0 0, _, h1.blk.cell 4, usek (zerosB h1.dir (by omega) _) fun w2 k2 => ⟨_, rfl, ?_⟩⟩))⟩
  rw [clampL_all]
  refine br_dec (fun h6 => ⟨by rw [none_ (.inr (by omega))], kA.t k2⟩) (fun h6 => ?_)
  obtain ⟨k, rfl⟩ : ∃ j : Nat, k = j := ⟨k.toNat, by omega⟩
  have kd : Kp no w1 w2.drew := k2.drew
  have hb2 := hb0.kp kd id
  have h2 := h1.kp kd (fun _ _ f => f)
  generalize World.drew w2 = w3 at *
  have hlw := h1.words.len
  rw [length_wordsOf] at hlw
  have hce : cnt (nz bits) (64 * ((bits.length + 63) / 64)) = cnt (nz bits) bits.length := cnt_stop (p := nz bits) (fun i hi => nz_out hi) (by omega)
  have hsp := SI_span h1.iz (k := k) (by omega)
  obtain ⟨s1, s2, s3, s4, s5, s6⟩ := hsp
  refine ⟨_, hb2.cell0 0, _, hb2.cell0 0, lz, h2.blk.cell 3, usek (sspan ⟨_, h2.blk⟩ h2.rz (fun x hx => by have := h1.iz.2.1 x hx; omega) s1 (by have := cnt_le (nz bits) bits.length; omega)) fun w4 k4 => ⟨_, _, rfl, ?_⟩⟩
  rw [hlw] at s2 s4 s5 s6
  have hz64 : ∀ j, 64 * j ≤ bits.length → ((clampL bits ((64 * j : Nat) : Int) : Nat) : Int) - (cnt (bg bits) (clampL bits ((64 * j : Nat) : Int)) : Nat) = (cnt (nz bits) (64 * j) : Nat) := fun j hj => by
    have : clampL bits ((64 * j : Nat) : Int) = 64 * j := by unfold clampL; omega
    rw [this]
    have := cnt_nz hj
    omega
  have hF := srch (w := w4) (g := 94) (by decide +kernel) (a := ⟨w.heap.size, 0, none⟩) (cnt (nz bits)) (kk := k) s4 (by omega) (by omega) (by omega) (fun w' j kw hj => by
    refine c94 _ _ _ _ ?_
    unfold B94
    have kk := k4.t kw
    have h3 := h2.kp kk (fun _ _ f => f)
    refine ⟨_, (hb2.kp kk id).cell0 0, _, h3.blk.cell 1, usek (zerosB h3.dir (by omega) _) fun w5 k5 => ⟨_, rfl, ?_, k5⟩⟩
    rw [hz64 j (by omega)])
  refine use hF ?_
  rintro _ w5 ⟨k5, at_, rfl, a1, a2, a3, a4⟩
  have kd5 : Kp no w3 w5.drew := (k4.t k5).drew
  have hb5 := hb2.kp kd5 id
  have h5' := h2.kp kd5 (fun _ _ f => f)
  have kall : Kp no w w5.drew := kA.t (kd.t kd5)
  generalize World.drew w5 = w6 at *
  obtain ⟨aw, ha, hc⟩ := h5'.words.at (i := (at_ : Int)) (by omega) (by omega)
  rw [Int.toNat_natCast, wg_wordsOf] at hc
  refine ⟨_, rfl, _, hb5.cell0 0, lw, h5'.blk.cell 0, by omega, by omega, aw, ha, _, by rw [Int.toNat_natCast]; exact hc, _, hb5.cell0 0, _, h5'.blk.cell 1, ?_⟩
  have e1 : IntKind.i64.wrap ((at_ : Int) * 64) = ((64 * at_ : Nat) : Int) := by rw [w64 ⟨by omega, by omega⟩]; omega
  rw [e1]
  refine usek (zerosB h5'.dir (by omega) _) fun w7 k7 => ⟨_, rfl, ?_⟩
  have h7 := h5'.kp k7 (fun _ _ f => f)
  obtain ⟨aw2, ha2, hc2⟩ := h7.words.at (i := (at_ : Int)) (by omega) (by omega)
  rw [ha] at ha2; cases ha2
  rw [Int.toNat_natCast, wg_wordsOf] at hc2
  rw [hz64 at_ (by omega), comp_u64 (wordOf_lt bits at_)]
  refine ⟨by rw [Int.toNat_natCast]; exact hc2, h7.blk.cell 0, (hb5.kp k7 id).cell0 0, use (select w7 _ (comp_lt (wordOf_lt bits at_)) _) ?_⟩
  rintro _ w8 ⟨rfl, q, rfl, hq⟩
  have hp := pc_word bits at_
  have hcc := cnt_le (nz bits) (64 * at_)
  have hcd := cnt_le (nz bits) (64 * (at_ + 1))
  have hpp : pc (18446744073709551615 ^^^ wordOf bits at_) + pc (wordOf bits at_) = 64 := cnt_comp (x := wordOf bits at_) (n := 64) (Nat.le_refl _)
  have hnw := nz_word (bits := bits) (k := at_) (by omega)
  rw [w64 (x := (k : Int) - _) ⟨by omega, by omega⟩] at hq
  rcases hq with ⟨rfl, hq | hq⟩ | ⟨b, rfl, hb, hbit, hcb⟩
  · omega
  · omega
  · rw [comp_bit hb, testBit_wordOf _ _ _ hb] at hbit
    have hcx := cnt_comp (x := wordOf bits at_) (n := b) (by omega)
    have hcw := cnt_word bits at_ b (by omega)
    have hn0 := cnt_nz (bits := bits) (n := 64 * at_) (by omega)
    have hlen : 64 * at_ + b < bits.length := by
      by_cases g : 64 * at_ + b < bits.length
      · exact g
      · have g1 : cnt (bg bits) (64 * at_ + b) = cnt (bg bits) bits.length := cnt_end (by omega)
        have g2 : cnt (bg bits) (64 * (at_ + 1)) = cnt (bg bits) bits.length := cnt_end (by omega)
        omega
    refine ⟨_, rfl, ?_, kall.t k7⟩
    rw [w64 ⟨by omega, by omega⟩]
    have hnb := cnt_nz (bits := bits) (n := 64 * at_ + b) (by omega)
    have hP : PlaceP (nz bits) bits.length (k : Int) ((64 * at_ + b : Nat) : Int) := .inr ⟨_, rfl, hlen, by unfold nz; simp [hlen]; simpa using hbit, by omega⟩
    rw [← hP.eq]
    congr 1
end Go.Proofs.YtomajpihimlcjaaDoor.V

namespace Go.VC
open Go
/-- The bits that are as told. -/
def isB (bits : List Bool) (b : Bool) (i : Nat) : Bool := decide (i < bits.length) && (bg bits i == b)
theorem plc_congr {p q : Nat → Bool} {n : Nat} (h : ∀ i, i < n → p i = q i) : plc p n = plc q n := by
  unfold plc
  apply List.filter_congr
  intro i hi
  exact h i (List.mem_range.1 hi)
theorem plc_true (bits : List Bool) : plc (isB bits true) bits.length = plc (bg bits) bits.length := plc_congr fun i hi => by unfold isB; simp [hi]
theorem plc_false (bits : List Bool) : plc (isB bits false) bits.length = plc (nz bits) bits.length := plc_congr fun i hi => by unfold isB nz; cases bg bits i <;> simp [hi]
end Go.VC
namespace Go.Proofs.YtomajpihimlcjaaDoor.V
open Go Go.VC
variable {w w' w0 : World} {l : Slc} {bits : List Bool} {ws : List Nat} {s r B t m n : Nat}

theorem places5 (h : RdB w l bits) (hsz : l.len ≤ 1000000000) (b : Bool) : Calls Tryd.prog 20 #[.slice l.a l.len l.cap, .bool b] w (Rv fun v w' => ∃ o : Slc, v = .slice o.a o.len o.cap ∧
    Ownd w' o 3 1 ((plc (isB bits b) bits.length).map IV) ∧ Kp no w w' ∧ ∀ k, On o k → w.heap.size ≤ k) := by
  refine c20 _ _ _ _ ?_
  unfold B20
  have hl := h.len
  refine ⟨fun o i w' => ∃ m : Nat, i = m ∧ m ≤ bits.length ∧ Ownd w' o 3 1 ((plc (isB bits b) m).map IV) ∧ Kp no w w' ∧ ∀ k, On o k → w.heap.size ≤ k,
    fun _ i _ => (l.len - i).toNat, ⟨0, rfl, by omega, Ownd.nil _ _ _, Kp.refl _ _, fun k hk => absurd hk On.nil⟩, ?_⟩
  rintro o i w1 ⟨m, rfl, hm, ho, k1, f1⟩
  have hol := ho.rdI.len
  have hpl := plc_len (isB bits b) m
  have hcl := cnt_le (isB bits b) m
  refine br_dec (fun hlt => ?_) (fun hlt => ?_)
  · obtain ⟨a, ha, hc⟩ := (h.kp k1 (fun _ _ f => f)).at (i := (m : Int)) (by omega) hlt
    rw [Int.toNat_natCast] at hc
    refine ⟨by omega, hlt, a, ha, _, by rw [Int.toNat_natCast]; exact hc, ?_⟩
    have hps := plc_succ (isB bits b) m
    have hib : isB bits b m = (bg bits m == b) := by unfold isB; simp [show m < bits.length by omega]
    rw [w64 (x := (m : Int) + 1) ⟨by omega, by omega⟩]
    refine br_of (fun hb => ?_) (fun hb => ?_)
    · obtain ⟨w2, o2, hr2, ho2, hl2, hk2, hf2⟩ := append_one (ty := 37) elI ho (IV m) rfl (by simp only [maxLen]; omega) (by omega)
      refine ⟨w2, o2, hr2, ⟨m + 1, by omega, by omega, ?_, k1.trans hk2 (fun k h1 h2 => by have := f1 k h2; omega), fun k hk => ?_⟩, by dsimp only; omega⟩
      · rw [hps, hib, hb, if_pos rfl]
        rw [map_snocI] at ho2; exact ho2
      · have := k1.size
        rcases hf2 k hk with g | g
        · exact f1 k g
        · omega
    · refine ⟨⟨m + 1, by omega, by omega, ?_, k1, f1⟩, by dsimp only; omega⟩
      rw [hps, hib, hb]; simpa using ho
  · obtain rfl : m = bits.length := by omega
    exact ⟨o, rfl, ho, k1, f1⟩

theorem live5 (w : World) : IsK 17 #[] w (.bool true) := by
  refine c17 _ _ ?_
  unfold B17
  have hbits : caseBits [] 0 13 5 = [true, false, true, true, false] := by decide +kernel
  have h14 := row4 (caseR0 w 13 5 (by omega) (by omega)) (by simp) (by omega) (by omega)
  rw [hbits] at h14
  refine use h14 ?_
  rintro _ w1 ⟨r, rfl, hr, k1⟩
  refine ⟨_, rfl, use (sNew hr (by simp)) ?_⟩
  rintro _ w2 ⟨d, rfl, hd, k2⟩
  have e1 : atL (plc (bg [true, false, true, true, false]) [true, false, true, true, false].length) 1 = 2 := by decide +kernel
  have e2 : atL (plc (nz [true, false, true, true, false]) [true, false, true, true, false].length) 1 = 4 := by decide +kernel
  have e3 : atL (plc (bg [true, false, true, true, false]) [true, false, true, true, false].length) 3 = -1 := by decide +kernel
  have e4 : cnt (bg [true, false, true, true, false]) [true, false, true, true, false].length = 3 := by decide +kernel
  refine ⟨_, rfl, usek (sOne hd (by simp) 1) fun w3 k3 => ⟨_, rfl, ?_⟩⟩
  rw [e1]
  refine br_dec (fun _ => usek (sZero (hd.kpo k3) (by simp) 1) fun w4 k4 => ⟨_, rfl, ?_⟩) (fun h => absurd rfl h)
  rw [e2]
  refine br_dec (fun _ => usek (sOne (hd.kpo (k3.t k4)) (by simp) 3) fun w5 k5 => ⟨_, rfl, ?_⟩) (fun h => absurd rfl h)
  rw [e3]
  refine br_dec (fun _ => usek (sOnes (hd.kpo ((k3.t k4).t k5)) (by simp)) fun w6 k6 => ⟨_, rfl, ?_⟩) (fun h => absurd rfl h)
  rw [e4]
  exact ⟨rfl, (k1.t k2).t (((k3.t k4).t k5).t k6)⟩

end Go.Proofs.YtomajpihimlcjaaDoor.V
