/- The directory that selects: made, asked. -/
import Derived.Test.YtilccklocaeebaaDm
import Derived.Test.YtilccklocaeebaaBS
namespace Go.VC
open Go
variable {S : Nat → Prop} {w w' : World} {l : Slc} {cs xs : List Value} {T e : TypeId} {s c : Nat}
/-- 'append' of one value to a slice that lies in a cell of an object. -/
theorem fapp {P : Program} {t ty : TypeId} {bytes : Nat} (he : El P t e 1 bytes) (hb : Blk w s cs T) (hc : c < cs.length) (hO : Ownd w l e 1 xs) (hn : ¬ On l s) (u : Value) (hu : u.oneCell' = true)
    (h63 : l.len + 1 ≤ maxLen) (hby : (l.len + 1) * bytes ≤ 140737488355328) :
    ∃ w2 o, (Builtin.append_ #[t, t] ty #[.slice l.a l.len l.cap, .slice (some ⟨w.heap.size, 0, none⟩) 1 1]).run P (w.alloc (.cells #[u] e)) = .ok (.slice o.a o.len o.cap) w2 ∧
      (∃ u, w2.cell? (Addr.add ⟨s, 0, none⟩ c) = some u) ∧ w2.frozen? (Addr.add ⟨s, 0, none⟩ c) = false ∧
      Blk (w2.setCell (Addr.add ⟨s, 0, none⟩ c) (.slice o.a o.len o.cap)) s (cs.set c (.slice o.a o.len o.cap)) T ∧
      Ownd (w2.setCell (Addr.add ⟨s, 0, none⟩ c) (.slice o.a o.len o.cap)) o e 1 (xs ++ [u]) ∧ ¬ On o s ∧ o.len = l.len + 1 ∧
      Kp (fun k => k = s ∨ On l k) w (w2.setCell (Addr.add ⟨s, 0, none⟩ c) (.slice o.a o.len o.cap)) ∧ (∀ k, On o k → On l k ∨ w.heap.size ≤ k) := by
  obtain ⟨w2, o2, hr2, ho2, hl2, hk2, hf2⟩ := append_one (ty := ty) he hO u hu h63 hby
  have hb2 := hb.kp hk2 hn
  have hs := hb.lt
  have hne : ¬ On o2 s := fun hk => by
    rcases hf2 s hk with g | g
    · exact hn g
    · omega
  refine ⟨w2, o2, hr2, ?_, hb2.frozen c, hb2.set c _, ho2.set_other _ _ (by rw [add_block]; exact hne), hne, hl2, ?_, hf2⟩
  · rw [hb2.cell]; exact ⟨cs[c], List.getElem?_eq_getElem hc⟩
  · exact (hk2.mono (fun _ _ h => .inr h)).set _ _ (fun _ => .inl (by rw [add_block]))
/-- The length of the slice in an object's cell. -/
def lenC (s c : Nat) (w : World) : Nat := match w.cell? (Addr.add ⟨s, 0, none⟩ c) with
  | some (.slice _ n _) => n
  | _ => 0
theorem lenC_of (h : w.cell? (Addr.add ⟨s, 0, none⟩ c) = some (.slice l.a l.len l.cap)) : lenC s c w = l.len := by unfold lenC; rw [h]
abbrev S32 (x : Nat) : Value := .int .i32 (x : Int)
/-- Samples that can be read. -/
structure RdS (w : World) (l : Slc) (xs : List Nat) : Prop where
  len : xs.length = l.len
  rd : Rd w l (xs.map S32)
theorem RdS.at {xs : List Nat} (h : RdS w l xs) {i : Int} (h0 : 0 ≤ i) (h1 : i < l.len) : ∃ a, l.a = some a ∧ w.cell? (Addr.add a (i.toNat * 1)) = some (S32 (wg xs i.toNat)) := by
  have hl := h.len
  obtain ⟨a, ha, hc⟩ := h.rd i.toNat (by rw [List.length_map]; omega)
  refine ⟨a, ha, ?_⟩
  rw [Nat.mul_one, hc]
  unfold wg
  rw [List.getElem?_map, List.getElem?_eq_getElem (by omega)]
  rfl
theorem RdS.kp {xs : List Nat} (h : RdS w l xs) (g : Kp S w w') (hn : ∀ k, On l k → ¬ S k) : RdS w' l xs := ⟨h.len, h.rd.kp g hn⟩
theorem Ownd.rdS {xs : List Nat} (h : Ownd w l e 1 (xs.map S32)) : RdS w l xs := ⟨by have := h.len; simpa using this, h.rd⟩
theorem wi32 {x : Int} (h : -2147483648 ≤ x ∧ x ≤ 2147483647) : IntKind.i32.wrap x = x := by
  simp only [IntKind.wrap, IntKind.bits, IntKind.signed]; simp; omega
/-- The samples of the first k words. -/
def SI (p : Nat → Bool) (k : Nat) (ss : List Nat) : Prop := SampOk p ss ∧ (∀ x ∈ ss, x < k) ∧ cnt p (64 * k) ≤ 64 * ss.length ∧ 64 * ss.length < cnt p (64 * k) + 64
/-- The samples while a word's are laid. -/
def SJ (p : Nat → Bool) (k : Nat) (ss : List Nat) : Prop := SampOk p ss ∧ (∀ x ∈ ss, x < k + 1) ∧ cnt p (64 * k) ≤ 64 * ss.length ∧ 64 * ss.length < cnt p (64 * (k + 1)) + 64
theorem SI.start {p : Nat → Bool} {k : Nat} {ss : List Nat} (h : SI p k ss) : SJ p k ss := by
  obtain ⟨h1, h2, h3, h4⟩ := h
  have := cnt_mono p (m := 64 * k) (n := 64 * (k + 1)) (by omega)
  exact ⟨h1, fun x hx => by have := h2 x hx; omega, h3, by omega⟩
theorem SJ.done {p : Nat → Bool} {k : Nat} {ss : List Nat} (h : SJ p k ss) (h5 : cnt p (64 * (k + 1)) ≤ 64 * ss.length) : SI p (k + 1) ss := ⟨h.1, h.2.1, h5, h.2.2.2⟩
theorem SJ.step {p : Nat → Bool} {k : Nat} {ss : List Nat} (h : SJ p k ss) (h5 : 64 * ss.length < cnt p (64 * (k + 1))) : SJ p k (ss ++ [k]) := by
  obtain ⟨h1, h2, h3, h4⟩ := h
  refine ⟨h1.snoc h3 h5, fun x hx => ?_, by rw [List.length_append]; omega, by rw [List.length_append, List.length_singleton]; omega⟩
  rcases List.mem_append.1 hx with g | g
  · exact h2 x g
  · have := List.mem_singleton.1 g; omega
theorem cnt_step (p : Nat → Bool) (k : Nat) : cnt p (64 * (k + 1)) ≤ cnt p (64 * k) + 64 ∧ cnt p (64 * k) ≤ cnt p (64 * (k + 1)) := by
  have h1 := cnt_add p (64 * k) 64
  have h2 := cnt_le (fun i => p (64 * k + i)) 64
  rw [show 64 * (k + 1) = 64 * k + 64 by omega]
  omega
theorem pc_word (bits : List Bool) (k : Nat) : cnt (bg bits) (64 * (k + 1)) = cnt (bg bits) (64 * k) + pc (wordOf bits k) := by
  rw [show 64 * (k + 1) = 64 * k + 64 by omega, cnt_add]
  have : pc (wordOf bits k) = cnt (fun i => bg bits (64 * k + i)) 64 := cnt_congr fun i hi => testBit_wordOf bits k i hi
  rw [this]
theorem nz_word {bits : List Bool} {k : Nat} (h : k < (bits.length + 63) / 64) : ((cnt (nz bits) (64 * (k + 1)) : Nat) : Int) = (cnt (nz bits) (64 * k) : Nat) + (min (64 : Int) ((bits.length : Int) - 64 * k) - (pc (wordOf bits k) : Nat)) := by
  have h1 := pc_word bits k
  have h2 := cnt_nz (bits := bits) (n := 64 * k) (by omega)
  by_cases g : 64 * (k + 1) ≤ bits.length
  · have h3 := cnt_nz g
    omega
  · have h3 := cnt_nz (bits := bits) (Nat.le_refl _)
    rw [cnt_stop (p := nz bits) (fun i hi => nz_out hi) (show bits.length ≤ 64 * (k + 1) by omega)]
    rw [cnt_stop (p := bg bits) (fun i hi => bg_out hi) (show bits.length ≤ 64 * (k + 1) by omega)] at h1
    omega
end Go.VC

namespace Go.Proofs.Ytilccklocaeebaa.V
open Go Go.VC
variable {w w' w0 : World} {l lw lo lz : Slc} {bits : List Bool} {so sz ss : List Nat} {d r s B : Nat}
theorem elS : El Try.prog 95 21 1 4 := El.of (by kernel_rfl) (by kernel_rfl)

/-- A directory under way: its samples. -/
structure Sst (w0 : World) (s d : Nat) (lw lo lz : Slc) (n : Nat) (w : World) (so sz : List Nat) : Prop where
  blk : Blk w s [.slice lw.a lw.len lw.cap, .pointer (some ⟨d, 0, none⟩), .slice lo.a lo.len lo.cap, .slice lz.a lz.len lz.cap, .int .i64 (n : Int)] 97
  oo : Ownd w lo 21 1 (so.map S32)
  oz : Ownd w lz 21 1 (sz.map S32)
  no : ¬ On lo s
  nz : ¬ On lz s
  dj : ∀ k, On lo k → ¬ On lz k
  kp : Kp VC.no w0 w
  fs : w0.heap.size ≤ s
  fo : ∀ k, On lo k → w0.heap.size ≤ k
  fz : ∀ k, On lz k → w0.heap.size ≤ k
theorem Sst.kpo {n : Nat} (h : Sst w0 s d lw lo lz n w so sz) (g : Kp VC.no w w') : Sst w0 s d lw lo lz n w' so sz :=
  ⟨h.blk.kp g id, h.oo.kp g (fun _ _ f => f), h.oz.kp g (fun _ _ f => f), h.no, h.nz, h.dj, h.kp.t g, h.fs, h.fo, h.fz⟩

theorem Sst.addo {n : Nat} (h : Sst w0 s d lw lo lz n w so sz) (x : Nat) (hb : so.length ≤ 1000000000) :
    ∃ w2 o, (Builtin.append_ #[95, 95] 95 #[.slice lo.a lo.len lo.cap, .slice (some ⟨w.heap.size, 0, none⟩) 1 1]).run Try.prog (w.alloc (.cells #[S32 x] 21)) = .ok (.slice o.a o.len o.cap) w2 ∧
      (∃ u, w2.cell? (Addr.add ⟨s, 0, none⟩ 2) = some u) ∧ w2.frozen? (Addr.add ⟨s, 0, none⟩ 2) = false ∧
      Sst w0 s d lw o lz n (w2.setCell (Addr.add ⟨s, 0, none⟩ 2) (.slice o.a o.len o.cap)) (so ++ [x]) sz := by
  have hl := h.oo.rdS.len
  obtain ⟨w2, o, hr, hu, hf, hb2, ho2, hn2, hl2, hk2, hf2⟩ := fapp (c := 2) (ty := 95) elS h.blk (by simp) h.oo h.no (S32 x) rfl (by simp only [maxLen]; omega) (by omega)
  have hs := h.blk.lt
  have hks := h.kp.size
  refine ⟨w2, o, hr, hu, hf, hb2, by simpa using ho2, h.oz.kp hk2 (fun k h1 h2 => ?_), hn2, h.nz, fun k hk hk2 => ?_, h.kp.trans hk2 (fun k hk hk2 => ?_), h.fs, fun k hk => ?_, h.fz⟩
  · rcases h2 with rfl | h2
    · exact h.nz h1
    · exact h.dj k h2 h1
  · rcases hf2 k hk with g | g
    · exact h.dj k g hk2
    · have := h.oz.on hk2; omega
  · rcases hk2 with rfl | g
    · have := h.fs; omega
    · have := h.fo k g; omega
  · rcases hf2 k hk with g | g
    · exact h.fo k g
    · omega
theorem Sst.addz {n : Nat} (h : Sst w0 s d lw lo lz n w so sz) (x : Nat) (hb : sz.length ≤ 1000000000) :
    ∃ w2 o, (Builtin.append_ #[95, 95] 95 #[.slice lz.a lz.len lz.cap, .slice (some ⟨w.heap.size, 0, none⟩) 1 1]).run Try.prog (w.alloc (.cells #[S32 x] 21)) = .ok (.slice o.a o.len o.cap) w2 ∧
      (∃ u, w2.cell? (Addr.add ⟨s, 0, none⟩ 3) = some u) ∧ w2.frozen? (Addr.add ⟨s, 0, none⟩ 3) = false ∧
      Sst w0 s d lw lo o n (w2.setCell (Addr.add ⟨s, 0, none⟩ 3) (.slice o.a o.len o.cap)) so (sz ++ [x]) := by
  have hl := h.oz.rdS.len
  obtain ⟨w2, o, hr, hu, hf, hb2, ho2, hn2, hl2, hk2, hf2⟩ := fapp (c := 3) (ty := 95) elS h.blk (by simp) h.oz h.nz (S32 x) rfl (by simp only [maxLen]; omega) (by omega)
  have hs := h.blk.lt
  have hks := h.kp.size
  refine ⟨w2, o, hr, hu, hf, hb2, h.oo.kp hk2 (fun k h1 h2 => ?_), by simpa using ho2, h.no, hn2, fun k hk hk2 => ?_, h.kp.trans hk2 (fun k hk hk2 => ?_), h.fs, h.fo, fun k hk => ?_⟩
  · rcases h2 with rfl | h2
    · exact h.no h1
    · exact h.dj k h1 h2
  · rcases hf2 k hk2 with g | g
    · exact h.dj k hk g
    · have := h.oo.on hk; omega
  · rcases hk2 with rfl | g
    · have := h.fs; omega
    · have := h.fz k g; omega
  · rcases hf2 k hk with g | g
    · exact h.fz k g
    · omega

/-- A directory that selects, its blocks from B on. -/
structure SelAt (w : World) (s d : Nat) (lw lo lz : Slc) (bits : List Bool) (so sz : List Nat) (B : Nat) : Prop where
  blk : Blk w s [.slice lw.a lw.len lw.cap, .pointer (some ⟨d, 0, none⟩), .slice lo.a lo.len lo.cap, .slice lz.a lz.len lz.cap, .int .i64 (bits.length : Int)] 97
  words : RdW w lw (wordsOf bits)
  dir : DirB w d bits B
  ro : RdS w lo so
  rz : RdS w lz sz
  io : SI (bg bits) ((bits.length + 63) / 64) so
  iz : SI (nz bits) ((bits.length + 63) / 64) sz
  fr : B ≤ s ∧ (∀ k, On lw k → B ≤ k) ∧ (∀ k, On lo k → B ≤ k) ∧ (∀ k, On lz k → B ≤ k)
def SelB (w : World) (s : Nat) (bits : List Bool) (B : Nat) : Prop := ∃ d lw lo lz so sz, SelAt w s d lw lo lz bits so sz B
theorem SelAt.kp {S : Nat → Prop} (h : SelAt w s d lw lo lz bits so sz B) (g : Kp S w w') (hn : ∀ k, B ≤ k → ¬ S k) : SelAt w' s d lw lo lz bits so sz B :=
  ⟨h.blk.kp g (hn _ h.fr.1), h.words.kp g (fun k hk => hn k (h.fr.2.1 k hk)), h.dir.kp g hn, h.ro.kp g (fun k hk => hn k (h.fr.2.2.1 k hk)), h.rz.kp g (fun k hk => hn k (h.fr.2.2.2 k hk)), h.io, h.iz, h.fr⟩
theorem SelB.kp {S : Nat → Prop} (h : SelB w s bits B) (g : Kp S w w') (hn : ∀ k, B ≤ k → ¬ S k) : SelB w' s bits B := by
  obtain ⟨d, lw, lo, lz, so, sz, h⟩ := h
  exact ⟨d, lw, lo, lz, so, sz, h.kp g hn⟩
theorem SelB.kpo (h : SelB w s bits B) (g : Kp no w w') : SelB w' s bits B := h.kp g (fun _ _ f => f)

theorem sNew (h : RowB w r bits B) (hsz : bits.length ≤ 1000000000) : Calls Try.prog 38 #[.pointer (some ⟨r, 0, none⟩)] w (Rv fun v w' => ∃ s, v = .pointer (some ⟨s, 0, none⟩) ∧ SelB w' s bits w.heap.size ∧ Kp no w w') := by
  refine c38 _ _ _ ?_
  unfold B38
  have hwl := length_wordsOf bits
  obtain ⟨rl, hrow⟩ := h.row
  refine use (words1 hrow (by omega)) ?_
  rintro _ w1 ⟨lw, rfl, hO, k1, f1⟩
  have hlw : lw.len = (bits.length + 63) / 64 := by have := hO.len; simp at this; omega
  have hW1 := hO.rdW (fun _ hx => wordsOf_lt hx)
  refine ⟨lw, rfl, use (rNewB (h.kpo k1) hsz) ?_⟩
  rintro _ w2 ⟨d, rfl, hd, k2⟩
  have hs1 := k1.size
  have hs2 := k2.size
  refine ⟨_, rfl, usei (len1 (hrow.kp (k1.t k2) (fun _ _ f => f))) ⟨_, rfl, ?_⟩⟩
  have hW2 := hW1.kp k2 (fun _ _ f => f)
  have S0 : Sst w2 w2.heap.size d lw ⟨none, 0, 0⟩ ⟨none, 0, 0⟩ bits.length (w2.alloc (.cells #[.slice lw.a lw.len lw.cap, .pointer (some ⟨d, 0, none⟩), .slice none 0 0, .slice none 0 0, .int .i64 (bits.length : Int)] 97)) [] [] :=
    ⟨Blk.new _ _ _, Ownd.nil _ _ _, Ownd.nil _ _ _, On.nil, On.nil, fun k hk => absurd hk On.nil, (Kp.refl _ _).alloc _ _, Nat.le_refl _, fun k hk => absurd hk On.nil, fun k hk => absurd hk On.nil⟩
  generalize w2.alloc (.cells #[.slice lw.a lw.len lw.cap, .pointer (some ⟨d, 0, none⟩), .slice none 0 0, .slice none 0 0, .int .i64 (bits.length : Int)] 97) = w3 at *
  have hcb : ∀ i, cnt (bg bits) i ≤ bits.length := fun i => by
    by_cases g : i ≤ bits.length
    · have := cnt_le (bg bits) i; omega
    · rw [cnt_end (by omega)]; exact cnt_le _ _
  have hcz : ∀ i, cnt (nz bits) i ≤ bits.length := fun i => by
    by_cases g : i ≤ bits.length
    · have := cnt_le (nz bits) i; omega
    · rw [cnt_stop (p := nz bits) (fun i hi => nz_out hi) (show bits.length ≤ i by omega)]; exact cnt_le _ _
  refine ⟨lw, S0.blk.cell 0, fun on ze k w' => ∃ (m : Nat) (lo lz : Slc) (so sz : List Nat), k = m ∧ m ≤ (bits.length + 63) / 64 ∧ Sst w2 w2.heap.size d lw lo lz bits.length w' so sz ∧
      on = (cnt (bg bits) (64 * m) : Nat) ∧ ze = (cnt (nz bits) (64 * m) : Nat) ∧ SI (bg bits) m so ∧ SI (nz bits) m sz, fun _ _ k _ => (lw.len - k).toNat,
    ⟨0, _, _, [], [], rfl, by omega, S0, rfl, rfl, ⟨SampOk.nil _, by simp, by simp [cnt], by simp [cnt]⟩, ⟨SampOk.nil _, by simp, by simp [cnt], by simp [cnt]⟩⟩, ?_⟩
  rintro on ze k w4 ⟨m, lo, lz, so, sz, rfl, hm, hS, rfl, rfl, io, iz⟩
  refine br_dec (fun hlt => ?_) (fun hlt => ?_)
  · have hmw : m < (bits.length + 63) / 64 := by omega
    obtain ⟨a, ha, hc⟩ := (hW2.kp hS.kp (fun _ _ f => f)).at (i := (m : Int)) (by omega) hlt
    rw [Int.toNat_natCast, wg_wordsOf] at hc
    refine ⟨lw, hS.blk.cell 0, by omega, hlt, a, ha, _, by rw [Int.toNat_natCast]; exact hc, usei (ones _ _ (wordOf_lt bits m)) ⟨_, rfl, _, hS.blk.cell 4, ?_⟩⟩
    have hp := pc_word bits m
    have hz := nz_word hmw
    have b1 := hcb (64 * m)
    have b2 := hcb (64 * (m + 1))
    have b3 := hcz (64 * m)
    have b4 := hcz (64 * (m + 1))
    have hpc : pc (wordOf bits m) ≤ 64 := cnt_le _ _
    have eo : IntKind.i64.wrap (((cnt (bg bits) (64 * m) : Nat) : Int) + ((pc (wordOf bits m) : Nat) : Int)) = (cnt (bg bits) (64 * (m + 1)) : Nat) := by rw [w64 ⟨by omega, by omega⟩]; omega
    have ez : IntKind.i64.wrap (((cnt (nz bits) (64 * m) : Nat) : Int) + IntKind.i64.wrap (min (64 : Int) (IntKind.i64.wrap ((bits.length : Int) - IntKind.i64.wrap ((m : Int) * 64))) - ((pc (wordOf bits m) : Nat) : Int))) = (cnt (nz bits) (64 * (m + 1)) : Nat) := by
      rw [w64 (x := (m : Int) * 64) ⟨by omega, by omega⟩, w64 (x := (bits.length : Int) - (m : Int) * 64) ⟨by omega, by omega⟩, w64 (x := min (64 : Int) _ - _) ⟨by omega, by omega⟩, w64 ⟨by omega, by omega⟩, hz]; omega
    rw [eo, ez]
    have slen : ∀ {p : Nat → Bool} {ss : List Nat}, SJ p m ss → cnt p (64 * (m + 1)) ≤ bits.length → ss.length ≤ 1000000000 := fun h1 h2 => by have := h1.2.2.2; omega
    refine ⟨fun w' => ∃ (lo : Slc) (so : List Nat), Sst w2 w2.heap.size d lw lo lz bits.length w' so sz ∧ SJ (bg bits) m so, fun w' => 2000000000 - lenC w2.heap.size 2 w', ⟨lo, so, hS, io.start⟩, ?_⟩
    rintro w5 ⟨lo, so, hS, jo⟩
    have hol := hS.oo.rdS.len
    have hs1 := slen jo b2
    have el : IntKind.i64.wrap ((lo.len : Int) * 64) = ((64 * so.length : Nat) : Int) := by rw [w64 ⟨by omega, by omega⟩]; omega
    refine ⟨lo, hS.blk.cell 2, ?_⟩
    rw [el]
    refine br_dec (fun h5 => ⟨lo, hS.blk.cell 2, ?_⟩) (fun h5 => ?_)
    · obtain ⟨w6, o, hr, hu, hf, hS6⟩ := hS.addo m hs1
      rw [wi32 (x := (m : Int)) ⟨by omega, by omega⟩]
      refine ⟨w6, o, hr, hu, hf, ⟨o, _, hS6, jo.step (by omega)⟩, ?_⟩
      dsimp only
      have e1 := hS6.oo.rdS.len
      rw [List.length_append, List.length_singleton] at e1
      rw [lenC_of (hS.blk.cell 2), lenC_of (hS6.blk.cell 2)]
      omega
    · refine ⟨fun w' => ∃ (lz : Slc) (sz : List Nat), Sst w2 w2.heap.size d lw lo lz bits.length w' so sz ∧ SJ (nz bits) m sz, fun w' => 2000000000 - lenC w2.heap.size 3 w', ⟨lz, sz, hS, iz.start⟩, ?_⟩
      rintro w7 ⟨lz, sz, hS, jz⟩
      have hzl := hS.oz.rdS.len
      have hs2 := slen jz b4
      have ell : IntKind.i64.wrap ((lz.len : Int) * 64) = ((64 * sz.length : Nat) : Int) := by rw [w64 ⟨by omega, by omega⟩]; omega
      refine ⟨lz, hS.blk.cell 3, ?_⟩
      rw [ell]
      refine br_dec (fun h6 => ⟨lz, hS.blk.cell 3, ?_⟩) (fun h6 => ?_)
      · obtain ⟨w8, o, hr, hu, hf, hS8⟩ := hS.addz m hs2
        rw [wi32 (x := (m : Int)) ⟨by omega, by omega⟩]
        refine ⟨w8, o, hr, hu, hf, ⟨o, _, hS8, jz.step (by omega)⟩, ?_⟩
        dsimp only
        have e1 := hS8.oz.rdS.len
        rw [List.length_append, List.length_singleton] at e1
        rw [lenC_of (hS.blk.cell 3), lenC_of (hS8.blk.cell 3)]
        omega
      · rw [w64 (x := (m : Int) + 1) ⟨by omega, by omega⟩]
        exact ⟨⟨m + 1, lo, lz, so, sz, by omega, by omega, hS, rfl, rfl, jo.done (by omega), jz.done (by omega)⟩, by dsimp only; omega⟩
  · have hme : m = (bits.length + 63) / 64 := by omega
    subst hme
    refine ⟨_, rfl, ⟨d, lw, lo, lz, so, sz, hS.blk, hW2.kp hS.kp (fun _ _ f => f), ?_, hS.oo.rdS, hS.oz.rdS, io, iz, ⟨?_, fun k hk => ?_, fun k hk => ?_, fun k hk => ?_⟩⟩, (k1.t k2).t hS.kp⟩
    · obtain ⟨x1, x2, x3, hd1, hd2⟩ := hd.kpo hS.kp
      exact ⟨x1, x2, x3, hd1, fun k hk => by have := hd2 k hk; omega⟩
    · omega
    · have := f1 k hk; omega
    · have := hS.fo k hk; omega
    · have := hS.fz k hk; omega
end Go.Proofs.Ytilccklocaeebaa.V
