/- The directory of ranks: the plain ranks and marks, and the directory itself. The directory of ranks: made, asked. The directory of ranks, made from a row; the rows of the law's cases. Rows and directories by a lower bound of their blocks; the cases of the chapters on directories. Opening a case of the chapters on directories. The laws of the chapter on directories of ranks. The law on the marks of a directory; nil directories. -/
import Derived.Test.YtomajpihimlcjaaDoorRa
import Derived.Test.YtomajpihimlcjaaDoorBD
import Derived.Test.YtomajpihimlcjaaDoorLa
namespace Go.VC
open Go
/-- The number as a value. -/
abbrev IV (x : Nat) : Value := .int .i64 (x : Int)
/-- Numbers that can be read. -/
structure RdI (w : World) (l : Slc) (xs : List Nat) : Prop where
  len : xs.length = l.len
  rd : Rd w l (xs.map IV)
theorem RdI.at {w : World} {l : Slc} {xs : List Nat} (h : RdI w l xs) {i : Int} (h0 : 0 ≤ i) (h1 : i < l.len) : ∃ a, l.a = some a ∧ w.cell? (Addr.add a (i.toNat * 1)) = some (IV (wg xs i.toNat)) := by
  have hl := h.len
  obtain ⟨a, ha, hc⟩ := h.rd i.toNat (by rw [List.length_map]; omega)
  refine ⟨a, ha, ?_⟩
  rw [Nat.mul_one, hc]
  unfold wg
  rw [List.getElem?_map, List.getElem?_eq_getElem (by omega)]
  rfl
theorem RdI.kp {S : Nat → Prop} {w w' : World} {l : Slc} {xs : List Nat} (h : RdI w l xs) (g : Kp S w w') (hn : ∀ k, On l k → ¬ S k) : RdI w' l xs := ⟨h.len, h.rd.kp g hn⟩
theorem Ownd.rdI {w : World} {l : Slc} {e : TypeId} {xs : List Nat} (h : Ownd w l e 1 (xs.map IV)) : RdI w l xs := ⟨by have := h.len; simpa using this, h.rd⟩
theorem map_snocI (xs : List Nat) (x : Nat) : xs.map IV ++ [IV x] = (xs ++ [x]).map IV := by simp
/-- A place within a list. -/
def clampL (bits : List Bool) (i : Int) : Nat := (min (max i 0) (bits.length : Int)).toNat
/-- The ones ahead of each span of 512, and all. -/
def marksOf (bits : List Bool) : List Nat := ((List.range ((bits.length + 511) / 512)).map fun j => cnt (bg bits) (512 * j)) ++ [cnt (bg bits) bits.length]
theorem cnt_end {bits : List Bool} {n : Nat} (h : bits.length ≤ n) : cnt (bg bits) n = cnt (bg bits) bits.length := by
  obtain ⟨j, rfl⟩ : ∃ j, n = bits.length + j := ⟨n - bits.length, by omega⟩
  have : cnt (fun i => bg bits (bits.length + i)) j = 0 := by rw [cnt_congr (q := fun _ => false) (fun i _ => bg_out (by omega)), cnt_false]
  rw [cnt_add, this]; rfl
theorem marksOf_len (bits : List Bool) : (marksOf bits).length = (bits.length + 511) / 512 + 1 := by simp [marksOf]
theorem marksOf_at {bits : List Bool} {j : Nat} (h : j < (bits.length + 511) / 512) : wg (marksOf bits) j = cnt (bg bits) (512 * j) := by
  unfold wg marksOf
  rw [List.getElem?_append_left (by simpa using h)]
  simp [h]
theorem marksOf_last (bits : List Bool) : wg (marksOf bits) ((bits.length + 511) / 512) = cnt (bg bits) bits.length := by
  unfold wg marksOf
  rw [List.getElem?_append_right (by simp)]
  simp
end Go.VC

namespace Go.Proofs.YtomajpihimlcjaaDoor.V
open Go Go.VC
variable {w w' w0 : World} {l o : Slc} {bits : List Bool} {d : Nat}

theorem elI : El Tryd.prog 37 3 1 8 := El.of (by kernel_rfl) (by kernel_rfl)

end Go.Proofs.YtomajpihimlcjaaDoor.V

namespace Go.VC
open Go
abbrev U16 (x : Nat) : Value := .int .u16 (x : Int)
/-- The ones of the span ahead of each word. -/
def nearAt (bits : List Bool) (k : Nat) : Nat := cnt (bg bits) (64 * k) - cnt (bg bits) (512 * (k / 8))
def nearOf (bits : List Bool) : List Nat := (List.range ((bits.length + 63) / 64)).map (nearAt bits)
theorem nearAt_le (bits : List Bool) (k : Nat) : nearAt bits k ≤ 512 ∧ cnt (bg bits) (512 * (k / 8)) + nearAt bits k = cnt (bg bits) (64 * k) := by
  have h := cnt_mono (bg bits) (m := 512 * (k / 8)) (n := 64 * k) (by omega)
  unfold nearAt
  obtain ⟨j, hj⟩ : ∃ j, 64 * k = 512 * (k / 8) + j := ⟨64 * k - 512 * (k / 8), by omega⟩
  have h2 := cnt_le (fun i => bg bits (512 * (k / 8) + i)) j
  rw [hj, cnt_add] at h ⊢
  omega
end Go.VC
namespace Go.Proofs.YtomajpihimlcjaaDoor.V
open Go Go.VC
variable {w w' w0 : World} {l o lw lm ln rl : Slc} {bits : List Bool} {d r : Nat} {ms ns : List Nat}

/-- A directory under way: its words, the marks and the near counts so far. -/
structure Ns (w0 : World) (d : Nat) (lw lm ln : Slc) (bits : List Bool) (w : World) (ms ns : List Nat) : Prop where
  blk : Blk w d [.slice lw.a lw.len lw.cap, .slice lm.a lm.len lm.cap, .slice ln.a ln.len ln.cap, .int .i64 (bits.length : Int)] 155
  ow : Ownd w lw 22 1 ((wordsOf bits).map U)
  om : Ownd w lm 3 1 (ms.map IV)
  on : Ownd w ln 156 1 (ns.map U16)
  hd : ¬ On lw d ∧ ¬ On lm d ∧ ¬ On ln d
  dm : ∀ k, On lm k → ¬ On lw k ∧ ¬ On ln k
  dn : ∀ k, On ln k → ¬ On lw k
  kp : Kp no w0 w
  fr : w0.heap.size ≤ d ∧ (∀ k, On lw k → w0.heap.size ≤ k) ∧ (∀ k, On lm k → w0.heap.size ≤ k) ∧ (∀ k, On ln k → w0.heap.size ≤ k)

theorem Ns.kpo (h : Ns w0 d lw lm ln bits w ms ns) (g : Kp no w w') : Ns w0 d lw lm ln bits w' ms ns :=
  ⟨h.blk.kp g (fun f => f), h.ow.kp g (fun _ _ f => f), h.om.kp g (fun _ _ f => f), h.on.kp g (fun _ _ f => f), h.hd, h.dm, h.dn, h.kp.trans g (fun _ _ f => f), h.fr⟩
theorem Ns.mlen (h : Ns w0 d lw lm ln bits w ms ns) : ms.length = lm.len := by have := h.om.len; simpa using this
theorem Ns.nlen (h : Ns w0 d lw lm ln bits w ms ns) : ns.length = ln.len := by have := h.on.len; simpa using this

/-- One mark more. -/
theorem Ns.mark (h : Ns w0 d lw lm ln bits w ms ns) (x : Nat) (hb : ms.length ≤ 1099511627776) :
    ∃ w2 o2, (Builtin.append_ #[37, 37] 37 #[.slice lm.a lm.len lm.cap, .slice (some ⟨w.heap.size, 0, none⟩) 1 1]).run Tryd.prog (w.alloc (.cells #[IV x] 3)) = .ok (.slice o2.a o2.len o2.cap) w2 ∧
      (∃ u, w2.cell? (Addr.add ⟨d, 0, none⟩ 1) = some u) ∧ w2.frozen? (Addr.add ⟨d, 0, none⟩ 1) = false ∧ Ns w0 d lw o2 ln bits (w2.setCell (Addr.add ⟨d, 0, none⟩ 1) (.slice o2.a o2.len o2.cap)) (ms ++ [x]) ns := by
  have hml := h.mlen
  obtain ⟨w2, o2, hr2, ho2, hl2, hk2, hf2⟩ := append_one (ty := 37) elI h.om (IV x) rfl (by simp only [maxLen]; omega) (by omega)
  have hb2 := h.blk.kp hk2 h.hd.2.1
  have hd := h.blk.lt
  have hw := h.ow.kp hk2 (fun k hk g => (h.dm k g).1 hk)
  have hn := h.on.kp hk2 (fun k hk g => (h.dm k g).2 hk)
  have hne : ¬ On o2 d := fun hk => by
    rcases hf2 d hk with g | g
    · exact h.hd.2.1 g
    · omega
  refine ⟨w2, o2, hr2, ⟨_, hb2.cell 1⟩, hb2.frozen 1, ⟨hb2.set 1 _, hw.set_other _ _ (by rw [add_block]; exact h.hd.1), ?_, hn.set_other _ _ (by rw [add_block]; exact h.hd.2.2), ⟨h.hd.1, hne, h.hd.2.2⟩, fun k hk => ?_, h.dn, ?_, ?_⟩⟩
  · rw [map_snocI] at ho2
    exact ho2.set_other _ _ (by rw [add_block]; exact hne)
  · rcases hf2 k hk with g | g
    · exact h.dm k g
    · exact ⟨fun q => by have := h.ow.on q; omega, fun q => by have := h.on.on q; omega⟩
  · have h0 := h.fr.1
    exact (h.kp.trans hk2 (fun k hk hkk => by have := h.fr.2.2.1 k hkk; omega)).set _ _ (fun q => by rw [add_block] at q; simp only at q; omega)
  · have := h.kp.size
    refine ⟨h.fr.1, h.fr.2.1, fun k hk => ?_, h.fr.2.2.2⟩
    rcases hf2 k hk with g | g
    · exact h.fr.2.2.1 k g
    · omega

/-- One near count set. -/
theorem Ns.near (h : Ns w0 d lw lm ln bits w ms ns) {k : Nat} (hk : k < ns.length) (x : Nat) :
    ∃ a, ln.a = some a ∧ (∃ u, w.cell? (Addr.add a (((k : Nat) : Int).toNat * 1)) = some u) ∧ w.frozen? (Addr.add a (((k : Nat) : Int).toNat * 1)) = false ∧
      Ns w0 d lw lm ln bits (w.setCell (Addr.add a (((k : Nat) : Int).toNat * 1)) (U16 x)) ms (ns.set k x) := by
  obtain ⟨a, ha, hc, hf, hset⟩ := h.on.at (i := k) (by rw [List.length_map]; exact hk)
  rw [Int.toNat_natCast, Nat.mul_one]
  have hon : On ln a.block := ⟨a, ha, rfl⟩
  refine ⟨a, ha, ⟨_, hc⟩, hf, ⟨h.blk.set_other _ _ (by rw [add_block]; exact fun e => h.hd.2.2 (e ▸ hon)), h.ow.set_other _ _ (by rw [add_block]; exact h.dn _ hon), h.om.set_other _ _ (by rw [add_block]; exact fun q => (h.dm _ q).2 hon), ?_, h.hd, h.dm, h.dn, ?_, h.fr⟩⟩
  · have := hset (U16 x)
    rw [← List.map_set] at this
    exact this
  · exact h.kp.set _ _ (fun q => by rw [add_block] at q; have := h.fr.2.2.2 _ hon; omega)

/-- A directory of ranks. -/
structure DirAt (w : World) (d : Nat) (lw lm ln : Slc) (bits : List Bool) : Prop where
  blk : Blk w d [.slice lw.a lw.len lw.cap, .slice lm.a lm.len lm.cap, .slice ln.a ln.len ln.cap, .int .i64 (bits.length : Int)] 155
  words : RdW w lw (wordsOf bits)
  marks : RdI w lm (marksOf bits)
  nlen : (nearOf bits).length = ln.len
  near : Rd w ln ((nearOf bits).map U16)
/-- The blocks of a directory. -/
def DF (d : Nat) (lw lm ln : Slc) (k : Nat) : Prop := k = d ∨ On lw k ∨ On lm k ∨ On ln k
theorem DirAt.kp {S : Nat → Prop} (h : DirAt w d lw lm ln bits) (g : Kp S w w') (hn : ∀ k, DF d lw lm ln k → ¬ S k) : DirAt w' d lw lm ln bits :=
  ⟨h.blk.kp g (hn d (.inl rfl)), h.words.kp g (fun k hk => hn k (.inr (.inl hk))), h.marks.kp g (fun k hk => hn k (.inr (.inr (.inl hk)))), h.nlen, h.near.kp g (fun k hk => hn k (.inr (.inr (.inr hk))))⟩

theorem dLen (h : DirAt w d lw lm ln bits) : Is 136 #[.pointer (some ⟨d, 0, none⟩)] w (.int .i64 bits.length) := by
  refine c136 _ _ _ ?_
  unfold B136
  exact ⟨_, h.blk.cell 3, rfl, rfl⟩
theorem dRank (h : DirAt w d lw lm ln bits) (hsz : bits.length ≤ 1099511627776) (i : Int) : IsK 89 #[.pointer (some ⟨d, 0, none⟩), .int .i64 i] w (.int .i64 (cnt (bg bits) (clampL bits i) : Nat)) := by
  refine c89 _ _ _ _ ?_
  unfold B89
  have hml := h.marks.len
  rw [marksOf_len] at hml
  have hwl := h.words.len
  rw [length_wordsOf] at hwl
  have hnl := h.nlen
  have hnl2 : (nearOf bits).length = (bits.length + 63) / 64 := by simp [nearOf]
  have z : clampL bits i = 0 → (Value.int .i64 0 = .int .i64 (cnt (bg bits) (clampL bits i) : Nat) ∧ Kp no w w) := fun e => by rw [e]; exact ⟨rfl, Kp.refl _ _⟩
  refine br_dec (fun h1 => z (by unfold clampL; omega)) (fun h1 => ⟨_, h.blk.cell 3, br_dec (fun h2 => z (by unfold clampL; omega)) (fun h2 => ⟨_, h.blk.cell 3, ?_⟩)⟩)
  have kd : Kp no w w.drew := (Kp.refl _ _).drew
  have hD := h.kp kd (fun _ _ f => f)
  refine br_dec (fun h3 => ?_) (fun h3 => ?_)
  · have e1 : IntKind.i64.wrap ((lm.len : Int) - 1) = (((bits.length + 511) / 512 : Nat) : Int) := by rw [w64 ⟨by omega, by omega⟩]; omega
    obtain ⟨a, ha, hc⟩ := hD.marks.at (i := (((bits.length + 511) / 512 : Nat) : Int)) (by omega) (by omega)
    refine ⟨lm, hD.blk.cell 1, lm, hD.blk.cell 1, ?_⟩
    rw [e1]
    refine ⟨by omega, by omega, a, ha, _, hc, ?_, kd⟩
    have hcl : clampL bits i = bits.length := by unfold clampL; omega
    rw [hcl, Int.toNat_natCast, marksOf_last]
  · obtain ⟨k, rfl⟩ : ∃ k : Nat, i = k := ⟨i.toNat, by omega⟩
    have hcl : clampL bits (k : Int) = k := by unfold clampL; omega
    rw [hcl, Int.tdiv_eq_ediv_of_nonneg (by omega), Int.tdiv_eq_ediv_of_nonneg (by omega), Int.tmod_eq_emod_of_nonneg (by omega), w64 (x := (k : Int) / 512) ⟨by omega, by omega⟩, w64 (x := (k : Int) / 64) ⟨by omega, by omega⟩]
    obtain ⟨a, ha, hc⟩ := hD.marks.at (i := (k : Int) / 512) (by omega) (by omega)
    obtain ⟨b, hb, hcb⟩ := hD.words.at (i := (k : Int) / 64) (by omega) (by omega)
    obtain ⟨c, hc1, hc2⟩ := hD.near (k / 64) (by rw [List.length_map]; omega)
    have hc3 : w.drew.cell? (Addr.add c (((k : Int) / 64).toNat * 1)) = some (U16 (nearAt bits (k / 64))) := by
      rw [show ((k : Int) / 64).toNat * 1 = k / 64 by omega, hc2]
      simp [nearOf, show k / 64 < (bits.length + 63) / 64 by omega]
    refine ⟨lm, hD.blk.cell 1, by omega, by omega, by omega, a, ha, _, hc, ln, hD.blk.cell 2, by omega, by omega, by omega, c, hc1, _, hc3, lw, hD.blk.cell 0, by omega, by omega, by omega, b, hb, _, hcb, by omega, ?_⟩
    rw [show ((k : Int) / 64).toNat = k / 64 by omega, show ((k : Int) / 512).toNat = k / 512 by omega, wg_wordsOf, marksOf_at (by omega)]
    refine usei (rank w.drew _ (wordOf_lt bits _) _) ⟨_, rfl, ?_, hD.blk.cell 2, ?_, hD.blk.cell 1, ?_, kd⟩
    · rw [show ((k : Int) / 64).toNat = k / 64 by omega] at hc3; exact hc3
    · rw [show ((k : Int) / 512).toNat = k / 512 by omega, marksOf_at (by omega)] at hc; exact hc
    · have hcw : clampW ((k : Int) % 64) = k % 64 := by unfold clampW; omega
      rw [hcw]
      obtain ⟨n1, n2⟩ := nearAt_le bits (k / 64)
      have n3 : cnt (wordOf bits (k / 64)).testBit (k % 64) = cnt (fun i => bg bits (64 * (k / 64) + i)) (k % 64) := cnt_congr fun i hi => testBit_wordOf bits _ i (by omega)
      have n4 := cnt_add (bg bits) (64 * (k / 64)) (k % 64)
      rw [show 64 * (k / 64) + k % 64 = k by omega] at n4
      have n5 := cnt_le (bg bits) k
      rw [show k / 64 / 8 = k / 512 by omega] at n2
      rw [n3, w64 (x := ((nearAt bits (k / 64) : Nat) : Int)) ⟨by omega, by omega⟩, w64 (x := ((cnt (bg bits) (512 * (k / 512)) : Nat) : Int) + ((nearAt bits (k / 64) : Nat) : Int)) ⟨by omega, by omega⟩, w64 ⟨by omega, by omega⟩]
      congr 1
      omega
end Go.Proofs.YtomajpihimlcjaaDoor.V

namespace Go.Proofs.YtomajpihimlcjaaDoor.V
open Go Go.VC
variable {w w' w0 : World} {l o lw lm ln rl : Slc} {bits : List Bool} {d r : Nat} {ms ns : List Nat}

theorem und16 : Tryd.prog.underlying 153 = some (.slice 156) := by kernel_rfl
theorem wu16 {x : Int} (h : 0 ≤ x ∧ x ≤ 65535) : IntKind.u16.wrap x = x := by
  simp only [IntKind.wrap, IntKind.bits, IntKind.signed]; simp; omega

theorem Ns.toDir (h : Ns w0 d lw lm ln bits w (marksOf bits) (nearOf bits)) : DirAt w d lw lm ln bits :=
  ⟨h.blk, h.ow.rdW (fun _ hx => wordsOf_lt hx), h.om.rdI, h.nlen, h.on.rd⟩

/-- The near counts so far, the rest zero. -/
def nearTo (bits : List Bool) (k : Nat) : List Nat := (List.range ((bits.length + 63) / 64)).map fun j => if j < k then nearAt bits j else 0
theorem nearTo_zero (bits : List Bool) : nearTo bits 0 = List.replicate ((bits.length + 63) / 64) 0 := by
  unfold nearTo
  apply List.ext_getElem <;> simp
theorem nearTo_end (bits : List Bool) {k : Nat} (h : (bits.length + 63) / 64 ≤ k) : nearTo bits k = nearOf bits := by
  unfold nearTo nearOf
  apply List.map_congr_left
  intro j hj
  rw [if_pos (by have := List.mem_range.1 hj; omega)]
theorem nearTo_set (bits : List Bool) (k : Nat) : (nearTo bits k).set k (nearAt bits k) = nearTo bits (k + 1) := by
  unfold nearTo
  apply List.ext_getElem
  · simp
  · intro j h1 h2
    rw [List.getElem_set]
    simp only [List.getElem_map, List.getElem_range]
    by_cases e : k = j
    · subst e; simp
    · rw [if_neg e]
      by_cases g : j < k
      · rw [if_pos g, if_pos (by omega)]
      · rw [if_neg g, if_neg (by omega)]

theorem dNew (h : Row w r rl bits) (hsz : bits.length ≤ 1000000000) : Calls Tryd.prog 84 #[.pointer (some ⟨r, 0, none⟩)] w (Rv fun v w' => ∃ d lw lm ln, v = .pointer (some ⟨d, 0, none⟩) ∧ DirAt w' d lw lm ln bits ∧ Kp no w w' ∧ ∀ k, DF d lw lm ln k → w.heap.size ≤ k) := by
  refine c84 _ _ _ ?_
  unfold B84
  have hwl := length_wordsOf bits
  refine use (words1 h (by omega)) ?_
  rintro _ w1 ⟨lw, rfl, hO, k1, f1⟩
  have hlw : lw.len = (bits.length + 63) / 64 := by have := hO.len; simp at this; omega
  refine ⟨lw, rfl, usei (len1 (h.kp k1 (fun _ _ f => f))) ⟨_, rfl, ?_⟩⟩
  have kA : Kp no w1 (w1.alloc (.cells #[.slice lw.a lw.len lw.cap, .slice none 0 0, .slice none 0 0, .int .i64 (bits.length : Int)] 155)) := (Kp.refl _ _).alloc _ _
  have bA : Blk (w1.alloc (.cells #[.slice lw.a lw.len lw.cap, .slice none 0 0, .slice none 0 0, .int .i64 (bits.length : Int)] 155)) w1.heap.size [.slice lw.a lw.len lw.cap, .slice (⟨none, 0, 0⟩ : Slc).a (⟨none, 0, 0⟩ : Slc).len (⟨none, 0, 0⟩ : Slc).cap, .slice (⟨none, 0, 0⟩ : Slc).a (⟨none, 0, 0⟩ : Slc).len (⟨none, 0, 0⟩ : Slc).cap, .int .i64 (bits.length : Int)] 155 := Blk.new _ _ _
  have sA : (w1.alloc (.cells #[.slice lw.a lw.len lw.cap, .slice none 0 0, .slice none 0 0, .int .i64 (bits.length : Int)] 155)).heap.size = w1.heap.size + 1 := World.size_alloc _ _
  have OA := hO.kp kA (fun _ _ f => f)
  generalize w1.alloc (.cells #[.slice lw.a lw.len lw.cap, .slice none 0 0, .slice none 0 0, .int .i64 (bits.length : Int)] 155) = w2 at *
  have hs1 := k1.size
  have kw2 := k1.trans kA (fun _ _ f => f)
  obtain ⟨w3, ln, hr3, hl3, hO3, k3, f3⟩ := make_own (z := .int .u16 0) (bytes := 2) und16 (by kernel_rfl) (by kernel_rfl) rfl w2 lw.len (by omega) (by omega)
  have b3 := bA.kp k3 id
  refine ⟨lw, bA.cell 0, w3, ln, hr3, ⟨_, b3.cell 2⟩, b3.frozen 2, ?_⟩
  have hlwd : ¬ On lw w1.heap.size := fun q => by have := hO.on q; omega
  have hlnd : ∀ k, On ln k → k = w2.heap.size := f3
  have N0 : Ns w w1.heap.size lw ⟨none, 0, 0⟩ ln bits (w3.setCell (Addr.add ⟨w1.heap.size, 0, none⟩ 2) (.slice ln.a ln.len ln.cap)) [] (nearTo bits 0) := by
    refine ⟨b3.set 2 _, (OA.kp k3 (fun _ _ f => f)).set_other _ _ (by rw [add_block]; exact hlwd), Ownd.nil _ _ _, ?_, ⟨hlwd, On.nil, fun q => by have := hlnd _ q; omega⟩, fun k hk => absurd hk On.nil, fun k hk q => ?_, ?_, ⟨hs1, f1, fun k hk => absurd hk On.nil, fun k hk => ?_⟩⟩
    · rw [nearTo_zero, ← hlw, List.map_replicate]
      exact hO3.set_other _ _ (by rw [add_block]; intro q; have := hlnd _ q; simp only at this; omega)
    · have := hlnd k hk; have := hO.on q; omega
    · exact (kw2.trans k3 (fun _ _ f => f)).set _ _ (fun q => by rw [add_block] at q; simp only at q; omega)
    · have := hlnd k hk; omega
  generalize w3.setCell (Addr.add ⟨w1.heap.size, 0, none⟩ 2) (.slice ln.a ln.len ln.cap) = w4 at *
  refine ⟨lw, N0.blk.cell 0, fun al he k w' => ∃ (m : Nat) (lm : Slc), k = m ∧ m ≤ lw.len ∧ Ns w w1.heap.size lw lm ln bits w' ((List.range ((m + 7) / 8)).map fun j => cnt (bg bits) (512 * j)) (nearTo bits m) ∧ al = (cnt (bg bits) (64 * m) : Nat) ∧ (m % 8 ≠ 0 → he = (nearAt bits m : Nat)),
    fun _ _ k _ => (lw.len - k).toNat, ⟨0, ⟨none, 0, 0⟩, rfl, by omega, N0, rfl, fun h => absurd rfl h⟩, ?_⟩
  rintro al he k w5 ⟨m, lm, rfl, hm, hN, rfl, hhe⟩
  have c1 := cnt_le (bg bits) (64 * m)
  refine br_dec (fun hlt => ⟨by omega, ?_⟩) (fun hlt => ?_)
  · have hmw : m < (bits.length + 63) / 64 := by omega
    have hpc : pc (wordOf bits m) ≤ 64 := cnt_le _ _
    have hstep : cnt (bg bits) (64 * (m + 1)) = cnt (bg bits) (64 * m) + pc (wordOf bits m) := by
      rw [show 64 * (m + 1) = 64 * m + 64 by omega, cnt_add]
      have : pc (wordOf bits m) = cnt (fun i => bg bits (64 * m + i)) 64 := cnt_congr fun i hi => testBit_wordOf bits m i hi
      rw [this]
    have hnl : (nearTo bits m).length = (bits.length + 63) / 64 := by simp [nearTo]
    have wdat : ∀ {w6 : World} {lm2 : Slc} {ms2 ns2 : List Nat}, Ns w w1.heap.size lw lm2 ln bits w6 ms2 ns2 → ∃ a, lw.a = some a ∧ w6.cell? (Addr.add a (((m : Nat) : Int).toNat * 1)) = some (U (wordOf bits m)) := fun q => by
      obtain ⟨a, ha, hc⟩ := (q.ow.rdW (fun _ hx => wordsOf_lt hx)).at (i := (m : Int)) (by omega) (by omega)
      rw [Int.toNat_natCast m, wg_wordsOf] at hc
      exact ⟨a, ha, by rw [Int.toNat_natCast]; exact hc⟩
    rw [Int.tmod_eq_emod_of_nonneg (by omega)]
    refine br_dec (fun h8 => ⟨lm, hN.blk.cell 1, ?_⟩) (fun h8 => ⟨ln, hN.blk.cell 2, by omega, by omega, ?_⟩)
    · obtain ⟨w6, o6, hr6, hu6, hf6, hN6⟩ := hN.mark (cnt (bg bits) (64 * m)) (by simp; omega)
      refine ⟨w6, o6, hr6, hu6, hf6, ln, hN6.blk.cell 2, by omega, by omega, ?_⟩
      obtain ⟨a, ha, hua, hfa, hN7⟩ := hN6.near (k := m) (by omega) 0
      refine ⟨a, ha, hua, hfa, ?_⟩
      have hz : nearAt bits m = 0 := by unfold nearAt; rw [show 512 * (m / 8) = 64 * m by omega]; omega
      have hset := nearTo_set bits m
      rw [hz] at hset
      rw [hset] at hN7
      have hms : ((List.range ((m + 7) / 8)).map fun j => cnt (bg bits) (512 * j)) ++ [cnt (bg bits) (64 * m)] = (List.range ((m + 1 + 7) / 8)).map fun j => cnt (bg bits) (512 * j) := by
        rw [show (m + 1 + 7) / 8 = (m + 7) / 8 + 1 by omega, List.range_succ, List.map_append]
        simp [show 512 * ((m + 7) / 8) = 64 * m by omega]
      rw [hms] at hN7
      rw [wu16 (x := (0 : Int)) ⟨by omega, by omega⟩]
      obtain ⟨b, hb, hcb⟩ := wdat hN7
      refine ⟨lw, hN7.blk.cell 0, by omega, by omega, b, hb, _, hcb, usei (ones _ _ (wordOf_lt bits m)) ⟨_, rfl, ?_⟩⟩
      rw [w64 (x := ((cnt (bg bits) (64 * m) : Nat) : Int) + ((pc (wordOf bits m) : Nat) : Int)) ⟨by omega, by omega⟩, w64 (x := 0 + ((pc (wordOf bits m) : Nat) : Int)) ⟨by omega, by omega⟩, w64 (x := (m : Int) + 1) ⟨by omega, by omega⟩]
      refine ⟨⟨m + 1, o6, by omega, by omega, hN7, by omega, fun _ => ?_⟩, by dsimp only; omega⟩
      have n2 := (nearAt_le bits (m + 1)).2
      rw [show 512 * ((m + 1) / 8) = 64 * m by omega] at n2
      omega
    · have hh := hhe (by omega)
      obtain ⟨n1, n2⟩ := nearAt_le bits m
      obtain ⟨a, ha, hua, hfa, hN7⟩ := hN.near (k := m) (by omega) (nearAt bits m)
      rw [hh, wu16 ⟨by omega, by omega⟩]
      refine ⟨a, ha, hua, hfa, ?_⟩
      rw [nearTo_set] at hN7
      have hms : (m + 7) / 8 = (m + 1 + 7) / 8 := by omega
      rw [hms] at hN7
      obtain ⟨b, hb, hcb⟩ := wdat hN7
      refine ⟨lw, hN7.blk.cell 0, by omega, by omega, b, hb, _, hcb, usei (ones _ _ (wordOf_lt bits m)) ⟨_, rfl, ?_⟩⟩
      rw [w64 (x := ((cnt (bg bits) (64 * m) : Nat) : Int) + ((pc (wordOf bits m) : Nat) : Int)) ⟨by omega, by omega⟩, w64 (x := ((nearAt bits m : Nat) : Int) + ((pc (wordOf bits m) : Nat) : Int)) ⟨by omega, by omega⟩, w64 (x := (m : Int) + 1) ⟨by omega, by omega⟩]
      refine ⟨⟨m + 1, lm, by omega, by omega, hN7, by omega, fun h9 => ?_⟩, by dsimp only; omega⟩
      have n3 := (nearAt_le bits (m + 1)).2
      rw [show (m + 1) / 8 = m / 8 by omega] at n3
      omega
  · have hme : m = lw.len := by omega
    subst hme
    obtain ⟨w6, o6, hr6, hu6, hf6, hN6⟩ := hN.mark (cnt (bg bits) (64 * lw.len)) (by simp; omega)
    refine ⟨lm, hN.blk.cell 1, w6, o6, hr6, hu6, hf6, _, lw, o6, ln, rfl, ?_, hN6.kp, fun k hk => ?_⟩
    · have hms : ((List.range ((lw.len + 7) / 8)).map fun j => cnt (bg bits) (512 * j)) ++ [cnt (bg bits) (64 * lw.len)] = marksOf bits := by
        unfold marksOf
        rw [cnt_end (show bits.length ≤ 64 * lw.len by omega), show (lw.len + 7) / 8 = (bits.length + 511) / 512 by omega]
      rw [hms, nearTo_end bits (by omega)] at hN6
      exact hN6.toDir
    · rcases hk with rfl | hk | hk | hk
      · exact hN6.fr.1
      · exact hN6.fr.2.1 k hk
      · exact hN6.fr.2.2.1 k hk
      · exact hN6.fr.2.2.2 k hk

theorem dZeros (h : DirAt w d lw lm ln bits) (hsz : bits.length ≤ 1099511627776) (i : Int) : IsK 93 #[.pointer (some ⟨d, 0, none⟩), .int .i64 i] w (.int .i64 (((clampL bits i : Nat) : Int) - (cnt (bg bits) (clampL bits i) : Nat))) := by
  refine c93 _ _ _ _ ?_
  unfold B93
  have hc := cnt_le (bg bits) (clampL bits i)
  have hcl : clampL bits i ≤ bits.length := by unfold clampL; omega
  refine usei (dLen h) ⟨_, rfl, usek (dRank h hsz i) fun w' k => ⟨_, rfl, ?_, k⟩⟩
  have e : min (max i 0) (bits.length : Int) = (clampL bits i : Nat) := by unfold clampL; omega
  rw [e, w64 ⟨by omega, by omega⟩]
end Go.Proofs.YtomajpihimlcjaaDoor.V

namespace Go.VC
open Go
/-- One behind the other, again and again. -/
def cwBits (ws : List Nat) (t : Nat) : List Bool := (List.replicate t (ws.flatMap fun x => lowb x 64)).flatten
theorem cwBits_succ (ws : List Nat) (t : Nat) : cwBits ws (t + 1) = cwBits ws t ++ ws.flatMap fun x => lowb x 64 := by
  unfold cwBits; rw [List.replicate_succ', List.flatten_append]; simp
theorem lowb_len (x n : Nat) : (lowb x n).length = n := by simp [lowb]
theorem flat_len (ws : List Nat) : (ws.flatMap fun x => lowb x 64).length = 64 * ws.length := by
  induction ws with
  | nil => rfl
  | cons x ws ih => simp only [List.flatMap_cons, List.length_append, ih, lowb_len, List.length_cons]; omega
theorem cwBits_len (ws : List Nat) (t : Nat) : (cwBits ws t).length = t * (64 * ws.length) := by
  induction t with
  | zero => simp [cwBits]
  | succ t ih => rw [cwBits_succ, List.length_append, ih, flat_len, Nat.add_mul, Nat.one_mul]
theorem flat_take {ws : List Nat} {i : Nat} (hi : i < ws.length) : ((ws.take (i + 1)).flatMap fun x => lowb x 64) = ((ws.take i).flatMap fun x => lowb x 64) ++ lowb (wg ws i) 64 := by
  have : wg ws i = ws[i] := by unfold wg; rw [List.getElem?_eq_getElem hi]; rfl
  rw [this, List.take_add_one, List.getElem?_eq_getElem hi, List.flatMap_append]
  simp
/-- The bits of a case. -/
def caseBits (ws : List Nat) (t m n : Nat) : List Bool := cwBits ws t ++ lowb m n
theorem caseBits_len (ws : List Nat) (t m n : Nat) : (caseBits ws t m n).length = t * (64 * ws.length) + n := by
  unfold caseBits; rw [List.length_append, cwBits_len, lowb_len]
theorem caseBits_le {ws : List Nat} {t m n : Nat} (h1 : ws.length ≤ 6) (h2 : t ≤ 40) (h3 : n ≤ 64) : (caseBits ws t m n).length ≤ 15424 := by
  rw [caseBits_len]
  have := Nat.mul_le_mul h2 (Nat.mul_le_mul_left 64 h1)
  omega
theorem lowb_mod (m n : Nat) : lowb (m % 2 ^ n) n = lowb m n := by
  unfold lowb
  apply List.map_congr_left
  intro i hi
  rw [Nat.testBit_mod_two_pow]; simp [List.mem_range.1 hi]
theorem bitLen_le_of_lt {x k : Nat} (h : x < 2 ^ k) (hx : x < 18446744073709551616) : Lib.bitLen x ≤ k := by
  induction k generalizing x with
  | zero =>
    have : x = 0 := by simpa using h
    subst this; decide
  | succ k ih =>
    by_cases h0 : x = 0
    · subst h0; exact Nat.zero_le _
    · have h1 := Lib.bitLen_half x h0 (by simpa using hx)
      have := ih (x := x / 2) (by rw [Nat.pow_succ] at h; omega) (by omega)
      omega
end Go.VC

namespace Go.Proofs.YtomajpihimlcjaaDoor.V
open Go Go.VC
variable {w w' w0 : World} {l : Slc} {bits : List Bool} {ws : List Nat} {d r B t m n : Nat}

theorem cutW_zero (m n : Nat) (hn : n ≤ 64) : cutW m 0 n = m % 2 ^ n := by
  unfold cutW
  have : clampW (n : Int) = n := by unfold clampW; omega
  rw [this, ← ofB_testBit]
  refine ofB_congr fun i _ => ?_
  unfold bitZ
  rw [show ((0 : Int) + (i : Int)).toNat = i by omega]; simp
theorem addS_ok {bits : List Bool} {x n : Nat} (hn : n ≤ 64) (hx : x < 2 ^ n) (h64 : x < 18446744073709551616) : addS bits x (n : Int) = (0, bits ++ lowb x n) := by
  have := bitLen_le_of_lt hx h64
  unfold addS
  rw [if_neg (by omega), if_neg (by omega)]
  simp
/-- A row whose blocks begin at B. -/
def RowB (w : World) (r : Nat) (bits : List Bool) (B : Nat) : Prop := ∃ l, Row w r l bits ∧ ∀ k, RF r l k → B ≤ k
theorem RowB.kp {S : Nat → Prop} (h : RowB w r bits B) (g : Kp S w w') (hn : ∀ k, B ≤ k → k < w.heap.size → ¬ S k) : RowB w' r bits B := by
  obtain ⟨l, h, hb⟩ := h
  exact ⟨l, h.kp g (fun k hk => hn k (hb k hk) (h.lt hk)), hb⟩
theorem RowB.kpo (h : RowB w r bits B) (g : Kp no w w') : RowB w' r bits B := h.kp g (fun _ _ _ f => f)
theorem RowB.row (h : RowB w r bits B) : ∃ l, Row w r l bits := ⟨_, h.choose_spec.1⟩

theorem newB (w : World) : Calls Tryd.prog 82 #[] w (Rv fun v w' => ∃ r, v = .pointer (some ⟨r, 0, none⟩) ∧ RowB w' r [] w.heap.size ∧ Kp no w w') :=
  use (new w) (by
    rintro _ w' ⟨rfl, h, k⟩
    refine ⟨_, rfl, ⟨_, h, fun j hj => ?_⟩, k⟩
    rcases hj with rfl | hj
    · exact Nat.le_refl _
    · exact absurd hj On.nil)

theorem addB (h : RowB w r bits B) (hB : B ≤ w.heap.size) (hsz : bits.length ≤ 549755813888) (x : Nat) (hx : x < 18446744073709551616) (n : Int) :
    Calls Tryd.prog 22 #[.pointer (some ⟨r, 0, none⟩), .int .u64 x, .int .i64 n] w (Rv fun v w' => v = .int .i64 (addS bits x n).1 ∧ RowB w' r (addS bits x n).2 B ∧ Kp (fun k => B ≤ k) w w') := by
  obtain ⟨l, h, hb⟩ := h
  refine use (add1 h hsz x hx n) ?_
  rintro _ w' ⟨o, rfl, h', k, f⟩
  refine ⟨rfl, ⟨o, h', fun j hj => ?_⟩, k.mono (fun j _ hj => hb j hj)⟩
  rcases hj with rfl | hj
  · exact hb _ (.inl rfl)
  · rcases f j hj with g | g
    · exact hb j (.inr g)
    · omega

/-- A directory of ranks whose blocks begin at B. -/
def DirB (w : World) (d : Nat) (bits : List Bool) (B : Nat) : Prop := ∃ lw lm ln, DirAt w d lw lm ln bits ∧ ∀ k, DF d lw lm ln k → B ≤ k
theorem DirB.kp {S : Nat → Prop} (h : DirB w d bits B) (g : Kp S w w') (hn : ∀ k, B ≤ k → ¬ S k) : DirB w' d bits B := by
  obtain ⟨lw, lm, ln, h, hb⟩ := h
  exact ⟨lw, lm, ln, h.kp g (fun k hk => hn k (hb k hk)), hb⟩
theorem DirB.kpo (h : DirB w d bits B) (g : Kp no w w') : DirB w' d bits B := h.kp g (fun _ _ f => f)

theorem lenB (h : DirB w d bits B) : Is 136 #[.pointer (some ⟨d, 0, none⟩)] w (.int .i64 bits.length) := by
  obtain ⟨lw, lm, ln, h, _⟩ := h; exact dLen h
theorem rankB (h : DirB w d bits B) (hsz : bits.length ≤ 1099511627776) (i : Int) : IsK 89 #[.pointer (some ⟨d, 0, none⟩), .int .i64 i] w (.int .i64 (cnt (bg bits) (clampL bits i) : Nat)) := by
  obtain ⟨lw, lm, ln, h, _⟩ := h; exact dRank h hsz i
theorem zerosB (h : DirB w d bits B) (hsz : bits.length ≤ 1099511627776) (i : Int) : IsK 93 #[.pointer (some ⟨d, 0, none⟩), .int .i64 i] w (.int .i64 (((clampL bits i : Nat) : Int) - (cnt (bg bits) (clampL bits i) : Nat))) := by
  obtain ⟨lw, lm, ln, h, _⟩ := h; exact dZeros h hsz i
theorem rNewB (h : RowB w r bits B) (hsz : bits.length ≤ 1000000000) : Calls Tryd.prog 84 #[.pointer (some ⟨r, 0, none⟩)] w (Rv fun v w' => ∃ d, v = .pointer (some ⟨d, 0, none⟩) ∧ DirB w' d bits w.heap.size ∧ Kp no w w') := by
  obtain ⟨l, h, _⟩ := h
  refine use (dNew h hsz) ?_
  rintro _ w' ⟨d, lw, lm, ln, rfl, hd, hk, hf⟩
  exact ⟨d, rfl, ⟨lw, lm, ln, hd, hf⟩, hk⟩

/-! ### the cases -/
abbrev caseV (l : Slc) (t m n : Nat) : Value := .agg #[.slice l.a l.len l.cap, .int .u8 (t : Int), .int .u64 (m : Int), .int .u8 (n : Int)]
/-- A case that can be read. -/
structure CaseR (w : World) (l : Slc) (ws : List Nat) (t m n : Nat) : Prop where
  rd : RdW w l ws
  ht : t ≤ 255
  hm : m < 18446744073709551616
  hn : n ≤ 255
theorem CaseR.kp (h : CaseR w l ws t m n) (g : Kp no w w') : CaseR w' l ws t m n := ⟨h.rd.kp g (fun _ _ f => f), h.ht, h.hm, h.hn⟩

theorem small4 (h : CaseR w l ws t m n) : IsK 16 #[caseV l t m n] w (.bool (decide (ws.length ≤ 6 ∧ t ≤ 40 ∧ n ≤ 64))) := by
  refine c16 l t m n _ _ ?_
  unfold B16
  have hb := Blk.new w [.slice l.a l.len l.cap, .int .u8 (t : Int), .int .u64 (m : Int), .int .u8 (n : Int)] 31
  have hk : Kp no w (w.alloc (.cells #[.slice l.a l.len l.cap, .int .u8 (t : Int), .int .u64 (m : Int), .int .u8 (n : Int)] 31)) := (Kp.refl _ _).alloc _ _
  have hl := h.rd.len
  refine ⟨l, hb.cell 0, br_dec (fun h1 => ⟨_, hb.cell 1, br_dec (fun h2 => ⟨_, hb.cell 3, ?_, hk⟩) (fun h2 => ⟨?_, hk⟩)⟩) (fun h1 => ⟨?_, hk⟩)⟩
  · congr 1; rw [decide_eq_decide]; omega
  · rw [decide_eq_false (by omega)]
  · rw [decide_eq_false (by omega)]

theorem row4 (h : CaseR w l ws t m n) (h1 : ws.length ≤ 6) (h2 : t ≤ 40) (h3 : n ≤ 64) :
    Calls Tryd.prog 18 #[caseV l t m n] w (Rv fun v w' => ∃ r, v = .pointer (some ⟨r, 0, none⟩) ∧ RowB w' r (caseBits ws t m n) w.heap.size ∧ Kp no w w') := by
  refine c18 l t m n _ _ ?_
  unfold B18
  have hb0 := Blk.new w [.slice l.a l.len l.cap, .int .u8 (t : Int), .int .u64 (m : Int), .int .u8 (n : Int)] 31
  have hk0 : Kp no w (w.alloc (.cells #[.slice l.a l.len l.cap, .int .u8 (t : Int), .int .u64 (m : Int), .int .u8 (n : Int)] 31)) := (Kp.refl _ _).alloc _ _
  have hs0 : (w.alloc (.cells #[.slice l.a l.len l.cap, .int .u8 (t : Int), .int .u64 (m : Int), .int .u8 (n : Int)] 31)).heap.size = w.heap.size + 1 := World.size_alloc _ _
  have hl := h.rd.len
  generalize w.alloc (.cells #[.slice l.a l.len l.cap, .int .u8 (t : Int), .int .u64 (m : Int), .int .u8 (n : Int)] 31) = w1 at *
  refine use (newB w1) ?_
  rintro _ w2 ⟨r, rfl, hr0, k2⟩
  have hcw : ∀ j, j ≤ 40 → (cwBits ws j).length ≤ 15360 := fun j hj => by
    rw [cwBits_len]
    have := Nat.mul_le_mul hj (Nat.mul_le_mul_left 64 h1)
    omega
  have stp : ∀ {wa wb : World}, Kp no w1 wa → Kp (fun k => w1.heap.size ≤ k) wa wb → Kp no w1 wb := fun ha hb => ha.trans hb (fun k h1 h2 => by omega)
  refine ⟨_, rfl, fun k w' => Kp no w1 w' ∧ ∃ j : Nat, k = j ∧ j ≤ t ∧ RowB w' r (cwBits ws j) w1.heap.size, fun k _ => (t - k).toNat, ⟨k2, 0, rfl, by omega, by simpa [cwBits] using hr0⟩, ?_⟩
  rintro k w3 ⟨k3, j, rfl, hj, hr⟩
  have b3 := hb0.kp k3 id
  refine ⟨_, b3.cell 1, ?_⟩
  rw [w64 (x := (t : Int)) ⟨by omega, by omega⟩]
  refine br_dec (fun hlt => ?_) (fun hlt => ?_)
  · refine ⟨fun i w' => Kp no w1 w' ∧ ∃ p : Nat, i = p ∧ p ≤ ws.length ∧ RowB w' r (cwBits ws j ++ (ws.take p).flatMap fun x => lowb x 64) w1.heap.size, fun i _ => (l.len - i).toNat, ⟨k3, 0, rfl, by omega, by simpa using hr⟩, ?_⟩
    rintro i w4 ⟨k4, p, rfl, hp, hr4⟩
    have b4 := hb0.kp k4 id
    refine ⟨l, b4.cell 0, br_dec (fun hlt2 => ?_) (fun hlt2 => ?_)⟩
    · have hrd := (h.rd.kp (hk0.trans k4 (fun _ _ f => f)) (fun _ _ f => f))
      obtain ⟨a, ha, hc⟩ := hrd.at (i := (p : Int)) (by omega) hlt2
      refine ⟨l, b4.cell 0, by omega, hlt2, a, ha, _, hc, ?_⟩
      rw [Int.toNat_natCast]
      have hx := wg_lt h.rd.lt p
      have hq := hcw j (by omega)
      have hq2 : ((ws.take p).flatMap fun x => lowb x 64).length ≤ 384 := by rw [flat_len, List.length_take]; omega
      refine use (addB hr4 k4.size (by rw [List.length_append]; omega) _ hx 64) ?_
      rintro _ w5 ⟨rfl, hr5, k5⟩
      have hS : addS (cwBits ws j ++ (ws.take p).flatMap fun x => lowb x 64) (wg ws p) 64 = _ := addS_ok (n := 64) (by omega) hx hx
      rw [hS] at hr5
      refine ⟨_, rfl, ?_⟩
      rw [w64 ⟨by omega, by omega⟩]
      refine ⟨⟨stp k4 k5, p + 1, by omega, by omega, ?_⟩, by dsimp only; omega⟩
      rw [flat_take (by omega), ← List.append_assoc]
      exact hr5
    · have hpe : p = ws.length := by omega
      subst hpe
      rw [w64 ⟨by omega, by omega⟩]
      refine ⟨⟨k4, j + 1, by omega, by omega, ?_⟩, by dsimp only; omega⟩
      rw [cwBits_succ]
      rwa [List.take_length] at hr4
  · have hje : j = t := by omega
    subst hje
    have kd : Kp no w1 (World.drew w3) := k3.drew
    have b4 := hb0.kp kd id
    refine ⟨_, b4.cell 2, _, b4.cell 3, _, b4.cell 3, ?_⟩
    rw [w64 (x := (n : Int)) ⟨by omega, by omega⟩]
    refine usei (rcut _ m h.hm 0 n ⟨by omega, by omega⟩) ⟨_, rfl, b4.cell 3, ?_⟩
    rw [cutW_zero m n h3]
    have hx : m % 2 ^ n < 2 ^ n := Nat.mod_lt _ (Nat.two_pow_pos _)
    have hx2 : m % 2 ^ n < 18446744073709551616 := Nat.lt_of_le_of_lt (Nat.mod_le _ _) h.hm
    have hq := hcw j h2
    refine use (addB (hr.kpo ((Kp.refl _ _).drew)) k3.size (by omega) _ hx2 n) ?_
    rintro _ w5 ⟨rfl, hr5, k5⟩
    rw [addS_ok h3 hx hx2, lowb_mod] at hr5
    refine ⟨_, rfl, r, rfl, ?_, hk0.trans (stp kd k5) (fun _ _ f => f)⟩
    obtain ⟨lr, hr6, hb6⟩ := hr5
    exact ⟨lr, hr6, fun k hk => by have := hb6 k hk; omega⟩
end Go.Proofs.YtomajpihimlcjaaDoor.V

namespace Go.VC
open Go Go.ChangeShapes Go.WideShapes Go.Joins Go.Deep
theorem open_caseP {H : Type} {enc : TypeId × Value → H} {P : Program} {w : World} {r : Reach} {b0 : Nat} {t e : TypeId} {f0 f1 f2 f3 : Field} {v : Value} {d : DataW H} {p : List MemPlace}
    (hs : P.underlying t = some (.struct #[f0, f1, f2, f3])) (hone : oneCellFields P #[f0, f1, f2, f3] = true) (hC : P.cellsOf t = 4)
    (i0 : P.underlying f0.type = some (.slice e)) (ie : P.underlying e = some (.int .u64)) (ce : P.cellsOf e = 1) (i1 : P.underlying f1.type = some (.int .u8)) (i2 : P.underlying f2.type = some (.int .u64)) (i3 : P.underlying f3.type = some (.int .u8))
    (hv : Value.okWide P w r b0 t v) (h : DataW.Trod enc P w 0 (fun _ => true) true t v d p) :
    ∃ (l : Slc) (ws : List Nat) (t m n : Nat), v = .agg #[.slice l.a l.len l.cap, .int .u8 (t : Int), .int .u64 (m : Int), .int .u8 (n : Int)] ∧ RdW w l ws ∧ t ≤ 255 ∧ m < 18446744073709551616 ∧ n ≤ 255 := by
  obtain ⟨v0, v1, v2, v3, y0, y1, y2, y3, n, rfl, _, _, g0, g1, g2, g3⟩ := open_agg4 hs hone hC hv h
  obtain ⟨n1, e1, _, wf1⟩ := DataW.trod_int i1 g1
  obtain ⟨n2, e2, _, wf2⟩ := DataW.trod_int i2 g2
  obtain ⟨n3, e3, _, wf3⟩ := DataW.trod_int i3 g3
  simp only [List.cons.injEq, and_true] at e1 e2 e3
  subst e1 e2 e3
  have hsl : ∃ a len cap, v0 = .slice a len cap := by
    rcases DataW.trod_slice i0 g0 with ⟨h0, _⟩ | ⟨a, len, cap, elems, rest, n, _, h0, _⟩
    · simp at h0; exact ⟨_, _, _, h0⟩
    · simp at h0; exact ⟨_, _, _, h0⟩
  obtain ⟨a, len, cap, rfl⟩ := hsl
  obtain ⟨zs, hl, hr, hw, hm⟩ := open_zs i0 ie ce g0
  have b1 := Go.bounds_u8 wf1
  have b2 := Go.bounds_u64 wf2
  have b3 := Go.bounds_u8 wf3
  refine ⟨⟨a, len, cap⟩, zs.map Int.toNat, n1.toNat, n2.toNat, n3.toNat, ?_, ws_of hl hr hw, by omega, by omega, by omega⟩
  rw [show ((n1.toNat : Nat) : Int) = n1 by omega, show ((n2.toNat : Nat) : Int) = n2 by omega, show ((n3.toNat : Nat) : Int) = n3 by omega]
end Go.VC
namespace Go.Proofs.YtomajpihimlcjaaDoor.V
open Go Go.VC
set_option maxRecDepth 100000 in
theorem open_case {H : Type} {enc : TypeId × Value → H} {w : World} {r : Reach} {b0 : Nat} {v : Value} {d : DataW H} {p : List MemPlace}
    (hv : Value.okWide Tryd.prog w r b0 31 v) (h : DataW.Trod enc Tryd.prog w 0 (fun _ => true) true 31 v d p) :
    ∃ (l : Slc) (ws : List Nat) (t m n : Nat), v = caseV l t m n ∧ CaseR w l ws t m n := by
  obtain ⟨l, ws, t, m, n, hvv, h1, h2, h3, h4⟩ := open_caseP Tryd.underlying31 (by kernel_rfl) (by kernel_rfl) Tryd.underlying29 Tryd.underlying22 (by kernel_rfl) Tryd.underlying5 Tryd.underlying22 Tryd.underlying5 hv h
  exact ⟨l, ws, t, m, n, hvv, ⟨h1, h2, h3, h4⟩⟩
end Go.Proofs.YtomajpihimlcjaaDoor.V

namespace Go.VC
open Go
theorem Kp.t {a b c : World} (h : Kp no a b) (g : Kp no b c) : Kp no a c := h.trans g (fun _ _ f => f)
end Go.VC
namespace Go.Proofs.YtomajpihimlcjaaDoor.V
open Go Go.VC
variable {w w' w0 : World} {l : Slc} {bits : List Bool} {ws : List Nat} {d r B t m n : Nat}

theorem rrow4 (h : RdW w l ws) (h1 : ws.length ≤ 6) (h2 : t ≤ 40) {x : Nat} (hx : x < 18446744073709551616) (h3 : n ≤ 64) :
    Calls Tryd.prog 85 #[.slice l.a l.len l.cap, .int .i64 t, .int .u64 x, .int .i64 n] w (Rv fun v w' => ∃ o : Slc, v = .slice o.a o.len o.cap ∧ Ownd w' o 4 1 ((cwBits ws t ++ lowb x n).map Value.bool) ∧ Kp no w w' ∧ ∀ k, On o k → w.heap.size ≤ k) := by
  refine c85 l t x n _ _ ?_
  unfold B85
  have hl := h.len
  have hcw : ∀ j, j ≤ 40 → (cwBits ws j).length ≤ 15360 := fun j hj => by
    rw [cwBits_len]
    have := Nat.mul_le_mul hj (Nat.mul_le_mul_left 64 h1)
    omega
  refine ⟨fun o k w' => Kp no w w' ∧ (∀ k, On o k → w.heap.size ≤ k) ∧ ∃ j : Nat, k = j ∧ j ≤ t ∧ Ownd w' o 4 1 ((cwBits ws j).map Value.bool), fun _ k _ => (t - k).toNat, ⟨Kp.refl _ _, fun k hk => absurd hk On.nil, 0, rfl, by omega, Ownd.nil _ _ _⟩, ?_⟩
  rintro o k w3 ⟨k3, f3, j, rfl, hj, hr⟩
  refine br_dec (fun hlt => ?_) (fun hlt => ?_)
  · refine ⟨fun o i w' => Kp no w w' ∧ (∀ k, On o k → w.heap.size ≤ k) ∧ ∃ p : Nat, i = p ∧ p ≤ ws.length ∧ Ownd w' o 4 1 ((cwBits ws j ++ (ws.take p).flatMap fun x => lowb x 64).map Value.bool), fun _ i _ => (l.len - i).toNat, ⟨k3, f3, 0, rfl, by omega, by simpa using hr⟩, ?_⟩
    rintro o i w4 ⟨k4, f4, p, rfl, hp, hr4⟩
    refine br_dec (fun hlt2 => ?_) (fun hlt2 => ?_)
    · have hrd := (h.kp k4 (fun _ _ f => f))
      obtain ⟨a, ha, hc⟩ := hrd.at (i := (p : Int)) (by omega) hlt2
      refine ⟨by omega, hlt2, a, ha, _, hc, ?_⟩
      rw [Int.toNat_natCast]
      have hx := wg_lt h.lt p
      have hq := hcw j (by omega)
      have hq2 : ((ws.take p).flatMap fun x => lowb x 64).length ≤ 384 := by rw [flat_len, List.length_take]; omega
      have hlo := hr4.rdB.len
      rw [List.length_append] at hlo
      refine use (add2 hr4.rdB (by omega) _ hx 64 (by omega)) ?_
      rintro _ w5 ⟨o5, rfl, hr5, k5, f5⟩
      refine ⟨_, rfl, ?_⟩
      rw [w64 ⟨by omega, by omega⟩]
      refine ⟨⟨k4.t k5, fun k hk => by have := f5 k hk; have := k4.size; omega, p + 1, by omega, by omega, ?_⟩, by dsimp only; omega⟩
      rw [flat_take (by omega), ← List.append_assoc]
      exact hr5
    · have hpe : p = ws.length := by omega
      subst hpe
      rw [w64 ⟨by omega, by omega⟩]
      refine ⟨⟨k4, f4, j + 1, by omega, by omega, ?_⟩, by dsimp only; omega⟩
      rw [cwBits_succ]
      rwa [List.take_length] at hr4
  · have hje : j = t := by omega
    subst hje
    have hq := hcw j h2
    have hlo := hr.rdB.len
    refine use (add2 hr.rdB (by omega) _ hx n h3) ?_
    rintro _ w5 ⟨o5, rfl, hr5, k5, f5⟩
    exact ⟨o5, rfl, o5, rfl, hr5, k3.t k5, fun k hk => by have := f5 k hk; have := k3.size; omega⟩

theorem bits4 (h : CaseR w l ws t m n) (h1 : ws.length ≤ 6) (h2 : t ≤ 40) (h3 : n ≤ 64) :
    Calls Tryd.prog 21 #[caseV l t m n] w (Rv fun v w' => ∃ o : Slc, v = .slice o.a o.len o.cap ∧ Ownd w' o 4 1 ((caseBits ws t m n).map Value.bool) ∧ Kp no w w' ∧ ∀ k, On o k → w.heap.size ≤ k) := by
  refine c21 l t m n _ _ ?_
  unfold B21
  have hb0 := (Blk.new w [.slice l.a l.len l.cap, .int .u8 (t : Int), .int .u64 (m : Int), .int .u8 (n : Int)] 31).drew
  have hk0 : Kp no w (World.drew (w.alloc (.cells #[.slice l.a l.len l.cap, .int .u8 (t : Int), .int .u64 (m : Int), .int .u8 (n : Int)] 31))) := ((Kp.refl _ _).alloc _ _).drew
  have h4 := h.kp hk0
  generalize World.drew (w.alloc (.cells #[.slice l.a l.len l.cap, .int .u8 (t : Int), .int .u64 (m : Int), .int .u8 (n : Int)] 31)) = w1 at *
  refine ⟨l, hb0.cell 0, _, hb0.cell 1, _, hb0.cell 2, _, hb0.cell 3, _, hb0.cell 3, ?_⟩
  rw [w64 (x := (n : Int)) ⟨by omega, by omega⟩, w64 (x := (t : Int)) ⟨by omega, by omega⟩]
  refine usei (rcut _ m h.hm 0 n ⟨by omega, by omega⟩) ⟨_, rfl, hb0.cell 3, hb0.cell 1, hb0.cell 0, ?_⟩
  rw [cutW_zero m n h3]
  refine use (rrow4 h4.rd h1 h2 (Nat.lt_of_le_of_lt (Nat.mod_le _ _) h.hm) h3) ?_
  rintro _ w2 ⟨o, rfl, ho, k2, f2⟩
  rw [lowb_mod] at ho
  exact ⟨o, rfl, o, rfl, ho, hk0.t k2, fun k hk => by have := f2 k hk; have := hk0.size; omega⟩

theorem blk2 (w : World) (cs : List Value) (T : TypeId) : Rd (w.alloc (.cells cs.toArray T)) ⟨some ⟨w.heap.size, 0, none⟩, cs.length, cs.length⟩ cs := fun i hi => ⟨_, rfl, by rw [(Blk.new w cs T).cell]⟩

theorem caseR0 (w : World) (m n : Nat) (hm : m < 18446744073709551616) (hn : n ≤ 255) : CaseR w ⟨none, 0, 0⟩ [] 0 m n := ⟨⟨rfl, Rd.nil _ _, by simp⟩, by omega, hm, hn⟩

end Go.Proofs.YtomajpihimlcjaaDoor.V

namespace Go.Proofs.YtomajpihimlcjaaDoor.V
open Go Go.VC
variable {w w' w0 : World} {l : Slc} {bits : List Bool} {ws : List Nat} {d r B t m n : Nat}

theorem rwordsN (w : World) : Is 56 #[.pointer none] w (.slice none 0 0) := by
  refine c56n _ _ ?_
  unfold B56n
  exact ⟨rfl, rfl⟩
theorem rlenN (w : World) : Is 54 #[.pointer none] w (.int .i64 0) := by
  refine c54n _ _ ?_
  unfold B54n
  exact ⟨rfl, rfl⟩
theorem dlenN (w : World) : Is 136 #[.pointer none] w (.int .i64 0) := by
  refine c136n _ _ ?_
  unfold B136n
  exact ⟨rfl, rfl⟩
theorem drankN (w : World) (i : Int) : Is 89 #[.pointer none, .int .i64 i] w (.int .i64 0) := by
  refine c89n _ _ _ ?_
  unfold B89n
  exact ⟨rfl, rfl⟩
theorem dzerosN (w : World) (i : Int) : Is 93 #[.pointer none, .int .i64 i] w (.int .i64 0) := by
  refine c93n _ _ _ ?_
  unfold B93n
  refine usei (dlenN _) ⟨_, rfl, usei (drankN _ _) ⟨_, rfl, ?_, rfl⟩⟩
  rw [show min (max i 0) 0 - 0 = (0 : Int) by omega, w64 ⟨by omega, by omega⟩]
theorem rNewN (w : World) : Calls Tryd.prog 84 #[.pointer none] w (Rv fun v w' => ∃ d, v = .pointer (some ⟨d, 0, none⟩) ∧ DirB w' d [] w.heap.size ∧ Kp no w w') := by
  refine c84n _ _ ?_
  unfold B84n
  refine usei (rwordsN w) ⟨⟨none, 0, 0⟩, rfl, usei (rlenN w) ⟨_, rfl, ?_⟩⟩
  have kA : Kp no w (w.alloc (.cells #[.slice none 0 0, .slice none 0 0, .slice none 0 0, .int .i64 0] 155)) := (Kp.refl _ _).alloc _ _
  have bA : Blk (w.alloc (.cells #[.slice none 0 0, .slice none 0 0, .slice none 0 0, .int .i64 0] 155)) w.heap.size [.slice (⟨none, 0, 0⟩ : Slc).a (⟨none, 0, 0⟩ : Slc).len (⟨none, 0, 0⟩ : Slc).cap, .slice (⟨none, 0, 0⟩ : Slc).a (⟨none, 0, 0⟩ : Slc).len (⟨none, 0, 0⟩ : Slc).cap, .slice (⟨none, 0, 0⟩ : Slc).a (⟨none, 0, 0⟩ : Slc).len (⟨none, 0, 0⟩ : Slc).cap, .int .i64 0] 155 := Blk.new _ _ _
  have sA : (w.alloc (.cells #[.slice none 0 0, .slice none 0 0, .slice none 0 0, .int .i64 0] 155)).heap.size = w.heap.size + 1 := World.size_alloc _ _
  generalize w.alloc (.cells #[.slice none 0 0, .slice none 0 0, .slice none 0 0, .int .i64 0] 155) = w2 at *
  obtain ⟨w3, ln, hr3, hl3, hO3, k3, f3⟩ := make_own (z := .int .u16 0) (bytes := 2) und16 (by kernel_rfl) (by kernel_rfl) rfl w2 0 (by omega) (by omega)
  have b3 := bA.kp k3 id
  refine ⟨⟨none, 0, 0⟩, bA.cell 0, w3, ln, hr3, ⟨_, b3.cell 2⟩, b3.frozen 2, ?_⟩
  have hlnd : ∀ k, On ln k → k = w2.heap.size := f3
  have N0 : Ns w w.heap.size ⟨none, 0, 0⟩ ⟨none, 0, 0⟩ ln [] (w3.setCell (Addr.add ⟨w.heap.size, 0, none⟩ 2) (.slice ln.a ln.len ln.cap)) [] [] := by
    refine ⟨b3.set 2 _, Ownd.nil _ _ _, Ownd.nil _ _ _, ?_, ⟨On.nil, On.nil, fun q => by have := hlnd _ q; omega⟩, fun k hk => absurd hk On.nil, fun k hk => On.nil, ?_, ⟨Nat.le_refl _, fun k hk => absurd hk On.nil, fun k hk => absurd hk On.nil, fun k hk => ?_⟩⟩
    · exact hO3.set_other _ _ (by rw [add_block]; intro q; have := hlnd _ q; simp only at this; omega)
    · exact (kA.t k3).set _ _ (fun q => by rw [add_block] at q; simp only at q; omega)
    · have := hlnd k hk; omega
  generalize w3.setCell (Addr.add ⟨w.heap.size, 0, none⟩ 2) (.slice ln.a ln.len ln.cap) = w4 at *
  refine ⟨⟨none, 0, 0⟩, N0.blk.cell 0, fun al he k w' => k = 0 ∧ al = 0 ∧ Ns w w.heap.size ⟨none, 0, 0⟩ ⟨none, 0, 0⟩ ln [] w' [] [], fun _ _ _ _ => 0, ⟨rfl, rfl, N0⟩, ?_⟩
  rintro al he k w5 ⟨rfl, rfl, hN⟩
  refine br_dec (fun hlt => absurd hlt (by decide)) (fun hlt => ?_)
  obtain ⟨w6, o6, hr6, hu6, hf6, hN6⟩ := hN.mark 0 (by simp)
  refine ⟨⟨none, 0, 0⟩, hN.blk.cell 1, w6, o6, hr6, hu6, hf6, _, rfl, ?_, hN6.kp⟩
  exact ⟨_, o6, ln, hN6.toDir, fun k hk => by
    rcases hk with rfl | hk | hk | hk
    · exact hN6.fr.1
    · exact hN6.fr.2.1 k hk
    · exact hN6.fr.2.2.1 k hk
    · exact hN6.fr.2.2.2 k hk⟩

end Go.Proofs.YtomajpihimlcjaaDoor.V
