/- The directory of ranks: made, asked. -/
import Derived.Test.YtilccklocaeebaaDr
namespace Go.VC
open Go
abbrev U16 (x : Nat) : Value := .int .u16 (x : Int)
/-- The ones of the span ahead of each word. -/
def nearAt (bits : List Bool) (k : Nat) : Nat := cnt (bg bits) (64 * k) - cnt (bg bits) (512 * (k / 8))
def nearOf (bits : List Bool) : List Nat := (List.range ((bits.length + 63) / 64)).map (nearAt bits)
theorem nearAt_le (bits : List Bool) (k : Nat) : nearAt bits k ≤ 512 ∧ cnt (bg bits) (512 * (k / 8)) + nearAt bits k = cnt (bg bits) (64 * k) := by
  have h := cnt_mono (bg bits) (m := 512 * (k / 8)) (n := 64 * k) (by omega)
  unfold nearAt
  obtain ⟨j, hj⟩ : ∃ j, 64 * k = 512 * (k / 8) + j := ⟨64 * k - 512 * (k / 8), by omega⟩
  have h2 := cnt_le (fun i => bg bits (512 * (k / 8) + i)) j
  rw [hj, cnt_add] at h ⊢
  omega
end Go.VC
namespace Go.Proofs.Ytilccklocaeebaa.V
open Go Go.VC
variable {w w' w0 : World} {l o lw lm ln rl : Slc} {bits : List Bool} {d r : Nat} {ms ns : List Nat}

/-- A directory under way: its words, the marks and the near counts so far. -/
structure Ns (w0 : World) (d : Nat) (lw lm ln : Slc) (bits : List Bool) (w : World) (ms ns : List Nat) : Prop where
  blk : Blk w d [.slice lw.a lw.len lw.cap, .slice lm.a lm.len lm.cap, .slice ln.a ln.len ln.cap, .int .i64 (bits.length : Int)] 69
  ow : Ownd w lw 23 1 ((wordsOf bits).map U)
  om : Ownd w lm 3 1 (ms.map IV)
  on : Ownd w ln 70 1 (ns.map U16)
  hd : ¬ On lw d ∧ ¬ On lm d ∧ ¬ On ln d
  dm : ∀ k, On lm k → ¬ On lw k ∧ ¬ On ln k
  dn : ∀ k, On ln k → ¬ On lw k
  kp : Kp no w0 w
  fr : w0.heap.size ≤ d ∧ (∀ k, On lw k → w0.heap.size ≤ k) ∧ (∀ k, On lm k → w0.heap.size ≤ k) ∧ (∀ k, On ln k → w0.heap.size ≤ k)

theorem Ns.kpo (h : Ns w0 d lw lm ln bits w ms ns) (g : Kp no w w') : Ns w0 d lw lm ln bits w' ms ns :=
  ⟨h.blk.kp g (fun f => f), h.ow.kp g (fun _ _ f => f), h.om.kp g (fun _ _ f => f), h.on.kp g (fun _ _ f => f), h.hd, h.dm, h.dn, h.kp.trans g (fun _ _ f => f), h.fr⟩
theorem Ns.mlen (h : Ns w0 d lw lm ln bits w ms ns) : ms.length = lm.len := by have := h.om.len; simpa using this
theorem Ns.nlen (h : Ns w0 d lw lm ln bits w ms ns) : ns.length = ln.len := by have := h.on.len; simpa using this

/-- One mark more. -/
theorem Ns.mark (h : Ns w0 d lw lm ln bits w ms ns) (x : Nat) (hb : ms.length ≤ 1099511627776) :
    ∃ w2 o2, (Builtin.append_ #[38, 38] 38 #[.slice lm.a lm.len lm.cap, .slice (some ⟨w.heap.size, 0, none⟩) 1 1]).run Try.prog (w.alloc (.cells #[IV x] 3)) = .ok (.slice o2.a o2.len o2.cap) w2 ∧
      (∃ u, w2.cell? (Addr.add ⟨d, 0, none⟩ 1) = some u) ∧ w2.frozen? (Addr.add ⟨d, 0, none⟩ 1) = false ∧ Ns w0 d lw o2 ln bits (w2.setCell (Addr.add ⟨d, 0, none⟩ 1) (.slice o2.a o2.len o2.cap)) (ms ++ [x]) ns := by
  have hml := h.mlen
  obtain ⟨w2, o2, hr2, ho2, hl2, hk2, hf2⟩ := append_one (ty := 38) elI h.om (IV x) rfl (by simp only [maxLen]; omega) (by omega)
  have hb2 := h.blk.kp hk2 h.hd.2.1
  have hd := h.blk.lt
  have hw := h.ow.kp hk2 (fun k hk g => (h.dm k g).1 hk)
  have hn := h.on.kp hk2 (fun k hk g => (h.dm k g).2 hk)
  have hne : ¬ On o2 d := fun hk => by
    rcases hf2 d hk with g | g
    · exact h.hd.2.1 g
    · omega
  refine ⟨w2, o2, hr2, ⟨_, hb2.cell 1⟩, hb2.frozen 1, ⟨hb2.set 1 _, hw.set_other _ _ (by rw [add_block]; exact h.hd.1), ?_, hn.set_other _ _ (by rw [add_block]; exact h.hd.2.2), ⟨h.hd.1, hne, h.hd.2.2⟩, fun k hk => ?_, h.dn, ?_, ?_⟩⟩
  · rw [map_snocI] at ho2
    exact ho2.set_other _ _ (by rw [add_block]; exact hne)
  · rcases hf2 k hk with g | g
    · exact h.dm k g
    · exact ⟨fun q => by have := h.ow.on q; omega, fun q => by have := h.on.on q; omega⟩
  · have h0 := h.fr.1
    exact (h.kp.trans hk2 (fun k hk hkk => by have := h.fr.2.2.1 k hkk; omega)).set _ _ (fun q => by rw [add_block] at q; simp only at q; omega)
  · have := h.kp.size
    refine ⟨h.fr.1, h.fr.2.1, fun k hk => ?_, h.fr.2.2.2⟩
    rcases hf2 k hk with g | g
    · exact h.fr.2.2.1 k g
    · omega

/-- One near count set. -/
theorem Ns.near (h : Ns w0 d lw lm ln bits w ms ns) {k : Nat} (hk : k < ns.length) (x : Nat) :
    ∃ a, ln.a = some a ∧ (∃ u, w.cell? (Addr.add a (((k : Nat) : Int).toNat * 1)) = some u) ∧ w.frozen? (Addr.add a (((k : Nat) : Int).toNat * 1)) = false ∧
      Ns w0 d lw lm ln bits (w.setCell (Addr.add a (((k : Nat) : Int).toNat * 1)) (U16 x)) ms (ns.set k x) := by
  obtain ⟨a, ha, hc, hf, hset⟩ := h.on.at (i := k) (by rw [List.length_map]; exact hk)
  rw [Int.toNat_natCast, Nat.mul_one]
  have hon : On ln a.block := ⟨a, ha, rfl⟩
  refine ⟨a, ha, ⟨_, hc⟩, hf, ⟨h.blk.set_other _ _ (by rw [add_block]; exact fun e => h.hd.2.2 (e ▸ hon)), h.ow.set_other _ _ (by rw [add_block]; exact h.dn _ hon), h.om.set_other _ _ (by rw [add_block]; exact fun q => (h.dm _ q).2 hon), ?_, h.hd, h.dm, h.dn, ?_, h.fr⟩⟩
  · have := hset (U16 x)
    rw [← List.map_set] at this
    exact this
  · exact h.kp.set _ _ (fun q => by rw [add_block] at q; have := h.fr.2.2.2 _ hon; omega)

/-- A directory of ranks. -/
structure DirAt (w : World) (d : Nat) (lw lm ln : Slc) (bits : List Bool) : Prop where
  blk : Blk w d [.slice lw.a lw.len lw.cap, .slice lm.a lm.len lm.cap, .slice ln.a ln.len ln.cap, .int .i64 (bits.length : Int)] 69
  words : RdW w lw (wordsOf bits)
  marks : RdI w lm (marksOf bits)
  nlen : (nearOf bits).length = ln.len
  near : Rd w ln ((nearOf bits).map U16)
/-- The blocks of a directory. -/
def DF (d : Nat) (lw lm ln : Slc) (k : Nat) : Prop := k = d ∨ On lw k ∨ On lm k ∨ On ln k
theorem DirAt.kp {S : Nat → Prop} (h : DirAt w d lw lm ln bits) (g : Kp S w w') (hn : ∀ k, DF d lw lm ln k → ¬ S k) : DirAt w' d lw lm ln bits :=
  ⟨h.blk.kp g (hn d (.inl rfl)), h.words.kp g (fun k hk => hn k (.inr (.inl hk))), h.marks.kp g (fun k hk => hn k (.inr (.inr (.inl hk)))), h.nlen, h.near.kp g (fun k hk => hn k (.inr (.inr (.inr hk))))⟩

theorem dLen (h : DirAt w d lw lm ln bits) : Is 16 #[.pointer (some ⟨d, 0, none⟩)] w (.int .i64 bits.length) := by
  refine c16 _ _ _ ?_
  unfold B16
  exact ⟨_, h.blk.cell 3, rfl, rfl⟩
theorem dMarks (h : DirAt w d lw lm ln bits) (hsz : bits.length ≤ 1099511627776) : Calls Try.prog 21 #[.pointer (some ⟨d, 0, none⟩)] w (Rv fun v w' => ∃ o : Slc, v = .slice o.a o.len o.cap ∧ Ownd w' o 3 1 ((marksOf bits).map IV) ∧ Kp no w w' ∧ ∀ k, On o k → w.heap.size ≤ k) := by
  refine c21 _ _ _ ?_
  unfold B21
  have hl := h.marks.len
  rw [marksOf_len] at hl
  refine ⟨lm, h.blk.cell 1, use (cloneI h.marks (by omega)) ?_⟩
  rintro _ w' ⟨o, rfl, ho⟩
  exact ⟨o, rfl, o, rfl, ho⟩

theorem dRank (h : DirAt w d lw lm ln bits) (hsz : bits.length ≤ 1099511627776) (i : Int) : IsK 17 #[.pointer (some ⟨d, 0, none⟩), .int .i64 i] w (.int .i64 (cnt (bg bits) (clampL bits i) : Nat)) := by
  refine c17 _ _ _ _ ?_
  unfold B17
  have hml := h.marks.len
  rw [marksOf_len] at hml
  have hwl := h.words.len
  rw [length_wordsOf] at hwl
  have hnl := h.nlen
  have hnl2 : (nearOf bits).length = (bits.length + 63) / 64 := by simp [nearOf]
  have z : clampL bits i = 0 → (Value.int .i64 0 = .int .i64 (cnt (bg bits) (clampL bits i) : Nat) ∧ Kp no w w) := fun e => by rw [e]; exact ⟨rfl, Kp.refl _ _⟩
  refine br_dec (fun h1 => z (by unfold clampL; omega)) (fun h1 => ⟨_, h.blk.cell 3, br_dec (fun h2 => z (by unfold clampL; omega)) (fun h2 => ⟨_, h.blk.cell 3, ?_⟩)⟩)
  have kd : Kp no w w.drew := (Kp.refl _ _).drew
  have hD := h.kp kd (fun _ _ f => f)
  refine br_dec (fun h3 => ?_) (fun h3 => ?_)
  · have e1 : IntKind.i64.wrap ((lm.len : Int) - 1) = (((bits.length + 511) / 512 : Nat) : Int) := by rw [w64 ⟨by omega, by omega⟩]; omega
    obtain ⟨a, ha, hc⟩ := hD.marks.at (i := (((bits.length + 511) / 512 : Nat) : Int)) (by omega) (by omega)
    refine ⟨lm, hD.blk.cell 1, lm, hD.blk.cell 1, ?_⟩
    rw [e1]
    refine ⟨by omega, by omega, a, ha, _, hc, ?_, kd⟩
    have hcl : clampL bits i = bits.length := by unfold clampL; omega
    rw [hcl, Int.toNat_natCast, marksOf_last]
  · obtain ⟨k, rfl⟩ : ∃ k : Nat, i = k := ⟨i.toNat, by omega⟩
    have hcl : clampL bits (k : Int) = k := by unfold clampL; omega
    rw [hcl, Int.tdiv_eq_ediv_of_nonneg (by omega), Int.tdiv_eq_ediv_of_nonneg (by omega), Int.tmod_eq_emod_of_nonneg (by omega), w64 (x := (k : Int) / 512) ⟨by omega, by omega⟩, w64 (x := (k : Int) / 64) ⟨by omega, by omega⟩]
    obtain ⟨a, ha, hc⟩ := hD.marks.at (i := (k : Int) / 512) (by omega) (by omega)
    obtain ⟨b, hb, hcb⟩ := hD.words.at (i := (k : Int) / 64) (by omega) (by omega)
    obtain ⟨c, hc1, hc2⟩ := hD.near (k / 64) (by rw [List.length_map]; omega)
    have hc3 : w.drew.cell? (Addr.add c (((k : Int) / 64).toNat * 1)) = some (U16 (nearAt bits (k / 64))) := by
      rw [show ((k : Int) / 64).toNat * 1 = k / 64 by omega, hc2]
      simp [nearOf, show k / 64 < (bits.length + 63) / 64 by omega]
    refine ⟨lm, hD.blk.cell 1, by omega, by omega, by omega, a, ha, _, hc, ln, hD.blk.cell 2, by omega, by omega, by omega, c, hc1, _, hc3, lw, hD.blk.cell 0, by omega, by omega, by omega, b, hb, _, hcb, by omega, ?_⟩
    rw [show ((k : Int) / 64).toNat = k / 64 by omega, show ((k : Int) / 512).toNat = k / 512 by omega, wg_wordsOf, marksOf_at (by omega)]
    refine usei (rank w.drew _ (wordOf_lt bits _) _) ⟨_, rfl, ?_, hD.blk.cell 2, ?_, hD.blk.cell 1, ?_, kd⟩
    · rw [show ((k : Int) / 64).toNat = k / 64 by omega] at hc3; exact hc3
    · rw [show ((k : Int) / 512).toNat = k / 512 by omega, marksOf_at (by omega)] at hc; exact hc
    · have hcw : clampW ((k : Int) % 64) = k % 64 := by unfold clampW; omega
      rw [hcw]
      obtain ⟨n1, n2⟩ := nearAt_le bits (k / 64)
      have n3 : cnt (wordOf bits (k / 64)).testBit (k % 64) = cnt (fun i => bg bits (64 * (k / 64) + i)) (k % 64) := cnt_congr fun i hi => testBit_wordOf bits _ i (by omega)
      have n4 := cnt_add (bg bits) (64 * (k / 64)) (k % 64)
      rw [show 64 * (k / 64) + k % 64 = k by omega] at n4
      have n5 := cnt_le (bg bits) k
      rw [show k / 64 / 8 = k / 512 by omega] at n2
      rw [n3, w64 (x := ((nearAt bits (k / 64) : Nat) : Int)) ⟨by omega, by omega⟩, w64 (x := ((cnt (bg bits) (512 * (k / 512)) : Nat) : Int) + ((nearAt bits (k / 64) : Nat) : Int)) ⟨by omega, by omega⟩, w64 ⟨by omega, by omega⟩]
      congr 1
      omega
end Go.Proofs.Ytilccklocaeebaa.V
