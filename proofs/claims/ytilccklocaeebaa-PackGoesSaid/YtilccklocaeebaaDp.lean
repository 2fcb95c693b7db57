/- The directory of ranks, made from a row; the rows of the law's cases. -/
import Derived.Test.YtilccklocaeebaaDn
namespace Go.Proofs.Ytilccklocaeebaa.V
open Go Go.VC
variable {w w' w0 : World} {l o lw lm ln rl : Slc} {bits : List Bool} {d r : Nat} {ms ns : List Nat}

theorem und16 : Try.prog.underlying 67 = some (.slice 70) := by kernel_rfl
theorem wu16 {x : Int} (h : 0 ≤ x ∧ x ≤ 65535) : IntKind.u16.wrap x = x := by
  simp only [IntKind.wrap, IntKind.bits, IntKind.signed]; simp; omega

theorem Ns.toDir (h : Ns w0 d lw lm ln bits w (marksOf bits) (nearOf bits)) : DirAt w d lw lm ln bits :=
  ⟨h.blk, h.ow.rdW (fun _ hx => wordsOf_lt hx), h.om.rdI, h.nlen, h.on.rd⟩

/-- The near counts so far, the rest zero. -/
def nearTo (bits : List Bool) (k : Nat) : List Nat := (List.range ((bits.length + 63) / 64)).map fun j => if j < k then nearAt bits j else 0
theorem nearTo_zero (bits : List Bool) : nearTo bits 0 = List.replicate ((bits.length + 63) / 64) 0 := by
  unfold nearTo
  apply List.ext_getElem <;> simp
theorem nearTo_end (bits : List Bool) {k : Nat} (h : (bits.length + 63) / 64 ≤ k) : nearTo bits k = nearOf bits := by
  unfold nearTo nearOf
  apply List.map_congr_left
  intro j hj
  rw [if_pos (by have := List.mem_range.1 hj; omega)]
theorem nearTo_set (bits : List Bool) (k : Nat) : (nearTo bits k).set k (nearAt bits k) = nearTo bits (k + 1) := by
  unfold nearTo
  apply List.ext_getElem
  · simp
  · intro j h1 h2
    rw [List.getElem_set]
    simp only [List.getElem_map, List.getElem_range]
    by_cases e : k = j
    · subst e; simp
    · rw [if_neg e]
      by_cases g : j < k
      · rw [if_pos g, if_pos (by omega)]
      · rw [if_neg g, if_neg (by omega)]

theorem dNew (h : Row w r rl bits) (hsz : bits.length ≤ 1000000000) : Calls Try.prog 13 #[.pointer (some ⟨r, 0, none⟩)] w (Rv fun v w' => ∃ d lw lm ln, v = .pointer (some ⟨d, 0, none⟩) ∧ DirAt w' d lw lm ln bits ∧ Kp no w w' ∧ ∀ k, DF d lw lm ln k → w.heap.size ≤ k) := by
  refine c13 _ _ _ ?_
  unfold B13
  have hwl := length_wordsOf bits
  refine use (words1 h (by omega)) ?_
  rintro _ w1 ⟨lw, rfl, hO, k1, f1⟩
  have hlw : lw.len = (bits.length + 63) / 64 := by have := hO.len; simp at this; omega
  refine ⟨lw, rfl, usei (len1 (h.kp k1 (fun _ _ f => f))) ⟨_, rfl, ?_⟩⟩
  have kA : Kp no w1 (w1.alloc (.cells #[.slice lw.a lw.len lw.cap, .slice none 0 0, .slice none 0 0, .int .i64 (bits.length : Int)] 69)) := (Kp.refl _ _).alloc _ _
  have bA : Blk (w1.alloc (.cells #[.slice lw.a lw.len lw.cap, .slice none 0 0, .slice none 0 0, .int .i64 (bits.length : Int)] 69)) w1.heap.size [.slice lw.a lw.len lw.cap, .slice (⟨none, 0, 0⟩ : Slc).a (⟨none, 0, 0⟩ : Slc).len (⟨none, 0, 0⟩ : Slc).cap, .slice (⟨none, 0, 0⟩ : Slc).a (⟨none, 0, 0⟩ : Slc).len (⟨none, 0, 0⟩ : Slc).cap, .int .i64 (bits.length : Int)] 69 := Blk.new _ _ _
  have sA : (w1.alloc (.cells #[.slice lw.a lw.len lw.cap, .slice none 0 0, .slice none 0 0, .int .i64 (bits.length : Int)] 69)).heap.size = w1.heap.size + 1 := World.size_alloc _ _
  have OA := hO.kp kA (fun _ _ f => f)
  generalize w1.alloc (.cells #[.slice lw.a lw.len lw.cap, .slice none 0 0, .slice none 0 0, .int .i64 (bits.length : Int)] 69) = w2 at *
  have hs1 := k1.size
  have kw2 := k1.trans kA (fun _ _ f => f)
  obtain ⟨w3, ln, hr3, hl3, hO3, k3, f3⟩ := make_own (z := .int .u16 0) (bytes := 2) und16 (by kernel_rfl) (by kernel_rfl) rfl w2 lw.len (by omega) (by omega)
  have b3 := bA.kp k3 id
  refine ⟨lw, bA.cell 0, w3, ln, hr3, ⟨_, b3.cell 2⟩, b3.frozen 2, ?_⟩
  have hlwd : ¬ On lw w1.heap.size := fun q => by have := hO.on q; omega
  have hlnd : ∀ k, On ln k → k = w2.heap.size := f3
  have N0 : Ns w w1.heap.size lw ⟨none, 0, 0⟩ ln bits (w3.setCell (Addr.add ⟨w1.heap.size, 0, none⟩ 2) (.slice ln.a ln.len ln.cap)) [] (nearTo bits 0) := by
    refine ⟨b3.set 2 _, (OA.kp k3 (fun _ _ f => f)).set_other _ _ (by rw [add_block]; exact hlwd), Ownd.nil _ _ _, ?_, ⟨hlwd, On.nil, fun q => by have := hlnd _ q; omega⟩, fun k hk => absurd hk On.nil, fun k hk q => ?_, ?_, ⟨hs1, f1, fun k hk => absurd hk On.nil, fun k hk => ?_⟩⟩
    · rw [nearTo_zero, ← hlw, List.map_replicate]
      exact hO3.set_other _ _ (by rw [add_block]; intro q; have := hlnd _ q; simp only at this; omega)
    · have := hlnd k hk; have := hO.on q; omega
    · exact (kw2.trans k3 (fun _ _ f => f)).set _ _ (fun q => by rw [add_block] at q; simp only at q; omega)
    · have := hlnd k hk; omega
  generalize w3.setCell (Addr.add ⟨w1.heap.size, 0, none⟩ 2) (.slice ln.a ln.len ln.cap) = w4 at *
  refine ⟨lw, N0.blk.cell 0, fun al he k w' => ∃ (m : Nat) (lm : Slc), k = m ∧ m ≤ lw.len ∧ Ns w w1.heap.size lw lm ln bits w' ((List.range ((m + 7) / 8)).map fun j => cnt (bg bits) (512 * j)) (nearTo bits m) ∧ al = (cnt (bg bits) (64 * m) : Nat) ∧ (m % 8 ≠ 0 → he = (nearAt bits m : Nat)),
    fun _ _ k _ => (lw.len - k).toNat, ⟨0, ⟨none, 0, 0⟩, rfl, by omega, N0, rfl, fun h => absurd rfl h⟩, ?_⟩
  rintro al he k w5 ⟨m, lm, rfl, hm, hN, rfl, hhe⟩
  have c1 := cnt_le (bg bits) (64 * m)
  refine br_dec (fun hlt => ⟨by omega, ?_⟩) (fun hlt => ?_)
  · have hmw : m < (bits.length + 63) / 64 := by omega
    have hpc : pc (wordOf bits m) ≤ 64 := cnt_le _ _
    have hstep : cnt (bg bits) (64 * (m + 1)) = cnt (bg bits) (64 * m) + pc (wordOf bits m) := by
      rw [show 64 * (m + 1) = 64 * m + 64 by omega, cnt_add]
      have : pc (wordOf bits m) = cnt (fun i => bg bits (64 * m + i)) 64 := cnt_congr fun i hi => testBit_wordOf bits m i hi
      rw [this]
    have hnl : (nearTo bits m).length = (bits.length + 63) / 64 := by simp [nearTo]
    have wdat : ∀ {w6 : World} {lm2 : Slc} {ms2 ns2 : List Nat}, Ns w w1.heap.size lw lm2 ln bits w6 ms2 ns2 → ∃ a, lw.a = some a ∧ w6.cell? (Addr.add a (((m : Nat) : Int).toNat * 1)) = some (U (wordOf bits m)) := fun q => by
      obtain ⟨a, ha, hc⟩ := (q.ow.rdW (fun _ hx => wordsOf_lt hx)).at (i := (m : Int)) (by omega) (by omega)
      rw [Int.toNat_natCast m, wg_wordsOf] at hc
      exact ⟨a, ha, by rw [Int.toNat_natCast]; exact hc⟩
    rw [Int.tmod_eq_emod_of_nonneg (by omega)]
    refine br_dec (fun h8 => ⟨lm, hN.blk.cell 1, ?_⟩) (fun h8 => ⟨ln, hN.blk.cell 2, by omega, by omega, ?_⟩)
    · obtain ⟨w6, o6, hr6, hu6, hf6, hN6⟩ := hN.mark (cnt (bg bits) (64 * m)) (by simp; omega)
      refine ⟨w6, o6, hr6, hu6, hf6, ln, hN6.blk.cell 2, by omega, by omega, ?_⟩
      obtain ⟨a, ha, hua, hfa, hN7⟩ := hN6.near (k := m) (by omega) 0
      refine ⟨a, ha, hua, hfa, ?_⟩
      have hz : nearAt bits m = 0 := by unfold nearAt; rw [show 512 * (m / 8) = 64 * m by omega]; omega
      have hset := nearTo_set bits m
      rw [hz] at hset
      rw [hset] at hN7
      have hms : ((List.range ((m + 7) / 8)).map fun j => cnt (bg bits) (512 * j)) ++ [cnt (bg bits) (64 * m)] = (List.range ((m + 1 + 7) / 8)).map fun j => cnt (bg bits) (512 * j) := by
        rw [show (m + 1 + 7) / 8 = (m + 7) / 8 + 1 by omega, List.range_succ, List.map_append]
        simp [show 512 * ((m + 7) / 8) = 64 * m by omega]
      rw [hms] at hN7
      rw [wu16 (x := (0 : Int)) ⟨by omega, by omega⟩]
      obtain ⟨b, hb, hcb⟩ := wdat hN7
      refine ⟨lw, hN7.blk.cell 0, by omega, by omega, b, hb, _, hcb, usei (ones _ _ (wordOf_lt bits m)) ⟨_, rfl, ?_⟩⟩
      rw [w64 (x := ((cnt (bg bits) (64 * m) : Nat) : Int) + ((pc (wordOf bits m) : Nat) : Int)) ⟨by omega, by omega⟩, w64 (x := 0 + ((pc (wordOf bits m) : Nat) : Int)) ⟨by omega, by omega⟩, w64 (x := (m : Int) + 1) ⟨by omega, by omega⟩]
      refine ⟨⟨m + 1, o6, by omega, by omega, hN7, by omega, fun _ => ?_⟩, by dsimp only; omega⟩
      have n2 := (nearAt_le bits (m + 1)).2
      rw [show 512 * ((m + 1) / 8) = 64 * m by omega] at n2
      omega
    · have hh := hhe (by omega)
      obtain ⟨n1, n2⟩ := nearAt_le bits m
      obtain ⟨a, ha, hua, hfa, hN7⟩ := hN.near (k := m) (by omega) (nearAt bits m)
      rw [hh, wu16 ⟨by omega, by omega⟩]
      refine ⟨a, ha, hua, hfa, ?_⟩
      rw [nearTo_set] at hN7
      have hms : (m + 7) / 8 = (m + 1 + 7) / 8 := by omega
      rw [hms] at hN7
      obtain ⟨b, hb, hcb⟩ := wdat hN7
      refine ⟨lw, hN7.blk.cell 0, by omega, by omega, b, hb, _, hcb, usei (ones _ _ (wordOf_lt bits m)) ⟨_, rfl, ?_⟩⟩
      rw [w64 (x := ((cnt (bg bits) (64 * m) : Nat) : Int) + ((pc (wordOf bits m) : Nat) : Int)) ⟨by omega, by omega⟩, w64 (x := ((nearAt bits m : Nat) : Int) + ((pc (wordOf bits m) : Nat) : Int)) ⟨by omega, by omega⟩, w64 (x := (m : Int) + 1) ⟨by omega, by omega⟩]
      refine ⟨⟨m + 1, lm, by omega, by omega, hN7, by omega, fun h9 => ?_⟩, by dsimp only; omega⟩
      have n3 := (nearAt_le bits (m + 1)).2
      rw [show (m + 1) / 8 = m / 8 by omega] at n3
      omega
  · have hme : m = lw.len := by omega
    subst hme
    obtain ⟨w6, o6, hr6, hu6, hf6, hN6⟩ := hN.mark (cnt (bg bits) (64 * lw.len)) (by simp; omega)
    refine ⟨lm, hN.blk.cell 1, w6, o6, hr6, hu6, hf6, _, lw, o6, ln, rfl, ?_, hN6.kp, fun k hk => ?_⟩
    · have hms : ((List.range ((lw.len + 7) / 8)).map fun j => cnt (bg bits) (512 * j)) ++ [cnt (bg bits) (64 * lw.len)] = marksOf bits := by
        unfold marksOf
        rw [cnt_end (show bits.length ≤ 64 * lw.len by omega), show (lw.len + 7) / 8 = (bits.length + 511) / 512 by omega]
      rw [hms, nearTo_end bits (by omega)] at hN6
      exact hN6.toDir
    · rcases hk with rfl | hk | hk | hk
      · exact hN6.fr.1
      · exact hN6.fr.2.1 k hk
      · exact hN6.fr.2.2.1 k hk
      · exact hN6.fr.2.2.2 k hk

theorem dZeros (h : DirAt w d lw lm ln bits) (hsz : bits.length ≤ 1099511627776) (i : Int) : IsK 19 #[.pointer (some ⟨d, 0, none⟩), .int .i64 i] w (.int .i64 (((clampL bits i : Nat) : Int) - (cnt (bg bits) (clampL bits i) : Nat))) := by
  refine c19 _ _ _ _ ?_
  unfold B19
  have hc := cnt_le (bg bits) (clampL bits i)
  have hcl : clampL bits i ≤ bits.length := by unfold clampL; omega
  refine usei (dLen h) ⟨_, rfl, usek (dRank h hsz i) fun w' k => ⟨_, rfl, ?_, k⟩⟩
  have e : min (max i 0) (bits.length : Int) = (clampL bits i : Nat) := by unfold clampL; omega
  rw [e, w64 ⟨by omega, by omega⟩]
end Go.Proofs.Ytilccklocaeebaa.V
