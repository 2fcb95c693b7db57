/- The law on the marks of a directory; nil directories. -/
import Derived.Test.YtilccklocaeebaaDz
namespace Go.Proofs.Ytilccklocaeebaa.V
open Go Go.VC
variable {w w' w0 : World} {l : Slc} {bits : List Bool} {ws : List Nat} {d r B t m n : Nat}

theorem rwordsN (w : World) : Is 44 #[.pointer none] w (.slice none 0 0) := by
  refine c44n _ _ ?_
  unfold B44n
  exact ⟨rfl, rfl⟩
theorem rlenN (w : World) : Is 45 #[.pointer none] w (.int .i64 0) := by
  refine c45n _ _ ?_
  unfold B45n
  exact ⟨rfl, rfl⟩
theorem dlenN (w : World) : Is 16 #[.pointer none] w (.int .i64 0) := by
  refine c16n _ _ ?_
  unfold B16n
  exact ⟨rfl, rfl⟩
theorem drankN (w : World) (i : Int) : Is 17 #[.pointer none, .int .i64 i] w (.int .i64 0) := by
  refine c17n _ _ _ ?_
  unfold B17n
  exact ⟨rfl, rfl⟩
theorem dzerosN (w : World) (i : Int) : Is 19 #[.pointer none, .int .i64 i] w (.int .i64 0) := by
  refine c19n _ _ _ ?_
  unfold B19n
  refine usei (dlenN _) ⟨_, rfl, usei (drankN _ _) ⟨_, rfl, ?_, rfl⟩⟩
  rw [show min (max i 0) 0 - 0 = (0 : Int) by omega, w64 ⟨by omega, by omega⟩]
theorem dmarksN (w : World) : Is 21 #[.pointer none] w (.slice none 0 0) := by
  refine c21n _ _ ?_
  unfold B21n
  exact ⟨rfl, rfl⟩

theorem rNewN (w : World) : Calls Try.prog 13 #[.pointer none] w (Rv fun v w' => ∃ d, v = .pointer (some ⟨d, 0, none⟩) ∧ DirB w' d [] w.heap.size ∧ Kp no w w') := by
  refine c13n _ _ ?_
  unfold B13n
  refine usei (rwordsN w) ⟨⟨none, 0, 0⟩, rfl, usei (rlenN w) ⟨_, rfl, ?_⟩⟩
  have kA : Kp no w (w.alloc (.cells #[.slice none 0 0, .slice none 0 0, .slice none 0 0, .int .i64 0] 69)) := (Kp.refl _ _).alloc _ _
  have bA : Blk (w.alloc (.cells #[.slice none 0 0, .slice none 0 0, .slice none 0 0, .int .i64 0] 69)) w.heap.size [.slice (⟨none, 0, 0⟩ : Slc).a (⟨none, 0, 0⟩ : Slc).len (⟨none, 0, 0⟩ : Slc).cap, .slice (⟨none, 0, 0⟩ : Slc).a (⟨none, 0, 0⟩ : Slc).len (⟨none, 0, 0⟩ : Slc).cap, .slice (⟨none, 0, 0⟩ : Slc).a (⟨none, 0, 0⟩ : Slc).len (⟨none, 0, 0⟩ : Slc).cap, .int .i64 0] 69 := Blk.new _ _ _
  have sA : (w.alloc (.cells #[.slice none 0 0, .slice none 0 0, .slice none 0 0, .int .i64 0] 69)).heap.size = w.heap.size + 1 := World.size_alloc _ _
  generalize w.alloc (.cells #[.slice none 0 0, .slice none 0 0, .slice none 0 0, .int .i64 0] 69) = w2 at *
  obtain ⟨w3, ln, hr3, hl3, hO3, k3, f3⟩ := make_own (z := .int .u16 0) (bytes := 2) und16 (by kernel_rfl) (by kernel_rfl) rfl w2 0 (by omega) (by omega)
  have b3 := bA.kp k3 id
  refine ⟨⟨none, 0, 0⟩, bA.cell 0, w3, ln, hr3, ⟨_, b3.cell 2⟩, b3.frozen 2, ?_⟩
  have hlnd : ∀ k, On ln k → k = w2.heap.size := f3
  have N0 : Ns w w.heap.size ⟨none, 0, 0⟩ ⟨none, 0, 0⟩ ln [] (w3.setCell (Addr.add ⟨w.heap.size, 0, none⟩ 2) (.slice ln.a ln.len ln.cap)) [] [] := by
    refine ⟨b3.set 2 _, Ownd.nil _ _ _, Ownd.nil _ _ _, ?_, ⟨On.nil, On.nil, fun q => by have := hlnd _ q; omega⟩, fun k hk => absurd hk On.nil, fun k hk => On.nil, ?_, ⟨Nat.le_refl _, fun k hk => absurd hk On.nil, fun k hk => absurd hk On.nil, fun k hk => ?_⟩⟩
    · exact hO3.set_other _ _ (by rw [add_block]; intro q; have := hlnd _ q; simp only at this; omega)
    · exact (kA.t k3).set _ _ (fun q => by rw [add_block] at q; simp only at q; omega)
    · have := hlnd k hk; omega
  generalize w3.setCell (Addr.add ⟨w.heap.size, 0, none⟩ 2) (.slice ln.a ln.len ln.cap) = w4 at *
  refine ⟨⟨none, 0, 0⟩, N0.blk.cell 0, fun al he k w' => k = 0 ∧ al = 0 ∧ Ns w w.heap.size ⟨none, 0, 0⟩ ⟨none, 0, 0⟩ ln [] w' [] [], fun _ _ _ _ => 0, ⟨rfl, rfl, N0⟩, ?_⟩
  rintro al he k w5 ⟨rfl, rfl, hN⟩
  refine br_dec (fun hlt => absurd hlt (by decide)) (fun hlt => ?_)
  obtain ⟨w6, o6, hr6, hu6, hf6, hN6⟩ := hN.mark 0 (by simp)
  refine ⟨⟨none, 0, 0⟩, hN.blk.cell 1, w6, o6, hr6, hu6, hf6, _, rfl, ?_, hN6.kp⟩
  exact ⟨_, o6, ln, hN6.toDir, fun k hk => by
    rcases hk with rfl | hk | hk | hk
    · exact hN6.fr.1
    · exact hN6.fr.2.1 k hk
    · exact hN6.fr.2.2.1 k hk
    · exact hN6.fr.2.2.2 k hk⟩

theorem dirMarks (h : CaseR w l ws t m n) (x : Nat) (hx : x < 18446744073709551616) : IsK 4 #[caseV l t m n, .int .u64 x] w (.bool true) := by
  refine c4 l t m n x _ _ ?_
  unfold B4
  have hb0 := Blk.new w [.slice l.a l.len l.cap, .int .u8 (t : Int), .int .u64 (m : Int), .int .u8 (n : Int)] 25
  have hk0 : Kp no w (w.alloc (.cells #[.slice l.a l.len l.cap, .int .u8 (t : Int), .int .u64 (m : Int), .int .u8 (n : Int)] 25)) := (Kp.refl _ _).alloc _ _
  have h1 := h.kp hk0
  generalize w.alloc (.cells #[.slice l.a l.len l.cap, .int .u8 (t : Int), .int .u64 (m : Int), .int .u8 (n : Int)] 25) = w1 at *
  refine ⟨l, _, _, _, hb0.cell 0, hb0.cell 1, hb0.cell 2, hb0.cell 3, usek (small4 h1) fun w2 k2 => ⟨_, rfl, br_not (br_dec (fun hs => ?_) (fun hs => ?_))⟩⟩
  rotate_left
  · exact usek (live4 _) fun w3 k3 => ⟨_, rfl, rfl, hk0.t (k2.t k3)⟩
  have b2 := hb0.kp k2 id
  refine ⟨l, _, _, _, b2.cell 0, b2.cell 1, b2.cell 2, b2.cell 3, use (row4 (h1.kp k2) hs.1 hs.2.1 hs.2.2) ?_⟩
  rintro _ w3 ⟨r, rfl, hr, k3⟩
  have hbl := caseBits_le (m := m) hs.1 hs.2.1 hs.2.2
  refine ⟨_, rfl, use (rNewB hr (by omega)) ?_⟩
  rintro _ w4 ⟨d, rfl, hd, k4⟩
  have k24 := (k2.t k3).t k4
  have b4 := hb0.kp k24 id
  refine ⟨_, rfl, l, _, _, _, b4.cell 0, b4.cell 1, b4.cell 2, b4.cell 3, use (bits4 (h1.kp k24) hs.1 hs.2.1 hs.2.2) ?_⟩
  rintro _ w5 ⟨o, rfl, ho, k5, f5⟩
  have hol := ho.rdB.len
  generalize caseBits ws t m n = bits at *
  refine ⟨o, rfl, use (marks4 ho.rdB (by omega)) ?_⟩
  rintro _ w6 ⟨q, rfl, hq, k6, f6⟩
  have hql := hq.rdI.len
  have hml := marksOf_len bits
  -- what is known at w6
  have k36 : Kp no w3 w6 := (k4.t k5).t k6
  have hd6 := hd.kpo (k5.t k6)
  obtain ⟨lr, hrow, hrb⟩ := hr
  have hrlt : ∀ k, RF r lr k → w2.heap.size ≤ k ∧ k < w3.heap.size := fun k hk => ⟨hrb k hk, hrow.lt hk⟩
  have hrow6 := hrow.kp k36 (fun _ _ f => f)
  have hR6 : ∀ {W : World}, Kp (RF r lr) w6 W → DirB W d bits w3.heap.size ∧ RdI W q (marksOf bits) ∧ RdB W o bits ∧ Kp no w W := fun {W} g => by
    have s4 := k4.size
    have s5 := k5.size
    refine ⟨hd6.kp g (fun k h1 h2 => by have := (hrlt k h2).2; omega), hq.rdI.kp g (fun k h1 h2 => by have := (hrlt k h2).2; have := f6 k h1; omega),
      (ho.rdB.kp k6 (fun _ _ f => f)).kp g (fun k h1 h2 => by have := (hrlt k h2).2; have := f5 k h1; omega), ?_⟩
    refine (hk0.t (k2.t (k3.t k36))).trans g (fun k h1 h2 => ?_)
    have := (hrlt k h2).1; have := hk0.size; have := k2.size; omega
  refine ⟨q, rfl, use (marksB hd6 (by omega)) ?_⟩
  rintro _ w7 ⟨g, rfl, hg, k7, f7⟩
  have hgl := hg.rdI.len
  have h22 := ints4 hg.rdI (hq.rdI.kp k7 (fun _ _ f => f)) (by omega)
  rw [decide_eq_true rfl] at h22
  refine ⟨g, rfl, usek h22 fun w8 k8 => ⟨_, rfl, ?_⟩⟩
  have k68 := k7.t k8
  refine use (add1 (hrow6.kp k68 (fun _ _ f => f)) (by omega) x hx 64) ?_
  rintro _ w9 ⟨o9, rfl, hrow9, k9, f9⟩
  have hS : addS bits x 64 = _ := addS_ok (n := 64) (by omega) hx hx
  rw [hS]
  have k69 : Kp (RF r lr) w6 w9 := (k68.mono (S' := RF r lr) (fun _ _ f => f.elim)).trans k9 (fun k h1 h2 => h2)
  have hg9 : Ownd w9 g 3 1 ((marksOf bits).map IV) := (hg.kp k8 (fun _ _ f => f)).kp k9 (fun k h1 h2 => by have := (hrlt k h2).2; have := f7 k h1; have := k36.size; omega)
  refine ⟨_, rfl, fun i w' => Kp (RF r lr) w6 w' ∧ ∃ (j : Nat) (zs : List Value), i = j ∧ j ≤ g.len ∧ zs.length = g.len ∧ Ownd w' g 3 1 zs, fun i _ => (g.len - i).toNat, ⟨k69, 0, _, rfl, by omega, by rw [List.length_map]; exact hgl, hg9⟩, ?_⟩
  rintro i wl ⟨kl, j, zs, rfl, hj, hzl, hgo⟩
  refine br_dec (fun hlt => ?_) (fun _ => ?_)
  · obtain ⟨a, ha, hc, hfz, hset⟩ := hgo.at (i := j) (by omega)
    have e : ((j : Nat) : Int).toNat * 1 = j := by omega
    rw [e]
    refine ⟨by omega, hlt, a, ha, ⟨_, hc⟩, hfz, ?_⟩
    rw [w64 (x := (j : Int) + 1) ⟨by omega, by omega⟩]
    refine ⟨⟨kl.set _ _ (fun hh => ?_), j + 1, _, by omega, by omega, by rw [List.length_set]; exact hzl, hset _⟩, by dsimp only; omega⟩
    rw [add_block] at hh
    have := f7 _ ⟨a, ha, rfl⟩
    omega
  · have kd := kl.drew
    generalize World.drew wl = wd at *
    refine use (marksB (hR6 kd).1 (by omega)) ?_
    rintro _ wa ⟨q2, rfl, hq2, ka, fa⟩
    have hq2l := hq2.rdI.len
    have kA : Kp (RF r lr) w6 wa := kd.trans (ka.mono (S' := RF r lr) (fun _ _ f => f.elim)) (fun _ _ f => f)
    have h22b := ints4 hq2.rdI (hR6 kA).2.1 (by omega)
    rw [decide_eq_true rfl] at h22b
    refine ⟨q2, rfl, usek h22b fun wb kb => ⟨_, rfl, ?_⟩⟩
    have kB : Kp (RF r lr) w6 wb := kA.trans (kb.mono (S' := RF r lr) (fun _ _ f => f.elim)) (fun _ _ f => f)
    refine usei (lenB (hR6 kB).1) ⟨_, rfl, br_dec (fun _ => ?_) (fun hh => absurd (by omega) hh)⟩
    refine usei (dlenN _) ⟨_, rfl, ?_⟩
    refine usei (drankN _ _) ⟨_, rfl, ?_⟩
    refine usei (dzerosN _ _) ⟨_, rfl, ?_⟩
    refine usei (dmarksN _) ⟨⟨none, 0, 0⟩, rfl, br_dec (fun _ => ?_) (fun hh => absurd rfl hh)⟩
    have kno : ∀ {A C : World}, Kp (RF r lr) w6 A → Kp no A C → Kp (RF r lr) w6 C := fun ha hc => ha.trans (hc.mono (S' := RF r lr) (fun _ _ f => f.elim)) (fun _ _ f => f)
    have i1 : ∀ W : World, RdI (W.alloc (.cells #[.int .i64 0] 3)) ⟨some ⟨W.heap.size, 0, none⟩, 1, 1⟩ [0] := fun W => ⟨rfl, blk2 W [IV 0] 3⟩
    have ka1 : ∀ W : World, Kp no W (W.alloc (.cells #[.int .i64 0] 3)) := fun W => (Kp.refl _ _).alloc _ _
    have hm0 : marksOf [] = [0] := by decide
    have lit : ∀ {W : World} {lx ly : Slc}, RdI W lx [0] → RdI W ly [0] → IsK 22 #[.slice lx.a lx.len lx.cap, .slice ly.a ly.len ly.cap] W (.bool true) := fun hx hy => by
      have hl := hx.len
      have := ints4 hx hy (by simp at hl; omega)
      rwa [decide_eq_true rfl] at this
    have tail : ∀ W : World, Kp (RF r lr) w6 W → (0 ≤ (IntKind.i64.wrap ((q.len : Int) - 1)) ∧ (IntKind.i64.wrap ((q.len : Int) - 1)) < (q.len : Int) ∧ ∃ a75, q.a = some a75 ∧
        ∃ n76 : Int, W.cell? (Addr.add a75 ((IntKind.i64.wrap ((q.len : Int) - 1)).toNat * 1)) = some (.int .i64 n76) ∧
        Calls Try.prog 24 #[.slice o.a o.len o.cap] W (Rv fun v77 w78 => ∃ n79 : Int, v77 = .int .i64 n79 ∧
        w78.cell? (Addr.add a75 ((IntKind.i64.wrap ((q.len : Int) - 1)).toNat * 1)) = some (.int .i64 n76) ∧
        br (decide (n79 = n76)) (Calls Try.prog 12 #[] w78 (Rv fun v80 w81 => ∃ b82 : Bool, v80 = .bool b82 ∧ (Value.bool b82 = .bool true ∧ Kp no w w81))) (Value.bool false = .bool true ∧ Kp no w w78))) := by
      intro W K
      have e1 : IntKind.i64.wrap ((q.len : Int) - 1) = (((bits.length + 511) / 512 : Nat) : Int) := by rw [w64 ⟨by omega, by omega⟩]; omega
      rw [e1]
      obtain ⟨_, hqW, hoW, kW⟩ := hR6 K
      obtain ⟨a, ha, hc⟩ := hqW.at (i := (((bits.length + 511) / 512 : Nat) : Int)) (by omega) (by omega)
      refine ⟨by omega, by omega, a, ha, _, hc, usei (ones2 hoW (by omega)) ⟨_, rfl, hc, br_dec (fun _ => ?_) (fun hh => absurd ?_ hh)⟩⟩
      · exact usek (live4 _) fun w8 k8 => ⟨_, rfl, rfl, kW.t k8⟩
      · rw [Int.toNat_natCast, marksOf_last]
    refine ⟨?_, ?_⟩
    · refine use (rNewN _) ?_
      rintro _ wc ⟨dn, rfl, hdn, kc⟩
      refine ⟨_, rfl, ?_, ?_⟩
      · refine use (marksB hdn (by simp)) ?_
        rintro _ we ⟨q3, rfl, hq3, ke, fe⟩
        rw [hm0] at hq3
        have hL := lit (hq3.rdI.kp (ka1 we) (fun _ _ f => f)) (i1 we)
        exact ⟨q3, rfl, usek hL fun W kW => ⟨_, rfl, tail W (kno kB ((kc.t ke).t ((ka1 we).t kW)))⟩⟩
      · refine use (marksB (hdn.kpo (ka1 wc)) (by simp)) ?_
        rintro _ we ⟨q3, rfl, hq3, ke, fe⟩
        rw [hm0] at hq3
        have hL := lit hq3.rdI ((i1 wc).kp ke (fun _ _ f => f))
        exact ⟨q3, rfl, usek hL fun W kW => ⟨_, rfl, tail W (kno kB ((kc.t (ka1 wc)).t (ke.t kW)))⟩⟩
    · refine use (rNewN _) ?_
      rintro _ wc ⟨dn, rfl, hdn, kc⟩
      refine ⟨_, rfl, use (marksB hdn (by simp)) ?_⟩
      rintro _ we ⟨q3, rfl, hq3, ke, fe⟩
      rw [hm0] at hq3
      have hL := lit hq3.rdI ((i1 wb).kp (kc.t ke) (fun _ _ f => f))
      exact ⟨q3, rfl, usek hL fun W kW => ⟨_, rfl, tail W (kno kB (((ka1 wb).t kc).t (ke.t kW)))⟩⟩
end Go.Proofs.Ytilccklocaeebaa.V
