/- Rows: made. -/
import Derived.Test.YtmpgklgjmkcpdaaYa
namespace Go.VC
open Go
/-- The first numbers of some, the rest noughts. -/
def upTo (c : List Nat) (m : Nat) : List Nat := (List.range c.length).map fun j => if j < m then wg c j else 0
theorem upTo_len (c : List Nat) (m : Nat) : (upTo c m).length = c.length := by simp [upTo]
theorem upTo_zero (c : List Nat) : upTo c 0 = List.replicate c.length 0 := by unfold upTo; apply List.ext_getElem <;> simp
theorem upTo_end (c : List Nat) : upTo c c.length = c := by
  apply List.ext_getElem
  · rw [upTo_len]
  · intro j h1 h2
    simp only [upTo, List.getElem_map, List.getElem_range]
    rw [if_pos h2]; unfold wg; rw [List.getElem?_eq_getElem h2]; rfl
theorem upTo_set (c : List Nat) (m : Nat) : (upTo c m).set m (wg c m) = upTo c (m + 1) := by
  unfold upTo
  apply List.ext_getElem
  · simp
  · intro j h1 h2
    rw [List.getElem_set]
    simp only [List.getElem_map, List.getElem_range]
    by_cases e : m = j
    · subst e; simp
    · rw [if_neg e]
      by_cases g : j < m
      · rw [if_pos g, if_pos (by omega)]
      · rw [if_neg g, if_neg (by omega)]
theorem wr_bad {zs : List (List Int)} {m j : Nat} (hm : m < zs.length) (hW : wrG zs = wrG (zs.drop m)) (hA : wrAt zs[m] 0 = wrAt zs[m] j) {e : Int} (he : wrAt zs[m] j = e) (h0 : e ≠ 0) : wrG zs = e := by
  rw [hW, wrG_drop hm, if_pos (by rw [hA, he]; exact h0), hA, he]
theorem wr_next {zs : List (List Int)} {m j : Nat} (hm : m < zs.length) (hW : wrG zs = wrG (zs.drop m)) (hA : wrAt zs[m] 0 = wrAt zs[m] j) (hj : zs[m].length ≤ j) : wrG zs = wrG (zs.drop (m + 1)) := by
  rw [hW, wrG_drop hm, if_neg (by rw [hA, wrAt_end hj]; simp)]
theorem cnts_of {zs : List (List Int)} {gs : List (List Nat)} (h : zs = gs.map zl) : zs.map List.length = cnts gs := by
  subst h
  unfold cnts
  rw [List.map_map]
  apply List.map_congr_left
  intro g _
  exact zl_len g
theorem zzl_inj {a b : List (List Nat)} (h : a.map zl = b.map zl) : a = b := by
  induction a generalizing b with
  | nil => cases b with
    | nil => rfl
    | cons y b => simp at h
  | cons x a ih => cases b with
    | nil => simp at h
    | cons y b =>
      simp only [List.map_cons, List.cons.injEq] at h
      rw [zl_inj h.1, ih h.2]
end Go.VC
namespace Go.Proofs.Ytmpgklgjmkcpdaa.V
open Go Go.VC
variable {w w' w0 : World} {l : Slc} {cs ls : List Nat} {gs : List (List Nat)} {zs : List (List Int)} {s r B n k : Nat} {v : Value}
theorem zl_bnd2 {xs : List Nat} (h : ∀ x ∈ xs, x ≤ 1099511627776) : ∀ z ∈ zl xs, -9223372036854775808 ≤ z ∧ z ≤ 9223372036854775807 := fun z hz => by
  obtain ⟨x, hx, rfl⟩ := List.mem_map.1 hz
  have := h x hx
  omega
theorem rdg_at (h : RdG w l (gs.map zl)) {m : Nat} (hm : m < gs.length) : ∃ (a : Addr) (s : Slc), l.a = some a ∧ w.cell? (Addr.add a ((m : Int).toNat * 1)) = some (.slice s.a s.len s.cap) ∧ RdZ w s (zl gs[m]) := by
  obtain ⟨a, s, ha, hc, hz⟩ := h.at (m := m) (by rw [List.length_map]; exact hm)
  rw [List.getElem_map] at hz
  exact ⟨a, s, ha, hc, hz⟩

theorem wCheck (h : RdG w l zs) (hin : ∀ m (h : m < zs.length), zs[m].length ≤ 1000000) : Is 80 #[.slice l.a l.len l.cap] w (.int .i64 (if 1048576 < zs.length then 12 else wrG zs)) := by
  refine c80 _ _ _ ?_
  unfold B80
  have hl := h.len
  refine br_dec (fun h1 => ⟨by rw [if_pos (by omega)], rfl⟩) (fun h1 => ?_)
  rw [if_neg (by omega)]
  refine ⟨fun i w' => w' = w ∧ ∃ m : Nat, i = m ∧ m ≤ zs.length ∧ wrG zs = wrG (zs.drop m), fun i _ => (l.len - i).toNat, ⟨rfl, 0, rfl, by omega, by rw [List.drop_zero]⟩, ?_⟩
  rintro i w1 ⟨hw, m, rfl, hm, hW⟩
  obtain rfl : w = w1 := hw.symm
  refine br_dec (fun hlt => ?_) (fun hlt => ⟨?_, rfl⟩)
  · have hm' : m < zs.length := by omega
    obtain ⟨a, s, ha, hc, hz⟩ := h.at hm'
    have hzl := hz.len
    have hzn := hin m hm'
    refine ⟨by omega, hlt, a, ha, s, hc, fun j w' => w' = w ∧ ∃ n : Nat, j = n ∧ n ≤ zs[m].length ∧ wrAt zs[m] 0 = wrAt zs[m] n, fun j _ => (s.len - j).toNat, ⟨rfl, 0, rfl, by omega, rfl⟩, ?_⟩
    rintro j w1 ⟨hw, n, rfl, hn, hA⟩
    obtain rfl : w = w1 := hw.symm
    refine br_dec (fun hlt2 => ?_) (fun hlt2 => ?_)
    · have hn' : n < zs[m].length := by omega
      obtain ⟨a2, ha2, hc2⟩ := hz.at (i := (n : Int)) (by omega) hlt2
      have hst := wrAt_step hn'
      rw [Int.toNat_natCast] at hc2
      refine ⟨by omega, hlt2, a2, ha2, _, by rw [Int.toNat_natCast]; exact hc2, br_dec (fun g1 => ⟨?_, rfl⟩) (fun g1 => br_dec (fun g2 => ⟨?_, rfl⟩) (fun g2 => ?_))⟩
      · rw [wr_bad hm' hW hA (by rw [hst, if_pos (.inl g1)]) (by decide)]
      · rw [wr_bad hm' hW hA (by rw [hst, if_pos (.inr (by omega))]) (by decide)]
      · rw [if_neg (by omega)] at hst
        have stp : ¬ (0 < n ∧ wz zs[m] n ≤ wz zs[m] (n - 1)) → (w = w ∧ ∃ k : Nat, IntKind.i64.wrap ((n : Int) + 1) = k ∧ k ≤ zs[m].length ∧ wrAt zs[m] 0 = wrAt zs[m] k) ∧ (s.len - IntKind.i64.wrap ((n : Int) + 1)).toNat < (s.len - (n : Int)).toNat := fun hh => by
          rw [if_neg hh] at hst
          rw [w64 (x := (n : Int) + 1) ⟨by omega, by omega⟩]
          exact ⟨⟨rfl, n + 1, by omega, by omega, by rw [hA, hst]⟩, by omega⟩
        refine br_dec (fun g3 => ?_) (fun g3 => stp (by omega))
        have e1 : IntKind.i64.wrap ((n : Int) - 1) = ((n - 1 : Nat) : Int) := by rw [w64 ⟨by omega, by omega⟩]; omega
        rw [e1]
        obtain ⟨a3, ha3, hc3⟩ := hz.at (i := ((n - 1 : Nat) : Int)) (by omega) (by omega)
        rw [Int.toNat_natCast] at hc3
        refine ⟨by omega, by omega, a3, ha3, _, by rw [Int.toNat_natCast]; exact hc3, br_dec (fun g4 => ⟨?_, rfl⟩) (fun g4 => stp (fun hh => g4 hh.2))⟩
        rw [wr_bad hm' hW hA (by rw [hst, if_pos ⟨by omega, g4⟩]) (by decide)]
    · rw [w64 (x := (m : Int) + 1) ⟨by omega, by omega⟩]
      exact ⟨⟨rfl, m + 1, by omega, by omega, wr_next hm' hW hA (by omega)⟩, by dsimp only; omega⟩
  · obtain rfl : m = zs.length := by omega
    rw [hW, List.drop_length]; rfl

theorem rWrong33 (h : RdG w l zs) (hsz : zs.length ≤ 1048576) (hin : ∀ m (h : m < zs.length), zs[m].length ≤ 1000000) : Is 28 #[.slice l.a l.len l.cap] w (.int .i64 (wrG zs)) := by
  refine c28 _ _ _ ?_
  unfold B28
  have hl := h.len
  refine ⟨fun i w' => w' = w ∧ ∃ m : Nat, i = m ∧ m ≤ zs.length ∧ wrG zs = wrG (zs.drop m), fun i _ => (l.len - i).toNat, ⟨rfl, 0, rfl, by omega, by rw [List.drop_zero]⟩, ?_⟩
  rintro i w1 ⟨hw, m, rfl, hm, hW⟩
  obtain rfl : w = w1 := hw.symm
  refine br_dec (fun hlt => ?_) (fun hlt => ⟨?_, rfl⟩)
  · have hm' : m < zs.length := by omega
    obtain ⟨a, s, ha, hc, hz⟩ := h.at hm'
    have hzl := hz.len
    have hzn := hin m hm'
    have h0m : (0 : Int) ≤ (m : Int) := by omega
    refine ⟨fun j w' => w' = w ∧ ∃ n : Nat, j = n ∧ n ≤ zs[m].length ∧ wrAt zs[m] 0 = wrAt zs[m] n, fun j _ => (s.len - j).toNat, ⟨rfl, 0, rfl, by omega, rfl⟩, ?_⟩
    rintro j w1 ⟨hw, n, rfl, hn, hA⟩
    obtain rfl : w = w1 := hw.symm
    refine ⟨h0m, hlt, a, ha, s, hc, br_dec (fun hlt2 => ?_) (fun hlt2 => ?_)⟩
    · have hn' : n < zs[m].length := by omega
      obtain ⟨a2, ha2, hc2⟩ := hz.at (i := (n : Int)) (by omega) hlt2
      have hst := wrAt_step hn'
      rw [Int.toNat_natCast] at hc2
      refine ⟨h0m, hlt, a, ha, s, hc, by omega, hlt2, a2, ha2, _, by rw [Int.toNat_natCast]; exact hc2, br_dec (fun g1 => ⟨?_, rfl⟩) (fun g1 => br_dec (fun g2 => ⟨?_, rfl⟩) (fun g2 => ?_))⟩
      · rw [wr_bad hm' hW hA (by rw [hst, if_pos (.inl g1)]) (by decide)]
      · rw [wr_bad hm' hW hA (by rw [hst, if_pos (.inr (by omega))]) (by decide)]
      · rw [if_neg (by omega)] at hst
        have stp : ¬ (0 < n ∧ wz zs[m] n ≤ wz zs[m] (n - 1)) → (w = w ∧ ∃ k : Nat, IntKind.i64.wrap ((n : Int) + 1) = k ∧ k ≤ zs[m].length ∧ wrAt zs[m] 0 = wrAt zs[m] k) ∧ (s.len - IntKind.i64.wrap ((n : Int) + 1)).toNat < (s.len - (n : Int)).toNat := fun hh => by
          rw [if_neg hh] at hst
          rw [w64 (x := (n : Int) + 1) ⟨by omega, by omega⟩]
          exact ⟨⟨rfl, n + 1, by omega, by omega, by rw [hA, hst]⟩, by omega⟩
        refine br_dec (fun g3 => ?_) (fun g3 => stp (by omega))
        have e1 : IntKind.i64.wrap ((n : Int) - 1) = ((n - 1 : Nat) : Int) := by rw [w64 ⟨by omega, by omega⟩]; omega
        rw [e1]
        obtain ⟨a3, ha3, hc3⟩ := hz.at (i := ((n - 1 : Nat) : Int)) (by omega) (by omega)
        rw [Int.toNat_natCast] at hc3
        refine ⟨h0m, hlt, a, ha, s, hc, by omega, by omega, a3, ha3, _, by rw [Int.toNat_natCast]; exact hc3, br_dec (fun g4 => ⟨?_, rfl⟩) (fun g4 => stp (fun hh => g4 hh.2))⟩
        rw [wr_bad hm' hW hA (by rw [hst, if_pos ⟨by omega, g4⟩]) (by decide)]
    · rw [w64 (x := (m : Int) + 1) ⟨by omega, by omega⟩]
      exact ⟨⟨rfl, m + 1, by omega, by omega, wr_next hm' hW hA (by omega)⟩, by dsimp only; omega⟩
  · obtain rfl : m = zs.length := by omega
    rw [hW, List.drop_length]; rfl

/-- The inner loop of 'New': a group is put behind the chain. -/
def NLoop (g : Slc) (b : Int) (x : Slc) (w : World) (Q : Slc → World → Prop) : Prop :=
  ∃ (I16 : Slc → Int → World → Prop) (μ17 : Slc → Int → World → Nat), I16 x (0 : Int) w ∧
    ∀ x18 : Slc, ∀ x19 : Int, ∀ w20 : World, I16 x18 x19 w20 → br (decide (x19 < (g.len : Int))) (0 ≤ x19 ∧ x19 < (g.len : Int) ∧ ∃ a21, g.a = some a21 ∧
    ∃ n22 : Int, w20.cell? (Addr.add a21 (x19.toNat * 1)) = some (.int .i64 n22) ∧
    ∃ w23 : World, ∃ l24 : Slc, (Builtin.append_ #[22, 22] 22 #[.slice x18.a x18.len x18.cap, .slice (some ⟨w20.heap.size, 0, none⟩) 1 1]).run Try.prog (w20.alloc (.cells #[.int .i64 (IntKind.i64.wrap (b + n22))] 3)) = .ok (.slice l24.a l24.len l24.cap) w23 ∧
    I16 l24 (IntKind.i64.wrap (x19 + 1)) w23 ∧ μ17 l24 (IntKind.i64.wrap (x19 + 1)) w23 < μ17 x18 x19 w20) (Q x18 w20)
theorem nLoop {g x : Slc} {c ns : List Nat} {b : Nat} {bi : Int} {Q : Slc → World → Prop} (hbi : bi = (b : Int)) (hz : RdZ w0 g (zl ns)) (k0 : Kp no w0 w) (hO : Ownd w x 3 1 ((zl c).map (Value.int .i64))) (hx : x.len = c.length) (hf : ∀ k, On x k → w0.heap.size ≤ k)
    (hb : b ≤ 1099511627776) (hn : ∀ v ∈ ns, v ≤ 1099511627776) (hl : c.length + ns.length ≤ 1000000000)
    (hQ : ∀ x' w', Ownd w' x' 3 1 ((zl (c ++ ns.map (b + ·))).map (Value.int .i64)) → x'.len = (c ++ ns.map (b + ·)).length → Kp (On x) w w' → (∀ k, On x' k → On x k ∨ w.heap.size ≤ k) → Q x' w') : NLoop g bi x w Q := by
  subst hbi
  have hgl := hz.len
  rw [zl_len] at hgl
  refine ⟨fun y j w' => ∃ n : Nat, j = n ∧ n ≤ ns.length ∧ Ownd w' y 3 1 ((zl (c ++ (ns.take n).map (b + ·))).map (Value.int .i64)) ∧ y.len = c.length + n ∧ Kp (On x) w w' ∧ (∀ k, On y k → On x k ∨ w.heap.size ≤ k), fun _ j _ => (g.len - j).toNat,
    ⟨0, rfl, by omega, by simpa using hO, by omega, Kp.refl _ _, fun k hk => .inl hk⟩, ?_⟩
  rintro y j w1 ⟨n, rfl, hn', hO1, hyl, k1, f1⟩
  have k01 : Kp no w0 w1 := k0.trans k1 (fun k h1 h2 => by have := hf k h2; omega)
  refine br_dec (fun hlt => ?_) (fun hlt => ?_)
  · have hnl : n < ns.length := by omega
    obtain ⟨a, ha, hc⟩ := (hz.kpo k01).at (i := (n : Int)) (by omega) hlt
    rw [wz_zl, Int.toNat_natCast] at hc
    have hv := hn _ (wg_memN hnl)
    refine ⟨by omega, hlt, a, ha, _, by rw [Int.toNat_natCast]; exact hc, ?_⟩
    rw [w64 (x := (b : Int) + (wg ns n : Int)) ⟨by omega, by omega⟩, ← Int.natCast_add]
    obtain ⟨w2, y2, hr2, hO2, hl2, k2, f2⟩ := append_one (ty := 22) elI hO1 (.int .i64 ((b + wg ns n : Nat) : Int)) rfl (by simp only [maxLen]; omega) (by omega)
    have e : (zl (c ++ (ns.take (n + 1)).map (b + ·))).map (Value.int .i64) = (zl (c ++ (ns.take n).map (b + ·))).map (Value.int .i64) ++ [.int .i64 ((b + wg ns n : Nat) : Int)] := by
      rw [take_wg hnl]; simp
    rw [← e] at hO2
    rw [w64 (x := (n : Int) + 1) ⟨by omega, by omega⟩]
    refine ⟨w2, y2, hr2, ⟨n + 1, by omega, by omega, hO2, by omega, k1.trans k2 (fun k h1 h2 => ?_), fun k hk => ?_⟩, by dsimp only; omega⟩
    · rcases f1 k h2 with g | g
      · exact g
      · omega
    · rcases f2 k hk with g | g
      · exact f1 k g
      · have := k1.size; exact .inr (by omega)
  · obtain rfl : n = ns.length := by omega
    rw [List.take_length] at hO1
    exact hQ y w1 hO1 (by rw [List.length_append, List.length_map]; exact hyl) k1 f1

set_option maxHeartbeats 1000000 in
theorem wNew (h : RdG w l zs) (hin : ∀ m (h : m < zs.length), zs[m].length ≤ 1000000) (hsz : (zs.map List.length).sum ≤ 100000000) : Calls Try.prog 30 #[.slice l.a l.len l.cap] w (Rv fun v w' => Kp no w w' ∧
    ((∃ e : Int, v = .tuple #[.pointer none, .int .i64 e] ∧ e ≠ 0 ∧ e = (if 1048576 < zs.length then 12 else wrG zs)) ∨ (∃ r gs, v = .tuple #[.pointer (some ⟨r, 0, none⟩), .int .i64 0] ∧ zs = gs.map zl ∧ wrG zs = 0 ∧ RowsB w' r gs w.heap.size))) := by
  refine c30 _ _ _ ?_
  unfold B30
  have hl := h.len
  refine usei (wCheck h hin) ⟨_, rfl, ?_⟩
  refine br_not (br_dec (fun h0 => ?_) (fun h0 => ⟨Kp.refl _ _, .inl ⟨_, rfl, h0, rfl⟩⟩))
  have hz1 : zs.length ≤ 1048576 := by
    by_cases g : 1048576 < zs.length
    · rw [if_pos g] at h0; omega
    · omega
  rw [if_neg (by omega)] at h0
  obtain ⟨gs, rfl, hg⟩ := wrG_good h0
  rw [cnts_of rfl] at hsz
  rw [List.length_map] at hl hz1
  have hcl := cnts_len gs
  obtain ⟨w4, l5, hr4, hl5, hO4, k4, f4⟩ := make_own (z := .int .i64 0) (bytes := 8) undZ (by kernel_rfl) (by kernel_rfl) rfl w l.len (by omega) (by omega)
  have hs4 := k4.size
  have hO : Ownd w4 l5 3 1 ((zl (upTo (cnts gs) 0)).map (Value.int .i64)) := by
    rw [upTo_zero, hcl, hl]
    simpa using hO4
  have hw4 : ∀ k, On l5 k → k < w4.heap.size := fun k hk => hO.on hk
  have hclen := chain_len gs
  refine ⟨w4, l5, hr4, fun x i w' => ∃ m : Nat, i = m ∧ m ≤ gs.length ∧ Ownd w' l5 3 1 ((zl (upTo (cnts gs) m)).map (Value.int .i64)) ∧ Ownd w' x 3 1 ((zl (chT gs m)).map (Value.int .i64)) ∧ x.len = (chT gs m).length ∧ (∀ k, On x k → w4.heap.size ≤ k) ∧ Kp no w w' ∧ w4.heap.size ≤ w'.heap.size, fun _ i _ => (l.len - i).toNat,
    ⟨0, rfl, by omega, hO, Ownd.nil _ _ _, rfl, fun _ h => absurd h On.nil, k4, Nat.le_refl _⟩, ?_⟩
  rintro x i w5 ⟨m, rfl, hm, hO5, hX5, hxl, hf5, k5, hs45⟩
  have hs5 := k5.size
  refine br_dec (fun hlt => ?_) (fun hlt => ?_)
  · have hm' : m < gs.length := by omega
    have hmc : m < (cnts gs).length := by omega
    obtain ⟨a, s, ha, hc, hz⟩ := rdg_at (h.kpo k5) hm'
    have hzl := hz.len
    rw [zl_len] at hzl
    obtain ⟨a2, ha2, hc2, hf2, hset⟩ := hO5.at (i := m) (by rw [List.length_map, zl_len, upTo_len]; exact hmc)
    have e2 : ((s.len : Nat) : Int) = ((wg (cnts gs) m : Nat) : Int) := by rw [cnts_at hm']; omega
    have hset2 := hset (.int .i64 ((s.len : Nat) : Int))
    have e1 : ((zl (upTo (cnts gs) m)).map (Value.int .i64)).set m (.int .i64 ((s.len : Nat) : Int)) = (zl (upTo (cnts gs) (m + 1))).map (Value.int .i64) := by
      rw [e2, ← upTo_set, ← List.map_set, ← List.map_set]
    rw [e1] at hset2
    have hon : On l5 a2.block := ⟨a2, ha2, rfl⟩
    have hna : ¬ On x a2.block := fun hh => by have := hf5 _ hh; have := hw4 _ hon; omega
    have hX6 := hX5.set_other (Addr.add a2 m) (.int .i64 ((s.len : Nat) : Int)) (by rw [add_block]; exact hna)
    have k6 : Kp (fun k => k = a2.block) w5 (w5.setCell (Addr.add a2 m) (.int .i64 ((s.len : Nat) : Int))) := (Kp.refl _ _).set _ _ (fun _ => by rw [add_block])
    have hge : ∀ k, On l5 k → w.heap.size ≤ k := fun k hk => by have := f4 k hk; omega
    have kw6 : Kp no w (w5.setCell (Addr.add a2 m) (.int .i64 ((s.len : Nat) : Int))) := k5.trans k6 (fun k h1 h2 => by have := hge _ hon; omega)
    have hs6 := k6.size
    have hlen5 : l5.len = gs.length := by omega
    refine ⟨by omega, hlt, a, ha, s, hc, by omega, by omega, a2, ha2, ?_⟩
    rw [Int.toNat_natCast, Nat.mul_one]
    refine ⟨⟨_, hc2⟩, hf2, ?_⟩
    have hzw : RdZ w s (zl gs[m]) := by
      obtain ⟨a', s', ha', hc', hz'⟩ := rdg_at h hm'
      have q1 := kp_cell hc' k5
      rw [ha] at ha'
      obtain rfl := Option.some.inj ha'
      rw [hc] at q1
      have q2 := Option.some.inj q1
      injection q2 with e1 e2 e3
      have : s = s' := by cases s; cases s'; simp_all
      rw [this]; exact hz'
    generalize w5.setCell (Addr.add a2 m) (.int .i64 ((s.len : Nat) : Int)) = w6 at *
    have hG := hg gs[m] (List.getElem_mem hm')
    obtain ⟨hinc, hnb⟩ := chT_inc hg m (by omega)
    have hcm := chT_len gs m (by omega)
    have hcm1 := chT_len gs (m + 1) (by omega)
    have hS := S0_succ hmc
    rw [cnts_at hm'] at hS
    have hsum : S0 (cnts gs) (m + 1) ≤ (cnts gs).sum := S0_le
    have after : ∀ bi : Int, bi = (nextB (chT gs m) : Int) → NLoop s bi x w6 (fun x18 w20 => (∃ k : Nat, IntKind.i64.wrap ((m : Int) + 1) = k ∧ k ≤ gs.length ∧ Ownd w20 l5 3 1 ((zl (upTo (cnts gs) k)).map (Value.int .i64)) ∧ Ownd w20 x18 3 1 ((zl (chT gs k)).map (Value.int .i64)) ∧ x18.len = (chT gs k).length ∧ (∀ k, On x18 k → w4.heap.size ≤ k) ∧ Kp no w w20 ∧ w4.heap.size ≤ w20.heap.size) ∧ (l.len - IntKind.i64.wrap ((m : Int) + 1)).toNat < (l.len - (m : Int)).toNat) := fun bi hbi => by
      refine nLoop (b := nextB (chT gs m)) hbi hzw kw6 hX6 hxl (fun k hk => by have := hf5 k hk; omega) (by omega) (fun v hv => by have := hG.1 v hv; omega) (by omega) ?_
      intro x' w' hO' hx' k' f'
      rw [← chT_succ hm'] at hO' hx'
      rw [w64 (x := (m : Int) + 1) ⟨by omega, by omega⟩]
      refine ⟨⟨m + 1, by omega, by omega, hset2.kp k' (fun k h1 h2 => by have := hf5 k h2; have := hw4 k h1; omega), hO', hx', fun k hk => ?_, kw6.trans k' (fun k h1 h2 => by have := hf5 k h2; omega), by have := k'.size; omega⟩, by omega⟩
      rcases f' k hk with g | g
      · exact hf5 k g
      · omega
    have hXz := ownZ hX6 (fun z hz => by
      obtain ⟨y, hy, rfl⟩ := List.mem_map.1 hz
      obtain ⟨i, hi, rfl⟩ := List.getElem_of_mem hy
      have : wg (chainOf gs) i = (chT gs m)[i] := by
        rw [← chT_all, chT_pre (by omega) (Nat.le_refl _) i hi]; unfold wg; rw [List.getElem?_eq_getElem hi]; rfl
      have := wg_le (chain_good hg (by omega)) i
      omega)
    refine br_dec (fun h1 => ?_) (fun h1 => ?_)
    · have e3 : IntKind.i64.wrap ((x.len : Int) - 1) = ((x.len - 1 : Nat) : Int) := by rw [w64 ⟨by omega, by omega⟩]; omega
      rw [e3]
      obtain ⟨a4, ha4, hc4⟩ := hXz.at (i := ((x.len - 1 : Nat) : Int)) (by omega) (by omega)
      rw [wz_zl, Int.toNat_natCast] at hc4
      have hnx : nextB (chT gs m) = wg (chT gs m) (x.len - 1) + 1 := by unfold nextB; rw [if_neg (by omega), hxl]
      have key := after (IntKind.i64.wrap (((wg (chT gs m) (x.len - 1) : Nat) : Int) + 1)) (by rw [w64 ⟨by omega, by omega⟩]; omega)
      unfold NLoop at key
      exact ⟨by omega, by omega, a4, ha4, _, by rw [Int.toNat_natCast]; exact hc4, key⟩
    · have hnx : nextB (chT gs m) = 0 := by unfold nextB; rw [if_pos (by omega)]
      have key := after 0 (by omega)
      unfold NLoop at key
      exact key
  · obtain rfl : m = gs.length := by omega
    have hS4 : w4.heap.size ≤ w5.heap.size ∨ True := .inr trivial
    rw [chT_all] at hX5 hxl
    rw [← hcl, upTo_end] at hO5
    have hCg := chain_good hg (by omega)
    have hb := Blk.new w5 [.pointer none, .pointer none] 94
    have k6 : Kp no w5 (w5.alloc (.cells #[.pointer none, .pointer none] 94)) := (Kp.refl _ _).alloc _ _
    have z6 : (w5.alloc (.cells #[.pointer none, .pointer none] 94)).heap.size = w5.heap.size + 1 := World.size_alloc _ _
    generalize w5.alloc (.cells #[.pointer none, .pointer none] 94) = w6 at *
    generalize hr : w5.heap.size = r at *
    have hC6 : RdZ w6 l5 (zl (cnts gs)) := (ownZ hO5 (fun z hz => by
      obtain ⟨y, hy, rfl⟩ := List.mem_map.1 hz
      obtain ⟨i, hi, rfl⟩ := List.getElem_of_mem hy
      have e : (cnts gs)[i] = wg (cnts gs) i := by unfold wg; rw [List.getElem?_eq_getElem hi]; rfl
      have h1 := S0_succ hi
      have h2 : S0 (cnts gs) (i + 1) ≤ (cnts gs).sum := S0_le
      omega)).kpo k6
    refine use (xNew0 hC6 (by omega) (by omega)) ?_
    rintro _ w7 ⟨k7, p, rfl, hp⟩
    have b7 := hb.kp k7 id
    have hs7 := k7.size
    refine ⟨_, _, rfl, ⟨_, b7.cell 0⟩, b7.frozen 0, ?_⟩
    have k8 : Kp (fun k => k = r) w7 (w7.setCell (Addr.add ⟨r, 0, none⟩ 0) (.pointer (some ⟨p, 0, none⟩))) := (Kp.refl _ _).set _ _ (fun _ => by rw [add_block])
    have b8 := b7.set 0 (.pointer (some ⟨p, 0, none⟩))
    have hs8 := k8.size
    generalize w7.setCell (Addr.add ⟨r, 0, none⟩ 0) (.pointer (some ⟨p, 0, none⟩)) = w8 at *
    have hX8 : RdZ w8 x (zl (chainOf gs)) := ((ownZ hX5 (zl_bnd2 hCg.2)).kpo (k6.t k7)).kp k8 (fun k h1 h2 => by have := hX5.on h1; omega)
    refine use (eNew0 hX8 (by rw [zl_len]; omega) (.inl ⟨rfl, okE_of hCg⟩)) ?_
    rintro _ w9 ⟨k9, s, ls', rfl, hz, hs⟩
    obtain rfl := zl_inj hz
    have b9 := b8.kp k9 id
    have hs9 := k9.size
    refine ⟨_, _, rfl, ⟨_, b9.cell 1⟩, b9.frozen 1, ?_⟩
    have k10 : Kp (fun k => k = r) w9 (w9.setCell (Addr.add ⟨r, 0, none⟩ 1) (.pointer (some ⟨s, 0, none⟩))) := (Kp.refl _ _).set _ _ (fun _ => by rw [add_block])
    have b10 := b9.set 1 (.pointer (some ⟨s, 0, none⟩))
    generalize w9.setCell (Addr.add ⟨r, 0, none⟩ 1) (.pointer (some ⟨s, 0, none⟩)) = w10 at *
    have k710 : Kp (fun k => k = r) w7 w10 := (k8.trans (k9.mono (S' := fun k => k = r) (fun _ _ f => f.elim)) (fun _ _ h => h)).trans k10 (fun _ _ h => h)
    have kall : Kp no w w10 := ((k5.t k6).t k7).trans k710 (fun k h1 h2 => by have h2 : k = r := h2; omega)
    refine ⟨kall, .inr ⟨r, gs, rfl, rfl, h0, ⟨p, s, b10, (hp.kp k710 (fun k h1 h2 => by have h2 : k = r := h2; omega)).low (by omega), (hs.kp k10 (fun k h1 h2 => by have h2 : k = r := h2; omega)).low (by omega), by omega, by omega, by omega⟩, hg⟩⟩
end Go.Proofs.Ytmpgklgjmkcpdaa.V
