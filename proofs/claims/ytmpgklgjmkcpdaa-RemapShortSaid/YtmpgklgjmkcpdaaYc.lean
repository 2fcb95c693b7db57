/- Rows: what the document's functions tell; two laws. -/
import Derived.Test.YtmpgklgjmkcpdaaYb
namespace Go.VC
open Go
theorem sum_leN {l : List Nat} {c : Nat} (h : ∀ x ∈ l, x ≤ c) : l.sum ≤ c * l.length := by
  induction l with
  | nil => simp
  | cons x l ih =>
    have h1 := ih (fun y hy => h y (List.mem_cons_of_mem _ hy))
    have h2 := h x (by simp)
    rw [List.sum_cons, List.length_cons, Nat.mul_add]; omega
end Go.VC
namespace Go.Proofs.Ytmpgklgjmkcpdaa.V
open Go Go.VC
variable {w w' w0 : World} {l : Slc} {cs ls : List Nat} {gs : List (List Nat)} {zs : List (List Int)} {s r B n k : Nat} {v : Value}

theorem rSmall33 (h : RdG w l zs) : Calls Try.prog 27 #[.slice l.a l.len l.cap] w (Rv fun v w' => w' = w ∧ ∃ b : Bool, v = .bool b ∧ (b = true → zs.length ≤ 30 ∧ ∀ m (hm : m < zs.length), zs[m].length ≤ 20)) := by
  refine c27 _ _ _ ?_
  unfold B27
  have hl := h.len
  refine br_dec (fun h1 => ⟨rfl, _, rfl, fun e => by cases e⟩) (fun h1 => ?_)
  refine ⟨fun i w' => w' = w ∧ ∃ m : Nat, i = m ∧ m ≤ zs.length ∧ ∀ j (hj : j < zs.length), j < m → zs[j].length ≤ 20, fun i _ => (l.len - i).toNat, ⟨rfl, 0, rfl, by omega, fun j _ hj => by omega⟩, ?_⟩
  rintro i w1 ⟨hw, m, rfl, hm, hs⟩
  obtain rfl : w = w1 := hw.symm
  refine br_dec (fun hlt => ?_) (fun hlt => ⟨rfl, _, rfl, fun _ => ⟨by omega, fun j hj => hs j hj (by omega)⟩⟩)
  have hm' : m < zs.length := by omega
  obtain ⟨a, s, ha, hc, hz⟩ := h.at hm'
  have hzl := hz.len
  refine ⟨by omega, hlt, a, ha, s, hc, br_dec (fun g1 => ⟨rfl, _, rfl, fun e => by cases e⟩) (fun g1 => ?_)⟩
  rw [w64 (x := (m : Int) + 1) ⟨by omega, by omega⟩]
  refine ⟨⟨rfl, m + 1, by omega, by omega, fun j hj hjm => ?_⟩, by dsimp only; omega⟩
  by_cases e : j = m
  · subst e; omega
  · exact hs j hj (by omega)

theorem rFirst33 (h : RdG w l (gs.map zl)) (hsz : (cnts gs).sum ≤ 1000000000) {g : Nat} (hg : g ≤ gs.length) (hgz : g ≤ 1000000000) {gi : Int} (hgi : gi = (g : Int)) : Is 34 #[.slice l.a l.len l.cap, .int .i64 gi] w (.int .i64 (S0 (cnts gs) g : Int)) := by
  subst hgi
  refine c34 _ _ _ _ ?_
  unfold B34
  have hl := h.len
  rw [List.length_map] at hl
  refine ⟨fun x i w' => w' = w ∧ ∃ m : Nat, i = m ∧ m ≤ g ∧ x = (S0 (cnts gs) m : Int), fun _ i _ => (g - i).toNat, ⟨rfl, 0, rfl, by omega, by rw [S0_zero]; rfl⟩, ?_⟩
  rintro x i w1 ⟨hw, m, rfl, hm, rfl⟩
  obtain rfl : w = w1 := hw.symm
  refine br_dec (fun hlt => ?_) (fun hlt => ?_)
  · have hm' : m < gs.length := by omega
    obtain ⟨a, s, ha, hc, hz⟩ := rdg_at h hm'
    have hzl := hz.len
    rw [zl_len] at hzl
    have hS := S0_succ (l := cnts gs) (m := m) (by rw [cnts_len]; exact hm')
    rw [cnts_at hm'] at hS
    have hle : S0 (cnts gs) (m + 1) ≤ (cnts gs).sum := S0_le
    refine ⟨by omega, by omega, a, ha, s, hc, ?_⟩
    rw [w64 (x := (m : Int) + 1) ⟨by omega, by omega⟩, w64 (x := (S0 (cnts gs) m : Int) + (s.len : Int)) ⟨by omega, by omega⟩]
    exact ⟨⟨rfl, m + 1, by omega, by omega, by omega⟩, by dsimp only; omega⟩
  · obtain rfl : m = g := by omega
    exact ⟨rfl, rfl⟩

theorem rPlace33 (h : RdG w l (gs.map zl)) (hgl : gs.length ≤ 1000000000) {i : Int} (hi : i ≤ 9223372036854775807) : Calls Try.prog 35 #[.slice l.a l.len l.cap, .int .i64 i] w (Rv fun v w' => Kp no w w' ∧ ∃ g x : Int, v = .tuple #[.int .i64 g, .int .i64 x] ∧ PlcG gs i g x) := by
  refine c35 _ _ _ _ ?_
  unfold B35
  have hl := h.len
  rw [List.length_map] at hl
  refine br_dec (fun h1 => ⟨Kp.refl _ _, _, _, rfl, .inl ⟨rfl, rfl, .inl h1⟩⟩) (fun h1 => ?_)
  refine ⟨fun x j w' => w' = w ∧ ∃ m : Nat, j = m ∧ m ≤ gs.length ∧ x = i - (S0 (cnts gs) m : Int) ∧ 0 ≤ x, fun _ j _ => (l.len - j).toNat, ⟨rfl, 0, rfl, by omega, by rw [S0_zero]; omega, by omega⟩, ?_⟩
  rintro x j w1 ⟨hw, m, rfl, hm, hx, hx0⟩
  obtain rfl : w = w1 := hw.symm
  refine br_dec (fun hlt => ?_) (fun hlt => ⟨Kp.refl _ _, _, _, rfl, .inl ⟨rfl, rfl, .inr ?_⟩⟩)
  · have hm' : m < gs.length := by omega
    obtain ⟨a, s, ha, hc, hz⟩ := rdg_at h hm'
    have hzl := hz.len
    rw [zl_len] at hzl
    have hS := S0_succ (l := cnts gs) (m := m) (by rw [cnts_len]; exact hm')
    rw [cnts_at hm'] at hS
    have k0 : Kp no w w.drew := (Kp.refl no w).drew
    have h00 : (0 : Int) ≤ (m : Int) := by omega
    refine ⟨h00, hlt, a, ha, s, hc, br_dec (fun g1 => ?_) (fun g1 => ?_)⟩
    · obtain ⟨a2, ha2, hc2⟩ := (hz.kpo k0).at (i := x) hx0 g1
      refine ⟨h00, hlt, a, ha, s, kp_cell hc k0, hx0, g1, a2, ha2, _, hc2, k0, _, _, rfl, .inr ⟨m, hm', rfl, by omega, by omega, ?_⟩⟩
      rw [wz_zl]
      congr 2
      omega
    · refine ⟨h00, hlt, a, ha, s, hc, ?_⟩
      rw [w64 (x := (m : Int) + 1) ⟨by omega, by omega⟩, w64 (x := x - (s.len : Int)) ⟨by omega, by omega⟩]
      exact ⟨⟨rfl, m + 1, by omega, by omega, by omega, by omega⟩, by dsimp only; omega⟩
  · obtain rfl : m = gs.length := by omega
    have := S0_all (cnts gs)
    rw [cnts_len] at this
    omega

theorem rWhere33 (h : RdG w l (gs.map zl)) (hsz : (cnts gs).sum ≤ 1000000000) (hgl : gs.length ≤ 1000000000) (g x : Int) : Calls Try.prog 33 #[.slice l.a l.len l.cap, .int .i64 g, .int .i64 x] w (Rv fun v w' => w' = w ∧ ∃ y : Int, v = .int .i64 y ∧ WhP gs g x y) := by
  refine c33 _ _ _ _ _ ?_
  unfold B33
  have hl := h.len
  rw [List.length_map] at hl
  refine br_dec (fun h1 => ⟨rfl, _, rfl, .inl ⟨rfl, by omega⟩⟩) (fun h1 => br_dec (fun h2 => ⟨rfl, _, rfl, .inl ⟨rfl, by omega⟩⟩) (fun h2 => ?_))
  obtain ⟨m, rfl⟩ : ∃ m : Nat, g = m := ⟨g.toNat, by omega⟩
  have hm' : m < gs.length := by omega
  obtain ⟨a, s, ha, hc, hz⟩ := rdg_at h hm'
  have hzl := hz.len
  rw [zl_len] at hzl
  have hS := S0_succ (l := cnts gs) (m := m) (by rw [cnts_len]; exact hm')
  rw [cnts_at hm'] at hS
  have hle : S0 (cnts gs) (m + 1) ≤ (cnts gs).sum := S0_le
  have h00 : (0 : Int) ≤ (m : Int) := by omega
  have hml : (m : Int) < (l.len : Int) := by omega
  refine ⟨fun j w' => w' = w ∧ ∃ n : Nat, j = n ∧ n ≤ gs[m].length ∧ ∀ i, i < n → (wg gs[m] i : Int) ≠ x, fun j _ => (s.len - j).toNat, ⟨rfl, 0, rfl, by omega, fun i hi => by omega⟩, ?_⟩
  rintro j w1 ⟨hw, n, rfl, hn, hno⟩
  obtain rfl : w = w1 := hw.symm
  refine ⟨h00, hml, a, ha, s, hc, br_dec (fun hlt => ?_) (fun hlt => ⟨rfl, _, rfl, .inr ⟨m, rfl, hm', .inl ⟨rfl, fun i hi => hno i (by omega)⟩⟩⟩)⟩
  obtain ⟨a2, ha2, hc2⟩ := hz.at (i := (n : Int)) (by omega) hlt
  rw [wz_zl, Int.toNat_natCast] at hc2
  refine ⟨h00, hml, a, ha, s, hc, by omega, hlt, a2, ha2, _, by rw [Int.toNat_natCast]; exact hc2, br_dec (fun g1 => ?_) (fun g1 => ?_)⟩
  · refine usei (rFirst33 h hsz (g := m) (by omega) (by omega) rfl) ⟨_, rfl, rfl, _, rfl, .inr ⟨m, rfl, hm', .inr ⟨n, by omega, g1, ?_⟩⟩⟩
    rw [w64 ⟨by omega, by omega⟩]
  · rw [w64 (x := (n : Int) + 1) ⟨by omega, by omega⟩]
    refine ⟨⟨rfl, n + 1, by omega, by omega, fun i hi => ?_⟩, by dsimp only; omega⟩
    by_cases e : i = n
    · subst e; exact g1
    · exact hno i (by omega)

theorem rCounts33 (h : RdG w l (gs.map zl)) (hsz : (cnts gs).sum ≤ 1000000000) (hgl : gs.length ≤ 1000000) : Calls Try.prog 44 #[.slice l.a l.len l.cap] w (Rv fun v w' => Kp no w w' ∧ ∃ o : Slc, v = .slice o.a o.len o.cap ∧ RdZ w' o (zl (cnts gs))) := by
  refine c44 _ _ _ ?_
  unfold B44
  have hl := h.len
  rw [List.length_map] at hl
  have hcl := cnts_len gs
  refine ⟨fun x i w' => ∃ m : Nat, i = m ∧ m ≤ gs.length ∧ Ownd w' x 3 1 ((zl ((cnts gs).take m)).map (Value.int .i64)) ∧ x.len = m ∧ (∀ k, On x k → w.heap.size ≤ k) ∧ Kp no w w', fun _ i _ => (l.len - i).toNat,
    ⟨0, rfl, by omega, Ownd.nil _ _ _, rfl, fun _ h => absurd h On.nil, Kp.refl _ _⟩, ?_⟩
  rintro x i w1 ⟨m, rfl, hm, hO, hxl, hf, k1⟩
  refine br_dec (fun hlt => ?_) (fun hlt => ?_)
  · have hm' : m < gs.length := by omega
    obtain ⟨a, s, ha, hc, hz⟩ := rdg_at (h.kpo k1) hm'
    have hzl := hz.len
    rw [zl_len] at hzl
    obtain ⟨w2, x2, hr2, hO2, hl2, k2, f2⟩ := append_one (ty := 22) elI hO (.int .i64 (s.len : Int)) rfl (by simp only [maxLen]; omega) (by omega)
    have e : (zl ((cnts gs).take (m + 1))).map (Value.int .i64) = (zl ((cnts gs).take m)).map (Value.int .i64) ++ [.int .i64 (s.len : Int)] := by
      rw [take_wg (by omega), cnts_at hm', hzl]; simp
    rw [← e] at hO2
    refine ⟨by omega, hlt, a, ha, s, hc, w2, x2, hr2, ?_⟩
    rw [w64 (x := (m : Int) + 1) ⟨by omega, by omega⟩]
    refine ⟨⟨m + 1, by omega, by omega, hO2, by omega, fun k hk => ?_, k1.trans k2 (fun k h1 h2 => by have := hf k h2; omega)⟩, by dsimp only; omega⟩
    rcases f2 k hk with g | g
    · exact hf k g
    · have := k1.size; omega
  · obtain rfl : m = gs.length := by omega
    rw [← hcl, List.take_length] at hO
    refine ⟨k1, x, rfl, ownZ hO (fun z hz => ?_)⟩
    obtain ⟨y, hy, rfl⟩ := List.mem_map.1 hz
    obtain ⟨i, hi, rfl⟩ := List.getElem_of_mem hy
    have e : (cnts gs)[i] = wg (cnts gs) i := by unfold wg; rw [List.getElem?_eq_getElem hi]; rfl
    have h1 := S0_succ hi
    have h2 : S0 (cnts gs) (i + 1) ≤ (cnts gs).sum := S0_le
    omega

/-- The inner loop of 'Chain'. -/
def CLoop (l : Slc) (mi b : Int) (x : Slc) (w : World) (Q : Slc → World → Prop) : Prop :=
  ∃ (I8 : Slc → Int → World → Prop) (μ9 : Slc → Int → World → Nat), I8 x (0 : Int) w ∧ ∀ x10 : Slc, ∀ x11 : Int, ∀ w12 : World, I8 x10 x11 w12 → 0 ≤ mi ∧ mi < (l.len : Int) ∧ ∃ a13, l.a = some a13 ∧
    ∃ l14 : Slc, w12.cell? (Addr.add a13 (mi.toNat * 1)) = some (.slice l14.a l14.len l14.cap) ∧ br (decide (x11 < (l14.len : Int))) (0 ≤ mi ∧ mi < (l.len : Int) ∧
    ∃ a15, l.a = some a15 ∧ ∃ l16 : Slc, w12.cell? (Addr.add a15 (mi.toNat * 1)) = some (.slice l16.a l16.len l16.cap) ∧ 0 ≤ x11 ∧ x11 < (l16.len : Int) ∧
    ∃ a17, l16.a = some a17 ∧ ∃ n18 : Int, w12.cell? (Addr.add a17 (x11.toNat * 1)) = some (.int .i64 n18) ∧
    ∃ w19 : World, ∃ l20 : Slc, (Builtin.append_ #[22, 22] 22 #[.slice x10.a x10.len x10.cap, .slice (some ⟨w12.heap.size, 0, none⟩) 1 1]).run Try.prog (w12.alloc (.cells #[.int .i64 (IntKind.i64.wrap (b + n18))] 3)) = .ok (.slice l20.a l20.len l20.cap) w19 ∧
    I8 l20 (IntKind.i64.wrap (x11 + 1)) w19 ∧ μ9 l20 (IntKind.i64.wrap (x11 + 1)) w19 < μ9 x10 x11 w12) (Q x10 w12)
theorem cLoop {m : Nat} {x : Slc} {c : List Nat} {b : Nat} {bi : Int} {Q : Slc → World → Prop} (hbi : bi = (b : Int)) (h : RdG w0 l (gs.map zl)) (hm : m < gs.length) (k0 : Kp no w0 w) (hO : Ownd w x 3 1 ((zl c).map (Value.int .i64))) (hx : x.len = c.length) (hf : ∀ k, On x k → w0.heap.size ≤ k)
    (hb : b ≤ 1099511627776) (hn : ∀ v ∈ gs[m], v ≤ 1099511627776) (hl : c.length + gs[m].length ≤ 1000000000)
    (hQ : ∀ x' w', Ownd w' x' 3 1 ((zl (c ++ gs[m].map (b + ·))).map (Value.int .i64)) → x'.len = (c ++ gs[m].map (b + ·)).length → Kp (On x) w w' → (∀ k, On x' k → On x k ∨ w.heap.size ≤ k) → Q x' w') : CLoop l (m : Int) bi x w Q := by
  subst hbi
  have hll := h.len
  rw [List.length_map] at hll
  obtain ⟨a0, s, ha0, hc0, hz⟩ := rdg_at h hm
  have hgl := hz.len
  rw [zl_len] at hgl
  have h00 : (0 : Int) ≤ (m : Int) := by omega
  have hml : (m : Int) < (l.len : Int) := by omega
  refine ⟨fun y j w' => ∃ n : Nat, j = n ∧ n ≤ gs[m].length ∧ Ownd w' y 3 1 ((zl (c ++ (gs[m].take n).map (b + ·))).map (Value.int .i64)) ∧ y.len = c.length + n ∧ Kp (On x) w w' ∧ (∀ k, On y k → On x k ∨ w.heap.size ≤ k), fun _ j _ => (s.len - j).toNat,
    ⟨0, rfl, by omega, by simpa using hO, by omega, Kp.refl _ _, fun k hk => .inl hk⟩, ?_⟩
  rintro y j w1 ⟨n, rfl, hn', hO1, hyl, k1, f1⟩
  have k01 : Kp no w0 w1 := k0.trans k1 (fun k h1 h2 => by have := hf k h2; omega)
  have hc1 := kp_cell hc0 k01
  refine ⟨h00, hml, a0, ha0, s, hc1, br_dec (fun hlt => ?_) (fun hlt => ?_)⟩
  · have hnl : n < gs[m].length := by omega
    obtain ⟨a, ha, hc⟩ := (hz.kpo k01).at (i := (n : Int)) (by omega) hlt
    rw [wz_zl, Int.toNat_natCast] at hc
    have hv := hn _ (wg_memN hnl)
    refine ⟨h00, hml, a0, ha0, s, hc1, by omega, hlt, a, ha, _, by rw [Int.toNat_natCast]; exact hc, ?_⟩
    rw [w64 (x := (b : Int) + (wg gs[m] n : Int)) ⟨by omega, by omega⟩, ← Int.natCast_add]
    obtain ⟨w2, y2, hr2, hO2, hl2, k2, f2⟩ := append_one (ty := 22) elI hO1 (.int .i64 ((b + wg gs[m] n : Nat) : Int)) rfl (by simp only [maxLen]; omega) (by omega)
    have e : (zl (c ++ (gs[m].take (n + 1)).map (b + ·))).map (Value.int .i64) = (zl (c ++ (gs[m].take n).map (b + ·))).map (Value.int .i64) ++ [.int .i64 ((b + wg gs[m] n : Nat) : Int)] := by
      rw [take_wg hnl]; simp
    rw [← e] at hO2
    rw [w64 (x := (n : Int) + 1) ⟨by omega, by omega⟩]
    refine ⟨w2, y2, hr2, ⟨n + 1, by omega, by omega, hO2, by omega, k1.trans k2 (fun k h1 h2 => ?_), fun k hk => ?_⟩, by dsimp only; omega⟩
    · rcases f1 k h2 with g | g
      · exact g
      · omega
    · rcases f2 k hk with g | g
      · exact f1 k g
      · have := k1.size; exact .inr (by omega)
  · obtain rfl : n = gs[m].length := by omega
    rw [List.take_length] at hO1
    exact hQ y w1 hO1 (by rw [List.length_append, List.length_map]; exact hyl) k1 f1

theorem rChain33 (h : RdG w l (gs.map zl)) (hg : GoodG gs) (hsz : (cnts gs).sum ≤ 100000000) (hgl : gs.length ≤ 1000000) : Calls Try.prog 42 #[.slice l.a l.len l.cap] w (Rv fun v w' => Kp no w w' ∧ ∃ o : Slc, v = .slice o.a o.len o.cap ∧ RdZ w' o (zl (chainOf gs))) := by
  refine c42 _ _ _ ?_
  unfold B42
  have hl := h.len
  rw [List.length_map] at hl
  have hcl := cnts_len gs
  refine ⟨fun x i w' => ∃ m : Nat, i = m ∧ m ≤ gs.length ∧ Ownd w' x 3 1 ((zl (chT gs m)).map (Value.int .i64)) ∧ x.len = (chT gs m).length ∧ (∀ k, On x k → w.heap.size ≤ k) ∧ Kp no w w', fun _ i _ => (l.len - i).toNat,
    ⟨0, rfl, by omega, Ownd.nil _ _ _, rfl, fun _ h => absurd h On.nil, Kp.refl _ _⟩, ?_⟩
  rintro x i w1 ⟨m, rfl, hm, hX, hxl, hf, k1⟩
  refine br_dec (fun hlt => ?_) (fun hlt => ?_)
  · have hm' : m < gs.length := by omega
    have hmc : m < (cnts gs).length := by omega
    have hG := hg gs[m] (List.getElem_mem hm')
    obtain ⟨hinc, hnb⟩ := chT_inc hg m (by omega)
    have hcm := chT_len gs m (by omega)
    have hS := S0_succ hmc
    rw [cnts_at hm'] at hS
    have hsum : S0 (cnts gs) (m + 1) ≤ (cnts gs).sum := S0_le
    have after : ∀ bi : Int, bi = (nextB (chT gs m) : Int) → CLoop l (m : Int) bi x w1 (fun x18 w20 => (∃ k : Nat, IntKind.i64.wrap ((m : Int) + 1) = k ∧ k ≤ gs.length ∧ Ownd w20 x18 3 1 ((zl (chT gs k)).map (Value.int .i64)) ∧ x18.len = (chT gs k).length ∧ (∀ k, On x18 k → w.heap.size ≤ k) ∧ Kp no w w20) ∧ (l.len - IntKind.i64.wrap ((m : Int) + 1)).toNat < (l.len - (m : Int)).toNat) := fun bi hbi => by
      refine cLoop (b := nextB (chT gs m)) hbi h hm' k1 hX hxl hf (by omega) (fun v hv => by have := hG.1 v hv; omega) (by omega) ?_
      intro x' w' hO' hx' k' f'
      rw [← chT_succ hm'] at hO' hx'
      rw [w64 (x := (m : Int) + 1) ⟨by omega, by omega⟩]
      refine ⟨⟨m + 1, by omega, by omega, hO', hx', fun k hk => ?_, k1.trans k' (fun k h1 h2 => by have := hf k h2; omega)⟩, by omega⟩
      rcases f' k hk with g | g
      · exact hf k g
      · have := k1.size; omega
    have hXz := ownZ hX (fun z hz => by
      obtain ⟨y, hy, rfl⟩ := List.mem_map.1 hz
      obtain ⟨i, hi, rfl⟩ := List.getElem_of_mem hy
      have : wg (chainOf gs) i = (chT gs m)[i] := by
        rw [← chT_all, chT_pre (by omega) (Nat.le_refl _) i hi]; unfold wg; rw [List.getElem?_eq_getElem hi]; rfl
      have := wg_le (chain_good hg (by omega)) i
      omega)
    refine br_dec (fun h1 => ?_) (fun h1 => ?_)
    · have e3 : IntKind.i64.wrap ((x.len : Int) - 1) = ((x.len - 1 : Nat) : Int) := by rw [w64 ⟨by omega, by omega⟩]; omega
      rw [e3]
      obtain ⟨a4, ha4, hc4⟩ := hXz.at (i := ((x.len - 1 : Nat) : Int)) (by omega) (by omega)
      rw [wz_zl, Int.toNat_natCast] at hc4
      have hnx : nextB (chT gs m) = wg (chT gs m) (x.len - 1) + 1 := by unfold nextB; rw [if_neg (by omega), hxl]
      have key := after (IntKind.i64.wrap (((wg (chT gs m) (x.len - 1) : Nat) : Int) + 1)) (by rw [w64 ⟨by omega, by omega⟩]; omega)
      unfold CLoop at key
      exact ⟨by omega, by omega, a4, ha4, _, by rw [Int.toNat_natCast]; exact hc4, key⟩
    · have hnx : nextB (chT gs m) = 0 := by unfold nextB; rw [if_pos (by omega)]
      have key := after 0 (by omega)
      unfold CLoop at key
      exact key
  · obtain rfl : m = gs.length := by omega
    rw [chT_all] at hX
    exact ⟨k1, x, rfl, ownZ hX (zl_bnd2 (chain_good hg (by omega)).2)⟩

theorem rSums33 (h : RdZ w l (zl cs)) (hs : cs.sum ≤ 1099511627776) (hsz : cs.length ≤ 10000000) : Calls Try.prog 43 #[.slice l.a l.len l.cap] w (Rv fun v w' => Kp no w w' ∧ ∃ o : Slc, v = .slice o.a o.len o.cap ∧ RdZ w' o (zl (sumsOf cs))) := by
  refine c43 _ _ _ ?_
  unfold B43
  refine use (rSums9 h (by rw [zl_len]; exact hsz)) ?_
  rintro _ w1 ⟨k1, ⟨_, hn⟩ | ⟨o, ls, rfl, hz, _, ho⟩⟩
  · exact absurd (goodS_zl hs) hn
  · obtain rfl := zl_inj hz
    exact ⟨o, _, rfl, k1, o, rfl, ho⟩

/-- The example's groups. -/
theorem live33 (w : World) : IsK 29 #[] w (.bool true) := by
  refine c29 _ _ ?_
  unfold B29
  have z1 : (w.alloc (.cells #[.int .i64 2, .int .i64 5] 3)).heap.size = w.heap.size + 1 := World.size_alloc _ _
  have z2 : ((w.alloc (.cells #[.int .i64 2, .int .i64 5] 3)).alloc (.cells #[.int .i64 1] 3)).heap.size = w.heap.size + 2 := by rw [World.size_alloc, z1]
  rw [z1, z2]
  have k0 : Kp no w (((w.alloc (.cells #[.int .i64 2, .int .i64 5] 3)).alloc (.cells #[.int .i64 1] 3)).alloc (.cells #[.slice (some ⟨w.heap.size, 0, none⟩) 2 2, .slice none 0 0, .slice (some ⟨w.heap.size + 1, 0, none⟩) 1 1] 22)) := (((Kp.refl _ _).alloc _ _).alloc _ _).alloc _ _
  have kA : Kp no (w.alloc (.cells #[.int .i64 2, .int .i64 5] 3)) (((w.alloc (.cells #[.int .i64 2, .int .i64 5] 3)).alloc (.cells #[.int .i64 1] 3)).alloc (.cells #[.slice (some ⟨w.heap.size, 0, none⟩) 2 2, .slice none 0 0, .slice (some ⟨w.heap.size + 1, 0, none⟩) 1 1] 22)) := ((Kp.refl _ _).alloc _ _).alloc _ _
  have kB : Kp no ((w.alloc (.cells #[.int .i64 2, .int .i64 5] 3)).alloc (.cells #[.int .i64 1] 3)) (((w.alloc (.cells #[.int .i64 2, .int .i64 5] 3)).alloc (.cells #[.int .i64 1] 3)).alloc (.cells #[.slice (some ⟨w.heap.size, 0, none⟩) 2 2, .slice none 0 0, .slice (some ⟨w.heap.size + 1, 0, none⟩) 1 1] 22)) := (Kp.refl _ _).alloc _ _
  have rA := (rdZ_lit w [2, 5] (by simp) 3).kpo kA
  have rB0 := rdZ_lit (w.alloc (.cells #[.int .i64 2, .int .i64 5] 3)) [1] (by simp) 3
  rw [z1] at rB0
  have rB := rB0.kpo kB
  have bO := Blk.new ((w.alloc (.cells #[.int .i64 2, .int .i64 5] 3)).alloc (.cells #[.int .i64 1] 3)) [.slice (some ⟨w.heap.size, 0, none⟩) 2 2, .slice none 0 0, .slice (some ⟨w.heap.size + 1, 0, none⟩) 1 1] 22
  rw [z2] at bO
  have rG : RdG (((w.alloc (.cells #[.int .i64 2, .int .i64 5] 3)).alloc (.cells #[.int .i64 1] 3)).alloc (.cells #[.slice (some ⟨w.heap.size, 0, none⟩) 2 2, .slice none 0 0, .slice (some ⟨w.heap.size + 1, 0, none⟩) 1 1] 22)) ⟨some ⟨w.heap.size + 2, 0, none⟩, 3, 3⟩ [[2, 5], [], [1]] := ⟨rfl, fun i hi => by
    have hi3 : i = 0 ∨ i = 1 ∨ i = 2 := by simp at hi; omega
    rcases hi3 with rfl | rfl | rfl
    · exact ⟨_, ⟨some ⟨w.heap.size, 0, none⟩, 2, 2⟩, rfl, bO.cell 0, rA⟩
    · exact ⟨_, ⟨none, 0, 0⟩, rfl, bO.cell 1, rfl, Rd.nil _ _, by simp⟩
    · exact ⟨_, ⟨some ⟨w.heap.size + 1, 0, none⟩, 1, 1⟩, rfl, bO.cell 2, rB⟩⟩
  clear rA rB0 rB bO kA kB
  generalize ((w.alloc (.cells #[.int .i64 2, .int .i64 5] 3)).alloc (.cells #[.int .i64 1] 3)).alloc (.cells #[.slice (some ⟨w.heap.size, 0, none⟩) 2 2, .slice none 0 0, .slice (some ⟨w.heap.size + 1, 0, none⟩) 1 1] 22) = w1 at *
  have hN := wNew rG (by decide) (by decide)
  refine use hN ?_
  rintro _ w2 ⟨k2, ⟨e, rfl, he, hw⟩ | ⟨r, gs, rfl, hz, _, hr⟩⟩
  · exact absurd (hw.trans (by decide)) he
  obtain rfl : gs = [[2, 5], [], [1]] := zzl_inj (a := gs) (b := [[2, 5], [], [1]]) (by rw [← hz]; rfl)
  refine ⟨_, _, rfl, usek (wSpan hr.1 1) fun w3 k3 => ⟨_, _, rfl, br_y rfl (br_y (by decide) (br_y (by decide) (use (wWhere (hr.kpo k3) 2 1) ?_)))⟩⟩
  rintro _ w4 ⟨k4, y, rfl, hy⟩
  obtain rfl := hy.one hr.2 (.inr ⟨2, rfl, by decide, .inr ⟨0, by decide, by decide, by decide⟩⟩ : WhP _ 2 1 2)
  refine ⟨_, rfl, br_y rfl (use (wAt (hr.kpo (k3.t k4)) 1) ?_)⟩
  rintro _ w5 ⟨k5, g, x, rfl, hx⟩
  obtain ⟨rfl, rfl⟩ := hx.one (.inr ⟨0, by decide, rfl, by decide, by decide, by decide⟩ : PlcG _ 1 0 5)
  refine ⟨_, rfl, br_y rfl (use (wGroup (hr.kpo (k3.t (k4.t k5))) 2) ?_)⟩
  rintro _ w6 ⟨k6, g, rfl, hx⟩
  obtain rfl := hx.one (.inr ⟨2, rfl, by decide, by decide, by decide⟩ : WhereP _ 2 2)
  have r6 := hr.kpo (k3.t (k4.t (k5.t k6)))
  exact ⟨_, rfl, br_y rfl (usei (wGroups r6.1) ⟨_, rfl, br_y (by decide) (usei (wLen r6.1) ⟨_, rfl, rfl, k0.t (k2.t (k3.t (k4.t (k5.t k6))))⟩)⟩)⟩
end Go.Proofs.Ytmpgklgjmkcpdaa.V
