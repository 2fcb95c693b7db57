/- Rows out of what is kept of them; the law on that. -/
import Derived.Test.YtmpgklgjmkcpdaaYd
import Derived.Test.YtmpgklgjmkcpdaaYp
namespace Go.Proofs.Ytmpgklgjmkcpdaa.V
open Go Go.VC
variable {w w' w0 : World} {l lc lx : Slc} {cs ls : List Nat} {gs : List (List Nat)} {zs : List (List Int)} {s p r B n k : Nat} {v : Value}
theorem elG : El Try.prog 42 22 1 24 := El.of (by kernel_rfl) (by kernel_rfl)
theorem baseL_le (hg : GoodL ls) (a : Nat) : baseL ls a ≤ 1099511627777 := by
  unfold baseL
  split
  · omega
  · have := wg_le hg (a - 1); omega

/-- The inner loop of 'Of'. -/
def OLoop (lc lx : Slc) (mi a b : Int) (w : World) (X : World → Prop) (Q : Int → Slc → World → Prop) : Prop :=
  ∃ (I9 : Int → Slc → Int → World → Prop) (μ10 : Int → Slc → Int → World → Nat), I9 a ⟨none, 0, 0⟩ (0 : Int) w ∧ ∀ x11 : Int, ∀ x12 : Slc, ∀ x13 : Int, ∀ w14 : World, I9 x11 x12 x13 w14 → 0 ≤ mi ∧ mi < (lc.len : Int) ∧
    ∃ a15, lc.a = some a15 ∧ ∃ n16 : Int, w14.cell? (Addr.add a15 (mi.toNat * 1)) = some (.int .i64 n16) ∧
    br (decide (x13 < n16)) (br (decide ((lx.len : Int) ≤ x11)) (X w14) (0 ≤ x11 ∧ x11 < (lx.len : Int) ∧
    ∃ a17, lx.a = some a17 ∧ ∃ n18 : Int, w14.cell? (Addr.add a17 (x11.toNat * 1)) = some (.int .i64 n18) ∧
    ∃ w19 : World, ∃ l20 : Slc, (Builtin.append_ #[22, 22] 22 #[.slice x12.a x12.len x12.cap, .slice (some ⟨w14.heap.size, 0, none⟩) 1 1]).run Try.prog (w14.alloc (.cells #[.int .i64 (IntKind.i64.wrap (n18 - b))] 3)) = .ok (.slice l20.a l20.len l20.cap) w19 ∧
    I9 (IntKind.i64.wrap (x11 + 1)) l20 (IntKind.i64.wrap (x13 + 1)) w19 ∧
    μ10 (IntKind.i64.wrap (x11 + 1)) l20 (IntKind.i64.wrap (x13 + 1)) w19 < μ10 x11 x12 x13 w14)) (Q x11 x12 w14)

theorem oLoop {m : Nat} {ai bi : Int} {X : World → Prop} {Q : Int → Slc → World → Prop} (hai : ai = (S0 cs m : Int)) (hbi : bi = (baseL ls (S0 cs m) : Int)) (hc : RdZ w lc (zl cs)) (hx : RdZ w lx (zl ls)) (hg : GoodL ls) (hm : m < cs.length) (hcs : cs.sum ≤ 1000000) (hls : ls.length ≤ 1000000)
    (ha : S0 cs m ≤ ls.length) (hX : ∀ w', Kp no w w' → cs.sum ≠ ls.length → X w')
    (hQ : ∀ (h : m < (ofZ cs ls).length) y w', Kp no w w' → RdZ w' y (ofZ cs ls)[m] → (∀ k, On y k → w.heap.size ≤ k ∧ k < w'.heap.size) → S0 cs (m + 1) ≤ ls.length → Q (S0 cs (m + 1) : Int) y w') : OLoop lc lx (m : Int) ai bi w X Q := by
  subst hai hbi
  have hcl := hc.len
  have hxl := hx.len
  rw [zl_len] at hcl hxl
  have hS := S0_succ hm
  have hle : S0 cs (m + 1) ≤ cs.sum := S0_le
  have hbl := baseL_le hg (S0 cs m)
  have hmz : m < (ofZ cs ls).length := by rw [ofZ_len]; exact hm
  have hlen : ((ofZ cs ls)[m]).length = wg cs m := by rw [ofZ_at hmz]; simp
  have hbnd : ∀ z ∈ (ofZ cs ls)[m], -9223372036854775808 ≤ z ∧ z ≤ 9223372036854775807 := fun z hz => by
    rw [ofZ_at hmz] at hz
    obtain ⟨j, _, rfl⟩ := List.mem_map.1 hz
    have := wg_le hg (S0 cs m + j)
    omega
  refine ⟨fun x y j w' => ∃ n : Nat, j = n ∧ n ≤ wg cs m ∧ x = ((S0 cs m + n : Nat) : Int) ∧ S0 cs m + n ≤ ls.length ∧ Ownd w' y 3 1 ((((ofZ cs ls)[m]).take n).map (Value.int .i64)) ∧ y.len = n ∧ Kp no w w' ∧ (∀ k, On y k → w.heap.size ≤ k), fun _ _ j _ => ((wg cs m : Int) - j).toNat,
    ⟨0, rfl, by omega, by omega, by omega, Ownd.nil _ _ _, rfl, Kp.refl _ _, fun k hk => absurd hk On.nil⟩, ?_⟩
  rintro x y j w1 ⟨n, rfl, hn, rfl, hnl, hO, hyl, k1, f1⟩
  obtain ⟨a, ha2, hca⟩ := (hc.kpo k1).at (i := (m : Int)) (by omega) (by omega)
  rw [wz_zl, Int.toNat_natCast] at hca
  refine ⟨by omega, by omega, a, ha2, _, by rw [Int.toNat_natCast]; exact hca, br_dec (fun g1 => br_dec (fun g2 => hX w1 k1 (by omega)) (fun g2 => ?_)) (fun g1 => ?_)⟩
  · obtain ⟨a3, ha3, hc3⟩ := (hx.kpo k1).at (i := ((S0 cs m + n : Nat) : Int)) (by omega) (by omega)
    rw [wz_zl, Int.toNat_natCast] at hc3
    have hv := wg_le hg (S0 cs m + n)
    refine ⟨by omega, by omega, a3, ha3, _, by rw [Int.toNat_natCast]; exact hc3, ?_⟩
    rw [w64 (x := (wg ls (S0 cs m + n) : Int) - (baseL ls (S0 cs m) : Int)) ⟨by omega, by omega⟩]
    obtain ⟨w2, y2, hr2, hO2, hl2, k2, f2⟩ := append_one (ty := 22) elI hO (.int .i64 ((wg ls (S0 cs m + n) : Int) - (baseL ls (S0 cs m) : Int))) rfl (by simp only [maxLen]; omega) (by omega)
    have e : (((ofZ cs ls)[m]).take (n + 1)).map (Value.int .i64) = (((ofZ cs ls)[m]).take n).map (Value.int .i64) ++ [.int .i64 ((wg ls (S0 cs m + n) : Int) - (baseL ls (S0 cs m) : Int))] := by
      have eN : ((ofZ cs ls)[m])[n]? = some ((wg ls (S0 cs m + n) : Int) - (baseL ls (S0 cs m) : Int)) := by
        rw [ofZ_at hmz, List.getElem?_map, List.getElem?_range (by omega)]; rfl
      rw [List.take_add_one, eN, List.map_append]; rfl
    rw [← e] at hO2
    rw [w64 (x := ((S0 cs m + n : Nat) : Int) + 1) ⟨by omega, by omega⟩, w64 (x := (n : Int) + 1) ⟨by omega, by omega⟩]
    refine ⟨w2, y2, hr2, ⟨n + 1, by omega, by omega, by omega, by omega, hO2, by omega, k1.trans k2 (fun k h1 h2 => by have := f1 k h2; omega), fun k hk => ?_⟩, by dsimp only; omega⟩
    rcases f2 k hk with g | g
    · exact f1 k g
    · have := k1.size; omega
  · obtain rfl : n = wg cs m := by omega
    rw [← hS]
    refine hQ hmz y w1 k1 ?_ (fun k hk => ⟨f1 k hk, hO.on hk⟩) (by omega)
    rw [List.take_of_length_le (by omega)] at hO
    exact ownZ hO hbnd

set_option maxHeartbeats 1000000 in
theorem rOf33 (hc : RdZ w lc (zl cs)) (hx : RdZ w lx (zl ls)) (hg : GoodL ls) (hcs : cs.sum ≤ 1000000) (hls : ls.length ≤ 1000000) (hcl : cs.length ≤ 1000000) : Calls Try.prog 49 #[.slice lc.a lc.len lc.cap, .slice lx.a lx.len lx.cap] w (Rv fun v w' => Kp no w w' ∧
    ((∃ o : Slc, v = .tuple #[.slice o.a o.len o.cap, .bool false] ∧ ¬ OkOf cs ls) ∨ (∃ o : Slc, v = .tuple #[.slice o.a o.len o.cap, .bool true] ∧ OkOf cs ls ∧ RdG w' o ((gsOf cs ls).map zl)))) := by
  refine c49 _ _ _ _ ?_
  unfold B49
  have hcl' := hc.len
  have hxl := hx.len
  rw [zl_len] at hcl' hxl
  refine ⟨fun x t i w' => ∃ (m : Nat) (ss : List Slc), i = m ∧ m ≤ cs.length ∧ t = (S0 cs m : Int) ∧ S0 cs m ≤ ls.length ∧ Ownd w' x 22 1 (ss.map fun s => Value.slice s.a s.len s.cap) ∧ x.len = m ∧ ss.length = m ∧ (∀ k, On x k → w.heap.size ≤ k) ∧
      (∀ j (hj : j < ss.length) (hz : j < (ofZ cs ls).length), RdZ w' ss[j] (ofZ cs ls)[j] ∧ ∀ k, On ss[j] k → k < w'.heap.size ∧ ¬ On x k) ∧ Kp no w w', fun _ _ i _ => (lc.len - i).toNat,
    ⟨0, [], rfl, by omega, rfl, by rw [S0_zero]; omega, Ownd.nil _ _ _, rfl, rfl, fun _ h => absurd h On.nil, fun j hj => by simp at hj, Kp.refl _ _⟩, ?_⟩
  rintro x t i w1 ⟨m, ss, rfl, hm, rfl, hle, hO, hxl2, hsl, hf, hall, k1⟩
  refine br_dec (fun hlt => ?_) (fun hlt => ?_)
  · have hm' : m < cs.length := by omega
    have after : ∀ bi : Int, bi = (baseL ls (S0 cs m) : Int) → OLoop lc lx (m : Int) (S0 cs m : Int) bi w1 (fun W => Kp no w W ∧ ((∃ o : Slc, Value.tuple #[.slice none 0 0, .bool false] = .tuple #[.slice o.a o.len o.cap, .bool false] ∧ ¬ OkOf cs ls) ∨ (∃ o : Slc, Value.tuple #[.slice none 0 0, .bool false] = .tuple #[.slice o.a o.len o.cap, .bool true] ∧ OkOf cs ls ∧ RdG W o ((gsOf cs ls).map zl))))
        (fun x11 x12 w14 => ∃ w21 : World, ∃ l22 : Slc, (Builtin.append_ #[42, 42] 42 #[.slice x.a x.len x.cap, .slice (some ⟨w14.heap.size, 0, none⟩) 1 1]).run Try.prog (w14.alloc (.cells #[.slice x12.a x12.len x12.cap] 22)) = .ok (.slice l22.a l22.len l22.cap) w21 ∧
          (∃ (n : Nat) (ss : List Slc), IntKind.i64.wrap ((m : Int) + 1) = n ∧ n ≤ cs.length ∧ x11 = (S0 cs n : Int) ∧ S0 cs n ≤ ls.length ∧ Ownd w21 l22 22 1 (ss.map fun s => Value.slice s.a s.len s.cap) ∧ l22.len = n ∧ ss.length = n ∧ (∀ k, On l22 k → w.heap.size ≤ k) ∧
            (∀ j (hj : j < ss.length) (hz : j < (ofZ cs ls).length), RdZ w21 ss[j] (ofZ cs ls)[j] ∧ ∀ k, On ss[j] k → k < w21.heap.size ∧ ¬ On l22 k) ∧ Kp no w w21) ∧ (lc.len - IntKind.i64.wrap ((m : Int) + 1)).toNat < (lc.len - (m : Int)).toNat) := fun bi hbi => by
      refine oLoop rfl hbi (hc.kpo k1) (hx.kpo k1) hg hm' hcs hls hle (fun W kW hne => ⟨k1.t kW, .inl ⟨⟨none, 0, 0⟩, rfl, fun hok => hne hok.1⟩⟩) ?_
      intro hmz y w2 k2 hy fy hle2
      obtain ⟨w3, x3, hr3, hO3, hl3, k3, f3⟩ := append_one (ty := 42) elG (hO.kp k2 (fun _ _ f => f)) (.slice y.a y.len y.cap) rfl (by simp only [maxLen]; omega) (by omega)
      have e : ((ss ++ [y]).map fun s => Value.slice s.a s.len s.cap) = (ss.map fun s => Value.slice s.a s.len s.cap) ++ [.slice y.a y.len y.cap] := by simp
      rw [← e] at hO3
      have s2 := k2.size
      have s3 := k3.size
      have kw3 : Kp no w w3 := (k1.t k2).trans k3 (fun k h1 h2 => by have := hf k h2; omega)
      have hxo := fun k (hk : On x k) => hO.on hk
      rw [w64 (x := (m : Int) + 1) ⟨by omega, by omega⟩]
      refine ⟨w3, x3, hr3, ⟨m + 1, ss ++ [y], by omega, by omega, rfl, hle2, hO3, by omega, by simp; omega, fun k hk => ?_, fun j hj hz => ?_, kw3⟩, by omega⟩
      · rcases f3 k hk with g | g
        · exact hf k g
        · have := k1.size; omega
      · by_cases hj2 : j < ss.length
        · rw [List.getElem_append_left hj2]
          obtain ⟨q1, q2⟩ := hall j hj2 hz
          refine ⟨(q1.kpo k2).kp k3 (fun k hk => (q2 k hk).2), fun k hk => ⟨by have := (q2 k hk).1; omega, fun hk3 => ?_⟩⟩
          rcases f3 k hk3 with g | g
          · exact (q2 k hk).2 g
          · have := (q2 k hk).1; omega
        · have hjm : j = ss.length := by simp at hj; omega
          subst hjm
          rw [List.getElem_append_right (Nat.le_refl _)]
          simp only [Nat.sub_self, List.getElem_cons_zero]
          have hy' : RdZ w2 y (ofZ cs ls)[ss.length] := by
            have := hy
            subst hsl
            exact this
          refine ⟨hy'.kp k3 (fun k hk hx3 => ?_), fun k hk => ⟨by have := (fy k hk).2; omega, fun hk3 => ?_⟩⟩
          · have := hxo k hx3; have := (fy k hk).1; omega
          · rcases f3 k hk3 with g | g
            · have := hxo k g; have := (fy k hk).1; omega
            · have := (fy k hk).2; omega
    refine br_dec (fun h1 => br_dec (fun h2 => ?_) (fun h2 => absurd (by omega) h2)) (fun h1 => ?_)
    · have e3 : IntKind.i64.wrap ((S0 cs m : Int) - 1) = ((S0 cs m - 1 : Nat) : Int) := by rw [w64 ⟨by omega, by omega⟩]; omega
      rw [e3]
      obtain ⟨a4, ha4, hc4⟩ := (hx.kpo k1).at (i := ((S0 cs m - 1 : Nat) : Int)) (by omega) (by omega)
      rw [wz_zl, Int.toNat_natCast] at hc4
      have hv := wg_le hg (S0 cs m - 1)
      have hnx : baseL ls (S0 cs m) = wg ls (S0 cs m - 1) + 1 := by unfold baseL; rw [if_neg (by omega)]
      have key := after (IntKind.i64.wrap (((wg ls (S0 cs m - 1) : Nat) : Int) + 1)) (by rw [w64 ⟨by omega, by omega⟩]; omega)
      unfold OLoop at key
      exact ⟨by omega, by omega, a4, ha4, _, by rw [Int.toNat_natCast]; exact hc4, key⟩
    · have hnx : baseL ls (S0 cs m) = 0 := by unfold baseL; rw [if_pos (by omega)]
      have key := after 0 (by omega)
      unfold OLoop at key
      exact key
  · obtain rfl : m = cs.length := by omega
    rw [S0_all] at hle ⊢
    have hG : RdG w1 x (ofZ cs ls) := by
      refine ⟨by rw [ofZ_len]; omega, fun i hi => ?_⟩
      have hi2 : i < ss.length := by rw [ofZ_len] at hi; omega
      obtain ⟨a, ha, hca⟩ := hO.rd i (by rw [List.length_map]; exact hi2)
      rw [List.getElem?_map, List.getElem?_eq_getElem hi2, Option.map_some] at hca
      exact ⟨a, ss[i], ha, by rw [Nat.mul_one]; exact hca, (hall i hi2 hi).1⟩
    have hzin : ∀ m (h : m < (ofZ cs ls).length), (ofZ cs ls)[m].length ≤ 1000000 := fun m hm => by
      rw [ofZ_at hm, List.length_map, List.length_range]
      rw [ofZ_len] at hm
      have h1 := S0_succ hm
      have h2 : S0 cs (m + 1) ≤ cs.sum := S0_le
      omega
    refine br_dec (fun h1 => usei (rWrong33 hG (by rw [ofZ_len]; omega) hzin) ⟨_, rfl, k1, ?_⟩) (fun h1 => ⟨k1, .inl ⟨x, rfl, fun hok => h1 (by rw [hok.1]; omega)⟩⟩)
    by_cases h2 : wrG (ofZ cs ls) = 0
    · have hok : OkOf cs ls := of_ok (by omega) h2
      rw [ofZ_ok hok] at hG
      exact .inr ⟨x, by rw [h2]; rfl, hok, hG⟩
    · exact .inl ⟨x, by rw [show decide (wrG (ofZ cs ls) = 0) = false from decide_eq_false h2], fun hok => h2 (of_iff.1 hok).2⟩

set_option maxHeartbeats 1000000 in
theorem wOf (hp : PreB w p cs B) (hs : SeqB w s ls B) (hcs : cs.length ≤ 1048576) (hls : ls.length ≤ 100000000) : Calls Try.prog 48 #[.pointer (some ⟨p, 0, none⟩), .pointer (some ⟨s, 0, none⟩)] w (Rv fun v w' => Kp no w w' ∧
    ((v = .tuple #[.pointer none, .int .i64 3] ∧ ¬ OkOf cs ls) ∨ ∃ r, v = .tuple #[.pointer (some ⟨r, 0, none⟩), .int .i64 0] ∧ OkOf cs ls ∧ RowsB w' r (gsOf cs ls) B)) := by
  refine c48 _ _ _ _ ?_
  unfold B48
  have hg := hs.good
  refine usei (xTotal hp) ⟨_, rfl, usei (eLen hs) ⟨_, rfl, br_not (br_dec (fun h1 => usei (xLen hp (by omega)) ⟨_, rfl, br_n (by omega) ?_⟩) (fun h1 => ⟨Kp.refl _ _, .inl ⟨rfl, fun hok => h1 (by rw [hok.1])⟩⟩))⟩⟩
  have hsum : cs.sum = ls.length := by omega
  have hb := Blk.new w [.pointer (some ⟨p, 0, none⟩), .pointer (some ⟨s, 0, none⟩)] 94
  have k0 : Kp no w (w.alloc (.cells #[.pointer (some ⟨p, 0, none⟩), .pointer (some ⟨s, 0, none⟩)] 94)) := (Kp.refl _ _).alloc _ _
  have hBp : B ≤ w.heap.size := by
    obtain ⟨_, hb', _, _, hB⟩ := id hp
    have := hb'.lt; omega
  generalize w.alloc (.cells #[.pointer (some ⟨p, 0, none⟩), .pointer (some ⟨s, 0, none⟩)] 94) = w1 at *
  generalize w.heap.size = r at *
  have hR : RowsR w1 r cs ls B := ⟨p, s, hb, hp.kpo k0, hs.kpo k0, hcs, hls, hBp⟩
  refine usei (xLen (hp.kpo k0) (by omega)) ⟨_, rfl, fun i w' => Kp no w1 w' ∧ ∃ m : Nat, i = m ∧ m ≤ cs.length ∧ ∀ m', m' < m → ∀ j, j < wg cs m' → baseL ls (S0 cs m') ≤ wg ls (S0 cs m' + j) ∧ wg ls (S0 cs m' + j) < baseL ls (S0 cs m') + 65536 ∧ (0 < j → wg ls (S0 cs m' + (j - 1)) < wg ls (S0 cs m' + j)), fun i _ => (cs.length - i).toNat,
    ⟨Kp.refl _ _, 0, rfl, by omega, fun m' hm' => by omega⟩, ?_⟩
  rintro i w2 ⟨k2, m, rfl, hm, hall⟩
  refine br_dec (fun hlt => ?_) (fun hlt => ?_)
  · have hm' : m < cs.length := by omega
    have hS := S0_succ hm'
    have hle : S0 cs (m + 1) ≤ cs.sum := S0_le
    have hbl := baseL_le hg (S0 cs m)
    refine usek (wSpan (hR.kpo k2) m) fun w3 k3 => ⟨_, _, rfl, ?_⟩
    rw [spA_in hm', spB_in hm']
    refine ⟨fun i w' => Kp no w1 w' ∧ ∃ j : Nat, i = ((S0 cs m + j : Nat) : Int) ∧ j ≤ wg cs m ∧ ∀ j', j' < j → baseL ls (S0 cs m) ≤ wg ls (S0 cs m + j') ∧ wg ls (S0 cs m + j') < baseL ls (S0 cs m) + 65536 ∧ (0 < j' → wg ls (S0 cs m + (j' - 1)) < wg ls (S0 cs m + j')), fun i _ => ((S0 cs (m + 1) : Int) - i).toNat,
      ⟨k2.t k3, 0, by omega, by omega, fun j' hj' => by omega⟩, ?_⟩
    rintro i w4 ⟨k4, j, rfl, hj, hin⟩
    refine br_dec (fun hlt2 => ?_) (fun hlt2 => ?_)
    · have hjl : j < wg cs m := by omega
      have hv := wg_le hg (S0 cs m + j)
      have b4 := hb.kp k4 id
      have hs4 := (hs.kpo k0).kpo k4
      refine ⟨_, b4.cell 1, usek (eAt hs4 hls _) fun w5 k5 => ⟨_, rfl, usek (wBase (hR.kpo (k4.t k5)) ⟨by omega, by omega⟩) fun w6 k6 => ⟨_, rfl, ?_⟩⟩⟩
      have eb : atZ (zl ls) ((S0 cs m : Int) - 1) + 1 = (baseL ls (S0 cs m) : Int) := by
        unfold baseL
        by_cases e0 : S0 cs m = 0
        · rw [if_pos e0, atZ_out (by omega)]; rfl
        · rw [if_neg e0, show (S0 cs m : Int) - 1 = ((S0 cs m - 1 : Nat) : Int) by omega, atZ_in (by omega)]; omega
      have k46 : Kp no w1 (World.drew w6) := (k4.t (k5.t k6)).drew
      have k06 : Kp no w (World.drew w6) := k0.t k46
      rw [eb, atZ_in (by omega), w64 (x := (wg ls (S0 cs m + j) : Int) - (baseL ls (S0 cs m) : Int)) ⟨by omega, by omega⟩]
      have bad : ¬ (baseL ls (S0 cs m) ≤ wg ls (S0 cs m + j) ∧ wg ls (S0 cs m + j) < baseL ls (S0 cs m) + 65536 ∧ (0 < j → wg ls (S0 cs m + (j - 1)) < wg ls (S0 cs m + j))) → ¬ OkOf cs ls := fun hh hok => hh (hok.2 m hm' j hjl)
      have stp : ∀ W, Kp no w1 W → (0 < j → wg ls (S0 cs m + (j - 1)) < wg ls (S0 cs m + j)) → baseL ls (S0 cs m) ≤ wg ls (S0 cs m + j) → wg ls (S0 cs m + j) < baseL ls (S0 cs m) + 65536 →
          (Kp no w1 W ∧ ∃ k : Nat, IntKind.i64.wrap (((S0 cs m + j : Nat) : Int) + 1) = ((S0 cs m + k : Nat) : Int) ∧ k ≤ wg cs m ∧ ∀ j', j' < k → baseL ls (S0 cs m) ≤ wg ls (S0 cs m + j') ∧ wg ls (S0 cs m + j') < baseL ls (S0 cs m) + 65536 ∧ (0 < j' → wg ls (S0 cs m + (j' - 1)) < wg ls (S0 cs m + j'))) ∧
          ((S0 cs (m + 1) : Int) - IntKind.i64.wrap (((S0 cs m + j : Nat) : Int) + 1)).toNat < ((S0 cs (m + 1) : Int) - ((S0 cs m + j : Nat) : Int)).toNat := fun W kW c1 c2 c3 => by
        rw [w64 (x := ((S0 cs m + j : Nat) : Int) + 1) ⟨by omega, by omega⟩]
        refine ⟨⟨kW, j + 1, by omega, by omega, fun j' hj' => ?_⟩, by omega⟩
        by_cases e : j' = j
        · subst e; exact ⟨c2, c3, c1⟩
        · exact hin j' (by omega)
      refine br_dec (fun g1 => ⟨k06, .inl ⟨rfl, bad (by omega)⟩⟩) (fun g1 => br_dec (fun g2 => ⟨k06, .inl ⟨rfl, bad (by omega)⟩⟩) (fun g2 => br_dec (fun g3 => ?_) (fun g3 => stp _ k46 (fun hh => by omega) (by omega) (by omega))))
      have b6 := hb.kp k46 id
      have hs6 := (hs.kpo k0).kpo k46
      refine ⟨_, b6.cell 1, _, b6.cell 1, usek (eAt hs6 hls _) fun w7 k7 => ⟨_, rfl, (b6.kp k7 id).cell 1, ?_⟩⟩
      rw [w64 (x := ((S0 cs m + j : Nat) : Int) - 1) ⟨by omega, by omega⟩, show ((S0 cs m + j : Nat) : Int) - 1 = ((S0 cs m + (j - 1) : Nat) : Int) by omega]
      refine usek (eAt (hs6.kpo k7) hls _) fun w8 k8 => ⟨_, rfl, ?_⟩
      rw [atZ_in (by omega), atZ_in (by omega)]
      have mono := hg.1 (S0 cs m + (j - 1)) (S0 cs m + j) (by omega) (by omega)
      have k48 := k46.t (k7.t k8)
      exact br_dec (fun g4 => ⟨k0.t k48, .inl ⟨rfl, bad (by omega)⟩⟩) (fun g4 => stp _ k48 (fun _ => by omega) (by omega) (by omega))
    · obtain rfl : j = wg cs m := by omega
      rw [w64 (x := (m : Int) + 1) ⟨by omega, by omega⟩]
      refine ⟨⟨k4, m + 1, by omega, by omega, fun m' hm2 => ?_⟩, by dsimp only; omega⟩
      by_cases e : m' = m
      · subst e; exact hin
      · exact hall m' (by omega)
  · obtain rfl : m = cs.length := by omega
    have hok : OkOf cs ls := ⟨hsum, fun m' hm' => hall m' hm'⟩
    have hRf := hR.kpo k2
    refine ⟨k0.t k2, .inr ⟨r, rfl, hok, ?_, of_good hok⟩⟩
    rw [of_cnts, of_chain hok]
    exact hRf

set_option maxHeartbeats 1000000 in
theorem rowsOf {zc zx : List Int} (hc : RdZ w lc zc) (hx : RdZ w lx zx) : IsK 9 #[.slice lc.a lc.len lc.cap, .slice lx.a lx.len lx.cap] w (.bool true) := by
  refine c9 _ _ _ _ ?_
  unfold B9
  have hcl := hc.len
  have hxl := hx.len
  refine br_dec (fun _ => usek (live33 _) fun w1 k1 => ⟨_, rfl, rfl, k1⟩) (fun hs1 => br_dec (fun _ => usek (live33 _) fun w1 k1 => ⟨_, rfl, rfl, k1⟩) (fun hs2 => ?_))
  refine use (rWrong7 hx (by omega)) ?_
  rintro _ w1 ⟨k1, e, rfl, hw⟩
  refine ⟨_, rfl, br_not (br_dec (fun h0 => ?_) (fun h0 => usek (live33 _) fun w2 k2 => ⟨_, rfl, rfl, k1.t k2⟩))⟩
  subst h0
  refine use (rSums9 (hc.kpo k1) (by omega)) ?_
  rintro _ w2 ⟨k2, ⟨rfl, _⟩ | ⟨o, cs, rfl, rfl, hsum, ho⟩⟩
  · exact ⟨⟨none, 0, 0⟩, _, rfl, brT (usek (live33 _) fun w3 k3 => ⟨_, rfl, rfl, k1.t (k2.t k3)⟩)⟩
  have hol := ho.len
  rw [zl_len, sumsOf_len] at hol
  rw [zl_len] at hcl
  obtain ⟨a, ha, hca⟩ := ho.at (i := (lc.len : Int)) (by omega) (by omega)
  have ev : wz (zl (sumsOf cs)) (lc.len : Int).toNat = (cs.sum : Int) := by rw [Int.toNat_natCast, wz_zl, ← hcl, sumsOf_at (Nat.le_refl _), S0_all]
  rw [ev] at hca
  refine ⟨o, _, rfl, brF ⟨by omega, by omega, a, ha, _, hca, br_dec (fun _ => usek (live33 _) fun w3 k3 => ⟨_, rfl, rfl, k1.t (k2.t k3)⟩) (fun hs3 => ?_)⟩⟩
  refine use (xNew0 (hc.kpo (k1.t k2)) (by omega) hsum) ?_
  rintro _ w3 ⟨k3, p, rfl, hp⟩
  refine ⟨_, _, rfl, use (eNew0 (hx.kpo ((k1.t k2).t k3)) (by omega) hw) ?_⟩
  rintro _ w4 ⟨k4, s, ls, rfl, rfl, hs⟩
  rw [zl_len] at hxl
  have hg := hs.good
  have s3 := k3.size
  have hp4 := hp.kpo k4
  have hs4 : SeqB w4 s ls w2.heap.size := hs.low s3
  refine ⟨_, _, rfl, use (wOf hp4 hs4 (by omega) (by omega)) ?_⟩
  have k14 := (k1.t k2).t (k3.t k4)
  rintro _ w5 ⟨k5, ⟨rfl, hno⟩ | ⟨r, rfl, hok, hr⟩⟩
  · refine ⟨_, _, rfl, use (rOf33 (hc.kpo (k14.t k5)) (hx.kpo (k14.t k5)) hg (by omega) (by omega) (by omega)) ?_⟩
    rintro _ w6 ⟨k6, ⟨o2, rfl, _⟩ | ⟨_, _, hok, _⟩⟩
    · exact ⟨o2, _, rfl, brT (brN (br_y rfl (usek (live33 _) fun w7 k7 => ⟨_, rfl, rfl, (k14.t k5).t (k6.t k7)⟩)))⟩
    · exact absurd hok hno
  · refine ⟨_, _, rfl, use (rOf33 (hc.kpo (k14.t k5)) (hx.kpo (k14.t k5)) hg (by omega) (by omega) (by omega)) ?_⟩
    rintro _ w6 ⟨k6, ⟨_, _, hno⟩ | ⟨o2, rfl, _, hG⟩⟩
    · exact absurd hok hno
    have hGl := hG.len
    rw [List.length_map, gsOf_len] at hGl
    have hcn := of_cnts cs ls
    have hch := of_chain hok
    have r6 := hr.kpo k6
    refine ⟨o2, _, rfl, brF (br_not (br_y rfl (usei (wGroups r6.1) ⟨_, rfl, ?_⟩)))⟩
    rw [hcn]
    refine br_not (br_y (by omega) (usei (wLen r6.1) ⟨_, rfl, ?_⟩))
    rw [hch]
    refine br_not (br_y (by omega) (use (wParts r6.1) ?_))
    rintro _ w7 ⟨k7, p2, s2, rfl, hp2, hs2⟩
    rw [hcn] at hp2
    rw [hch] at hs2
    refine ⟨_, _, rfl, use (wOf hp2 hs2 (by omega) (by omega)) ?_⟩
    rintro _ w8 ⟨k8, ⟨_, hno⟩ | ⟨r2, rfl, _, hr2⟩⟩
    · exact absurd hok hno
    have k18 := (k14.t k5).t (k6.t (k7.t k8))
    refine ⟨_, _, rfl, fun i w' => Kp no w8 w' ∧ ∃ m : Nat, i = m ∧ m ≤ ls.length, fun i _ => (lx.len - i).toNat, ⟨Kp.refl _ _, 0, rfl, by omega⟩, ?_⟩
    rintro i w9 ⟨k9, m, rfl, hm⟩
    have k69 := k7.t (k8.t k9)
    refine br_dec (fun hlt => ?_) (fun hlt => ?_)
    · refine use (rPlace33 (hG.kpo k69) (by rw [gsOf_len]; omega) (i := (m : Int)) (by omega)) ?_
      rintro _ w10 ⟨k10, g, x, rfl, hpl⟩
      have kd := k10.drew
      refine ⟨_, _, rfl, use (wAt (r6.kpo (k69.t kd)) m) ?_⟩
      rintro _ w11 ⟨k11, g1, x1, rfl, hpl1⟩
      obtain ⟨rfl, rfl⟩ := hpl1.one hpl
      refine ⟨_, rfl, br_not (br_y rfl (use (wAt (hr2.kpo (k9.t (kd.t k11))) m) ?_))⟩
      rintro _ w12 ⟨k12, g2, x2, rfl, hpl2⟩
      obtain ⟨rfl, rfl⟩ := hpl2.one hpl
      have k912 := k9.t (kd.t (k11.t k12))
      obtain ⟨a3, ha3, hc3⟩ := (hx.kpo (k18.t k912)).at (i := (m : Int)) (by omega) hlt
      refine ⟨_, rfl, br_not (br_y rfl ⟨by omega, hlt, a3, ha3, _, hc3, usek (eAt (hs2.kpo (k8.t k912)) (by omega) _) fun w13 k13 => ⟨_, rfl, kp_cell hc3 k13, ?_⟩⟩)⟩
      rw [Int.toNat_natCast, wz_zl, atZ_in (by omega), w64 (x := (m : Int) + 1) ⟨by omega, by omega⟩]
      exact br_not (br_y rfl ⟨⟨k912.t k13, m + 1, by omega, by omega⟩, by dsimp only; omega⟩)
    · have kd : Kp no w9 (World.drew w9) := (Kp.refl no w9).drew
      have k9d := k9.t kd
      refine br_y rfl (usei (xLen (hp2.kpo (k8.t k9d)) (by omega)) ⟨_, rfl, br_y (by omega) ?_⟩)
      have hcz := kp_cell hca ((k3.t k4).t (k5.t (k6.t (k7.t (k8.t k9d)))))
      refine ⟨by omega, by omega, a, ha, _, hcz, usei (xTotal (hp2.kpo (k8.t k9d))) ⟨_, rfl, hcz, br_y rfl (usei (wGroups (hr2.kpo k9d).1) ⟨_, rfl, ?_⟩)⟩⟩
      rw [hcn]
      exact br_y (by omega) (usek (live33 _) fun w10 k10 => ⟨_, rfl, rfl, k18.t (k9d.t k10)⟩)
end Go.Proofs.Ytmpgklgjmkcpdaa.V
