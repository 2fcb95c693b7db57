/- Numbers cut into parts: the laws. -/
import Derived.Test.YtmpgklgjmkcpdaaHq
import Derived.Test.YtmpgklgjmkcpdaaLa
namespace Go.Proofs.Ytmpgklgjmkcpdaa.V
open Go Go.VC
variable {w w' w0 : World} {l : Slc} {ls : List Nat} {zs : List Int} {s q B n k : Nat} {v : Value}
theorem cap_of {e : TypeId} {size : Nat} {xs : List Value} (h : Ownd w l e size xs) : l.len ≤ l.cap := by
  rcases h.cases with ⟨rfl, _⟩ | ⟨_, _, _, _, h, _⟩
  · exact Nat.le_refl _
  · exact h
theorem zl_bnd {xs : List Nat} (h : ∀ x ∈ xs, x ≤ 1099511627776) : ∀ z ∈ zl xs, -9223372036854775808 ≤ z ∧ z ≤ 9223372036854775807 := fun z hz => by
  obtain ⟨x, hx, rfl⟩ := List.mem_map.1 hz
  have := h x hx
  omega

set_option maxHeartbeats 1000000 in
theorem rSize8 (h : RdZ w l (zl ls)) (hcap : l.len ≤ l.cap) (hg : GoodL ls) (hsz : ls.length ≤ 1000000) : IsK 26 #[.slice l.a l.len l.cap] w (.int .i64 ((szL (shF ls) + shBits ls (shK ls) : Nat) : Int)) := by
  refine c26 _ _ _ ?_
  unfold B26
  have hl := h.len
  rw [zl_len] at hl
  have hK : shK ls ≤ ls.length := by unfold shK; omega
  have hFg := shF_good hg
  refine ⟨fun x b i w' => ∃ m : Nat, i = m ∧ m ≤ shK ls ∧ b = (shBits ls m : Int) ∧ Ownd w' x 3 1 ((zl ((shF ls).take m)).map (Value.int .i64)) ∧ x.len = m ∧ (∀ k, On x k → w.heap.size ≤ k) ∧ Kp no w w', fun _ _ i _ => (shK ls - i).toNat,
    ⟨0, rfl, by omega, rfl, Ownd.nil _ _ _, rfl, fun _ h => absurd h On.nil, Kp.refl _ _⟩, ?_⟩
  rintro x b i w1 ⟨m, rfl, hm, rfl, hO, hxl, hf, k1⟩
  have hbb := shBits_le hg (m + 1)
  have hbs : shBits ls (m + 1) = shBits ls m + if shKind ls m = 2 then szL (shP ls m) else 0 := rfl
  refine usei (rParts8 (h.kpo k1) hsz) ⟨_, rfl, br_dec (fun hlt => ?_) (fun hlt => ?_)⟩
  · have hmK : m < shK ls := by omega
    have hC := shC_le ls m
    have hC0 : 0 < shC ls m := by unfold shK at hmK; unfold shC; omega
    have hp := rdPart h hcap hmK
    refine usei (rPart8 (h.kpo k1) hcap hsz hmK) ⟨⟨if l.cap = 32 * m then l.a else l.a.map (·.add (32 * m * 1)), min (32 * m + 32) l.len - 32 * m, l.cap - 32 * m⟩, rfl, ?_⟩
    generalize hpl : (⟨if l.cap = 32 * m then l.a else l.a.map (·.add (32 * m * 1)), min (32 * m + 32) l.len - 32 * m, l.cap - 32 * m⟩ : Slc) = pl at *
    have hpll := hp.len
    rw [zl_len, pt_len] at hpll
    obtain ⟨a, ha, hc⟩ := (hp.kpo k1).at (i := (0 : Int)) (by omega) (by omega)
    rw [wz_zl, show (0 : Int).toNat = 0 from rfl, pt_at hC0, Nat.add_zero] at hc
    refine ⟨by decide, by omega, a, ha, _, hc, ?_⟩
    obtain ⟨w2, x2, hr2, hO2, hl2, k2, f2⟩ := append_one (ty := 22) elI hO (.int .i64 ((wg ls (32 * m) : Nat) : Int)) rfl (by simp only [maxLen]; omega) (by omega)
    have e3 : (zl ((shF ls).take (m + 1))).map (Value.int .i64) = (zl ((shF ls).take m)).map (Value.int .i64) ++ [.int .i64 ((wg ls (32 * m) : Nat) : Int)] := by
      rw [take_wg (by rw [shF_len]; exact hmK), shF_at hmK]; simp
    rw [← e3] at hO2
    have kw2 : Kp no w w2 := k1.trans k2 (fun k h1 h2 => by have := hf k h2; omega)
    have hf2 : ∀ k, On x2 k → w.heap.size ≤ k := fun k hk => by
      rcases f2 k hk with g | g
      · exact hf k g
      · have := k1.size; omega
    have hx2 := fun k (hk : On x2 k) => hO2.on hk
    have hPg := shP_good hg m
    refine ⟨w2, x2, hr2, fun y j w' => ∃ n : Nat, j = n ∧ n ≤ shC ls m ∧ Ownd w' y 3 1 ((zl ((shP ls m).take n)).map (Value.int .i64)) ∧ y.len = n ∧ (∀ k, On y k → w2.heap.size ≤ k) ∧ Kp no w2 w', fun _ j _ => (shC ls m - j).toNat,
      ⟨0, rfl, by omega, Ownd.nil _ _ _, rfl, fun _ h => absurd h On.nil, Kp.refl _ _⟩, ?_⟩
    rintro y j w3 ⟨n, rfl, hn, hO3, hyl, hf3, k3⟩
    have hz : ∀ {W : World}, Kp no w W → RdZ W pl (zl (pt ls m)) := fun kW => hp.kpo kW
    refine br_dec (fun hlt2 => ?_) (fun hlt2 => ?_)
    · have hnC : n < shC ls m := by omega
      have kd : Kp no w (World.drew w3) := kw2.t k3.drew
      obtain ⟨a1, ha1, hc1⟩ := (hz kd).at (i := (n : Int)) (by omega) hlt2
      rw [ha] at ha1
      obtain rfl := Option.some.inj ha1
      obtain ⟨a2, ha2, hc2⟩ := (hz kd).at (i := (0 : Int)) (by omega) (by omega)
      rw [ha] at ha2
      obtain rfl := Option.some.inj ha2
      rw [wz_zl, Int.toNat_natCast, pt_at hnC] at hc1
      rw [wz_zl, show (0 : Int).toNat = 0 from rfl, pt_at hC0, Nat.add_zero] at hc2
      have hm32 : 32 * m + n < ls.length := by unfold shC at hnC; omega
      have hv := wg_le hg (32 * m + n)
      have hge := shP_ge hg hnC
      have e0 : IntKind.i64.wrap ((wg ls (32 * m + n) : Int) - (wg ls (32 * m) : Int)) = ((wg (shP ls m) n : Nat) : Int) := by rw [shP_at hnC, w64 ⟨by omega, by omega⟩]; omega
      refine ⟨by omega, hlt2, a, ha, _, by rw [Int.toNat_natCast]; exact hc1, by decide, by omega, a, ha, _, hc2, ?_⟩
      rw [e0]
      obtain ⟨w4, y4, hr4, hO4, hl4, k4, f4⟩ := append_one (ty := 22) elI hO3.drew (.int .i64 ((wg (shP ls m) n : Nat) : Int)) rfl (by simp only [maxLen]; omega) (by omega)
      have e4 : (zl ((shP ls m).take (n + 1))).map (Value.int .i64) = (zl ((shP ls m).take n)).map (Value.int .i64) ++ [.int .i64 ((wg (shP ls m) n : Nat) : Int)] := by
        rw [take_wg (by rw [shP_len]; exact hnC)]; simp
      rw [← e4] at hO4
      rw [w64 (x := (n : Int) + 1) ⟨by omega, by omega⟩]
      refine ⟨w4, y4, hr4, ⟨n + 1, by omega, by omega, hO4, by omega, fun k hk => ?_, k3.drew.trans k4 (fun k h1 h2 => by have := hf3 k h2; omega)⟩, by dsimp only; omega⟩
      rcases f4 k hk with g | g
      · exact hf3 k g
      · have := k3.size
        have g : w3.heap.size ≤ k := g
        omega
    · obtain rfl : n = shC ls m := by omega
      have hs3 := k3.size
      have hY : RdZ w3 y (zl (shP ls m)) := by
        have := hO3
        rw [List.take_of_length_le (by rw [shP_len]; omega)] at this
        exact ownZ this (zl_bnd hPg.2)
      refine usek (rKind8 (hz (kw2.t k3)) hg hmK) fun w4 k4 => ⟨_, rfl, ?_⟩
      have kw4 := (kw2.t k3).t k4
      have hO5 := (hO2.kp k3 (fun _ _ f => f)).kp k4 (fun _ _ f => f)
      rw [w64 (x := (m : Int) + 1) ⟨by omega, by omega⟩]
      refine br_dec (fun hk2 => ?_) (fun hk2 => ?_)
      · have hk2' : shKind ls m = 2 := by omega
        rw [if_pos hk2'] at hbs
        refine usei (rSize7 (hY.kpo k4) hPg (by rw [shP_len]; omega)) ⟨_, rfl, ⟨m + 1, by omega, by omega, ?_, hO5, by omega, hf2, kw4⟩, by dsimp only; omega⟩
        rw [hbs]
        show IntKind.i64.wrap (((shBits ls m : Nat) : Int) + ((szL (shP ls m) : Nat) : Int)) = _
        rw [w64 ⟨by omega, by omega⟩]; omega
      · have hk2' : ¬ shKind ls m = 2 := by omega
        rw [if_neg hk2'] at hbs
        exact ⟨⟨m + 1, by omega, by omega, by rw [hbs]; omega, hO5, by omega, hf2, kw4⟩, by dsimp only; omega⟩
  · obtain rfl : m = shK ls := by omega
    have hX : RdZ w1 x (zl (shF ls)) := by
      have := hO
      rw [List.take_of_length_le (by rw [shF_len]; omega)] at this
      exact ownZ this (zl_bnd hFg.2)
    have h2 := szL_le hFg
    rw [shF_len] at h2
    refine usei (rSize7 hX hFg (by rw [shF_len]; omega)) ⟨_, rfl, ?_, k1⟩
    show Value.int .i64 (IntKind.i64.wrap (((shBits ls (shK ls) : Nat) : Int) + ((szL (shF ls) : Nat) : Int))) = _
    rw [w64 ⟨by omega, by omega⟩]
    congr 1
    omega

/-- The example's numbers. -/
def L8 : List Nat := (List.range 32).map (· + 1) ++ [7000, 7000]
theorem L8_good : GoodL L8 := by
  obtain ⟨l, e, g⟩ := good_of (zs := zl L8) (by unfold okE outE; decide)
  rwa [← zl_inj e] at g

theorem live8 (w : World) : IsK 15 #[] w (.bool true) := by
  refine c15 _ _ ?_
  unfold B15
  refine ⟨fun x i w' => ∃ m : Nat, i = ((m + 1 : Nat) : Int) ∧ m ≤ 32 ∧ Ownd w' x 3 1 ((zl ((List.range m).map (· + 1))).map (Value.int .i64)) ∧ x.len = m ∧ (∀ k, On x k → w.heap.size ≤ k) ∧ Kp no w w', fun _ i _ => (33 - i).toNat,
    ⟨0, rfl, by omega, Ownd.nil _ _ _, rfl, fun _ h => absurd h On.nil, Kp.refl _ _⟩, ?_⟩
  rintro x i w1 ⟨m, rfl, hm, hO, hxl, hf, k1⟩
  refine br_dec (fun hlt => ?_) (fun hlt => ?_)
  · obtain ⟨w2, x2, hr2, hO2, hl2, k2, f2⟩ := append_one (ty := 22) elI hO (.int .i64 ((m + 1 : Nat) : Int)) rfl (by simp only [maxLen]; omega) (by omega)
    have e : (zl ((List.range (m + 1)).map (· + 1))).map (Value.int .i64) = (zl ((List.range m).map (· + 1))).map (Value.int .i64) ++ [.int .i64 ((m + 1 : Nat) : Int)] := by
      rw [List.range_succ]; simp
    rw [← e] at hO2
    rw [w64 (x := ((m + 1 : Nat) : Int) + 1) ⟨by omega, by omega⟩]
    refine ⟨w2, x2, hr2, ⟨m + 1, by omega, by omega, hO2, by omega, fun k hk => ?_, k1.trans k2 (fun k h1 h2 => by have := hf k h2; omega)⟩, by dsimp only; omega⟩
    rcases f2 k hk with g | g
    · exact hf k g
    · have := k1.size; omega
  · obtain rfl : m = 32 := by omega
    have kA : Kp no w1 (w1.alloc (.cells #[.int .i64 7000, .int .i64 7000] 3)) := (Kp.refl _ _).alloc _ _
    have rA : RdZ (w1.alloc (.cells #[.int .i64 7000, .int .i64 7000] 3)) ⟨some ⟨w1.heap.size, 0, none⟩, 2, 2⟩ [7000, 7000] := rdZ_lit w1 [7000, 7000] (by simp) 3
    obtain ⟨w2, x2, hr2, hO2, hl2, k2, f2⟩ := append_rd (ty := 22) elI (by omega) (hO.alloc (.cells #[.int .i64 7000, .int .i64 7000] 3)) ⟨some ⟨w1.heap.size, 0, none⟩, 2, 2⟩ (news := [Value.int .i64 7000, .int .i64 7000]) rfl rA.rd (by simp [Value.oneCell']) (by simp only [maxLen]; omega) (by dsimp only; omega)
    have e : (zl ((List.range 32).map (· + 1))).map (Value.int .i64) ++ [Value.int .i64 7000, .int .i64 7000] = (zl L8).map (Value.int .i64) := by unfold L8; simp
    rw [e] at hO2
    have kw2 : Kp no w w2 := (k1.t kA).trans k2 (fun k h1 h2 => by have := hf k h2; omega)
    have hZ := ownZ hO2 (zl_bnd L8_good.2)
    have hn : L8.length = 34 := by decide
    refine ⟨w2, x2, hr2, use (dvNew0 hZ (cap_of hO2) L8_good (by omega)) ?_⟩
    rintro _ w3 ⟨k3, q, rfl, hq⟩
    refine ⟨_, _, rfl, use (dvNext hq (by omega) 33) ?_⟩
    rintro _ w4 ⟨k4, r, rfl, hr⟩
    obtain rfl := hr.one (.inr ⟨32, rfl, by decide, by decide, by decide⟩ : NextIP _ 33 32)
    have e1 : shCnt L8 0 (shK L8) = 1 := by decide +kernel
    have e2 : shCnt L8 1 (shK L8) = 1 := by decide +kernel
    have e3 : shCnt L8 2 (shK L8) = 0 := by decide +kernel
    refine ⟨_, _, rfl, usek (dvKinds (hq.kpo k4) (by omega)) fun w5 k5 => ⟨_, _, _, rfl, w5, true, ?_, brYy (usek (dvAt (hq.kpo (k4.t k5)) (by omega) 32) fun w6 k6 => ⟨_, rfl, br_y (by decide) (br_y rfl (br_y (by decide) ⟨rfl, ((kw2.t k3).t k4).t (k5.t k6)⟩))⟩)⟩⟩
    rw [e1, e2, e3]
    exact eq3 _ _ _ 1 1 0

theorem shardMakes (h : RdZ w l zs) (hcap : l.len ≤ l.cap) (x : Int) : IsK 5 #[.slice l.a l.len l.cap, .int .i64 x] w (.bool true) := by
  refine c5 _ _ _ _ ?_
  unfold B5
  have hl := h.len
  refine br_dec (fun _ => usek (live8 _) fun w1 k1 => ⟨_, rfl, rfl, k1⟩) (fun hsm => ?_)
  refine use (dvNew h hcap (by omega)) ?_
  rintro _ w1 ⟨k1, hv⟩
  rcases hv with ⟨e, rfl, he, hw⟩ | ⟨q, ls, rfl, rfl, hq⟩
  · refine ⟨_, _, rfl, use (rWrong7 (h.kpo k1) (by omega)) ?_⟩
    rintro _ w2 ⟨k2, e2, rfl, hw2⟩
    obtain rfl := hw.one hw2
    refine ⟨_, rfl, br_not (br_y rfl (usei (dvLenN _) ⟨_, rfl, br_not (br_y rfl (usei (dvAtN _ _) ⟨_, rfl, br_not (br_y rfl (usei (dvSizeN _) ⟨_, rfl, br_not (br_y rfl (usek (dvKindsN _) fun w3 k3 => ⟨_, _, _, rfl, w3, false, ne3 _ _ _ 0 0 0, brFf ?_⟩))⟩))⟩))⟩))⟩
    exact br_not (br_n he (brN (usek (live8 _) fun w4 k4 => ⟨_, rfl, rfl, (k1.t k2).t (k3.t k4)⟩)))
  · have hg := hq.good
    rw [zl_len] at hl
    refine ⟨_, _, rfl, use (rWrong7 (h.kpo k1) (by rw [zl_len]; omega)) ?_⟩
    rintro _ w2 ⟨k2, e2, rfl, hw2⟩
    obtain rfl := WrongP.one hw2 (.inl ⟨rfl, okE_of hg⟩)
    refine ⟨_, rfl, br_not (br_y rfl (usei (dvLenN _) ⟨_, rfl, br_not (br_y rfl (usei (dvAtN _ _) ⟨_, rfl, br_not (br_y rfl (usei (dvSizeN _) ⟨_, rfl, br_not (br_y rfl (usek (dvKindsN _) fun w3 k3 => ⟨_, _, _, rfl, w3, false, ne3 _ _ _ 0 0 0, brFf ?_⟩))⟩))⟩))⟩))⟩
    refine br_not (br_y rfl ⟨fun i w' => Kp no w3 w' ∧ ∃ m : Nat, i = m ∧ m ≤ ls.length, fun i _ => (l.len - i).toNat, ⟨Kp.refl _ _, 0, rfl, by omega⟩, ?_⟩)
    rintro i w4 ⟨k4, m, rfl, hm⟩
    have k14 := k1.t (k2.t (k3.t k4))
    refine br_dec (fun hlt => ?_) (fun hlt => ?_)
    · obtain ⟨a, ha, hc⟩ := (h.kpo k14.drew).at (i := (m : Int)) (by omega) hlt
      rw [wz_zl] at hc
      refine ⟨by omega, hlt, a, ha, _, hc, usek (dvAt (hq.kpo (k2.t (k3.t k4.drew))) (by omega) _) fun w5 k5 => ⟨_, rfl, kp_cell (w := World.drew w4) hc k5, ?_⟩⟩
      rw [Int.toNat_natCast, atZ_in (by omega), w64 (x := (m : Int) + 1) ⟨by omega, by omega⟩]
      exact br_not (br_y rfl ⟨⟨k4.drew.t k5, m + 1, by omega, by omega⟩, by dsimp only; omega⟩)
    · have q4 := hq.kpo (k2.t (k3.t k4))
      refine usei (dvLen q4) ⟨_, rfl, br_y (by omega) (usek (dvAt q4 (by omega) x) fun w5 k5 => ⟨_, rfl, usei (rAt7 (h.kpo (k14.t k5)) x) ⟨_, rfl, br_y rfl (usek (live8 _) fun w6 k6 => ⟨_, rfl, rfl, (k14.t k5).t k6⟩)⟩⟩)⟩

theorem shardNext (h : RdZ w l zs) (hcap : l.len ≤ l.cap) (x : Int) : IsK 3 #[.slice l.a l.len l.cap, .int .i64 x] w (.bool true) := by
  refine c3 _ _ _ _ ?_
  unfold B3
  have hl := h.len
  refine br_dec (fun _ => usek (live8 _) fun w1 k1 => ⟨_, rfl, rfl, k1⟩) (fun hsm => ?_)
  refine use (rWrong7 h (by omega)) ?_
  rintro _ w1 ⟨k1, e, rfl, hw⟩
  refine ⟨_, rfl, br_not (br_dec (fun h0 => ?_) (fun h0 => usek (live8 _) fun w2 k2 => ⟨_, rfl, rfl, k1.t k2⟩))⟩
  subst h0
  refine use (dvNew (h.kpo k1) hcap (by omega)) ?_
  rintro _ w2 ⟨k2, ⟨e, rfl, he, hw'⟩ | ⟨q, ls, rfl, rfl, hq⟩⟩
  · exact absurd (hw'.one hw) he
  rw [zl_len] at hl
  refine ⟨_, _, rfl, use (dvNext hq (by omega) x) ?_⟩
  rintro _ w3 ⟨k3, r, rfl, hr⟩
  refine ⟨_, _, rfl, usei (dvNextN _ _) ⟨_, _, rfl, use (rNext7 (h.kpo ((k1.t k2).t k3)) (by rw [zl_len]; omega) x) ?_⟩⟩
  rintro _ _ ⟨rfl, r2, rfl, hr2⟩
  obtain rfl := hr.one hr2
  exact ⟨_, rfl, br_y rfl (usei (rAt7 (h.kpo ((k1.t k2).t k3)) _) ⟨_, rfl, br_y rfl (br_y rfl (br_y rfl (usek (live8 _) fun w4 k4 => ⟨_, rfl, rfl, ((k1.t k2).t k3).t k4⟩)))⟩)⟩

theorem shardKinds (h : RdZ w l zs) (hcap : l.len ≤ l.cap) : IsK 6 #[.slice l.a l.len l.cap] w (.bool true) := by
  refine c6 _ _ _ ?_
  unfold B6
  have hl := h.len
  refine br_dec (fun _ => usek (live8 _) fun w1 k1 => ⟨_, rfl, rfl, k1⟩) (fun hsm => ?_)
  refine use (rWrong7 h (by omega)) ?_
  rintro _ w1 ⟨k1, e, rfl, hw⟩
  refine ⟨_, rfl, br_not (br_dec (fun h0 => ?_) (fun h0 => usek (live8 _) fun w2 k2 => ⟨_, rfl, rfl, k1.t k2⟩))⟩
  subst h0
  refine use (dvNew (h.kpo k1) hcap (by omega)) ?_
  rintro _ w2 ⟨k2, ⟨e, rfl, he, hw'⟩ | ⟨q, ls, rfl, rfl, hq⟩⟩
  · exact absurd (hw'.one hw) he
  have hg := hq.good
  rw [zl_len] at hl
  refine ⟨_, _, rfl, usek (dvKinds hq (by omega)) fun w3 k3 => ⟨_, _, _, rfl, usek (rKinds8 (h.kpo ((k1.t k2).t k3)) hcap hg (by omega)) fun w4 k4 => ⟨_, _, _, rfl, w4, true, eq3 _ _ _ _ _ _, brYy ?_⟩⟩⟩
  have k14 := ((k1.t k2).t k3).t k4
  exact usek (dvSize (hq.kpo (k3.t k4)) (by omega)) fun w5 k5 => ⟨_, rfl, usek (rSize8 (h.kpo (k14.t k5)) hcap hg (by omega)) fun w6 k6 => ⟨_, rfl, br_y rfl (usek (live8 _) fun w7 k7 => ⟨_, rfl, rfl, (k14.t k5).t (k6.t k7)⟩)⟩⟩
end Go.Proofs.Ytmpgklgjmkcpdaa.V
