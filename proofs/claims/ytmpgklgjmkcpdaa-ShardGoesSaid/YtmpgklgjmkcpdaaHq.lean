/- Numbers cut into parts: a sequence of them is made; what the document's functions tell. -/
import Derived.Test.YtmpgklgjmkcpdaaHn
namespace Go.Proofs.Ytmpgklgjmkcpdaa.V
open Go Go.VC
variable {w w' w0 : World} {l : Slc} {ls : List Nat} {zs : List Int} {s q B n k : Nat} {v : Value}
theorem elP : El Try.prog 84 88 1 16 := El.of (by kernel_rfl) (by kernel_rfl)
theorem PieceV.ifc (h : PieceV w v ls k B) : ∃ t u, v = .iface t u := by
  rcases h with ⟨_, rfl⟩ | ⟨_, _, rfl⟩ | ⟨_, _, s, rfl, _⟩ <;> exact ⟨_, _, rfl⟩

/-- A sequence under way. -/
structure Dst (w0 : World) (q : Nat) (n : Nat) (ls : List Nat) (m : Nat) (w : World) (x ps : Slc) (vs : List Value) : Prop where
  xs : Ownd w x 3 1 ((zl ((shF ls).take m)).map (Value.int .i64))
  xl : x.len = m
  blk : Blk w q [.pointer none, .slice ps.a ps.len ps.cap, .int .i64 (n : Int)] 86
  own : Ownd w ps 88 1 vs
  num : vs.length = m
  pcs : ∀ k v, vs[k]? = some v → ∀ w', Kp (fun b => b = q ∨ On x b ∨ On ps b) w w' → PieceV w' v ls k w0.heap.size
  d1 : ¬ On ps q
  d2 : ¬ On x q
  d3 : ∀ k, On x k → ¬ On ps k
  f1 : ∀ k, On ps k → w0.heap.size ≤ k
  f2 : ∀ k, On x k → w0.heap.size ≤ k
  fq : w0.heap.size ≤ q
  kp : Kp no w0 w

set_option maxHeartbeats 1000000 in
theorem dvNew (h : RdZ w l zs) (hcap : l.len ≤ l.cap) (hsz : zs.length ≤ 1000000) : Calls Try.prog 16 #[.slice l.a l.len l.cap] w (Rv fun v w' => Kp no w w' ∧
    ((∃ e : Int, v = .tuple #[.pointer none, .int .i64 e] ∧ e ≠ 0 ∧ WrongP zs e) ∨ (∃ q ls, v = .tuple #[.pointer (some ⟨q, 0, none⟩), .int .i64 0] ∧ zs = zl ls ∧ ShardB w' q ls w.heap.size))) := by
  refine c16 _ _ _ ?_
  unfold B16
  have hl := h.len
  refine use (eNew h (by omega)) ?_
  rintro _ w1 ⟨k1, ⟨e, rfl, he, hw⟩ | ⟨s, ls, rfl, rfl, hs⟩⟩
  · exact ⟨_, _, rfl, br_not (br_dec (fun h0 => absurd h0 he) (fun _ => ⟨k1, .inl ⟨e, rfl, he, hw⟩⟩))⟩
  refine ⟨_, _, rfl, br_not (br_y rfl ?_)⟩
  have hg := hs.good
  clear hs
  rw [zl_len] at hl hsz
  have hK : shK ls ≤ ls.length := by unfold shK; omega
  have hb := Blk.new w1 [.pointer none, .slice none 0 0, .int .i64 (l.len : Int)] 86
  have k2 : Kp no w1 (w1.alloc (.cells #[.pointer none, .slice none 0 0, .int .i64 (l.len : Int)] 86)) := (Kp.refl _ _).alloc _ _
  have hs1 := k1.size
  have D0 : Dst w w1.heap.size l.len ls 0 (w1.alloc (.cells #[.pointer none, .slice none 0 0, .int .i64 (l.len : Int)] 86)) ⟨none, 0, 0⟩ ⟨none, 0, 0⟩ [] :=
    ⟨Ownd.nil _ _ _, rfl, hb, Ownd.nil _ _ _, rfl, fun k v hv => by simp at hv, On.nil, On.nil, fun _ h => absurd h On.nil, fun _ h => absurd h On.nil, fun _ h => absurd h On.nil, hs1, k1.t k2⟩
  generalize w1.alloc (.cells #[.pointer none, .slice none 0 0, .int .i64 (l.len : Int)] 86) = w2 at *
  generalize w1.heap.size = q at *
  refine ⟨fun x i w' => ∃ (m : Nat) (ps : Slc) (vs : List Value), i = ((32 * m : Nat) : Int) ∧ m ≤ shK ls ∧ Dst w q l.len ls m w' x ps vs, fun _ i _ => (l.len - i).toNat, ⟨0, _, _, rfl, by omega, D0⟩, ?_⟩
  rintro x i w3 ⟨m, ps, vs, rfl, hm, D⟩
  refine br_dec (fun hlt => ?_) (fun hlt => ?_)
  · have hmK : m < shK ls := by unfold shK; omega
    have hpl := D.own.len
    have hpl2 := D.num
    obtain ⟨a, ha, hc⟩ := (h.kpo D.kp).at (i := ((32 * m : Nat) : Int)) (by omega) hlt
    rw [wz_zl, Int.toNat_natCast] at hc
    obtain ⟨w4, x4, hr4, hO4, hl4, k4, f4⟩ := append_one (ty := 22) elI D.xs (.int .i64 ((wg ls (32 * m) : Nat) : Int)) rfl (by have := D.xl; simp only [maxLen]; omega) (by have := D.xl; omega)
    have b4 := D.blk.kp k4 D.d2
    have e1 : Int.toNat (min (IntKind.i64.wrap (((32 * m : Nat) : Int) + 32)) (l.len : Int)) = min (32 * m + 32) l.len := by rw [w64 ⟨by omega, by omega⟩]; omega
    have kd : Kp no w4 (World.drew w4) := (Kp.refl no w4).drew
    have kw4 : Kp no w w4 := D.kp.trans k4 (fun k h1 h2 => by have := D.f2 k h2; omega)
    refine ⟨by omega, hlt, a, ha, _, by rw [Int.toNat_natCast]; exact hc, w4, x4, hr4, ps, b4.drew.cell 1, b4.drew.cell 1, by omega, ?_, ?_, ?_⟩
    · rw [w64 ⟨by omega, by omega⟩]; omega
    · omega
    rw [e1, Int.toNat_natCast]
    have hcut := dvCut ((rdPart h hcap hmK).kpo (kw4.t kd)) hg hmK
    refine use hcut ?_
    rintro v w5 ⟨k5, hv⟩
    have k45 : Kp no w4 w5 := kd.t k5
    have hv4 : PieceV w5 v ls m w4.heap.size := hv
    obtain ⟨t, u, rfl⟩ := hv.ifc
    have b5 := b4.kp k45 id
    have hs34 := k4.size
    have hs45 := k45.size
    have hq3 := D.blk.lt
    have hO5 : Ownd w5 ps 88 1 vs := (D.own.kp k4 (fun k h1 h2 => D.d3 k h2 h1)).kp k45 (fun _ _ f => f)
    obtain ⟨w6, p6, hr6, hu6, hf6, b6, hO6, d6, hl6, k6, f6⟩ := fapp (ty := 84) elP b5 (c := 1) (by simp) hO5 D.d1 (.iface t u) rfl (by simp only [maxLen]; omega) (by omega)
    refine ⟨_, rfl, b5.cell 1, wvs_some (x := [Value.iface t u]) rfl ⟨(b5.alloc _).cell 1, w6, p6, hr6, hu6, hf6, ?_⟩⟩
    have hx4 := fun k (hk : On x4 k) => hO4.on hk
    have hps := fun k (hk : On ps k) => D.own.on hk
    have e2 : IntKind.i64.wrap (((32 * m : Nat) : Int) + 32) = ((32 * (m + 1) : Nat) : Int) := by rw [w64 ⟨by omega, by omega⟩]; omega
    rw [e2]
    have kw6 : Kp (fun b => b = q ∨ On x b ∨ On ps b) w3 (w6.setCell (Addr.add ⟨q, 0, none⟩ 1) (.slice p6.a p6.len p6.cap)) :=
      ((k4.mono (S' := fun b => b = q ∨ On x b ∨ On ps b) (fun _ _ h => .inr (.inl h))).trans (k45.mono (S' := fun b => b = q ∨ On x b ∨ On ps b) (fun _ _ f => f.elim)) (fun _ _ h => h)).trans k6 (fun k h1 h2 => by
        rcases h2 with rfl | h2
        · exact .inl rfl
        · exact .inr (.inr h2))
    refine ⟨⟨m + 1, p6, vs ++ [.iface t u], rfl, by omega, ?_⟩, by dsimp only; omega⟩
    refine ⟨?_, by have := D.xl; omega, b6, hO6, by simp; omega, ?_, d6, ?_, ?_, ?_, ?_, D.fq, ?_⟩
    · have e3 : (zl ((shF ls).take (m + 1))).map (Value.int .i64) = (zl ((shF ls).take m)).map (Value.int .i64) ++ [.int .i64 ((wg ls (32 * m) : Nat) : Int)] := by
        rw [take_wg (by rw [shF_len]; exact hmK), shF_at hmK]; simp
      rw [e3]
      refine (hO4.kp k45 (fun _ _ f => f)).kp k6 (fun k h1 h2 => ?_)
      rcases h2 with rfl | h2
      · rcases f4 _ h1 with g | g
        · exact D.d2 g
        · omega
      · rcases f4 _ h1 with g | g
        · exact D.d3 k g h2
        · have := hps k h2; omega
    · intro k v hv' w' kw
      by_cases hk : k < m
      · rw [List.getElem?_append_left (by omega)] at hv'
        refine D.pcs k v hv' w' (kw6.trans kw (fun b h1 h2 => ?_))
        rcases h2 with rfl | h2 | h2
        · exact .inl rfl
        · rcases f4 b h2 with g | g
          · exact .inr (.inl g)
          · omega
        · rcases f6 b h2 with g | g
          · exact .inr (.inr g)
          · omega
      · have hkm : k = m := by
          have : k < (vs ++ [Value.iface t u]).length := by
            rw [List.getElem?_eq_some_iff] at hv'; exact hv'.1
          simp at this; omega
        subst hkm
        rw [List.getElem?_append_right (by omega), D.num, Nat.sub_self] at hv'
        obtain rfl := Option.some.inj hv'
        refine (hv4.kp (S := fun b => b = q ∨ On x4 b ∨ On ps b) ((k6.mono (fun b _ h2 => ?_)).trans kw (fun b h1 h2 => ?_)) (fun b h1 h2 => ?_)).low (by have := D.kp.size; omega)
        · rcases h2 with h2 | h2
          · exact .inl h2
          · exact .inr (.inr h2)
        · rcases h2 with h2 | h2 | h2
          · exact .inl h2
          · exact .inr (.inl h2)
          · rcases f6 b h2 with g | g
            · exact .inr (.inr g)
            · omega
        · rcases h2 with rfl | h2 | h2
          · omega
          · have := hx4 b h2; omega
          · have := hps b h2; omega
    · intro hk
      rcases f4 _ hk with g | g
      · exact D.d2 g
      · omega
    · intro k h1 h2
      rcases f6 k h2 with g | g
      · rcases f4 k h1 with g2 | g2
        · exact D.d3 k g2 g
        · have := hps k g; omega
      · have := hx4 k h1; omega
    · intro k h2
      rcases f6 k h2 with g | g
      · exact D.f1 k g
      · have := D.kp.size; omega
    · intro k h1
      rcases f4 k h1 with g | g
      · exact D.f2 k g
      · have := D.kp.size; omega
    · exact D.kp.trans kw6 (fun b h1 h2 => by
        rcases h2 with rfl | h2 | h2
        · have := D.fq; omega
        · have := D.f2 b h2; omega
        · have := D.f1 b h2; omega)
  · have hme : m = shK ls := by unfold shK at hm ⊢; omega
    have hxl := D.xl
    have hFg := shF_good hg
    have hX : RdZ w3 x (zl (shF ls)) := by
      have := D.xs
      rw [List.take_of_length_le (by rw [shF_len]; omega)] at this
      exact ownZ this (fun z hz => by
        obtain ⟨y, hy, rfl⟩ := List.mem_map.1 hz
        have := hFg.2 y hy
        omega)
    refine use (eNew0 hX (by rw [zl_len, shF_len]; omega) (.inl ⟨rfl, okE_of hFg⟩)) ?_
    rintro _ w4 ⟨k4, f, ls', rfl, hz, hf⟩
    obtain rfl := zl_inj hz
    have b4 := D.blk.kp k4 id
    have hq3 := D.blk.lt
    have hs4 := k4.size
    refine ⟨_, _, rfl, ⟨_, b4.cell 0⟩, b4.frozen 0, ?_⟩
    have k5 : Kp (fun k => k = q) w4 (w4.setCell (Addr.add ⟨q, 0, none⟩ 0) (.pointer (some ⟨f, 0, none⟩))) := (Kp.refl _ _).set _ _ (fun _ => by rw [add_block])
    have b5 := b4.set 0 (.pointer (some ⟨f, 0, none⟩))
    generalize w4.setCell (Addr.add ⟨q, 0, none⟩ 0) (.pointer (some ⟨f, 0, none⟩)) = w5 at *
    have k35 : Kp (fun b => b = q) w3 w5 := (k4.mono (S' := fun b => b = q) (fun _ _ f => f.elim)).trans k5 (fun _ _ h => h)
    have hn := D.num
    have hol := D.own.len
    have hll : (l.len : Int) = (ls.length : Int) := by omega
    refine ⟨D.kp.trans k35 (fun b h1 h2 => by have := D.fq; have h2 : b = q := h2; omega), .inr ⟨q, ls, rfl, rfl, f, ps, vs, ?_, (hf.kp k5 (fun k h1 h2 => by omega)).low (by have := D.kp.size; omega), D.own.rd.kp k35 (fun k h1 h2 => by subst h2; exact D.d1 h1), by omega, by omega,
      fun k v hv => D.pcs k v hv w5 (k35.mono (fun b _ h => .inl h)), hg, D.fq, D.f1⟩⟩
    rw [← hll]; exact b5

theorem dvNew0 (h : RdZ w l (zl ls)) (hcap : l.len ≤ l.cap) (hg : GoodL ls) (hsz : ls.length ≤ 1000000) : Calls Try.prog 16 #[.slice l.a l.len l.cap] w (Rv fun v w' => Kp no w w' ∧
    ∃ q, v = .tuple #[.pointer (some ⟨q, 0, none⟩), .int .i64 0] ∧ ShardB w' q ls w.heap.size) := by
  refine use (dvNew h hcap (by rw [zl_len]; exact hsz)) ?_
  rintro _ w1 ⟨k1, ⟨e, _, he, g⟩ | ⟨q, ls', rfl, hz, g⟩⟩
  · exact absurd (WrongP.one g (.inl ⟨rfl, okE_of hg⟩)) he
  · obtain rfl := zl_inj hz
    exact ⟨k1, q, rfl, g⟩

theorem rParts8 (h : RdZ w l (zl ls)) (hsz : ls.length ≤ 1000000) : Is 77 #[.slice l.a l.len l.cap] w (.int .i64 (shK ls : Int)) := by
  refine c77 _ _ _ ?_
  unfold B77
  have hl := h.len
  rw [zl_len] at hl
  refine ⟨by decide, ?_, rfl⟩
  rw [w64 (x := (l.len : Int) + 31) ⟨by omega, by omega⟩, Int.tdiv_eq_ediv_of_nonneg (by omega), w64 ⟨by omega, by omega⟩]
  congr 1
  unfold shK
  omega

theorem rPart8 (h : RdZ w l (zl ls)) (hcap : l.len ≤ l.cap) (hsz : ls.length ≤ 1000000) (hk : k < shK ls) : Is 79 #[.slice l.a l.len l.cap, .int .i64 (k : Int)] w
    (.slice (if l.cap = 32 * k then l.a else l.a.map (·.add (32 * k * 1))) (min (32 * k + 32) l.len - 32 * k) (l.cap - 32 * k)) := by
  refine c79 _ _ _ _ ?_
  unfold B79
  have hl := h.len
  rw [zl_len] at hl
  have hkl : 32 * k < ls.length := by unfold shK at hk; omega
  have e0 : IntKind.i64.wrap (32 * (k : Int)) = ((32 * k : Nat) : Int) := by rw [w64 ⟨by omega, by omega⟩]; omega
  have e1 : IntKind.i64.wrap (((32 * k : Nat) : Int) + 32) = ((32 * k + 32 : Nat) : Int) := by rw [w64 ⟨by omega, by omega⟩]; omega
  rw [e0, e1]
  have e2 : Int.toNat (min ((32 * k + 32 : Nat) : Int) (l.len : Int)) = min (32 * k + 32) l.len := by omega
  rw [e2, Int.toNat_natCast]
  exact ⟨by omega, by omega, by omega, rfl, rfl⟩

theorem rKind8 (h : RdZ w l (zl (pt ls k))) (hg : GoodL ls) (hk : k < shK ls) : IsK 78 #[.slice l.a l.len l.cap] w (.int .i64 (shKind ls k : Nat)) := by
  refine c78 _ _ _ ?_
  unfold B78
  have hl := h.len
  rw [zl_len, pt_len] at hl
  have hC := shC_le ls k
  have hC0 : 0 < shC ls k := by unfold shK at hk; unfold shC; omega
  refine ⟨fun x y i w' => ∃ m : Nat, i = m ∧ m ≤ shC ls k ∧ (x = true ↔ ∀ j, j < m → wg (shP ls k) j = j) ∧ (y = true ↔ ∀ j, j < m → wg (shP ls k) j = 0) ∧ Kp no w w', fun _ _ i _ => (l.len - i).toNat,
    ⟨0, rfl, by omega, ⟨fun _ j hj => by omega, fun _ => rfl⟩, ⟨fun _ j hj => by omega, fun _ => rfl⟩, Kp.refl _ _⟩, ?_⟩
  rintro x y i w2 ⟨m, rfl, hm, hx, hy, k2⟩
  refine br_dec (fun hlt => ?_) (fun hlt => ?_)
  · have hmC : m < shC ls k := by omega
    obtain ⟨a, ha, hc⟩ := (h.kpo k2.drew).at (i := (m : Int)) (by omega) hlt
    obtain ⟨a', ha', hc'⟩ := (h.kpo k2.drew).at (i := (0 : Int)) (by omega) (by omega)
    rw [ha] at ha'
    obtain rfl := Option.some.inj ha'
    rw [wz_zl, Int.toNat_natCast, pt_at hmC] at hc
    rw [wz_zl, show (0 : Int).toNat = 0 from rfl, pt_at hC0, Nat.add_zero] at hc'
    have hm32 : 32 * k + m < ls.length := by unfold shC at hmC; omega
    have hv := wg_le hg (32 * k + m)
    have hge := shP_ge hg hmC
    have e0 : IntKind.i64.wrap ((wg ls (32 * k + m) : Int) - (wg ls (32 * k) : Int)) = ((wg (shP ls k) m : Nat) : Int) := by rw [shP_at hmC, w64 ⟨by omega, by omega⟩]; omega
    have hcd : (World.drew (World.drew w2)).cell? (Addr.add a (m * 1)) = some (.int .i64 (wg ls (32 * k + m) : Int)) := hc
    have hcd' : (World.drew (World.drew w2)).cell? (Addr.add a ((0 : Int).toNat * 1)) = some (.int .i64 (wg ls (32 * k) : Int)) := hc'
    have after : ∀ b c : Bool, (b = true ↔ ∀ j, j < m + 1 → wg (shP ls k) j = j) → (c = true ↔ ∀ j, j < m + 1 → wg (shP ls k) j = 0) →
        (fun (x y : Bool) (i : Int) (w' : World) => ∃ m : Nat, i = m ∧ m ≤ shC ls k ∧ (x = true ↔ ∀ j, j < m → wg (shP ls k) j = j) ∧ (y = true ↔ ∀ j, j < m → wg (shP ls k) j = 0) ∧ Kp no w w') b c (IntKind.i64.wrap ((m : Int) + 1)) (World.drew (World.drew w2)) ∧
        (fun (_ _ : Bool) (i : Int) (_ : World) => (l.len - i).toNat) b c (IntKind.i64.wrap ((m : Int) + 1)) (World.drew (World.drew w2)) < (fun (_ _ : Bool) (i : Int) (_ : World) => (l.len - i).toNat) x y (m : Int) w2 := fun b c hb hc => by
      rw [w64 (x := (m : Int) + 1) ⟨by omega, by omega⟩]
      exact ⟨⟨m + 1, by omega, by omega, hb, hc, k2.drew.drew⟩, by dsimp only; omega⟩
    have all : ∀ {p : Nat → Prop}, (∀ j, j < m + 1 → p j) ↔ (∀ j, j < m → p j) ∧ p m := fun {p} => ⟨fun h => ⟨fun j hj => h j (by omega), h m (by omega)⟩, fun h j hj => by
      by_cases e : j = m
      · subst e; exact h.2
      · exact h.1 j (by omega)⟩
    have no1 : ∀ {p : Nat → Prop}, (false = true ↔ ∀ j, j < m → p j) → (false = true ↔ ∀ j, j < m + 1 → p j) := fun {p} h => ⟨fun e => (by cases e), fun g => h.2 (all.1 g).1⟩
    have yes1 : ∀ {p : Nat → Prop} {c : Bool}, (true = true ↔ ∀ j, j < m → p j) → (c = true ↔ p m) → (c = true ↔ ∀ j, j < m + 1 → p j) := fun {p c} h g => ⟨fun e => all.2 ⟨h.1 rfl, g.1 e⟩, fun q => g.2 (all.1 q).2⟩
    have d1 : (decide (((wg (shP ls k) m : Nat) : Int) = (m : Int)) = true ↔ wg (shP ls k) m = m) := by rw [decide_eq_true_iff]; omega
    have d2 : (decide (((wg ls (32 * k + m) : Nat) : Int) = ((wg ls (32 * k) : Nat) : Int)) = true ↔ wg (shP ls k) m = 0) := by rw [decide_eq_true_iff, shP_at hmC]; omega
    have h0 : (0 : Int) ≤ (m : Int) := by omega
    have h00 : (0 : Int) < (l.len : Int) := by omega
    cases x <;> cases y
    · exact brFf (brFf (after _ _ (no1 hx) (no1 hy)))
    · exact brFf (brYy ⟨h0, hlt, a, ha, _, hcd, by decide, h00, a, ha, _, hcd', after _ _ (no1 hx) (yes1 hy d2)⟩)
    · refine brYy ⟨h0, hlt, a, ha, _, hc, by decide, h00, a, ha, _, hc', brFf ?_⟩
      rw [e0]
      exact after _ _ (yes1 hx d1) (no1 hy)
    · refine brYy ⟨h0, hlt, a, ha, _, hc, by decide, h00, a, ha, _, hc', brYy ⟨h0, hlt, a, ha, _, hcd, by decide, h00, a, ha, _, hcd', ?_⟩⟩
      rw [e0]
      exact after _ _ (yes1 hx d1) (yes1 hy d2)
  · obtain rfl : m = shC ls k := by omega
    unfold shKind
    cases x
    · have n1 : ¬ shRun ls k := fun h => absurd (hx.2 h) (by decide)
      refine brFf ?_
      rw [if_neg n1]
      cases y
      · have n2 : ¬ shAlike ls k := fun h => absurd (hy.2 h) (by decide)
        rw [if_neg n2]
        exact brFf ⟨rfl, k2⟩
      · have y2 : shAlike ls k := hy.1 rfl
        rw [if_pos y2]
        exact brYy ⟨rfl, k2⟩
    · have y1 : shRun ls k := hx.1 rfl
      rw [if_pos y1]
      exact brYy ⟨rfl, k2⟩

theorem rKinds8 (h : RdZ w l (zl ls)) (hcap : l.len ≤ l.cap) (hg : GoodL ls) (hsz : ls.length ≤ 1000000) : IsK 25 #[.slice l.a l.len l.cap] w (.agg #[.int .i64 (shCnt ls 0 (shK ls) : Int), .int .i64 (shCnt ls 1 (shK ls) : Int), .int .i64 (shCnt ls 2 (shK ls) : Int)]) := by
  refine c25 _ _ _ ?_
  unfold B25
  have hl := h.len
  rw [zl_len] at hl
  have hK : shK ls ≤ ls.length := by unfold shK; omega
  have a0 := Blk.new w [.int .i64 0, .int .i64 0, .int .i64 0] 38
  have a1 := Blk.new (w.alloc (.cells #[.int .i64 0, .int .i64 0, .int .i64 0] 38)) [.int .i64 0, .int .i64 0, .int .i64 0] 38
  have b0 := a0.alloc (.cells #[.int .i64 0, .int .i64 0, .int .i64 0] 38)
  have z1 : (w.alloc (.cells #[.int .i64 0, .int .i64 0, .int .i64 0] 38)).heap.size = w.heap.size + 1 := World.size_alloc _ _
  have k0 : Kp no w ((w.alloc (.cells #[.int .i64 0, .int .i64 0, .int .i64 0] 38)).alloc (.cells #[.int .i64 0, .int .i64 0, .int .i64 0] 38)) := ((Kp.refl _ _).alloc _ _).alloc _ _
  clear a0
  rw [z1] at a1 ⊢
  generalize (w.alloc (.cells #[.int .i64 0, .int .i64 0, .int .i64 0] 38)).alloc (.cells #[.int .i64 0, .int .i64 0, .int .i64 0] 38) = w1 at *
  refine ⟨fun i w' => Kp no w w' ∧ ∃ m : Nat, i = m ∧ m ≤ shK ls ∧ Blk w' w.heap.size [.int .i64 0, .int .i64 0, .int .i64 0] 38 ∧ Blk w' (w.heap.size + 1) (cnt3 ls m) 38, fun i _ => (shK ls - i).toNat,
    ⟨k0, 0, rfl, by omega, b0, a1⟩, ?_⟩
  rintro i w2 ⟨k2, m, rfl, hm, c0, c1⟩
  refine usei (rParts8 (h.kpo k2) hsz) ⟨_, rfl, br_dec (fun hlt => ?_) (fun hlt => ?_)⟩
  · have hmK : m < shK ls := by omega
    refine usei (rPart8 (h.kpo k2) hcap hsz hmK) ⟨_, rfl, usek (rKind8 (rdPart (h.kpo k2) hcap hmK) hg hmK) fun w3 k3 => ?_⟩
    have d0 := c0.kp k3 id
    have d1 := c1.kp k3 id
    have hk2 := shKind_le ls m
    obtain ⟨c, hc, hn⟩ := cnt3_step d1 (by omega)
    refine ⟨_, rfl, by omega, by omega, _, rfl, c, hc, by omega, by omega, _, rfl, ⟨_, hc⟩, d1.frozen _, ⟨?_, m + 1, ?_, by omega, ?_, hn⟩, ?_⟩
    · exact (k2.t k3).set _ _ (fun q => by rw [add_block] at q; dsimp only at q; omega)
    · rw [w64 ⟨by omega, by omega⟩]; rfl
    · exact d0.set_other _ _ (by rw [add_block]; dsimp only; omega)
    · rw [w64 (x := (m : Int) + 1) ⟨by omega, by omega⟩]; dsimp only; omega
  · obtain rfl : m = shK ls := by omega
    exact ret3 (R := fun u w' => u = Value.agg #[.int .i64 (shCnt ls 0 (shK ls) : Int), .int .i64 (shCnt ls 1 (shK ls) : Int), .int .i64 (shCnt ls 2 (shK ls) : Int)] ∧ Kp no w w') c0 c1 fun w3 k3 => ⟨rfl, k2.trans k3 (fun k h1 h2 => by omega)⟩
end Go.Proofs.Ytmpgklgjmkcpdaa.V
