/- Numbers cut into parts: made. -/
import Derived.Test.YtmpgklgjmkcpdaaHd
import Derived.ChangeKeysEq
namespace Go.Proofs.Ytmpgklgjmkcpdaa.V
open Go Go.VC
variable {w w' w0 : World} {l : Slc} {ls : List Nat} {zs : List Int} {s q B n k : Nat} {v : Value}
theorem brYy {x y : Prop} (h : x) : br true x y := h
theorem brFf {x y : Prop} (h : y) : br false x y := h
theorem wvs_some {α : Type} {v : Option α} {x : α} {q : α → Prop} (h : v = some x) (k : q x) : wvs v q := by subst h; exact k

theorem eqg3 (w : World) (x y : Operand) (a b c a' b' c' : Int) : (eqGuard .eql 38 x y (.agg #[.int .i64 a, .int .i64 b, .int .i64 c]) (.agg #[.int .i64 a', .int .i64 b', .int .i64 c'])).run Try.prog w = .ok () w := by kernel_rfl
theorem eqn3 (w : World) (x y : Operand) (a b c a' b' c' : Int) : (eqGuard .neq 38 x y (.agg #[.int .i64 a, .int .i64 b, .int .i64 c]) (.agg #[.int .i64 a', .int .i64 b', .int .i64 c'])).run Try.prog w = .ok () w := by kernel_rfl
theorem same3 (w : World) (a b c : Int) : (Op.equal 38 (.agg #[.int .i64 a, .int .i64 b, .int .i64 c]) (.agg #[.int .i64 a, .int .i64 b, .int .i64 c])).run Try.prog w = .ok true w := by
  have h1 : Try.prog.underlying 38 = some (.array 3 3) := by kernel_rfl
  have h2 : ∃ i, Try.prog.info? 3 = some i := by
    cases h : Try.prog.info? 3 with
    | none => have : (Try.prog.info? 3).isSome = true := by kernel_rfl
              rw [h] at this; cases this
    | some i => exact ⟨i, rfl⟩
  obtain ⟨i, hi⟩ := h2
  have h3 : Try.prog.cellsOf 3 = 1 := by kernel_rfl
  have h4 : Try.prog.underlying 3 = some (.int .i64) := by kernel_rfl
  have h5 : Try.prog.plainKey 3 = true := by kernel_rfl
  have hp : ∀ (n : Nat) (v : Value), #[Value.int .i64 a, .int .i64 b, .int .i64 c][n]? = some v → (part 3 #[Value.int .i64 a, .int .i64 b, .int .i64 c] n).run Try.prog w = .ok v w := fun n v h => run_part_plain w h5 h
  have hq : ∀ (z : Int), (Op.equalIn 9999 3 (.int .i64 z) (.int .i64 z)).run Try.prog w = .ok true w := fun z => by rw [show 9999 = 9998 + 1 from rfl, run_equalIn_int w 9998 3 .i64 .i64 z z h4]; simp
  have hE : (Op.equalIn (9999 + 1) 38 (.agg #[.int .i64 a, .int .i64 b, .int .i64 c]) (.agg #[.int .i64 a, .int .i64 b, .int .i64 c])).run Try.prog w = .ok true w := by
    rw [run_equalIn_array w 9999 _ _ h1 hi, h3]
    have p0 := hp 0 (.int .i64 a) rfl
    have p1 := hp 1 (.int .i64 b) rfl
    have p2 := hp 2 (.int .i64 c) rfl
    simp [List.range, List.range.loop, Op.eqItems, p0, p1, p2, hq]
  exact hE
theorem eq3 (w : World) (x y : Operand) (a b c : Int) : (do eqGuard .eql 38 x y (.agg #[.int .i64 a, .int .i64 b, .int .i64 c]) (.agg #[.int .i64 a, .int .i64 b, .int .i64 c]); binOp .eql 38 (.agg #[.int .i64 a, .int .i64 b, .int .i64 c]) (.agg #[.int .i64 a, .int .i64 b, .int .i64 c]) : Sem Value).run Try.prog w = .ok (.bool true) w := by
  simp only [Sem.run_bind, eqg3, Result.andThen_ok, binOp, same3, Sem.run_pure]
theorem ne3 (w : World) (x y : Operand) (a b c : Int) : (do eqGuard .neq 38 x y (.agg #[.int .i64 a, .int .i64 b, .int .i64 c]) (.agg #[.int .i64 a, .int .i64 b, .int .i64 c]); binOp .neq 38 (.agg #[.int .i64 a, .int .i64 b, .int .i64 c]) (.agg #[.int .i64 a, .int .i64 b, .int .i64 c]) : Sem Value).run Try.prog w = .ok (.bool false) w := by
  simp only [Sem.run_bind, eqn3, Result.andThen_ok, binOp, same3, Sem.run_pure, Bool.not_true]

/-- A part's numbers. -/
def pt (ls : List Nat) (k : Nat) : List Nat := (List.range (shC ls k)).map fun i => wg ls (32 * k + i)
theorem pt_len (ls : List Nat) (k : Nat) : (pt ls k).length = shC ls k := by simp [pt]
theorem pt_at {i : Nat} (h : i < shC ls k) : wg (pt ls k) i = wg ls (32 * k + i) := by show ((pt ls k)[i]?).getD 0 = _; unfold pt; simp [h]
theorem rdPart (h : RdZ w l (zl ls)) (hc : l.len ≤ l.cap) (hk : k < shK ls) : RdZ w ⟨if l.cap = 32 * k then l.a else l.a.map (·.add (32 * k * 1)), min (32 * k + 32) l.len - 32 * k, l.cap - 32 * k⟩ (zl (pt ls k)) := by
  have hl := h.len
  rw [zl_len] at hl
  have hkl : 32 * k < ls.length := by unfold shK at hk; omega
  refine ⟨?_, fun i hi => ?_, fun z hz => ?_⟩
  · rw [zl_len, pt_len]; unfold shC; simp only; omega
  · rw [List.length_map, zl_len, pt_len] at hi
    have hi2 : 32 * k + i < ls.length := by unfold shC at hi; omega
    obtain ⟨a, ha, hcell⟩ := h.rd (32 * k + i) (by rw [List.length_map, zl_len]; exact hi2)
    refine ⟨a.add (32 * k * 1), ?_, ?_⟩
    · show (if l.cap = 32 * k then l.a else l.a.map (·.add (32 * k * 1))) = _
      rw [if_neg (by omega), ha]; rfl
    · rw [Nat.mul_one, Deep.add_add, hcell, List.getElem?_map, List.getElem?_map, List.getElem?_map, List.getElem?_map]
      have e1 : ls[32 * k + i]? = some (wg ls (32 * k + i)) := by unfold wg; rw [List.getElem?_eq_getElem hi2]; rfl
      have e2 : (pt ls k)[i]? = some (wg (pt ls k) i) := by unfold wg; rw [List.getElem?_eq_getElem (by rw [pt_len]; exact hi)]; rfl
      rw [e1, e2, pt_at hi]
  · obtain ⟨x, hx, rfl⟩ := List.mem_map.1 hz
    obtain ⟨i, hi, rfl⟩ := List.mem_map.1 hx
    have hb := wz_bounds h (32 * k + i)
    rw [wz_zl] at hb
    exact hb

theorem undZ : Try.prog.underlying 22 = some (.slice 3) := by kernel_rfl
/-- What is written of a part's differences. -/
def shPz (ls : List Nat) (k m : Nat) : List Nat := (List.range (shC ls k)).map fun j => if j < m then wg (shP ls k) j else 0
theorem shPz_len (ls : List Nat) (k m : Nat) : (shPz ls k m).length = shC ls k := by simp [shPz]
theorem shPz_zero (ls : List Nat) (k : Nat) : shPz ls k 0 = List.replicate (shC ls k) 0 := by unfold shPz; apply List.ext_getElem <;> simp
theorem shPz_end (ls : List Nat) (k : Nat) : shPz ls k (shC ls k) = shP ls k := by
  apply List.ext_getElem
  · rw [shPz_len, shP_len]
  · intro j h1 h2
    have h1' : j < shC ls k := by rwa [shPz_len] at h1
    simp only [shPz, List.getElem_map, List.getElem_range]
    rw [if_pos h1']; unfold wg; rw [List.getElem?_eq_getElem h2]; rfl
theorem shPz_at {m : Nat} (h : m < shC ls k) : wg (shPz ls k (m + 1)) m = wg (shP ls k) m := by show ((shPz ls k (m + 1))[m]?).getD 0 = _; unfold shPz; simp [h]
theorem shPz_set (ls : List Nat) (k m : Nat) : (shPz ls k m).set m (wg (shP ls k) m) = shPz ls k (m + 1) := by
  unfold shPz
  apply List.ext_getElem
  · simp
  · intro j h1 h2
    rw [List.getElem_set]
    simp only [List.getElem_map, List.getElem_range]
    by_cases e : m = j
    · subst e; simp
    · rw [if_neg e]
      by_cases g : j < m
      · rw [if_pos g, if_pos (by omega)]
      · rw [if_neg g, if_neg (by omega)]

set_option maxHeartbeats 1000000 in
theorem dvCut (h : RdZ w l (zl (pt ls k))) (hg : GoodL ls) (hk : k < shK ls) : Calls Try.prog 73 #[.slice l.a l.len l.cap] w (Rv fun v w' => Kp no w w' ∧ PieceV w' v ls k w.heap.size) := by
  refine c73 _ _ _ ?_
  unfold B73
  have hl := h.len
  rw [zl_len, pt_len] at hl
  have hC := shC_le ls k
  have hC0 : 0 < shC ls k := by unfold shK at hk; unfold shC; omega
  obtain ⟨w1, l2, hr1, hl2, hO1, k1, f1⟩ := make_own (z := .int .i64 0) (bytes := 8) undZ (by kernel_rfl) (by kernel_rfl) rfl w l.len (by omega) (by omega)
  have hO : Ownd w1 l2 3 1 ((zl (shPz ls k 0)).map (Value.int .i64)) := by
    rw [shPz_zero, ← hl] at *
    simpa using hO1
  refine ⟨w1, l2, hr1, fun x y i w' => ∃ m : Nat, i = m ∧ m ≤ shC ls k ∧ (x = true ↔ ∀ j, j < m → wg (shP ls k) j = j) ∧ (y = true ↔ ∀ j, j < m → wg (shP ls k) j = 0) ∧ Ownd w' l2 3 1 ((zl (shPz ls k m)).map (Value.int .i64)) ∧ Kp no w w', fun _ _ i _ => (l.len - i).toNat,
    ⟨0, rfl, by omega, ⟨fun _ j hj => by omega, fun _ => rfl⟩, ⟨fun _ j hj => by omega, fun _ => rfl⟩, hO, k1⟩, ?_⟩
  rintro x y i w2 ⟨m, rfl, hm, hx, hy, hO2, k2⟩
  refine br_dec (fun hlt => ?_) (fun hlt => ?_)
  · have hmC : m < shC ls k := by omega
    obtain ⟨a, ha, hc⟩ := (h.kpo k2).at (i := (m : Int)) (by omega) hlt
    obtain ⟨a', ha', hc'⟩ := (h.kpo k2).at (i := (0 : Int)) (by omega) (by omega)
    rw [ha] at ha'
    obtain rfl := Option.some.inj ha'
    rw [wz_zl, Int.toNat_natCast, pt_at hmC] at hc
    rw [wz_zl, show (0 : Int).toNat = 0 from rfl, pt_at hC0, Nat.add_zero] at hc'
    have hm32 : 32 * k + m < ls.length := by unfold shC at hmC; omega
    have hv := wg_le hg (32 * k + m)
    have hge := shP_ge hg hmC
    obtain ⟨a2, ha2, hc2, hf2, hset⟩ := hO2.at (i := m) (by rw [List.length_map, zl_len, shPz_len]; exact hmC)
    have e0 : IntKind.i64.wrap ((wg ls (32 * k + m) : Int) - (wg ls (32 * k) : Int)) = ((wg (shP ls k) m : Nat) : Int) := by rw [shP_at hmC, w64 ⟨by omega, by omega⟩]; omega
    have hset2 := hset (.int .i64 ((wg (shP ls k) m : Nat) : Int))
    have e1 : ((zl (shPz ls k m)).map (Value.int .i64)).set m (.int .i64 ((wg (shP ls k) m : Nat) : Int)) = (zl (shPz ls k (m + 1))).map (Value.int .i64) := by
      rw [← shPz_set, ← List.map_set, ← List.map_set]
    rw [e1] at hset2
    have hr2 : RdZ (w2.setCell (Addr.add a2 m) (.int .i64 ((wg (shP ls k) m : Nat) : Int))) l2 (zl (shPz ls k (m + 1))) := ownZ hset2 (fun z hz => by
      obtain ⟨x, hx, rfl⟩ := List.mem_map.1 hz
      obtain ⟨i, hi, rfl⟩ := List.mem_map.1 hx
      have := wg_le (shP_good hg k) i
      split <;> omega)
    have hon : On l2 a2.block := ⟨a2, ha2, rfl⟩
    have k3 : Kp no w (w2.setCell (Addr.add a2 m) (.int .i64 ((wg (shP ls k) m : Nat) : Int))) := k2.set _ _ (fun q => by rw [add_block] at q; have := f1 _ hon; omega)
    refine ⟨by omega, hlt, a, ha, _, by rw [Int.toNat_natCast]; exact hc, by decide, by omega, a, ha, _, hc', by omega, by omega, a2, ha2, ?_⟩
    rw [e0, Int.toNat_natCast, Nat.mul_one]
    refine ⟨⟨_, hc2⟩, hf2, ?_⟩
    have rd : ∃ n, (w2.setCell (Addr.add a2 m) (.int .i64 ((wg (shP ls k) m : Nat) : Int))).cell? (Addr.add a2 m) = some (.int .i64 n) ∧ n = ((wg (shP ls k) m : Nat) : Int) := by
      obtain ⟨a3, ha3, hc3⟩ := hr2.at (i := (m : Int)) (by omega) (by omega)
      rw [ha2] at ha3
      obtain rfl := Option.some.inj ha3
      rw [wz_zl, Int.toNat_natCast, Nat.mul_one] at hc3
      exact ⟨_, hc3, by rw [shPz_at hmC]⟩
    obtain ⟨n, hn, rfl⟩ := rd
    generalize w2.setCell (Addr.add a2 m) (.int .i64 ((wg (shP ls k) m : Nat) : Int)) = w3 at *
    have after : ∀ b c : Bool, (b = true ↔ ∀ j, j < m + 1 → wg (shP ls k) j = j) → (c = true ↔ ∀ j, j < m + 1 → wg (shP ls k) j = 0) →
        (fun (x y : Bool) (i : Int) (w' : World) => ∃ m : Nat, i = m ∧ m ≤ shC ls k ∧ (x = true ↔ ∀ j, j < m → wg (shP ls k) j = j) ∧ (y = true ↔ ∀ j, j < m → wg (shP ls k) j = 0) ∧ Ownd w' l2 3 1 ((zl (shPz ls k m)).map (Value.int .i64)) ∧ Kp no w w') b c (IntKind.i64.wrap ((m : Int) + 1)) w3 ∧
        (fun (_ _ : Bool) (i : Int) (_ : World) => (l.len - i).toNat) b c (IntKind.i64.wrap ((m : Int) + 1)) w3 < (fun (_ _ : Bool) (i : Int) (_ : World) => (l.len - i).toNat) x y (m : Int) w2 := fun b c hb hc => by
      rw [w64 (x := (m : Int) + 1) ⟨by omega, by omega⟩]
      exact ⟨⟨m + 1, by omega, by omega, hb, hc, hset2, k3⟩, by dsimp only; omega⟩
    have all : ∀ {p : Nat → Prop}, (∀ j, j < m + 1 → p j) ↔ (∀ j, j < m → p j) ∧ p m := fun {p} => ⟨fun h => ⟨fun j hj => h j (by omega), h m (by omega)⟩, fun h j hj => by
      by_cases e : j = m
      · subst e; exact h.2
      · exact h.1 j (by omega)⟩
    have no1 : ∀ {p : Nat → Prop}, (false = true ↔ ∀ j, j < m → p j) → (false = true ↔ ∀ j, j < m + 1 → p j) := fun {p} h => ⟨fun e => (by cases e), fun g => h.2 (all.1 g).1⟩
    have yes1 : ∀ {p : Nat → Prop} {c : Bool}, (true = true ↔ ∀ j, j < m → p j) → (c = true ↔ p m) → (c = true ↔ ∀ j, j < m + 1 → p j) := fun {p c} h g => ⟨fun e => all.2 ⟨h.1 rfl, g.1 e⟩, fun q => g.2 (all.1 q).2⟩
    have d1 : (decide (((wg (shP ls k) m : Nat) : Int) = (m : Int)) = true ↔ wg (shP ls k) m = m) := by rw [decide_eq_true_iff]; omega
    have d2 : (decide (((wg (shP ls k) m : Nat) : Int) = (0 : Int)) = true ↔ wg (shP ls k) m = 0) := by rw [decide_eq_true_iff]; omega
    cases x <;> cases y
    · exact brFf (brFf (after _ _ (no1 hx) (no1 hy)))
    · exact brFf (brYy ⟨by omega, by omega, a2, ha2, _, hn, after _ _ (no1 hx) (yes1 hy d2)⟩)
    · exact brYy ⟨by omega, by omega, a2, ha2, _, hn, brFf (after _ _ (yes1 hx d1) (no1 hy))⟩
    · exact brYy ⟨by omega, by omega, a2, ha2, _, hn, brYy ⟨by omega, by omega, a2, ha2, _, hn, after _ _ (yes1 hx d1) (yes1 hy d2)⟩⟩
  · obtain rfl : m = shC ls k := by omega
    have hlC : (l.len : Int) = (shC ls k : Int) := by omega
    rw [hlC]
    cases x
    · have n1 : ¬ shRun ls k := fun h => absurd (hx.2 h) (by decide)
      refine brFf ?_
      cases y
      · have n2 : ¬ shAlike ls k := fun h => absurd (hy.2 h) (by decide)
        rw [shPz_end] at hO2
        have hg2 := shP_good hg k
        refine brFf (use (eNew0 (ownZ hO2 (fun z hz => ?_)) (by rw [zl_len, shP_len]; omega) (.inl ⟨rfl, okE_of hg2⟩)) ?_)
        · obtain ⟨x, hx, rfl⟩ := List.mem_map.1 hz
          have := hg2.2 x hx
          omega
        · rintro _ w3 ⟨k3, s, ls', rfl, hz, hs⟩
          obtain rfl := zl_inj hz
          have := k2.size
          exact ⟨_, _, rfl, k2.t k3, .inr (.inr ⟨n1, n2, s, rfl, hs.low this⟩)⟩
      · exact brYy ⟨k2, .inr (.inl ⟨n1, hy.1 rfl, rfl⟩)⟩
    · exact brYy ⟨k2, .inl ⟨hx.1 rfl, rfl⟩⟩
end Go.Proofs.Ytmpgklgjmkcpdaa.V
