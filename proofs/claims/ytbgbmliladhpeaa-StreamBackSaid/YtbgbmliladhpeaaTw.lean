/- Streams: what is written. -/
import Derived.Test.YtbgbmliladhpeaaPa
import Derived.Test.YtbgbmliladhpeaaBT
namespace Go.VC
open Go
theorem callFV_of {P : Program} {G : Nat → Bool} {g : Nat} {first cap : Array Value} {args : List Value} {w : World} {R : Value → World → Prop} (hg : G g = true) (h : Calls P g ⟨first.toList ++ (args ++ cap.toList)⟩ w (Rv R)) : CallFV P G (.func (.func g) first cap) args w R := by
  unfold CallFV
  simp only [hg]
  exact h
theorem brIs {o : Option Addr} {a : Addr} {x y : Prop} (h : o = some a) (k : y) : br o.isNone x y := by subst h; exact k
theorem yes {c : Prop} [Decidable c] {x y : Prop} (h : c) (k : x) : br (decide c) x y := br_dec (fun _ => k) (fun g => absurd h g)
theorem nope {c : Prop} [Decidable c] {x y : Prop} (h : ¬ c) (k : y) : br (decide c) x y := br_dec (fun g => absurd g h) (fun _ => k)
theorem lowb_modp (x n : Nat) : lowb (x % 2 ^ n) n = lowb x n := by
  unfold lowb
  apply List.map_congr_left
  intro i hi
  have := List.mem_range.1 hi
  rw [Nat.testBit_mod_two_pow]
  simp [this]
theorem zrun_two (a n : Nat) : List.replicate a false ++ zrun n = zrun (a + n) := by
  unfold zrun
  rw [← List.append_assoc, List.replicate_append_replicate]
/-- Blocks of one's own have changed, and new ones have come. -/
def Gro (F : Nat → Prop) (w : World) (F' : Nat → Prop) (w' : World) : Prop := Kp F w w' ∧ ∀ k, F' k → F k ∨ w.heap.size ≤ k
theorem Gro.refl (F : Nat → Prop) (w : World) : Gro F w F w := ⟨Kp.refl _ _, fun _ h => .inl h⟩
theorem Gro.trans {F F1 F2 : Nat → Prop} {w w1 w2 : World} (h : Gro F w F1 w1) (g : Gro F1 w1 F2 w2) : Gro F w F2 w2 :=
  ⟨h.1.trans g.1 (fun k hk h1 => by rcases h.2 k h1 with q | q; exact q; omega), fun k hk => by
    have := h.1.size
    rcases g.2 k hk with q | q
    · exact h.2 k q
    · exact .inr (by omega)⟩
theorem Gro.no {F : Nat → Prop} {w w' : World} (h : Kp no w w') : Gro F w F w' := ⟨h.mono (fun _ _ f => f.elim), fun _ h => .inl h⟩
end Go.VC

namespace Go.Proofs.Ytbgbmliladhpeaa.V
open Go Go.VC
variable {w w' w0 : World} {l rl : Slc} {bits : List Bool} {s r n x : Nat} {F : Nat → Prop}

theorem appE (h : RdB w l bits) (hsz : l.len ≤ 100000000) : ∃ w1 o, (Builtin.append_ #[28, 28] 28 #[.slice (some ⟨w.heap.size, 0, none⟩) 0 0, .slice l.a l.len l.cap]).run Try.prog (w.alloc (.cells #[] 4)) = .ok (.slice o.a o.len o.cap) w1 ∧
    Ownd w1 o 4 1 (bits.map Value.bool) ∧ o.len = l.len ∧ Kp no w w1 ∧ ∀ k, On o k → w.heap.size ≤ k := by
  have hl := h.len
  have k0 : Kp no w (w.alloc (.cells #[] 4)) := (Kp.refl _ _).alloc _ _
  obtain ⟨w1, o, hr, hO, hl2, k1, f1⟩ := append_rd (ty := 28) elB (by omega) (Ownd.empty w 4 1) l (news := bits.map Value.bool) (by simp [hl]) (h.rd.kp k0 (fun _ _ f => f))
    (fun u hu => by obtain ⟨b, _, rfl⟩ := List.mem_map.1 hu; rfl) (by simp only [maxLen]; omega) (by simp only; omega)
  rw [List.nil_append] at hO
  refine ⟨w1, o, hr, hO, by simpa using hl2, k0.trans k1 (fun k hlt hkk => by obtain ⟨a, ha, rfl⟩ := hkk; cases ha; exact absurd hlt (by simp)), fun k hkk => ?_⟩
  rcases f1 k hkk with g | g
  · obtain ⟨a, ha, rfl⟩ := g; cases ha; exact Nat.le_refl _
  · simp at g; omega

theorem rUnary (h : RdB w l bits) (hsz : l.len ≤ 10000000) (n : Nat) (hn : n ≤ 4096) : Calls Try.prog 66 #[.slice l.a l.len l.cap, .int .i64 n] w (Rv fun v w' => ∃ o : Slc, v = .slice o.a o.len o.cap ∧
    Ownd w' o 4 1 ((bits ++ zrun n).map Value.bool) ∧ Kp no w w' ∧ ∀ k, On o k → w.heap.size ≤ k) := by
  refine c66 _ _ _ _ ?_
  unfold B66
  have hl := h.len
  obtain ⟨w1, o1, hr1, hO1, hl1, k1, f1⟩ := appE h (by omega)
  refine ⟨w1, o1, hr1, fun o i w' => ∃ m : Nat, i = m ∧ m ≤ n ∧ Ownd w' o 4 1 ((bits ++ List.replicate m false).map Value.bool) ∧ o.len = l.len + m ∧ Kp no w w' ∧ ∀ k, On o k → w.heap.size ≤ k, fun _ i _ => ((n : Int) - i).toNat,
    ⟨0, rfl, by omega, by simpa using hO1, by omega, k1, f1⟩, ?_⟩
  rintro o i w2 ⟨m, rfl, hm, hO, hol, k2, f2⟩
  refine br_dec (fun hlt => ?_) (fun hlt => ?_)
  · obtain ⟨w3, o3, hr3, hO3, hl3, k3, f3⟩ := append_one (ty := 28) elB hO (.bool false) rfl (by simp only [maxLen]; omega) (by omega)
    rw [w64 (x := (m : Int) + 1) ⟨by omega, by omega⟩]
    refine ⟨w3, o3, hr3, ⟨m + 1, by omega, by omega, ?_, by omega, k2.trans k3 (fun k g1 g2 => by have := f2 k g2; omega), fun k hk => ?_⟩, by dsimp only; omega⟩
    · rw [List.replicate_succ', ← List.append_assoc, List.map_append]; exact hO3
    · have := k2.size
      rcases f3 k hk with g | g
      · exact f2 k g
      · omega
  · obtain rfl : m = n := by omega
    obtain ⟨w3, o3, hr3, hO3, hl3, k3, f3⟩ := appE hO.rdB (by omega)
    obtain ⟨w4, o4, hr4, hO4, hl4, k4, f4⟩ := append_one (ty := 28) elB hO3 (.bool true) rfl (by simp only [maxLen]; omega) (by omega)
    have := k2.size
    have := k3.size
    refine ⟨w3, o3, hr3, w4, o4, hr4, o4, rfl, ?_, (k2.t k3).trans k4 (fun k g1 g2 => by have := f3 k g2; omega), fun k hk => ?_⟩
    · unfold zrun
      rw [← List.append_assoc, List.map_append]; exact hO4
    · rcases f4 k hk with g | g
      · have := f3 k g; omega
      · omega

theorem rHalf (w : World) (v n : Nat) (hv : v < 18446744073709551616) (hn : n ≤ 64) : Is 68 #[.int .u64 v, .int .i64 n] w (.int .u64 ((v / 2 ^ n : Nat) : Int)) := by
  refine c68 _ _ _ _ ?_
  unfold B68
  refine ⟨fun x k w' => w' = w ∧ ∃ j : Nat, k = j ∧ j ≤ n ∧ x = ((v / 2 ^ j : Nat) : Int), fun _ k _ => (64 - k).toNat, ⟨rfl, 0, rfl, by omega, by rw [Nat.pow_zero, Nat.div_one]⟩, ?_⟩
  rintro x k w1 ⟨rfl, j, rfl, hj, rfl⟩
  refine br_dec (fun h2 => ⟨by omega, ⟨rfl, j + 1, ?_, by omega, ?_⟩, ?_⟩) (fun h2 => ⟨?_, rfl⟩)
  · rw [w64 ⟨by omega, by omega⟩]; rfl
  · have e : Int.tdiv ((v / 2 ^ j : Nat) : Int) 2 = ((v / 2 ^ (j + 1) : Nat) : Int) := by
      rw [Int.tdiv_eq_ediv_of_nonneg (by exact Int.natCast_nonneg _), Nat.pow_succ, ← Nat.div_div_eq_div_mul]; rfl
    have hd2 : v / 2 ^ (j + 1) ≤ v := Nat.div_le_self _ _
    have ew : ∀ q : Nat, q ≤ v → IntKind.u64.wrap (q : Int) = (q : Int) := fun q hq => wu64 ⟨by omega, by omega⟩
    rw [e, ew _ hd2]
  · rw [w64 (x := (j : Int) + 1) ⟨by omega, by omega⟩]; dsimp only; omega
  · rw [show j = n by omega]

theorem bl_pos {v : Nat} (h0 : v ≠ 0) (hv : v < 18446744073709551616) : 1 ≤ Lib.bitLen v ∧ Lib.bitLen v ≤ 64 := by
  have h1 := (bl_ge h0 hv).1
  have h2 := bl_le (k := 64) (by simpa using hv) hv
  omega
theorem rWrite (h : RdB w l bits) (hlt : ∀ k, On l k → k < w.heap.size) (hsz : l.len ≤ 1000000) {kd v : Nat} {n : Int} (hk : kd ≤ 3) (hv : v < 18446744073709551616) :
    Calls Try.prog 15 #[.slice l.a l.len l.cap, .int .i64 kd, .int .u64 v, .int .i64 n] w (Rv fun u w' => ∃ o : Slc, u = .tuple #[.slice o.a o.len o.cap, .int .i64 (wcF bits kd v n).1] ∧ RdB w' o (wcF bits kd v n).2 ∧ Kp no w w' ∧
      ∀ k, On o k → (On l k ∨ w.heap.size ≤ k) ∧ k < w'.heap.size) := by
  refine c15 _ _ _ _ _ _ ?_
  unfold B15
  have same : ∀ {c : Int}, wcF bits kd v n = (c, bits) → ∃ o : Slc, (Value.tuple #[.slice l.a l.len l.cap, .int .i64 c]) = .tuple #[.slice o.a o.len o.cap, .int .i64 (wcF bits kd v n).1] ∧ RdB w o (wcF bits kd v n).2 ∧ Kp no w w ∧
      ∀ k, On o k → (On l k ∨ w.heap.size ≤ k) ∧ k < w.heap.size := fun {c} hc => by
    rw [hc]; exact ⟨l, rfl, h, Kp.refl _ _, fun k hk => ⟨.inl hk, hlt k hk⟩⟩
  have done : ∀ {o : Slc} {w1 : World} {bs : List Bool}, wcF bits kd v n = (0, bs) → Ownd w1 o 4 1 (bs.map Value.bool) → Kp no w w1 → (∀ k, On o k → w.heap.size ≤ k) → ∃ o' : Slc, (Value.tuple #[.slice o.a o.len o.cap, .int .i64 0]) = .tuple #[.slice o'.a o'.len o'.cap, .int .i64 (wcF bits kd v n).1] ∧ RdB w1 o' (wcF bits kd v n).2 ∧ Kp no w w1 ∧
      ∀ k, On o' k → (On l k ∨ w.heap.size ≤ k) ∧ k < w1.heap.size := fun {o w1 bs} hc ho hk hf => by
    rw [hc]; exact ⟨o, rfl, ho.rdB, hk, fun k g => ⟨.inr (hf k g), ho.on g⟩⟩
  have hl := h.len
  have hu : kd = 0 ∨ kd = 1 ∨ kd = 2 ∨ kd = 3 := by omega
  rcases hu with rfl | rfl | rfl | rfl
  · refine yes rfl (br_dec (fun h1 => same ?_) (fun h1 => br_dec (fun h2 => same ?_) (fun h2 => ?_)))
    · simp only [wcF]; rw [if_pos (.inl h1)]
    · simp only [wcF]; rw [if_pos (.inr h2)]
    · obtain ⟨m, rfl⟩ : ∃ m : Nat, n = m := ⟨n.toNat, by omega⟩
      refine usei (may2 w v hv m) ⟨_, rfl, br_not (br_dec (fun h3 => ?_) (fun h3 => same ?_))⟩
      · refine use (add2 h (by omega) v hv m (by omega)) ?_
        rintro _ w1 ⟨o, rfl, ho, k1, f1⟩
        refine ⟨o, rfl, done ?_ ho k1 f1⟩
        simp only [wcF]; rw [if_neg (by omega), if_neg (by omega), Int.toNat_natCast]
      · simp only [wcF]; rw [if_neg (by omega), if_pos (by omega)]
  · refine nope (by decide) (yes rfl (br_dec (fun h1 => same ?_) (fun h1 => br_dec (fun h2 => same ?_) (fun h2 => ?_))))
    · simp only [wcF]; rw [if_pos (.inl h1)]
    · simp only [wcF]; rw [if_pos (.inr h2)]
    · obtain ⟨m, rfl⟩ : ∃ m : Nat, n = m := ⟨n.toNat, by omega⟩
      refine use (rUnary h (by omega) m (by omega)) ?_
      rintro _ w1 ⟨o, rfl, ho, k1, f1⟩
      refine ⟨o, rfl, done ?_ ho k1 f1⟩
      simp only [wcF]; rw [if_neg (by omega), Int.toNat_natCast]
  · refine nope (by decide) (nope (by decide) (yes rfl (br_dec (fun h1 => same ?_) (fun h1 => ?_))))
    · simp only [wcF]; rw [if_pos (by omega)]
    · have hb := bl_pos (v := v) (by omega) hv
      refine usei (rwidth w v hv) ⟨_, rfl, ?_⟩
      have e : IntKind.i64.wrap ((Lib.bitLen v : Int) - 1) = ((Lib.bitLen v - 1 : Nat) : Int) := by rw [w64 ⟨by omega, by omega⟩]; omega
      rw [e]
      refine use (rUnary h (by omega) _ (by omega)) ?_
      rintro _ w1 ⟨o, rfl, ho, k1, f1⟩
      have hol := ho.rdB.len
      rw [List.length_append, zrun_len] at hol
      refine ⟨o, rfl, use (add2 ho.rdB (by omega) v hv _ (by omega)) ?_⟩
      rintro _ w2 ⟨o2, rfl, ho2, k2, f2⟩
      have := k1.size
      refine ⟨o2, rfl, done ?_ ho2 (k1.t k2) (fun k hk => by have := f2 k hk; omega)⟩
      simp only [wcF]; rw [if_neg (by omega)]
  · refine nope (by decide) (nope (by decide) (nope (by decide) (br_dec (fun h1 => same ?_) (fun h1 => br_dec (fun h2 => same ?_) (fun h2 => ?_)))))
    · simp only [wcF]; rw [if_pos (.inl h1)]
    · simp only [wcF]; rw [if_pos (.inr h2)]
    · obtain ⟨m, rfl⟩ : ∃ m : Nat, n = m := ⟨n.toNat, by omega⟩
      refine usei (rHalf w v m hv (by omega)) ⟨_, rfl, br_dec (fun h3 => same ?_) (fun h3 => ?_)⟩
      · simp only [wcF]; rw [if_neg (by omega), Int.toNat_natCast, if_pos (by omega)]
      · refine usei (rHalf w v m hv (by omega)) ⟨_, rfl, ?_⟩
        have ew : ∀ q : Nat, q ≤ 4096 → IntKind.i64.wrap (q : Int) = (q : Int) := fun q hq => w64 ⟨by omega, by omega⟩
        have hq : v / 2 ^ m ≤ 4096 := by generalize v / 2 ^ m = q at *; omega
        rw [ew _ hq]
        refine use (rUnary h (by omega) _ hq) ?_
        rintro _ w1 ⟨o, rfl, ho, k1, f1⟩
        have hol := ho.rdB.len
        rw [List.length_append, zrun_len] at hol
        generalize hqq : v / 2 ^ m = q at *
        refine ⟨o, rfl, use (add2 ho.rdB (by omega) v hv _ (by omega)) ?_⟩
        rintro _ w2 ⟨o2, rfl, ho2, k2, f2⟩
        have := k1.size
        refine ⟨o2, rfl, done ?_ ho2 (k1.t k2) (fun k hk => by have := f2 k hk; omega)⟩
        simp only [wcF]; rw [if_neg (by omega), Int.toNat_natCast, hqq, if_neg (by omega)]

/-- A writer that has a row. -/
structure Wat (w : World) (s r : Nat) (l : Slc) (bits : List Bool) (F : Nat → Prop) : Prop where
  blk : Blk w s [.pointer (some ⟨r, 0, none⟩)] 27
  row : Row w r l bits
  fs : F s
  fr : ∀ k, RF r l k → F k
  ns : ∀ k, RF r l k → k ≠ s
  lt : ∀ k, F k → k < w.heap.size
def Wst (w : World) (s : Nat) (bits : List Bool) (F : Nat → Prop) : Prop := (Blk w s [.pointer none] 27 ∧ bits = [] ∧ F s ∧ ∀ k, F k → k < w.heap.size) ∨ ∃ r l, Wat w s r l bits F
theorem Wat.kp {S : Nat → Prop} (h : Wat w s r l bits F) (g : Kp S w w') (hn : ∀ k, F k → ¬ S k) : Wat w' s r l bits F :=
  ⟨h.blk.kp g (hn _ h.fs), h.row.kp g (fun k hk => hn k (h.fr k hk)), h.fs, h.fr, h.ns, fun k hk => Nat.lt_of_lt_of_le (h.lt k hk) g.size⟩
theorem Wst.kp {S : Nat → Prop} (h : Wst w s bits F) (g : Kp S w w') (hn : ∀ k, F k → ¬ S k) : Wst w' s bits F := by
  rcases h with ⟨h1, h2, h3, h4⟩ | ⟨r, l, h⟩
  · exact .inl ⟨h1.kp g (hn _ h3), h2, h3, fun k hk => Nat.lt_of_lt_of_le (h4 k hk) g.size⟩
  · exact .inr ⟨r, l, h.kp g hn⟩
theorem Wat.add (h : Wat w s r l bits F) (hsz : bits.length ≤ 549755813888) (x : Nat) (hx : x < 18446744073709551616) (n : Int) :
    Calls Try.prog 30 #[.pointer (some ⟨r, 0, none⟩), .int .u64 x, .int .i64 n] w (Rv fun v w' => v = .int .i64 (addS bits x n).1 ∧ ∃ l' F', Wat w' s r l' (addS bits x n).2 F' ∧ Gro F w F' w') := by
  refine use (add1 h.row hsz x hx n) ?_
  rintro _ w1 ⟨o, rfl, r1, k1, f1⟩
  have hs := k1.size
  refine ⟨rfl, o, fun k => F k ∨ On o k, ⟨h.blk.kp k1 (fun hk => h.ns s hk rfl), r1, .inl h.fs, fun k hk => ?_, fun k hk => ?_, fun k hk => ?_⟩, k1.mono (fun k _ hk => h.fr k hk), fun k hk => ?_⟩
  · rcases hk with rfl | hk
    · exact .inl (h.fr _ (.inl rfl))
    · exact .inr hk
  · rcases hk with rfl | hk
    · exact h.ns _ (.inl rfl)
    · rcases f1 k hk with g | g
      · exact h.ns k (.inr g)
      · have := h.lt s h.fs; omega
  · rcases hk with hk | hk
    · have := h.lt k hk; omega
    · exact r1.lt (.inr hk)
  · rcases hk with hk | hk
    · exact .inl hk
    · rcases f1 k hk with g | g
      · exact .inl (h.fr k (.inr g))
      · exact .inr g
theorem Wat.put (h : Wat w s r l bits F) (hsz : bits.length ≤ 549755813888) {x m : Nat} {xi mi : Int} (hxi : xi = (x : Int)) (hmi : mi = (m : Int)) (hm : m ≤ 64) (hx : x < 2 ^ m) (h64 : x < 18446744073709551616) :
    Calls Try.prog 30 #[.pointer (some ⟨r, 0, none⟩), .int .u64 xi, .int .i64 mi] w (Rv fun v w' => v = .int .i64 0 ∧ ∃ l' F', Wat w' s r l' (bits ++ lowb x m) F' ∧ Gro F w F' w') := by
  subst hxi hmi
  have := h.add hsz x h64 (m : Int)
  rw [addS_ok hm hx h64] at this
  exact this
theorem wOpen (h : Wst w s bits F) : Calls Try.prog 100 #[.pointer (some ⟨s, 0, none⟩)] w (Rv fun v w' => ∃ r l F', v = .pointer (some ⟨r, 0, none⟩) ∧ Wat w' s r l bits F' ∧ Gro F w F' w') := by
  refine c100 _ _ _ ?_
  unfold B100
  rcases h with ⟨hb, rfl, hf, hlt⟩ | ⟨r, l, h⟩
  · refine ⟨_, hb.cell 0, brN (use (new w) ?_)⟩
    rintro _ w1 ⟨rfl, hr, k1⟩
    have b1 := hb.kp k1 id
    have hsl := hlt s hf
    refine ⟨_, rfl, ⟨_, b1.cell 0⟩, b1.frozen 0, ?_⟩
    have b2 := b1.set 0 (.pointer (some ⟨w.heap.size, 0, none⟩))
    have k2 : Kp (fun k => k = s) w1 (w1.setCell (Addr.add ⟨s, 0, none⟩ 0) (.pointer (some ⟨w.heap.size, 0, none⟩))) := (Kp.refl _ _).set _ _ (fun _ => by rw [add_block])
    have hrs : ∀ k, RF w.heap.size ⟨none, 0, 0⟩ k → k = w.heap.size := fun k hk => by
      rcases hk with rfl | ⟨a, ha, _⟩
      · rfl
      · cases ha
    have r2 := hr.kp k2 (fun k hk e => by have := hrs k hk; omega)
    have hz1 := hr.lt (.inl rfl)
    have hz2 := k2.size
    refine ⟨_, b2.cell 0, _, _, fun k => F k ∨ k = w.heap.size, rfl, ⟨b2, r2, .inl hf, fun k hk => .inr (hrs k hk), fun k hk => by have := hrs k hk; omega, fun k hk => ?_⟩, ?_, fun k hk => ?_⟩
    · rcases hk with hk | rfl
      · have := hlt k hk; omega
      · omega
    · exact (k1.mono (fun _ _ f => f.elim)).trans k2 (fun k _ e => e ▸ hf)
    · rcases hk with hk | rfl
      · exact .inl hk
      · exact .inr (Nat.le_refl _)
  · exact ⟨_, h.blk.cell 0, brIs rfl ⟨_, h.blk.cell 0, _, _, _, rfl, h, Gro.refl _ _⟩⟩

theorem wRun (h : Wst w s bits F) (hsz : bits.length ≤ 100000000) (n : Nat) (hn : n ≤ 4096) : Calls Try.prog 92 #[.pointer (some ⟨s, 0, none⟩), .int .i64 n] w (Rv fun v w' => v = .tuple #[] ∧ ∃ r l F', Wat w' s r l (bits ++ zrun n) F' ∧ Gro F w F' w') := by
  refine c92 _ _ _ _ ?_
  unfold B92
  refine use (wOpen h) ?_
  rintro _ w1 ⟨r, l1, F1, rfl, h1, g1⟩
  refine ⟨_, rfl, fun x w' => ∃ (j : Nat) (l : Slc) (F' : Nat → Prop), x = ((n - 63 * j : Nat) : Int) ∧ 63 * j ≤ n ∧ Wat w' s r l (bits ++ List.replicate (63 * j) false) F' ∧ Gro F w F' w', fun x _ => x.toNat, ⟨0, l1, F1, by omega, by omega, by simpa using h1, g1⟩, ?_⟩
  rintro x w2 ⟨j, l2, F2, rfl, hj, h2, g2⟩
  have hlen : (bits ++ List.replicate (63 * j) false).length ≤ 549755813888 := by rw [List.length_append, List.length_replicate]; omega
  refine br_dec (fun h63 => ?_) (fun h63 => ?_)
  · refine use (h2.put hlen (x := 0) (m := 63) (xi := 0) (mi := 63) rfl rfl (by omega) (by omega) (by omega)) ?_
    rintro _ w3 ⟨rfl, l3, F3, h3, g3⟩
    rw [lowb_zero, List.append_assoc, List.replicate_append_replicate, show 63 * j + 63 = 63 * (j + 1) by omega] at h3
    rw [w64 ⟨by omega, by omega⟩]
    exact ⟨_, rfl, ⟨j + 1, l3, F3, by omega, by omega, h3, g2.trans g3⟩, by dsimp only; omega⟩
  · have hlt : n - 63 * j < 63 := by omega
    have hp : 2 ^ (n - 63 * j) < 18446744073709551616 := by
      have : (2 : Nat) ^ (n - 63 * j) < 2 ^ 63 := Nat.pow_lt_pow_right (by omega) hlt
      omega
    have e1 : IntKind.u64.wrap ((n - 63 * j : Nat) : Int) = ((n - 63 * j : Nat) : Int) := wu64 ⟨by omega, by omega⟩
    have e2 : IntKind.i64.wrap (((n - 63 * j : Nat) : Int) + 1) = ((n - 63 * j + 1 : Nat) : Int) := by rw [w64 ⟨by omega, by omega⟩]; omega
    have e3 : shL .u64 1 ((n - 63 * j : Nat) : Int) = ((2 ^ (n - 63 * j) : Nat) : Int) := by
      unfold shL
      simp only [Int.toNat_natCast, IntKind.bits]
      rw [Nat.min_eq_left (by omega), Int.one_mul]
      have : ((2 : Int) ^ (n - 63 * j)) = ((2 ^ (n - 63 * j) : Nat) : Int) := by push_cast; rfl
      rw [this]
      generalize 2 ^ (n - 63 * j) = q at *
      exact wu64 ⟨by omega, by omega⟩
    rw [e1, e2, e3]
    refine ⟨by omega, use (h2.put hlen (x := 2 ^ (n - 63 * j)) (m := n - 63 * j + 1) rfl rfl (by omega) (Nat.pow_lt_pow_right (by omega) (by omega)) hp) ?_⟩
    rintro _ w3 ⟨rfl, l3, F3, h3, g3⟩
    rw [lowb_pow, List.append_assoc, zrun_two, show 63 * j + (n - 63 * j) = n by omega] at h3
    exact ⟨_, rfl, rfl, r, l3, F3, h3, g2.trans g3⟩

theorem wLow (h : Wat w s r l bits F) (hsz : bits.length ≤ 100000000) (x m : Nat) (hm : m ≤ 64) (hx : x < 18446744073709551616) : Calls Try.prog 93 #[.func (.func 30) #[.pointer (some ⟨r, 0, none⟩)] #[], .int .u64 x, .int .i64 m] w (Rv fun v w' => v = .tuple #[] ∧ ∃ l' F', Wat w' s r l' (bits ++ lowb x m) F' ∧ Gro F w F' w') := by
  refine c93 _ _ _ _ _ ?_
  unfold B93
  refine usei (mask w _) ⟨_, rfl, callFV_of (by rfl) ?_⟩
  have hcl : clampW (m : Int) = m := by unfold clampW; omega
  rw [hcl, low _ _ hx hm]
  have hlt : x % 2 ^ m < 2 ^ m := Nat.mod_lt _ (Nat.two_pow_pos _)
  have hle : x % 2 ^ m ≤ x := Nat.mod_le _ _
  refine use (h.put (by omega) (x := x % 2 ^ m) (m := m) rfl rfl hm hlt (by omega)) ?_
  rintro _ w1 ⟨rfl, l1, F1, h1, g1⟩
  rw [lowb_modp] at h1
  exact ⟨_, rfl, rfl, l1, F1, h1, g1⟩

/-- What a code comes to that is written. -/
abbrev Wrt (w : World) (s : Nat) (F : Nat → Prop) (res : Int × List Bool) (v : Value) (w' : World) : Prop := v = .int .i64 res.1 ∧ ∃ F', Wst w' s res.2 F' ∧ Gro F w F' w'
theorem wFixed (h : Wst w s bits F) (hsz : bits.length ≤ 100000000) (x : Nat) (hx : x < 18446744073709551616) (n : Int) : Calls Try.prog 69 #[.pointer (some ⟨s, 0, none⟩), .int .u64 x, .int .i64 n] w (Rv (Wrt w s F (wcF bits 0 x n))) := by
  refine c69 _ _ _ _ _ ?_
  unfold B69
  refine use (wOpen h) ?_
  rintro _ w1 ⟨r, l1, F1, rfl, h1, g1⟩
  refine ⟨_, rfl, use (h1.add (by omega) x hx n) ?_⟩
  rintro _ w2 ⟨rfl, l2, F2, h2, g2⟩
  exact ⟨_, rfl, rfl, F2, .inr ⟨_, _, h2⟩, g1.trans g2⟩
theorem wUnary (h : Wst w s bits F) (hsz : bits.length ≤ 100000000) (x : Nat) (n : Int) : Calls Try.prog 70 #[.pointer (some ⟨s, 0, none⟩), .int .i64 n] w (Rv (Wrt w s F (wcF bits 1 x n))) := by
  refine c70 _ _ _ _ ?_
  unfold B70
  have keep : ∀ {c : Int}, wcF bits 1 x n = (c, bits) → Wrt w s F (wcF bits 1 x n) (.int .i64 c) w := fun hc => by rw [hc]; exact ⟨rfl, F, h, Gro.refl _ _⟩
  refine br_dec (fun h1 => keep ?_) (fun h1 => br_dec (fun h2 => keep ?_) (fun h2 => ?_))
  · simp only [wcF]; rw [if_pos (.inl h1)]
  · simp only [wcF]; rw [if_pos (.inr h2)]
  · obtain ⟨m, rfl⟩ : ∃ m : Nat, n = m := ⟨n.toNat, by omega⟩
    refine use (wRun h hsz m (by omega)) ?_
    rintro _ w1 ⟨rfl, r, l1, F1, h3, g1⟩
    have e : wcF bits 1 x (m : Int) = (0, bits ++ zrun m) := by simp only [wcF]; rw [if_neg (by omega), Int.toNat_natCast]
    rw [e]
    exact ⟨rfl, rfl, F1, .inr ⟨_, _, h3⟩, g1⟩
theorem wGamma (h : Wst w s bits F) (hsz : bits.length ≤ 10000000) (x : Nat) (hx : x < 18446744073709551616) (n : Int) : Calls Try.prog 59 #[.pointer (some ⟨s, 0, none⟩), .int .u64 x] w (Rv (Wrt w s F (wcF bits 2 x n))) := by
  refine c59 _ _ _ _ ?_
  unfold B59
  refine br_dec (fun h1 => ?_) (fun h1 => ?_)
  · have e : wcF bits 2 x n = (8, bits) := by simp only [wcF]; rw [if_pos (by omega)]
    rw [e]; exact ⟨rfl, F, h, Gro.refl _ _⟩
  · have hb := bl_pos (v := x) (by omega) hx
    refine usei (width w x hx) ⟨_, rfl, ?_⟩
    have e : IntKind.i64.wrap ((Lib.bitLen x : Int) - 1) = ((Lib.bitLen x - 1 : Nat) : Int) := by rw [w64 ⟨by omega, by omega⟩]; omega
    rw [e]
    refine use (wRun h (by omega) _ (by omega)) ?_
    rintro _ w1 ⟨rfl, r, l1, F1, h3, g1⟩
    refine ⟨rfl, _, h3.blk.cell 0, use (wLow h3 (by rw [List.length_append, zrun_len]; omega) x _ (by omega) hx) ?_⟩
    rintro _ w2 ⟨rfl, l2, F2, h4, g2⟩
    have e2 : wcF bits 2 x n = (0, bits ++ zrun (Lib.bitLen x - 1) ++ lowb x (Lib.bitLen x - 1)) := by simp only [wcF]; rw [if_neg (by omega)]
    rw [e2]
    exact ⟨rfl, rfl, F2, .inr ⟨_, _, h4⟩, g1.trans g2⟩
theorem shr_nat {x m : Nat} (hx : x < 18446744073709551616) (hm : m ≤ 64) : shR .u64 (x : Int) (m : Int) = ((x / 2 ^ m : Nat) : Int) := by
  unfold shR
  simp only [Int.toNat_natCast, IntKind.bits]
  rw [Nat.min_eq_left (by omega), Int.fdiv_eq_ediv_of_nonneg _ (by exact Int.pow_nonneg (by omega))]
  push_cast; rfl
theorem wRice (h : Wst w s bits F) (hsz : bits.length ≤ 10000000) (x : Nat) (hx : x < 18446744073709551616) (n : Int) : Calls Try.prog 60 #[.pointer (some ⟨s, 0, none⟩), .int .u64 x, .int .i64 n] w (Rv (Wrt w s F (wcF bits 3 x n))) := by
  refine c60 _ _ _ _ _ ?_
  unfold B60
  have keep : ∀ {c : Int}, wcF bits 3 x n = (c, bits) → Wrt w s F (wcF bits 3 x n) (.int .i64 c) w := fun hc => by rw [hc]; exact ⟨rfl, F, h, Gro.refl _ _⟩
  refine br_dec (fun h1 => keep ?_) (fun h1 => br_dec (fun h2 => keep ?_) (fun h2 => ?_))
  · simp only [wcF]; rw [if_pos (.inl h1)]
  · simp only [wcF]; rw [if_pos (.inr h2)]
  · obtain ⟨m, rfl⟩ : ∃ m : Nat, n = m := ⟨n.toNat, by omega⟩
    rw [wu64 (x := (m : Int)) ⟨by omega, by omega⟩, shr_nat hx (by omega)]
    refine ⟨by omega, br_dec (fun h3 => keep ?_) (fun h3 => ⟨by omega, ?_⟩)⟩
    · simp only [wcF]; rw [if_neg (by omega), Int.toNat_natCast, if_pos (by omega)]
    · have ew : ∀ q : Nat, q ≤ 4096 → IntKind.i64.wrap (q : Int) = (q : Int) := fun q hq => w64 ⟨by omega, by omega⟩
      have hq : x / 2 ^ m ≤ 4096 := by generalize x / 2 ^ m = q at *; omega
      rw [ew _ hq]
      refine use (wRun h (by omega) _ hq) ?_
      rintro _ w1 ⟨rfl, r, l1, F1, h4, g1⟩
      refine ⟨rfl, _, h4.blk.cell 0, use (wLow h4 (by rw [List.length_append, zrun_len]; generalize x / 2 ^ m = q at *; omega) x m (by omega) hx) ?_⟩
      rintro _ w2 ⟨rfl, l2, F2, h5, g2⟩
      have e2 : wcF bits 3 x (m : Int) = (0, bits ++ zrun (x / 2 ^ m) ++ lowb x m) := by simp only [wcF]; rw [if_neg (by omega), Int.toNat_natCast, if_neg (by omega)]
      rw [e2]
      exact ⟨rfl, rfl, F2, .inr ⟨_, _, h5⟩, g1.trans g2⟩
end Go.Proofs.Ytbgbmliladhpeaa.V
