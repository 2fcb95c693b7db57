/- The laws of the row chapter. -/
import Derived.Test.YtlobkadfmgnlmaaRy
import Derived.Test.YtlobkadfmgnlmaaOp
namespace Go.Proofs.Ytlobkadfmgnlmaa.V
open Go Go.VC
variable {w w' w0 : World} {l o : Slc} {bits : List Bool} {ws : List Nat} {r : Nat}

/-- Parts that can be read. -/
structure RdP (w : World) (l : Slc) (ps : List (Nat × Int)) : Prop where
  len : ps.length = l.len
  cel : ∀ i (hi : i < ps.length), ∃ b, l.a = some b ∧ w.cell? (Addr.add (Addr.add b (i * 2)) 0) = some (U ps[i].1) ∧ w.cell? (Addr.add (Addr.add b (i * 2)) 1) = some (.int .i64 ps[i].2)
  lt : ∀ p ∈ ps, p.1 < 18446744073709551616
theorem RdP.kp {ps : List (Nat × Int)} (h : RdP w l ps) (g : Kp no w w') : RdP w' l ps := ⟨h.len, fun i hi => by
  obtain ⟨b, hb, h0, h1⟩ := h.cel i hi
  have e : w'.heap[b.block]? = w.heap[b.block]? := g.keep _ (by have := cell_lt h0; simpa [add_block] using this) id
  exact ⟨b, hb, by rw [World.cell?_of_block (w := w) (by simpa [add_block] using e), h0], by rw [World.cell?_of_block (w := w) (by simpa [add_block] using e), h1]⟩, h.lt⟩

theorem rdP_of {a : Option Addr} {len cap : Nat} {zs : List (Int × Int)} (h : IsPairs .u64 .i64 w a len zs) : RdP w ⟨a, len, cap⟩ (zs.map fun z => (z.1.toNat, z.2)) := by
  have b : ∀ i (hi : i < zs.length), 0 ≤ zs[i].1 ∧ zs[i].1 ≤ 18446744073709551615 := fun i hi => Go.bounds_u64 (h.2.2 i hi).2.1
  refine ⟨by simpa using h.1, fun i hi => ?_, fun p hp => ?_⟩
  · rw [List.length_map] at hi
    obtain ⟨⟨c, hc, h0, h1⟩, _⟩ := h.2.2 i hi
    have := b i hi
    refine ⟨c, hc, ?_, by simpa using h1⟩
    rw [h0, List.getElem_map]
    congr 2
    simp only; omega
  · obtain ⟨z, hz, rfl⟩ := List.mem_map.1 hp
    obtain ⟨i, hi, rfl⟩ := List.getElem_of_mem hz
    have := b i hi
    simp only; omega

/-- The bits of a list of parts. -/
def bitsOf : List (Nat × Int) → List Bool → List Bool
  | [], b => b
  | p :: ps, b => bitsOf ps (addS b p.1 p.2).2
theorem bitsOf_snoc (ps : List (Nat × Int)) (p : Nat × Int) : ∀ b, bitsOf (ps ++ [p]) b = (addS (bitsOf ps b) p.1 p.2).2 := by
  induction ps with
  | nil => intro b; rfl
  | cons q ps ih => intro b; exact ih _
theorem addS_len (b : List Bool) (x : Nat) (n : Int) : (addS b x n).2.length ≤ b.length + 64 := by
  unfold addS
  split
  · simp
  · split
    · simp
    · simp [lowb]; omega
theorem bitsOf_len (ps : List (Nat × Int)) : ∀ b, (bitsOf ps b).length ≤ b.length + 64 * ps.length := by
  induction ps with
  | nil => intro b; simp [bitsOf]
  | cons q ps ih => intro b; have := ih (addS b q.1 q.2).2; have := addS_len b q.1 q.2; simp only [bitsOf, List.length_cons]; omega

theorem built {ps : List (Nat × Int)} (h : RdP w l ps) (hsz : l.len ≤ 1000000) : Calls Try.prog 43 #[.slice l.a l.len l.cap] w (Rv fun v w' => ∃ r rl o, v = .tuple #[.pointer (some ⟨r, 0, none⟩), .slice o.a o.len o.cap, .bool true] ∧
    Row w' r rl (bitsOf ps []) ∧ Ownd w' o 4 1 ((bitsOf ps []).map Value.bool) ∧ Kp no w w' ∧ (∀ k, RF r rl k → w.heap.size ≤ k) ∧ (∀ k, On o k → w.heap.size ≤ k)) := by
  refine c43 _ _ _ ?_
  unfold B43
  have hl := h.len
  refine use (new w) ?_
  rintro _ w1 ⟨rfl, hrow, hk0⟩
  refine ⟨_, rfl, fun o i w' => ∃ m : Nat, i = m ∧ m ≤ ps.length ∧ ∃ rl, Row w' w.heap.size rl (bitsOf (ps.take m) []) ∧ Ownd w' o 4 1 ((bitsOf (ps.take m) []).map Value.bool) ∧ Kp no w w' ∧ (∀ k, RF w.heap.size rl k → w.heap.size ≤ k) ∧ (∀ k, On o k → w.heap.size ≤ k ∧ ¬ RF w.heap.size rl k),
    fun _ i _ => (l.len - i).toNat, ⟨0, rfl, by omega, _, hrow, Ownd.nil _ _ _, hk0, fun k hk => ?_, fun k hk => absurd hk On.nil⟩, ?_⟩
  · rcases hk with rfl | hk
    · exact Nat.le_refl _
    · exact absurd hk On.nil
  rintro o i w2 ⟨m, rfl, hm, rl, hR, hO, hK, hF, hG⟩
  have hbl := bitsOf_len (ps.take m) []
  have htl : (ps.take m).length = m := by simp; omega
  simp only [List.length_nil, htl] at hbl
  refine br_dec (fun h1 => ⟨by omega, h1, ?_⟩) (fun h1 => ?_)
  · have hmp : m < ps.length := by omega
    obtain ⟨b, hb, e0, e1⟩ := (h.kp hK.drew).cel m hmp
    have hx := h.lt _ (List.getElem_mem hmp)
    have htk : ps.take (m + 1) = ps.take m ++ [ps[m]] := by rw [List.take_add_one, List.getElem?_eq_getElem hmp]; rfl
    refine ⟨b, hb, _, e0, by omega, h1, b, hb, _, e1, ?_⟩
    have hRd : Row w2.drew w.heap.size rl (bitsOf (ps.take m) []) := hR.kp (Kp.refl no w2).drew (fun _ _ f => f)
    refine use (add1 hRd (by omega) ps[m].1 hx ps[m].2) ?_
    rintro _ w3 ⟨rl3, rfl, hR3, hK3, hF3⟩
    have hK3' : Kp no w w3 := hK.drew.trans hK3 (fun k hlt hk => by have := hF k hk; omega)
    have hO3 : Ownd w3 o 4 1 ((bitsOf (ps.take m) []).map Value.bool) := hO.drew.kp hK3 (fun k hk => (hG k hk).2)
    have hwl := hK.size
    have hF3' : ∀ k, RF w.heap.size rl3 k → w.heap.size ≤ k := fun k hk => by
      rcases hk with rfl | hk
      · exact Nat.le_refl _
      · rcases hF3 k hk with g | g
        · exact hF k (.inr g)
        · simp at g; omega
    have hG3 : ∀ k, On o k → w.heap.size ≤ k ∧ ¬ RF w.heap.size rl3 k := fun k hk => ⟨(hG k hk).1, fun g => by
      rcases g with rfl | g
      · exact (hG _ hk).2 (.inl rfl)
      · rcases hF3 k g with g | g
        · exact (hG _ hk).2 (.inr g)
        · have := hO.on hk; simp at g; omega⟩
    have hbs : bitsOf (ps.take (m + 1)) [] = (addS (bitsOf (ps.take m) []) ps[m].1 ps[m].2).2 := by rw [htk, bitsOf_snoc]
    have P3 := h.kp hK3'
    have hold : ∀ c, addS (bitsOf (ps.take m) []) ps[m].1 ps[m].2 = (c, bitsOf (ps.take m) []) → ∀ w4, Kp no w3 w4 →
        (∃ m' : Nat, ((m : Int) + 1) = m' ∧ m' ≤ ps.length ∧ ∃ rl, Row w4 w.heap.size rl (bitsOf (ps.take m') []) ∧ Ownd w4 o 4 1 ((bitsOf (ps.take m') []).map Value.bool) ∧ Kp no w w4 ∧ (∀ k, RF w.heap.size rl k → w.heap.size ≤ k) ∧ (∀ k, On o k → w.heap.size ≤ k ∧ ¬ RF w.heap.size rl k)) := fun c hc w4 hk4 => by
      rw [hc] at hR3 hbs
      exact ⟨m + 1, by omega, hmp, rl3, by rw [hbs]; exact hR3.kp hk4 (fun _ _ f => f), by rw [hbs]; exact hO3.kp hk4 (fun _ _ f => f), hK3'.trans hk4 (fun _ _ f => f), hF3', hG3⟩
    obtain ⟨b2, hb2, f0, f1⟩ := P3.cel m hmp
    refine ⟨_, rfl, by omega, h1, b2, hb2, _, f1, ?_⟩
    have hw : IntKind.i64.wrap ((m : Int) + 1) = (m : Int) + 1 := w64 ⟨by omega, by omega⟩
    rw [hw]
    have P4 := h.kp hK3'.drew
    obtain ⟨b4, hb4, q0, q1⟩ := P4.cel m hmp
    refine br_dec (fun h2 => ?_) (fun h2 => ⟨by omega, h1, b2, hb2, _, f1, br_dec (fun h3 => ?_) (fun h3 => ⟨by omega, h1, b4, hb4, _, q0, by omega, h1, b4, hb4, _, q1, ?_⟩)⟩)
    · have hc : addS (bitsOf (ps.take m) []) ps[m].1 ps[m].2 = (1, bitsOf (ps.take m) []) := by unfold addS; rw [if_pos (.inl h2)]
      rw [hc]
      exact br_not (br_dec (fun _ => ⟨hold 1 hc w3 (Kp.refl _ _), by dsimp only; omega⟩) (fun h => absurd rfl h))
    · have hc : addS (bitsOf (ps.take m) []) ps[m].1 ps[m].2 = (1, bitsOf (ps.take m) []) := by unfold addS; rw [if_pos (.inr h3)]
      rw [hc]
      exact br_not (br_dec (fun _ => ⟨hold 1 hc w3 (Kp.refl _ _), by dsimp only; omega⟩) (fun h => absurd rfl h))
    · refine usei (may2 w3.drew ps[m].1 hx ps[m].2) ⟨_, rfl, br_not (br_dec (fun h4 => ?_) (fun h4 => ?_))⟩
      · have hc : addS (bitsOf (ps.take m) []) ps[m].1 ps[m].2 = (0, bitsOf (ps.take m) [] ++ lowb ps[m].1 ps[m].2.toNat) := by unfold addS; rw [if_neg (by omega), if_neg (by omega)]
        obtain ⟨n, hn⟩ : ∃ n : Nat, ps[m].2 = n := ⟨ps[m].2.toNat, by omega⟩
        have P5 := h.kp hK3'.drew.drew
        obtain ⟨b5, hb5, r0, r1⟩ := P5.cel m hmp
        refine ⟨by omega, h1, b5, hb5, _, r0, by omega, h1, b5, hb5, _, r1, ?_⟩
        have hO5 := (hO3.drew.drew).rdB
        have hol : o.len = (bitsOf (ps.take m) []).length := hO5.len.symm
        rw [hn]
        refine use (add2 hO5 (by omega) ps[m].1 hx n (by omega)) ?_
        rintro _ w6 ⟨o6, rfl, hO6, hK6, hF6⟩
        refine ⟨_, rfl, ?_⟩
        rw [← hn]
        rw [hc] at hR3 hbs ⊢
        have hKK : Kp no w3 w6 := (Kp.refl no w3).drew.drew.trans hK6 (fun _ _ f => f)
        refine br_not (br_dec (fun _ => ⟨⟨m + 1, by omega, hmp, rl3, by rw [hbs]; exact hR3.kp hKK (fun _ _ f => f), by rw [hbs, hn]; exact hO6, hK3'.trans hKK (fun _ _ f => f), hF3', fun k hk => ?_⟩, by dsimp only; omega⟩) (fun h => absurd rfl h))
        have g := hF6 k hk
        simp at g
        have s3 := hK3'.size
        exact ⟨by omega, fun f => by have := hR3.lt f; omega⟩
      · have hc : addS (bitsOf (ps.take m) []) ps[m].1 ps[m].2 = (8, bitsOf (ps.take m) []) := by unfold addS; rw [if_neg (by omega), if_pos (by omega)]
        rw [hc]
        exact br_not (br_dec (fun _ => ⟨hold 8 hc w3.drew (Kp.refl _ _).drew, by dsimp only; omega⟩) (fun h => absurd rfl h))
  · have hme : m = ps.length := by omega
    subst hme
    rw [List.take_length] at hR hO
    exact ⟨w.heap.size, rl, o, rfl, hR, hO, hK, hF, fun k hk => (hG k hk).1⟩

theorem live2 (w : World) : IsK 42 #[] w (.bool true) := by
  refine c42 _ _ ?_
  unfold B42
  refine use (new w) ?_
  rintro _ w1 ⟨rfl, h1, k1⟩
  refine ⟨_, rfl, ?_⟩
  show Calls _ _ _ _ _
  refine use (add1 h1 (by simp) 5 (by omega) 3) ?_
  rintro _ w2 ⟨o2, rfl, h2, k2, f2⟩
  have s2 : addS [] 5 3 = (0, [true, false, true]) := by decide +kernel
  rw [s2] at h2 ⊢
  refine ⟨_, rfl, br_dec (fun _ => ?_) (fun h => absurd rfl h)⟩
  refine use (add1 h2 (by simp) 1 (by omega) 2) ?_
  rintro _ w3 ⟨o3, rfl, h3, k3, f3⟩
  have s3 : addS [true, false, true] 1 2 = (0, [true, false, true, true, false]) := by decide +kernel
  simp only [s3] at h3 ⊢
  refine ⟨_, rfl, br_dec (fun _ => ?_) (fun h => absurd rfl h)⟩
  have hk : Kp no w w3 := (k1.trans k2 (fun k hlt hk => by
      rcases hk with rfl | hk
      · omega
      · exact absurd hk On.nil)).trans k3 (fun k hlt hk => by
      rcases hk with rfl | hk
      · omega
      · have s1 := k1.size
        rcases f2 k hk with g | g
        · exact absurd g On.nil
        · omega)
  refine usei (len1 h3) ⟨_, rfl, br_dec (fun _ => ?_) (fun h => absurd rfl h)⟩
  refine usei (cut1 h3 (by simp) 1 3 ⟨by omega, by omega⟩) ⟨_, rfl, br_dec (fun _ => ?_) (fun h => absurd (by decide +kernel) h)⟩
  refine use (next1 h3 (by simp) 1) ?_
  rintro _ _ ⟨rfl, s, rfl, hs⟩
  have hn : NextP [true, false, true, true, false] 1 2 := .inr ⟨2, rfl, by omega, rfl, fun j h1 h2 => by
    have : j = 1 := by omega
    subst this; rfl⟩
  obtain rfl := hs.one hn
  refine ⟨_, rfl, br_dec (fun _ => ?_) (fun h => absurd rfl h)⟩
  refine usei (ones1 h3 (by simp)) ⟨_, rfl, ?_, hk⟩
  rfl

theorem rowAdds {ps : List (Nat × Int)} (h : RdP w l ps) : IsK 11 #[.slice l.a l.len l.cap] w (.bool true) := by
  refine c11 _ _ _ ?_
  unfold B11
  have hl := h.len
  refine br_dec (fun _ => usek (live2 w) fun w' hk => ⟨_, rfl, rfl, hk⟩) (fun h0 => ?_)
  refine use (built h (by omega)) ?_
  rintro _ w1 ⟨r, rl, o, rfl, hR, hO, hK, hF, hG⟩
  have hbl := bitsOf_len ps []
  simp only [List.length_nil] at hbl
  have hB := hO.rdB
  have hol := hB.len
  refine ⟨_, o, _, rfl, ?_⟩
  show Calls _ _ _ _ _
  refine usei (len1 hR) ⟨_, rfl, br_dec (fun _ => ?_) (fun h => absurd (by omega) h)⟩
  refine use (words1 hR (by omega)) ?_
  rintro _ w2 ⟨o2, rfl, hO2, hK2, hF2⟩
  refine ⟨o2, rfl, use (words2 (hB.kp hK2 (fun _ _ f => f)) (by omega)) ?_⟩
  rintro _ w3 ⟨o3, rfl, hO3, hK3, hF3⟩
  have hlt : ∀ x ∈ wordsOf (bitsOf ps []), x < 18446744073709551616 := fun _ hx => wordsOf_lt hx
  have hO2' := (hO2.kp hK3 (fun _ _ f => f)).rdW hlt
  have hln := hO2'.len
  rw [length_wordsOf] at hln
  refine ⟨o3, rfl, usek (same2 hO2' (hO3.rdW hlt) (by omega)) fun w4 hK4 => ⟨_, rfl, br_dec (fun _ => ?_) (fun h => absurd rfl h)⟩⟩
  exact usek (live2 w4) fun w5 hK5 => ⟨_, rfl, rfl, (((hK.trans hK2 (fun _ _ f => f)).trans hK3 (fun _ _ f => f)).trans hK4 (fun _ _ f => f)).trans hK5 (fun _ _ f => f)⟩

theorem rowTells {ps : List (Nat × Int)} (h : RdP w l ps) (a b : Int) (ha : -9223372036854775808 ≤ a ∧ a ≤ 9223372036854775807) : IsK 10 #[.slice l.a l.len l.cap, .int .i64 a, .int .i64 b] w (.bool true) := by
  refine c10 _ _ _ _ _ ?_
  unfold B10
  have hl := h.len
  refine br_dec (fun _ => usek (live2 w) fun w' hk => ⟨_, rfl, rfl, hk⟩) (fun h0 => ?_)
  refine use (built h (by omega)) ?_
  rintro _ w1 ⟨r, rl, o, rfl, hR, hO, hK, hF, hG⟩
  have hbl := bitsOf_len ps []
  simp only [List.length_nil] at hbl
  have hB := hO.rdB
  have hol := hB.len
  refine ⟨_, o, _, rfl, ?_⟩
  show Calls _ _ _ _ _
  refine usei (bit1 hR (by omega) a) ⟨_, rfl, usei (bit2 hB a) ⟨_, rfl, br_not (br_of (fun _ => ?_) (fun h => by simp at h))⟩⟩
  refine usei (cut1 hR (by omega) a b ha) ⟨_, rfl, usei (cut2 hB (by omega) a b ha) ⟨_, rfl, br_not (br_dec (fun _ => ?_) (fun h => absurd rfl h))⟩⟩
  refine usei (ones1 hR (by omega)) ⟨_, rfl, usei (ones2 hB (by omega)) ⟨_, rfl, br_dec (fun _ => ?_) (fun h => absurd rfl h)⟩⟩
  refine use (next1 hR (by omega) a) ?_
  rintro _ _ ⟨rfl, s, rfl, hs⟩
  refine ⟨_, rfl, use (next2 hB (by omega) a) ?_⟩
  rintro _ _ ⟨rfl, t, rfl, ht⟩
  obtain rfl := hs.one ht
  refine ⟨_, rfl, br_dec (fun _ => ?_) (fun h => absurd rfl h)⟩
  exact usek (live2 _) fun w5 hK5 => ⟨_, rfl, rfl, hK.trans hK5 (fun _ _ f => f)⟩
end Go.Proofs.Ytlobkadfmgnlmaa.V
