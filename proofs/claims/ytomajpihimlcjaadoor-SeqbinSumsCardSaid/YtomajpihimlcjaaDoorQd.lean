/- All bits of a sequence, and the numbers that they have. No program here. -/
import Derived.Test.YtomajpihimlcjaaDoorQc
namespace Go.VC
open Go
/-- The k-th number that bits have. -/
def decAt (bits : List Bool) (W n k : Nat) : Nat := (oneAt (bits.drop (n * W)) k - k) * 2 ^ W + cutN bits (k * W) W
def decN (bits : List Bool) (W n c : Nat) : List Nat := (List.range c).map (decAt bits W n)
theorem decN_len (bits : List Bool) (W n c : Nat) : (decN bits W n c).length = c := by simp [decN]
theorem decN_succ (bits : List Bool) (W n c : Nat) : decN bits W n (c + 1) = decN bits W n c ++ [decAt bits W n c] := by simp [decN, List.range_succ]
theorem decN_at {bits : List Bool} {W n c k : Nat} (h : k < c) : wg (decN bits W n c) k = decAt bits W n k := by unfold wg decN; simp [h]
theorem oneAt_spec {H : List Bool} {k : Nat} (h : k < cnt (bg H) H.length) : oneAt H k < H.length ∧ bg H (oneAt H k) = true ∧ cnt (bg H) (oneAt H k) = k ∧ k ≤ oneAt H k := by
  obtain ⟨a, h1, h2, h3⟩ := cnt_ex h
  have h4 := oneAt_eq h1 h2
  rw [h3] at h4
  have := cnt_le (bg H) a
  rw [h4]; exact ⟨h1, h2, h3, by omega⟩
theorem dec_div (x y W : Nat) (h : y < 2 ^ W) : (x * 2 ^ W + y) / 2 ^ W = x ∧ (x * 2 ^ W + y) % 2 ^ W = y := by
  have hp := Nat.two_pow_pos W
  constructor
  · rw [Nat.mul_comm, Nat.mul_add_div hp, Nat.div_eq_of_lt h, Nat.add_zero]
  · rw [Nat.mul_comm, Nat.mul_add_mod, Nat.mod_eq_of_lt h]
theorem decAt_div (bits : List Bool) (W n k : Nat) : decAt bits W n k / 2 ^ W = oneAt (bits.drop (n * W)) k - k ∧ decAt bits W n k % 2 ^ W = cutN bits (k * W) W := dec_div _ _ _ (cutN_lt _ _ _)
theorem dec_or (x y W : Nat) (h : y < 2 ^ W) : x * 2 ^ W ||| y = x * 2 ^ W + y := by
  have := parts_or (x * 2 ^ W + y) W
  obtain ⟨h1, h2⟩ := dec_div x y W h
  rw [h1, h2, Nat.shiftLeft_eq] at this
  exact this
theorem cutN_congr {a b : List Bool} {p q n : Nat} (h : ∀ i, i < n → bg a (p + i) = bg b (q + i)) : cutN a p n = cutN b q n := ofB_congr h
theorem bg_take {a : List Bool} {m i : Nat} (h : i < m) : bg (a.take m) i = bg a i := by unfold bg; rw [List.getElem?_take_of_lt h]
theorem lowW_mul {n last : Nat} (hn : 0 < n) (hl : last < 18446744073709551616) : n * 2 ^ lowW n last ≤ n + last := by
  obtain ⟨h1, _⟩ := lowW_spec hn hl
  generalize lowW (n : Int) (last : Int) = W at *
  rcases Nat.eq_zero_or_pos W with e | e
  · subst e; simp
  · have := h1 (W - 1) (by omega)
    rw [show W - 1 + 1 = W by omega] at this
    have h2 : last / 2 ^ W * 2 ^ W ≤ last := Nat.div_mul_le_self _ _
    have h3 : n * 2 ^ W ≤ last / 2 ^ W * 2 ^ W := Nat.mul_le_mul_right _ this
    omega
/-- Bits that have n numbers, of which the last is as told, are all bits of these. -/
theorem seqBits_back {bits : List Bool} {n last : Nat} (hn : 0 < n) (hlen : bits.length = n * lowW n last + n + last / 2 ^ lowW n last)
    (hc : cnt (bg (bits.drop (n * lowW n last))) (bits.drop (n * lowW n last)).length = n) (hg : GoodL (decN bits (lowW n last) n n)) (hl : wg (decN bits (lowW n last) n n) (n - 1) = last) :
    seqBits (decN bits (lowW n last) n n) = bits := by
  have hdl := decN_len bits (lowW n last) n n
  have eW' : eW (decN bits (lowW n last) n n) = lowW n last := by unfold eW lastZ; rw [hdl, if_neg (by omega), hl]
  generalize lowW (n : Int) (last : Int) = W at *
  have hdat : ∀ k, k < n → wg (decN bits W n n) k = decAt bits W n k := fun k hk => decN_at hk
  generalize decN bits W n n = d at *
  obtain ⟨H, hH⟩ : ∃ H, H = bits.drop (n * W) := ⟨_, rfl⟩
  have hHl : H.length = n + last / 2 ^ W := by rw [hH, List.length_drop, hlen]; generalize last / 2 ^ W = q; omega
  rw [← hH] at hc
  have hup : ∀ k, k < n → upl d W k = oneAt H k - k := fun k hk => by unfold upl; rw [hdat k hk, hH]; exact (decAt_div _ _ _ _).1
  have hsp : ∀ k, k < n → oneAt H k < H.length ∧ bg H (oneAt H k) = true ∧ cnt (bg H) (oneAt H k) = k ∧ k ≤ oneAt H k := fun k hk => oneAt_spec (by omega)
  have hmono : Mono (upl d W) n := by have := upl_mono hg W; rwa [hdl] at this
  have hlastp : oneAt H (n - 1) = n - 1 + last / 2 ^ W := by
    have h1 := hup (n - 1) (by omega)
    have h2 : upl d W (n - 1) = last / 2 ^ W := by unfold upl; rw [hl]
    have := (hsp (n - 1) (by omega)).2.2.2
    omega
  have hprvn : prv (upl d W) n = last / 2 ^ W := by unfold prv; rw [if_neg (by omega)]; unfold upl; rw [hl]
  -- the upper part
  have hi : hb (upl d W) n = H := by
    apply bg_ext
    · rw [hb_len hmono, hprvn, hHl]
    · intro p hp
      rw [hb_len hmono, hprvn, ← hHl] at hp
      cases hb : bg H p
      · obtain ⟨q1, q2, q3, q4⟩ := hsp (n - 1) (by omega)
        have hkn : cnt (bg H) p < n := by
          have hne : p ≠ oneAt H (n - 1) := fun e => by rw [e, q2] at hb; cases hb
          have := cnt_mono (bg H) (m := p) (n := oneAt H (n - 1)) (by omega)
          omega
        obtain ⟨k, hk⟩ : ∃ k, k = cnt (bg H) p := ⟨_, rfl⟩
        rw [← hk] at hkn
        obtain ⟨p1, p2, p3, p4⟩ := hsp k hkn
        have hgt : p < oneAt H k := by
          by_cases g : p < oneAt H k
          · exact g
          · have hne : p ≠ oneAt H k := fun e => by rw [e, p2] at hb; cases hb
            have := cnt_lt' p2 (show oneAt H k < p by omega)
            omega
        refine hb_zero hmono hkn ?_ (by rw [hup k hkn]; omega)
        unfold prv
        split
        · omega
        · have hk1 : k - 1 < n := by omega
          obtain ⟨r1, r2, r3, r4⟩ := hsp (k - 1) hk1
          have hlt : oneAt H (k - 1) < p := by
            by_cases g : oneAt H (k - 1) < p
            · exact g
            · have := cnt_mono (bg H) (m := p) (n := oneAt H (k - 1)) (by omega)
              omega
          rw [hup (k - 1) hk1]; omega
      · have hkn : cnt (bg H) p < n := by have := cnt_lt' hb hp; omega
        have hpe := oneAt_eq hp hb
        obtain ⟨p1, p2, p3, p4⟩ := hsp _ hkn
        have := hb_one hmono hkn
        rw [hup _ hkn, hpe] at this
        rw [hpe] at p4
        rwa [show p - cnt (bg H) p + cnt (bg H) p = p by omega] at this
  -- the lower part
  have hlo : d.map (· % 2 ^ W) = pkNums W n (bits.take (n * W)) := by
    apply List.ext_getElem
    · rw [List.length_map, hdl, pkNums_len]
    · intro k h1 h2
      rw [List.length_map, hdl] at h1
      have e1 := pkNums_at (wd := W) (bits := bits.take (n * W)) h1
      unfold wg at e1
      rw [List.getElem?_eq_getElem h2] at e1
      have e2 := hdat k h1
      unfold wg at e2
      rw [List.getElem?_eq_getElem (by omega)] at e2
      simp only [Option.getD_some] at e1 e2
      rw [e1, List.getElem_map, e2, (decAt_div _ _ _ _).2, cutL_nat]
      refine cutN_congr fun i hi => (bg_take ?_).symm
      have : (k + 1) * W ≤ n * W := Nat.mul_le_mul_right _ h1
      rw [Nat.add_mul] at this; omega
  unfold seqBits
  rw [eW', hlo, pk_of (by rw [List.length_take]; omega)]
  unfold hiB
  rw [eW', hdl, hi, hH, List.take_append_drop]
/-- The numbers of all bits of a sequence are the sequence. -/
theorem seqBits_dec {ls : List Nat} (hg : GoodL ls) : cnt (bg ((seqBits ls).drop (ls.length * eW ls))) ((seqBits ls).drop (ls.length * eW ls)).length = ls.length ∧ decN (seqBits ls) (eW ls) ls.length ls.length = ls := by
  have hmono := upl_mono hg (eW ls)
  have hH : (seqBits ls).drop (ls.length * eW ls) = hiB ls := by
    unfold seqBits
    rw [List.drop_left' (by rw [pk_len, List.length_map, Nat.mul_comm])]
  rw [hH]
  refine ⟨hb_ones hmono, ?_⟩
  apply List.ext_getElem
  · rw [decN_len]
  · intro k h1 h2
    have e := decN_at (bits := seqBits ls) (W := eW ls) (n := ls.length) (c := ls.length) h2
    unfold wg at e
    rw [List.getElem?_eq_getElem h1] at e
    simp only [Option.getD_some] at e
    rw [e]
    unfold decAt
    rw [hH]
    have hone : oneAt (hiB ls) k = upl ls (eW ls) k + k := by
      have q1 : oneAt (hiB ls) (cnt (bg (hiB ls)) (upl ls (eW ls) k + k)) = upl ls (eW ls) k + k := oneAt_eq (hb_lt hmono h2) (hb_one hmono h2)
      have q2 : cnt (bg (hiB ls)) (upl ls (eW ls) k + k) = k := hb_cntAt hmono h2 (by have := prv_le hmono h2; omega) (by omega)
      rwa [q2] at q1
    have hcut : cutN (seqBits ls) (k * eW ls) (eW ls) = wg ls k % 2 ^ eW ls := by
      have := pk_cut (wd := eW ls) (xs := ls.map (· % 2 ^ eW ls)) (fun x hx => by
        obtain ⟨y, _, rfl⟩ := List.mem_map.1 hx; exact Nat.mod_lt _ (Nat.two_pow_pos _)) (i := k) (by rw [List.length_map]; exact h2)
      rw [wg_map h2, cutL_nat] at this
      rw [← this]
      refine cutN_congr fun i hi => ?_
      unfold seqBits
      rw [bg_append, if_pos]
      rw [pk_len, List.length_map]
      have : (k + 1) * eW ls ≤ ls.length * eW ls := Nat.mul_le_mul_right _ h2
      rw [Nat.add_mul] at this
      rw [Nat.mul_comm (eW ls)]; omega
    rw [hone, hcut, Nat.add_sub_cancel]
    have hwg : wg ls k = ls[k] := by unfold wg; rw [List.getElem?_eq_getElem h2]; rfl
    have := Nat.div_add_mod (wg ls k) (2 ^ eW ls)
    unfold upl
    rw [Nat.mul_comm] at this
    rw [this, hwg]
/-- The bits of a sequence as they are read: there is such a sequence. -/
def SeqOk (bits : List Bool) (n last : Nat) (ls : List Nat) : Prop := GoodL ls ∧ ls.length = n ∧ wg ls (n - 1) = last ∧ seqBits ls = bits
theorem SeqOk.dec {bits : List Bool} {n last : Nat} {ls : List Nat} (hn : 0 < n) (h : SeqOk bits n last ls) : cnt (bg (bits.drop (n * lowW n last))) (bits.drop (n * lowW n last)).length = n ∧ decN bits (lowW n last) n n = ls := by
  obtain ⟨h1, rfl, h3, rfl⟩ := h
  have e : eW ls = lowW ls.length last := by unfold eW lastZ; rw [if_neg (by omega), h3]
  have := seqBits_dec h1
  rwa [e] at this
theorem SeqOk.one {bits : List Bool} {n last : Nat} {ls ms : List Nat} (hn : 0 < n) (h : SeqOk bits n last ls) (g : SeqOk bits n last ms) : ls = ms := (h.dec hn).2.symm.trans (g.dec hn).2
/-- What a sequence that is read is: what is left, the error, the numbers. -/
def SeqG (rest : List UInt8) (bad : Nat) (rest' : List UInt8) (bad' : Nat) (ls : List Nat) : Prop :=
  (bad ≠ 0 ∧ rest' = rest ∧ bad' = bad ∧ ls = []) ∨
  (bad = 0 ∧ ∃ (n : Nat) (rest1 : List UInt8) (bad1 : Nat), uptoS rest 0 1048576 = ((n : Int), rest1, bad1) ∧ n ≤ 1048576 ∧
    ((bad1 ≠ 0 ∧ rest' = rest1 ∧ bad' = bad1 ∧ ls = []) ∨ (bad1 = 0 ∧ n = 0 ∧ rest' = rest1 ∧ bad' = 0 ∧ ls = []) ∨
     (bad1 = 0 ∧ 0 < n ∧ ∃ (last : Nat) (rest2 : List UInt8) (bad2 : Nat), uptoS rest1 0 1099511627776 = ((last : Int), rest2, bad2) ∧ last ≤ 1099511627776 ∧
       ∃ (rest3 : List UInt8) (bad3 : Nat) (bits : List Bool), rowGet rest2 bad2 (n * lowW n last + n + last / 2 ^ lowW n last) = (rest3, bad3, bits) ∧ rest' = rest3 ∧
        ((bad3 ≠ 0 ∧ bad' = bad3 ∧ ls = []) ∨ (bad3 = 0 ∧ bad' = 0 ∧ SeqOk bits n last ls) ∨ (bad3 = 0 ∧ bad' = 3 ∧ ls = [] ∧ ¬ ∃ ms, SeqOk bits n last ms)))))
theorem SeqG.one {rest r1 r2 : List UInt8} {bad b1 b2 : Nat} {l1 l2 : List Nat} (h : SeqG rest bad r1 b1 l1) (g : SeqG rest bad r2 b2 l2) : r1 = r2 ∧ b1 = b2 ∧ l1 = l2 := by
  rcases h with ⟨h0, rfl, rfl, rfl⟩ | ⟨h0, n, rest1, bad1, hu, hn, h⟩ <;> rcases g with ⟨g0, rfl, rfl, rfl⟩ | ⟨g0, n', rest1', bad1', gu, gn, g⟩
  · exact ⟨rfl, rfl, rfl⟩
  · exact absurd g0 h0
  · exact absurd h0 g0
  rw [hu] at gu
  simp only [Prod.mk.injEq, Int.natCast_inj] at gu
  obtain ⟨rfl, rfl, rfl⟩ := gu
  rcases h with ⟨a1, rfl, rfl, rfl⟩ | ⟨a1, a2, rfl, rfl, rfl⟩ | ⟨a1, a2, last, rest2, bad2, hv, hl, rest3, bad3, bits, hr, rfl, h⟩ <;>
    rcases g with ⟨c1, rfl, rfl, rfl⟩ | ⟨c1, c2, rfl, rfl, rfl⟩ | ⟨c1, c2, last', rest2', bad2', gv, gl, rest3', bad3', bits', gr, rfl, g⟩
  all_goals first | exact ⟨rfl, rfl, rfl⟩ | (exfalso; omega) | skip
  rw [hv] at gv
  simp only [Prod.mk.injEq, Int.natCast_inj] at gv
  obtain ⟨rfl, rfl, rfl⟩ := gv
  rw [hr] at gr
  simp only [Prod.mk.injEq] at gr
  obtain ⟨rfl, rfl, rfl⟩ := gr
  rcases h with ⟨b1, rfl, rfl⟩ | ⟨b1, rfl, h⟩ | ⟨b1, rfl, rfl, h⟩ <;> rcases g with ⟨d1, rfl, rfl⟩ | ⟨d1, rfl, g⟩ | ⟨d1, rfl, rfl, g⟩
  all_goals first | exact ⟨rfl, rfl, rfl⟩ | (exfalso; omega) | exact ⟨rfl, rfl, h.one a2 g⟩ | exact absurd ⟨_, h⟩ g | exact absurd ⟨_, g⟩ h
end Go.VC
