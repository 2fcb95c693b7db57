/- Numbers cut into parts: what is kept of a part, and what is asked of a sequence. -/
import Derived.Test.YtmpgklgjmkcpdaaPg
import Derived.Test.YtmpgklgjmkcpdaaSh
import Derived.Test.YtmpgklgjmkcpdaaBH
namespace Go.Proofs.Ytmpgklgjmkcpdaa.V
open Go Go.VC
variable {w w' w0 : World} {l : Slc} {ls : List Nat} {zs : List Int} {s q B n k : Nat} {v : Value}

theorem callM_use {nm : String} {u : Value} {args : List Value} {R Q : Value → World → Prop} (h : CallM Try.prog G nm u args w R) (g : ∀ v w', R v w' → Q v w') : CallM Try.prog G nm u args w Q := by
  obtain ⟨t, v, f, r, h1, h2, h3, h4⟩ := h
  exact ⟨t, v, f, r, h1, h2, h3, use h4 g⟩

/-- What is kept of a part. -/
def PieceV (w : World) (v : Value) (ls : List Nat) (k B : Nat) : Prop :=
  (shRun ls k ∧ v = .iface 121 (.agg #[.int .i64 (shC ls k : Int)])) ∨ (¬ shRun ls k ∧ shAlike ls k ∧ v = .iface 122 (.agg #[.int .i64 (shC ls k : Int)])) ∨
    (¬ shRun ls k ∧ ¬ shAlike ls k ∧ ∃ s, v = .iface 124 (.agg #[.pointer (some ⟨s, 0, none⟩)]) ∧ SeqB w s (shP ls k) B)
theorem SeqB.low {B' : Nat} (h : SeqB w s ls B) (hB : B' ≤ B) : SeqB w s ls B' := by
  obtain ⟨lo, hi, rk, pl, h1, h2, ⟨lr, h3, h3'⟩, h4, h5, h6, h7⟩ := h
  exact ⟨lo, hi, rk, pl, h1, h2.low hB, ⟨lr, h3, fun k hk => Nat.le_trans hB (h3' k hk)⟩, h4.low hB, h5.low hB, h6, Nat.le_trans hB h7⟩
theorem PieceV.kp {S : Nat → Prop} (h : PieceV w v ls k B) (g : Kp S w w') (hn : ∀ k, B ≤ k → ¬ S k) : PieceV w' v ls k B := by
  rcases h with h | h | ⟨h1, h2, s, h3, h4⟩
  · exact .inl h
  · exact .inr (.inl h)
  · exact .inr (.inr ⟨h1, h2, s, h3, h4.kp g hn⟩)
theorem PieceV.low {B' : Nat} (h : PieceV w v ls k B) (hB : B' ≤ B) : PieceV w v ls k B' := by
  rcases h with h | h | ⟨h1, h2, s, h3, h4⟩
  · exact .inl h
  · exact .inr (.inl h)
  · exact .inr (.inr ⟨h1, h2, s, h3, h4.low hB⟩)

theorem shC_le (ls : List Nat) (k : Nat) : shC ls k ≤ 32 := by unfold shC; omega
theorem piece_at (h : PieceV w v ls k B) {i : Nat} (hi : i < shC ls k) : CallM Try.prog G "locution/shard.at" v [.int .i64 (i : Int)] w (fun u w' => u = .int .i64 (wg (shP ls k) i : Nat) ∧ Kp no w w') := by
  have hc := shC_le ls k
  rcases h with ⟨hr, rfl⟩ | ⟨_, hr, rfl⟩ | ⟨_, _, s, rfl, hs⟩
  · refine ⟨_, _, 152, .agg #[.int .i64 (shC ls k : Int)], rfl, by kernel_rfl, by decide +kernel, c152 _ _ _ _ ?_⟩
    exact ⟨by rw [hr i hi], (Kp.refl _ _).alloc _ _⟩
  · refine ⟨_, _, 156, .agg #[.int .i64 (shC ls k : Int)], rfl, by kernel_rfl, by decide +kernel, c156 _ _ _ _ ?_⟩
    exact ⟨by rw [hr i hi]; rfl, (Kp.refl _ _).alloc _ _⟩
  · refine ⟨_, _, 160, .agg #[.pointer (some ⟨s, 0, none⟩)], rfl, by kernel_rfl, by decide +kernel, c160 _ _ _ _ ?_⟩
    unfold B160
    have hb := Blk.new w [.pointer (some ⟨s, 0, none⟩)] 124
    have k0 : Kp no w (w.alloc (.cells #[.pointer (some ⟨s, 0, none⟩)] 124)) := (Kp.refl _ _).alloc _ _
    refine ⟨_, hb.cell 0, usek (eAt (hs.kpo k0) (by rw [shP_len]; omega) _) fun w1 k1 => ⟨_, rfl, ?_, k0.t k1⟩⟩
    rw [atZ_in (by rw [shP_len]; exact hi)]
theorem piece_next (h : PieceV w v ls k B) (hg : GoodL ls) {more : Int} (hm : 0 < more) : CallM Try.prog G "locution/shard.next" v [.int .i64 more] w (fun u w' => ∃ j : Nat, u = .int .i64 (j : Int) ∧ PieceP ls k more j ∧ Kp no w w') := by
  have hc := shC_le ls k
  rcases h with ⟨hr, rfl⟩ | ⟨_, hr, rfl⟩ | ⟨_, _, s, rfl, hs⟩
  · refine ⟨_, _, 155, .agg #[.int .i64 (shC ls k : Int)], rfl, by kernel_rfl, by decide +kernel, c155 _ _ _ _ ?_⟩
    have hb := Blk.new w [.int .i64 (shC ls k : Int)] 121
    exact ⟨_, hb.cell 0, (min more (shC ls k)).toNat, by rw [Int.toNat_of_nonneg (by omega)], piece_run hg hr hm, (Kp.refl _ _).alloc _ _⟩
  · refine ⟨_, _, 159, .agg #[.int .i64 (shC ls k : Int)], rfl, by kernel_rfl, by decide +kernel, c159 _ _ _ _ ?_⟩
    have hb := Blk.new w [.int .i64 (shC ls k : Int)] 122
    exact br_y hm ⟨_, hb.cell 0, shC ls k, rfl, piece_alike hg hr hm, (Kp.refl _ _).alloc _ _⟩
  · refine ⟨_, _, 163, .agg #[.pointer (some ⟨s, 0, none⟩)], rfl, by kernel_rfl, by decide +kernel, c163 _ _ _ _ ?_⟩
    unfold B163
    have hb := Blk.new w [.pointer (some ⟨s, 0, none⟩)] 124
    have k0 : Kp no w (w.alloc (.cells #[.pointer (some ⟨s, 0, none⟩)] 124)) := (Kp.refl _ _).alloc _ _
    refine ⟨_, hb.cell 0, use (eNext (hs.kpo k0) (by rw [shP_len]; omega) _) ?_⟩
    rintro _ w1 ⟨k1, r, rfl, hr⟩
    have hp := piece_other hg hr
    refine ⟨_, _, rfl, br_dec (fun h1 => ⟨_, (hb.kp k1 id).cell 0, usei (eLen ((hs.kpo k0).kpo k1)) ⟨_, rfl, shC ls k, by rw [shP_len], ?_, k0.t k1⟩⟩) (fun h1 => ⟨r.toNat, by rw [Int.toNat_of_nonneg (by omega)], ?_, k0.t k1⟩)⟩
    · rw [if_pos h1] at hp; exact hp
    · rw [if_neg h1] at hp; exact hp
theorem piece_kind (h : PieceV w v ls k B) : CallM Try.prog G "locution/shard.kind" v [] w (fun u w' => u = .int .i64 (shKind ls k : Nat) ∧ Kp no w w') := by
  rcases h with ⟨hr, rfl⟩ | ⟨h0, hr, rfl⟩ | ⟨h0, h1, s, rfl, hs⟩
  · refine ⟨_, _, 154, .agg #[.int .i64 (shC ls k : Int)], rfl, by kernel_rfl, by decide +kernel, c154 _ _ _ ⟨?_, (Kp.refl _ _).alloc _ _⟩⟩
    unfold shKind; rw [if_pos hr]; rfl
  · refine ⟨_, _, 158, .agg #[.int .i64 (shC ls k : Int)], rfl, by kernel_rfl, by decide +kernel, c158 _ _ _ ⟨?_, (Kp.refl _ _).alloc _ _⟩⟩
    unfold shKind; rw [if_neg h0, if_pos hr]; rfl
  · refine ⟨_, _, 162, .agg #[.pointer (some ⟨s, 0, none⟩)], rfl, by kernel_rfl, by decide +kernel, c162 _ _ _ ⟨?_, (Kp.refl _ _).alloc _ _⟩⟩
    unfold shKind; rw [if_neg h0, if_neg h1]; rfl
/-- How many bits a sequence has. -/
def szL (ls : List Nat) : Nat := ls.length * eW ls + (hiB ls).length
theorem szL_le {ls : List Nat} (hg : GoodL ls) : szL ls ≤ 66 * ls.length := by
  have h1 := eW_le hg
  have h2 := hiB_len hg
  have h3 : ls.length * eW ls ≤ ls.length * 63 := Nat.mul_le_mul_left _ h1
  unfold szL; omega
/-- How many bits the first parts have. -/
def shBits (ls : List Nat) : Nat → Nat
  | 0 => 0
  | m + 1 => shBits ls m + if shKind ls m = 2 then szL (shP ls m) else 0
theorem shBits_le {ls : List Nat} (hg : GoodL ls) (m : Nat) : shBits ls m ≤ 2112 * m := by
  induction m with
  | zero => simp [shBits]
  | succ m ih =>
    have h1 := szL_le (shP_good hg m)
    have h2 := shC_le ls m
    rw [shP_len] at h1
    simp only [shBits]
    split <;> omega
theorem piece_bits (h : PieceV w v ls k B) : CallM Try.prog G "locution/shard.bits" v [] w (fun u w' => u = .int .i64 ((if shKind ls k = 2 then szL (shP ls k) else 0 : Nat) : Int) ∧ Kp no w w') := by
  have hc := shC_le ls k
  rcases h with ⟨hr, rfl⟩ | ⟨h0, hr, rfl⟩ | ⟨h0, h1, s, rfl, hs⟩
  · refine ⟨_, _, 153, .agg #[.int .i64 (shC ls k : Int)], rfl, by kernel_rfl, by decide +kernel, c153 _ _ _ ⟨?_, (Kp.refl _ _).alloc _ _⟩⟩
    unfold shKind; rw [if_pos hr]; rfl
  · refine ⟨_, _, 157, .agg #[.int .i64 (shC ls k : Int)], rfl, by kernel_rfl, by decide +kernel, c157 _ _ _ ⟨?_, (Kp.refl _ _).alloc _ _⟩⟩
    unfold shKind; rw [if_neg h0, if_pos hr]; rfl
  · refine ⟨_, _, 161, .agg #[.pointer (some ⟨s, 0, none⟩)], rfl, by kernel_rfl, by decide +kernel, c161 _ _ _ ?_⟩
    unfold B161
    have hb := Blk.new w [.pointer (some ⟨s, 0, none⟩)] 124
    have k0 : Kp no w (w.alloc (.cells #[.pointer (some ⟨s, 0, none⟩)] 124)) := (Kp.refl _ _).alloc _ _
    refine ⟨_, hb.cell 0, usek (eSize (hs.kpo k0) (by rw [shP_len]; omega)) fun w1 k1 => ⟨_, rfl, ?_, k0.t k1⟩⟩
    unfold shKind; rw [if_neg h0, if_neg h1]; rfl

/-- A sequence cut into parts, its blocks from B on. -/
def ShardB (w : World) (q : Nat) (ls : List Nat) (B : Nat) : Prop :=
  ∃ (f : Nat) (ps : Slc) (vs : List Value), Blk w q [.pointer (some ⟨f, 0, none⟩), .slice ps.a ps.len ps.cap, .int .i64 (ls.length : Int)] 86 ∧ SeqB w f (shF ls) B ∧ Rd w ps vs ∧ vs.length = ps.len ∧ vs.length = shK ls ∧
    (∀ k v, vs[k]? = some v → PieceV w v ls k B) ∧ GoodL ls ∧ B ≤ q ∧ ∀ k, On ps k → B ≤ k
theorem ShardB.kp {S : Nat → Prop} (h : ShardB w q ls B) (g : Kp S w w') (hn : ∀ k, B ≤ k → ¬ S k) : ShardB w' q ls B := by
  obtain ⟨f, ps, vs, h1, h2, h3, h4, h5, h6, h7, h8, h9⟩ := h
  exact ⟨f, ps, vs, h1.kp g (hn _ h8), h2.kp g hn, h3.kp g (fun k hk => hn k (h9 k hk)), h4, h5, fun k v hv => (h6 k v hv).kp g hn, h7, h8, h9⟩
theorem ShardB.kpo (h : ShardB w q ls B) (g : Kp no w w') : ShardB w' q ls B := h.kp g (fun _ _ f => f)
theorem ShardB.good (h : ShardB w q ls B) : GoodL ls := by obtain ⟨_, _, _, _, _, _, _, _, _, h7, _⟩ := h; exact h7
theorem kp_cell {a : Addr} (h : w.cell? a = some v) (g : Kp no w w') : w'.cell? a = some v := by
  rw [World.cell?_of_block (w := w) (g.keep _ (cell_lt h) id), h]
theorem rd_piece {ps : Slc} {vs : List Value} (h3 : Rd w ps vs) (h5 : vs.length = shK ls) (h6 : ∀ k v, vs[k]? = some v → PieceV w v ls k B) (hk : k < shK ls) : ∃ a v, ps.a = some a ∧ w.cell? (Addr.add a ((k : Int).toNat * 1)) = some v ∧ PieceV w v ls k B := by
  obtain ⟨a, ha, hc⟩ := h3 k (by omega)
  rw [Int.toNat_natCast, Nat.mul_one]
  have e : vs[k]? = some (vs[k]'(by omega)) := List.getElem?_eq_getElem (by omega)
  exact ⟨a, _, ha, hc.trans e, h6 k _ e⟩

theorem dvLen (h : ShardB w q ls B) : Is 21 #[.pointer (some ⟨q, 0, none⟩)] w (.int .i64 ls.length) := by
  obtain ⟨f, ps, vs, hb, _⟩ := h
  exact c21 _ _ _ ⟨_, hb.cell 2, rfl, rfl⟩

theorem dvAt (h : ShardB w q ls B) (hsz : ls.length ≤ 100000000) (i : Int) : IsK 22 #[.pointer (some ⟨q, 0, none⟩), .int .i64 i] w (.int .i64 (atZ (zl ls) i)) := by
  obtain ⟨f, ps, vs, hb, hf, hr, hl, hk, hp, hg, hB, hon⟩ := h
  refine c22 _ _ _ _ ?_
  unfold B22
  refine br_dec (fun h1 => ⟨?_, Kp.refl _ _⟩) (fun h1 => ⟨_, hb.cell 2, br_dec (fun h2 => ⟨?_, Kp.refl _ _⟩) (fun h2 => ?_)⟩)
  · rw [atZ_out (by omega)]
  · rw [atZ_out (by rw [zl_len]; omega)]
  · obtain ⟨m, rfl⟩ : ∃ m : Nat, i = m := ⟨i.toNat, by omega⟩
    obtain ⟨g1, g2, g3⟩ := sh_at hg (show m < ls.length by omega)
    have hK : shK ls ≤ ls.length := by unfold shK; omega
    have e1 : IntKind.i64.wrap (Int.tdiv (m : Int) 32) = ((m / 32 : Nat) : Int) := by rw [Int.tdiv_eq_ediv_of_nonneg (by omega), w64 ⟨by omega, by omega⟩]; omega
    have e2 : Int.tmod (m : Int) 32 = ((m % 32 : Nat) : Int) := by rw [Int.tmod_eq_emod_of_nonneg (by omega)]; omega
    rw [e1, e2]
    have k0 : Kp no w w.drew := (Kp.refl no w).drew
    obtain ⟨a, v, ha, hc, hv⟩ := rd_piece hr hk hp g1
    have hwl : wg ls m ≤ 1099511627776 := wg_le hg m
    refine ⟨_, hb.drew.cell 0, by decide, ps, hb.drew.cell 1, by decide, by omega, by omega, a, ha, v, hc, by decide, usek (eAt (hf.kpo k0) (by rw [shF_len]; omega) _) fun w1 k1 => ?_⟩
    refine ⟨_, rfl, kp_cell (w := w.drew) hc k1, (hb.drew.kp k1 id).cell 1, callM_use (piece_at (hv.kp (k0.t k1) (fun _ _ f => f)) g2) ?_⟩
    rintro _ w2 ⟨rfl, k2⟩
    refine ⟨_, rfl, ?_, (k0.t k1).t k2⟩
    rw [atZ_in (by rw [shF_len]; exact g1), atZ_in (show m < ls.length by omega), w64 ⟨by omega, by omega⟩, g3]
    congr 1

/-- The end of 'Next': the part ahead of a part is asked. -/
def NTail (q : Nat) (x c lim n12 : Int) (w10 : World) (R : Value → World → Prop) : Prop :=
  ∃ p15 : Option Addr, w10.cell? (Addr.add ⟨q, 0, none⟩ 0) = some (.pointer p15) ∧
    Calls Try.prog 51 #[.pointer p15, .int .i64 c] w10 (Rv fun v16 w17 => ∃ n18 : Int, v16 = .int .i64 n18 ∧
    ∃ l19 : Slc, w17.cell? (Addr.add ⟨q, 0, none⟩ 1) = some (.slice l19.a l19.len l19.cap) ∧ 0 ≤ c ∧ c < (l19.len : Int) ∧ ∃ a20, l19.a = some a20 ∧
    ∃ v21 : Value, w17.cell? (Addr.add a20 (c.toNat * 1)) = some (v21) ∧
    CallM Try.prog G "locution/shard.next" (v21) [.int .i64 (IntKind.i64.wrap (x - n18))] w17 fun v22 w23 => ∃ n28 : Int, v22 = .int .i64 n28 ∧
    br (decide ((IntKind.i64.wrap ((IntKind.i64.wrap (c * 32)) + n28)) < lim)) (∃ l29 : Slc, w23.cell? (Addr.add ⟨q, 0, none⟩ 1) = some (.slice l29.a l29.len l29.cap) ∧
    0 ≤ c ∧ c < (l29.len : Int) ∧ ∃ a30, l29.a = some a30 ∧
    ∃ v31 : Value, w23.cell? (Addr.add a30 (c.toNat * 1)) = some (v31) ∧
    CallM Try.prog G "locution/shard.at" (v31) [.int .i64 n28] w23 fun v32 w33 => ∃ n38 : Int, v32 = .int .i64 n38 ∧
    R (.tuple #[.int .i64 (IntKind.i64.wrap ((IntKind.i64.wrap (c * 32)) + n28)), .int .i64 (IntKind.i64.wrap (n18 + n38))]) w33) (R (.tuple #[.int .i64 lim, .int .i64 n12]) w23))

theorem dvTail (kw : Kp no w0 w) (h : ShardB w q ls B) (hsz : ls.length ≤ 100000000) {z r : Int} (hn : 0 < ls.length) (hz : z ≤ wg ls (ls.length - 1)) (hr : NextIP (zl (shF ls)) z r) {kk i0 : Nat}
    (hkk : (r < 0 ∧ kk = shK ls ∧ i0 = ls.length) ∨ (r = kk ∧ i0 = 32 * kk)) (h0 : 0 < kk) {c lim n12 : Int} (hc : c = ((kk - 1 : Nat) : Int)) (hlim : lim = (i0 : Int)) (hfi : n12 = atZ (zl (shF ls)) r) :
    NTail q z c lim n12 w (fun v w' => Kp no w0 w' ∧ ∃ r : Int, v = .tuple #[.int .i64 r, .int .i64 (atZ (zl ls) r)] ∧ NextIP (zl ls) z r) := by
  obtain ⟨f, ps, vs, hb, hf, hrd, hl, hk, hp, hg, hB, hon⟩ := h
  unfold NTail
  have hK : shK ls ≤ ls.length := by unfold shK; omega
  have hpos : (wg ls (32 * (kk - 1)) : Int) < z ∧ kk ≤ shK ls := by
    rcases hr with ⟨rfl, hr⟩ | ⟨a, rfl, h1, h2, h3⟩
    · rcases hkk with ⟨_, rfl, _⟩ | ⟨e, _⟩
      · have := hr (shK ls - 1) (by rw [zl_len, shF_len]; omega)
        rw [wz_zl, shF_at (by omega)] at this
        exact ⟨this, Nat.le_refl _⟩
      · omega
    · rcases hkk with ⟨e, _⟩ | ⟨e, _⟩
      · omega
      · have : a = kk := by omega
        subst this
        rw [zl_len, shF_len] at h1
        have h4 := h3 (a - 1) (by omega)
        rw [wz_zl, shF_at (by omega)] at h4
        exact ⟨h4, by omega⟩
  obtain ⟨hp1, hp2⟩ := hpos
  have hlast := wg_le hg (ls.length - 1)
  obtain ⟨a, v, ha, hca, hv⟩ := rd_piece hrd hk hp (show kk - 1 < shK ls by omega)
  refine ⟨_, hb.cell 0, usek (eAt hf (by rw [shF_len]; omega) _) fun w1 k1 => ?_⟩
  have hF : atZ (zl (shF ls)) c = (wg ls (32 * (kk - 1)) : Int) := by rw [hc, atZ_in (by rw [shF_len]; omega), shF_at (by omega)]
  have b1 := hb.kp k1 id
  subst hc
  rw [hF]
  refine ⟨_, rfl, ps, b1.cell 1, by omega, by omega, a, ha, v, kp_cell hca k1, ?_⟩
  rw [w64 (x := z - _) ⟨by omega, by omega⟩]
  refine callM_use (piece_next (hv.kp k1 (fun _ _ f => f)) hg (by omega)) ?_
  rintro _ w2 ⟨j, rfl, hj, k2⟩
  obtain ⟨n1, n2, n3, n4⟩ := sh_next hg hn hz hr hkk h0 hj
  have b2 := b1.kp k2 id
  have hj1 := hj.1
  have hcl := shC_le ls (kk - 1)
  have e1 : IntKind.i64.wrap (((kk - 1 : Nat) : Int) * 32) = ((32 * (kk - 1) : Nat) : Int) := by rw [w64 ⟨by omega, by omega⟩]; omega
  refine ⟨_, rfl, ?_⟩
  rw [e1, w64 (x := ((32 * (kk - 1) : Nat) : Int) + (j : Int)) ⟨by omega, by omega⟩]
  refine br_dec (fun hlt => ?_) (fun hge => ?_)
  · obtain ⟨n5, n6⟩ := n3 (by omega)
    refine ⟨ps, b2.cell 1, by omega, by omega, a, ha, v, kp_cell hca (k1.t k2), callM_use (piece_at (hv.kp (k1.t k2) (fun _ _ f => f)) n5) ?_⟩
    rintro _ w3 ⟨rfl, k3⟩
    have hlt2 : 32 * (kk - 1) + j < ls.length := by unfold shC at n5; omega
    have hw := wg_le hg (32 * (kk - 1) + j)
    have hge := shP_ge hg n5
    refine ⟨_, rfl, kw.t ((k1.t k2).t k3), _, ?_, n6⟩
    rw [atZ_in hlt2, shP_at n5, w64 (x := (wg ls (32 * (kk - 1)) : Int) + _) ⟨by omega, by omega⟩]
    have e9 : ((wg ls (32 * (kk - 1)) : Nat) : Int) + ((wg ls (32 * (kk - 1) + j) - wg ls (32 * (kk - 1)) : Nat) : Int) = ((wg ls (32 * (kk - 1) + j) : Nat) : Int) := by omega
    rw [e9, Int.natCast_add]
  · obtain ⟨n5, n6⟩ := n4 (by omega)
    refine ⟨kw.t (k1.t k2), _, ?_, n6⟩
    have hi0 : i0 = 32 * kk := by omega
    have hkl : kk < shK ls := by
      rcases hr with ⟨e, _⟩ | ⟨b, e, g, _⟩
      · omega
      · rw [zl_len, shF_len] at g; omega
    have hil : 32 * kk < ls.length := by unfold shK at hkl; omega
    rw [hlim, hfi, n5, hi0, atZ_in (by rw [shF_len]; exact hkl), shF_at hkl, atZ_in hil]

theorem dvNext (h : ShardB w q ls B) (hsz : ls.length ≤ 100000000) (z : Int) : Calls Try.prog 17 #[.pointer (some ⟨q, 0, none⟩), .int .i64 z] w (Rv fun v w' => Kp no w w' ∧
    ∃ r : Int, v = .tuple #[.int .i64 r, .int .i64 (atZ (zl ls) r)] ∧ NextIP (zl ls) z r) := by
  have h0 := h
  obtain ⟨f, ps, vs, hb, hf, hrd, hl, hk, hp, hg, hB, hon⟩ := h
  refine c17 _ _ _ _ ?_
  unfold B17
  have none1 : atZ (zl ls) (-1) = -1 := atZ_out (by omega)
  have hK : shK ls ≤ ls.length := by unfold shK; omega
  refine usei (dvLen h0) ⟨_, rfl, br_dec (fun h1 => ⟨Kp.refl _ _, -1, by rw [none1], .inl ⟨rfl, fun i hi => by rw [zl_len] at hi; omega⟩⟩) (fun h1 => ⟨_, hb.cell 2, ?_⟩)⟩
  have hn : 0 < ls.length := by omega
  rw [w64 (x := (ls.length : Int) - 1) ⟨by omega, by omega⟩]
  refine usek (dvAt h0 hsz _) fun w1 k1 => ⟨_, rfl, ?_⟩
  rw [show ((ls.length : Int) - 1) = ((ls.length - 1 : Nat) : Int) by omega, atZ_in (by omega)]
  refine br_dec (fun h2 => ⟨k1, -1, by rw [none1], eg_none hg h2⟩) (fun h2 => ⟨_, (hb.kp k1 id).cell 0, use (eNext (hf.kpo k1) (by rw [shF_len]; omega) z) ?_⟩)
  rintro _ w2 ⟨k2, r, rfl, hr⟩
  have b2 := hb.kp (k1.t k2) id
  have hs2 := h0.kpo (k1.t k2)
  have hKp : 0 < shK ls := by unfold shK; omega
  refine ⟨_, _, rfl, br_dec (fun h3 => ⟨_, b2.cell 2, ps, b2.cell 1, br_y (by omega) ?_⟩) (fun h3 => br_dec (fun h4 => ?_) (fun h4 => ?_))⟩
  · have key := dvTail (k1.t k2) hs2 hsz hn (by omega) hr (kk := shK ls) (i0 := ls.length) (.inl ⟨h3, rfl, rfl⟩) hKp (c := IntKind.i64.wrap ((ps.len : Int) - 1)) (lim := (ls.length : Int)) (by rw [w64 ⟨by omega, by omega⟩]; omega) rfl rfl
    unfold NTail at key
    exact key
  · have hrb : r < shK ls := by
      rcases hr with ⟨e, _⟩ | ⟨b, e, g, _⟩
      · omega
      · rw [zl_len, shF_len] at g; omega
    have key := dvTail (k1.t k2) hs2 hsz hn (by omega) hr (kk := r.toNat) (i0 := 32 * r.toNat) (.inr ⟨by omega, rfl⟩) (by omega) (c := IntKind.i64.wrap (r - 1)) (lim := IntKind.i64.wrap (r * 32)) (by rw [w64 ⟨by omega, by omega⟩]; omega) (by rw [w64 ⟨by omega, by omega⟩]; omega) rfl
    unfold NTail at key
    exact key
  · obtain rfl : r = 0 := by omega
    refine ⟨k1.t k2, 0, ?_, sh_zero hr⟩
    rw [show atZ (zl (shF ls)) 0 = atZ (zl (shF ls)) ((0 : Nat) : Int) from rfl, show atZ (zl ls) 0 = atZ (zl ls) ((0 : Nat) : Int) from rfl, atZ_in (by rw [shF_len]; exact hKp), atZ_in hn, shF_at hKp]
    rfl

theorem dvSize (h : ShardB w q ls B) (hsz : ls.length ≤ 100000000) : IsK 23 #[.pointer (some ⟨q, 0, none⟩)] w (.int .i64 ((szL (shF ls) + shBits ls (shK ls) : Nat) : Int)) := by
  obtain ⟨f, ps, vs, hb, hf, hrd, hl, hk, hp, hg, hB, hon⟩ := h
  refine c23 _ _ _ ?_
  unfold B23
  have hK : shK ls ≤ ls.length := by unfold shK; omega
  have hb1 := szL_le (shF_good hg)
  rw [shF_len] at hb1
  refine ⟨_, hb.cell 0, usek (eSize hf (by rw [shF_len]; omega)) fun w1 k1 => ⟨_, rfl, ps, (hb.kp k1 id).cell 1, fun x i w' => Kp no w w' ∧ ∃ m : Nat, i = m ∧ m ≤ shK ls ∧ x = ((szL (shF ls) + shBits ls m : Nat) : Int), fun _ i _ => (ps.len - i).toNat,
    ⟨k1, 0, rfl, by omega, rfl⟩, ?_⟩⟩
  rintro x i w2 ⟨k2, m, rfl, hm, rfl⟩
  refine br_dec (fun hlt => ?_) (fun hlt => ⟨?_, k2⟩)
  · obtain ⟨a, v, ha, hca, hv⟩ := rd_piece hrd hk hp (show m < shK ls by omega)
    refine ⟨by omega, hlt, a, ha, v, kp_cell hca k2, callM_use (piece_bits (hv.kp k2 (fun _ _ f => f))) ?_⟩
    rintro _ w3 ⟨rfl, k3⟩
    have hb2 := shBits_le hg (m + 1)
    have hb3 : shBits ls (m + 1) = shBits ls m + if shKind ls m = 2 then szL (shP ls m) else 0 := rfl
    refine ⟨_, rfl, ⟨k2.t k3, m + 1, ?_, by omega, ?_⟩, ?_⟩
    · rw [w64 ⟨by omega, by omega⟩]; rfl
    · rw [w64 ⟨by omega, by omega⟩, hb3]; omega
    · rw [w64 (x := (m : Int) + 1) ⟨by omega, by omega⟩]; dsimp only; omega
  · obtain rfl : m = shK ls := by omega
    rfl

theorem cell3 {b : Nat} {c0 c1 c2 : Int} {T : TypeId} (h : Blk w b [.int .i64 c0, .int .i64 c1, .int .i64 c2] T) {i : Nat} (hi : i < 3) : ∃ c : Int, w.cell? (Addr.add ⟨b, 0, none⟩ i) = some (.int .i64 c) ∧ c = (if i = 0 then c0 else if i = 1 then c1 else c2) := by
  have : i = 0 ∨ i = 1 ∨ i = 2 := by omega
  rcases this with rfl | rfl | rfl
  · exact ⟨c0, h.cell 0, rfl⟩
  · exact ⟨c1, h.cell 1, rfl⟩
  · exact ⟨c2, h.cell 2, rfl⟩
/-- How many of the first parts have each kind, in cells. -/
def cnt3 (ls : List Nat) (m : Nat) : List Value := [.int .i64 (shCnt ls 0 m : Int), .int .i64 (shCnt ls 1 m : Int), .int .i64 (shCnt ls 2 m : Int)]
theorem cnt3_step {b : Nat} {T : TypeId} {m : Nat} (h : Blk w b (cnt3 ls m) T) (hm : m ≤ 100000000) : ∃ c : Int, w.cell? (Addr.add ⟨b, 0, none⟩ (((shKind ls m : Nat) : Int).toNat * 1)) = some (.int .i64 c) ∧
    Blk (w.setCell (Addr.add ⟨b, 0, none⟩ (((shKind ls m : Nat) : Int).toNat * 1)) (.int .i64 (IntKind.i64.wrap (c + 1)))) b (cnt3 ls (m + 1)) T := by
  have hk := shKind_le ls m
  have e : ∀ c, shCnt ls c m ≤ m := fun c => shCnt_le ls c m
  rw [Int.toNat_natCast, Nat.mul_one]
  obtain ⟨c, hc, hcc⟩ := cell3 h (show shKind ls m < 3 by omega)
  refine ⟨c, hc, ?_⟩
  have hs := h.set (shKind ls m) (.int .i64 (IntKind.i64.wrap (c + 1)))
  have e0 := e 0
  have e1 := e 1
  have e2 := e 2
  rw [w64 (x := c + 1) ⟨by split at hcc <;> (try split at hcc) <;> omega, by split at hcc <;> (try split at hcc) <;> omega⟩] at hs ⊢
  have he : (cnt3 ls m).set (shKind ls m) (.int .i64 (c + 1)) = cnt3 ls (m + 1) := by
    have : shKind ls m = 0 ∨ shKind ls m = 1 ∨ shKind ls m = 2 := by omega
    unfold cnt3
    rw [shCnt_succ, shCnt_succ, shCnt_succ]
    rcases this with g | g | g <;> simp [g] at hcc ⊢ <;> omega
  rw [he] at hs
  exact hs

/-- Three ints are copied and handed back. -/
theorem ret3 {A K : Nat} {T T' : TypeId} {x0 x1 x2 y0 y1 y2 : Int} {R : Value → World → Prop} (c0 : Blk w A [.int .i64 y0, .int .i64 y1, .int .i64 y2] T) (c1 : Blk w K [.int .i64 x0, .int .i64 x1, .int .i64 x2] T')
    (hR : ∀ w', Kp (fun k => k = A) w w' → R (.agg #[.int .i64 x0, .int .i64 x1, .int .i64 x2]) w') :
    ∃ n18 : Int, ∃ n19 : Int, ∃ n20 : Int, w.cell? (Addr.add ⟨K, 0, none⟩ 0) = some (.int .i64 n18) ∧ w.cell? (Addr.add ⟨K, 0, none⟩ 1) = some (.int .i64 n19) ∧ w.cell? (Addr.add ⟨K, 0, none⟩ 2) = some (.int .i64 n20) ∧
    (∃ u, w.cell? (Addr.add ⟨A, 0, none⟩ 0) = some u) ∧ w.frozen? (Addr.add ⟨A, 0, none⟩ 0) = false ∧
    (∃ u, (w.setCell (Addr.add ⟨A, 0, none⟩ 0) (.int .i64 n18)).cell? (Addr.add ⟨A, 0, none⟩ 1) = some u) ∧
    (w.setCell (Addr.add ⟨A, 0, none⟩ 0) (.int .i64 n18)).frozen? (Addr.add ⟨A, 0, none⟩ 1) = false ∧
    (∃ u, ((w.setCell (Addr.add ⟨A, 0, none⟩ 0) (.int .i64 n18)).setCell (Addr.add ⟨A, 0, none⟩ 1) (.int .i64 n19)).cell? (Addr.add ⟨A, 0, none⟩ 2) = some u) ∧
    ((w.setCell (Addr.add ⟨A, 0, none⟩ 0) (.int .i64 n18)).setCell (Addr.add ⟨A, 0, none⟩ 1) (.int .i64 n19)).frozen? (Addr.add ⟨A, 0, none⟩ 2) = false ∧
    ([] : List Nat).Nodup ∧ (∀ D, D ∈ ([] : List Nat) →
    (((w.setCell (Addr.add ⟨A, 0, none⟩ 0) (.int .i64 n18)).setCell (Addr.add ⟨A, 0, none⟩ 1) (.int .i64 n19)).setCell (Addr.add ⟨A, 0, none⟩ 2) (.int .i64 n20)).heap[D]? = some (.deferred (some []))) ∧
    ∀ w21 : World, Kp (fun k =>
    k ∈ ([] : List Nat)) (((w.setCell (Addr.add ⟨A, 0, none⟩ 0) (.int .i64 n18)).setCell (Addr.add ⟨A, 0, none⟩ 1) (.int .i64 n19)).setCell (Addr.add ⟨A, 0, none⟩ 2) (.int .i64 n20)) w21 →
    ∃ n22 : Int, ∃ n23 : Int, ∃ n24 : Int, w21.cell? (Addr.add ⟨A, 0, none⟩ 0) = some (.int .i64 n22) ∧
    w21.cell? (Addr.add ⟨A, 0, none⟩ 1) = some (.int .i64 n23) ∧ w21.cell? (Addr.add ⟨A, 0, none⟩ 2) = some (.int .i64 n24) ∧
    R (.agg #[.int .i64 n22, .int .i64 n23, .int .i64 n24]) w21 := by
  have s0 := c0.set 0 (.int .i64 x0)
  have s1 := s0.set 1 (.int .i64 x1)
  have s2 := s1.set 2 (.int .i64 x2)
  refine ⟨_, _, _, c1.cell 0, c1.cell 1, c1.cell 2, ⟨_, c0.cell 0⟩, c0.frozen 0, ⟨_, s0.cell 1⟩, s0.frozen 1, ⟨_, s1.cell 2⟩, s1.frozen 2, List.nodup_nil, (fun D hD => by cases hD), fun w3 k3 => ?_⟩
  have s3 := s2.kp k3 (fun h => by cases h)
  refine ⟨_, _, _, s3.cell 0, s3.cell 1, s3.cell 2, hR _ ?_⟩
  exact ((((Kp.refl (fun k => k = A) w).set _ _ (fun _ => by rw [add_block])).set _ _ (fun _ => by rw [add_block])).set _ _ (fun _ => by rw [add_block])).trans k3 (fun _ _ h => by cases h)

/-- Three counts, out of cells. -/
theorem dvKinds (h : ShardB w q ls B) (hsz : ls.length ≤ 100000000) : IsK 24 #[.pointer (some ⟨q, 0, none⟩)] w (.agg #[.int .i64 (shCnt ls 0 (shK ls) : Int), .int .i64 (shCnt ls 1 (shK ls) : Int), .int .i64 (shCnt ls 2 (shK ls) : Int)]) := by
  obtain ⟨f, ps, vs, hb, hf, hrd, hl, hk, hp, hg, hB, hon⟩ := h
  refine c24 _ _ _ ?_
  unfold B24
  have hK : shK ls ≤ ls.length := by unfold shK; omega
  have a0 := Blk.new w [.int .i64 0, .int .i64 0, .int .i64 0] 38
  have a1 := Blk.new (w.alloc (.cells #[.int .i64 0, .int .i64 0, .int .i64 0] 38)) [.int .i64 0, .int .i64 0, .int .i64 0] 38
  have b0 := a0.alloc (.cells #[.int .i64 0, .int .i64 0, .int .i64 0] 38)
  have z1 : (w.alloc (.cells #[.int .i64 0, .int .i64 0, .int .i64 0] 38)).heap.size = w.heap.size + 1 := World.size_alloc _ _
  have k0 : Kp no w ((w.alloc (.cells #[.int .i64 0, .int .i64 0, .int .i64 0] 38)).alloc (.cells #[.int .i64 0, .int .i64 0, .int .i64 0] 38)) := ((Kp.refl _ _).alloc _ _).alloc _ _
  clear a0
  rw [z1] at a1 ⊢
  generalize (w.alloc (.cells #[.int .i64 0, .int .i64 0, .int .i64 0] 38)).alloc (.cells #[.int .i64 0, .int .i64 0, .int .i64 0] 38) = w1 at *
  refine ⟨ps, (hb.kp k0 id).cell 1, fun i w' => Kp no w w' ∧ ∃ m : Nat, i = m ∧ m ≤ shK ls ∧ Blk w' w.heap.size [.int .i64 0, .int .i64 0, .int .i64 0] 38 ∧ Blk w' (w.heap.size + 1) (cnt3 ls m) 38, fun i _ => (ps.len - i).toNat,
    ⟨k0, 0, rfl, by omega, b0, a1⟩, ?_⟩
  rintro i w2 ⟨k2, m, rfl, hm, c0, c1⟩
  refine br_dec (fun hlt => ?_) (fun hlt => ?_)
  · obtain ⟨a, v, ha, hca, hv⟩ := rd_piece hrd hk hp (show m < shK ls by omega)
    refine ⟨by omega, hlt, a, ha, v, kp_cell hca k2, callM_use (piece_kind (hv.kp k2 (fun _ _ f => f))) ?_⟩
    rintro _ w3 ⟨rfl, k3⟩
    have d0 := c0.kp k3 id
    have d1 := c1.kp k3 id
    have hk2 := shKind_le ls m
    obtain ⟨c, hc, hn⟩ := cnt3_step d1 (by omega)
    refine ⟨_, rfl, by omega, by omega, _, rfl, c, hc, by omega, by omega, _, rfl, ⟨_, hc⟩, d1.frozen _, ⟨?_, m + 1, ?_, by omega, ?_, hn⟩, ?_⟩
    · exact (k2.t k3).set _ _ (fun q => by rw [add_block] at q; dsimp only at q; omega)
    · rw [w64 ⟨by omega, by omega⟩]; rfl
    · exact d0.set_other _ _ (by rw [add_block]; dsimp only; omega)
    · rw [w64 (x := (m : Int) + 1) ⟨by omega, by omega⟩]; dsimp only; omega
  · obtain rfl : m = shK ls := by omega
    exact ret3 (R := fun u w' => u = Value.agg #[.int .i64 (shCnt ls 0 (shK ls) : Int), .int .i64 (shCnt ls 1 (shK ls) : Int), .int .i64 (shCnt ls 2 (shK ls) : Int)] ∧ Kp no w w') c0 c1 fun w3 k3 => ⟨rfl, k2.trans k3 (fun k h1 h2 => by omega)⟩

theorem dvLenN (w : World) : Is 21 #[.pointer none] w (.int .i64 0) := c21n _ _ ⟨rfl, rfl⟩
theorem dvAtN (w : World) (i : Int) : Is 22 #[.pointer none, .int .i64 i] w (.int .i64 (-1)) := c22n _ _ _ ⟨rfl, rfl⟩
theorem dvNextN (w : World) (i : Int) : Is 17 #[.pointer none, .int .i64 i] w (.tuple #[.int .i64 (-1), .int .i64 (-1)]) := c17n _ _ _ (by unfold B17n; exact usei (dvLenN w) ⟨_, rfl, br_y rfl ⟨rfl, rfl⟩⟩)
theorem dvSizeN (w : World) : Is 23 #[.pointer none] w (.int .i64 0) := c23n _ _ ⟨rfl, rfl⟩
theorem dvKindsN (w : World) : IsK 24 #[.pointer none] w (.agg #[.int .i64 0, .int .i64 0, .int .i64 0]) := c24n _ _ (by
  unfold B24n
  have a0 := Blk.new w [.int .i64 0, .int .i64 0, .int .i64 0] 38
  have a1 := Blk.new (w.alloc (.cells #[.int .i64 0, .int .i64 0, .int .i64 0] 38)) [.int .i64 0, .int .i64 0, .int .i64 0] 38
  have b0 := a0.alloc (.cells #[.int .i64 0, .int .i64 0, .int .i64 0] 38)
  have k0 : Kp no w ((w.alloc (.cells #[.int .i64 0, .int .i64 0, .int .i64 0] 38)).alloc (.cells #[.int .i64 0, .int .i64 0, .int .i64 0] 38)) := ((Kp.refl _ _).alloc _ _).alloc _ _
  exact ret3 (R := fun u w' => u = Value.agg #[.int .i64 0, .int .i64 0, .int .i64 0] ∧ Kp no w w') b0 a1 fun w3 k3 => ⟨rfl, k0.trans k3 (fun k h1 h2 => by omega)⟩)
end Go.Proofs.Ytmpgklgjmkcpdaa.V
