/- Sequences as Elias and Fano told: made. -/
import Derived.Test.YtomajpihimlcjaaDoorPa
import Derived.Test.YtomajpihimlcjaaDoorLa
import Derived.Test.YtomajpihimlcjaaDoorBE
namespace Go.VC
open Go
theorem or_i64 {m n : Nat} (hm : m < 9223372036854775808) (hn : n < 9223372036854775808) : bOr .i64 (m : Int) (n : Int) = ((m ||| n : Nat) : Int) := by
  unfold bOr
  rw [BitVec.toNat_or, bits_of, bits_of]
  simp only [IntKind.bits, Nat.reducePow, Nat.mod_eq_of_lt (show m < 18446744073709551616 by omega), Nat.mod_eq_of_lt (show n < 18446744073709551616 by omega)]
  have : m ||| n < 2 ^ 63 := Nat.or_lt_two_pow (by omega) (by omega)
  exact w64 ⟨by omega, by omega⟩
theorem shr_i64 {m k : Nat} (hk : k ≤ 63) : shR .i64 (m : Int) (k : Int) = ((m / 2 ^ k : Nat) : Int) := by
  unfold shR
  simp only [Int.toNat_natCast, IntKind.bits]
  rw [Nat.min_eq_left (by omega), Int.fdiv_eq_ediv_of_nonneg _ (by exact Int.pow_nonneg (by omega))]
  push_cast; rfl
theorem shl_i64 {m k : Nat} (hk : k ≤ 63) (h : m * 2 ^ k < 9223372036854775808) : shL .i64 (m : Int) (k : Int) = ((m * 2 ^ k : Nat) : Int) := by
  unfold shL
  simp only [Int.toNat_natCast, IntKind.bits]
  rw [Nat.min_eq_left (by omega)]
  have e : (m : Int) * 2 ^ k = ((m * 2 ^ k : Nat) : Int) := by push_cast; rfl
  rw [e]
  exact w64 ⟨by omega, by omega⟩
theorem lowb_one : lowb 1 1 = [true] := by decide
theorem rep_add (a b : Nat) : List.replicate a false ++ List.replicate b false = List.replicate (a + b) false := by
  rw [List.replicate_append_replicate]
/-- The last number, or -1. -/
def lastZ (l : List Nat) : Int := if l.length = 0 then -1 else (wg l (l.length - 1) : Int)
def eW (l : List Nat) : Nat := lowW l.length (lastZ l)
/-- The upper bits of a sequence. -/
abbrev hiB (l : List Nat) : List Bool := hb (upl l (eW l)) l.length
theorem wg_le {l : List Nat} (h : GoodL l) (i : Nat) : wg l i ≤ 1099511627776 := by
  by_cases g : i < l.length
  · exact h.2 _ (by unfold wg; rw [List.getElem?_eq_getElem g]; exact List.getElem_mem g)
  · unfold wg; rw [List.getElem?_eq_none (by omega)]; decide
theorem eW_le {l : List Nat} (h : GoodL l) : eW l ≤ 63 := by
  unfold eW lastZ
  split
  · unfold lowW; rw [if_pos (by omega)]; omega
  · exact lowW_le (by have := wg_le h (l.length - 1); omega)
theorem upl_lt {l : List Nat} (h : GoodL l) {i : Nat} (hi : i < l.length) : upl l (eW l) i < 2 * l.length := by
  have h1 := wg_le h (l.length - 1)
  have h2 := lowW_up (n := l.length) (last := wg l (l.length - 1)) (by omega) (by omega)
  have h3 := upl_mono h (eW l) i (l.length - 1) (by omega) (by omega)
  have e : eW l = lowW l.length (wg l (l.length - 1) : Nat) := by unfold eW lastZ; rw [if_neg (by omega)]
  rw [← e] at h2
  unfold upl at h3 ⊢
  omega
theorem prv_lt {l : List Nat} (h : GoodL l) {m : Nat} (hm : m ≤ l.length) : prv (upl l (eW l)) m ≤ 2 * l.length := by
  unfold prv
  split
  · omega
  · have := upl_lt h (show m - 1 < l.length by omega); omega
theorem hiB_len {l : List Nat} (h : GoodL l) : (hiB l).length ≤ 3 * l.length := by
  have h1 := hb_len (upl_mono h (eW l))
  have h2 := prv_lt h (Nat.le_refl l.length)
  unfold hiB; omega
variable {S : Nat → Prop} {w w' : World} {l : Slc} {zs : List Int}
theorem RdZ.at (h : RdZ w l zs) {i : Int} (h0 : 0 ≤ i) (h1 : i < l.len) : ∃ a, l.a = some a ∧ w.cell? (Addr.add a (i.toNat * 1)) = some (.int .i64 (wz zs i.toNat)) := by
  have hl := h.len
  obtain ⟨a, ha, hc⟩ := h.rd i.toNat (by rw [List.length_map]; omega)
  refine ⟨a, ha, ?_⟩
  rw [Nat.mul_one, hc]
  unfold wz
  rw [List.getElem?_map, List.getElem?_eq_getElem (by omega)]
  rfl
theorem RdZ.kp (h : RdZ w l zs) (g : Kp S w w') (hn : ∀ k, On l k → ¬ S k) : RdZ w' l zs := ⟨h.len, h.rd.kp g hn, h.lo⟩
theorem RdZ.kpo (h : RdZ w l zs) (g : Kp no w w') : RdZ w' l zs := h.kp g (fun _ _ f => f)
theorem wz_bounds (h : RdZ w l zs) (i : Nat) : -9223372036854775808 ≤ wz zs i ∧ wz zs i ≤ 9223372036854775807 := by
  unfold wz
  by_cases g : i < zs.length
  · rw [List.getElem?_eq_getElem g]; exact h.lo _ (List.getElem_mem g)
  · rw [List.getElem?_eq_none (by omega)]; decide
end Go.VC

namespace Go.Proofs.YtomajpihimlcjaaDoor.V
open Go Go.VC
variable {w w' w0 : World} {l lr lw : Slc} {bits : List Bool} {ls xs : List Nat} {zs : List Int} {s hi r B W n : Nat}

/-- A sequence, its blocks from B on. -/
def SeqB (w : World) (s : Nat) (ls : List Nat) (B : Nat) : Prop :=
  ∃ lo hi rk pl : Nat, Blk w s [.int .i64 (ls.length : Int), .int .i64 (lastZ ls), .int .i64 (eW ls : Int), .pointer (some ⟨lo, 0, none⟩), .pointer (some ⟨hi, 0, none⟩), .pointer (some ⟨rk, 0, none⟩), .pointer (some ⟨pl, 0, none⟩)] 121 ∧
    PackB w lo (eW ls) (ls.map (· % 2 ^ eW ls)) B ∧ RowB w hi (hiB ls) B ∧ DirB w rk (hiB ls) B ∧ SelB w pl (hiB ls) B ∧ GoodL ls ∧ B ≤ s
theorem SeqB.kp {S : Nat → Prop} (h : SeqB w s ls B) (g : Kp S w w') (hn : ∀ k, B ≤ k → ¬ S k) : SeqB w' s ls B := by
  obtain ⟨lo, hi, rk, pl, h1, h2, h3, h4, h5, h6, h7⟩ := h
  exact ⟨lo, hi, rk, pl, h1.kp g (hn _ h7), h2.kp g hn, h3.kp g (fun k h _ => hn k h), h4.kp g hn, h5.kp g hn, h6, h7⟩
theorem SeqB.kpo (h : SeqB w s ls B) (g : Kp no w w') : SeqB w' s ls B := h.kp g (fun _ _ f => f)
theorem SeqB.good (h : SeqB w s ls B) : GoodL ls := by obtain ⟨_, _, _, _, _, _, _, _, _, h6, _⟩ := h; exact h6

theorem PackB.low {p wd B' : Nat} (h : PackB w p wd xs B) (hB : B' ≤ B) : PackB w p wd xs B' := by
  obtain ⟨r, h1, ⟨lr, h2, h3⟩, h4, h5, h6⟩ := h
  exact ⟨r, h1, ⟨lr, h2, fun k hk => Nat.le_trans hB (h3 k hk)⟩, h4, h5, by omega⟩
theorem DirB.low {d B' : Nat} (h : DirB w d bits B) (hB : B' ≤ B) : DirB w d bits B' := by
  obtain ⟨a, b, c, h1, h2⟩ := h
  exact ⟨a, b, c, h1, fun k hk => Nat.le_trans hB (h2 k hk)⟩
theorem SelB.low {d B' : Nat} (h : SelB w d bits B) (hB : B' ≤ B) : SelB w d bits B' := by
  obtain ⟨d, lw, lo, lz, so, sz, h⟩ := h
  exact ⟨d, lw, lo, lz, so, sz, h.blk, h.words, h.dir.low hB, h.ro, h.rz, h.io, h.iz, by have := h.fr.1; omega, fun k hk => Nat.le_trans hB (h.fr.2.1 k hk), fun k hk => Nat.le_trans hB (h.fr.2.2.1 k hk), fun k hk => Nat.le_trans hB (h.fr.2.2.2 k hk)⟩

theorem eLow (w : World) (n last : Int) (hn : n ≤ 9223372036854775807) (hl : last ≤ 9223372036854775807) : Is 99 #[.int .i64 n, .int .i64 last] w (.int .i64 (lowW n last)) := by
  refine c99 _ _ _ _ ?_
  unfold B99
  refine br_dec (fun h1 => ⟨?_, rfl⟩) (fun h1 => br_dec (fun h2 => ⟨?_, rfl⟩) (fun h2 => ⟨by omega, ?_⟩))
  · unfold lowW; rw [if_pos (.inl h1)]; rfl
  · unfold lowW; rw [if_pos (.inr h2)]; rfl
  · obtain ⟨n, rfl⟩ : ∃ j : Nat, n = j := ⟨n.toNat, by omega⟩
    obtain ⟨m, rfl⟩ : ∃ j : Nat, last = j := ⟨last.toNat, by omega⟩
    have hd : m / n ≤ m := Nat.div_le_self _ _
    have e : Int.tdiv (m : Int) (n : Int) = ((m / n : Nat) : Int) := by rw [Int.tdiv_eq_ediv_of_nonneg (by omega), Int.natCast_ediv]
    rw [e]
    have ew : ∀ q : Nat, q ≤ m → IntKind.u64.wrap (IntKind.i64.wrap (q : Int)) = (q : Int) := fun q hq => by rw [w64 ⟨by omega, by omega⟩, wu64 ⟨by omega, by omega⟩]
    rw [ew _ hd]
    have hq : m / n < 18446744073709551616 := by omega
    have hq0 : m / n ≠ 0 := by have := (Nat.one_le_div_iff (show 0 < n by omega)).2 (show n ≤ m by omega); omega
    obtain ⟨g1, _⟩ := bl_ge hq0 hq
    have g2 : Lib.bitLen (m / n) ≤ 64 := bl_le (by simpa using hq) hq
    refine usei (width _ _ hq) ⟨_, rfl, ?_, rfl⟩
    rw [w64 ⟨by omega, by omega⟩]
    unfold lowW
    rw [if_neg (by omega), show ((m : Int) / (n : Int)).toNat = m / n by rw [← Int.natCast_ediv, Int.toNat_natCast]]
    congr 1
    omega

theorem eCheck (h : RdZ w l zs) (hsz : zs.length ≤ 1000000000) : Calls Tryd.prog 98 #[.slice l.a l.len l.cap] w (Rv fun v w' => w' = w ∧ ∃ e : Int, v = .int .i64 e ∧ WrongP zs e) := by
  refine c98 _ _ _ ?_
  unfold B98
  have hl := h.len
  refine ⟨fun i w' => w' = w ∧ ∃ m : Nat, i = m ∧ m ≤ zs.length ∧ ∀ j, j < m → okE zs j, fun i _ => (l.len - i).toNat, ⟨rfl, 0, rfl, by omega, fun j hj => by omega⟩, ?_⟩
  rintro i w1 ⟨rfl, m, rfl, hm, hok⟩
  refine br_dec (fun hlt => ?_) (fun hlt => ⟨rfl, 0, rfl, .inl ⟨rfl, fun j hj => hok j (by omega)⟩⟩)
  obtain ⟨a, ha, hc⟩ := h.at (i := (m : Int)) (by omega) hlt
  rw [Int.toNat_natCast] at hc
  refine ⟨by omega, hlt, a, ha, _, by rw [Int.toNat_natCast]; exact hc, ?_⟩
  have bad : ∀ e : Int, ((e = 8 ∧ outE (wz zs m)) ∨ (e = 9 ∧ ¬ outE (wz zs m) ∧ 0 < m ∧ wz zs m < wz zs (m - 1))) → WrongP zs e := fun e he => .inr ⟨m, by omega, hok, he⟩
  rw [w64 (x := (m : Int) + 1) ⟨by omega, by omega⟩]
  refine br_dec (fun h1 => ⟨rfl, 8, rfl, bad 8 (.inl ⟨rfl, .inl h1⟩)⟩) (fun h1 => br_dec (fun h2 => ⟨rfl, 8, rfl, bad 8 (.inl ⟨rfl, .inr h2⟩)⟩) (fun h2 => ?_))
  have hno : ¬ outE (wz zs m) := by unfold outE; omega
  have stp : ¬ (0 < m ∧ wz zs m < wz zs (m - 1)) → (fun i w' => w' = w1 ∧ ∃ m : Nat, i = (m : Int) ∧ m ≤ zs.length ∧ ∀ j, j < m → okE zs j) ((m : Int) + 1) w1 ∧ (fun (i : Int) (_ : World) => (l.len - i).toNat) ((m : Int) + 1) w1 < (fun (i : Int) (_ : World) => (l.len - i).toNat) (m : Int) w1 := fun hh =>
    ⟨⟨rfl, m + 1, by omega, by omega, fun j hj => by
      by_cases e : j = m
      · subst e; exact ⟨hno, hh⟩
      · exact hok j (by omega)⟩, by dsimp only; omega⟩
  refine br_dec (fun h3 => ?_) (fun h3 => stp (by omega))
  have e1 : IntKind.i64.wrap ((m : Int) - 1) = ((m - 1 : Nat) : Int) := by rw [w64 ⟨by omega, by omega⟩]; omega
  rw [e1]
  obtain ⟨a2, ha2, hc2⟩ := h.at (i := ((m - 1 : Nat) : Int)) (by omega) (by omega)
  rw [Int.toNat_natCast] at hc2
  exact ⟨by omega, by omega, a2, ha2, _, by rw [Int.toNat_natCast]; exact hc2, br_dec (fun h4 => ⟨rfl, 9, rfl, bad 9 (.inr ⟨rfl, hno, by omega, h4⟩)⟩) (fun h4 => stp (fun hh => h4 hh.2))⟩

/-- A sequence under way. -/
structure Est (w0 : World) (s hi : Nat) (lr lw : Slc) (n : Nat) (last : Int) (W : Nat) (w : World) (bits : List Bool) (xs : List Nat) : Prop where
  blk : Blk w s [.int .i64 (n : Int), .int .i64 last, .int .i64 (W : Int), .pointer none, .pointer (some ⟨hi, 0, none⟩), .pointer none, .pointer none] 121
  row : Row w hi lr bits
  own : Ownd w lw 22 1 (xs.map U)
  f1 : ∀ k, RF hi lr k → w0.heap.size ≤ k ∧ k ≠ s ∧ ¬ On lw k
  f2 : ¬ On lw s
  f3 : ∀ k, On lw k → w0.heap.size ≤ k
  kp : Kp no w0 w
  fs : w0.heap.size ≤ s

theorem Est.add {last : Int} (h : Est w0 s hi lr lw n last W w bits xs) (hsz : bits.length ≤ 549755813888) {x m : Nat} (hm : m ≤ 64) (hx : x < 2 ^ m) (h64 : x < 18446744073709551616) :
    Calls Tryd.prog 22 #[.pointer (some ⟨hi, 0, none⟩), .int .u64 x, .int .i64 m] w (Rv fun v w' => v = .int .i64 0 ∧ ∃ lr2, Est w0 s hi lr2 lw n last W w' (bits ++ lowb x m) xs) := by
  refine use (add1 h.row hsz x h64 m) ?_
  rintro _ w2 ⟨o, rfl, r2, k2, f2⟩
  rw [addS_ok hm hx h64] at r2 ⊢
  have hsx := h.blk.lt
  have hks := h.kp.size
  refine ⟨rfl, o, h.blk.kp k2 (fun hk => (h.f1 s hk).2.1 rfl), r2, h.own.kp k2 (fun k h1 h2 => (h.f1 k h2).2.2 h1), fun k hk => ?_, h.f2, h.f3, h.kp.trans k2 (fun k h1 h2 => by have := (h.f1 k h2).1; omega), h.fs⟩
  rcases hk with rfl | hk
  · exact h.f1 _ (.inl rfl)
  · rcases f2 k hk with g | g
    · exact h.f1 k (.inr g)
    · exact ⟨by omega, by omega, fun hh => by have := h.own.on hh; omega⟩

theorem Est.add' {last : Int} (h : Est w0 s hi lr lw n last W w bits xs) (hsz : bits.length ≤ 549755813888) {x m : Nat} {xi mi : Int} (hxi : xi = (x : Int)) (hmi : mi = (m : Int)) (hm : m ≤ 64) (hx : x < 2 ^ m) (h64 : x < 18446744073709551616) :
    Calls Tryd.prog 22 #[.pointer (some ⟨hi, 0, none⟩), .int .u64 xi, .int .i64 mi] w (Rv fun v w' => v = .int .i64 0 ∧ ∃ lr2, Est w0 s hi lr2 lw n last W w' (bits ++ lowb x m) xs) := by
  subst hxi hmi; exact h.add hsz hm hx h64
theorem Est.put {last : Int} (h : Est w0 s hi lr lw n last W w bits xs) {k : Nat} (hk : k < xs.length) (x : Nat) :
    ∃ a, lw.a = some a ∧ (∃ u, w.cell? (Addr.add a (((k : Nat) : Int).toNat * 1)) = some u) ∧ w.frozen? (Addr.add a (((k : Nat) : Int).toNat * 1)) = false ∧
      Est w0 s hi lr lw n last W (w.setCell (Addr.add a (((k : Nat) : Int).toNat * 1)) (U x)) bits (xs.set k x) := by
  obtain ⟨a, ha, hc, hf, hset⟩ := h.own.at (i := k) (by rw [List.length_map]; exact hk)
  rw [Int.toNat_natCast, Nat.mul_one]
  have hon : On lw a.block := ⟨a, ha, rfl⟩
  refine ⟨a, ha, ⟨_, hc⟩, hf, h.blk.set_other _ _ (by rw [add_block]; exact fun e => h.f2 (e ▸ hon)), ?_, ?_, h.f1, h.f2, h.f3, h.kp.set _ _ (fun q => by rw [add_block] at q; have := h.f3 _ hon; omega), h.fs⟩
  · exact h.row.kp ((Kp.refl (fun k => k = a.block) w).set (Addr.add a k) (U x) (fun _ => by rw [add_block])) (fun k hk e => (h.f1 k hk).2.2 (by subst e; exact hon))
  · have := hset (U x)
    rw [← List.map_set] at this
    exact this

def ETail (l : Slc) (s : Nat) (W : World) (R : Value → World → Prop) : Prop :=
  ∃ n11 : Int, W.cell? (Addr.add ⟨s, 0, none⟩ 0) = some (.int .i64 n11) ∧
    ∃ n12 : Int, W.cell? (Addr.add ⟨s, 0, none⟩ 1) = some (.int .i64 n12) ∧
    Calls Tryd.prog 99 #[.int .i64 n11, .int .i64 n12] W (Rv fun v13 w14 =>
    ∃ n15 : Int, v13 = .int .i64 n15 ∧ (∃ u, w14.cell? (Addr.add ⟨s, 0, none⟩ 2) = some u) ∧ w14.frozen? (Addr.add ⟨s, 0, none⟩ 2) = false ∧
    ∃ w16 : World, ∃ l17 : Slc, (Instr.makeSlice 29 (.int .i64 (l.len : Int)) (.int .i64 (l.len : Int))).run Tryd.prog (w14.setCell (Addr.add ⟨s, 0, none⟩ 2) (.int .i64 n15)) = .ok (.slice l17.a l17.len l17.cap) w16 ∧
    ∃ (I18 : Int → Int → World → Prop) (μ19 : Int → Int → World → Nat), I18 (0 : Int) (0 : Int) w16 ∧ ∀ x20 : Int, ∀ x21 : Int, ∀ w22 : World, I18 x20 x21 w22 →
    br (decide (x21 < (l.len : Int))) (0 ≤ x21 ∧ x21 < (l.len : Int) ∧ ∃ a23, l.a = some a23 ∧
    ∃ n24 : Int, w22.cell? (Addr.add a23 (x21.toNat * 1)) = some (.int .i64 n24) ∧
    ∃ n25 : Int, w22.cell? (Addr.add ⟨s, 0, none⟩ 2) = some (.int .i64 n25) ∧ Calls Tryd.prog 88 #[.int .i64 n25] w22 (Rv fun v26 w27 =>
    ∃ n28 : Int, v26 = .int .u64 n28 ∧ 0 ≤ x21 ∧ x21 < (l17.len : Int) ∧ ∃ a29, l17.a = some a29 ∧ (∃ u, w27.cell? (Addr.add a29 (x21.toNat * 1)) = some u) ∧
    w27.frozen? (Addr.add a29 (x21.toNat * 1)) = false ∧
    ∃ n30 : Int, (w27.setCell (Addr.add a29 (x21.toNat * 1)) (.int .u64 (bAnd .u64 (IntKind.u64.wrap n24) n28))).cell? (Addr.add ⟨s, 0, none⟩ 2) = some (.int .i64 n30) ∧
    0 ≤ (IntKind.u64.wrap n30) ∧ ∃ (I31 : Int → World → Prop) (μ32 : Int → World →
    Nat), I31 (IntKind.i64.wrap ((shR .i64 n24 (IntKind.u64.wrap n30)) - x20)) (w27.setCell (Addr.add a29 (x21.toNat * 1)) (.int .u64 (bAnd .u64 (IntKind.u64.wrap n24) n28))) ∧
    ∀ x33 : Int, ∀ w34 : World, I31 x33 w34 →
    br (decide ((64 : Int) ≤ x33)) (∃ p35 : Option Addr, w34.cell? (Addr.add ⟨s, 0, none⟩ 4) = some (.pointer p35) ∧
    Calls Tryd.prog 22 #[.pointer p35, .int .u64 0, .int .i64 64] w34 (Rv fun v36 w37 => ∃ n38 : Int, v36 = .int .i64 n38 ∧ I31 (IntKind.i64.wrap (x33 - 64)) w37 ∧
    μ32 (IntKind.i64.wrap (x33 - 64)) w37 < μ32 x33 w34)) (∃ p39 : Option Addr, w34.cell? (Addr.add ⟨s, 0, none⟩ 4) = some (.pointer p39) ∧
    Calls Tryd.prog 22 #[.pointer p39, .int .u64 0, .int .i64 x33] w34 (Rv fun v40 w41 => ∃ n42 : Int, v40 = .int .i64 n42 ∧
    ∃ p43 : Option Addr, w41.cell? (Addr.add ⟨s, 0, none⟩ 4) = some (.pointer p43) ∧
    Calls Tryd.prog 22 #[.pointer p43, .int .u64 1, .int .i64 1] w41 (Rv fun v44 w45 => ∃ n46 : Int, v44 = .int .i64 n46 ∧
    I18 (IntKind.i64.wrap (x20 + (IntKind.i64.wrap ((shR .i64 n24 (IntKind.u64.wrap n30)) - x20)))) (IntKind.i64.wrap (x21 + 1)) w45 ∧
    μ19 (IntKind.i64.wrap (x20 + (IntKind.i64.wrap ((shR .i64 n24 (IntKind.u64.wrap n30)) - x20)))) (IntKind.i64.wrap (x21 + 1)) w45 < μ19 x20 x21 w22))))) (∃ n47 : Int, w22.cell? (Addr.add ⟨s, 0, none⟩ 2) = some (.int .i64 n47) ∧
    Calls Tryd.prog 100 #[.int .i64 n47, .slice l17.a l17.len l17.cap] w22 (Rv fun v48 w49 =>
    ∃ p50 : Option Addr, ∃ n51 : Int, v48 = .tuple #[.pointer p50, .int .i64 n51] ∧ (∃ u, w49.cell? (Addr.add ⟨s, 0, none⟩ 3) = some u) ∧
    w49.frozen? (Addr.add ⟨s, 0, none⟩ 3) = false ∧
    ∃ p52 : Option Addr, (w49.setCell (Addr.add ⟨s, 0, none⟩ 3) (.pointer p50)).cell? (Addr.add ⟨s, 0, none⟩ 4) = some (.pointer p52) ∧
    Calls Tryd.prog 84 #[.pointer p52] (w49.setCell (Addr.add ⟨s, 0, none⟩ 3) (.pointer p50)) (Rv fun v53 w54 => ∃ p55 : Option Addr, v53 = .pointer p55 ∧
    (∃ u, w54.cell? (Addr.add ⟨s, 0, none⟩ 5) = some u) ∧ w54.frozen? (Addr.add ⟨s, 0, none⟩ 5) = false ∧
    ∃ p56 : Option Addr, (w54.setCell (Addr.add ⟨s, 0, none⟩ 5) (.pointer p55)).cell? (Addr.add ⟨s, 0, none⟩ 4) = some (.pointer p56) ∧
    Calls Tryd.prog 19 #[.pointer p56] (w54.setCell (Addr.add ⟨s, 0, none⟩ 5) (.pointer p55)) (Rv fun v57 w58 => ∃ p59 : Option Addr, v57 = .pointer p59 ∧
    (∃ u, w58.cell? (Addr.add ⟨s, 0, none⟩ 6) = some u) ∧ w58.frozen? (Addr.add ⟨s, 0, none⟩ 6) = false ∧
    R (.tuple #[.pointer (some ⟨s, 0, none⟩), .int .i64 0]) (w58.setCell (Addr.add ⟨s, 0, none⟩ 6) (.pointer p59)))))))

/-- The lower parts of the first m numbers, the rest zero. -/
def lowTo (ls : List Nat) (W m : Nat) : List Nat := (List.range ls.length).map fun j => if j < m then wg ls j % 2 ^ W else 0
theorem lowTo_zero (ls : List Nat) (W : Nat) : lowTo ls W 0 = List.replicate ls.length 0 := by
  unfold lowTo; apply List.ext_getElem <;> simp
theorem lowTo_end (ls : List Nat) (W : Nat) : lowTo ls W ls.length = ls.map (· % 2 ^ W) := by
  unfold lowTo
  apply List.ext_getElem
  · simp
  · intro j h1 h2
    simp only [List.getElem_map, List.getElem_range]
    simp at h1
    rw [if_pos h1]; unfold wg; rw [List.getElem?_eq_getElem h1]; rfl
theorem lowTo_set (ls : List Nat) (W m : Nat) : (lowTo ls W m).set m (wg ls m % 2 ^ W) = lowTo ls W (m + 1) := by
  unfold lowTo
  apply List.ext_getElem
  · simp
  · intro j h1 h2
    rw [List.getElem_set]
    simp only [List.getElem_map, List.getElem_range]
    by_cases e : m = j
    · subst e; simp
    · rw [if_neg e]
      by_cases g : j < m
      · rw [if_pos g, if_pos (by omega)]
      · rw [if_neg g, if_neg (by omega)]
theorem lowTo_len (ls : List Nat) (W m : Nat) : (lowTo ls W m).length = ls.length := by simp [lowTo]

theorem und64 : Tryd.prog.underlying 29 = some (.slice 22) := by kernel_rfl

set_option maxHeartbeats 1000000 in
theorem eTail {l : Slc} (h : RdZ w0 l (zl ls)) (hg : GoodL ls) (hsz : ls.length ≤ 100000000) (hb0 : Blk w s [.int .i64 (ls.length : Int), .int .i64 (lastZ ls), .int .i64 0, .pointer none, .pointer (some ⟨hi, 0, none⟩), .pointer none, .pointer none] 121)
    (hr : Row w hi lr []) (hf : ∀ k, RF hi lr k → w0.heap.size ≤ k ∧ k ≠ s) (k0 : Kp no w0 w) (hs : w0.heap.size ≤ s) {R : Value → World → Prop}
    (hR : ∀ w', SeqB w' s ls w0.heap.size → Kp no w0 w' → R (.tuple #[.pointer (some ⟨s, 0, none⟩), .int .i64 0]) w') : ETail l s w R := by
  unfold ETail
  have hl := h.len
  rw [zl_len] at hl
  have hsl := hb0.lt
  have hW : eW ls = lowW ls.length (lastZ ls) := rfl
  have hWl := eW_le hg
  have hlast : lastZ ls ≤ 1099511627776 := by
    unfold lastZ
    split
    · omega
    · have := wg_le hg (ls.length - 1); omega
  refine ⟨_, hb0.cell 0, _, hb0.cell 1, usei (eLow w _ _ (by omega) (by omega)) ⟨_, rfl, ⟨_, hb0.cell 2⟩, hb0.frozen 2, ?_⟩⟩
  rw [← hW]
  have hb1 := hb0.set 2 (.int .i64 (eW ls : Int))
  have kS : ∀ (W1 : World) (c : Nat) (v : Value), Kp (fun k => k = s) W1 (W1.setCell (Addr.add ⟨s, 0, none⟩ c) v) := fun W1 c v => (Kp.refl _ _).set _ _ (fun _ => by rw [add_block])
  have k1 := kS w 2 (.int .i64 (eW ls : Int))
  have r1 := hr.kp k1 (fun k hk => (hf k hk).2)
  have k01 : Kp no w0 (w.setCell (Addr.add ⟨s, 0, none⟩ 2) (.int .i64 (eW ls : Int))) := k0.trans k1 (fun k h1 h2 => by omega)
  have hsz1 : (w.setCell (Addr.add ⟨s, 0, none⟩ 2) (.int .i64 (eW ls : Int))).heap.size = w.heap.size := World.size_setCell _ _ _
  have hcp : IntKind.u64.wrap (eW ls : Int) = ((eW ls : Nat) : Int) := wu64 ⟨by omega, by omega⟩
  have hcl : clampW (eW ls : Int) = eW ls := by unfold clampW; omega
  generalize w.setCell (Addr.add ⟨s, 0, none⟩ 2) (.int .i64 (eW ls : Int)) = w1 at *
  obtain ⟨w2, lw, hr2, hl2, hO2, k2, f2⟩ := make_own (z := .int .u64 0) (bytes := 8) und64 (by kernel_rfl) (by kernel_rfl) rfl w1 l.len (by omega) (by omega)
  have hu := upl_mono hg (eW ls)
  have E0 : Est w0 s hi lr lw ls.length (lastZ ls) (eW ls) w2 (hb (upl ls (eW ls)) 0) (lowTo ls (eW ls) 0) := by
    refine ⟨hb1.kp k2 id, r1.kp k2 (fun _ _ f => f), ?_, fun k hk => ⟨(hf k hk).1, (hf k hk).2, fun hh => ?_⟩, fun hh => ?_, fun k hk => ?_, k01.t k2, hs⟩
    · rw [lowTo_zero, hl, List.map_replicate]; exact hO2
    · have := f2 k hh; have := hr.lt hk; omega
    · have := f2 s hh; omega
    · have := f2 k hk; have := k01.size; omega
  have hgz : ∀ m, m ≤ ls.length → prv (upl ls (eW ls)) m ≤ 2 * ls.length := fun m hm => prv_lt hg hm
  refine ⟨w2, lw, hr2, fun up i w' => ∃ (m : Nat) (lr : Slc), i = m ∧ m ≤ ls.length ∧ up = (prv (upl ls (eW ls)) m : Nat) ∧ Est w0 s hi lr lw ls.length (lastZ ls) (eW ls) w' (hb (upl ls (eW ls)) m) (lowTo ls (eW ls) m), fun _ i _ => (l.len - i).toNat,
    ⟨0, lr, rfl, by omega, rfl, E0⟩, ?_⟩
  rintro up i w3 ⟨m, lr, rfl, hm, rfl, E⟩
  refine br_dec (fun hlt => ?_) (fun hlt => ?_)
  · have hmn : m < ls.length := by omega
    obtain ⟨a, ha, hc⟩ := (h.kpo E.kp).at (i := (m : Int)) (by omega) hlt
    rw [Int.toNat_natCast, wz_zl] at hc
    have hv := wg_le hg m
    refine ⟨by omega, hlt, a, ha, _, by rw [Int.toNat_natCast]; exact hc, _, E.blk.cell 2, usei (mask w3 _) ⟨_, rfl, by omega, by rw [hl2]; exact hlt, ?_⟩⟩
    rw [hcl, wu64 (x := ((wg ls m : Nat) : Int)) ⟨by omega, by omega⟩, low _ _ (by omega) (by omega)]
    obtain ⟨a2, ha2, hu2, hf2, E2⟩ := E.put (k := m) (by rw [lowTo_len]; exact hmn) (wg ls m % 2 ^ eW ls)
    rw [lowTo_set] at E2
    refine ⟨a2, ha2, hu2, hf2, _, E2.blk.cell 2, by rw [hcp]; omega, ?_⟩
    rw [hcp, shr_i64 hWl]
    have hpl := prv_le hu hmn
    have hu1 := upl_lt hg hmn
    have hpm := hgz m hm
    have eg : IntKind.i64.wrap (((wg ls m / 2 ^ eW ls : Nat) : Int) - ((prv (upl ls (eW ls)) m : Nat) : Int)) = ((upl ls (eW ls) m - prv (upl ls (eW ls)) m : Nat) : Int) := by
      show IntKind.i64.wrap (((upl ls (eW ls) m : Nat) : Int) - _) = _
      rw [w64 ⟨by omega, by omega⟩]; omega
    rw [eg]
    have hbl := hb_len (hu.le hm)
    generalize hgg : upl ls (eW ls) m - prv (upl ls (eW ls)) m = g at *
    generalize w3.setCell (Addr.add a2 (((m : Nat) : Int).toNat * 1)) (U (wg ls m % 2 ^ eW ls)) = w4 at *
    refine ⟨fun x w' => ∃ (j : Nat) (lr : Slc), x = ((g - 64 * j : Nat) : Int) ∧ 64 * j ≤ g ∧ Est w0 s hi lr lw ls.length (lastZ ls) (eW ls) w' (hb (upl ls (eW ls)) m ++ List.replicate (64 * j) false) (lowTo ls (eW ls) (m + 1)), fun x _ => x.toNat,
      ⟨0, lr, by omega, by omega, by simpa using E2⟩, ?_⟩
    rintro x w5 ⟨j, lr, rfl, hj, E5⟩
    have hlb : (hb (upl ls (eW ls)) m ++ List.replicate (64 * j) false).length ≤ 549755813888 := by rw [List.length_append, List.length_replicate, hbl]; omega
    refine br_dec (fun h64 => ⟨_, E5.blk.cell 4, ?_⟩) (fun h64 => ⟨_, E5.blk.cell 4, ?_⟩)
    · refine use (E5.add' hlb (x := 0) (m := 64) (xi := 0) (mi := 64) rfl rfl (by omega) (by omega) (by omega)) ?_
      rintro _ w6 ⟨rfl, lr2, E6⟩
      refine ⟨_, rfl, ?_⟩
      rw [w64 ⟨by omega, by omega⟩]
      refine ⟨⟨j + 1, lr2, by omega, by omega, ?_⟩, by dsimp only; omega⟩
      rw [lowb_zero, List.append_assoc, rep_add, show 64 * j + 64 = 64 * (j + 1) by omega] at E6
      exact E6
    · refine use (E5.add' hlb (x := 0) (m := g - 64 * j) (xi := 0) (mi := ((g - 64 * j : Nat) : Int)) rfl rfl (by omega) (Nat.two_pow_pos _) (by omega)) ?_
      rintro _ w6 ⟨rfl, lr2, E6⟩
      rw [lowb_zero, List.append_assoc, rep_add, show 64 * j + (g - 64 * j) = g by omega] at E6
      refine ⟨_, rfl, _, E6.blk.cell 4, use (E6.add' (by rw [List.length_append, List.length_replicate, hbl]; omega) (x := 1) (m := 1) (xi := 1) (mi := 1) rfl rfl (by omega) (by omega) (by omega)) ?_⟩
      rintro _ w7 ⟨rfl, lr3, E7⟩
      refine ⟨_, rfl, ?_⟩
      have e1 : IntKind.i64.wrap (((prv (upl ls (eW ls)) m : Nat) : Int) + ((g : Nat) : Int)) = ((prv (upl ls (eW ls)) (m + 1) : Nat) : Int) := by rw [prv_succ, w64 ⟨by omega, by omega⟩]; omega
      rw [e1, w64 (x := (m : Int) + 1) ⟨by omega, by omega⟩]
      refine ⟨⟨m + 1, lr3, by omega, by omega, rfl, ?_⟩, by dsimp only; omega⟩
      have e2 : hb (upl ls (eW ls)) (m + 1) = hb (upl ls (eW ls)) m ++ List.replicate g false ++ lowb 1 1 := by
        show hb (upl ls (eW ls)) m ++ zrun (upl ls (eW ls) m - prv (upl ls (eW ls)) m) = _
        rw [hgg, lowb_one, List.append_assoc]; rfl
      rw [e2]; exact E7
  · have hme : m = ls.length := by omega
    subst hme
    have hbl : (hb (upl ls (eW ls)) ls.length).length ≤ 3 * ls.length := hiB_len hg
    rw [lowTo_end] at E
    have hlows : ∀ x ∈ ls.map (· % 2 ^ eW ls), x < 2 ^ eW ls := fun x hx => by
      obtain ⟨y, _, rfl⟩ := List.mem_map.1 hx
      exact Nat.mod_lt _ (Nat.two_pow_pos _)
    have hl64 : ∀ x ∈ ls.map (· % 2 ^ eW ls), x < 18446744073709551616 := fun x hx => Nat.lt_of_lt_of_le (hlows x hx) (by
      have : (2 : Nat) ^ eW ls ≤ 2 ^ 64 := Nat.pow_le_pow_right (by omega) (by omega)
      simpa using this)
    have hrw := E.own.rdW hl64
    have hfit := (maxN_fits (wd := eW ls) hl64).2 hlows
    refine ⟨_, E.blk.cell 2, use (pNew hrw (by rw [List.length_map]; omega) (eW ls : Int)) ?_⟩
    rintro _ w4 ⟨k4, hv⟩
    rcases hv with ⟨_, hx⟩ | ⟨_, _, _, hx⟩ | ⟨p, rfl, _, _, _, hp⟩
    · omega
    · omega
    rw [Int.toNat_natCast] at hp
    have b4 := E.blk.kp k4 id
    have hs3 := E.blk.lt
    have hs4 := k4.size
    refine ⟨_, _, rfl, ⟨_, b4.cell 3⟩, b4.frozen 3, ?_⟩
    have k45 := kS w4 3 (.pointer (some ⟨p, 0, none⟩))
    have b5 := b4.set 3 (.pointer (some ⟨p, 0, none⟩))
    have z5 : (w4.setCell (Addr.add ⟨s, 0, none⟩ 3) (.pointer (some ⟨p, 0, none⟩))).heap.size = w4.heap.size := World.size_setCell _ _ _
    generalize w4.setCell (Addr.add ⟨s, 0, none⟩ 3) (.pointer (some ⟨p, 0, none⟩)) = w5 at *
    have r5 := (E.row.kp k4 (fun _ _ f => f)).kp k45 (fun k hk => (E.f1 k hk).2.1)
    refine ⟨_, b5.cell 4, use (rNewB (B := 0) ⟨_, r5, fun _ _ => Nat.zero_le _⟩ (by omega)) ?_⟩
    rintro _ w6 ⟨d, rfl, hd, k56⟩
    have b6 := b5.kp k56 id
    have hs5 := k56.size
    refine ⟨_, rfl, ⟨_, b6.cell 5⟩, b6.frozen 5, ?_⟩
    have k67 := kS w6 5 (.pointer (some ⟨d, 0, none⟩))
    have b7 := b6.set 5 (.pointer (some ⟨d, 0, none⟩))
    have z7 : (w6.setCell (Addr.add ⟨s, 0, none⟩ 5) (.pointer (some ⟨d, 0, none⟩))).heap.size = w6.heap.size := World.size_setCell _ _ _
    generalize w6.setCell (Addr.add ⟨s, 0, none⟩ 5) (.pointer (some ⟨d, 0, none⟩)) = w7 at *
    have r7 := (r5.kp k56 (fun _ _ f => f)).kp k67 (fun k hk => (E.f1 k hk).2.1)
    refine ⟨_, b7.cell 4, use (sNew (B := 0) ⟨_, r7, fun _ _ => Nat.zero_le _⟩ (by omega)) ?_⟩
    rintro _ w8 ⟨pl, rfl, hpl, k78⟩
    have b8 := b7.kp k78 id
    have hs7 := k78.size
    refine ⟨_, rfl, ⟨_, b8.cell 6⟩, b8.frozen 6, ?_⟩
    have k89 := kS w8 6 (.pointer (some ⟨pl, 0, none⟩))
    have b9 := b8.set 6 (.pointer (some ⟨pl, 0, none⟩))
    generalize w8.setCell (Addr.add ⟨s, 0, none⟩ 6) (.pointer (some ⟨pl, 0, none⟩)) = w9 at *
    have r9 := (r7.kp k78 (fun _ _ f => f)).kp k89 (fun k hk => (E.f1 k hk).2.1)
    have K79 : Kp (fun k => k = s) w7 w9 := (k78.mono (S' := fun k => k = s) (fun _ _ f => f.elim)).trans k89 (fun _ _ h => h)
    have K69 : Kp (fun k => k = s) w6 w9 := k67.trans K79 (fun _ _ h => h)
    have K49 : Kp (fun k => k = s) w4 w9 := k45.trans ((k56.mono (S' := fun k => k = s) (fun _ _ f => f.elim)).trans K69 (fun _ _ h => h)) (fun _ _ h => h)
    have hk3 := E.kp.size
    refine hR w9 ⟨p, hi, d, pl, b9, (hp.kp K49 (fun k h1 h2 => by omega)).low (by omega), ⟨_, r9, fun k hk => (E.f1 k hk).1⟩, (hd.kp K69 (fun k h1 h2 => by omega)).low (by omega), (hpl.kp k89 (fun k h1 h2 => by omega)).low (by omega), hg, hs⟩ ?_
    exact (E.kp.t k4).trans K49 (fun k h1 h2 => by omega)

theorem eNew (h : RdZ w l zs) (hsz : zs.length ≤ 100000000) : Calls Tryd.prog 29 #[.slice l.a l.len l.cap] w (Rv fun v w' => Kp no w w' ∧
    ((∃ e : Int, v = .tuple #[.pointer none, .int .i64 e] ∧ e ≠ 0 ∧ WrongP zs e) ∨ (∃ s ls, v = .tuple #[.pointer (some ⟨s, 0, none⟩), .int .i64 0] ∧ zs = zl ls ∧ SeqB w' s ls w.heap.size))) := by
  refine c29 _ _ _ ?_
  unfold B29
  have hl := h.len
  refine use (eCheck h (by omega)) ?_
  rintro _ w' ⟨hw, e, rfl, he⟩
  obtain rfl : w = w' := hw.symm
  refine ⟨e, rfl, br_not (br_dec (fun h0 => ?_) (fun h0 => ⟨Kp.refl _ _, .inl ⟨e, rfl, h0, he⟩⟩))⟩
  subst h0
  have hok : ∀ i, i < zs.length → okE zs i := by
    rcases he with ⟨_, he⟩ | ⟨a, _, _, he | he⟩
    · exact he
    · omega
    · omega
  obtain ⟨ls, rfl, hg⟩ := good_of hok
  rw [zl_len] at hl hsz
  refine use (new _) ?_
  rintro _ w1 ⟨rfl, hr, k1⟩
  refine ⟨_, rfl, ?_⟩
  have hl' : l.len = ls.length := by omega
  have hfr : ∀ k, RF w.heap.size ⟨none, 0, 0⟩ k → w.heap.size ≤ k ∧ k ≠ w1.heap.size := fun k hk => by
    have h2 := hr.lt hk
    refine ⟨?_, by omega⟩
    rcases hk with rfl | ⟨a, ha, _⟩
    · exact Nat.le_refl _
    · cases ha
  have hb2 := Blk.new w1 [.int .i64 (l.len : Int), .int .i64 (-1), .int .i64 0, .pointer none, .pointer (some ⟨w.heap.size, 0, none⟩), .pointer none, .pointer none] 121
  have k2 : Kp no w1 (w1.alloc (.cells #[.int .i64 (l.len : Int), .int .i64 (-1), .int .i64 0, .pointer none, .pointer (some ⟨w.heap.size, 0, none⟩), .pointer none, .pointer none] 121)) := (Kp.refl _ _).alloc _ _
  have hs1 := k1.size
  have fin : ∀ w', SeqB w' w1.heap.size ls w.heap.size → Kp no w w' → Kp no w w' ∧ ((∃ e : Int, (Value.tuple #[.pointer (some ⟨w1.heap.size, 0, none⟩), .int .i64 0]) = .tuple #[.pointer none, .int .i64 e] ∧ e ≠ 0 ∧ WrongP (zl ls) e) ∨ (∃ s ls', (Value.tuple #[.pointer (some ⟨w1.heap.size, 0, none⟩), .int .i64 0]) = .tuple #[.pointer (some ⟨s, 0, none⟩), .int .i64 0] ∧ zl ls = zl ls' ∧ SeqB w' s ls' w.heap.size)) := fun w' h1 h2 => ⟨h2, .inr ⟨_, _, rfl, rfl, h1⟩⟩
  have hfe : ∀ k, RF w.heap.size ⟨none, 0, 0⟩ k → ¬ k = w1.heap.size := fun k hk => (hfr k hk).2
  have r2 := hr.kp k2 (fun _ _ f => f)
  generalize hsE : w1.heap.size = s at *
  generalize w1.alloc (.cells #[.int .i64 (l.len : Int), .int .i64 (-1), .int .i64 0, .pointer none, .pointer (some ⟨w.heap.size, 0, none⟩), .pointer none, .pointer none] 121) = w2 at *
  refine ⟨_, hb2.cell 0, br_dec (fun hpos => ?_) (fun hpos => ?_)⟩
  · have e1 : IntKind.i64.wrap ((l.len : Int) - 1) = ((ls.length - 1 : Nat) : Int) := by rw [w64 ⟨by omega, by omega⟩]; omega
    refine ⟨_, hb2.cell 0, ?_⟩
    rw [e1]
    obtain ⟨a, ha, hc⟩ := (h.kpo (k1.t k2)).at (i := ((ls.length - 1 : Nat) : Int)) (by omega) (by omega)
    rw [Int.toNat_natCast, wz_zl] at hc
    refine ⟨by omega, by omega, a, ha, _, by rw [Int.toNat_natCast]; exact hc, ⟨_, hb2.cell 1⟩, hb2.frozen 1, ?_⟩
    have b3 := hb2.set 1 (.int .i64 ((wg ls (ls.length - 1) : Nat) : Int))
    have k3 : Kp (fun k => k = s) w2 (w2.setCell (Addr.add ⟨s, 0, none⟩ 1) (.int .i64 ((wg ls (ls.length - 1) : Nat) : Int))) := (Kp.refl _ _).set _ _ (fun _ => by rw [add_block])
    have e3 : lastZ ls = ((wg ls (ls.length - 1) : Nat) : Int) := by unfold lastZ; rw [if_neg (by omega)]
    have key := eTail (w := World.drew (w2.setCell (Addr.add ⟨s, 0, none⟩ 1) (.int .i64 ((wg ls (ls.length - 1) : Nat) : Int)))) (s := s) h hg hsz (by rw [e3]; have q := b3.drew; rw [hl'] at q; exact q) ((r2.kp k3 hfe).kp (Kp.refl no _).drew (fun _ _ f => f)) hfr (((k1.t k2).trans k3 (fun k h1 h2 => by omega)).drew) (by omega) (R := fun v w' => Kp no w w' ∧ ((∃ e : Int, v = .tuple #[.pointer none, .int .i64 e] ∧ e ≠ 0 ∧ WrongP (zl ls) e) ∨ (∃ s ls', v = .tuple #[.pointer (some ⟨s, 0, none⟩), .int .i64 0] ∧ zl ls = zl ls' ∧ SeqB w' s ls' w.heap.size))) fin
    unfold ETail at key
    exact key
  · have e3 : lastZ ls = -1 := by unfold lastZ; rw [if_pos (by omega)]
    have key := eTail (w := World.drew w2) (s := s) h hg hsz (by rw [e3]; have q := hb2.drew; rw [hl'] at q; exact q) (r2.kp (Kp.refl no _).drew (fun _ _ f => f)) hfr (k1.t k2).drew (by omega) (R := fun v w' => Kp no w w' ∧ ((∃ e : Int, v = .tuple #[.pointer none, .int .i64 e] ∧ e ≠ 0 ∧ WrongP (zl ls) e) ∨ (∃ s ls', v = .tuple #[.pointer (some ⟨s, 0, none⟩), .int .i64 0] ∧ zl ls = zl ls' ∧ SeqB w' s ls' w.heap.size))) fin
    unfold ETail at key
    exact key
end Go.Proofs.YtomajpihimlcjaaDoor.V
