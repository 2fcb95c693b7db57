/- Adding to a row; rows made of parts; the laws of the row chapter. -/
import Derived.Test.YtilccklocaeebaaRx
namespace Go.Proofs.Ytilccklocaeebaa.V
open Go Go.VC

theorem lt_of_bitLen : ∀ (k x : Nat), x < 18446744073709551616 → Lib.bitLen x ≤ k → x < 2 ^ k
  | 0, x, hx, h => by
    by_cases h0 : x = 0
    · subst h0; decide
    · have := Lib.bitLen_half x h0 (by simpa using hx); omega
  | k + 1, x, hx, h => by
    by_cases h0 : x = 0
    · subst h0; exact Nat.two_pow_pos _
    · have h1 := Lib.bitLen_half x h0 (by simpa using hx)
      have := lt_of_bitLen k (x / 2) (by omega) (by omega)
      rw [Nat.pow_succ]; omega

/-- What adding does to the bits, and the number that it answers. -/
def addS (bits : List Bool) (x : Nat) (n : Int) : Int × List Bool :=
  if n < 0 ∨ 64 < n then (1, bits) else if n < Lib.bitLen x then (8, bits) else (0, bits ++ lowb x n.toNat)

/-- A row under way: its words, its number of bits, and what it has left as it was since. -/
structure St (w0 : World) (r : Nat) (l : Slc) (N : Int) (w : World) (o : Slc) (ws : List Nat) : Prop where
  blk : Blk w r [.slice o.a o.len o.cap, .int .i64 N] 79
  own : Ownd w o 23 1 (ws.map U)
  ne : ¬ On o r
  kp : Kp (RF r l) w0 w
  fr : ∀ k, On o k → On l k ∨ w0.heap.size ≤ k
variable {w w' w0 : World} {l o : Slc} {bits : List Bool} {ws : List Nat} {r : Nat} {N : Int}

theorem St.drew (h : St w0 r l N w o ws) : St w0 r l N w.drew o ws := ⟨h.blk.drew, h.own.drew, h.ne, h.kp.drew, h.fr⟩
theorem St.olen (h : St w0 r l N w o ws) : ws.length = o.len := by have := h.own.len; simpa using this
theorem St.push (h : St w0 r l N w o ws) (y : Nat) (hb : ws.length ≤ 1099511627776) :
    ∃ w2 o2, (Builtin.append_ #[22, 22] 22 #[.slice o.a o.len o.cap, .slice (some ⟨w.heap.size, 0, none⟩) 1 1]).run Try.prog (w.alloc (.cells #[U y] 23)) = .ok (.slice o2.a o2.len o2.cap) w2 ∧
      (∃ u, w2.cell? (Addr.add ⟨r, 0, none⟩ 0) = some u) ∧ w2.frozen? (Addr.add ⟨r, 0, none⟩ 0) = false ∧ o2.len = o.len + 1 ∧
      St w0 r l N (w2.setCell (Addr.add ⟨r, 0, none⟩ 0) (.slice o2.a o2.len o2.cap)) o2 (ws ++ [y]) := by
  have hol := h.olen
  obtain ⟨w2, o2, hr2, ho2, hl2, hk2, hf2⟩ := append_one (ty := 22) elU h.own (U y) rfl (by simp only [maxLen]; omega) (by omega)
  have hb2 : Blk w2 r [.slice o.a o.len o.cap, .int .i64 N] 79 := h.blk.kp hk2 h.ne
  have hrl := h.blk.lt
  have hne : ¬ On o2 r := fun hk => by
    rcases hf2 r hk with g | g
    · exact h.ne g
    · omega
  refine ⟨w2, o2, hr2, ⟨_, hb2.cell 0⟩, hb2.frozen 0, hl2, ⟨hb2.set 0 _, ?_, hne, ?_, fun k hk => ?_⟩⟩
  · rw [map_snoc] at ho2
    exact ho2.set_other _ _ (by rw [add_block]; exact hne)
  · refine (h.kp.trans hk2 (fun k hk hkk => ?_)).set _ _ (fun _ => .inl (by rw [add_block]))
    rcases h.fr k hkk with g | g
    · exact .inr g
    · omega
  · have := h.kp.size
    rcases hf2 k hk with g | g
    · exact h.fr k g
    · exact .inr (by omega)

/-- The length of the slice in a row's first cell. -/
def len0 (r : Nat) (w : World) : Nat := match w.cell? (Addr.add ⟨r, 0, none⟩ 0) with
  | some (.slice _ n _) => n
  | _ => 0
theorem St.len0 (h : St w0 r l N w o ws) : len0 r w = o.len := by
  unfold V.len0
  rw [h.blk.cell 0]; rfl

theorem add1 (h : Row w r l bits) (hsz : bits.length ≤ 549755813888) (x : Nat) (hx : x < 18446744073709551616) (n : Int) :
    Calls Try.prog 23 #[.pointer (some ⟨r, 0, none⟩), .int .u64 x, .int .i64 n] w (Rv fun v w' => ∃ o, v = .int .i64 (addS bits x n).1 ∧ Row w' r o (addS bits x n).2 ∧
      Kp (RF r l) w w' ∧ ∀ k, On o k → On l k ∨ w.heap.size ≤ k) := by
  refine c23 _ _ _ _ _ ?_
  unfold B23
  have hl := h.len
  have hwl := length_wordsOf bits
  have keep : ∀ (c : Int), addS bits x n = (c, bits) → ∃ o, Value.int .i64 c = .int .i64 (addS bits x n).1 ∧ Row w r o (addS bits x n).2 ∧ Kp (RF r l) w w ∧ ∀ k, On o k → On l k ∨ w.heap.size ≤ k := fun c hc => by
    rw [hc]; exact ⟨l, rfl, h, Kp.refl _ _, fun k hk => .inl hk⟩
  refine br_dec (fun h0 => keep 1 ?_) (fun h0 => br_dec (fun h1 => keep 1 ?_) (fun h1 => usei (width w x hx) ⟨_, rfl, br_dec (fun h2 => keep 8 ?_) (fun h2 => ?_)⟩))
  · unfold addS; rw [if_pos (.inl h0)]
  · unfold addS; rw [if_pos (.inr h1)]
  · unfold addS; rw [if_neg (by omega), if_pos (by omega)]
  obtain ⟨m, rfl⟩ : ∃ m : Nat, n = m := ⟨n.toNat, by omega⟩
  have hS : addS bits x m = (0, bits ++ lowb x m) := by unfold addS; rw [if_neg (by omega), if_neg (by omega)]; rfl
  rw [hS]
  have hx2 : x < 2 ^ m := lt_of_bitLen m x hx (by omega)
  have hlen2 : (bits ++ lowb x m).length = bits.length + m := by simp [lowb]
  refine ⟨_, h.blk.cell 1, by omega, _, h.blk.cell 1, ⟨_, h.blk.cell 1⟩, h.blk.frozen 1, ?_⟩
  rw [Int.tmod_eq_emod_of_nonneg (by omega), w64 (x := (bits.length : Int) + m) ⟨by omega, by omega⟩]
  have hrl := h.blk.lt
  have st0 : St w r l ((bits.length : Int) + m) (w.setCell (Addr.add ⟨r, 0, none⟩ 1) (.int .i64 ((bits.length : Int) + m))) l (wordsOf bits) :=
    ⟨h.blk.set 1 _, h.own.set_other _ _ (by rw [add_block]; exact h.ne), h.ne, (Kp.refl _ _).set _ _ (fun _ => .inl (by rw [add_block])), fun k hk => .inl hk⟩
  generalize w.setCell (Addr.add ⟨r, 0, none⟩ 1) (.int .i64 ((bits.length : Int) + m)) = w1 at *
  have fin : ∀ {w3 : World} {o : Slc}, St w r l ((bits.length : Int) + m) w3 o (wordsOf (bits ++ lowb x m)) → ∃ o, Value.int .i64 0 = .int .i64 0 ∧ Row w3 r o (bits ++ lowb x m) ∧ Kp (RF r l) w w3 ∧ ∀ k, On o k → On l k ∨ w.heap.size ≤ k :=
    fun {w3 o} s => ⟨o, rfl, ⟨by have := s.blk; rw [hlen2]; rw [Int.natCast_add]; exact this, s.own, s.ne⟩, s.kp, s.fr⟩
  have hcast : ((bits.length : Int) + m) = ((bits.length + m : Nat) : Int) := by omega
  refine br_dec (fun h3 => ?_) (fun h3 => ?_)
  · have st1 := st0.drew
    generalize w1.drew = w2 at *
    have hl0 : 0 < (wordsOf bits).length := by omega
    have hi : (wordsOf bits).length - 1 < ((wordsOf bits).map U).length := by rw [List.length_map]; omega
    obtain ⟨a, ha, hc, hfz, hset⟩ := st1.own.at hi
    have hw1 : IntKind.i64.wrap ((l.len : Int) - 1) = (((wordsOf bits).length - 1 : Nat) : Int) := by rw [w64 ⟨by omega, by omega⟩]; omega
    have hv : ((wordsOf bits).map U)[(wordsOf bits).length - 1] = U (wordOf bits ((wordsOf bits).length - 1)) := by
      have := wordsOf_at (l := bits) (k := (wordsOf bits).length - 1) (by omega)
      rw [List.getElem?_eq_getElem (by omega)] at this
      rw [List.getElem_map, Option.some.inj this]
    rw [hv] at hc
    have hat : IntKind.u64.wrap ((bits.length : Int) % 64) = ((bits.length % 64 : Nat) : Int) := by rw [wu64 ⟨by omega, by omega⟩]; omega
    have st2 : St w r l ((bits.length : Int) + m) (w2.setCell (Addr.add a ((wordsOf bits).length - 1)) (U (wordOf bits ((wordsOf bits).length - 1) ||| ((x <<< (bits.length % 64)) % 18446744073709551616)))) l (orLast bits x) := by
      refine ⟨st1.blk.set_other _ _ ?_, ?_, h.ne, st1.kp.set _ _ (fun _ => .inr ⟨a, ha, by rw [add_block]⟩), st1.fr⟩
      · rw [add_block]; exact fun e => h.ne ⟨a, ha, e.symm⟩
      · have := hset (U (wordOf bits ((wordsOf bits).length - 1) ||| ((x <<< (bits.length % 64)) % 18446744073709551616)))
        rw [← List.map_set] at this
        exact this
    refine ⟨l, st1.blk.cell 0, l, st1.blk.cell 0, ?_⟩
    rw [hw1, Int.toNat_natCast, Nat.mul_one]
    refine ⟨by omega, by omega, a, ha, _, hc, by omega, by omega, by omega, a, ha, ⟨_, hc⟩, hfz, ?_⟩
    rw [hat, shl_u64, or_u64 (wordOf_lt _ _) (Nat.mod_lt _ (by omega))]
    refine ⟨fun w3 => ∃ o ws, St w r l ((bits.length : Int) + m) w3 o ws ∧ (ws = orLast bits x ∨ ws = wordsOf (bits ++ lowb x m)), fun w3 => (bits.length + m + 63) / 64 - len0 r w3, ⟨l, _, st2, .inl rfl⟩, ?_⟩
    rintro w3 ⟨o, ws, s, hws⟩
    have ss := s.drew
    have hol := s.olen
    have hln := s.len0
    refine ⟨o, ss.blk.cell 0, _, ss.blk.cell 1, ?_⟩
    rw [hcast]
    refine usei (need _ _ (by omega)) ⟨_, rfl, ss.blk.cell 0, br_dec (fun h4 => ?_) (fun h4 => ?_)⟩
    · have hws1 : ws = orLast bits x := by
        rcases hws with rfl | rfl
        · rfl
        · rw [length_wordsOf, hlen2] at hol; omega
      subst hws1
      have hol1 : (orLast bits x).length = (wordsOf bits).length := by simp [orLast]
      refine br_dec (fun h5 => ⟨o, ss.blk.cell 0, ?_⟩) (fun h5 => absurd h3 h5)
      have e2 : IntKind.u64.wrap (IntKind.i64.wrap (64 - (bits.length : Int) % 64)) = ((64 - bits.length % 64 : Nat) : Int) := by
        rw [w64 ⟨by omega, by omega⟩, wu64 ⟨by omega, by omega⟩]; omega
      rw [e2, shr_u64 hx]
      obtain ⟨w4, o4, hr4, hu4, hf4, hl4, s4⟩ := ss.push (x >>> (64 - bits.length % 64)) (by omega)
      rw [add_over hx2 hx (by omega) (by omega) (by omega)] at s4
      refine ⟨by omega, w4, o4, hr4, hu4, hf4, ⟨o4, _, by rw [← hcast]; exact s4, .inr rfl⟩, ?_⟩
      dsimp only
      rw [s4.len0, hln]
      omega
    · rcases hws with rfl | rfl
      · have hol1 : (orLast bits x).length = (wordsOf bits).length := by simp [orLast]
        rw [add_in hx2 (by omega) (by omega)] at ss
        exact fin ss
      · exact fin ss
  · refine ⟨fun w3 => ∃ o ws, St w r l ((bits.length : Int) + m) w3 o ws ∧ ((ws = wordsOf bits) ∨ ws = wordsOf (bits ++ lowb x m)), fun w3 => (bits.length + m + 63) / 64 - len0 r w3, ⟨l, _, st0, .inl rfl⟩, ?_⟩
    rintro w3 ⟨o, ws, s, hws⟩
    have ss := s.drew
    have hol := s.olen
    have hln := s.len0
    refine ⟨o, ss.blk.cell 0, _, ss.blk.cell 1, ?_⟩
    rw [hcast]
    refine usei (need _ _ (by omega)) ⟨_, rfl, ss.blk.cell 0, br_dec (fun h4 => ?_) (fun h4 => ?_)⟩
    · have hws1 : ws = wordsOf bits := by
        rcases hws with rfl | rfl
        · rfl
        · rw [length_wordsOf, hlen2] at hol; omega
      subst hws1
      refine br_dec (fun h5 => absurd h5 h3) (fun h5 => ⟨o, ss.blk.cell 0, ?_⟩)
      obtain ⟨w4, o4, hr4, hu4, hf4, hl4, s4⟩ := ss.push x (by omega)
      rw [add_new hx2 hx (by omega) (by omega) (by omega)] at s4
      refine ⟨w4, o4, hr4, hu4, hf4, ⟨o4, _, by rw [← hcast]; exact s4, .inr rfl⟩, ?_⟩
      dsimp only
      rw [s4.len0, hln]
      omega
    · rcases hws with rfl | rfl
      · have hm : m = 0 := by omega
        subst hm
        have e : bits ++ lowb x 0 = bits := by simp [lowb]
        rw [e] at fin ⊢
        exact fin ss
      · exact fin ss
end Go.Proofs.Ytilccklocaeebaa.V
