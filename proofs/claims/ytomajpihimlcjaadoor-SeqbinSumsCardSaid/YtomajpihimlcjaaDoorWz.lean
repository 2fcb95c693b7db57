/- What the writer and the plain encoders compute. What the readers compute: the reader of the program and the plain one, over the bytes that are left and the error. The readers, operation by operation: what is left and the error. The readers: texts, raw bytes, bounded numbers, the error that is set; the reader that is nil. Opening a slice of structs of four cells: an int, a word, an int, a string. No program here. The laws of the wire chapter. The plain reader's texts, raw bytes and bounded numbers; both readers side by side; the laws of reading. What is written is read unchanged. -/
import Derived.Test.YtomajpihimlcjaaDoorLa
import Derived.Test.YtomajpihimlcjaaDoorWx
import Derived.Test.YtomajpihimlcjaaDoorBW
namespace Go.Proofs.YtomajpihimlcjaaDoor.V
open Go Go.VC
variable {w w' w0 : World} {l o : Slc} {bs : List UInt8} {b : Nat}

theorem el8 : El Tryd.prog 60 5 1 1 := El.of (by kernel_rfl) (by kernel_rfl)
theorem und8s : Tryd.prog.underlying 60 = some (.slice 5) := by kernel_rfl
theorem und8 : Tryd.prog.underlying 5 = some (.int .u8) := by kernel_rfl
theorem undS : Tryd.prog.underlying 9 = some .string := by kernel_rfl

/-- A writer and its bytes, and what it has left as it was since. -/
structure Ws (w0 : World) (b : Nat) (l : Slc) (w : World) (o : Slc) (bs : List UInt8) : Prop where
  blk : Blk w b [.slice o.a o.len o.cap] 62
  own : Ownd w o 5 1 (bs.map V8)
  ne : ¬ On o b
  kp : Kp (RF b l) w0 w
  fr : ∀ k, On o k → On l k ∨ w0.heap.size ≤ k
theorem Ws.olen (h : Ws w0 b l w o bs) : o.len = bs.length := by have := h.own.len; simpa using this.symm
theorem Ws.kpo (h : Ws w0 b l w o bs) (g : Kp no w w') : Ws w0 b l w' o bs := ⟨h.blk.kp g (fun f => f), h.own.kp g (fun _ _ f => f), h.ne, h.kp.trans g (fun _ _ f => f.elim), h.fr⟩
/-- One step: the writer's slice is another, its bytes are more. -/
theorem Ws.step {w2 : World} {o2 : Slc} {bs2 : List UInt8} (h : Ws w0 b l w o bs) (ho2 : Ownd w2 o2 5 1 (bs2.map V8)) (hk2 : Kp (On o) w w2) (hf2 : ∀ k, On o2 k → On o k ∨ w.heap.size ≤ k) :
    (∃ u, w2.cell? (Addr.add ⟨b, 0, none⟩ 0) = some u) ∧ w2.frozen? (Addr.add ⟨b, 0, none⟩ 0) = false ∧ Ws w0 b l (w2.setCell (Addr.add ⟨b, 0, none⟩ 0) (.slice o2.a o2.len o2.cap)) o2 bs2 := by
  have hb2 : Blk w2 b [.slice o.a o.len o.cap] 62 := h.blk.kp hk2 h.ne
  have hrl := h.blk.lt
  have hne : ¬ On o2 b := fun hk => by
    rcases hf2 b hk with g | g
    · exact h.ne g
    · omega
  refine ⟨⟨_, hb2.cell 0⟩, hb2.frozen 0, ⟨hb2.set 0 _, ho2.set_other _ _ (by rw [add_block]; exact hne), hne, ?_, fun k hk => ?_⟩⟩
  · refine (h.kp.trans hk2 (fun k hk hkk => ?_)).set _ _ (fun _ => .inl (by rw [add_block]))
    rcases h.fr k hkk with g | g
    · exact .inr g
    · omega
  · have := h.kp.size
    rcases hf2 k hk with g | g
    · exact h.fr k g
    · exact .inr (by omega)

theorem wNum (h : Ws w0 b l w o bs) (hsz : bs.length ≤ 1099511627776) (v : Nat) (hv : v < 18446744073709551616) :
    Calls Tryd.prog 108 #[.pointer (some ⟨b, 0, none⟩), .int .u64 v] w (Rv fun u w' => u = .tuple #[] ∧ ∃ o', Ws w0 b l w' o' (bs ++ enc v)) := by
  refine c108 _ _ _ _ ?_
  unfold B108
  have hel := enc_len v
  refine ⟨fun x w' => ∃ (m : Nat) (bs' : List UInt8) (o' : Slc), x = m ∧ m < 18446744073709551616 ∧ Ws w0 b l w' o' bs' ∧ bs' ++ enc m = bs ++ enc v, fun x _ => x.toNat, ⟨v, bs, o, rfl, hv, h, rfl⟩, ?_⟩
  rintro x w1 ⟨m, bs', o', rfl, hm, hw, he⟩
  have hl1 : bs'.length + (enc m).length = bs.length + (enc v).length := by rw [← List.length_append, he, List.length_append]
  have hol := hw.olen
  refine br_dec (fun h1 => ⟨o', hw.blk.cell 0, ?_⟩) (fun h1 => ⟨o', hw.blk.cell 0, ?_⟩)
  · rw [byte_or, ← V8_of (show m % 128 + 128 < 256 by omega)]
    obtain ⟨w2, o2, hr, ho2, hl2, hk2, hf2⟩ := append_one (ty := 60) el8 hw.own (V8 (UInt8.ofNat (m % 128 + 128))) rfl (by simp only [maxLen]; omega) (by omega)
    have ho3 : Ownd w2 o2 5 1 ((bs' ++ [UInt8.ofNat (m % 128 + 128)]).map V8) := by simpa using ho2
    obtain ⟨s1, s2, s3⟩ := hw.step ho3 hk2 hf2
    have e7 : shR .u64 (m : Int) 7 = ((m / 128 : Nat) : Int) := by rw [show (7 : Int) = ((7 : Nat) : Int) from rfl, shrC hm]
    rw [e7]
    refine ⟨w2, o2, hr, s1, s2, by omega, ⟨m / 128, _, o2, rfl, by omega, s3, ?_⟩, by dsimp only; omega⟩
    rw [← he, enc_ge (by omega) hm]
    simp
  · have e8 : IntKind.u8.wrap (m : Int) = (m : Int) := wu8 ⟨by omega, by omega⟩
    rw [e8, ← V8_of (show m < 256 by omega)]
    obtain ⟨w2, o2, hr, ho2, hl2, hk2, hf2⟩ := append_one (ty := 60) el8 hw.own (V8 (UInt8.ofNat m)) rfl (by simp only [maxLen]; omega) (by omega)
    rw [enc_lt (by omega)] at he
    have ho3 : Ownd w2 o2 5 1 ((bs' ++ [UInt8.ofNat m]).map V8) := by simpa using ho2
    rw [he] at ho3
    obtain ⟨s1, s2, s3⟩ := hw.step ho3 hk2 hf2
    exact ⟨w2, o2, hr, s1, s2, rfl, o2, s3⟩

theorem wRaw (h : Ws w0 b l w o bs) (hsz : bs.length ≤ 1099511627776) (s : List UInt8) (hs : s.length ≤ 1099511627776) :
    Calls Tryd.prog 119 #[.pointer (some ⟨b, 0, none⟩), .string (bs8 s)] w (Rv fun u w' => u = .tuple #[] ∧ ∃ o', Ws w0 b l w' o' (bs ++ s)) := by
  refine c119 _ _ _ _ ?_
  unfold B119
  have hol := h.olen
  obtain ⟨w2, o2, hr, ho2, hl2, hk2, hf2⟩ := append_str (ty := 60) el8 undS h.own s (by omega)
  obtain ⟨s1, s2, s3⟩ := h.step ho2 hk2 hf2
  exact ⟨o, h.blk.cell 0, w2, o2, hr, s1, s2, rfl, o2, s3⟩

theorem wBytes (h : Ws w0 b l w o bs) : Is 38 #[.pointer (some ⟨b, 0, none⟩)] w (.string (bs8 bs)) := by
  refine c38 _ _ _ ?_
  unfold B38
  exact ⟨o, h.blk.cell 0, w, _, to_str und8s und8 undS h.own, rfl, rfl⟩

theorem Ws.start (w : World) : Ws w w.heap.size ⟨none, 0, 0⟩ (w.alloc (.cells #[.slice none 0 0] 62)) ⟨none, 0, 0⟩ [] :=
  ⟨Blk.new _ _ _, Ownd.nil _ _ _, On.nil, (Kp.refl _ _).alloc _ _, fun _ hk => absurd hk On.nil⟩
theorem Ws.out (h : Ws w0 w0.heap.size ⟨none, 0, 0⟩ w o bs) : Kp no w0 w := h.kp.mono fun k hk g => by
  rcases g with rfl | g
  · omega
  · exact absurd g On.nil

/-! ### a writer that is nil -/
theorem nwNum (w : World) (v : Int) : Is 108 #[.pointer none, .int .u64 v] w (.tuple #[]) := c108n _ _ _ ⟨rfl, rfl⟩
theorem nwRaw (w : World) (s : ByteArray) : Is 119 #[.pointer none, .string s] w (.tuple #[]) := c119n _ _ _ ⟨rfl, rfl⟩
theorem nwBytes (w : World) : Is 38 #[.pointer none] w (.string (bs8 [])) := c38n _ _ ⟨rfl, rfl⟩

/-! ### the plain encoders -/
theorem byte_str (w : World) (c : UInt8) : (convert 60 9 (.slice (some ⟨w.heap.size, 0, none⟩) 1 1)).run Tryd.prog (w.alloc (.cells #[V8 c] 5)) = .ok (.string (bs8 [c])) (w.alloc (.cells #[V8 c] 5)) :=
  to_str (l := ⟨some ⟨w.heap.size, 0, none⟩, 1, 1⟩) und8s und8 undS (Ownd.mk' (cur := [V8 c]) rfl (Blk.new _ _ _) (Nat.le_refl _) (by simp [maxLen]) rfl rfl)
theorem byte_str' {w' : World} (w : World) (c : UInt8) (g : Kp no (w.alloc (.cells #[V8 c] 5)) w') : (convert 60 9 (.slice (some ⟨w.heap.size, 0, none⟩) 1 1)).run Tryd.prog w' = .ok (.string (bs8 [c])) w' :=
  to_str (l := ⟨some ⟨w.heap.size, 0, none⟩, 1, 1⟩) und8s und8 undS ((Ownd.mk' (cur := [V8 c]) rfl (Blk.new _ _ _) (Nat.le_refl _) (by simp [maxLen]) rfl rfl).kp g (fun _ _ f => f))

set_option maxRecDepth 20000 in
theorem rNum : ∀ (f v : Nat), v ≤ f → v < 18446744073709551616 → ∀ (w : World), IsK 110 #[.int .u64 v] w (.string (bs8 (enc v))) := by
  intro f
  induction f with
  | zero =>
    intro v hvf hv w
    obtain rfl : v = 0 := by omega
    refine c110 _ _ _ ?_
    unfold B110
    refine br_dec (fun _ => ?_) (fun h => absurd (by omega) h)
    rw [wu8 (x := ((0 : Nat) : Int)) ⟨by omega, by omega⟩, ← V8_of (show 0 < 256 by omega), enc_lt (by omega)]
    exact ⟨_, _, byte_str w _, rfl, (Kp.refl _ _).alloc _ _⟩
  | succ f ih =>
    intro v hvf hv w
    refine c110 _ _ _ ?_
    unfold B110
    apply br_dec <;> intro h1
    · rw [wu8 (x := (v : Int)) ⟨by omega, by omega⟩, ← V8_of (show v < 256 by omega), enc_lt (by omega)]
      exact ⟨_, _, byte_str w _, rfl, (Kp.refl _ _).alloc _ _⟩
    · have e1 : IntKind.u8.wrap (IntKind.u64.wrap (Int.tmod (v : Int) 128 + 128)) = ((v % 128 + 128 : Nat) : Int) := by
        rw [Int.tmod_eq_emod_of_nonneg (by omega), wu64 ⟨by omega, by omega⟩, wu8 ⟨by omega, by omega⟩]; omega
      have e2 : IntKind.u64.wrap (Int.tdiv (v : Int) 128) = ((v / 128 : Nat) : Int) := by
        rw [Int.tdiv_eq_ediv_of_nonneg (by omega), wu64 ⟨by omega, by omega⟩]; omega
      rw [e1, e2, ← V8_of (show v % 128 + 128 < 256 by omega)]
      have hen := enc_ge (show 128 ≤ v by omega) hv
      have hl := enc_len (v / 128)
      have app : bs8 [UInt8.ofNat (v % 128 + 128)] ++ bs8 (enc (v / 128)) = bs8 (enc v) := by rw [bs8_append, hen]; rfl
      have hsz : (bs8 [UInt8.ofNat (v % 128 + 128)]).size + (bs8 (enc (v / 128))).size ≤ 9223372036854775807 := by rw [bs8_size, bs8_size]; simp; omega
      refine ⟨by omega, by omega, ⟨⟨_, _, byte_str w.drew _, ?_⟩, ?_⟩, ?_⟩
      · exact usek (ih (v / 128) (by omega) (by omega) _) fun w2 k2 => ⟨_, rfl, hsz, by rw [app], ((Kp.refl no w).drew.alloc _ _).trans k2 (fun _ _ f => f)⟩
      · exact usek (ih (v / 128) (by omega) (by omega) _) fun w2 k2 => ⟨_, rfl, _, _, byte_str' w.drew _ k2, hsz, by rw [app], ((Kp.refl no w).drew.alloc _ _).trans k2 (fun _ _ f => f)⟩
      · exact usek (ih (v / 128) (by omega) (by omega) _) fun w2 k2 => ⟨_, rfl, _, _, byte_str w2 _, hsz, by rw [app], ((Kp.refl no w).drew.trans k2 (fun _ _ f => f)).alloc _ _⟩

end Go.Proofs.YtomajpihimlcjaaDoor.V

namespace Go.VC
open Go
theorem bs8_at {s : List UInt8} {i : Nat} (h : i < s.length) : ∃ c : UInt8, (bs8 s)[((i : Nat) : Int).toNat]? = some c ∧ c.toNat = bt s i := by
  refine ⟨s[i], ?_, ?_⟩
  · rw [Int.toNat_natCast, bs8_get, List.getElem?_eq_getElem h]
  · exact bt_get (List.getElem?_eq_getElem h)
theorem and127 {c : Nat} (h : c < 256) : bAnd .u8 (c : Int) 127 = ((c % 128 : Nat) : Int) := by
  rw [show (127 : Int) = ((127 : Nat) : Int) from rfl, and_u8 h (by omega), show (127 : Nat) = 2 ^ 7 - 1 from rfl, Nat.and_two_pow_sub_one_eq_mod]
theorem pow7 (m : Nat) : 2 ^ (7 * m) = 128 ^ m := by rw [Nat.pow_mul]
theorem orstep {v d m : Nat} (hv : v < 128 ^ m) (hd : d * 128 ^ m < 18446744073709551616) (hv2 : v < 18446744073709551616) : bOr .u64 (v : Int) (shL .u64 (d : Int) ((7 * m : Nat) : Int)) = ((v + d * 128 ^ m : Nat) : Int) := by
  rw [shl_u64, or_u64 hv2 (Nat.mod_lt _ (by omega)), Nat.shiftLeft_eq, pow7, Nat.mod_eq_of_lt hd]
  congr 1
  rw [← pow7] at hv ⊢
  rw [Nat.or_comm, Nat.mul_comm d, ← Nat.two_pow_add_eq_or_of_lt hv]
  omega
theorem str_beq (a b : List UInt8) : ((bs8 a).toList == (bs8 b).toList) = decide (a = b) := by
  unfold bs8
  rw [ByteArray.toList_mk, ByteArray.toList_mk]
  by_cases h : a = b
  · subst h; simp
  · simp [h]
theorem drop_extract (s : List UInt8) (n : Nat) : (bs8 s).extract n (bs8 s).size = bs8 (s.drop n) := by
  rw [bs8_extract, bs8_size, List.take_of_length_le (by simp)]
theorem take_extract (s : List UInt8) (n : Nat) : (bs8 s).extract 0 n = bs8 (s.take n) := by
  rw [bs8_extract]; simp
end Go.VC

namespace Go.Proofs.YtomajpihimlcjaaDoor.V
open Go Go.VC
variable {w w' w0 : World} {r x : Nat} {rest : List UInt8} {bad : Nat}

/-! ### the number at the start of some bytes -/
theorem number (w : World) (s : List UInt8) (hs : s.length ≤ 1099511627776) : Is 141 #[.string (bs8 s)] w (.tuple #[.int .u64 ((dec s).1 : Nat), .int .i64 ((dec s).2.1 : Nat), .int .i64 ((dec s).2.2 : Nat)]) := by
  refine c141 _ _ _ ?_
  unfold B141
  rw [bs8_size]
  refine ⟨fun v i w' => w' = w ∧ ∃ m : Nat, i = m ∧ m ≤ 10 ∧ Cont s m ∧ (m ≤ 9 → v = (hi s 0 m : Int)), fun _ i _ => (10 - i).toNat, ⟨rfl, 0, rfl, by omega, fun j hj => by omega, fun _ => rfl⟩, ?_⟩
  rintro v i w1 ⟨rfl, m, rfl, hm, hc, hv⟩
  refine br_dec (fun h1 => br_dec (fun h2 => ?_) (fun h2 => ?_)) (fun h1 => ?_)
  · have hk : kOf s = m := kOf_eq hm hc (fun _ => by omega)
    rw [dec_of hk, if_neg (by omega), if_pos (by omega)]
    exact ⟨rfl, rfl⟩
  · have hml : m < s.length := by
      rcases Nat.eq_zero_or_pos m with e | e
      · omega
      · have := (hc (m - 1) (by omega)).1; omega
    obtain ⟨c, hget, hcb⟩ := bs8_at hml
    have hb := bt_lt s m
    have hlt := hi_lt s m 0
    have hp9 : 128 ^ m ≤ 128 ^ 9 := Nat.pow_le_pow_right (by omega) (by omega)
    have e1 : IntKind.u64.wrap (bAnd .u8 (c.toNat : Int) 127) = ((bt s m % 128 : Nat) : Int) := by
      rw [hcb, and127 hb, wu64 ⟨by omega, by omega⟩]
    have e2 : IntKind.u64.wrap (IntKind.i64.wrap (7 * (m : Int))) = ((7 * m : Nat) : Int) := by
      rw [w64 ⟨by omega, by omega⟩, wu64 ⟨by omega, by omega⟩]; omega
    have e3 : IntKind.i64.wrap ((m : Int) + 1) = ((m + 1 : Nat) : Int) := by rw [w64 ⟨by omega, by omega⟩]; omega
    refine ⟨c, by omega, hget, by rw [e2]; omega, c, by omega, hget, ?_⟩
    rw [e1, e2, e3, hv (by omega)]
    simp only [Nat.reducePow] at hp9
    have stp : (m ≤ 8 ∨ bt s m ≤ 1) → bOr .u64 ((hi s 0 m : Nat) : Int) (shL .u64 ((bt s m % 128 : Nat) : Int) ((7 * m : Nat) : Int)) = ((hi s 0 (m + 1) : Nat) : Int) := by
      intro hh
      rw [hi_snoc, Nat.zero_add]
      refine orstep hlt ?_ (by omega)
      rcases hh with hh | hh
      · have h8 : 128 ^ m ≤ 128 ^ 8 := Nat.pow_le_pow_right (by omega) hh
        have := Nat.mul_le_mul (show bt s m % 128 ≤ 127 by omega) h8
        simp only [Nat.reducePow] at this; omega
      · have := Nat.mul_le_mul (show bt s m % 128 ≤ 1 by omega) (show 128 ^ m ≤ 9223372036854775808 by omega)
        omega
    refine br_dec (fun h3 => ⟨⟨rfl, m + 1, rfl, by omega, hc.succ hml (by omega), fun h9 => stp (.inl (by omega))⟩, by dsimp only; omega⟩) (fun h3 => ?_)
    have hk : kOf s = m := kOf_eq hm hc (fun _ => by omega)
    have hd := dec_of hk
    rw [if_neg (by omega), if_neg (by omega)] at hd
    have bad : ((m = 9 ∧ 1 < bt s 9) ∨ (0 < m ∧ bt s m = 0)) → (Value.tuple #[.int .u64 0, .int .i64 0, .int .i64 3]) = .tuple #[.int .u64 ((dec s).1 : Nat), .int .i64 ((dec s).2.1 : Nat), .int .i64 ((dec s).2.2 : Nat)] ∧ w1 = w1 := fun h => by
      rw [hd, if_pos h]; exact ⟨rfl, rfl⟩
    have good : ¬ ((m = 9 ∧ 1 < bt s 9) ∨ (0 < m ∧ bt s m = 0)) → (Value.tuple #[.int .u64 (bOr .u64 ((hi s 0 m : Nat) : Int) (shL .u64 ((bt s m % 128 : Nat) : Int) ((7 * m : Nat) : Int))), .int .i64 ((m + 1 : Nat) : Int), .int .i64 0]) = .tuple #[.int .u64 ((dec s).1 : Nat), .int .i64 ((dec s).2.1 : Nat), .int .i64 ((dec s).2.2 : Nat)] ∧ w1 = w1 := fun h => by
      rw [hd, if_neg h, stp]
      · exact ⟨rfl, rfl⟩
      · by_cases e : m = 9
        · subst e; right; omega
        · left; omega
    have tl : (m = 9 → ¬ 1 < bt s 9) → br (decide ((0 : Int) < m)) (∃ c9 : UInt8, 0 ≤ (m : Int) ∧ (bs8 s)[((m : Nat) : Int).toNat]? = some c9 ∧ br (decide ((UInt8.toNat c9 : Int) = (0 : Int))) ((Value.tuple #[.int .u64 0, .int .i64 0, .int .i64 3]) = .tuple #[.int .u64 ((dec s).1 : Nat), .int .i64 ((dec s).2.1 : Nat), .int .i64 ((dec s).2.2 : Nat)] ∧ w1 = w1)
        ((Value.tuple #[.int .u64 (bOr .u64 ((hi s 0 m : Nat) : Int) (shL .u64 ((bt s m % 128 : Nat) : Int) ((7 * m : Nat) : Int))), .int .i64 ((m + 1 : Nat) : Int), .int .i64 0]) = .tuple #[.int .u64 ((dec s).1 : Nat), .int .i64 ((dec s).2.1 : Nat), .int .i64 ((dec s).2.2 : Nat)] ∧ w1 = w1))
        ((Value.tuple #[.int .u64 (bOr .u64 ((hi s 0 m : Nat) : Int) (shL .u64 ((bt s m % 128 : Nat) : Int) ((7 * m : Nat) : Int))), .int .i64 ((m + 1 : Nat) : Int), .int .i64 0]) = .tuple #[.int .u64 ((dec s).1 : Nat), .int .i64 ((dec s).2.1 : Nat), .int .i64 ((dec s).2.2 : Nat)] ∧ w1 = w1) := fun h9 =>
      br_dec (fun h4 => ⟨c, by omega, hget, br_dec (fun h5 => bad (.inr ⟨by omega, by omega⟩)) (fun h5 => good (by rintro (⟨a, b⟩ | ⟨a, b⟩); exact h9 a b; omega))⟩) (fun h4 => good (by rintro (⟨a, b⟩ | ⟨a, b⟩); exact h9 a b; omega))
    refine br_dec (fun h4 => ⟨c, by omega, hget, br_dec (fun h5 => bad (.inl ⟨by omega, ?_⟩)) (fun h5 => tl fun e => ?_)⟩) (fun h4 => tl fun e => by omega)
    · have : m = 9 := by omega
      subst this; omega
    · subst e; omega
  · have hm10 : m = 10 := by omega
    subst hm10
    have hk : kOf s = 10 := kOf_eq hm hc (fun h => by omega)
    rw [dec_of hk, if_pos rfl]
    exact ⟨rfl, rfl⟩

/-- The value, from the last byte back. -/
def LoopV (s : ByteArray) (x3 : Int) (w4 : World) (R : Value → World → Prop) : Prop :=
  ∃ (I8 : Int → Int → World → Prop) (μ9 : Int → Int → World → Nat), I8 (0 : Int) x3 w4 ∧ ∀ x10 : Int, ∀ x11 : Int, ∀ w12 : World, I8 x10 x11 w12 →
    br (decide ((0 : Int) ≤ x11)) (∃ c13 : UInt8, 0 ≤ x11 ∧ s[x11.toNat]? = some c13 ∧ (128 : Int) ≠ 0 ∧
    I8 (IntKind.u64.wrap ((IntKind.u64.wrap (x10 * 128)) + (IntKind.u64.wrap (Int.tmod (UInt8.toNat c13 : Int) 128)))) (IntKind.i64.wrap (x11 - 1)) w12 ∧
    μ9 (IntKind.u64.wrap ((IntKind.u64.wrap (x10 * 128)) + (IntKind.u64.wrap (Int.tmod (UInt8.toNat c13 : Int) 128)))) (IntKind.i64.wrap (x11 - 1)) w12 < μ9 x10 x11 w12) (R (.tuple #[.int .u64 x10, .int .i64 (IntKind.i64.wrap (x3 + 1)), .int .i64 0]) w12)
theorem hi_mono (s : List UInt8) : ∀ (i n : Nat), hi s i n ≤ hi s 0 (i + n)
  | 0, n => by simp
  | i + 1, n => by
    have h := hi_mono s i (n + 1)
    rw [show i + 1 + n = i + (n + 1) by omega]
    simp only [hi] at h ⊢
    omega
theorem loopV {s : List UInt8} {k : Nat} (hk : k < s.length) (hk2 : k ≤ 10) (hlt : hi s 0 (k + 1) < 18446744073709551616) (w : World) {R : Value → World → Prop}
    (h : R (.tuple #[.int .u64 ((hi s 0 (k + 1) : Nat) : Int), .int .i64 ((k + 1 : Nat) : Int), .int .i64 0]) w) : LoopV (bs8 s) k w R := by
  unfold LoopV
  have e3 : IntKind.i64.wrap ((k : Int) + 1) = ((k + 1 : Nat) : Int) := by rw [w64 ⟨by omega, by omega⟩]; omega
  rw [e3]
  refine ⟨fun v i w' => w' = w ∧ ∃ m : Nat, i = (m : Int) - 1 ∧ m ≤ k + 1 ∧ v = (hi s m (k + 1 - m) : Int), fun _ i _ => (i + 1).toNat, ⟨rfl, k + 1, by omega, by omega, by simp [hi]⟩, ?_⟩
  rintro v i w1 ⟨rfl, m, rfl, hm, rfl⟩
  refine br_dec (fun h1 => ?_) (fun h1 => ?_)
  · obtain ⟨q, rfl⟩ : ∃ q, m = q + 1 := ⟨m - 1, by omega⟩
    have eq : ((q + 1 : Nat) : Int) - 1 = (q : Int) := by omega
    rw [eq]
    obtain ⟨c, hget, hcb⟩ := bs8_at (show q < s.length by omega)
    have hb := bt_lt s q
    have hmo := hi_mono s q (k + 1 - q)
    rw [show q + (k + 1 - q) = k + 1 by omega] at hmo
    have hst : hi s q (k + 1 - q) = bt s q % 128 + 128 * hi s (q + 1) (k + 1 - (q + 1)) := by
      rw [show k + 1 - q = (k + 1 - (q + 1)) + 1 by omega, hi]
    refine ⟨c, by omega, hget, by omega, ⟨rfl, q, by rw [w64 ⟨by omega, by omega⟩], by omega, ?_⟩, by dsimp only; rw [w64 ⟨by omega, by omega⟩]; omega⟩
    rw [hcb, Int.tmod_eq_emod_of_nonneg (by omega), wu64 (x := ((bt s q : Nat) : Int) % 128) ⟨by omega, by omega⟩, wu64 (x := ((hi s (q + 1) (k + 1 - (q + 1)) : Nat) : Int) * 128) ⟨by omega, by omega⟩, wu64 ⟨by omega, by omega⟩]
    omega
  · obtain rfl : m = 0 := by omega
    exact h

theorem first (w : World) (s : List UInt8) : Is 147 #[.string (bs8 s)] w (.tuple #[.int .u64 ((dec s).1 : Nat), .int .i64 ((dec s).2.1 : Nat), .int .i64 ((dec s).2.2 : Nat)]) := by
  refine c147 _ _ _ ?_
  unfold B147
  rw [bs8_size]
  refine ⟨fun i w' => w' = w ∧ ∃ m : Nat, i = m ∧ m ≤ 10 ∧ Cont s m, fun i _ => (10 - i).toNat, ⟨rfl, 0, rfl, by omega, fun j hj => by omega⟩, ?_⟩
  rintro i w1 ⟨rfl, m, rfl, hm, hc⟩
  have e3 : IntKind.i64.wrap ((m : Int) + 1) = ((m + 1 : Nat) : Int) := by rw [w64 ⟨by omega, by omega⟩]; omega
  -- behind the loop
  have tail : (m < 10 → ¬ (m < s.length ∧ 128 ≤ bt s m)) → br (decide ((m : Int) = (10 : Int))) ((Value.tuple #[.int .u64 0, .int .i64 0, .int .i64 3]) = .tuple #[.int .u64 ((dec s).1 : Nat), .int .i64 ((dec s).2.1 : Nat), .int .i64 ((dec s).2.2 : Nat)] ∧ w1 = w1)
      (br (decide ((m : Int) = (s.length : Int))) ((Value.tuple #[.int .u64 0, .int .i64 0, .int .i64 2]) = .tuple #[.int .u64 ((dec s).1 : Nat), .int .i64 ((dec s).2.1 : Nat), .int .i64 ((dec s).2.2 : Nat)] ∧ w1 = w1)
      (br (decide ((m : Int) = (9 : Int))) (∃ c6 : UInt8, 0 ≤ (m : Int) ∧ (bs8 s)[((m : Nat) : Int).toNat]? = some c6 ∧ br (decide ((1 : Int) < (UInt8.toNat c6 : Int))) ((Value.tuple #[.int .u64 0, .int .i64 0, .int .i64 3]) = .tuple #[.int .u64 ((dec s).1 : Nat), .int .i64 ((dec s).2.1 : Nat), .int .i64 ((dec s).2.2 : Nat)] ∧ w1 = w1)
        (br (decide ((0 : Int) < (m : Int))) (∃ c7 : UInt8, 0 ≤ (m : Int) ∧ (bs8 s)[((m : Nat) : Int).toNat]? = some c7 ∧ br (decide ((UInt8.toNat c7 : Int) = (0 : Int))) ((Value.tuple #[.int .u64 0, .int .i64 0, .int .i64 3]) = .tuple #[.int .u64 ((dec s).1 : Nat), .int .i64 ((dec s).2.1 : Nat), .int .i64 ((dec s).2.2 : Nat)] ∧ w1 = w1)
          (LoopV (bs8 s) m w1 fun u w' => u = .tuple #[.int .u64 ((dec s).1 : Nat), .int .i64 ((dec s).2.1 : Nat), .int .i64 ((dec s).2.2 : Nat)] ∧ w' = w1))
          (LoopV (bs8 s) m w1 fun u w' => u = .tuple #[.int .u64 ((dec s).1 : Nat), .int .i64 ((dec s).2.1 : Nat), .int .i64 ((dec s).2.2 : Nat)] ∧ w' = w1)))
        (br (decide ((0 : Int) < (m : Int))) (∃ c7 : UInt8, 0 ≤ (m : Int) ∧ (bs8 s)[((m : Nat) : Int).toNat]? = some c7 ∧ br (decide ((UInt8.toNat c7 : Int) = (0 : Int))) ((Value.tuple #[.int .u64 0, .int .i64 0, .int .i64 3]) = .tuple #[.int .u64 ((dec s).1 : Nat), .int .i64 ((dec s).2.1 : Nat), .int .i64 ((dec s).2.2 : Nat)] ∧ w1 = w1)
          (LoopV (bs8 s) m w1 fun u w' => u = .tuple #[.int .u64 ((dec s).1 : Nat), .int .i64 ((dec s).2.1 : Nat), .int .i64 ((dec s).2.2 : Nat)] ∧ w' = w1))
          (LoopV (bs8 s) m w1 fun u w' => u = .tuple #[.int .u64 ((dec s).1 : Nat), .int .i64 ((dec s).2.1 : Nat), .int .i64 ((dec s).2.2 : Nat)] ∧ w' = w1)))) := by
    intro hk0
    have hk : kOf s = m := kOf_eq hm hc hk0
    have hkl := kOf_le s
    have hfit := dec_fit s
    have hd := dec_of hk
    refine br_dec (fun h1 => ?_) (fun h1 => br_dec (fun h2 => ?_) (fun h2 => ?_))
    · rw [hd, if_pos (by omega)]; exact ⟨rfl, rfl⟩
    · rw [hd, if_neg (by omega), if_pos (by omega)]; exact ⟨rfl, rfl⟩
    rw [if_neg (by omega), if_neg (by omega)] at hd
    have hml : m < s.length := by omega
    obtain ⟨c, hget, hcb⟩ := bs8_at hml
    have bad : ((m = 9 ∧ 1 < bt s 9) ∨ (0 < m ∧ bt s m = 0)) → (Value.tuple #[.int .u64 0, .int .i64 0, .int .i64 3]) = .tuple #[.int .u64 ((dec s).1 : Nat), .int .i64 ((dec s).2.1 : Nat), .int .i64 ((dec s).2.2 : Nat)] ∧ w1 = w1 := fun h => by
      rw [hd, if_pos h]; exact ⟨rfl, rfl⟩
    have good : ¬ ((m = 9 ∧ 1 < bt s 9) ∨ (0 < m ∧ bt s m = 0)) → LoopV (bs8 s) m w1 fun u w' => u = .tuple #[.int .u64 ((dec s).1 : Nat), .int .i64 ((dec s).2.1 : Nat), .int .i64 ((dec s).2.2 : Nat)] ∧ w' = w1 := fun h => by
      rw [if_neg h] at hd
      rw [hd] at hfit
      refine loopV hml hm hfit.1 w1 ?_
      rw [hd]; exact ⟨rfl, rfl⟩
    have tl : (m = 9 → ¬ 1 < bt s 9) → br (decide ((0 : Int) < (m : Int))) (∃ c7 : UInt8, 0 ≤ (m : Int) ∧ (bs8 s)[((m : Nat) : Int).toNat]? = some c7 ∧ br (decide ((UInt8.toNat c7 : Int) = (0 : Int))) ((Value.tuple #[.int .u64 0, .int .i64 0, .int .i64 3]) = .tuple #[.int .u64 ((dec s).1 : Nat), .int .i64 ((dec s).2.1 : Nat), .int .i64 ((dec s).2.2 : Nat)] ∧ w1 = w1)
          (LoopV (bs8 s) m w1 fun u w' => u = .tuple #[.int .u64 ((dec s).1 : Nat), .int .i64 ((dec s).2.1 : Nat), .int .i64 ((dec s).2.2 : Nat)] ∧ w' = w1))
          (LoopV (bs8 s) m w1 fun u w' => u = .tuple #[.int .u64 ((dec s).1 : Nat), .int .i64 ((dec s).2.1 : Nat), .int .i64 ((dec s).2.2 : Nat)] ∧ w' = w1) := fun h9 =>
      br_dec (fun h4 => ⟨c, by omega, hget, br_dec (fun h5 => bad (.inr ⟨by omega, by omega⟩)) (fun h5 => good (by rintro (⟨a, b⟩ | ⟨a, b⟩); exact h9 a b; omega))⟩) (fun h4 => good (by rintro (⟨a, b⟩ | ⟨a, b⟩); exact h9 a b; omega))
    refine br_dec (fun h4 => ⟨c, by omega, hget, br_dec (fun h5 => bad (.inl ⟨by omega, ?_⟩)) (fun h5 => tl fun e => ?_)⟩) (fun h4 => tl fun e => by omega)
    · have : m = 9 := by omega
      subst this; omega
    · subst e; omega
  refine br_dec (fun h1 => br_dec (fun h2 => ?_) (fun h2 => tail (fun _ => by omega))) (fun h1 => tail (fun _ => by omega))
  obtain ⟨c, hget, hcb⟩ := bs8_at (show m < s.length by omega)
  refine ⟨c, by omega, hget, br_dec (fun h3 => ?_) (fun h3 => tail (fun _ => by omega))⟩
  rw [e3]
  exact ⟨⟨rfl, m + 1, rfl, by omega, hc.succ (by omega) (by omega)⟩, by dsimp only; omega⟩
end Go.Proofs.YtomajpihimlcjaaDoor.V

namespace Go.VC
open Go
def numS (rest : List UInt8) (bad : Nat) : Nat × List UInt8 × Nat :=
  if bad ≠ 0 then (0, rest, bad) else ((dec rest).1, rest.drop (dec rest).2.1, (dec rest).2.2)
def unzig (v : Nat) : Int := if v % 2 = 1 then -((v / 2 : Nat) : Int) - 1 else ((v / 2 : Nat) : Int)
def textS (rest : List UInt8) (bad : Nat) (most : Int) : List UInt8 × List UInt8 × Nat :=
  if bad ≠ 0 then ([], rest, bad) else if (dec rest).2.2 ≠ 0 then ([], rest, (dec rest).2.2)
  else if most < 0 ∨ most < ((dec rest).1 : Int) then ([], rest, 5) else if rest.length - (dec rest).2.1 < (dec rest).1 then ([], rest, 2)
  else ((rest.drop (dec rest).2.1).take (dec rest).1, rest.drop ((dec rest).2.1 + (dec rest).1), 0)
def rawS (rest : List UInt8) (bad : Nat) (n : Int) : List UInt8 × List UInt8 × Nat :=
  if bad ≠ 0 then ([], rest, bad) else if n < 0 then ([], rest, 1) else if (rest.length : Int) < n then ([], rest, 2) else (rest.take n.toNat, rest.drop n.toNat, 0)
def uptoS (rest : List UInt8) (bad : Nat) (most : Int) : Int × List UInt8 × Nat :=
  if bad ≠ 0 then (0, rest, bad) else if (dec rest).2.2 ≠ 0 then (0, rest, (dec rest).2.2)
  else if most < 0 ∨ most < ((dec rest).1 : Int) then (0, rest, 8) else ((dec rest).1, rest.drop (dec rest).2.1, 0)
theorem numS_len (rest : List UInt8) (bad : Nat) : (numS rest bad).2.1.length ≤ rest.length ∧ (numS rest bad).1 < 18446744073709551616 := by
  have := (dec_fit rest).1
  unfold numS; split
  · simp
  · simp; omega
theorem xor_neg {a : Nat} (h : a < 9223372036854775808) : bXor .i64 (a : Int) (-1) = -(a : Int) - 1 := by
  unfold bXor
  show IntKind.i64.wrap ((BitVec.ofInt 64 (a : Int) ^^^ BitVec.ofInt 64 (-1)).toNat : Int) = _
  have e1 : BitVec.ofInt 64 (-1) = BitVec.allOnes 64 := by decide
  rw [e1, BitVec.xor_allOnes, BitVec.toNat_not, BitVec.ofInt_natCast, BitVec.toNat_ofNat, Nat.mod_eq_of_lt (by simp only [Nat.reducePow]; omega), w64']
  simp only [Nat.reducePow]
  omega
theorem xor_zero {a : Nat} (h : a < 9223372036854775808) : bXor .i64 (a : Int) 0 = (a : Int) := by
  unfold bXor
  show IntKind.i64.wrap ((BitVec.ofInt 64 (a : Int) ^^^ BitVec.ofInt 64 0).toNat : Int) = _
  have e1 : BitVec.ofInt 64 0 = 0#64 := by decide
  rw [e1, BitVec.xor_zero, BitVec.ofInt_natCast, BitVec.toNat_ofNat, Nat.mod_eq_of_lt (by simp only [Nat.reducePow]; omega), w64 ⟨by omega, by omega⟩]
theorem unzig_eq {v : Nat} (h : v < 18446744073709551616) : bXor .i64 (IntKind.i64.wrap (shR .u64 (v : Int) 1)) (IntKind.i64.wrap (0 - IntKind.i64.wrap (bAnd .u64 (v : Int) 1))) = unzig v := by
  have e1 : shR .u64 (v : Int) 1 = ((v / 2 : Nat) : Int) := by rw [show (1 : Int) = ((1 : Nat) : Int) from rfl, shrC h]
  have e2 : bAnd .u64 (v : Int) 1 = ((v % 2 : Nat) : Int) := by
    rw [show (1 : Int) = ((1 : Nat) : Int) from rfl, and_u64 h (by omega), show (1 : Nat) = 2 ^ 1 - 1 from rfl, Nat.and_two_pow_sub_one_eq_mod]
  rw [e1, e2, w64 (x := ((v / 2 : Nat) : Int)) ⟨by omega, by omega⟩, w64 (x := ((v % 2 : Nat) : Int)) ⟨by omega, by omega⟩, w64 ⟨by omega, by omega⟩]
  unfold unzig
  rcases Nat.mod_two_eq_zero_or_one v with e | e
  · rw [e, if_neg (by omega)]; exact xor_zero (by omega)
  · rw [e, if_pos rfl]; exact xor_neg (by omega)
theorem unzig_zig (n : Int) : unzig (zig n) = n := by unfold unzig zig; split <;> split <;> omega
end Go.VC

namespace Go.Proofs.YtomajpihimlcjaaDoor.V
open Go Go.VC
variable {w w' w0 : World} {r x : Nat} {rest s : List UInt8} {bad : Nat}

/-- The program's reader: what is left, and the error. -/
def RdS (w : World) (r : Nat) (rest : List UInt8) (bad : Nat) : Prop :=
  ∃ (s : List UInt8) (at_ : Nat), Blk w r [.string (bs8 s), .int .i64 (at_ : Int), .int .i64 (bad : Int)] 133 ∧ at_ ≤ s.length ∧ s.drop at_ = rest ∧ s.length ≤ 1099511627776
/-- The plain reader. -/
def RfS (w : World) (x : Nat) (rest : List UInt8) (bad : Nat) : Prop :=
  Blk w x [.string (bs8 rest), .int .i64 (bad : Int)] 80 ∧ rest.length ≤ 1099511627776
theorem RdS.kp {S : Nat → Prop} (h : RdS w r rest bad) (g : Kp S w w') (hn : ¬ S r) : RdS w' r rest bad := by
  obtain ⟨s, a, hb, h1, h2, h3⟩ := h
  exact ⟨s, a, hb.kp g hn, h1, h2, h3⟩
theorem RfS.kp {S : Nat → Prop} (h : RfS w x rest bad) (g : Kp S w w') (hn : ¬ S x) : RfS w' x rest bad := ⟨h.1.kp g hn, h.2⟩
theorem RdS.lt (h : RdS w r rest bad) : r < w.heap.size := by obtain ⟨s, a, hb, _⟩ := h; exact hb.lt
theorem RdS.len (h : RdS w r rest bad) : rest.length ≤ 1099511627776 := by
  obtain ⟨s, a, _, _, rfl, h3⟩ := h; rw [List.length_drop]; omega

theorem openR (w : World) (s : List UInt8) (hs : s.length ≤ 1099511627776) : Calls Tryd.prog 40 #[.string (bs8 s)] w (Rv fun v w' => v = .pointer (some ⟨w.heap.size, 0, none⟩) ∧ RdS w' w.heap.size s 0 ∧ Kp no w w') := by
  refine c40 _ _ _ ?_
  unfold B40
  exact ⟨rfl, ⟨s, 0, Blk.new _ _ _, by omega, rfl, hs⟩, (Kp.refl _ _).alloc _ _⟩

theorem qLeft (h : RdS w r rest bad) : IsK 46 #[.pointer (some ⟨r, 0, none⟩)] w (.int .i64 (rest.length : Int)) := by
  obtain ⟨s, a, hb, h1, rfl, h3⟩ := h
  refine c46 _ _ _ ?_
  unfold B46
  refine ⟨_, hb.drew.cell 0, _, hb.drew.cell 1, ?_, (Kp.refl _ _).drew⟩
  rw [bs8_size, List.length_drop, w64 ⟨by omega, by omega⟩]
  congr 1; omega
theorem qErr (h : RdS w r rest bad) : Is 47 #[.pointer (some ⟨r, 0, none⟩)] w (.int .i64 (bad : Int)) := by
  obtain ⟨s, a, hb, h1, rfl, h3⟩ := h
  refine c47 _ _ _ ?_
  unfold B47
  exact ⟨_, hb.cell 2, rfl, rfl⟩
def endS (rest : List UInt8) (bad : Nat) : Nat := if bad = 0 ∧ rest ≠ [] then 3 else bad
/-- One step of the reader: what the closure answers is taken. -/
theorem step1 {a : Nat} (h : Blk w r [.string (bs8 s), .int .i64 (a : Int), .int .i64 0] 133) (ha : a ≤ s.length) (hs : s.length ≤ 1099511627776) {g : Nat} (hg : G g = true) {cap : Array Value} {Q : Nat → Nat → World → Prop}
    (hc : Calls Tryd.prog g ⟨.string (bs8 (s.drop a)) :: cap.toList⟩ w.drew (Rv fun v w' => ∃ n e : Nat, v = .tuple #[.int .i64 (n : Int), .int .i64 (e : Int)] ∧ Q n e w' ∧ Blk w' r [.string (bs8 s), .int .i64 (a : Int), .int .i64 0] 133 ∧ (e = 0 → n ≤ 1099511627776))) :
    Calls Tryd.prog 139 #[.pointer (some ⟨r, 0, none⟩), .func (.func g) #[] cap] w (Rv fun v w' => ∃ n e w1 i u, Q n e w1 ∧ v = .bool (decide (e = 0)) ∧ w' = w1.setCell (Addr.add ⟨r, 0, none⟩ i) u ∧
      Blk w' r [.string (bs8 s), .int .i64 ((if e = 0 then a + n else a : Nat) : Int), .int .i64 (e : Int)] 133) := by
  refine c139 _ _ _ _ ?_
  unfold B139
  refine ⟨_, h.cell 2, br_not (br_dec (fun _ => ?_) (fun h => absurd rfl h))⟩
  refine ⟨_, h.drew.cell 0, _, h.drew.cell 1, by omega, by rw [bs8_size]; omega, by omega, ?_⟩
  rw [Int.toNat_natCast, Int.toNat_natCast, drop_extract]
  unfold CallFV
  simp only [hg]
  refine use hc ?_
  rintro _ w5 ⟨n, e, rfl, hq, hb, hn⟩
  refine ⟨_, _, rfl, br_not (br_dec (fun h1 => ?_) (fun h1 => ?_))⟩
  · have he : e = 0 := by omega
    subst he
    have := hn rfl
    refine ⟨_, hb.cell 1, ⟨_, hb.cell 1⟩, hb.frozen 1, n, 0, w5, 1, _, hq, rfl, rfl, ?_⟩
    have hb2 := hb.set 1 (.int .i64 (IntKind.i64.wrap ((a : Int) + n)))
    rw [w64 ⟨by omega, by omega⟩] at hb2 ⊢
    rw [if_pos rfl, Int.natCast_add]
    exact hb2
  · refine ⟨⟨_, hb.cell 2⟩, hb.frozen 2, n, e, w5, 2, _, hq, ?_, rfl, ?_⟩
    · rw [decide_eq_false (by omega)]
    · rw [if_neg (by omega)]
      exact hb.set 2 _
theorem stepBad (h : RdS w r rest bad) (hbad : bad ≠ 0) (fv : Value) : Is 139 #[.pointer (some ⟨r, 0, none⟩), fv] w (.bool false) := by
  obtain ⟨s, a, hb, h1, rfl, h3⟩ := h
  refine c139 _ _ _ _ ?_
  unfold B139
  exact ⟨_, hb.cell 2, br_not (br_dec (fun h => absurd h (by omega)) (fun _ => ⟨rfl, rfl⟩))⟩

/-- What an operation of the reader leaves. -/
abbrev After (w : World) (r : Nat) (rest : List UInt8) (bad : Nat) (w' : World) : Prop := RdS w' r rest bad ∧ Kp (fun k => k = r) w w'

theorem g_Raw : G 145 = true := by decide
theorem g_Upto : G 140 = true := by decide
theorem g_Fail : G 143 = true := by decide

end Go.Proofs.YtomajpihimlcjaaDoor.V

namespace Go.Proofs.YtomajpihimlcjaaDoor.V
open Go Go.VC
variable {w w' w0 : World} {r x : Nat} {rest s : List UInt8} {bad : Nat}

/-- Two new cells, the second one written once more. -/
theorem two_cells (w : World) (u v v2 : Value) (t1 t2 : TypeId) :
    (∃ q, ((w.alloc (.cells #[u] t1)).alloc (.cells #[v] t2)).cell? ⟨(w.alloc (.cells #[u] t1)).heap.size, 0, none⟩ = some q) ∧
    ((w.alloc (.cells #[u] t1)).alloc (.cells #[v] t2)).frozen? ⟨(w.alloc (.cells #[u] t1)).heap.size, 0, none⟩ = false ∧
    Kp no w (((w.alloc (.cells #[u] t1)).alloc (.cells #[v] t2)).setCell ⟨(w.alloc (.cells #[u] t1)).heap.size, 0, none⟩ v2) ∧
    Blk (((w.alloc (.cells #[u] t1)).alloc (.cells #[v] t2)).setCell ⟨(w.alloc (.cells #[u] t1)).heap.size, 0, none⟩ v2) w.heap.size [u] t1 ∧
    Blk (((w.alloc (.cells #[u] t1)).alloc (.cells #[v] t2)).setCell ⟨(w.alloc (.cells #[u] t1)).heap.size, 0, none⟩ v2) (w.alloc (.cells #[u] t1)).heap.size [v2] t2 ∧
    (w.alloc (.cells #[u] t1)).heap.size = w.heap.size + 1 := by
  have h1 : Blk ((w.alloc (.cells #[u] t1)).alloc (.cells #[v] t2)) (w.alloc (.cells #[u] t1)).heap.size [v] t2 := Blk.new _ _ _
  have h0 : Blk ((w.alloc (.cells #[u] t1)).alloc (.cells #[v] t2)) w.heap.size [u] t1 := (Blk.new w [u] t1).alloc _
  have hs : (w.alloc (.cells #[u] t1)).heap.size = w.heap.size + 1 := World.size_alloc _ _
  refine ⟨⟨_, h1.cell0 0⟩, h1.frozen 0, (((Kp.refl _ _).alloc _ _).alloc _ _).set _ _ (fun h => by rw [hs] at h; simp only at h; omega), h0.set_other _ _ (by rw [hs]; simp only; omega), h1.set 0 _, hs⟩

theorem qRaw (h : RdS w r rest bad) (most : Int) (hm : most ≤ 9223372036854775807) :
    Calls Tryd.prog 120 #[.pointer (some ⟨r, 0, none⟩), .int .i64 most] w (Rv fun v w' => v = .string (bs8 (rawS rest bad most).1) ∧ After w r (rawS rest bad most).2.1 (rawS rest bad most).2.2 w') := by
  refine c120 _ _ _ _ ?_
  unfold B120
  obtain ⟨p1, p2, k1, hc0, hc1, hsz⟩ := two_cells w (.int .i64 most) (.string ByteArray.empty) (.string (⟨#[]⟩ : ByteArray)) 3 9
  refine ⟨p1, p2, ?_⟩
  have hr := h.lt
  generalize ((w.alloc (.cells #[.int .i64 most] 3)).alloc (.cells #[.string ByteArray.empty] 9)).setCell ⟨(w.alloc (.cells #[.int .i64 most] 3)).heap.size, 0, none⟩ (.string (⟨#[]⟩ : ByteArray)) = w1 at *
  rw [hsz] at hc1 ⊢
  clear p1 p2
  by_cases hbad : bad = 0
  · subst hbad
    obtain ⟨s, a, hb, h1, rfl, h3⟩ := h
    have hb1 : Blk w1 r [.string (bs8 s), .int .i64 (a : Int), .int .i64 0] 133 := hb.kp k1 id
    have hdl : (s.drop a).length ≤ 1099511627776 := by rw [List.length_drop]; omega
    generalize hrest : s.drop a = rest at *
    have hal : s.length = a + rest.length := by rw [← hrest, List.length_drop]; omega
    refine use (step1 hb1 h1 h3 g_Raw (Q := fun n e w' => (e = 0 → rest.drop n = (rawS rest 0 most).2.1 ∧ n ≤ rest.length ∧ (rawS rest 0 most).2.2 = 0) ∧ (e ≠ 0 → rest = (rawS rest 0 most).2.1 ∧ (rawS rest 0 most).2.2 = e) ∧ Blk w' (w.heap.size + 1) [.string (bs8 (rawS rest 0 most).1)] 9 ∧ Kp (fun k => k = w.heap.size + 1) w1 w') ?_) ?_
    · rw [hrest]
      refine c145 _ _ _ _ _ ?_
      unfold B145
      have kd : Kp (fun k => k = w.heap.size + 1) w1 w1.drew := (Kp.refl _ _).drew
      have hcd := hc0.drew
      refine ⟨_, hcd.cell0 0, br_dec (fun h2 => ?_) (fun h2 => ⟨_, hcd.cell0 0, br_dec (fun h4 => ?_) (fun h4 => ?_)⟩)⟩
      · have ht : rawS rest 0 most = ([], rest, 1) := by unfold rawS; rw [if_neg (by simp), if_pos h2]
        rw [ht]
        exact ⟨0, 1, rfl, ⟨fun h => absurd h (by omega), fun _ => ⟨rfl, rfl⟩, hc1.drew, kd⟩, hb1.drew, fun h => absurd h (by omega)⟩
      · rw [bs8_size] at h4
        have ht : rawS rest 0 most = ([], rest, 2) := by unfold rawS; rw [if_neg (by simp), if_neg h2, if_pos h4]
        rw [ht]
        exact ⟨0, 2, rfl, ⟨fun h => absurd h (by omega), fun _ => ⟨rfl, rfl⟩, hc1.drew, kd⟩, hb1.drew, fun h => absurd h (by omega)⟩
      · rw [bs8_size] at h4
        have ht : rawS rest 0 most = (rest.take most.toNat, rest.drop most.toNat, 0) := by unfold rawS; rw [if_neg (by simp), if_neg h2, if_neg h4]
        rw [ht]
        have e0 : Int.toNat (0 : Int) = 0 := rfl
        refine ⟨_, hcd.cell0 0, by omega, by omega, by rw [bs8_size]; omega, ⟨_, hc1.drew.cell0 0⟩, hc1.drew.frozen 0, _, (hcd.set_other _ _ (by simp only; omega)).cell0 0, most.toNat, 0, ?_, ⟨fun _ => ⟨rfl, by omega, rfl⟩, fun h => absurd rfl h, ?_, kd.set _ _ (fun _ => rfl)⟩, hb1.drew.set_other _ _ (by simp only; omega), fun _ => by omega⟩
        · rw [Int.toNat_of_nonneg (by omega)]; rfl
        · have := hc1.drew.set 0 (.string ((bs8 rest).extract (Int.toNat 0) (Int.toNat most)))
          rw [e0, take_extract] at this ⊢
          exact this
    · rintro _ _ ⟨n, e, w2, i, u, ⟨q1, q2, hc2, k2⟩, rfl, rfl, hb3⟩
      refine ⟨_, rfl, _, (hc2.set_other _ _ (by rw [add_block]; simp only; omega)).cell0 0, rfl, ?_, ((k1.mono (fun _ _ f => f.elim)).trans k2 (fun k hk e => by omega)).set _ _ (fun _ => by rw [add_block])⟩
      by_cases he : e = 0
      · rw [if_pos he] at hb3
        obtain ⟨q3, q4, q5⟩ := q1 he
        rw [q5]
        refine ⟨s, a + n, ?_, by omega, ?_, h3⟩
        · subst he; exact hb3
        · rw [← q3, ← hrest, List.drop_drop]
      · rw [if_neg he] at hb3
        obtain ⟨q3, q4⟩ := q2 he
        rw [q4, ← q3]
        exact ⟨s, a, hb3, h1, hrest, h3⟩
  · refine usei (stepBad (h.kp k1 id) hbad _) ⟨_, rfl, _, hc1.cell0 0, ?_⟩
    have ht : rawS rest bad most = ([], rest, bad) := by unfold rawS; rw [if_pos hbad]
    rw [ht]
    exact ⟨rfl, h.kp k1 id, k1.mono (fun _ _ f => f.elim)⟩

theorem qUpto (h : RdS w r rest bad) (most : Int) (hm : most ≤ 9223372036854775807) :
    Calls Tryd.prog 112 #[.pointer (some ⟨r, 0, none⟩), .int .i64 most] w (Rv fun v w' => v = .int .i64 (uptoS rest bad most).1 ∧ After w r (uptoS rest bad most).2.1 (uptoS rest bad most).2.2 w') := by
  refine c112 _ _ _ _ ?_
  unfold B112
  obtain ⟨p1, p2, k1, hc0, hc1, hsz⟩ := two_cells w (.int .i64 most) (.int .i64 0) (.int .i64 0) 3 3
  refine ⟨p1, p2, ?_⟩
  have hr := h.lt
  generalize ((w.alloc (.cells #[.int .i64 most] 3)).alloc (.cells #[.int .i64 0] 3)).setCell ⟨(w.alloc (.cells #[.int .i64 most] 3)).heap.size, 0, none⟩ (.int .i64 0) = w1 at *
  rw [hsz] at hc1 ⊢
  clear p1 p2
  by_cases hbad : bad = 0
  · subst hbad
    obtain ⟨s, a, hb, h1, rfl, h3⟩ := h
    have hb1 : Blk w1 r [.string (bs8 s), .int .i64 (a : Int), .int .i64 0] 133 := hb.kp k1 id
    have hfit := dec_fit (s.drop a)
    have hdl : (s.drop a).length ≤ 1099511627776 := by rw [List.length_drop]; omega
    generalize hrest : s.drop a = rest at *
    have hal : s.length = a + rest.length := by rw [← hrest, List.length_drop]; omega
    refine use (step1 hb1 h1 h3 g_Upto (Q := fun n e w' => (e = 0 → rest.drop n = (uptoS rest 0 most).2.1 ∧ n ≤ rest.length ∧ (uptoS rest 0 most).2.2 = 0) ∧ (e ≠ 0 → rest = (uptoS rest 0 most).2.1 ∧ (uptoS rest 0 most).2.2 = e) ∧ Blk w' (w.heap.size + 1) [.int .i64 (uptoS rest 0 most).1] 3 ∧ Kp (fun k => k = w.heap.size + 1) w1 w') ?_) ?_
    · rw [hrest]
      refine c140 _ _ _ _ _ ?_
      unfold B140
      have kd : Kp (fun k => k = w.heap.size + 1) w1 w1.drew := (Kp.refl _ _).drew
      have hcd := hc0.drew
      have hc1d := hc1.drew
      refine usei (number w1.drew rest hdl) ⟨_, _, _, rfl, br_dec (fun he => ⟨_, hcd.cell0 0, br_dec (fun h2 => ?_) (fun h2 => ⟨_, hcd.cell0 0, br_dec (fun h4 => ?_) (fun h4 => br_dec (fun _ => ?_) (fun h => absurd he h))⟩)⟩) (fun he => br_dec (fun h => absurd h he) (fun _ => ?_))⟩
      · have ht : uptoS rest 0 most = (0, rest, 8) := by unfold uptoS; rw [if_neg (by simp), if_neg (by omega), if_pos (.inl h2)]
        rw [ht]
        exact ⟨(dec rest).2.1, 8, rfl, ⟨fun h => absurd h (by omega), fun _ => ⟨rfl, rfl⟩, hc1d, kd⟩, hb1.drew, fun h => absurd h (by omega)⟩
      · rw [wu64 ⟨by omega, by omega⟩] at h4
        have ht : uptoS rest 0 most = (0, rest, 8) := by unfold uptoS; rw [if_neg (by simp), if_neg (by omega), if_pos (.inr h4)]
        rw [ht]
        exact ⟨(dec rest).2.1, 8, rfl, ⟨fun h => absurd h (by omega), fun _ => ⟨rfl, rfl⟩, hc1d, kd⟩, hb1.drew, fun h => absurd h (by omega)⟩
      · rw [wu64 ⟨by omega, by omega⟩] at h4
        have he0 : (dec rest).2.2 = 0 := by omega
        have ht : uptoS rest 0 most = (((dec rest).1 : Int), rest.drop (dec rest).2.1, 0) := by unfold uptoS; rw [if_neg (by simp), if_neg (by omega), if_neg (by omega)]
        rw [ht]
        rw [w64 (x := ((dec rest).1 : Nat)) ⟨by omega, by omega⟩, he0]
        exact ⟨⟨_, hc1d.cell0 0⟩, hc1d.frozen 0, (dec rest).2.1, 0, rfl, ⟨fun _ => ⟨rfl, by omega, rfl⟩, fun h => absurd rfl h, hc1d.set 0 _, kd.set _ _ (fun _ => rfl)⟩, hb1.drew.set_other _ _ (by simp only; omega), fun _ => by omega⟩
      · have ht : uptoS rest 0 most = (0, rest, (dec rest).2.2) := by unfold uptoS; rw [if_neg (by simp), if_pos (by omega)]
        rw [ht]
        exact ⟨(dec rest).2.1, (dec rest).2.2, rfl, ⟨fun h => absurd h (by omega), fun _ => ⟨rfl, rfl⟩, hc1d, kd⟩, hb1.drew, fun h => absurd h (by omega)⟩
    · rintro _ _ ⟨n, e, w2, i, u, ⟨q1, q2, hc2, k2⟩, rfl, rfl, hb3⟩
      refine ⟨_, rfl, _, (hc2.set_other _ _ (by rw [add_block]; simp only; omega)).cell0 0, rfl, ?_, ((k1.mono (fun _ _ f => f.elim)).trans k2 (fun k hk e => by omega)).set _ _ (fun _ => by rw [add_block])⟩
      by_cases he : e = 0
      · rw [if_pos he] at hb3
        obtain ⟨q3, q4, q5⟩ := q1 he
        rw [q5]
        refine ⟨s, a + n, ?_, by omega, ?_, h3⟩
        · subst he; exact hb3
        · rw [← q3, ← hrest, List.drop_drop]
      · rw [if_neg he] at hb3
        obtain ⟨q3, q4⟩ := q2 he
        rw [q4, ← q3]
        exact ⟨s, a, hb3, h1, hrest, h3⟩
  · refine usei (stepBad (h.kp k1 id) hbad _) ⟨_, rfl, _, hc1.cell0 0, ?_⟩
    have ht : uptoS rest bad most = (0, rest, bad) := by unfold uptoS; rw [if_pos hbad]
    rw [ht]
    exact ⟨rfl, h.kp k1 id, k1.mono (fun _ _ f => f.elim)⟩

theorem qFail (h : RdS w r rest bad) (e : Nat) (he : e ≠ 0) :
    Calls Tryd.prog 114 #[.pointer (some ⟨r, 0, none⟩), .int .i64 (e : Int)] w (Rv fun v w' => v = .tuple #[] ∧ After w r rest (if bad = 0 then e else bad) w') := by
  refine c114 _ _ _ _ ?_
  unfold B114
  have k1 : Kp no w (w.alloc (.cells #[.int .i64 (e : Int)] 41)) := (Kp.refl _ _).alloc _ _
  have hr := h.lt
  by_cases hbad : bad = 0
  · subst hbad
    obtain ⟨s, a, hb, h1, rfl, h3⟩ := h
    have hb1 : Blk (w.alloc (.cells #[.int .i64 (e : Int)] 41)) r [.string (bs8 s), .int .i64 (a : Int), .int .i64 0] 133 := hb.kp k1 id
    have hc1 : Blk (w.alloc (.cells #[.int .i64 (e : Int)] 41)) w.heap.size [.int .i64 (e : Int)] 41 := Blk.new _ _ _
    generalize w.alloc (.cells #[.int .i64 (e : Int)] 41) = w1 at *
    refine use (step1 hb1 h1 h3 g_Fail (Q := fun n e' w' => e' = e ∧ Kp no w1 w') ?_) ?_
    · refine c143 _ _ _ _ ?_
      unfold B143
      exact ⟨_, hc1.drew.drew.cell0 0, 0, e, rfl, ⟨rfl, (Kp.refl _ _).drew.drew⟩, hb1.drew.drew, fun h => absurd h he⟩
    · rintro _ _ ⟨n, _, w2, i, u, ⟨rfl, k2⟩, rfl, rfl, hb3⟩
      rw [if_neg he] at hb3
      exact ⟨_, rfl, rfl, ⟨s, a, by rw [if_pos rfl]; exact hb3, h1, rfl, h3⟩, ((k1.trans k2 (fun _ _ f => f)).mono (fun _ _ f => f.elim)).set _ _ (fun _ => by rw [add_block])⟩
  · refine usei (stepBad (h.kp k1 id) hbad _) ⟨_, rfl, rfl, ?_, k1.mono (fun _ _ f => f.elim)⟩
    rw [if_neg hbad]
    exact h.kp k1 id
end Go.Proofs.YtomajpihimlcjaaDoor.V

namespace Go.VC
open Go Go.ChangeShapes Go.WideShapes
/-- A part as it came in. -/
structure P4 where
  kind : Int
  v : Int
  n : Int
  s : List UInt8

/-- A slice of such parts that came in. -/
def IsP4s (w : World) (a : Option Addr) (len : Nat) (zs : List P4) : Prop :=
  zs.length = len ∧ len ≤ maxLen ∧ ∀ i (hi : i < zs.length), (∃ b, a = some b ∧ w.cell? (Addr.add (Addr.add b (i * 4)) 0) = some (.int .i64 zs[i].kind) ∧ w.cell? (Addr.add (Addr.add b (i * 4)) 1) = some (.int .u64 zs[i].v) ∧
      w.cell? (Addr.add (Addr.add b (i * 4)) 2) = some (.int .i64 zs[i].n) ∧ w.cell? (Addr.add (Addr.add b (i * 4)) 3) = some (.string (bs8 zs[i].s))) ∧
    (Lit.int .i64 zs[i].kind).wf = true ∧ (Lit.int .u64 zs[i].v).wf = true ∧ (Lit.int .i64 zs[i].n).wf = true ∧ zs[i].s.length ≤ maxLen

theorem open_p4s {H : Type} {enc : TypeId × Value → H} {P : Program} {w : World} {t e : TypeId} {f0 f1 f2 f3 : Field} {fuel : Nat} {a : Option Addr} {len cap : Nat} {x : DataW H × List MemPlace}
    (ht : P.underlying t = some (.slice e)) (he : P.underlying e = some (.struct #[f0, f1, f2, f3])) (ce : P.cellsOf e = 4) (o0 : f0.offset = 0) (o1 : f1.offset = 1) (o2 : f2.offset = 2) (o3 : f3.offset = 3)
    (c0 : P.cellsOf f0.type = 1) (c1 : P.cellsOf f1.type = 1) (c2 : P.cellsOf f2.type = 1) (c3 : P.cellsOf f3.type = 1)
    (i0 : P.underlying f0.type = some (.int .i64)) (i1 : P.underlying f1.type = some (.int .u64)) (i2 : P.underlying f2.type = some (.int .i64)) (i3 : P.underlying f3.type = some .string)
    (h : DataW.trod enc P w 0 (fun _ => true) true fuel t (Value.slice a len cap).cells.toList = some x) : ∃ zs, IsP4s w a len zs := by
  rcases Deep.open_slice ht h with ⟨hcs, _⟩ | ⟨b, l, c, m, n, D, Pl, hcs, _, hl, hm, hmm, _, hx⟩
  · simp [Value.cells] at hcs
    obtain ⟨rfl, rfl, rfl⟩ := hcs
    exact ⟨[], rfl, Nat.zero_le _, fun i hi => absurd hi (by simp)⟩
  · simp [Value.cells] at hcs
    obtain ⟨rfl, rfl, rfl⟩ := hcs
    simp only [if_true] at hmm
    subst hmm
    have each : ∀ i, i < len → ∃ z : P4, (w.cell? (Addr.add (Addr.add b (i * 4)) 0) = some (.int .i64 z.kind) ∧ w.cell? (Addr.add (Addr.add b (i * 4)) 1) = some (.int .u64 z.v) ∧
      w.cell? (Addr.add (Addr.add b (i * 4)) 2) = some (.int .i64 z.n) ∧ w.cell? (Addr.add (Addr.add b (i * 4)) 3) = some (.string (bs8 z.s))) ∧
      (Lit.int .i64 z.kind).wf = true ∧ (Lit.int .u64 z.v).wf = true ∧ (Lit.int .i64 z.n).wf = true ∧ z.s.length ≤ maxLen := by
      intro i hi
      obtain ⟨cs', h1, h2⟩ := hx i (by omega)
      rw [ce] at h1
      obtain ⟨_, hlen, hcell⟩ := World.cells?_some h1
      obtain ⟨xs, k, hk, hxy, _, hxl, hf⟩ := DataW.trod_struct he h2
      match xs, hxl, cs', hlen with
      | [y0, y1, y2, y3], _, [v0, v1, v2, v3], _ =>
        have g0 := hf 0 f0 rfl
        have g1 := hf 1 f1 rfl
        have g2 := hf 2 f2 rfl
        have g3 := hf 3 f3 rfl
        simp [o0, o1, o2, o3, c0, c1, c2, c3] at g0 g1 g2 g3
        obtain ⟨n0, e0, _, wf0⟩ := DataW.trod_int i0 g0
        obtain ⟨n1, e1, _, wf1⟩ := DataW.trod_int i1 g1
        obtain ⟨n2, e2, _, wf2⟩ := DataW.trod_int i2 g2
        obtain ⟨s3, e3, _, wf3⟩ := DataW.trod_string i3 g3
        have q0 := hcell 0 (by omega)
        have q1 := hcell 1 (by omega)
        have q2 := hcell 2 (by omega)
        have q3 := hcell 3 (by omega)
        simp only [List.cons.injEq, and_true] at e0 e1 e2 e3
        subst e0 e1 e2 e3
        exact ⟨⟨n0, n1, n2, s3.data.toList⟩, ⟨by simpa using q0, by simpa using q1, by simpa using q2, by rw [bs8_toList]; simpa using q3⟩, wf0, wf1, wf2, by simp only [Array.length_toList]; exact wf3⟩
    obtain ⟨zs, hl2, hz⟩ := list_of len each
    exact ⟨zs, hl2, by omega, fun i hi => ⟨⟨b, rfl, (hz i hi).1⟩, (hz i hi).2⟩⟩
end Go.VC

namespace Go.Proofs.YtomajpihimlcjaaDoor.V
open Go Go.VC
variable {w w' w0 : World} {r x b : Nat} {l o : Slc} {rest s bs : List UInt8} {bad : Nat}

/-- A part, checked. -/
structure Pt where
  kind : Int
  v : Nat
  n : Int
  s : List UInt8
/-- Parts that can be read. -/
structure Rd4 (w : World) (l : Slc) (ps : List Pt) : Prop where
  len : ps.length = l.len
  small : l.len ≤ 9223372036854775807
  cel : ∀ i (hi : i < ps.length), ∃ c, l.a = some c ∧ w.cell? (Addr.add (Addr.add c (i * 4)) 0) = some (.int .i64 ps[i].kind) ∧ w.cell? (Addr.add (Addr.add c (i * 4)) 1) = some (.int .u64 ps[i].v) ∧
      w.cell? (Addr.add (Addr.add c (i * 4)) 2) = some (.int .i64 ps[i].n) ∧ w.cell? (Addr.add (Addr.add c (i * 4)) 3) = some (.string (bs8 ps[i].s))
  fit : ∀ p ∈ ps, p.v < 18446744073709551616 ∧ (-9223372036854775808 ≤ p.n ∧ p.n ≤ 9223372036854775807)
theorem Rd4.kp {ps : List Pt} (h : Rd4 w l ps) (g : Kp no w w') : Rd4 w' l ps := ⟨h.len, h.small, fun i hi => by
  obtain ⟨c, hc, h0, h1, h2, h3⟩ := h.cel i hi
  have e : w'.heap[c.block]? = w.heap[c.block]? := g.keep _ (by have := cell_lt h0; simpa [add_block] using this) id
  have ee : ∀ j, w'.cell? (Addr.add (Addr.add c (i * 4)) j) = w.cell? (Addr.add (Addr.add c (i * 4)) j) := fun j => World.cell?_of_block (w := w) (by simpa [add_block] using e)
  exact ⟨c, hc, by rw [ee, h0], by rw [ee, h1], by rw [ee, h2], by rw [ee, h3]⟩, h.fit⟩
theorem rd4_of {a : Option Addr} {len cap : Nat} {zs : List P4} (h : IsP4s w a len zs) : Rd4 w ⟨a, len, cap⟩ (zs.map fun z => ⟨z.kind, z.v.toNat, z.n, z.s⟩) := by
  have bb : ∀ i (hi : i < zs.length), 0 ≤ zs[i].v ∧ zs[i].v ≤ 18446744073709551615 := fun i hi => Go.bounds_u64 (h.2.2 i hi).2.2.1
  refine ⟨by simpa using h.1, by have := h.2.1; simp only [maxLen] at this; exact this, fun i hi => ?_, fun p hp => ?_⟩
  · rw [List.length_map] at hi
    obtain ⟨⟨c, hc, h0, h1, h2, h3⟩, _⟩ := h.2.2 i hi
    have := bb i hi
    refine ⟨c, hc, by simpa using h0, ?_, by simpa using h2, by simpa using h3⟩
    rw [h1, List.getElem_map]
    congr 2
    simp only; omega
  · obtain ⟨z, hz, rfl⟩ := List.mem_map.1 hp
    obtain ⟨i, hi, rfl⟩ := List.getElem_of_mem hz
    have := bb i hi
    have := Go.bounds_i64 (h.2.2 i hi).2.2.2.1
    simp only; omega

/-- No part is too long, and there are not too many. -/
def Short (ps : List Pt) : Prop := ps.length ≤ 40 ∧ ∀ p ∈ ps, p.s.length ≤ 300
/-- What a part is as bytes. -/
def bytesOf (p : Pt) : List UInt8 :=
  if p.kind = 0 then enc p.v else if p.kind = 1 then enc (zig p.n) else if p.kind = 2 then enc p.s.length ++ p.s else if p.kind = 3 then p.s else []
theorem bytesOf_len (p : Pt) : (bytesOf p).length ≤ 10 + p.s.length := by
  have h1 := enc_len p.v
  have h2 := enc_len (zig p.n)
  have h3 := enc_len p.s.length
  unfold bytesOf
  split
  · omega
  · split
    · omega
    · split
      · rw [List.length_append]; omega
      · split
        · omega
        · simp

/-- What parts are as bytes. -/
def bytesAll (ps : List Pt) : List UInt8 := (ps.map bytesOf).flatten
theorem bytesAll_len : ∀ (ps : List Pt), (∀ p ∈ ps, p.s.length ≤ 300) → (bytesAll ps).length ≤ 310 * ps.length
  | [], _ => by simp [bytesAll]
  | p :: ps, h => by
    have h1 := bytesAll_len ps (fun q hq => h q (List.mem_cons_of_mem _ hq))
    have h2 := bytesOf_len p
    have h3 := h p List.mem_cons_self
    have e : bytesAll (p :: ps) = bytesOf p ++ bytesAll ps := by simp [bytesAll]
    rw [e, List.length_append, List.length_cons]; omega
theorem bytesAll_snoc (ps : List Pt) (m : Nat) (hm : m < ps.length) : bytesAll (ps.take (m + 1)) = bytesAll (ps.take m) ++ bytesOf ps[m] := by
  rw [List.take_add_one, List.getElem?_eq_getElem hm]
  simp only [bytesAll, Option.toList, List.map_append, List.map_cons, List.map_nil, List.flatten_append, List.flatten_cons, List.flatten_nil, List.append_nil]

end Go.Proofs.YtomajpihimlcjaaDoor.V

namespace Go.Proofs.YtomajpihimlcjaaDoor.V
open Go Go.VC
variable {w w' w0 : World} {r x b : Nat} {l o : Slc} {rest s bs : List UInt8} {bad : Nat}

/-- What an operation of the plain reader leaves. -/
abbrev AfterX (w : World) (x : Nat) (rest : List UInt8) (bad : Nat) (w' : World) : Prop := RfS w' x rest bad ∧ Kp (fun k => k = x) w w'
theorem xBad (h : RfS w x rest bad) (e : Nat) : AfterX w x rest e (w.setCell (Addr.add ⟨x, 0, none⟩ 1) (.int .i64 (e : Int))) :=
  ⟨⟨h.1.set 1 _, h.2⟩, (Kp.refl _ _).set _ _ (fun _ => by rw [add_block])⟩
theorem xTake (h : RfS w x rest bad) {s2 : ByteArray} {rest2 : List UInt8} (hs : s2 = bs8 rest2) (hl : rest2.length ≤ 1099511627776) : AfterX w x rest2 bad (w.setCell (Addr.add ⟨x, 0, none⟩ 0) (.string s2)) := by
  subst hs
  exact ⟨⟨h.1.set 0 _, hl⟩, (Kp.refl _ _).set _ _ (fun _ => by rw [add_block])⟩

theorem xRaw (h : RfS w x rest bad) (n : Int) (hn : n ≤ 9223372036854775807) :
    Calls Tryd.prog 123 #[.pointer (some ⟨x, 0, none⟩), .int .i64 n] w (Rv fun v w' => v = .string (bs8 (rawS rest bad n).1) ∧ AfterX w x (rawS rest bad n).2.1 (rawS rest bad n).2.2 w') := by
  refine c123 _ _ _ _ ?_
  unfold B123
  refine ⟨_, h.1.cell 1, br_not (br_dec (fun hb => br_dec (fun h2 => ?_) (fun h2 => ⟨_, h.1.cell 0, br_dec (fun h4 => ?_) (fun h4 => ?_)⟩)) (fun hb => ?_))⟩
  · have hbad : bad = 0 := by omega
    subst hbad
    have ht : rawS rest 0 n = ([], rest, 1) := by unfold rawS; rw [if_neg (by simp), if_pos h2]
    rw [ht]
    exact ⟨⟨_, h.1.cell 1⟩, h.1.frozen 1, rfl, xBad h 1⟩
  · have hbad : bad = 0 := by omega
    subst hbad
    rw [bs8_size] at h4
    have ht : rawS rest 0 n = ([], rest, 2) := by unfold rawS; rw [if_neg (by simp), if_neg h2, if_pos h4]
    rw [ht]
    exact ⟨⟨_, h.1.cell 1⟩, h.1.frozen 1, rfl, xBad h 2⟩
  · have hbad : bad = 0 := by omega
    subst hbad
    have hl := h.2
    rw [bs8_size] at h4
    have ht : rawS rest 0 n = (rest.take n.toNat, rest.drop n.toNat, 0) := by unfold rawS; rw [if_neg (by simp), if_neg h2, if_neg h4]
    rw [ht]
    refine ⟨_, h.1.cell 0, by omega, by omega, by rw [bs8_size]; omega, _, h.1.cell 0, by omega, by rw [bs8_size]; omega, by omega, ⟨_, h.1.cell 0⟩, h.1.frozen 0, ?_, ?_⟩
    · rw [show Int.toNat (0 : Int) = 0 from rfl, take_extract]
    · exact xTake h (by rw [Int.toNat_natCast, drop_extract]) (by rw [List.length_drop]; omega)
  · have hbad : bad ≠ 0 := by omega
    have ht : rawS rest bad n = ([], rest, bad) := by unfold rawS; rw [if_pos hbad]
    rw [ht]
    exact ⟨rfl, h, Kp.refl _ _⟩

theorem xUpto (h : RfS w x rest bad) (most : Int) (hm : most ≤ 9223372036854775807) :
    Calls Tryd.prog 130 #[.pointer (some ⟨x, 0, none⟩), .int .i64 most] w (Rv fun v w' => v = .int .i64 (uptoS rest bad most).1 ∧ AfterX w x (uptoS rest bad most).2.1 (uptoS rest bad most).2.2 w') := by
  refine c130 _ _ _ _ ?_
  unfold B130
  refine ⟨_, h.1.cell 1, br_not (br_dec (fun hb => ⟨_, h.1.cell 0, usei (first w rest) ⟨_, _, _, rfl, ?_⟩⟩) (fun hb => ?_))⟩
  · have hbad : bad = 0 := by omega
    subst hbad
    have hfit := dec_fit rest
    have hl := h.2
    have setBad : ∀ (e : Nat), uptoS rest 0 most = (0, rest, e) → (Value.int .i64 0) = .int .i64 (uptoS rest 0 most).1 ∧ AfterX w x (uptoS rest 0 most).2.1 (uptoS rest 0 most).2.2 (w.setCell (Addr.add ⟨x, 0, none⟩ 1) (.int .i64 (e : Int))) := fun e ht => by
      rw [ht]; exact ⟨rfl, xBad h e⟩
    refine br_dec (fun he => br_dec (fun h2 => ?_) (fun h2 => br_dec (fun h4 => ?_) (fun h4 => ?_))) (fun he => ?_)
    · exact ⟨⟨_, h.1.cell 1⟩, h.1.frozen 1, setBad 8 (by unfold uptoS; rw [if_neg (by simp), if_neg (by omega), if_pos (.inl h2)])⟩
    · rw [wu64 ⟨by omega, by omega⟩] at h4
      exact ⟨⟨_, h.1.cell 1⟩, h.1.frozen 1, setBad 8 (by unfold uptoS; rw [if_neg (by simp), if_neg (by omega), if_pos (.inr h4)])⟩
    · rw [wu64 ⟨by omega, by omega⟩] at h4
      have ht : uptoS rest 0 most = (((dec rest).1 : Int), rest.drop (dec rest).2.1, 0) := by unfold uptoS; rw [if_neg (by simp), if_neg (by omega), if_neg (by omega)]
      rw [ht]
      have he0 : (dec rest).2.2 = 0 := by omega
      rw [he0]
      have hx := xBad h 0
      refine ⟨⟨_, h.1.cell 1⟩, h.1.frozen 1, ?_⟩
      generalize w.setCell (Addr.add ⟨x, 0, none⟩ 1) (.int .i64 ((0 : Nat) : Int)) = w2 at *
      refine br_not (br_dec (fun _ => ?_) (fun h => absurd rfl h))
      have hb0 := hx.1.1
      have hq := xTake hx.1 (s2 := (bs8 rest).extract (Int.toNat ((dec rest).2.1 : Nat)) (Int.toNat ((bs8 rest).size : Int))) (rest2 := rest.drop (dec rest).2.1) (by rw [Int.toNat_natCast, Int.toNat_natCast, drop_extract]) (by rw [List.length_drop]; omega)
      exact ⟨_, hb0.cell 0, by omega, by rw [bs8_size]; omega, by omega, ⟨_, hb0.cell 0⟩, hb0.frozen 0, by rw [w64 ⟨by omega, by omega⟩], hq.1, hx.2.trans hq.2 (fun _ _ f => f)⟩
    · exact ⟨⟨_, h.1.cell 1⟩, h.1.frozen 1, br_not (br_dec (fun h => absurd h he) (fun _ => setBad _ (by unfold uptoS; rw [if_neg (by simp), if_pos (by omega)])))⟩
  · have hbad : bad ≠ 0 := by omega
    have ht : uptoS rest bad most = (0, rest, bad) := by unfold uptoS; rw [if_pos hbad]
    rw [ht]
    exact ⟨rfl, h, Kp.refl _ _⟩

/-- What a part's read leaves: what is left and the error. -/
def readS (rest : List UInt8) (bad : Nat) (p : Pt) : List UInt8 × Nat :=
  if p.kind = 0 then (numS rest bad).2 else if p.kind = 1 then (numS rest bad).2 else if p.kind = 2 then (textS rest bad p.n).2 else if p.kind = 3 then (rawS rest bad p.n).2
  else if p.kind = 4 then (uptoS rest bad p.n).2 else if 1 ≤ p.n ∧ p.n ≤ 12 then (rest, if bad = 0 then p.n.toNat else bad) else (rest, bad)

end Go.Proofs.YtomajpihimlcjaaDoor.V

namespace Go.VC
open Go
theorem numS_enc (v : Nat) (hv : v < 18446744073709551616) (t : List UInt8) : numS (enc v ++ t) 0 = (v, t, 0) := by
  unfold numS
  rw [if_neg (by simp), dec_enc v hv t]
  simp
theorem textS_enc (s t : List UInt8) (hs : s.length < 9223372036854775808) : textS (enc s.length ++ s ++ t) 0 (s.length : Int) = (s, t, 0) := by
  unfold textS
  rw [if_neg (by simp), List.append_assoc, dec_enc s.length (by omega) (s ++ t)]
  simp only [List.length_append]
  rw [if_neg (by omega), if_neg (by omega), if_neg (by omega)]
  simp [← List.drop_drop]
theorem rawS_app (s t : List UInt8) : rawS (s ++ t) 0 (s.length : Int) = (s, t, 0) := by
  unfold rawS
  rw [if_neg (by simp), if_neg (by omega), if_neg (by simp; omega)]
  simp
end Go.VC
namespace Go.Proofs.YtomajpihimlcjaaDoor.V
open Go Go.VC
variable {w w' w0 : World} {r x b : Nat} {l o : Slc} {rest s bs : List UInt8} {bad : Nat}

theorem copy4 (w : World) (k v n s z0 z1 z2 z3 : Value) (T : TypeId) :
    Blk (w.alloc (.cells #[z0, z1, z2, z3] T)) w.heap.size [z0, z1, z2, z3] T ∧
    Blk ((w.alloc (.cells #[z0, z1, z2, z3] T)).setCell (Addr.add ⟨w.heap.size, 0, none⟩ 0) k) w.heap.size [k, z1, z2, z3] T ∧
    Blk (((w.alloc (.cells #[z0, z1, z2, z3] T)).setCell (Addr.add ⟨w.heap.size, 0, none⟩ 0) k).setCell (Addr.add ⟨w.heap.size, 0, none⟩ 1) v) w.heap.size [k, v, z2, z3] T ∧
    Blk ((((w.alloc (.cells #[z0, z1, z2, z3] T)).setCell (Addr.add ⟨w.heap.size, 0, none⟩ 0) k).setCell (Addr.add ⟨w.heap.size, 0, none⟩ 1) v).setCell (Addr.add ⟨w.heap.size, 0, none⟩ 2) n) w.heap.size [k, v, n, z3] T ∧
    Blk (((((w.alloc (.cells #[z0, z1, z2, z3] T)).setCell (Addr.add ⟨w.heap.size, 0, none⟩ 0) k).setCell (Addr.add ⟨w.heap.size, 0, none⟩ 1) v).setCell (Addr.add ⟨w.heap.size, 0, none⟩ 2) n).setCell (Addr.add ⟨w.heap.size, 0, none⟩ 3) s) w.heap.size [k, v, n, s] T ∧
    Kp no w (((((w.alloc (.cells #[z0, z1, z2, z3] T)).setCell (Addr.add ⟨w.heap.size, 0, none⟩ 0) k).setCell (Addr.add ⟨w.heap.size, 0, none⟩ 1) v).setCell (Addr.add ⟨w.heap.size, 0, none⟩ 2) n).setCell (Addr.add ⟨w.heap.size, 0, none⟩ 3) s) := by
  have b0 := Blk.new w [z0, z1, z2, z3] T
  have b1 := b0.set 0 k
  have b2 := b1.set 1 v
  have b3 := b2.set 2 n
  have b4 := b3.set 3 s
  refine ⟨b0, b1, b2, b3, b4, ?_⟩
  have hk : ∀ i, (Addr.add ⟨w.heap.size, 0, none⟩ i).block < w.heap.size → no (Addr.add ⟨w.heap.size, 0, none⟩ i).block := fun i h => by rw [add_block] at h; simp only at h; omega
  exact (((((Kp.refl _ _).alloc _ _).set _ _ (hk 0)).set _ _ (hk 1)).set _ _ (hk 2)).set _ _ (hk 3)

theorem bytesAll_cons (p : Pt) (ps : List Pt) : bytesAll (p :: ps) = bytesOf p ++ bytesAll ps := by simp [bytesAll]

end Go.Proofs.YtomajpihimlcjaaDoor.V
