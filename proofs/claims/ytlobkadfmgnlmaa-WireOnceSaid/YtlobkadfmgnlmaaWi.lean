/- What the writer and the plain encoders compute. -/
import Derived.Test.YtlobkadfmgnlmaaLn
import Derived.Test.YtlobkadfmgnlmaaBy
import Derived.Test.YtlobkadfmgnlmaaBW
import Derived.Test.YtlobkadfmgnlmaaIs
namespace Go.Proofs.Ytlobkadfmgnlmaa.V
open Go Go.VC
variable {w w' w0 : World} {l o : Slc} {bs : List UInt8} {b : Nat}

theorem el8 : El Try.prog 33 5 1 1 := El.of (by kernel_rfl) (by kernel_rfl)
theorem und8s : Try.prog.underlying 33 = some (.slice 5) := by kernel_rfl
theorem und8 : Try.prog.underlying 5 = some (.int .u8) := by kernel_rfl
theorem undS : Try.prog.underlying 9 = some .string := by kernel_rfl

/-- A writer and its bytes, and what it has left as it was since. -/
structure Ws (w0 : World) (b : Nat) (l : Slc) (w : World) (o : Slc) (bs : List UInt8) : Prop where
  blk : Blk w b [.slice o.a o.len o.cap] 35
  own : Ownd w o 5 1 (bs.map V8)
  ne : ¬ On o b
  kp : Kp (RF b l) w0 w
  fr : ∀ k, On o k → On l k ∨ w0.heap.size ≤ k
theorem Ws.olen (h : Ws w0 b l w o bs) : o.len = bs.length := by have := h.own.len; simpa using this.symm
theorem Ws.kpo (h : Ws w0 b l w o bs) (g : Kp no w w') : Ws w0 b l w' o bs := ⟨h.blk.kp g (fun f => f), h.own.kp g (fun _ _ f => f), h.ne, h.kp.trans g (fun _ _ f => f.elim), h.fr⟩
/-- One step: the writer's slice is another, its bytes are more. -/
theorem Ws.step {w2 : World} {o2 : Slc} {bs2 : List UInt8} (h : Ws w0 b l w o bs) (ho2 : Ownd w2 o2 5 1 (bs2.map V8)) (hk2 : Kp (On o) w w2) (hf2 : ∀ k, On o2 k → On o k ∨ w.heap.size ≤ k) :
    (∃ u, w2.cell? (Addr.add ⟨b, 0, none⟩ 0) = some u) ∧ w2.frozen? (Addr.add ⟨b, 0, none⟩ 0) = false ∧ Ws w0 b l (w2.setCell (Addr.add ⟨b, 0, none⟩ 0) (.slice o2.a o2.len o2.cap)) o2 bs2 := by
  have hb2 : Blk w2 b [.slice o.a o.len o.cap] 35 := h.blk.kp hk2 h.ne
  have hrl := h.blk.lt
  have hne : ¬ On o2 b := fun hk => by
    rcases hf2 b hk with g | g
    · exact h.ne g
    · omega
  refine ⟨⟨_, hb2.cell 0⟩, hb2.frozen 0, ⟨hb2.set 0 _, ho2.set_other _ _ (by rw [add_block]; exact hne), hne, ?_, fun k hk => ?_⟩⟩
  · refine (h.kp.trans hk2 (fun k hk hkk => ?_)).set _ _ (fun _ => .inl (by rw [add_block]))
    rcases h.fr k hkk with g | g
    · exact .inr g
    · omega
  · have := h.kp.size
    rcases hf2 k hk with g | g
    · exact h.fr k g
    · exact .inr (by omega)

theorem wNum (h : Ws w0 b l w o bs) (hsz : bs.length ≤ 1099511627776) (v : Nat) (hv : v < 18446744073709551616) :
    Calls Try.prog 41 #[.pointer (some ⟨b, 0, none⟩), .int .u64 v] w (Rv fun u w' => u = .tuple #[] ∧ ∃ o', Ws w0 b l w' o' (bs ++ enc v)) := by
  refine c41 _ _ _ _ ?_
  unfold B41
  have hel := enc_len v
  refine ⟨fun x w' => ∃ (m : Nat) (bs' : List UInt8) (o' : Slc), x = m ∧ m < 18446744073709551616 ∧ Ws w0 b l w' o' bs' ∧ bs' ++ enc m = bs ++ enc v, fun x _ => x.toNat, ⟨v, bs, o, rfl, hv, h, rfl⟩, ?_⟩
  rintro x w1 ⟨m, bs', o', rfl, hm, hw, he⟩
  have hl1 : bs'.length + (enc m).length = bs.length + (enc v).length := by rw [← List.length_append, he, List.length_append]
  have hol := hw.olen
  refine br_dec (fun h1 => ⟨o', hw.blk.cell 0, ?_⟩) (fun h1 => ⟨o', hw.blk.cell 0, ?_⟩)
  · rw [byte_or, ← V8_of (show m % 128 + 128 < 256 by omega)]
    obtain ⟨w2, o2, hr, ho2, hl2, hk2, hf2⟩ := append_one (ty := 33) el8 hw.own (V8 (UInt8.ofNat (m % 128 + 128))) rfl (by simp only [maxLen]; omega) (by omega)
    have ho3 : Ownd w2 o2 5 1 ((bs' ++ [UInt8.ofNat (m % 128 + 128)]).map V8) := by simpa using ho2
    obtain ⟨s1, s2, s3⟩ := hw.step ho3 hk2 hf2
    have e7 : shR .u64 (m : Int) 7 = ((m / 128 : Nat) : Int) := by rw [show (7 : Int) = ((7 : Nat) : Int) from rfl, shrC hm]
    rw [e7]
    refine ⟨w2, o2, hr, s1, s2, by omega, ⟨m / 128, _, o2, rfl, by omega, s3, ?_⟩, by dsimp only; omega⟩
    rw [← he, enc_ge (by omega) hm]
    simp
  · have e8 : IntKind.u8.wrap (m : Int) = (m : Int) := wu8 ⟨by omega, by omega⟩
    rw [e8, ← V8_of (show m < 256 by omega)]
    obtain ⟨w2, o2, hr, ho2, hl2, hk2, hf2⟩ := append_one (ty := 33) el8 hw.own (V8 (UInt8.ofNat m)) rfl (by simp only [maxLen]; omega) (by omega)
    rw [enc_lt (by omega)] at he
    have ho3 : Ownd w2 o2 5 1 ((bs' ++ [UInt8.ofNat m]).map V8) := by simpa using ho2
    rw [he] at ho3
    obtain ⟨s1, s2, s3⟩ := hw.step ho3 hk2 hf2
    exact ⟨w2, o2, hr, s1, s2, rfl, o2, s3⟩

theorem wInt (h : Ws w0 b l w o bs) (hsz : bs.length ≤ 1099511627776) (n : Int) (hn : -9223372036854775808 ≤ n ∧ n ≤ 9223372036854775807) :
    Calls Try.prog 63 #[.pointer (some ⟨b, 0, none⟩), .int .i64 n] w (Rv fun u w' => u = .tuple #[] ∧ ∃ o', Ws w0 b l w' o' (bs ++ enc (zig n))) := by
  refine c63 _ _ _ _ ?_
  unfold B63
  refine ⟨by omega, by omega, ?_⟩
  rw [zig_eq hn]
  refine use (wNum h hsz _ (zig_lt hn)) ?_
  rintro _ w1 ⟨rfl, h1⟩
  exact ⟨rfl, rfl, h1⟩

theorem wRaw (h : Ws w0 b l w o bs) (hsz : bs.length ≤ 1099511627776) (s : List UInt8) (hs : s.length ≤ 1099511627776) :
    Calls Try.prog 68 #[.pointer (some ⟨b, 0, none⟩), .string (bs8 s)] w (Rv fun u w' => u = .tuple #[] ∧ ∃ o', Ws w0 b l w' o' (bs ++ s)) := by
  refine c68 _ _ _ _ ?_
  unfold B68
  have hol := h.olen
  obtain ⟨w2, o2, hr, ho2, hl2, hk2, hf2⟩ := append_str (ty := 33) el8 undS h.own s (by omega)
  obtain ⟨s1, s2, s3⟩ := h.step ho2 hk2 hf2
  exact ⟨o, h.blk.cell 0, w2, o2, hr, s1, s2, rfl, o2, s3⟩

theorem wText (h : Ws w0 b l w o bs) (hsz : bs.length ≤ 109951162777) (s : List UInt8) (hs : s.length ≤ 109951162777) :
    Calls Try.prog 64 #[.pointer (some ⟨b, 0, none⟩), .string (bs8 s)] w (Rv fun u w' => u = .tuple #[] ∧ ∃ o', Ws w0 b l w' o' (bs ++ (enc s.length ++ s))) := by
  refine c64 _ _ _ _ ?_
  unfold B64
  have hel := enc_len s.length
  rw [bs8_size, wu64 (x := (s.length : Int)) ⟨by omega, by omega⟩]
  refine use (wNum h (by omega) s.length (by omega)) ?_
  rintro _ w1 ⟨rfl, o1, h1⟩
  refine ⟨rfl, use (wRaw h1 (by rw [List.length_append]; omega) s (by omega)) ?_⟩
  rintro _ w2 ⟨rfl, o2, h2⟩
  rw [List.append_assoc] at h2
  exact ⟨rfl, rfl, o2, h2⟩

theorem wBytes (h : Ws w0 b l w o bs) : Is 30 #[.pointer (some ⟨b, 0, none⟩)] w (.string (bs8 bs)) := by
  refine c30 _ _ _ ?_
  unfold B30
  exact ⟨o, h.blk.cell 0, w, _, to_str und8s und8 undS h.own, rfl, rfl⟩

theorem Ws.start (w : World) : Ws w w.heap.size ⟨none, 0, 0⟩ (w.alloc (.cells #[.slice none 0 0] 35)) ⟨none, 0, 0⟩ [] :=
  ⟨Blk.new _ _ _, Ownd.nil _ _ _, On.nil, (Kp.refl _ _).alloc _ _, fun _ hk => absurd hk On.nil⟩
theorem Ws.out (h : Ws w0 w0.heap.size ⟨none, 0, 0⟩ w o bs) : Kp no w0 w := h.kp.mono fun k hk g => by
  rcases g with rfl | g
  · omega
  · exact absurd g On.nil

/-! ### a writer that is nil -/
theorem nwNum (w : World) (v : Int) : Is 41 #[.pointer none, .int .u64 v] w (.tuple #[]) := c41n _ _ _ ⟨rfl, rfl⟩
theorem nwRaw (w : World) (s : ByteArray) : Is 68 #[.pointer none, .string s] w (.tuple #[]) := c68n _ _ _ ⟨rfl, rfl⟩
theorem nwBytes (w : World) : Is 30 #[.pointer none] w (.string (bs8 [])) := c30n _ _ ⟨rfl, rfl⟩

/-! ### the plain encoders -/
theorem byte_str (w : World) (c : UInt8) : (convert 33 9 (.slice (some ⟨w.heap.size, 0, none⟩) 1 1)).run Try.prog (w.alloc (.cells #[V8 c] 5)) = .ok (.string (bs8 [c])) (w.alloc (.cells #[V8 c] 5)) :=
  to_str (l := ⟨some ⟨w.heap.size, 0, none⟩, 1, 1⟩) und8s und8 undS (Ownd.mk' (cur := [V8 c]) rfl (Blk.new _ _ _) (Nat.le_refl _) (by simp [maxLen]) rfl rfl)
theorem byte_str' {w' : World} (w : World) (c : UInt8) (g : Kp no (w.alloc (.cells #[V8 c] 5)) w') : (convert 33 9 (.slice (some ⟨w.heap.size, 0, none⟩) 1 1)).run Try.prog w' = .ok (.string (bs8 [c])) w' :=
  to_str (l := ⟨some ⟨w.heap.size, 0, none⟩, 1, 1⟩) und8s und8 undS ((Ownd.mk' (cur := [V8 c]) rfl (Blk.new _ _ _) (Nat.le_refl _) (by simp [maxLen]) rfl rfl).kp g (fun _ _ f => f))

set_option maxRecDepth 20000 in
theorem rNum : ∀ (f v : Nat), v ≤ f → v < 18446744073709551616 → ∀ (w : World), IsK 65 #[.int .u64 v] w (.string (bs8 (enc v))) := by
  intro f
  induction f with
  | zero =>
    intro v hvf hv w
    obtain rfl : v = 0 := by omega
    refine c65 _ _ _ ?_
    unfold B65
    refine br_dec (fun _ => ?_) (fun h => absurd (by omega) h)
    rw [wu8 (x := ((0 : Nat) : Int)) ⟨by omega, by omega⟩, ← V8_of (show 0 < 256 by omega), enc_lt (by omega)]
    exact ⟨_, _, byte_str w _, rfl, (Kp.refl _ _).alloc _ _⟩
  | succ f ih =>
    intro v hvf hv w
    refine c65 _ _ _ ?_
    unfold B65
    apply br_dec <;> intro h1
    · rw [wu8 (x := (v : Int)) ⟨by omega, by omega⟩, ← V8_of (show v < 256 by omega), enc_lt (by omega)]
      exact ⟨_, _, byte_str w _, rfl, (Kp.refl _ _).alloc _ _⟩
    · have e1 : IntKind.u8.wrap (IntKind.u64.wrap (Int.tmod (v : Int) 128 + 128)) = ((v % 128 + 128 : Nat) : Int) := by
        rw [Int.tmod_eq_emod_of_nonneg (by omega), wu64 ⟨by omega, by omega⟩, wu8 ⟨by omega, by omega⟩]; omega
      have e2 : IntKind.u64.wrap (Int.tdiv (v : Int) 128) = ((v / 128 : Nat) : Int) := by
        rw [Int.tdiv_eq_ediv_of_nonneg (by omega), wu64 ⟨by omega, by omega⟩]; omega
      rw [e1, e2, ← V8_of (show v % 128 + 128 < 256 by omega)]
      have hen := enc_ge (show 128 ≤ v by omega) hv
      have hl := enc_len (v / 128)
      have app : bs8 [UInt8.ofNat (v % 128 + 128)] ++ bs8 (enc (v / 128)) = bs8 (enc v) := by rw [bs8_append, hen]; rfl
      have hsz : (bs8 [UInt8.ofNat (v % 128 + 128)]).size + (bs8 (enc (v / 128))).size ≤ 9223372036854775807 := by rw [bs8_size, bs8_size]; simp; omega
      refine ⟨by omega, by omega, ⟨⟨_, _, byte_str w.drew _, ?_⟩, ?_⟩, ?_⟩
      · exact usek (ih (v / 128) (by omega) (by omega) _) fun w2 k2 => ⟨_, rfl, hsz, by rw [app], ((Kp.refl no w).drew.alloc _ _).trans k2 (fun _ _ f => f)⟩
      · exact usek (ih (v / 128) (by omega) (by omega) _) fun w2 k2 => ⟨_, rfl, _, _, byte_str' w.drew _ k2, hsz, by rw [app], ((Kp.refl no w).drew.alloc _ _).trans k2 (fun _ _ f => f)⟩
      · exact usek (ih (v / 128) (by omega) (by omega) _) fun w2 k2 => ⟨_, rfl, _, _, byte_str w2 _, hsz, by rw [app], ((Kp.refl no w).drew.trans k2 (fun _ _ f => f)).alloc _ _⟩

theorem rInt (w : World) (n : Int) (hn : -9223372036854775808 ≤ n ∧ n ≤ 9223372036854775807) : IsK 66 #[.int .i64 n] w (.string (bs8 (enc (zig n)))) := by
  refine c66 _ _ _ ?_
  unfold B66
  refine br_dec (fun h0 => ?_) (fun h0 => ?_)
  · have e : IntKind.u64.wrap (2 * IntKind.u64.wrap n) = (zig n : Int) := by
      rw [wu64 (x := n) ⟨by omega, by omega⟩, wu64 ⟨by omega, by omega⟩]; unfold zig; split <;> omega
    rw [e]
    exact usek (rNum _ _ (Nat.le_refl _) (zig_lt hn) w) fun w2 k2 => ⟨_, rfl, rfl, k2⟩
  · have e : IntKind.u64.wrap (IntKind.u64.wrap (2 * IntKind.u64.wrap (IntKind.i64.wrap (0 - IntKind.i64.wrap (n + 1)))) + 1) = (zig n : Int) := by
      rw [w64 (x := n + 1) ⟨by omega, by omega⟩, w64 ⟨by omega, by omega⟩, wu64 (x := 0 - (n + 1)) ⟨by omega, by omega⟩, wu64 (x := 2 * (0 - (n + 1))) ⟨by omega, by omega⟩, wu64 ⟨by omega, by omega⟩]; unfold zig; split <;> omega
    rw [e]
    exact usek (rNum _ _ (Nat.le_refl _) (zig_lt hn) w) fun w2 k2 => ⟨_, rfl, rfl, k2⟩

theorem rText (w : World) (s : List UInt8) (hs : s.length ≤ 109951162777) : IsK 67 #[.string (bs8 s)] w (.string (bs8 (enc s.length ++ s))) := by
  refine c67 _ _ _ ?_
  unfold B67
  have hel := enc_len s.length
  rw [bs8_size, wu64 (x := (s.length : Int)) ⟨by omega, by omega⟩]
  exact usek (rNum _ _ (Nat.le_refl _) (by omega) w) fun w2 k2 => ⟨_, rfl, by rw [bs8_size]; omega, by rw [bs8_append], k2⟩
end Go.Proofs.Ytlobkadfmgnlmaa.V
