/- The laws of the wire chapter. -/
import Derived.Test.YtlobkadfmgnlmaaWt
import Derived.Test.YtlobkadfmgnlmaaOp4
namespace Go.Proofs.Ytlobkadfmgnlmaa.V
open Go Go.VC
variable {w w' w0 : World} {r x b : Nat} {l o : Slc} {rest s bs : List UInt8} {bad : Nat}

/-- A part, checked. -/
structure Pt where
  kind : Int
  v : Nat
  n : Int
  s : List UInt8
/-- Parts that can be read. -/
structure Rd4 (w : World) (l : Slc) (ps : List Pt) : Prop where
  len : ps.length = l.len
  small : l.len ≤ 9223372036854775807
  cel : ∀ i (hi : i < ps.length), ∃ c, l.a = some c ∧ w.cell? (Addr.add (Addr.add c (i * 4)) 0) = some (.int .i64 ps[i].kind) ∧ w.cell? (Addr.add (Addr.add c (i * 4)) 1) = some (.int .u64 ps[i].v) ∧
      w.cell? (Addr.add (Addr.add c (i * 4)) 2) = some (.int .i64 ps[i].n) ∧ w.cell? (Addr.add (Addr.add c (i * 4)) 3) = some (.string (bs8 ps[i].s))
  fit : ∀ p ∈ ps, p.v < 18446744073709551616 ∧ (-9223372036854775808 ≤ p.n ∧ p.n ≤ 9223372036854775807)
theorem Rd4.kp {ps : List Pt} (h : Rd4 w l ps) (g : Kp no w w') : Rd4 w' l ps := ⟨h.len, h.small, fun i hi => by
  obtain ⟨c, hc, h0, h1, h2, h3⟩ := h.cel i hi
  have e : w'.heap[c.block]? = w.heap[c.block]? := g.keep _ (by have := cell_lt h0; simpa [add_block] using this) id
  have ee : ∀ j, w'.cell? (Addr.add (Addr.add c (i * 4)) j) = w.cell? (Addr.add (Addr.add c (i * 4)) j) := fun j => World.cell?_of_block (w := w) (by simpa [add_block] using e)
  exact ⟨c, hc, by rw [ee, h0], by rw [ee, h1], by rw [ee, h2], by rw [ee, h3]⟩, h.fit⟩
theorem rd4_of {a : Option Addr} {len cap : Nat} {zs : List P4} (h : IsP4s w a len zs) : Rd4 w ⟨a, len, cap⟩ (zs.map fun z => ⟨z.kind, z.v.toNat, z.n, z.s⟩) := by
  have bb : ∀ i (hi : i < zs.length), 0 ≤ zs[i].v ∧ zs[i].v ≤ 18446744073709551615 := fun i hi => Go.bounds_u64 (h.2.2 i hi).2.2.1
  refine ⟨by simpa using h.1, by have := h.2.1; simp only [maxLen] at this; exact this, fun i hi => ?_, fun p hp => ?_⟩
  · rw [List.length_map] at hi
    obtain ⟨⟨c, hc, h0, h1, h2, h3⟩, _⟩ := h.2.2 i hi
    have := bb i hi
    refine ⟨c, hc, by simpa using h0, ?_, by simpa using h2, by simpa using h3⟩
    rw [h1, List.getElem_map]
    congr 2
    simp only; omega
  · obtain ⟨z, hz, rfl⟩ := List.mem_map.1 hp
    obtain ⟨i, hi, rfl⟩ := List.getElem_of_mem hz
    have := bb i hi
    have := Go.bounds_i64 (h.2.2 i hi).2.2.2.1
    simp only; omega

theorem live10 (w : World) : IsK 28 #[] w (.bool true) := by
  refine c28 _ _ ?_
  unfold B28
  refine use (wNum (Ws.start w) (by simp) 300 (by omega)) ?_
  rintro _ w1 ⟨rfl, o1, h1⟩
  have l1 := enc_len 300
  refine ⟨rfl, use (wInt h1 (by simp; omega) (-1) ⟨by omega, by omega⟩) ?_⟩
  rintro _ w2 ⟨rfl, o2, h2⟩
  have l2 := enc_len (zig (-1))
  refine ⟨rfl, use (wText h2 (by simp; omega) [97, 98] (by simp)) ?_⟩
  rintro _ w3 ⟨rfl, o3, h3⟩
  have hall : [] ++ enc 300 ++ enc (zig (-1)) ++ (enc ([97, 98] : List UInt8).length ++ [97, 98]) = [172, 2, 1, 2, 97, 98] := by decide +kernel
  rw [hall] at h3
  refine ⟨rfl, usei (wBytes h3) ⟨_, rfl, use (openR w3 [172, 2, 1, 2, 97, 98] (by simp)) ?_⟩⟩
  rintro _ w4 ⟨rfl, hr4, k4⟩
  have k0 : Kp no w w4 := h3.out.trans k4 (fun _ _ f => f)
  refine ⟨_, rfl, usei (wBytes (h3.kpo k4)) ⟨_, rfl, ?_⟩⟩
  have e1 : ((bs8 [172, 2, 1, 2, 97, 98]).toList == (⟨#[172, 2, 1, 2, 97, 98]⟩ : ByteArray).toList) = true := by rw [show (⟨#[172, 2, 1, 2, 97, 98]⟩ : ByteArray) = bs8 [172, 2, 1, 2, 97, 98] from rfl]; simp
  rw [e1]
  show Calls _ _ _ _ _
  have n1 : numS [172, 2, 1, 2, 97, 98] 0 = (300, [1, 2, 97, 98], 0) := by decide +kernel
  have n2 : numS [1, 2, 97, 98] 0 = (1, [2, 97, 98], 0) := by decide +kernel
  have n3 : textS [2, 97, 98] 0 2 = ([97, 98], [], 0) := by decide +kernel
  have hsz := h3.blk.lt
  refine use (qNum hr4) ?_
  rintro _ w5 ⟨rfl, hr5, k5⟩
  rw [n1] at hr5 ⊢
  refine ⟨_, rfl, br_dec (fun _ => use (qInt hr5) ?_) (fun h => absurd rfl h)⟩
  rintro _ w6 ⟨rfl, hr6, k6⟩
  simp only [n2] at hr6 ⊢
  refine ⟨_, rfl, br_dec (fun _ => use (qText hr6 2 (by omega)) ?_) (fun h => absurd (by decide) h)⟩
  rintro _ w7 ⟨rfl, hr7, k7⟩
  simp only [n3] at hr7 ⊢
  refine ⟨_, rfl, ?_⟩
  have e2 : ((bs8 [97, 98]).toList == (⟨#[97, 98]⟩ : ByteArray).toList) = true := by rw [show (⟨#[97, 98]⟩ : ByteArray) = bs8 [97, 98] from rfl]; simp
  rw [e2]
  show Calls _ _ _ _ _
  have hs3 := h3.kp.size
  have kk : ∀ {w8 : World}, Kp no w7 w8 → Kp no w w8 := fun k8 =>
    ((((k0.trans k5 (fun k hk e => by omega)).trans k6 (fun k hk e => by omega)).trans k7 (fun k hk e => by omega)).trans k8 (fun _ _ f => f))
  exact usek (qEnd hr7) fun w8 k8 => ⟨_, rfl, rfl, kk k8⟩

/-- No part is too long, and there are not too many. -/
def Short (ps : List Pt) : Prop := ps.length ≤ 40 ∧ ∀ p ∈ ps, p.s.length ≤ 300
theorem long10 {ps : List Pt} (h : Rd4 w l ps) : Calls Try.prog 27 #[.slice l.a l.len l.cap] w (Rv fun v w' => w' = w ∧ ∃ b : Bool, v = .bool b ∧ (b = false → Short ps)) := by
  refine c27 _ _ _ ?_
  unfold B27
  have hl := h.len
  refine ⟨fun i w' => w' = w ∧ ∃ m : Nat, i = m ∧ m ≤ ps.length ∧ m ≤ 40 ∧ ∀ j (hj : j < ps.length), j < m → ps[j].s.length ≤ 300, fun i _ => (40 - i).toNat, ⟨rfl, 0, rfl, by omega, by omega, fun j hj h => by omega⟩, ?_⟩
  rintro i w1 ⟨rfl, m, rfl, hm, hm4, hall⟩
  have fin : (m : Int) = (l.len : Int) ∨ (m : Int) = 40 → w1 = w1 ∧ ∃ b : Bool, Value.bool (decide ((40 : Int) < (l.len : Int))) = .bool b ∧ (b = false → Short ps) := fun hh =>
    ⟨rfl, _, rfl, fun hb => ⟨by have := of_decide_eq_false hb; omega, fun p hp => by
      obtain ⟨j, hj, rfl⟩ := List.getElem_of_mem hp
      have := of_decide_eq_false hb
      exact hall j hj (by omega)⟩⟩
  refine br_dec (fun h1 => br_dec (fun h2 => ⟨by omega, h1, ?_⟩) (fun h2 => fin (.inr (by omega)))) (fun h1 => fin (.inl (by omega)))
  obtain ⟨c, hc, _, _, _, h3⟩ := h.cel m (by omega)
  refine ⟨c, hc, _, h3, ?_⟩
  rw [bs8_size, w64 ⟨by omega, by omega⟩]
  refine br_dec (fun h4 => ⟨rfl, true, rfl, fun h => by cases h⟩) (fun h4 => ⟨⟨rfl, m + 1, by omega, by omega, by omega, fun j hj hjm => ?_⟩, by dsimp only; omega⟩)
  by_cases e : j = m
  · subst e; omega
  · exact hall j hj (by omega)

/-- What a part is as bytes. -/
def bytesOf (p : Pt) : List UInt8 :=
  if p.kind = 0 then enc p.v else if p.kind = 1 then enc (zig p.n) else if p.kind = 2 then enc p.s.length ++ p.s else if p.kind = 3 then p.s else []
theorem bytesOf_len (p : Pt) : (bytesOf p).length ≤ 10 + p.s.length := by
  have h1 := enc_len p.v
  have h2 := enc_len (zig p.n)
  have h3 := enc_len p.s.length
  unfold bytesOf
  split
  · omega
  · split
    · omega
    · split
      · rw [List.length_append]; omega
      · split
        · omega
        · simp

theorem write10 (h : Ws w0 b l w o bs) (hsz : bs.length ≤ 1000000) (p : Pt) (hv : p.v < 18446744073709551616) (hn : -9223372036854775808 ≤ p.n ∧ p.n ≤ 9223372036854775807) (hs : p.s.length ≤ 1000000) :
    Calls Try.prog 29 #[.pointer (some ⟨b, 0, none⟩), .agg #[.int .i64 p.kind, .int .u64 p.v, .int .i64 p.n, .string (bs8 p.s)]] w (Rv fun v w' => v = .string (bs8 (bytesOf p)) ∧ ∃ o', Ws w0 b l w' o' (bs ++ bytesOf p)) := by
  refine c29 _ _ _ _ _ _ _ ?_
  unfold B29
  have hb1 : Blk (w.alloc (.cells #[.int .i64 p.kind, .int .u64 p.v, .int .i64 p.n, .string (bs8 p.s)] 38)) w.heap.size [.int .i64 p.kind, .int .u64 p.v, .int .i64 p.n, .string (bs8 p.s)] 38 := Blk.new _ _ _
  have h1 := h.kpo ((Kp.refl no w).alloc #[.int .i64 p.kind, .int .u64 p.v, .int .i64 p.n, .string (bs8 p.s)] 38)
  have keep : ∀ {w2 : World} {o2 : Slc} {bs2 : List UInt8}, Ws w.drew b l w2 o2 bs2 → True := fun _ => trivial
  generalize hw1 : w.alloc (.cells #[.int .i64 p.kind, .int .u64 p.v, .int .i64 p.n, .string (bs8 p.s)] 38) = w1 at *
  have hbb := h.blk.lt
  have start : Ws w1 b o w1 o bs := ⟨h1.blk, h1.own, h1.ne, Kp.refl _ _, fun k hk => .inl hk⟩
  -- what the writer's own step leaves of the part's block, and of the world ahead
  have part : ∀ {w2 : World} {o2 : Slc} {bs2 : List UInt8}, Ws w1 b o w2 o2 bs2 → Blk w2 w.heap.size [.int .i64 p.kind, .int .u64 p.v, .int .i64 p.n, .string (bs8 p.s)] 38 ∧ Ws w0 b l w2 o2 bs2 := fun {w2 o2 bs2} q => by
    refine ⟨hb1.kp q.kp ?_, ⟨q.blk, q.own, q.ne, h1.kp.trans q.kp (fun k hk g => ?_), fun k hk => ?_⟩⟩
    · rintro (e | e)
      · omega
      · have := h.own.on e; omega
    · rcases g with rfl | g
      · exact .inl rfl
      · rcases h1.fr k g with q | q
        · exact .inr q
        · omega
    · have s1 := h1.kp.size
      rcases q.fr k hk with g | g
      · exact h1.fr k g
      · exact .inr (by omega)
  have out : ∀ {w2 w3 : World} {o2 : Slc} {bs2 : List UInt8}, Ws w0 b l w2 o2 bs2 → Kp no w2 w3 → Ws w0 b l w3 o2 bs2 := fun q k => q.kpo k
  refine ⟨_, hb1.cell 0, br_dec (fun e0 => ?_) (fun e0 => br_dec (fun e1 => ?_) (fun e1 => br_dec (fun e2 => ?_) (fun e2 => br_dec (fun e3 => ?_) (fun e3 => ?_))))⟩
  · have hp : bytesOf p = enc p.v := by unfold bytesOf; rw [if_pos e0]
    rw [hp]
    refine ⟨_, hb1.cell 1, use (wNum start (by omega) p.v hv) ?_⟩
    rintro _ w2 ⟨rfl, o2, h2⟩
    obtain ⟨hb2, h3⟩ := part h2
    exact ⟨rfl, _, hb2.cell 1, usek (rNum _ _ (Nat.le_refl _) hv w2) fun w3 k3 => ⟨_, rfl, rfl, o2, out h3 k3⟩⟩
  · have hp : bytesOf p = enc (zig p.n) := by unfold bytesOf; rw [if_neg e0, if_pos e1]
    rw [hp]
    refine ⟨_, hb1.cell 2, use (wInt start (by omega) p.n hn) ?_⟩
    rintro _ w2 ⟨rfl, o2, h2⟩
    obtain ⟨hb2, h3⟩ := part h2
    exact ⟨rfl, _, hb2.cell 2, usek (rInt w2 p.n hn) fun w3 k3 => ⟨_, rfl, rfl, o2, out h3 k3⟩⟩
  · have hp : bytesOf p = enc p.s.length ++ p.s := by unfold bytesOf; rw [if_neg e0, if_neg e1, if_pos e2]
    rw [hp]
    refine ⟨_, hb1.cell 3, use (wText start (by omega) p.s (by omega)) ?_⟩
    rintro _ w2 ⟨rfl, o2, h2⟩
    obtain ⟨hb2, h3⟩ := part h2
    exact ⟨rfl, _, hb2.cell 3, usek (rText w2 p.s (by omega)) fun w3 k3 => ⟨_, rfl, rfl, o2, out h3 k3⟩⟩
  · have hp : bytesOf p = p.s := by unfold bytesOf; rw [if_neg e0, if_neg e1, if_neg e2, if_pos e3]
    rw [hp]
    refine ⟨_, hb1.cell 3, use (wRaw start (by omega) p.s (by omega)) ?_⟩
    rintro _ w2 ⟨rfl, o2, h2⟩
    obtain ⟨hb2, h3⟩ := part h2
    exact ⟨rfl, _, hb2.cell 3, rfl, o2, h3⟩
  · have hp : bytesOf p = [] := by unfold bytesOf; rw [if_neg e0, if_neg e1, if_neg e2, if_neg e3]
    rw [hp, List.append_nil]
    exact ⟨rfl, o, h1⟩

theorem nwInt (w : World) (n : Int) : Is 63 #[.pointer none, .int .i64 n] w (.tuple #[]) := by
  refine c63n _ _ _ ?_
  unfold B63n
  exact ⟨by omega, by omega, usei (nwNum w _) ⟨rfl, rfl, rfl⟩⟩
theorem nwText (w : World) (s : ByteArray) : Is 64 #[.pointer none, .string s] w (.tuple #[]) := by
  refine c64n _ _ _ ?_
  unfold B64n
  exact usei (nwNum w _) ⟨rfl, usei (nwRaw w s) ⟨rfl, rfl, rfl⟩⟩

theorem nwrite10 (w : World) (p : Pt) (hv : p.v < 18446744073709551616) (hn : -9223372036854775808 ≤ p.n ∧ p.n ≤ 9223372036854775807) (hs : p.s.length ≤ 1000000) :
    IsK 29 #[.pointer none, .agg #[.int .i64 p.kind, .int .u64 p.v, .int .i64 p.n, .string (bs8 p.s)]] w (.string (bs8 (bytesOf p))) := by
  refine c29n _ _ _ _ _ _ ?_
  unfold B29n
  have hb1 : Blk (w.alloc (.cells #[.int .i64 p.kind, .int .u64 p.v, .int .i64 p.n, .string (bs8 p.s)] 38)) w.heap.size [.int .i64 p.kind, .int .u64 p.v, .int .i64 p.n, .string (bs8 p.s)] 38 := Blk.new _ _ _
  have k1 := (Kp.refl no w).alloc #[.int .i64 p.kind, .int .u64 p.v, .int .i64 p.n, .string (bs8 p.s)] 38
  generalize w.alloc (.cells #[.int .i64 p.kind, .int .u64 p.v, .int .i64 p.n, .string (bs8 p.s)] 38) = w1 at *
  refine ⟨_, hb1.cell 0, br_dec (fun e0 => ?_) (fun e0 => br_dec (fun e1 => ?_) (fun e1 => br_dec (fun e2 => ?_) (fun e2 => br_dec (fun e3 => ?_) (fun e3 => ?_))))⟩
  · have hp : bytesOf p = enc p.v := by unfold bytesOf; rw [if_pos e0]
    rw [hp]
    exact ⟨_, hb1.cell 1, usei (nwNum w1 _) ⟨rfl, _, hb1.cell 1, usek (rNum _ _ (Nat.le_refl _) hv w1) fun w3 k3 => ⟨_, rfl, rfl, k1.trans k3 (fun _ _ f => f)⟩⟩⟩
  · have hp : bytesOf p = enc (zig p.n) := by unfold bytesOf; rw [if_neg e0, if_pos e1]
    rw [hp]
    exact ⟨_, hb1.cell 2, usei (nwInt w1 _) ⟨rfl, _, hb1.cell 2, usek (rInt w1 p.n hn) fun w3 k3 => ⟨_, rfl, rfl, k1.trans k3 (fun _ _ f => f)⟩⟩⟩
  · have hp : bytesOf p = enc p.s.length ++ p.s := by unfold bytesOf; rw [if_neg e0, if_neg e1, if_pos e2]
    rw [hp]
    exact ⟨_, hb1.cell 3, usei (nwText w1 _) ⟨rfl, _, hb1.cell 3, usek (rText w1 p.s (by omega)) fun w3 k3 => ⟨_, rfl, rfl, k1.trans k3 (fun _ _ f => f)⟩⟩⟩
  · have hp : bytesOf p = p.s := by unfold bytesOf; rw [if_neg e0, if_neg e1, if_neg e2, if_pos e3]
    rw [hp]
    exact ⟨_, hb1.cell 3, usei (nwRaw w1 _) ⟨rfl, _, hb1.cell 3, rfl, k1⟩⟩
  · have hp : bytesOf p = [] := by unfold bytesOf; rw [if_neg e0, if_neg e1, if_neg e2, if_neg e3]
    rw [hp]
    exact ⟨rfl, k1⟩

/-- What parts are as bytes. -/
def bytesAll (ps : List Pt) : List UInt8 := (ps.map bytesOf).flatten
theorem bytesAll_len : ∀ (ps : List Pt), (∀ p ∈ ps, p.s.length ≤ 300) → (bytesAll ps).length ≤ 310 * ps.length
  | [], _ => by simp [bytesAll]
  | p :: ps, h => by
    have h1 := bytesAll_len ps (fun q hq => h q (List.mem_cons_of_mem _ hq))
    have h2 := bytesOf_len p
    have h3 := h p List.mem_cons_self
    have e : bytesAll (p :: ps) = bytesOf p ++ bytesAll ps := by simp [bytesAll]
    rw [e, List.length_append, List.length_cons]; omega
theorem bytesAll_snoc (ps : List Pt) (m : Nat) (hm : m < ps.length) : bytesAll (ps.take (m + 1)) = bytesAll (ps.take m) ++ bytesOf ps[m] := by
  rw [List.take_add_one, List.getElem?_eq_getElem hm]
  simp only [bytesAll, Option.toList, List.map_append, List.map_cons, List.map_nil, List.flatten_append, List.flatten_cons, List.flatten_nil, List.append_nil]

theorem wireWrites {ps : List Pt} (h : Rd4 w l ps) : IsK 6 #[.slice l.a l.len l.cap] w (.bool true) := by
  refine c6 _ _ _ ?_
  unfold B6
  have hl := h.len
  refine use (long10 h) ?_
  rintro _ _ ⟨rfl, bb, rfl, hb⟩
  refine ⟨_, rfl, br_of (fun _ => usek (live10 _) fun w' hk => ⟨_, rfl, rfl, hk⟩) (fun hbf => ?_)⟩
  rename_i w1
  have hsh := hb hbf
  refine ⟨fun st i w' => ∃ m : Nat, i = m ∧ m ≤ ps.length ∧ st = bs8 (bytesAll (ps.take m)) ∧ ∃ o, Ws w1 w1.heap.size ⟨none, 0, 0⟩ w' o (bytesAll (ps.take m)), fun _ i _ => (ps.length - i).toNat, ⟨0, rfl, by omega, rfl, _, Ws.start w1⟩, ?_⟩
  rintro st i w2 ⟨m, rfl, hm, rfl, o, hW⟩
  have hbl := bytesAll_len (ps.take m) (fun p hp => hsh.2 p (List.mem_of_mem_take hp))
  have htl : (ps.take m).length = m := by simp; omega
  have h40 := hsh.1
  rw [htl] at hbl
  refine br_dec (fun h1 => ⟨by omega, h1, ?_⟩) (fun h1 => ?_)
  · have hmp : m < ps.length := by omega
    obtain ⟨c, hc, q0, q1, q2, q3⟩ := (h.kp hW.out).cel m hmp
    have hfit := h.fit _ (List.getElem_mem hmp)
    have hs3 := hsh.2 _ (List.getElem_mem hmp)
    refine ⟨c, hc, _, _, _, _, q0, q1, q2, q3, use (write10 hW (by omega) ps[m] hfit.1 hfit.2 (by omega)) ?_⟩
    rintro _ w3 ⟨rfl, o3, h3⟩
    have hbl2 := bytesOf_len ps[m]
    obtain ⟨c2, hc2, r0, r1, r2, r3⟩ := (h.kp h3.out).cel m hmp
    refine ⟨_, rfl, by rw [bs8_size, bs8_size]; omega, by omega, h1, c2, hc2, _, _, _, _, r0, r1, r2, r3, usek (nwrite10 w3 ps[m] hfit.1 hfit.2 (by omega)) fun w4 k4 => ⟨_, rfl, ?_⟩⟩
    rw [w64 ⟨by omega, by omega⟩, bs8_append, ← bytesAll_snoc ps m hmp]
    rw [← bytesAll_snoc ps m hmp] at h3
    exact ⟨⟨m + 1, by omega, hmp, rfl, o3, h3.kpo k4⟩, by dsimp only; omega⟩
  · have hme : m = ps.length := by omega
    subst hme
    refine usei (wBytes hW) ⟨_, rfl, ?_⟩
    rw [str_beq, decide_eq_true rfl]
    show Calls _ _ _ _ _
    refine usei (nwBytes w2) ⟨_, rfl, ?_⟩
    have e2 : ((bs8 []).toList == (⟨#[]⟩ : ByteArray).toList) = true := by rw [show (⟨#[]⟩ : ByteArray) = bs8 [] from rfl]; simp
    rw [e2]
    show Calls _ _ _ _ _
    exact usek (live10 w2) fun w5 k5 => ⟨_, rfl, rfl, hW.out.trans k5 (fun _ _ f => f)⟩
end Go.Proofs.Ytlobkadfmgnlmaa.V
