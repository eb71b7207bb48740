/-
  Contracts: a queue that lies in one block of the arena.
  Contracts: a change goes out; the count; a new queue.
  Contracts: the document's queue: new, count, put.
  Contracts: the document's queue: the first call goes out.
  Contracts: the document's queue: Read, Settle.
  Contracts: bytes that are lent, kept, written over.
  Contracts: members that are lent, kept, written over. (Turned out of LkB.)
-/
import Derived.Test.YtpingnkjenicaaaG07
import Derived.Test.YtpingnkjenicaaaG06
namespace Go.Proofs.Ytpingnkjenicaaa
open Go.Sx Go.RowKit
noncomputable section
open Classical

theorem but_of (A : Arena) (g : Nat) : (Arena.but A g).Sub A := fun k o hk => by
  have hk : (if k = g then none else A.blk k) = some o := hk
  split at hk
  · cases hk
  · exact hk

theorem but_self (A : Arena) (g : Nat) : (Arena.but A g).blk g = none := by
  show (if g = g then none else A.blk g) = none
  rw [if_pos rfl]

theorem but_mk {A : Arena} {g k : Nat} {o : Obj} (h : A.blk k = some o) (hne : k ≠ g) : (Arena.but A g).blk k = some o := by
  show (if k = g then none else A.blk k) = some o
  rw [if_neg hne]; exact h

/-- The queue's block. -/
structure QRaw (A : Arena) (g first n : Nat) (rows : List (List Value)) : Prop where
  at_ : ∃ c t fz, A.blk g = some (.cells c t fz) ∧ Fz c.size fz ∧ c.toList = rows.flatten ++ [.int .i64 first, .int .i64 n, .bool true]
  len : rows.length = 8
  lens : ∀ r ∈ rows, r.length = 15

theorem QRaw.flat {A : Arena} {g first n : Nat} {rows : List (List Value)} (h : QRaw A g first n rows) : rows.flatten.length = 120 := by
  rw [flat15 h.lens, h.len]

theorem QRaw.open_ {A : Arena} {g first n : Nat} {rows : List (List Value)} (h : QRaw A g first n rows) : ∃ c t fz, A.blk g = some (.cells c t fz) ∧ Fz c.size fz ∧ c.toList = rows.flatten ++ [.int .i64 first, .int .i64 n, .bool true] ∧ c.size = 123 := by
  obtain ⟨c, t, fz, h1, h0, h2⟩ := h.at_
  have h3 := h.flat
  refine ⟨c, t, fz, h1, h0, h2, ?_⟩
  rw [← Array.length_toList, h2, List.length_append, h3]; rfl

theorem QRaw.rd_first {A : Arena} {g first n : Nat} {rows : List (List Value)} (h : QRaw A g first n rows) : A.rd g 120 1 = some [.int .i64 first] := by
  obtain ⟨c, t, fz, h1, _, h2, h4⟩ := h.open_
  have h3 := h.flat
  rw [rd_mk h1 (by omega), h2, List.drop_append_of_le_length (by omega), List.drop_eq_nil_of_le (by omega)]; rfl

theorem QRaw.rd_n {A : Arena} {g first n : Nat} {rows : List (List Value)} (h : QRaw A g first n rows) : A.rd g 121 1 = some [.int .i64 n] := by
  obtain ⟨c, t, fz, h1, _, h2, h4⟩ := h.open_
  have h3 := h.flat
  rw [rd_mk h1 (by omega), h2, List.drop_append, List.drop_eq_nil_of_le (by omega), h3]; rfl

theorem QRaw.rd_made {A : Arena} {g first n : Nat} {rows : List (List Value)} (h : QRaw A g first n rows) : A.rd g 122 1 = some [.bool true] := by
  obtain ⟨c, t, fz, h1, _, h2, h4⟩ := h.open_
  have h3 := h.flat
  rw [rd_mk h1 (by omega), h2, List.drop_append, List.drop_eq_nil_of_le (by omega), h3]; rfl

theorem QRaw.rd_row {A : Arena} {g first n : Nat} {rows : List (List Value)} (h : QRaw A g first n rows) {i : Nat} {r : List Value} (hi : rows[i]? = some r) : A.rd g (0 + i * 15) 15 = some r := by
  obtain ⟨c, t, fz, h1, _, h2, h4⟩ := h.open_
  have h3 := h.flat
  obtain ⟨hi', rfl⟩ := List.getElem?_eq_some_iff.1 hi
  have h5 : A.rd g 0 (8 * 15) = some rows.flatten := by
    rw [rd_mk h1 (by omega), h2, List.drop_zero, List.take_append_of_le_length (by omega), List.take_of_length_le (by omega)]
  exact rows_at (o := 0) h5 h.lens i hi' h.len.symm

theorem flat_set : ∀ (rows : List (List Value)) (i : Nat) (cs : List Value), (∀ r ∈ rows, r.length = 15) → i < rows.length → (rows.set i cs).flatten = rows.flatten.take (i * 15) ++ cs ++ rows.flatten.drop (i * 15 + 15)
  | [], _, _, _, h => by simp at h
  | r :: rows, 0, cs, h, _ => by
    have := h r (by simp)
    rw [List.set_cons_zero, List.flatten_cons, List.flatten_cons, Nat.zero_mul, List.take_zero, List.nil_append, List.drop_append, List.drop_eq_nil_of_le (by omega), this]
    simp
  | r :: rows, i + 1, cs, h, hi => by
    have := h r (by simp)
    rw [List.set_cons_succ, List.flatten_cons, List.flatten_cons, flat_set rows i cs (fun r' h' => h r' (List.mem_cons_of_mem _ h')) (by simpa using hi), show (i + 1) * 15 = r.length + i * 15 by omega, Nat.add_assoc r.length, List.take_length_add_append, List.drop_length_add_append]
    simp

theorem QRaw.put_row {A A' : Arena} {g first n : Nat} {rows : List (List Value)} (h : QRaw A g first n rows) {i o : Nat} {cs : List Value} (hi : i < 8) (ho : o = i * 15) (hl : cs.length = 15) (hP : A.Put A' g o cs) : QRaw A' g first n (rows.set i cs) := by
  subst ho
  obtain ⟨c, t, fz, h1, h0, h2, h4⟩ := h.open_
  have h3 := h.flat
  obtain ⟨c0, t0, fz0, c1, e1, e2, e3⟩ := hP.at_
  rw [h1] at e1
  injection e1 with e1
  injection e1 with e1 e4 e5
  subst e1 e4 e5
  have e6 : c1.toList = (rows.set i cs).flatten ++ [.int .i64 first, .int .i64 n, .bool true] := by
    rw [e3, h2, flat_set rows i cs h.lens (by rw [h.len]; omega), hl, List.take_append_of_le_length (by omega), List.drop_append_of_le_length (by omega)]
    simp
  have hlens : ∀ r ∈ rows.set i cs, r.length = 15 := fun r hr => by
    rcases List.mem_or_eq_of_mem_set hr with hr | rfl
    · exact h.lens r hr
    · exact hl
  have hlen : (rows.set i cs).length = 8 := by rw [List.length_set, h.len]
  have hsz : c1.size = 123 := by
    rw [← Array.length_toList, e6, List.length_append, flat15 hlens, hlen]; rfl
  exact ⟨⟨c1, t, fz, e2, by rw [hsz, ← h4]; exact h0, e6⟩, hlen, hlens⟩

theorem QRaw.put_n {A A' : Arena} {g first n m : Nat} {rows : List (List Value)} (h : QRaw A g first n rows) (hP : A.Put A' g 121 [.int .i64 m]) : QRaw A' g first m rows := by
  obtain ⟨c, t, fz, h1, h0, h2, h4⟩ := h.open_
  have h3 := h.flat
  obtain ⟨c0, t0, fz0, c1, e1, e2, e3⟩ := hP.at_
  rw [h1] at e1
  injection e1 with e1
  injection e1 with e1 e4 e5
  subst e1 e4 e5
  have e6 : c1.toList = rows.flatten ++ [.int .i64 first, .int .i64 m, .bool true] := by
    rw [e3, h2, List.take_append, List.take_of_length_le (by omega), List.drop_append, List.drop_eq_nil_of_le (by simp; rw [← List.length_flatten]; omega), h3]
    simp
  have hsz : c1.size = 123 := by rw [← Array.length_toList, e6, List.length_append, h3]; rfl
  exact ⟨⟨c1, t, fz, e2, by rw [hsz, ← h4]; exact h0, e6⟩, h.len, h.lens⟩

theorem QRaw.put_first {A A' : Arena} {g first n m : Nat} {rows : List (List Value)} (h : QRaw A g first n rows) (hP : A.Put A' g 120 [.int .i64 m]) : QRaw A' g m n rows := by
  obtain ⟨c, t, fz, h1, h0, h2, h4⟩ := h.open_
  have h3 := h.flat
  obtain ⟨c0, t0, fz0, c1, e1, e2, e3⟩ := hP.at_
  rw [h1] at e1
  injection e1 with e1
  injection e1 with e1 e4 e5
  subst e1 e4 e5
  have e6 : c1.toList = rows.flatten ++ [.int .i64 m, .int .i64 n, .bool true] := by
    rw [e3, h2, List.take_append_of_le_length (by omega), List.take_of_length_le (by omega), List.drop_append, List.drop_eq_nil_of_le (by simp; rw [← List.length_flatten]; omega), h3]
    simp
  have hsz : c1.size = 123 := by rw [← Array.length_toList, e6, List.length_append, h3]; rfl
  exact ⟨⟨c1, t, fz, e2, by rw [hsz, ← h4]; exact h0, e6⟩, h.len, h.lens⟩

theorem QRaw.sub {A A' : Arena} {g first n : Nat} {rows : List (List Value)} (h : QRaw A g first n rows) (hs : A.Sub A') : QRaw A' g first n rows := by
  obtain ⟨c, t, fz, h1, h0, h2⟩ := h.at_
  exact ⟨⟨c, t, fz, hs _ _ h1, h0, h2⟩, h.len, h.lens⟩

theorem QRaw.room {A : Arena} {g first n : Nat} {rows : List (List Value)} (h : QRaw A g first n rows) {o k : Nat} (ho : o + k ≤ 123) : A.Room g o k := by
  obtain ⟨c, t, fz, h1, h0, h2, h4⟩ := h.open_
  exact ⟨c, t, fz, h1, by omega, h0⟩

structure QAt (B A : Arena) (g : Nat) (ds : List AskD) (first : Nat) (rows : List (List Value)) : Prop where
  raw : QRaw A g first ds.length rows
  sub : B.Sub A
  off : B.blk g = none
  lo : first < 8
  hi : ds.length ≤ 8
  own : ∀ j (h : j < ds.length), ∃ cs, rows[(first + j) % 8]? = some cs ∧ AskR B ds[j] cs

/-- A queue in block g of A; what its calls reach lies in B. -/
def QR (B A : Arena) (g : Nat) (ds : List AskD) : Prop := ∃ first rows, QAt B A g ds first rows

theorem QR.up {B A A' : Arena} {g : Nat} {ds : List AskD} (h : QR B A g ds) (hs : B.Sub A') (hg : ∀ o, A.blk g = some o → A'.blk g = some o) : QR B A' g ds := by
  obtain ⟨first, rows, h⟩ := h
  obtain ⟨c, t, fz, h1, h0, h2⟩ := h.raw.at_
  exact ⟨first, rows, ⟨⟨c, t, fz, hg _ h1, h0, h2⟩, h.raw.len, h.raw.lens⟩, hs, h.off, h.lo, h.hi, h.own⟩

/-- Both. -/
def Arena.join (B C : Arena) : Arena := Arena.of fun k => match B.blk k with
  | some o => some o
  | none => C.blk k

theorem join_blk (B C : Arena) (k : Nat) : (Arena.join B C).blk k = match B.blk k with
  | some o => some o
  | none => C.blk k := rfl

theorem join_l (B C : Arena) : B.Sub (Arena.join B C) := fun k o h => by rw [join_blk, h]

theorem join_r {B C : Arena} (h : ∀ k o, C.blk k = some o → B.blk k = none) : C.Sub (Arena.join B C) := fun k o hk => by rw [join_blk, h k o hk]; exact hk

theorem join_cases {B C : Arena} {k : Nat} {o : Obj} (h : (Arena.join B C).blk k = some o) : B.blk k = some o ∨ (B.blk k = none ∧ C.blk k = some o) := by
  rw [join_blk] at h
  split at h
  · left; rw [← h]; assumption
  · right; exact ⟨by assumption, h⟩

theorem but_up {A A' : Arena} (g : Nat) (h : A.Sub A') : (Arena.but A g).Sub (Arena.but A' g) := fun k o hk => by
  have hk : (if k = g then none else A.blk k) = some o := hk
  split at hk
  · cases hk
  · rename_i hne; exact but_mk (h _ _ hk) hne

theorem but_put {A A' : Arena} {g o : Nat} {vs : List Value} (h : A.Put A' g o vs) : (Arena.but A g).Sub (Arena.but A' g) := fun k ob hk => by
  have hk : (if k = g then none else A.blk k) = some ob := hk
  split at hk
  · cases hk
  · rename_i hne; exact but_mk (by rw [h.other k hne]; exact hk) hne

theorem minus_but {A A1 : Arena} {g : Nat} {o : Obj} (hg : A.blk g = some o) : (A1.minus A).Sub (Arena.but A1 g) := fun k ob hk => by
  obtain ⟨h1, h2⟩ := minus_blk hk
  exact but_mk h2 fun e => by subst e; rw [hg] at h1; cases h1

/-- A call is put. -/
theorem QAt.put {B A A1 A2 A3 : Arena} {g : Nat} {ds : List AskD} {first : Nat} {rows : List (List Value)} (h : QAt B A g ds first rows) {d : AskD} {cs : List Value} (hlt : ds.length < 8) (s1 : A.Sub A1) (hR : AskR (A1.minus A) d cs)
    {o : Nat} (ho : o = (first + ds.length) % 8 * 15) (hP : A1.Put A2 g o cs) (hN : A2.Put A3 g 121 [.int .i64 ((ds.length + 1 : Nat) : Int)]) :
    (Arena.but A g).Sub A3 ∧ ∃ B', QR B' A3 g (ds ++ [d]) ∧ B.Sub B' ∧ ∀ k o, A.blk k = some o → B.blk k = none → B'.blk k = none := by
  have hi : (first + ds.length) % 8 < 8 := Nat.mod_lt _ (by omega)
  have r1 := (h.raw.sub s1).put_row hi ho hR.len hP
  have r2 := r1.put_n hN
  obtain ⟨c, t, fz, hg, _⟩ := h.raw.at_
  have b1 : (Arena.but A g).Sub (Arena.but A3 g) := ((but_up g s1).trans (but_put hP)).trans (but_put hN)
  have b2 : (A1.minus A).Sub A3 := (((minus_but hg).trans (but_put hP)).trans (but_put hN)).trans (but_of _ _)
  have dis : ∀ k o, (A1.minus A).blk k = some o → B.blk k = none := fun k o hk => by
    cases hB : B.blk k with
    | none => rfl
    | some o' =>
      have := (minus_blk hk).1
      rw [h.sub _ _ hB] at this; cases this
  refine ⟨b1.trans (but_of _ _), Arena.join B (A1.minus A), ⟨first, rows.set ((first + ds.length) % 8) cs, by simpa using r2, fun k ob hk => ?_, ?_, h.lo, by simp; omega, fun j hj => ?_⟩, join_l _ _, fun k ob hA hB => ?_⟩
  · rcases join_cases hk with hk | ⟨_, hk⟩
    · exact b1.trans (but_of _ _) _ _ (but_mk (h.sub _ _ hk) fun e => by subst e; rw [h.off] at hk; cases hk)
    · exact b2 _ _ hk
  · rw [join_blk, h.off]; exact minus_none _ hg
  · by_cases e : j < ds.length
    · obtain ⟨cs', h1, h2⟩ := h.own j e
      refine ⟨cs', ?_, ?_⟩
      · rw [List.getElem?_set_ne (by omega)]; exact h1
      · rw [List.getElem_append_left e]; exact AskR.sub (join_l _ _) _ _ h2
    · have : j = ds.length := by simp at hj; omega
      subst this
      refine ⟨cs, ?_, ?_⟩
      · rw [List.getElem?_set_self (by rw [h.raw.len]; exact hi)]
      · rw [List.getElem_append_right (by omega)]
        simp only [Nat.sub_self, List.getElem_cons_zero]
        exact AskR.sub (join_r dis) _ _ hR
  · rw [join_blk, hB]; exact minus_none _ hA

def putS : FSpec := ⟨Nat × List AskD × AskD × Arena, fun x vs A => ∃ cs, vs = [.pointer (some ⟨x.1, 0, none⟩), askV cs] ∧ QR x.2.2.2 A x.1 x.2.1 ∧ AskR (Arena.but A x.1) x.2.2.1 cs,
  fun x _ A v A' => (Arena.but A x.1).Sub A' ∧ ((x.2.1.length = 8 ∧ v = .int .i64 360 ∧ QR x.2.2.2 A' x.1 x.2.1) ∨ (x.2.1.length < 8 ∧ v = .int .i64 0 ∧ ∃ B', QR B' A' x.1 (x.2.1 ++ [x.2.2.1]) ∧ x.2.2.2.Sub B' ∧ ∀ k o, A.blk k = some o → x.2.2.2.blk k = none → B'.blk k = none))⟩

set_option maxRecDepth 100000 in
set_option maxHeartbeats 0 in
theorem put_ok : FOk Try.prog 10 putS := by
  refine fok_v mixed fun ⟨g, ds, d, B⟩ vs A hp => ?_
  simp only [putS] at hp
  obtain ⟨cs, rfl, ⟨first, rows, hq⟩, hR⟩ := hp
  have hC : CTSound Try.prog (lookC [specE 30 copiedS'] noC) := lookC_sound (noC_sound _) (fun x hx => by
    simp only [List.mem_cons, List.not_mem_nil, or_false] at hx
    rcases hx with rfl
    exact specE_ok copied_ok)
  obtain ⟨p0, p1, p2, p3, p4, q5, u5, n5, p6, p7, p8, p9, p10, p11, p12, q13, u13, n13, q14, u14, n14, rfl⟩ := hR.form
  refine ⟨_, noL, 60, hC, noL_sound _, fun blk os out tape D hD => ?_⟩
  conv => lhs; whnf
  refine go_rd hq.raw.rd_made ?_
  conv => lhs; whnf
  refine go_rd hq.raw.rd_n ?_
  conv => lhs; whnf
  have h8 := hq.hi
  refine split_b (fun hb => ?_) (fun hb => ?_) <;> (conv => lhs; whnf)
  · have h9 : ds.length = 8 := by
      have : (ds.length : Int) = 8 := by simpa using hb
      omega
    exact (hD _).2 ⟨but_of _ _, .inl ⟨h9, rfl, first, rows, hq⟩⟩
  · have h9 : ds.length < 8 := by
      have : ¬ (ds.length : Int) = 8 := by simpa using hb
      omega
    refine go_rd hq.raw.rd_first ?_
    conv => lhs; whnf
    refine go_rd hq.raw.rd_n ?_
    conv => lhs; whnf
    refine (hD _).2 ⟨d, ⟨_, rfl, AskR.sub (but_of _ _) _ _ hR⟩, fun v A1 hq1 => ?_⟩
    obtain ⟨s1, cs', hv, hR1⟩ : A.Sub A1 ∧ ∃ cs, v = askV cs ∧ AskR (A1.minus A) d cs := hq1
    subst hv
    obtain ⟨p0', p1', p2', p3', p4', q5', u5', n5', p6', p7', p8', p9', p10', p11', p12', q13', u13', n13', q14', u14', n14', rfl⟩ := hR1.form
    conv => lhs; whnf
    repeat (first | refine go_rd (rd_sub s1 hq.raw.rd_first) ?_ | refine go_rd (rd_sub s1 hq.raw.rd_n) ?_ | refine go_D hD rfl ?_
            conv => lhs; whnf)
    have hidx : (IntKind.i64.wrap ((first : Int) + ds.length)).tmod 8 = (((first + ds.length) % 8 : Nat) : Int) := by
      rw [Sx.wrap_i64 (by omega) (by have := hq.lo; omega)]
      rw [show (first : Int) + ds.length = ((first + ds.length : Nat) : Int) by push_cast; rfl]
      rw [Int.tmod_eq_emod_of_nonneg (by omega)]
      push_cast; rfl
    rw [hidx]
    refine split_in (fun _ _ => ?_) (fun h => ?_)
    rotate_left
    · exfalso
      apply h
      constructor <;> omega
    conv => lhs; whnf
    refine (hD _).2 ⟨(hq.raw.sub s1).room (by show 0 + (first + ds.length) % 8 * 15 + 15 ≤ 123; omega), fun A2 hP => ?_⟩
    have hP : A1.Put A2 g (0 + (first + ds.length) % 8 * 15) _ := hP
    conv => lhs; whnf
    have r1 := (hq.raw.sub s1).put_row (i := (first + ds.length) % 8) (Nat.mod_lt _ (by omega)) (by omega) hR1.len hP
    refine go_rd r1.rd_n ?_
    conv => lhs; whnf
    refine (hD _).2 ⟨r1.room (by show 0 + 121 + 1 ≤ 123; omega), fun A3 hN => ?_⟩
    conv => lhs; whnf
    obtain ⟨k1, k2⟩ := hq.put h9 s1 hR1 (by omega) hP (by
      have := Sx.wrap_i64 (n := (ds.length : Int) + 1) (by omega) (by omega)
      rw [show ((ds.length + 1 : Nat) : Int) = (ds.length : Int) + 1 by push_cast; rfl, ← this]
      exact hN)
    exact (hD _).2 ⟨k1, .inr ⟨h9, rfl, k2⟩⟩

/-! ### A call goes out -/

def _root_.Go.Sx.AskD.kind : AskD → Int
  | .mk k _ _ _ _ _ _ _ _ _ _ _ _ _ _ => k
def _root_.Go.Sx.AskD.xid : AskD → Int
  | .mk _ x _ _ _ _ _ _ _ _ _ _ _ _ _ => x
def _root_.Go.Sx.AskD.turn : AskD → Int
  | .mk _ _ _ t _ _ _ _ _ _ _ _ _ _ _ => t

def readsD (k : Int) : Bool := (decide (7 ≤ k) && decide (k ≤ 9)) || decide (k = 13) || decide (k = 14)

theorem QAt.out {B A A1 A2 : Arena} {g : Nat} {d : AskD} {ds : List AskD} {first : Nat} {rows : List (List Value)} (h : QAt B A g (d :: ds) first rows) {m n : Int} (hm : m = (((first + 1) % 8 : Nat) : Int)) (hn : n = (ds.length : Int))
    (hP : A.Put A1 g 120 [.int .i64 m]) (hN : A1.Put A2 g 121 [.int .i64 n]) : (Arena.but A g).Sub A2 ∧ QR B A2 g ds := by
  subst hm hn
  have b1 : (Arena.but A g).Sub A2 := ((but_put hP).trans (but_put hN)).trans (but_of _ _)
  refine ⟨b1, (first + 1) % 8, rows, (h.raw.put_first hP).put_n hN, fun k o hk => b1 _ _ (but_mk (h.sub _ _ hk) fun e => by subst e; rw [h.off] at hk; cases hk), h.off, Nat.mod_lt _ (by omega), by have := h.hi; simp at this; omega, fun j hj => ?_⟩
  obtain ⟨cs, h1, h2⟩ := h.own (j + 1) (by simpa using hj)
  refine ⟨cs, ?_, by simpa using h2⟩
  rw [← h1]; congr 1; omega

theorem next_first {first : Nat} (h : first < 8) : (IntKind.i64.wrap ((first : Int) + 1)).tmod 8 = (((first + 1) % 8 : Nat) : Int) := by
  rw [Sx.wrap_i64 (by omega) (by omega)]
  rw [show (first : Int) + 1 = ((first + 1 : Nat) : Int) by push_cast; rfl]
  rw [Int.tmod_eq_emod_of_nonneg (by omega)]
  push_cast; rfl

theorem next_n {ds : List AskD} {d : AskD} (h : (d :: ds).length ≤ 8) : IntKind.i64.wrap (((d :: ds).length : Int) - 1) = (ds.length : Int) := by
  simp only [List.length_cons] at h ⊢
  rw [Sx.wrap_i64 (by omega) (by omega)]
  push_cast; omega

/-- No call. -/
def zeroC : List Value := [.int .u8 0, .int .i64 0, .int .i64 0, .int .i64 0, .string ⟨#[]⟩, .slice none 0 0, .int .i64 0, .int .i64 0, .bool false, .int .u8 0, .int .i64 0, .int .i64 0, .int .i64 0, .slice none 0 0, .slice none 0 0]

/-- What Read and Settle leave. -/
def outPost (B : Arena) (g : Nat) (ds : List AskD) (is : AskD → Bool) (A : Arena) (v : Value) (A' : Arena) : Prop :=
  (Arena.but A g).Sub A' ∧ ((∃ cs, v = .tuple #[askV cs, .bool false] ∧ cs = zeroC ∧ QR B A' g ds ∧ ∀ d ds', ds = d :: ds' → is d = false) ∨
    ∃ d ds' cs, ds = d :: ds' ∧ is d = true ∧ v = .tuple #[askV cs, .bool true] ∧ QR B A' g ds' ∧ AskR B d cs)

def readS : FSpec := ⟨Nat × List AskD × Arena, fun x vs A => vs = [.pointer (some ⟨x.1, 0, none⟩)] ∧ QR x.2.2 A x.1 x.2.1, fun x _ A v A' => outPost x.2.2 x.1 x.2.1 (fun d => readsD d.kind) A v A'⟩

set_option maxRecDepth 100000 in
set_option maxHeartbeats 0 in
theorem read_ok : FOk Try.prog 14 readS := by
  refine fok_v mixed fun ⟨g, ds, B⟩ vs A hp => ?_
  simp only [readS] at hp
  obtain ⟨rfl, first, rows, hq⟩ := hp
  refine ⟨noC, noL, 60, noC_sound _, noL_sound _, fun blk os out tape D hD => ?_⟩
  conv => lhs; whnf
  refine go_rd hq.raw.rd_n ?_
  conv => lhs; whnf
  refine split_b (fun hb => ?_) (fun hb => ?_) <;> (conv => lhs; whnf)
  · have h0 : ds = [] := by
      have : (ds.length : Int) = 0 := by simpa using hb
      exact List.length_eq_zero_iff.1 (by omega)
    subst h0
    exact (hD _).2 ⟨but_of _ _, .inl ⟨_, rfl, rfl, ⟨first, rows, hq⟩, fun d ds' h => by cases h⟩⟩
  · cases ds with
    | nil => simp at hb
    | cons d ds' =>
    obtain ⟨cs, hrow, hR⟩ := hq.own 0 (by simp)
    have hlo := hq.lo
    rw [Nat.add_zero, Nat.mod_eq_of_lt hlo] at hrow
    obtain ⟨kind, xid, ses, turn, path, data, flags, ver, watch, sort, last, tmo, frm, mem, parts⟩ := d
    simp only [List.getElem_cons_zero] at hR
    obtain ⟨vd, vm, vp, rows', rfl, hx1, hx2, hx3, hx4, hx5⟩ := hR
    obtain ⟨a5, k5, rfl⟩ := hx1.1.form
    obtain ⟨a13, k13, rfl⟩ := hx2.1.form
    obtain ⟨a14, k14, rfl⟩ := hx3.form
    refine go_rd hq.raw.rd_first ?_
    conv => lhs; whnf
    refine split_in (fun _ _ => ?_) (fun h => ?_)
    rotate_left
    · exfalso
      apply h
      constructor
      · show (0 : Int) ≤ (first : Int)
        omega
      · show (first : Int) < ((8 : Nat) : Int)
        omega
    conv => lhs; whnf
    refine go_rd (hq.raw.rd_row hrow) ?_
    conv => lhs; whnf
    have key : readsD kind = true ∨ readsD kind = false := by cases readsD kind <;> simp
    rcases key with hk | hk
    · have hk' := hk
      simp only [readsD, Bool.or_eq_true, Bool.and_eq_true, decide_eq_true_eq] at hk'
      rcases hk' with (⟨ha, hb⟩ | rfl) | rfl
      all_goals
        repeat (refine go_dec (by omega) ?_; conv => lhs; whnf)
        refine go_rd hq.raw.rd_first ?_
        conv => lhs; whnf
        refine go_in ⟨by show (0 : Int) ≤ (first : Int); omega, by show (first : Int) < ((8 : Nat) : Int); omega⟩ ?_
        conv => lhs; whnf
        refine go_rd (hq.raw.rd_row hrow) ?_
        conv => lhs; whnf
        repeat (first | refine go_rd hq.raw.rd_first ?_ | refine go_rd (hq.raw.rd_row hrow) ?_ | refine go_rd hq.raw.rd_n ?_ | refine go_D hD rfl ?_
                conv => lhs; whnf)
        refine (hD _).2 ⟨hq.raw.room (by show 0 + 120 + 1 ≤ 123; omega), fun A1 hP => ?_⟩
        conv => lhs; whnf
        refine (hD _).2 ⟨(hq.raw.put_first (m := (first + 1) % 8) (by rw [← next_first hlo]; exact hP)).room (by show 0 + 121 + 1 ≤ 123; omega), fun A2 hN => ?_⟩
        conv => lhs; whnf
        obtain ⟨k1, k2⟩ := hq.out (next_first hlo) (next_n hq.hi) hP hN
        exact (hD _).2 ⟨k1, .inr ⟨_, _, _, rfl, hk, rfl, k2, _, _, _, _, rfl, hx1, hx2, hx3, hx4, hx5⟩⟩
    · have hk' := hk
      simp only [readsD, Bool.or_eq_false_iff, Bool.and_eq_false_iff, decide_eq_false_iff_not] at hk'
      obtain ⟨⟨h1, h2⟩, h3⟩ := hk'
      by_cases h7 : 7 ≤ kind
      all_goals
        repeat (first | refine go_dec (by omega) ?_ | refine no_dec (by omega) ?_
                conv => lhs; whnf)
        refine go_b (by simp [h3]) ?_
        conv => lhs; whnf
        exact (hD _).2 ⟨but_of _ _, .inl ⟨_, rfl, rfl, ⟨first, rows, hq⟩, fun d ds' h => by injection h with h _; subst h; exact hk⟩⟩

end
end Go.Proofs.Ytpingnkjenicaaa

namespace Go.Proofs.Ytpingnkjenicaaa
open Go.Sx Go.RowKit
noncomputable section
open Classical

def countS : FSpec := ⟨Nat × List AskD × Arena, fun x vs A => vs = [.pointer (some ⟨x.1, 0, none⟩)] ∧ QR x.2.2 A x.1 x.2.1, fun x _ A v A' => A' = A ∧ v = .int .i64 x.2.1.length⟩

set_option maxRecDepth 100000 in
set_option maxHeartbeats 0 in
theorem count_ok : FOk Try.prog 19 countS := by
  refine fok_v mixed fun ⟨g, ds, B⟩ vs A hp => ?_
  simp only [countS] at hp
  obtain ⟨rfl, first, rows, hq⟩ := hp
  refine ⟨noC, noL, 60, noC_sound _, noL_sound _, fun blk os out tape D hD => ?_⟩
  conv => lhs; whnf
  refine go_rd hq.raw.rd_n ?_
  conv => lhs; whnf
  exact (hD _).2 ⟨rfl, rfl⟩

def newS : FSpec := ⟨Unit, fun _ vs _ => vs = [], fun _ _ A v A' => A.Sub A' ∧ ∃ g, v = .pointer (some ⟨g, 0, none⟩) ∧ A.blk g = none ∧ QR Arena.void A' g []⟩

set_option maxRecDepth 100000 in
set_option maxHeartbeats 0 in
theorem new_ok : FOk Try.prog 4 newS := by
  refine fok_k mixed fun _ vs A hp => ?_
  simp only [newS] at hp
  subst hp
  refine ⟨noC, noL, 60, noC_sound _, noL_sound _, fun blk os out tape D hD => ?_⟩
  conv => lhs; whnf
  refine (hD _).2 fun ρ w R _ => ?_
  obtain ⟨A', c, t, fz, h1, h2, h3, h4, h5, h6, h7, h8⟩ := R.grow (b := 0) (τ := 52) rfl
  refine ⟨A', ⟨h2, (ρ 0).blk, ?_, h3, 0, List.replicate 8 [.int .u8 0, .int .i64 0, .int .i64 0, .int .i64 0, .string ⟨#[]⟩, .slice none 0 0, .int .i64 0, .int .i64 0, .bool false, .int .u8 0, .int .i64 0, .int .i64 0, .int .i64 0, .slice none 0 0, .slice none 0 0], ⟨⟨c, t, fz, h4, h5, ?_⟩, rfl, fun r hr => ?_⟩, fun k o hk => (by cases hk), rfl, by omega, by simp, fun j hj => by simp at hj⟩, h7, h8⟩
  · show Value.pointer (some ⟨(ρ 0).blk, (ρ 0).off + 0, none⟩) = _
    rw [h1]
  · rw [h6]; rfl
  · rw [List.eq_of_mem_replicate hr]; rfl

theorem settle_no {k t x tn xn : Int} (h : readsD k = true) : (!readsD k && decide (t = tn) && decide (x = xn)) = false := by rw [h]; rfl

theorem settle_nox {k t x tn xn : Int} (h : ¬ x = xn) : (!readsD k && decide (t = tn) && decide (x = xn)) = false := by simp [h]
theorem settle_not {k t x tn xn : Int} (h : ¬ t = tn) : (!readsD k && decide (t = tn) && decide (x = xn)) = false := by simp [h]
theorem settle_yes {k t x tn xn : Int} (h : readsD k = false) (h1 : t = tn) (h2 : x = xn) : (!readsD k && decide (t = tn) && decide (x = xn)) = true := by simp [h, h1, h2]

def settleS : FSpec := ⟨(Nat × List AskD × Arena) × Int × Int, fun x vs A => vs = [.pointer (some ⟨x.1.1, 0, none⟩), .int .i64 x.2.1, .int .i64 x.2.2] ∧ QR x.1.2.2 A x.1.1 x.1.2.1, fun x _ A v A' => outPost x.1.2.2 x.1.1 x.1.2.1 (fun d => !readsD d.kind && decide (d.turn = x.2.1) && decide (d.xid = x.2.2)) A v A'⟩

set_option maxRecDepth 100000 in
set_option maxHeartbeats 0 in
theorem settle_ok : FOk Try.prog 17 settleS := by
  refine fok_v mixed fun ⟨⟨g, ds, B⟩, tn, xn⟩ vs A hp => ?_
  simp only [settleS] at hp
  obtain ⟨rfl, first, rows, hq⟩ := hp
  refine ⟨noC, noL, 60, noC_sound _, noL_sound _, fun blk os out tape D hD => ?_⟩
  conv => lhs; whnf
  refine go_rd hq.raw.rd_n ?_
  conv => lhs; whnf
  refine split_b (fun hb => ?_) (fun hb => ?_) <;> (conv => lhs; whnf)
  · have h0 : ds = [] := by
      have : (ds.length : Int) = 0 := by simpa using hb
      exact List.length_eq_zero_iff.1 (by omega)
    subst h0
    exact (hD _).2 ⟨but_of _ _, .inl ⟨_, rfl, rfl, ⟨first, rows, hq⟩, fun d ds' h => by cases h⟩⟩
  · cases ds with
    | nil => simp at hb
    | cons d ds' =>
    obtain ⟨cs, hrow, hR⟩ := hq.own 0 (by simp)
    have hlo := hq.lo
    rw [Nat.add_zero, Nat.mod_eq_of_lt hlo] at hrow
    obtain ⟨kind, xid, ses, turn, path, data, flags, ver, watch, sort, last, tmo, frm, mem, parts⟩ := d
    simp only [List.getElem_cons_zero] at hR
    obtain ⟨vd, vm, vp, rows', rfl, hx1, hx2, hx3, hx4, hx5⟩ := hR
    obtain ⟨a5, k5, rfl⟩ := hx1.1.form
    obtain ⟨a13, k13, rfl⟩ := hx2.1.form
    obtain ⟨a14, k14, rfl⟩ := hx3.form
    refine go_rd hq.raw.rd_first ?_
    conv => lhs; whnf
    refine go_in ⟨by show (0 : Int) ≤ (first : Int); omega, by show (first : Int) < ((8 : Nat) : Int); omega⟩ ?_
    conv => lhs; whnf
    refine go_rd (hq.raw.rd_row hrow) ?_
    conv => lhs; whnf
    have hlt : (0 : Int) ≤ (first : Int) := by omega
    have key : readsD kind = true ∨ readsD kind = false := by cases readsD kind <;> simp
    rcases key with hk | hk
    · have hk' := hk
      simp only [readsD, Bool.or_eq_true, Bool.and_eq_true, decide_eq_true_eq] at hk'
      rcases hk' with (⟨ha, hb⟩ | rfl) | rfl
      all_goals
        repeat (refine go_dec (by omega) ?_; conv => lhs; whnf)
        exact (hD _).2 ⟨but_of _ _, .inl ⟨_, rfl, rfl, ⟨first, rows, hq⟩, fun d ds' h => by injection h with h _; subst h; exact settle_no hk⟩⟩
    · have hk' := hk
      simp only [readsD, Bool.or_eq_false_iff, Bool.and_eq_false_iff, decide_eq_false_iff_not] at hk'
      obtain ⟨⟨h1, h2⟩, h3⟩ := hk'
      by_cases h7 : 7 ≤ kind
      all_goals
        repeat (first | refine go_dec (by omega) ?_ | refine no_dec (by omega) ?_
                conv => lhs; whnf)
        refine go_b (by simp [h3]) ?_
        conv => lhs; whnf
        by_cases ht : turn = tn
        · refine go_dec ht ?_
          conv => lhs; whnf
          by_cases hx : xid = xn
          · refine split_b (fun hb => absurd hb (by simp [hx])) (fun _ => ?_)
            conv => lhs; whnf
            refine go_rd hq.raw.rd_first ?_
            conv => lhs; whnf
            refine go_in ⟨by show (0 : Int) ≤ (first : Int); omega, by show (first : Int) < ((8 : Nat) : Int); omega⟩ ?_
            conv => lhs; whnf
            refine go_rd (hq.raw.rd_row hrow) ?_
            conv => lhs; whnf
            repeat (first | refine go_rd hq.raw.rd_first ?_ | refine go_rd (hq.raw.rd_row hrow) ?_ | refine go_rd hq.raw.rd_n ?_ | refine go_D hD rfl ?_
                    conv => lhs; whnf)
            refine (hD _).2 ⟨hq.raw.room (by show 0 + 120 + 1 ≤ 123; omega), fun A1 hP => ?_⟩
            conv => lhs; whnf
            refine (hD _).2 ⟨(hq.raw.put_first (m := (first + 1) % 8) (by rw [← next_first hlo]; exact hP)).room (by show 0 + 121 + 1 ≤ 123; omega), fun A2 hN => ?_⟩
            conv => lhs; whnf
            obtain ⟨k1, k2⟩ := hq.out (next_first hlo) (next_n hq.hi) hP hN
            exact (hD _).2 ⟨k1, .inr ⟨_, _, _, rfl, settle_yes hk ht hx, rfl, k2, _, _, _, _, rfl, hx1, hx2, hx3, hx4, hx5⟩⟩
          · refine go_b (by simp [hx]) ?_
            conv => lhs; whnf
            exact (hD _).2 ⟨but_of _ _, .inl ⟨_, rfl, rfl, ⟨first, rows, hq⟩, fun d ds' h => by injection h with h _; subst h; exact settle_nox hx⟩⟩
        · refine no_dec ht ?_
          conv => lhs; whnf
          exact (hD _).2 ⟨but_of _ _, .inl ⟨_, rfl, rfl, ⟨first, rows, hq⟩, fun d ds' h => by injection h with h _; subst h; exact settle_not ht⟩⟩

end
end Go.Proofs.Ytpingnkjenicaaa

namespace Go.Proofs.Ytpingnkjenicaaa
open Go.Sx Go.RowKit
noncomputable section
open Classical

structure RqG where
  ds : List AskD
  B : Arena
  O : Nat → Prop
  r : Nat

def alQueue : TypeId → Bool := fun t => Nat.beq t 54

def rqNewS : FSpec := ⟨Unit, fun _ vs _ => vs = [],
  fun _ _ A v A' => A.Sub A' ∧ ∃ r O, v = .pointer (some ⟨r, 0, none⟩) ∧ RqAt A' Arena.void O r [] ∧ ∀ k, O k → A.blk k = none⟩

set_option maxRecDepth 100000 in
set_option maxHeartbeats 0 in
theorem rqNew_ok : FOk Try.prog 5 rqNewS := by
  refine fok_a mixed alQueue fun _ vs A hp => ?_
  obtain rfl : vs = [] := hp
  refine ⟨noC, noL, 60, noC_sound _, noL_sound _, fun blk os out tape D hD => ?_⟩
  conv => lhs; whnf
  refine (hD _).2 fun r A1 hN => ?_
  have hN : A.New A1 r #[.slice none 0 0] 54 := hN
  have hR : RqR A1 Arena.void (fun k => k = r) r [] [] (.slice none 0 0) 0 :=
    { top := CellsAt.new hN
      row := .inl ⟨rfl, rfl, rfl⟩
      asks := by rw [AsksR]
      sub := fun k o hk => (by cases hk)
      own := ⟨rfl, fun c n h => (by cases h)⟩
      off := fun _ _ => rfl
      live := fun k hk => by
        subst hk
        exact ⟨_, hN.at_⟩
      ne := fun c n h => (by cases h) }
  have hend : rqNewS.post () [] A (.pointer (some ⟨r, 0, none⟩)) A1 := ⟨hN.sub, r, _, rfl, ⟨_, _, _, hR⟩, fun k hk => by
    subst hk
    exact hN.none_⟩
  conv => lhs; whnf
  exact (hD _).2 hend

def rqCountS : FSpec := ⟨RqG, fun g vs A => vs = [.pointer (some ⟨g.r, 0, none⟩)] ∧ RqAt A g.B g.O g.r g.ds, fun g _ A v A' => A' = A ∧ v = .int .i64 g.ds.length⟩

set_option maxRecDepth 100000 in
set_option maxHeartbeats 0 in
theorem rqCount_ok : FOk Try.prog 20 rqCountS := by
  refine fok_v mixed fun ⟨ds, B, O, r⟩ vs A hp => ?_
  obtain ⟨rfl, rows, v, g, h⟩ : vs = [.pointer (some ⟨r, 0, none⟩)] ∧ RqAt A B O r ds := hp
  refine ⟨noC, noL, 60, noC_sound _, noL_sound _, fun blk os out tape D hD => ?_⟩
  obtain ⟨base, c, hv, _⟩ := h.row.form
  subst hv
  have htop : A.rd r 0 1 = some [.slice (addrA base) ds.length c] := h.top.rd (o := 0) (n := 1) (by show 0 + 1 ≤ 1; omega)
  conv => lhs; whnf
  repeat (refine go_rd htop ?_
          conv => lhs; whnf)
  exact (hD _).2 ⟨rfl, rfl⟩

/-! ### Put -/

/-- The last element of a row is stored. -/
theorem LRow.last {A A2 : Arena} {g es : Nat} {e : TypeId} {n c : Nat} {cs zs ys : List Value} (h : LRow A g es e (n + 1) c (cs ++ zs)) (hc : cs.length = n * es) (hy : ys.length = es) (hP : A.Put A2 g (0 + n * es) ys) : LRow A2 g es e (n + 1) c (cs ++ ys) ∧ ∀ k, k ≠ g → A2.blk k = A.blk k := by
  obtain ⟨⟨cc, h1, h2, h3⟩, h4, h5⟩ := h
  obtain ⟨c0, t0, fz0, c', k1, k2, k3⟩ := hP.at_
  rw [h1] at k1
  injection k1 with k1
  injection k1 with k1 k1' k1''
  subst k1; subst k1'; subst k1''
  have hle := Nat.mul_le_mul_right es h4
  have hm : (n + 1) * es = n * es + es := Nat.succ_mul n es
  have ht : cc.toList.take (n * es) = cs := by
    have : (cc.toList.take ((n + 1) * es)).take (n * es) = cs := by rw [h3, List.take_left' hc]
    rw [List.take_take, Nat.min_eq_left (by omega)] at this
    exact this
  refine ⟨⟨⟨c', k2, ?_, ?_⟩, h4, by rw [List.length_append, hc, hy, hm]⟩, hP.other⟩
  · rw [← Array.length_toList, k3]
    simp only [List.length_append, List.length_take, List.length_drop, Array.length_toList, h2, hy]
    omega
  · rw [k3, Nat.zero_add, ht, List.take_append_of_le_length (by rw [List.length_append, hc, hy]; omega), List.take_of_length_le (by rw [List.length_append, hc, hy]; omega)]

def rqPutS : FSpec := ⟨RqG × AskD × Arena, fun g vs A => ∃ cs, vs = [.pointer (some ⟨g.1.r, 0, none⟩), askV cs] ∧ RqAt A g.1.B g.1.O g.1.r g.1.ds ∧ AskR A g.2.1 cs ∧ g.1.ds.length ≤ 8,
  fun g _ A v A' => (g.1.ds.length = 8 ∧ v = .int .i64 360 ∧ A' = A) ∨ (g.1.ds.length < 8 ∧ v = .int .i64 0 ∧ ∃ B' O', RqAt A' B' O' g.1.r (g.1.ds ++ [g.2.1]) ∧ Step A g.1.B g.1.O A' B' O')⟩

set_option maxRecDepth 100000 in
set_option maxHeartbeats 0 in
theorem rqPut_ok : FOk Try.prog 11 rqPutS := by
  refine fok_v mixed fun ⟨⟨ds, B, O, r⟩, d, C⟩ vs A hp => ?_
  obtain ⟨cs, rfl, ⟨rows, v, g, h⟩, hR, hle8⟩ : ∃ cs, vs = [.pointer (some ⟨r, 0, none⟩), askV cs] ∧ RqAt A B O r ds ∧ AskR A d cs ∧ ds.length ≤ 8 := hp
  have hC : CTSound Try.prog (lookC [specE 31 copiedS'] noC) := lookC_sound (noC_sound _) (fun x hx => by
    simp only [List.mem_singleton] at hx
    subst hx; exact specE_ok rcopied_ok)
  obtain ⟨p0, p1, p2, p3, p4, q5, u5, n5, p6, p7, p8, p9, p10, p11, p12, q13, u13, n13, q14, u14, n14, rfl⟩ := hR.form
  refine ⟨_, noL, 60, hC, noL_sound _, fun blk os out tape D hD => ?_⟩
  obtain ⟨base, c, hv, hlec, hcl, hrd, hnone, hbs, hroom, happ⟩ := h.row.form
  have hv0 := hv
  subst hv
  have htop : A.rd r 0 1 = some [.slice (addrA base) ds.length c] := h.top.rd (o := 0) (n := 1) (by show 0 + 1 ≤ 1; omega)
  conv => lhs; whnf
  repeat (refine go_rd htop ?_
          conv => lhs; whnf)
  refine split_dec (fun hb => ?_) (fun hb => ?_)
  · have h8 : ds.length = 8 := by
      have hb : (8 : Int) ≤ (ds.length : Int) := hb
      omega
    have hend : rqPutS.post (⟨ds, B, O, r⟩, d, C) [] A (.int .i64 360) A := .inl ⟨h8, rfl, rfl⟩
    conv => lhs; whnf
    exact (hD _).2 hend
  have hlt8 : ds.length < 8 := by
    have hb : ¬ (8 : Int) ≤ (ds.length : Int) := hb
    omega
  conv => lhs; whnf
  repeat (first | refine go_rd htop ?_ | refine go_D hD rfl ?_
          conv => lhs; whnf)
  have hz1 : ∀ v ∈ zeroC, v.oneCell' = true := fun v hv => by
    simp only [zeroC, List.mem_cons, List.not_mem_nil, or_false] at hv
    rcases hv with rfl | rfl | rfl | rfl | rfl | rfl | rfl | rfl | rfl | rfl | rfl | rfl | rfl | rfl | rfl <;> rfl
  refine go_b ?_ ?_
  conv => lhs; whnf
  repeat (first | refine go_rd htop ?_ | refine go_D hD rfl ?_
          conv => lhs; whnf)
  refine (hD _).2 ⟨d, ⟨_, rfl, hR⟩, fun v A1 hq => ?_⟩
  have hq : A.Sub A1 ∧ ∃ cs, v = askV cs ∧ AskR (A1.minus A) d cs := hq
  obtain ⟨s1, cs2, hv2, hr2⟩ := hq
  subst hv2
  have hr20 := hr2
  obtain ⟨p0, p1, p2, p3, p4, q5, u5, n5, p6, p7, p8, p9, p10, p11, p12, q13, u13, n13, q14, u14, n14, hcs2⟩ := hr2.form
  subst hcs2
  have htop1 := rd_sub s1 htop
  conv => lhs; whnf
  repeat (first | refine go_rd htop1 ?_ | refine go_D hD rfl ?_
          conv => lhs; whnf)
  refine (hD _).2 fun gb A2 hN2 => ?_
  have hN2 : A1.New A2 gb zeroC.toArray 34 := hN2
  have sA2 : A.Sub A2 := s1.trans hN2.sub
  have htop2 := rd_sub sA2 htop
  have hrow2 : A2.rd gb 0 (1 * 15) = some zeroC := hN2.rd (o := 0) (n := 1 * 15) (by show 0 + 1 * 15 ≤ 15; omega)
  have hr20 := AskR.sub (minus_up (A := A) hN2.sub) _ _ hr20
  rotate_left
  conv => lhs; whnf
  refine (hD _).2 fun gb A0 hN0 => ?_
  have hN0 : A.New A0 gb zeroC.toArray 34 := hN0
  have htop0 := rd_sub hN0.sub htop
  have hR0 := AskR.sub hN0.sub _ _ hR
  conv => lhs; whnf
  repeat (first | refine go_rd htop0 ?_ | refine go_D hD rfl ?_
          conv => lhs; whnf)
  refine (hD _).2 ⟨d, ⟨_, rfl, hR0⟩, fun v A2 hq => ?_⟩
  have hq : A0.Sub A2 ∧ ∃ cs, v = askV cs ∧ AskR (A2.minus A0) d cs := hq
  obtain ⟨s1, cs2, hv2, hr2⟩ := hq
  subst hv2
  have hr20 := hr2
  obtain ⟨p0, p1, p2, p3, p4, q5, u5, n5, p6, p7, p8, p9, p10, p11, p12, q13, u13, n13, q14, u14, n14, hcs2⟩ := hr2.form
  subst hcs2
  have sA2 : A.Sub A2 := hN0.sub.trans s1
  have htop2 := rd_sub sA2 htop
  have hrow2 : A2.rd gb 0 (1 * 15) = some zeroC := rd_sub s1 (hN0.rd (o := 0) (n := 1 * 15) (by show 0 + 1 * 15 ≤ 15; omega))
  have hr20 := AskR.sub (minus_later (A2 := A2) hN0.sub) _ _ hr20
  all_goals
    have hlen15 := hr20.len
    have hone : ∀ v ∈ [Value.int .u8 p0, .int .i64 p1, .int .i64 p2, .int .i64 p3, .string p4, .slice q5 u5 n5, .int .i64 p6, .int .i64 p7, .bool p8, .int .u8 p9, .int .i64 p10, .int .i64 p11, .int .i64 p12, .slice q13 u13 n13, .slice q14 u14 n14], v.oneCell' = true := fun v hv => by
      simp only [List.mem_cons, List.not_mem_nil, or_false] at hv
      rcases hv with rfl | rfl | rfl | rfl | rfl | rfl | rfl | rfl | rfl | rfl | rfl | rfl | rfl | rfl | rfl <;> rfl
    obtain ⟨base', c', hv', hlec', hcl2, hrd2, hnone2, _, hroom2, happ2⟩ := (h.row.sub sA2).form
    injection hv' with e1 e2 e3
    have e1 := addrA_inj e1
    subst e1; subst e3
    refine Or.elim hbs (fun hb0 => ?_) (fun hb0 => ?_)
    all_goals
      subst hb0
      conv => lhs; whnf
      repeat (first | refine go_rd htop2 ?_ | refine go_D hD rfl ?_
              conv => lhs; whnf)
      refine (hD _).2 ⟨rows.flatten, zeroC, hrd2, by
        show (if 1 * 15 = 0 then some [] else A2.rd gb 0 (1 * 15)) = _
        rw [if_neg (by omega)]; exact hrow2, rfl, hz1, by
        show ds.length + 1 ≤ _
        omega, fun h9 => (by
        have h9 : c < ds.length + 1 := h9
        show Builtin.nextslicecap (ds.length + 1) c * 168 ≤ _
        have := nextcap_le2 h9
        omega), rfl, hnone2, fun g' o' he hle _ => hroom2 1 g' o' he hle, fun v A3 hA3 => ?_⟩
      obtain ⟨g3, hX3, hg3, ho3⟩ := happ2 zeroC v A3 rfl hA3
      obtain ⟨h0, _⟩ | ⟨c3, hv3, hL3⟩ := hX3
      · omega
      subst hv3
      have i3 : (0 : Int) ≤ (ds.length : Int) ∧ (ds.length : Int) < ((ds.length + 1 : Nat) : Int) := by omega
      conv => lhs; whnf
      repeat (first | refine go_in i3 ?_ | refine go_D hD rfl ?_
              conv => lhs; whnf)
      have hg3r : g3 ≠ r := h.apart hv0 sA2 hg3
      have htop2c : CellsAt A2 r [_] := h.top.sub fun o ho => sA2 _ _ ho
      have htop3c : CellsAt A3 r [_] := htop2c.sub fun o ho => by rw [ho3 r (Ne.symm hg3r)]; exact ho
      have hroomE : A3.Room g3 (0 + ds.length * 15) 15 := hL3.room (by
        have := Nat.mul_le_mul_right 15 hL3.le
        omega)
      have hroomR : A3.Room r 0 1 := htop3c.room (by show 0 + 1 ≤ 1; omega)
      refine go_b ?_ ?_
      · conv => lhs; whnf
        refine (hD _).2 ⟨hroomE, fun A4 hP4 => ?_⟩
        have hP4 : A3.Put A4 g3 (0 + ds.length * 15) [.int .u8 p0, .int .i64 p1, .int .i64 p2, .int .i64 p3, .string p4, .slice q5 u5 n5, .int .i64 p6, .int .i64 p7, .bool p8, .int .u8 p9, .int .i64 p10, .int .i64 p11, .int .i64 p12, .slice q13 u13 n13, .slice q14 u14 n14] := hP4
        obtain ⟨hL4, ho4⟩ := hL3.last hcl2 rfl hP4
        have htop4 : CellsAt A4 r [_] := htop3c.sub fun o ho => by rw [ho4 r (Ne.symm hg3r)]; exact ho
        have hroomR4 : A4.Room r 0 1 := htop4.room (by show 0 + 1 ≤ 1; omega)
        conv => lhs; whnf
        repeat (refine go_D hD rfl ?_
                conv => lhs; whnf)
        refine (hD _).2 ⟨hroomR4, fun A5 hP5 => ?_⟩
        have hP5 : A4.Put A5 r 0 [.slice (some ⟨g3, 0, none⟩) (ds.length + 1) c3] := hP5
        have htop5 : CellsAt A5 r [.slice (some ⟨g3, 0, none⟩) (ds.length + 1) c3] := htop4.put hP5 (by show 0 + 1 ≤ 1; omega)
        have hend : rqPutS.post (⟨ds, B, O, r⟩, d, C) [] A (.int .i64 0) A5 := .inr ⟨hlt8, rfl, h.push hv0 sA2 hr20 (Arena.Sub.refl _) (.inr ⟨c3, rfl, hL4.keep (hP5.other g3 hg3r)⟩) hg3 (fun k h1 h2 => by rw [hP5.other k h2, ho4 k h1, ho3 k h1]) htop5⟩
        conv => lhs; whnf
        exact (hD _).2 hend
      · conv => lhs; whnf
        refine (hD _).2 ⟨hroomR, fun A4 hP4 => ?_⟩
        have hP4 : A3.Put A4 r 0 [.slice (some ⟨g3, 0, none⟩) (ds.length + 1) c3] := hP4
        have htop4 : CellsAt A4 r [.slice (some ⟨g3, 0, none⟩) (ds.length + 1) c3] := htop3c.put hP4 (by show 0 + 1 ≤ 1; omega)
        have hL34 := hL3.keep (hP4.other g3 hg3r)
        have hroomE4 : A4.Room g3 (0 + ds.length * 15) 15 := hL34.room (by
          have := Nat.mul_le_mul_right 15 hL3.le
          omega)
        conv => lhs; whnf
        repeat (refine go_D hD rfl ?_
                conv => lhs; whnf)
        refine (hD _).2 ⟨hroomE4, fun A5 hP5 => ?_⟩
        have hP5 : A4.Put A5 g3 (0 + ds.length * 15) [.int .u8 p0, .int .i64 p1, .int .i64 p2, .int .i64 p3, .string p4, .slice q5 u5 n5, .int .i64 p6, .int .i64 p7, .bool p8, .int .u8 p9, .int .i64 p10, .int .i64 p11, .int .i64 p12, .slice q13 u13 n13, .slice q14 u14 n14] := hP5
        obtain ⟨hL5, ho5⟩ := hL34.last hcl2 rfl hP5
        have htop5 : CellsAt A5 r [.slice (some ⟨g3, 0, none⟩) (ds.length + 1) c3] := htop4.sub fun o ho => by rw [ho5 r (Ne.symm hg3r)]; exact ho
        have hend : rqPutS.post (⟨ds, B, O, r⟩, d, C) [] A (.int .i64 0) A5 := .inr ⟨hlt8, rfl, h.push hv0 sA2 hr20 (Arena.Sub.refl _) (.inr ⟨c3, rfl, hL5⟩) hg3 (fun k h1 h2 => by rw [ho5 k h1, hP4.other k h2, ho3 k h1]) htop5⟩
        conv => lhs; whnf
        exact (hD _).2 hend

end
end Go.Proofs.Ytpingnkjenicaaa

namespace Go.Proofs.Ytpingnkjenicaaa
open Go.Sx Go.RowKit
noncomputable section
open Classical

/-- A row laid anew behind an empty one. -/
theorem out_end {A A1 A2 : Arena} {gb es n : Nat} {e : TypeId} {ys : List Value} {v : Value} (hN : A.New A1 gb #[] e) (hy : ys.length = n * es) (ha : Appended A1 (some (gb, 0)) 0 0 es e [] ys n v A2) :
    ∃ g' c', v = .slice (some ⟨g', 0, none⟩) n c' ∧ LRow A2 g' es e n c' ys ∧ A.blk g' = none ∧ A.Sub A2 := by
  by_cases hn0 : n = 0
  · subst hn0
    have hys : ys = [] := List.length_eq_zero_iff.1 (by rw [hy, Nat.zero_mul])
    subst hys
    have hL0 : LRow A1 gb es e 0 0 [] := ⟨⟨_, hN.at_, by simp, by simp⟩, Nat.le_refl _, by simp⟩
    obtain ⟨h1, h2, h3⟩ := hL0.add (m := 0) (Nat.le_refl _) hy ha
    refine ⟨gb, 0, h1, h2, hN.none_, fun k o hk => ?_⟩
    rw [h3 k fun e => (by subst e; rw [hN.none_] at hk; cases hk)]
    exact hN.sub _ _ hk
  rcases ha with ⟨h0, _⟩ | ⟨h0, g', nc, cs, zs, rfl, hnc, hc, hz, hN2⟩
  · omega
  · refine ⟨g', nc, by rw [Nat.zero_add], ⟨⟨cs, hN2.at_, ?_, ?_⟩, by omega, hy⟩, ?_, hN.sub.trans hN2.sub⟩
    · rw [← Array.length_toList, hc, List.nil_append, List.length_append, hy, hz, Nat.zero_add, ← Nat.add_mul]
      congr 1; omega
    · rw [hc, List.nil_append, List.take_append_of_le_length (by omega), List.take_of_length_le (by omega)]
    · cases h : A.blk g' with
      | none => rfl
      | some o => have := hN2.none_; rw [hN.sub g' o h] at this; cases this

theorem RqR.pop {A B : Arena} {O : Nat → Prop} {r : Nat} {d : AskD} {ds' : List AskD} {cs : List Value} {rs : List (List Value)} {v : Value} {g : Nat} (h : RqR A B O r (d :: ds') (cs :: rs) v g) {A2 A3 : Arena} {g' c' : Nat}
    (hRs : AsksR B ds' rs) (hL : LRow A2 g' 15 34 ds'.length c' rs.flatten) (hn : A.blk g' = none) (hs : A.Sub A2) (hP : A2.Put A3 r 0 [.slice (some ⟨g', 0, none⟩) ds'.length c']) :
    ∃ O', RqAt A3 B O' r ds' ∧ Step A B O A3 B O' := by
  obtain ⟨orr, hor⟩ := h.live r h.own.1
  have hgr : g' ≠ r := fun e => by rw [e, hor] at hn; cases hn
  have htop2 : CellsAt A2 r [v] := h.top.sub fun o ho => hs _ _ ho
  have htop : CellsAt A3 r [.slice (some ⟨g', 0, none⟩) ds'.length c'] := htop2.put hP (by show 0 + 1 ≤ 1; omega)
  have hOB : ∀ k o, B.blk k = some o → ¬ O k := fun k o hk hO => by rw [h.off k hO] at hk; cases hk
  refine ⟨fun k => O k ∨ k = g', ⟨rs, _, g', ⟨htop, .inr ⟨c', rfl, hL.keep (hP.other g' hgr)⟩, hRs, fun k o hk => ?_, ⟨.inl h.own.1, fun _ _ _ => .inr rfl⟩, fun k hk => ?_, fun k hk => ?_, fun _ _ _ => hgr⟩⟩, fun k o hk hO => ?_, fun k hk => ?_, fun k hk => ?_, Arena.Sub.refl _, fun k o hk => .inl hk⟩
  · rw [hP.other k fun e => hOB k o hk (e ▸ h.own.1)]
    exact hs _ _ (h.sub k o hk)
  · rcases hk with hk | rfl
    · exact h.off k hk
    · cases hb : B.blk k with
      | none => rfl
      | some o => rw [h.sub k o hb] at hn; cases hn
  · by_cases e : k = r
    · rw [e]; exact htop.dom
    · rw [hP.other k e]
      rcases hk with hk | rfl
      · obtain ⟨o, ho⟩ := h.live k hk
        exact ⟨o, hs _ _ ho⟩
      · obtain ⟨cc, h1, _⟩ := hL.at_
        exact ⟨_, h1⟩
  · rw [hP.other k fun e => hO (e ▸ h.own.1)]
    exact hs _ _ hk
  · have h3 := (hP.dom k).1 hk
    cases hA : A.blk k with
    | none => rfl
    | some o => rw [hs _ _ hA] at h3; cases h3
  · rcases hk with hk | rfl
    · exact .inl hk
    · exact .inr hn

def rqOutS : FSpec := ⟨RqG × Bool, fun g vs A => vs = [.pointer (some ⟨g.1.r, 0, none⟩), .bool g.2] ∧ RqAt A g.1.B g.1.O g.1.r g.1.ds ∧ g.1.ds.length ≤ 8 ∧ (g.2 = true → g.1.ds ≠ []),
  fun g _ A v A' => (g.2 = false ∧ v = .tuple #[askV zeroC, .bool false] ∧ A' = A) ∨ (g.2 = true ∧ ∃ d ds' cs, g.1.ds = d :: ds' ∧ v = .tuple #[askV cs, .bool true] ∧ AskR g.1.B d cs ∧ ∃ O', RqAt A' g.1.B O' g.1.r ds' ∧ Step A g.1.B g.1.O A' g.1.B O')⟩

set_option maxRecDepth 100000 in
set_option maxHeartbeats 0 in
theorem rqOut_ok : FOk Try.prog 41 rqOutS := by
  refine fok_v mixed fun ⟨⟨ds, B, O, r⟩, b⟩ vs A hp => ?_
  obtain ⟨rfl, hq, hle8, hne⟩ : vs = [.pointer (some ⟨r, 0, none⟩), .bool b] ∧ RqAt A B O r ds ∧ ds.length ≤ 8 ∧ (b = true → ds ≠ []) := hp
  refine ⟨noC, noL, 60, noC_sound _, noL_sound _, fun blk os out tape D hD => ?_⟩
  cases b with
  | false =>
    conv => lhs; whnf
    exact (hD _).2 (.inl ⟨rfl, rfl, rfl⟩)
  | true =>
  cases ds with
  | nil => exact absurd rfl (hne rfl)
  | cons d ds' =>
  obtain ⟨rows, v, g, h⟩ := hq
  have hasks := h.asks
  rw [AsksR] at hasks
  obtain ⟨cs, rs, hrows, hR, hRs⟩ := hasks
  subst hrows
  obtain ⟨h0, _⟩ | ⟨c, hv, hL⟩ := h.row
  · cases h0
  subst hv
  have htop : A.rd r 0 1 = some [.slice (some ⟨g, 0, none⟩) (d :: ds').length c] := h.top.rd (o := 0) (n := 1) (by show 0 + 1 ≤ 1; omega)
  have hcs := hR.len
  have hrd := hL.rd
  have r0 : A.rd g (0 + 0 * 15) 15 = some cs := by
    have h9 := rd_at hrd (i := 0) (m := 15) (by simp only [List.length_cons]; omega)
    rw [List.drop_zero, List.flatten_cons, List.take_append_of_le_length (by omega), List.take_of_length_le (by omega)] at h9
    exact h9
  have i0 : (0 : Int) ≤ (0 : Int) ∧ (0 : Int) < ((d :: ds').length : Int) := by simp only [List.length_cons]; omega
  have hR0 := hR
  obtain ⟨p0, p1, p2, p3, p4, q5, u5, n5, p6, p7, p8, p9, p10, p11, p12, q13, u13, n13, q14, u14, n14, rfl⟩ := hR.form
  conv => lhs; whnf
  repeat (first | refine go_rd htop ?_ | refine go_in i0 ?_ | refine go_rd r0 ?_
          conv => lhs; whnf)
  refine (hD _).2 fun gb A1 hN1 => ?_
  have hN1 : A.New A1 gb #[] 34 := hN1
  have htop1 := rd_sub hN1.sub htop
  have hlec := hL.le
  have bnd1 : ((decide ((0 : Int) ≤ 1) && decide ((1 : Int) ≤ (((d :: ds').length : Nat) : Int))) && (true || true)) = true := by
    simp only [List.length_cons]
    exact Bool.and_eq_true_iff.2 ⟨Bool.and_eq_true_iff.2 ⟨decide_eq_true (by omega), decide_eq_true (by omega)⟩, rfl⟩
  conv => lhs; whnf
  repeat (first | refine go_rd htop1 ?_ | refine go_D hD rfl ?_
          conv => lhs; whnf)
  refine go_b bnd1 ?_
  conv => lhs; whnf
  repeat (first | refine go_rd htop1 ?_ | refine go_D hD rfl ?_
          conv => lhs; whnf)
  have hl15 := hRs.lens
  have hrl := hRs.length
  have hfl : rs.flatten.length = ds'.length * 15 := by rw [flat15 hl15, hrl]
  have hl9 : ds'.length ≤ 7 := by
    have := hle8
    simp only [List.length_cons] at this
    omega
  have hsrc : (if ds'.length = 0 then some [] else A1.rd g (0 + bif c.beq 1 then 0 else 1 * 15) (ds'.length * 15)) = some rs.flatten := by
    by_cases h0 : ds'.length = 0
    · have h9 : rs.flatten = [] := List.length_eq_zero_iff.1 (by rw [hfl, h0, Nat.zero_mul])
      rw [if_pos h0, h9]
    · rw [if_neg h0]
      have hc1 : c.beq 1 = false := by
        cases hb : c.beq 1 with
        | false => rfl
        | true =>
          have := Nat.eq_of_beq_eq_true hb
          simp only [List.length_cons] at hlec
          omega
      rw [hc1]
      have h9 := rd_at (rd_sub hN1.sub hrd) (i := 15) (m := ds'.length * 15) (by simp only [List.length_cons]; omega)
      rw [List.flatten_cons, List.drop_left' (by simp), List.take_of_length_le (by omega)] at h9
      exact h9
  refine (hD _).2 ⟨[], rs.flatten, rfl, hsrc, hfl, asksR_one hRs, by
    show 0 + ds'.length ≤ _
    omega, fun h0 => (by
    have h0 : 0 < 0 + ds'.length := h0
    show Builtin.nextslicecap (0 + ds'.length) 0 * 168 ≤ _
    rw [nextcap0 h0]
    omega), rfl, fun h => (by cases h), fun _ _ _ h1 h2 => absurd (List.length_eq_zero_iff.1 (by
    have h1 : 0 + ds'.length ≤ 0 := h1
    rw [hfl]; omega)) h2, fun v A2 hA => ?_⟩
  obtain ⟨g', c', hv', hL', hn', hs'⟩ := out_end hN1 hfl hA
  subst hv'
  have htop2 : CellsAt A2 r [_] := h.top.sub fun o ho => hs' _ _ ho
  have hroomR : A2.Room r 0 1 := htop2.room (by show 0 + 1 ≤ 1; omega)
  conv => lhs; whnf
  repeat (first | refine go_rd htop1 ?_ | refine go_D hD rfl ?_
          conv => lhs; whnf)
  refine (hD _).2 ⟨hroomR, fun A3 hP => ?_⟩
  have hP : A2.Put A3 r 0 [.slice (some ⟨g', 0, none⟩) ds'.length c'] := hP
  have hend : rqOutS.post (⟨d :: ds', B, O, r⟩, true) [] A (.tuple #[askV [.int .u8 p0, .int .i64 p1, .int .i64 p2, .int .i64 p3, .string p4, .slice q5 u5 n5, .int .i64 p6, .int .i64 p7, .bool p8, .int .u8 p9, .int .i64 p10, .int .i64 p11, .int .i64 p12, .slice q13 u13 n13, .slice q14 u14 n14], .bool true]) A3 := .inr ⟨rfl, d, ds', _, rfl, rfl, hR0, h.pop hRs hL' hn' hs' hP⟩
  conv => lhs; whnf
  exact (hD _).2 hend

end
end Go.Proofs.Ytpingnkjenicaaa

namespace Go.Proofs.Ytpingnkjenicaaa
open Go.Sx Go.RowKit
noncomputable section
open Classical

def readingS : FSpec := ⟨Int, fun k vs _ => vs = [.int .u8 k], fun k _ A v A' => A' = A ∧ v = .bool (readsD k)⟩

set_option maxRecDepth 100000 in
set_option maxHeartbeats 0 in
theorem reading_ok : FOk Try.prog 42 readingS := by
  refine fok_v mixed fun (k : Int) vs A hp => ?_
  obtain rfl : vs = [.int .u8 k] := hp
  refine ⟨noC, noL, 60, noC_sound _, noL_sound _, fun blk os out tape D hD => ?_⟩
  conv => lhs; whnf
  by_cases hk : readsD k = true
  · have hend : readingS.post k [] A (.bool true) A := ⟨rfl, by rw [hk]⟩
    have hk' := hk
    simp only [readsD, Bool.or_eq_true, Bool.and_eq_true, decide_eq_true_eq] at hk'
    rcases hk' with (⟨ha, hb⟩ | rfl) | rfl
    · have h3 : k = 7 ∨ k = 8 ∨ k = 9 := by omega
      rcases h3 with rfl | rfl | rfl
      all_goals
        conv => lhs; whnf
        exact (hD _).2 hend
    all_goals
      conv => lhs; whnf
      exact (hD _).2 hend
  · have hk0 : readsD k = false := by simpa using hk
    have hend : readingS.post k [] A (.bool false) A := ⟨rfl, by rw [hk0]⟩
    have hk' := hk0
    simp only [readsD, Bool.or_eq_false_iff, Bool.and_eq_false_iff, decide_eq_false_iff_not] at hk'
    have n7 : ¬ k = 7 := by omega
    have n8 : ¬ k = 8 := by omega
    have n9 : ¬ k = 9 := by omega
    have n13 : ¬ k = 13 := by omega
    have n14 : ¬ k = 14 := by omega
    repeat (first | refine no_dec n7 ?_ | refine no_dec n8 ?_ | refine no_dec n9 ?_ | refine no_dec n13 ?_ | refine no_dec n14 ?_ | refine split_b (fun hb => (by first | exact absurd (of_decide_eq_true (p := k = 7) hb) n7 | exact absurd (of_decide_eq_true (p := k = 8) hb) n8 | exact absurd (of_decide_eq_true (p := k = 9) hb) n9 | exact absurd (of_decide_eq_true (p := k = 14) hb) n14 | exact absurd (of_decide_eq_true (p := k = 13) hb) n13)) (fun _ => ?_)
            conv => lhs; whnf)
    refine (hD _).2 ⟨rfl, ?_⟩
    show Value.bool (bif false then true else decide (k = 13)) = .bool (readsD k)
    rw [hk0, decide_eq_false n13]
    rfl

def rOut (g : RqG) (is : AskD → Bool) (A : Arena) (v : Value) (A' : Arena) : Prop :=
  (v = .tuple #[askV zeroC, .bool false] ∧ A' = A ∧ ∀ d ds', g.ds = d :: ds' → is d = false) ∨
    ∃ d ds' cs, g.ds = d :: ds' ∧ is d = true ∧ v = .tuple #[askV cs, .bool true] ∧ AskR g.B d cs ∧ ∃ O', RqAt A' g.B O' g.r ds' ∧ Step A g.B g.O A' g.B O'

def rqReadS : FSpec := ⟨RqG, fun g vs A => vs = [.pointer (some ⟨g.r, 0, none⟩)] ∧ RqAt A g.B g.O g.r g.ds ∧ g.ds.length ≤ 8,
  fun g _ A v A' => rOut g (fun d => readsD d.kind) A v A'⟩

set_option maxRecDepth 100000 in
set_option maxHeartbeats 0 in
theorem rqRead_ok : FOk Try.prog 15 rqReadS := by
  refine fok_v mixed fun ⟨ds, B, O, r⟩ vs A hp => ?_
  obtain ⟨rfl, hq, hle8⟩ : vs = [.pointer (some ⟨r, 0, none⟩)] ∧ RqAt A B O r ds ∧ ds.length ≤ 8 := hp
  have hC : CTSound Try.prog (lookC [specE 41 rqOutS, specE 42 readingS] noC) := lookC_sound (noC_sound _) (fun x hx => by
    simp only [List.mem_cons, List.not_mem_nil, or_false] at hx
    rcases hx with rfl | rfl
    · exact specE_ok rqOut_ok
    · exact specE_ok reading_ok)
  refine ⟨_, noL, 60, hC, noL_sound _, fun blk os out tape D hD => ?_⟩
  have hq0 := hq
  obtain ⟨rows, v, g, h⟩ := hq
  cases ds with
  | nil =>
    obtain ⟨base, c, hv, _⟩ := h.row.form
    subst hv
    have htop : A.rd r 0 1 = some [.slice (addrA base) 0 c] := h.top.rd (o := 0) (n := 1) (by show 0 + 1 ≤ 1; omega)
    conv => lhs; whnf
    repeat (refine go_rd htop ?_
            conv => lhs; whnf)
    refine (hD _).2 ⟨((⟨[], B, O, r⟩ : RqG), false), ⟨rfl, hq0, hle8, fun h => (by cases h)⟩, fun v A1 hq => ?_⟩
    have hq : (false = false ∧ v = .tuple #[askV zeroC, .bool false] ∧ A1 = A) ∨ (false = true ∧ ∃ d ds' cs, [] = d :: ds' ∧ v = .tuple #[askV cs, .bool true] ∧ AskR B d cs ∧ ∃ O', RqAt A1 B O' r ds' ∧ Step A B O A1 B O') := hq
    obtain ⟨_, hv, h9⟩ | ⟨h9, _⟩ := hq
    · subst hv; subst h9
      have hend : rqReadS.post ⟨[], B, O, r⟩ [] A1 (.tuple #[askV zeroC, .bool false]) A1 := .inl ⟨rfl, rfl, fun d ds' h => (by cases h)⟩
      conv => lhs; whnf
      exact (hD _).2 hend
    · cases h9
  | cons d ds' =>
  have hasks := h.asks
  rw [AsksR] at hasks
  obtain ⟨cs, rs, hrows, hR, hRs⟩ := hasks
  subst hrows
  obtain ⟨h0, _⟩ | ⟨c, hv, hL⟩ := h.row
  · cases h0
  subst hv
  have htop : A.rd r 0 1 = some [.slice (some ⟨g, 0, none⟩) (d :: ds').length c] := h.top.rd (o := 0) (n := 1) (by show 0 + 1 ≤ 1; omega)
  have hcs := hR.len
  have r0 : A.rd g (0 + 0 * 15) 15 = some cs := by
    have h9 := rd_at hL.rd (i := 0) (m := 15) (by simp only [List.length_cons]; omega)
    rw [List.drop_zero, List.flatten_cons, List.take_append_of_le_length (by omega), List.take_of_length_le (by omega)] at h9
    exact h9
  have i0 : (0 : Int) ≤ (0 : Int) ∧ (0 : Int) < ((d :: ds').length : Int) := by simp only [List.length_cons]; omega
  have i1 : (0 : Int) < ((d :: ds').length : Int) := i0.2
  have hR0 := hR
  obtain ⟨kind, xid, ses, turn, path, data, flags, ver, watch, sort, last, tmo, frm, mem, parts⟩ := d
  rw [AskR] at hR
  obtain ⟨vd, vm, vp, rows', rfl, hx1, hx2, hx3, hx4, hx5⟩ := hR
  obtain ⟨a5, k5, rfl⟩ := hx1.1.form
  obtain ⟨a13, k13, rfl⟩ := hx2.1.form
  obtain ⟨a14, k14, rfl⟩ := hx3.form
  conv => lhs; whnf
  repeat (first | refine go_rd htop ?_ | refine go_in i0 ?_ | refine go_rd r0 ?_ | refine go_dec i1 ?_
          conv => lhs; whnf)
  have rK : A.rd g (0 + 0 * 15 + 0) 1 = some [.int .u8 kind] := rd_at r0 (i := 0) (m := 1) (by omega)
  repeat (first | refine go_rd htop ?_ | refine go_in i0 ?_ | refine go_rd rK ?_ | refine go_dec i1 ?_
          conv => lhs; whnf)
  refine (hD _).2 ⟨kind, rfl, fun v A1 hq => ?_⟩
  obtain ⟨h9, hv⟩ : A1 = A ∧ v = .bool (readsD kind) := hq
  subst h9; subst hv
  cases hk : readsD kind with
  | false =>
    conv => lhs; whnf
    repeat (first | refine go_rd htop ?_ | refine go_in i0 ?_ | refine go_rd rK ?_ | refine go_dec i1 ?_ | refine go_D hD rfl ?_
            conv => lhs; whnf)
    refine (hD _).2 ⟨((⟨_, B, O, r⟩ : RqG), false), ⟨rfl, hq0, hle8, fun h => (by cases h)⟩, fun v A2 hq => ?_⟩
    have hq : (false = false ∧ v = .tuple #[askV zeroC, .bool false] ∧ A2 = A1) ∨ (false = true ∧ ∃ d ds1 cs, (AskD.mk kind xid ses turn path data flags ver watch sort last tmo frm mem parts) :: ds' = d :: ds1 ∧ v = .tuple #[askV cs, .bool true] ∧ AskR B d cs ∧ ∃ O', RqAt A2 B O' r ds1 ∧ Step A1 B O A2 B O') := hq
    obtain ⟨_, hv, h9⟩ | ⟨h9, _⟩ := hq
    · subst hv; subst h9
      have hend : rqReadS.post ⟨(AskD.mk kind xid ses turn path data flags ver watch sort last tmo frm mem parts) :: ds', B, O, r⟩ [] A2 (.tuple #[askV zeroC, .bool false]) A2 := .inl ⟨rfl, rfl, fun d ds1 h => (by
        injection h with h _
        subst h
        exact hk)⟩
      conv => lhs; whnf
      exact (hD _).2 hend
    · cases h9
  | true =>
    conv => lhs; whnf
    repeat (first | refine go_rd htop ?_ | refine go_in i0 ?_ | refine go_rd rK ?_ | refine go_dec i1 ?_ | refine go_D hD rfl ?_
            conv => lhs; whnf)
    refine (hD _).2 ⟨((⟨_, B, O, r⟩ : RqG), true), ⟨rfl, hq0, hle8, fun _ h => (by cases h)⟩, fun v A2 hq => ?_⟩
    have hq : (true = false ∧ v = .tuple #[askV zeroC, .bool false] ∧ A2 = A1) ∨ (true = true ∧ ∃ d ds1 cs, (AskD.mk kind xid ses turn path data flags ver watch sort last tmo frm mem parts) :: ds' = d :: ds1 ∧ v = .tuple #[askV cs, .bool true] ∧ AskR B d cs ∧ ∃ O', RqAt A2 B O' r ds1 ∧ Step A1 B O A2 B O') := hq
    obtain ⟨h9, _⟩ | ⟨_, d2, ds2, cs2, hdd, hv, hR2, O', hat, hst⟩ := hq
    · cases h9
    injection hdd with e1 e2
    subst e1; subst e2
    subst hv
    have hend : rqReadS.post ⟨(AskD.mk kind xid ses turn path data flags ver watch sort last tmo frm mem parts) :: ds', B, O, r⟩ [] A1 (.tuple #[askV cs2, .bool true]) A2 := .inr ⟨_, _, _, rfl, hk, rfl, hR2, O', hat, hst⟩
    obtain ⟨p0, p1, p2, p3, p4, q5, u5, n5, p6, p7, p8, p9, p10, p11, p12, q13, u13, n13, q14, u14, n14, hcs2⟩ := hR2.form
    subst hcs2
    conv => lhs; whnf
    exact (hD _).2 hend

def rqSettleS : FSpec := ⟨RqG × Int × Int, fun g vs A => vs = [.pointer (some ⟨g.1.r, 0, none⟩), .int .i64 g.2.1, .int .i64 g.2.2] ∧ RqAt A g.1.B g.1.O g.1.r g.1.ds ∧ g.1.ds.length ≤ 8,
  fun g _ A v A' => rOut g.1 (fun d => !readsD d.kind && decide (d.turn = g.2.1) && decide (d.xid = g.2.2)) A v A'⟩

set_option maxRecDepth 100000 in
set_option maxHeartbeats 0 in
theorem rqSettle_ok : FOk Try.prog 18 rqSettleS := by
  refine fok_v mixed fun ⟨⟨ds, B, O, r⟩, tn, xn⟩ vs A hp => ?_
  obtain ⟨rfl, hq, hle8⟩ : vs = [.pointer (some ⟨r, 0, none⟩), .int .i64 tn, .int .i64 xn] ∧ RqAt A B O r ds ∧ ds.length ≤ 8 := hp
  have hC : CTSound Try.prog (lookC [specE 41 rqOutS, specE 42 readingS] noC) := lookC_sound (noC_sound _) (fun x hx => by
    simp only [List.mem_cons, List.not_mem_nil, or_false] at hx
    rcases hx with rfl | rfl
    · exact specE_ok rqOut_ok
    · exact specE_ok reading_ok)
  refine ⟨_, noL, 60, hC, noL_sound _, fun blk os out tape D hD => ?_⟩
  have hq0 := hq
  obtain ⟨rows, v, g, h⟩ := hq
  cases ds with
  | nil =>
    obtain ⟨base, c, hv, _⟩ := h.row.form
    subst hv
    have htop : A.rd r 0 1 = some [.slice (addrA base) 0 c] := h.top.rd (o := 0) (n := 1) (by show 0 + 1 ≤ 1; omega)
    conv => lhs; whnf
    repeat (refine go_rd htop ?_
            conv => lhs; whnf)
    refine (hD _).2 ⟨((⟨[], B, O, r⟩ : RqG), false), ⟨rfl, hq0, hle8, fun h => (by cases h)⟩, fun v A1 hq => ?_⟩
    have hq : (false = false ∧ v = .tuple #[askV zeroC, .bool false] ∧ A1 = A) ∨ (false = true ∧ ∃ d ds' cs, [] = d :: ds' ∧ v = .tuple #[askV cs, .bool true] ∧ AskR B d cs ∧ ∃ O', RqAt A1 B O' r ds' ∧ Step A B O A1 B O') := hq
    obtain ⟨_, hv, h9⟩ | ⟨h9, _⟩ := hq
    · subst hv; subst h9
      have hend : rqSettleS.post (⟨[], B, O, r⟩, tn, xn) [] A1 (.tuple #[askV zeroC, .bool false]) A1 := .inl ⟨rfl, rfl, fun d ds' h => (by cases h)⟩
      conv => lhs; whnf
      exact (hD _).2 hend
    · cases h9
  | cons d ds' =>
  have hasks := h.asks
  rw [AsksR] at hasks
  obtain ⟨cs, rs, hrows, hR, hRs⟩ := hasks
  subst hrows
  obtain ⟨h0, _⟩ | ⟨c, hv, hL⟩ := h.row
  · cases h0
  subst hv
  have htop : A.rd r 0 1 = some [.slice (some ⟨g, 0, none⟩) (d :: ds').length c] := h.top.rd (o := 0) (n := 1) (by show 0 + 1 ≤ 1; omega)
  have hcs := hR.len
  have r0 : A.rd g (0 + 0 * 15) 15 = some cs := by
    have h9 := rd_at hL.rd (i := 0) (m := 15) (by simp only [List.length_cons]; omega)
    rw [List.drop_zero, List.flatten_cons, List.take_append_of_le_length (by omega), List.take_of_length_le (by omega)] at h9
    exact h9
  have i0 : (0 : Int) ≤ (0 : Int) ∧ (0 : Int) < ((d :: ds').length : Int) := by simp only [List.length_cons]; omega
  have i1 : (0 : Int) < ((d :: ds').length : Int) := i0.2
  have hR0 := hR
  obtain ⟨kind, xid, ses, turn, path, data, flags, ver, watch, sort, last, tmo, frm, mem, parts⟩ := d
  rw [AskR] at hR
  obtain ⟨vd, vm, vp, rows', rfl, hx1, hx2, hx3, hx4, hx5⟩ := hR
  obtain ⟨a5, k5, rfl⟩ := hx1.1.form
  obtain ⟨a13, k13, rfl⟩ := hx2.1.form
  obtain ⟨a14, k14, rfl⟩ := hx3.form
  have rK : A.rd g (0 + 0 * 15 + 0) 1 = some [.int .u8 kind] := rd_at r0 (i := 0) (m := 1) (by omega)
  have rT : A.rd g (0 + 0 * 15 + 3) 1 = some [.int .i64 turn] := rd_at r0 (i := 3) (m := 1) (by omega)
  have rX : A.rd g (0 + 0 * 15 + 1) 1 = some [.int .i64 xid] := rd_at r0 (i := 1) (m := 1) (by omega)
  conv => lhs; whnf
  repeat (first | refine go_rd htop ?_ | refine go_in i0 ?_ | refine go_rd rK ?_ | refine go_dec i1 ?_
          conv => lhs; whnf)
  refine (hD _).2 ⟨kind, rfl, fun v A1 hq => ?_⟩
  obtain ⟨h9, hv⟩ : A1 = A ∧ v = .bool (readsD kind) := hq
  subst h9; subst hv
  have hend0 : (!readsD kind && decide (turn = tn) && decide (xid = xn)) = false → rqSettleS.post (⟨(AskD.mk kind xid ses turn path data flags ver watch sort last tmo frm mem parts) :: ds', B, O, r⟩, tn, xn) [] A1 (.tuple #[askV zeroC, .bool false]) A1 := fun hk => .inl ⟨rfl, rfl, fun d ds1 h => (by
    injection h with h _
    subst h
    exact hk)⟩
  cases hk : readsD kind with
  | true =>
    conv => lhs; whnf
    repeat (first | refine go_rd htop ?_ | refine go_in i0 ?_ | refine go_rd rK ?_ | refine go_rd rT ?_ | refine go_rd rX ?_ | refine go_dec i1 ?_ | refine go_D hD rfl ?_
            conv => lhs; whnf)
    refine (hD _).2 ⟨((⟨_, B, O, r⟩ : RqG), false), ⟨rfl, hq0, hle8, fun _ h => (by cases h)⟩, fun v A2 hq => ?_⟩
    have hq : (false = false ∧ v = .tuple #[askV zeroC, .bool false] ∧ A2 = A1) ∨ (false = true ∧ ∃ d ds1 cs, (AskD.mk kind xid ses turn path data flags ver watch sort last tmo frm mem parts) :: ds' = d :: ds1 ∧ v = .tuple #[askV cs, .bool true] ∧ AskR B d cs ∧ ∃ O', RqAt A2 B O' r ds1 ∧ Step A1 B O A2 B O') := hq
    obtain ⟨_, hv, h9⟩ | ⟨h9, _⟩ := hq
    · subst hv; subst h9
      have hend := hend0 (by rw [hk]; rfl)
      conv => lhs; whnf
      exact (hD _).2 hend
    · cases h9
  | false =>
    by_cases ht : turn = tn
    · by_cases hx : xid = xn
      · subst ht; subst hx
        conv => lhs; whnf
        repeat (first | refine go_rd htop ?_ | refine go_in i0 ?_ | refine go_rd rK ?_ | refine go_rd rT ?_ | refine go_rd rX ?_ | refine go_dec i1 ?_ | refine go_dec rfl ?_ | refine go_D hD rfl ?_
                conv => lhs; whnf)
        refine (hD _).2 ⟨((⟨_, B, O, r⟩ : RqG), true), ⟨by
          show [_, Value.bool (bif true then decide (xid = xid) else false)] = _
          rw [decide_eq_true rfl]
          rfl, hq0, hle8, fun _ h => (by cases h)⟩, fun v A2 hq => ?_⟩
        have hq : (true = false ∧ v = .tuple #[askV zeroC, .bool false] ∧ A2 = A1) ∨ (true = true ∧ ∃ d ds1 cs, (AskD.mk kind xid ses turn path data flags ver watch sort last tmo frm mem parts) :: ds' = d :: ds1 ∧ v = .tuple #[askV cs, .bool true] ∧ AskR B d cs ∧ ∃ O', RqAt A2 B O' r ds1 ∧ Step A1 B O A2 B O') := hq
        obtain ⟨h9, _⟩ | ⟨_, d2, ds2, cs2, hdd, hv, hR2, O', hat, hst⟩ := hq
        · cases h9
        injection hdd with e1 e2
        subst e1; subst e2
        subst hv
        have hend : rqSettleS.post (⟨(AskD.mk kind xid ses turn path data flags ver watch sort last tmo frm mem parts) :: ds', B, O, r⟩, turn, xid) [] A1 (.tuple #[askV cs2, .bool true]) A2 := .inr ⟨_, _, _, rfl, by show (!readsD kind && decide (turn = turn) && decide (xid = xid)) = true; rw [hk, decide_eq_true rfl, decide_eq_true rfl]; rfl, rfl, hR2, O', hat, hst⟩
        obtain ⟨p0, p1, p2, p3, p4, q5, u5, n5, p6, p7, p8, p9, p10, p11, p12, q13, u13, n13, q14, u14, n14, hcs2⟩ := hR2.form
        subst hcs2
        conv => lhs; whnf
        exact (hD _).2 hend
      · subst ht
        conv => lhs; whnf
        repeat (first | refine go_rd htop ?_ | refine go_in i0 ?_ | refine go_rd rK ?_ | refine go_rd rT ?_ | refine go_rd rX ?_ | refine go_dec i1 ?_ | refine go_dec rfl ?_ | refine no_dec hx ?_ | refine go_D hD rfl ?_
                conv => lhs; whnf)
        refine (hD _).2 ⟨((⟨_, B, O, r⟩ : RqG), false), ⟨by
          show [_, Value.bool (bif true then decide (xid = xn) else false)] = _
          rw [decide_eq_false hx]
          rfl, hq0, hle8, fun _ h => (by cases h)⟩, fun v A2 hq => ?_⟩
        have hq : (false = false ∧ v = .tuple #[askV zeroC, .bool false] ∧ A2 = A1) ∨ (false = true ∧ ∃ d ds1 cs, (AskD.mk kind xid ses turn path data flags ver watch sort last tmo frm mem parts) :: ds' = d :: ds1 ∧ v = .tuple #[askV cs, .bool true] ∧ AskR B d cs ∧ ∃ O', RqAt A2 B O' r ds1 ∧ Step A1 B O A2 B O') := hq
        obtain ⟨_, hv, h9⟩ | ⟨h9, _⟩ := hq
        · subst hv; subst h9
          have hend := hend0 (by rw [hk, decide_eq_false hx, Bool.and_false])
          conv => lhs; whnf
          exact (hD _).2 hend
        · cases h9
    · conv => lhs; whnf
      repeat (first | refine go_rd htop ?_ | refine go_in i0 ?_ | refine go_rd rK ?_ | refine go_rd rT ?_ | refine go_rd rX ?_ | refine go_dec i1 ?_ | refine no_dec ht ?_ | refine go_D hD rfl ?_
              conv => lhs; whnf)
      refine (hD _).2 ⟨((⟨_, B, O, r⟩ : RqG), false), ⟨rfl, hq0, hle8, fun _ h => (by cases h)⟩, fun v A2 hq => ?_⟩
      have hq : (false = false ∧ v = .tuple #[askV zeroC, .bool false] ∧ A2 = A1) ∨ (false = true ∧ ∃ d ds1 cs, (AskD.mk kind xid ses turn path data flags ver watch sort last tmo frm mem parts) :: ds' = d :: ds1 ∧ v = .tuple #[askV cs, .bool true] ∧ AskR B d cs ∧ ∃ O', RqAt A2 B O' r ds1 ∧ Step A1 B O A2 B O') := hq
      obtain ⟨_, hv, h9⟩ | ⟨h9, _⟩ := hq
      · subst hv; subst h9
        have hend := hend0 (by rw [hk, decide_eq_false ht]; rfl)
        conv => lhs; whnf
        exact (hD _).2 hend
      · cases h9

end
end Go.Proofs.Ytpingnkjenicaaa

namespace Go.Proofs.Ytpingnkjenicaaa
open Go.Sx Go.RowKit
noncomputable section
open Classical

def markByteS : FSpec := ⟨Int × Int, fun g vs _ => vs = [.int .i64 g.1, .int .i64 g.2], fun g _ A v A' => A' = A ∧ v = .int .u8 (mkB g.1 g.2)⟩

set_option maxRecDepth 100000 in
set_option maxHeartbeats 0 in
theorem markByte_ok : FOk Try.prog 55 markByteS := by
  refine fok_v mixed fun ⟨k, i⟩ vs A hp => ?_
  obtain rfl : vs = [.int .i64 k, .int .i64 i] := hp
  refine ⟨noC, noL, 60, noC_sound _, noL_sound _, fun blk os out tape D hD => ?_⟩
  conv => lhs; whnf
  exact (hD _).2 ⟨rfl, rfl⟩

theorem wrap12 {n : Nat} (h : n ≤ 9000000000000000000) : (IntKind.i64.wrap ((n : Int) + 12)).toNat = n + 12 := by
  rw [Sx.wrap_i64 (by omega) (by omega)]; omega

theorem marksB_succ (k : Nat) : marksB (k + 1) = marksB k ++ [markB 1 k] := by
  unfold marksB
  rw [List.range_succ, List.map_append, List.map_singleton]

theorem marksB_len (k : Nat) : (marksB k).length = k := by unfold marksB; rw [List.length_map, List.length_range]

theorem off0 (c es : Nat) : 0 + (bif c.beq (Int.toNat 0) then 0 else Int.toNat 0 * es) = 0 := by
  cases c.beq (Int.toNat 0)
  · show 0 + 0 * es = 0
    omega
  · rfl

theorem lbnd_to {x : Int} {c k : Nat} (hx : x = k) (hk : k ≤ c) : ((decide ((0 : Int) ≤ 0) && decide ((0 : Int) ≤ x)) && (false || decide (x ≤ (c : Int)))) = true := by
  subst hx
  exact Bool.and_eq_true_iff.2 ⟨Bool.and_eq_true_iff.2 ⟨decide_eq_true (by omega), decide_eq_true (by omega)⟩, Bool.or_eq_true_iff.2 (.inr (decide_eq_true (by omega)))⟩

theorem win0 (g n c es : Nat) : Value.slice (some ⟨g, 0 + (bif c.beq (Int.toNat 0) then 0 else Int.toNat 0 * es), none⟩) (Int.toNat (n : Int) - Int.toNat 0) (c - Int.toNat 0) = .slice (some ⟨g, 0, none⟩) n c := by
  rw [off0]
  rfl

/-- A young row that is lent grows by one. -/
theorem lent_step {A0 As A3 A4 : Arena} {g es : Nat} {e : TypeId} {n c gb : Nat} {cs ys : List Value} {cc : Array Value} {v : Value} (hs : A0.Sub As) (hn : A0.blk g = none) (hL : LRow As g es e n c cs) (hN : As.New A3 gb cc e) (hc : n + 1 ≤ c) (hy : ys.length = 1 * es) (ha : Appended A3 (some (g, 0)) n c es e cs ys 1 v A4) :
    v = .slice (some ⟨g, 0, none⟩) (n + 1) c ∧ LRow A4 g es e (n + 1) c (cs ++ ys) ∧ A0.Sub A4 ∧ ∀ k o, k ≠ g → As.blk k = some o → A4.blk k = some o := by
  obtain ⟨h1, h2, h3⟩ := (hL.sub hN.sub).add hc hy ha
  refine ⟨h1, h2, fun k o hk => ?_, fun k o hg hk => ?_⟩
  · rw [h3 k fun e => (by subst e; rw [hn] at hk; cases hk)]
    exact hN.sub _ _ (hs _ _ hk)
  · rw [h3 k hg]
    exact hN.sub _ _ hk

structure LbG where
  k : Nat
  A : Arena

def lentBytesInv (A0 : Arena) (g c : Nat) (l : List UInt8) : LInv :=
  { γ := LbG, G := fun s => s.k ≤ 12 ∧ A0.Sub s.A ∧ LRow s.A g 1 5 (l.length + s.k) c (l.map bv ++ marksB s.k),
    keepS := [0], keepB := [], sl := fun s => [(4, .v (.int .i64 s.k)), (3, .v (.slice (some ⟨g, 0, none⟩) (l.length + s.k) c))], bl := fun _ => [], ar := fun s => s.A, mu := fun s => 12 - s.k }

def lentBytesS : FSpec := ⟨List UInt8, fun l vs A => ∃ x, vs = [x] ∧ SlB A x l,
  fun l _ A v A' => A.Sub A' ∧ ∃ g c, v = .slice (some ⟨g, 0, none⟩) l.length c ∧ A.blk g = none ∧ LRow A' g 1 5 (l.length + 12) c (l.map bv ++ marksB 12)⟩

set_option maxRecDepth 100000 in
set_option maxHeartbeats 0 in
theorem lentBytes_ok : FOk Try.prog 27 lentBytesS := by
  refine fok_v mixed fun (l : List UInt8) vs A hp => ?_
  obtain ⟨x, rfl, ⟨⟨a7, k7, rfl, hd7, hdl, hz1, hz2, hz3⟩, hdn⟩⟩ : ∃ x, vs = [x] ∧ SlB A x l := hp
  have hC : CTSound Try.prog (lookC [specE 55 markByteS] noC) := lookC_sound (noC_sound _) (fun x hx => by
    simp only [List.mem_singleton] at hx
    subst hx; exact specE_ok markByte_ok)
  refine ⟨_, tabO Try.prog _ noL 60 [(27, 0)], 60, hC, tabO_sound mixed hC (noL_sound _) _ _, fun blk os out tape D hD => ?_⟩
  have hw : IntKind.i64.wrap ((l.length : Int) + 12) = (l.length : Int) + 12 := Sx.wrap_i64 (by omega) (by omega)
  obtain ⟨c0, hc0⟩ : ∃ c0 : Nat, c0 = (IntKind.i64.wrap ((l.length : Int) + 12)).toNat := ⟨_, rfl⟩
  have hc0e : c0 = l.length + 12 := by rw [hc0]; exact wrap12 (by omega)
  have hcs : (a7 = none ∧ l.length = 0) ∨ (∃ g7 o7 t7, a7 = some ⟨g7, o7, some t7⟩ ∧ l.length = 0) ∨ ∃ g7 o7, a7 = some ⟨g7, o7, none⟩ := by
    cases a7 with
    | none => exact .inl ⟨rfl, by have := hz1 rfl; omega⟩
    | some a =>
      obtain ⟨g7, o7, sp⟩ := a
      cases sp with
      | none => exact .inr (.inr ⟨g7, o7, rfl⟩)
      | some t7 =>
        refine .inr (.inl ⟨g7, o7, t7, rfl, ?_⟩)
        rcases Nat.eq_zero_or_pos k7 with hh | hh
        · omega
        · have := hz2 _ rfl hh
          cases this
  refine Or.elim hcs (fun e => ?_) (fun e => Or.elim e (fun e => ?_) (fun e => ?_))
  obtain ⟨e, h0⟩ := e
  subst e
  have hsrc : ∀ A1, A.Sub A1 → (if l.length = 0 then some [] else none) = some (l.map bv) := fun A1 _ => by
    rw [if_pos h0, List.length_eq_zero_iff.1 h0]; rfl
  rotate_left
  obtain ⟨g7, o7, t7, e, h0⟩ := e
  subst e
  have hsrc : ∀ A1, A.Sub A1 → (if l.length = 0 then some [] else none) = some (l.map bv) := fun A1 _ => by
    rw [if_pos h0, List.length_eq_zero_iff.1 h0]; rfl
  rotate_left
  obtain ⟨g7, o7, e⟩ := e
  subst e
  have hsrc : ∀ A1, A.Sub A1 → (if l.length = 0 then some [] else A1.rd g7 o7 (l.length * 1)) = some (l.map bv) := fun A1 hs => by
    by_cases h0 : l.length = 0
    · rw [if_pos h0, List.length_eq_zero_iff.1 h0]; rfl
    · rw [if_neg h0]; exact rd_sub hs (hz3 (by omega) _ rfl)
  rotate_left
  all_goals
    conv => lhs; whnf
    refine (hD _).2 ⟨by omega, by rw [hw]; omega, by rw [hw]; omega, by
      rw [← hc0, hc0e]
      show 1 * (l.length + 12) ≤ _
      omega, rfl, fun g A1 cc hcl hNw => ?_⟩
    have hNw : A.New A1 g cc 5 := hNw
    have hL0 : LRow A1 g 1 5 0 c0 [] := by
      refine ⟨⟨cc, hNw.at_, ?_, by simp⟩, Nat.zero_le _, rfl⟩
      rw [← Array.length_toList, hcl, ← hc0]
      simp [List.length_flatten]
      show c0 * 1 = c0
      omega
    conv => lhs; whnf
    refine (hD _).2 ⟨[], l.map bv, hL0.base, hsrc A1 hNw.sub, hdl, fun v hv => (by
      obtain ⟨b, _, rfl⟩ := List.mem_map.1 hv
      rfl), by show 0 + l.length ≤ _; omega, fun h9 => (by
      have h9 : (IntKind.i64.wrap ((l.length : Int) + 12)).toNat < 0 + l.length := h9
      omega), rfl, fun h => (by cases h), fun g' o' hb _ _ => (by
      injection hb with hb
      injection hb with e1 e2
      subst e1; subst e2
      refine hL0.room ?_
      show 0 + 0 * 1 + _ ≤ _
      rw [List.length_map]
      omega), fun v A2 hA => ?_⟩
    obtain ⟨hv, hL1, ho1⟩ := hL0.add (m := l.length) (v := v) (A2 := A2) (by omega) hdl (by rw [hc0]; exact hA)
    rw [Nat.zero_add] at hv
    subst hv
    rw [Nat.zero_add, List.nil_append] at hL1
    have hs2 : A.Sub A2 := fun k o hk => by
      rw [ho1 k fun e => (by subst e; rw [hNw.none_] at hk; cases hk)]
      exact hNw.sub _ _ hk
    conv => lhs; whnf
    refine (hD _).2 ⟨lentBytesInv A g c0 l, ⟨(⟨0, A2⟩ : LbG), ⟨Nat.zero_le _, hs2, by
      show LRow A2 g 1 5 (l.length + 0) c0 (l.map bv ++ [])
      rw [Nat.add_zero, List.append_nil]
      exact hL1⟩, ⟨rfl, rfl, trivial⟩, trivial, rfl⟩, fun (s : LbG) hG => ⟨⟨trivial, trivial, trivial⟩, trivial, ?_⟩⟩
    obtain ⟨k, As⟩ := s
    obtain ⟨hk, hsA, hLs⟩ : k ≤ 12 ∧ A.Sub As ∧ LRow As g 1 5 (l.length + k) c0 (l.map bv ++ marksB k) := hG
    conv => lhs; whnf
    refine split_dec (fun hlt => ?_) (fun hlt => ?_)
    rotate_left
    · have hlt : ¬ (k : Int) < 12 := hlt
      have h12 : k = 12 := by omega
      subst h12
      have hle1 : (l.length : Int) ≤ (c0 : Int) := by omega
      have hend : lentBytesS.post l [] A (.slice (some ⟨g, 0, none⟩) l.length c0) As := ⟨hsA, g, c0, rfl, hNw.none_, hLs⟩
      conv => lhs; whnf
      refine go_dec hle1 ?_
      conv => lhs; whnf
      refine (hD _).2 ?_
      show lentBytesS.post l [] A (.slice (some ⟨g, 0 + (bif c0.beq (Int.toNat 0) then 0 else Int.toNat 0 * 1), none⟩) (Int.toNat (l.length : Int) - Int.toNat 0) (c0 - Int.toNat 0)) As
      rw [win0]
      exact hend
    have hlt : (k : Int) < 12 := hlt
    conv => lhs; whnf
    refine (hD _).2 ⟨((1 : Int), (k : Int)), rfl, fun v A9 hq => ?_⟩
    obtain ⟨h9, hv⟩ : A9 = As ∧ v = .int .u8 (mkB 1 k) := hq
    subst h9; subst hv
    conv => lhs; whnf
    refine (hD _).2 fun gb A5 hN5 => ?_
    have hN5 : A9.New A5 gb #[markB 1 k] 5 := hN5
    have hrow5 : A5.rd gb 0 (1 * 1) = some [markB 1 k] := hN5.rd (o := 0) (n := 1 * 1) (by show 0 + 1 * 1 ≤ 1; omega)
    have hL5 := hLs.sub hN5.sub
    conv => lhs; whnf
    refine (hD _).2 ⟨l.map bv ++ marksB k, [markB 1 k], hL5.base, by
      show (if 1 * 1 = 0 then some [] else A5.rd gb 0 (1 * 1)) = _
      rw [if_neg (by omega)]; exact hrow5, rfl, fun v hv => (by
      rw [List.mem_singleton] at hv
      subst hv; rfl), by
      show l.length + k + 1 ≤ _
      omega, fun h9 => (by
      have h9 : c0 < l.length + k + 1 := h9
      omega), rfl, fun h => (by cases h), fun g' o' hb _ _ => (by
      injection hb with hb
      injection hb with e1 e2
      subst e1; subst e2
      refine hL5.room ?_
      show 0 + (l.length + k) * 1 + 1 ≤ _
      omega), fun v A6 hA6 => ?_⟩
    obtain ⟨hv, hL6, hs6, -⟩ := lent_step hsA hNw.none_ hLs hN5 (by omega) rfl hA6
    subst hv
    rw [List.append_assoc, ← marksB_succ] at hL6
    conv => lhs; whnf
    exact (hD _).2 ⟨(⟨k + 1, A6⟩ : LbG), ⟨⟨by show k + 1 ≤ 12; omega, hs6, hL6⟩, ⟨inc_slot (by omega), rfl, trivial⟩, trivial, rfl⟩, by show 12 - (k + 1) < 12 - k; omega, ⟨same1 rfl rfl, trivial⟩, trivial⟩

/-! ### Kept -/

def keptBytesS : FSpec := ⟨List UInt8 × Nat × Nat, fun g vs A => ∃ x, vs = [.slice (some ⟨g.2.1, 0, none⟩) g.1.length g.2.2, x] ∧ SlB A x g.1 ∧ LRow A g.2.1 1 5 (g.1.length + 12) g.2.2 (g.1.map bv ++ marksB 12),
  fun _ _ A v A' => A' = A ∧ v = .bool true⟩

set_option maxRecDepth 100000 in
set_option maxHeartbeats 0 in
theorem keptBytes_ok : FOk Try.prog 32 keptBytesS := by
  refine fok_v mixed fun ⟨l, g, c⟩ vs A hp => ?_
  obtain ⟨x, rfl, ⟨⟨ao, k7, rfl, hd7, hdl, hz1, hz2, hz3⟩, hdn⟩, hL⟩ : ∃ x, vs = [.slice (some ⟨g, 0, none⟩) l.length c, x] ∧ SlB A x l ∧ LRow A g 1 5 (l.length + 12) c (l.map bv ++ marksB 12) := hp
  have hC : CTSound Try.prog (lookC [specE 55 markByteS] noC) := lookC_sound (noC_sound _) (fun x hx => by
    simp only [List.mem_singleton] at hx
    subst hx; exact specE_ok markByte_ok)
  refine ⟨_, tabO Try.prog _ noL 60 [(32, 0)], 60, hC, tabO_sound mixed hC (noL_sound _) _ _, fun blk os out tape D hD => ?_⟩
  have hw : IntKind.i64.wrap ((l.length : Int) + 12) = ((l.length + 12 : Nat) : Int) := by
    rw [Sx.wrap_i64 (by omega) (by omega)]; omega
  have hwn : (IntKind.i64.wrap ((l.length : Int) + 12)).toNat = l.length + 12 := by rw [hw, Int.toNat_natCast]
  have hrow := hL.rd
  have hend : keptBytesS.post (l, g, c) [] A (.bool true) A := ⟨rfl, rfl⟩
  conv => lhs; whnf
  refine split_nd (fun _ => ?_) (fun h => absurd rfl h)
  conv => lhs; whnf
  refine go_b (lbnd_to (k := l.length + 12) hw hL.le) ?_
  conv => lhs; whnf
  refine (hD _).2 ⟨cnt A 6 [0, 1, 5] [] (l.length + 12) fun _ => True, ⟨(0 : Nat), ⟨Nat.zero_le _, trivial⟩, ⟨rfl, trivial⟩, trivial, rfl⟩, fun (k : Nat) hk => ⟨⟨trivial, trivial⟩, trivial, ?_⟩⟩
  simp only [cnt] at hk
  conv => lhs; whnf
  refine split_dec (fun hlt => ?_) (fun hlt => ?_)
  rotate_left
  · conv => lhs; whnf
    exact (hD _).2 hend
  have hlt : (k : Int) < (((IntKind.i64.wrap ((l.length : Int) + 12)).toNat : Nat) : Int) := hlt
  have hk2 : k < l.length + 12 := by
    have h9 := hlt
    rw [hwn] at h9
    omega
  have i0 : (0 : Int) ≤ (k : Int) ∧ (k : Int) < (((IntKind.i64.wrap ((l.length : Int) + 12)).toNat : Nat) : Int) := ⟨by omega, hlt⟩
  have hmu : (l.length + 12) - (k + 1) < (l.length + 12) - k := by omega
  by_cases h1 : k < l.length
  · obtain ⟨g', o', e, hrb⟩ := Sl.at_ hd7 hz1 hz2 hz3 (by omega)
    subst e
    have h1i : (k : Int) < (l.length : Int) := by omega
    have h1n : ¬ (l.length : Int) ≤ (k : Int) := by omega
    have i1 : (0 : Int) ≤ (k : Int) ∧ (k : Int) < (l.length : Int) := by omega
    have r1 : A.rd g ((0 + bif c.beq (Int.toNat 0) then 0 else Int.toNat 0 * 1) + k * 1) 1 = some [bv l[k]] := by
      rw [off0]
      have h9 := rd_at hrow (i := k) (m := 1) (by omega)
      rw [Nat.mul_one, h9]
      congr 1
      rw [List.drop_append_of_le_length (by rw [List.length_map]; omega), List.drop_eq_getElem_cons (by rw [List.length_map]; exact h1), List.getElem_map]
      rfl
    have r2 := byte_at hrb k h1 rfl
    conv => lhs; whnf
    repeat (first | refine go_dec h1i ?_ | refine go_in i0 ?_ | refine go_in i1 ?_ | refine go_rd r1 ?_ | refine go_rd r2 ?_
            conv => lhs; whnf)
    refine split_nd (fun _ => ?_) (fun h => absurd rfl h)
    conv => lhs; whnf
    repeat (first | refine no_dec h1n ?_ | refine go_dec h1n ?_
            conv => lhs; whnf)
    exact (hD _).2 ⟨(k + 1 : Nat), ⟨⟨hk2, trivial⟩, ⟨inc_slot (by omega), trivial⟩, trivial, rfl⟩, hmu, ⟨same1 rfl rfl, same1 rfl rfl, same1 rfl rfl, trivial⟩, trivial⟩
  · have h1i : ¬ (k : Int) < (l.length : Int) := by omega
    have h1n : (l.length : Int) ≤ (k : Int) := by omega
    have hwk : IntKind.i64.wrap ((k : Int) - (l.length : Int)) = ((k - l.length : Nat) : Int) := by
      rw [Sx.wrap_i64 (by omega) (by omega)]; omega
    have r1 : A.rd g ((0 + bif c.beq (Int.toNat 0) then 0 else Int.toNat 0 * 1) + k * 1) 1 = some [.int .u8 (mkB 1 ((k - l.length : Nat) : Int))] := by
      rw [off0]
      have h9 := rd_at hrow (i := k) (m := 1) (by omega)
      rw [Nat.mul_one, h9]
      congr 1
      rw [List.drop_append, List.drop_eq_nil_of_le (by rw [List.length_map]; omega), List.nil_append, List.length_map, List.drop_eq_getElem_cons (by rw [marksB_len]; omega)]
      unfold marksB
      rw [List.getElem_map, List.getElem_range]
      rfl
    conv => lhs; whnf
    repeat (first | refine no_dec h1i ?_ | refine go_dec h1n ?_ | refine go_in i0 ?_ | refine go_rd r1 ?_
            conv => lhs; whnf)
    refine (hD _).2 ⟨((1 : Int), IntKind.i64.wrap ((k : Int) - (l.length : Int))), rfl, fun v A9 hq => ?_⟩
    obtain ⟨h9, hv⟩ : A9 = A ∧ v = .int .u8 (mkB 1 (IntKind.i64.wrap ((k : Int) - (l.length : Int)))) := hq
    subst h9
    rw [hwk] at hv
    subst hv
    conv => lhs; whnf
    repeat (first | refine no_dec h1i ?_ | refine go_dec h1n ?_ | refine go_in i0 ?_ | refine go_rd r1 ?_ | refine go_D hD rfl ?_ | refine split_nd (fun _ => ?_) (fun h => absurd rfl h)
            conv => lhs; whnf)
    exact (hD _).2 ⟨(k + 1 : Nat), ⟨⟨hk2, trivial⟩, ⟨inc_slot (by omega), trivial⟩, trivial, rfl⟩, hmu, ⟨same1 rfl rfl, same1 rfl rfl, same1 rfl rfl, trivial⟩, trivial⟩

/-! ### Over -/

theorem LRow.again {A : Arena} {g es : Nat} {e : TypeId} {n c : Nat} (hn : n ≤ c) (h : ∃ cc, A.blk g = some (.cells cc e (0, 0)) ∧ cc.size = c * es) : ∃ cs, LRow A g es e n c cs := by
  obtain ⟨cc, h1, h2⟩ := h
  have := Nat.mul_le_mul_right es hn
  exact ⟨_, ⟨cc, h1, h2, rfl⟩, hn, by rw [List.length_take, Array.length_toList]; omega⟩

def overBytesS : FSpec := ⟨Nat × Nat × Nat, fun g vs A => vs = [.slice (some ⟨g.1, 0, none⟩) g.2.1 g.2.2] ∧ g.2.1 ≤ 140737488351232 ∧ ∃ cs, LRow A g.1 1 5 (g.2.1 + 12) g.2.2 cs,
  fun g _ A _ A' => (∀ k, k ≠ g.1 → A'.blk k = A.blk k) ∧ ∃ o, A'.blk g.1 = some o⟩

structure ObG where
  k : Nat
  A : Arena

def overBytesInv (A0 : Arena) (g n c : Nat) : LInv :=
  { γ := ObG, G := fun s => s.k ≤ n + 12 ∧ (∀ k, k ≠ g → s.A.blk k = A0.blk k) ∧ ∃ cs, LRow s.A g 1 5 (n + 12) c cs,
    keepS := [2], keepB := [], sl := fun s => [(3, .v (.int .i64 s.k))], bl := fun _ => [], ar := fun s => s.A, mu := fun s => n + 12 - s.k }

set_option maxRecDepth 100000 in
set_option maxHeartbeats 0 in
theorem overBytes_ok : FOk Try.prog 35 overBytesS := by
  refine fok_v mixed fun ⟨g, n, c⟩ vs A hp => ?_
  obtain ⟨rfl, hn, cs, hL⟩ : vs = [.slice (some ⟨g, 0, none⟩) n c] ∧ n ≤ 140737488351232 ∧ ∃ cs, LRow A g 1 5 (n + 12) c cs := hp
  have hC : CTSound Try.prog (lookC [specE 55 markByteS] noC) := lookC_sound (noC_sound _) (fun x hx => by
    simp only [List.mem_singleton] at hx
    subst hx; exact specE_ok markByte_ok)
  refine ⟨_, tabO Try.prog _ noL 60 [(35, 0)], 60, hC, tabO_sound mixed hC (noL_sound _) _ _, fun blk os out tape D hD => ?_⟩
  have hw : IntKind.i64.wrap ((n : Int) + 12) = ((n + 12 : Nat) : Int) := by
    rw [Sx.wrap_i64 (by omega) (by omega)]; omega
  have hwn : (IntKind.i64.wrap ((n : Int) + 12)).toNat = n + 12 := by rw [hw, Int.toNat_natCast]
  conv => lhs; whnf
  refine go_b (lbnd_to (k := n + 12) hw hL.le) ?_
  conv => lhs; whnf
  refine (hD _).2 ⟨overBytesInv A g n c, ⟨(⟨0, A⟩ : ObG), ⟨Nat.zero_le _, fun _ _ => rfl, cs, hL⟩, ⟨rfl, trivial⟩, trivial, rfl⟩, fun (s : ObG) hG => ⟨⟨trivial, trivial⟩, trivial, ?_⟩⟩
  obtain ⟨k, As⟩ := s
  obtain ⟨hk, hoth, cs1, hLs⟩ : k ≤ n + 12 ∧ (∀ k, k ≠ g → As.blk k = A.blk k) ∧ ∃ cs, LRow As g 1 5 (n + 12) c cs := hG
  conv => lhs; whnf
  refine split_dec (fun hlt => ?_) (fun hlt => ?_)
  rotate_left
  · have hend : overBytesS.post (g, n, c) [] A (.tuple #[]) As := by
      obtain ⟨⟨cc, h1, _⟩, _⟩ := hLs
      exact ⟨hoth, _, h1⟩
    conv => lhs; whnf
    exact (hD _).2 hend
  have hlt : (k : Int) < (((IntKind.i64.wrap ((n : Int) + 12)).toNat : Nat) : Int) := hlt
  have hk2 : k < n + 12 := by
    have h9 := hlt
    rw [hwn] at h9
    omega
  have i0 : (0 : Int) ≤ (k : Int) ∧ (k : Int) < (((IntKind.i64.wrap ((n : Int) + 12)).toNat : Nat) : Int) := ⟨by omega, hlt⟩
  have hle := hLs.le
  conv => lhs; whnf
  refine (hD _).2 ⟨((2 : Int), (k : Int)), rfl, fun v A9 hq => ?_⟩
  obtain ⟨h9, hv⟩ : A9 = As ∧ v = .int .u8 (mkB 2 k) := hq
  subst h9; subst hv
  have hk9 : k < 9223372036854775807 := by omega
  have hroom : A9.Room g ((0 + bif c.beq (Int.toNat 0) then 0 else Int.toNat 0 * 1) + k * 1) 1 := by
    rw [off0]
    refine hLs.room ?_
    omega
  conv => lhs; whnf
  repeat (first | refine go_in i0 ?_ | refine go_D hD rfl ?_
          conv => lhs; whnf)
  refine (hD _).2 ⟨hroom, fun A6 hPut => ?_⟩
  have hPut : A9.Put A6 g ((0 + bif c.beq (Int.toNat 0) then 0 else Int.toNat 0 * 1) + k * 1) [.int .u8 (mkB 2 k)] := hPut
  rw [off0] at hPut
  obtain ⟨h6, ho6⟩ := hLs.over hPut (by show 0 + k * 1 + 1 ≤ c * 1; omega)
  obtain ⟨cs6, hL6⟩ := LRow.again hle h6
  conv => lhs; whnf
  exact (hD _).2 ⟨(⟨k + 1, A6⟩ : ObG), ⟨⟨hk2, fun j hj => (by rw [ho6 j hj]; exact hoth j hj), cs6, hL6⟩, ⟨inc_slot (k := k) hk9, trivial⟩, trivial, rfl⟩, by show (n + 12) - (k + 1) < (n + 12) - k; omega, ⟨same1 rfl rfl, trivial⟩, trivial⟩

end
end Go.Proofs.Ytpingnkjenicaaa

namespace Go.Proofs.Ytpingnkjenicaaa
open Go.Sx Go.RowKit
noncomputable section
open Classical

def markMemberS : FSpec := ⟨Int × Int, fun g vs _ => vs = [.int .i64 g.1, .int .i64 g.2], fun g _ A v A' => A' = A ∧ v = askV [.int .i64 (mkI g.1 g.2), .int .u8 0, .int .i64 0, .int .i64 0]⟩

set_option maxRecDepth 100000 in
set_option maxHeartbeats 0 in
theorem markMember_ok : FOk Try.prog 56 markMemberS := by
  refine fok_v mixed fun ⟨k, i⟩ vs A hp => ?_
  obtain rfl : vs = [.int .i64 k, .int .i64 i] := hp
  refine ⟨noC, noL, 60, noC_sound _, noL_sound _, fun blk os out tape D hD => ?_⟩
  conv => lhs; whnf
  exact (hD _).2 ⟨rfl, rfl⟩

theorem marksM_succ (k : Nat) : marksM (k + 1) = marksM k ++ markM 1 k := by
  unfold marksM
  rw [List.range_succ, List.flatMap_append, List.flatMap_singleton]

theorem marksM_len (k : Nat) : (marksM k).length = k * 4 := by
  induction k with
  | zero => rfl
  | succ k ih =>
    rw [marksM_succ, List.length_append, ih]
    show k * 4 + 4 = _
    omega

theorem memL_one (l : List MemD) : ∀ v ∈ memCells l, v.oneCell' = true := fun v hv => by
  unfold memCells at hv
  obtain ⟨r, hr, hv⟩ := List.mem_flatten.1 hv
  obtain ⟨y, _, rfl⟩ := List.mem_map.1 hr
  simp only [MemD.cells, List.mem_cons, List.not_mem_nil, or_false] at hv
  rcases hv with rfl | rfl | rfl | rfl <;> rfl

/-- The marks behind the end, one by one. -/
theorem markM_at {xs : List Value} {n : Nat} (hx : xs.length = n * 4) (k : Nat) (hk : k < 12) : ((xs ++ marksM 12).drop ((n + k) * 4)).take 4 = markM 1 k := by
  rw [List.drop_append, List.drop_eq_nil_of_le (by rw [hx]; omega), List.nil_append, hx]
  have e : (n + k) * 4 - n * 4 = k * 4 := by omega
  rw [e]
  have h12 : k = 0 ∨ k = 1 ∨ k = 2 ∨ k = 3 ∨ k = 4 ∨ k = 5 ∨ k = 6 ∨ k = 7 ∨ k = 8 ∨ k = 9 ∨ k = 10 ∨ k = 11 := by omega
  rcases h12 with rfl | rfl | rfl | rfl | rfl | rfl | rfl | rfl | rfl | rfl | rfl | rfl <;> rfl

def lentMembersInv (A0 : Arena) (g c : Nat) (l : List MemD) : LInv :=
  { γ := LbG, G := fun s => s.k ≤ 12 ∧ A0.Sub s.A ∧ LRow s.A g 4 102 (l.length + s.k) c (memCells l ++ marksM s.k),
    keepS := [0], keepB := [], sl := fun s => [(4, .v (.int .i64 s.k)), (3, .v (.slice (some ⟨g, 0, none⟩) (l.length + s.k) c))], bl := fun _ => [], ar := fun s => s.A, mu := fun s => 12 - s.k }

def lentMembersS : FSpec := ⟨List MemD, fun l vs A => ∃ x, vs = [x] ∧ MemR A x l,
  fun l _ A v A' => A.Sub A' ∧ ∃ g c, v = .slice (some ⟨g, 0, none⟩) l.length c ∧ A.blk g = none ∧ LRow A' g 4 102 (l.length + 12) c (memCells l ++ marksM 12)⟩

set_option maxRecDepth 100000 in
set_option maxHeartbeats 0 in
theorem lentMembers_ok : FOk Try.prog 28 lentMembersS := by
  refine fok_v mixed fun (l : List MemD) vs A hp => ?_
  obtain ⟨x, rfl, ⟨⟨a7, k7, rfl, hd7, hdl, hz1, hz2, hz3⟩, hdn⟩⟩ : ∃ x, vs = [x] ∧ MemR A x l := hp
  have hC : CTSound Try.prog (lookC [specE 56 markMemberS] noC) := lookC_sound (noC_sound _) (fun x hx => by
    simp only [List.mem_singleton] at hx
    subst hx; exact specE_ok markMember_ok)
  refine ⟨_, tabO Try.prog _ noL 60 [(28, 0)], 60, hC, tabO_sound mixed hC (noL_sound _) _ _, fun blk os out tape D hD => ?_⟩
  have hw : IntKind.i64.wrap ((l.length : Int) + 12) = (l.length : Int) + 12 := Sx.wrap_i64 (by omega) (by omega)
  obtain ⟨c0, hc0⟩ : ∃ c0 : Nat, c0 = (IntKind.i64.wrap ((l.length : Int) + 12)).toNat := ⟨_, rfl⟩
  have hc0e : c0 = l.length + 12 := by rw [hc0]; exact wrap12 (by omega)
  have hcs : (a7 = none ∧ l.length = 0) ∨ (∃ g7 o7 t7, a7 = some ⟨g7, o7, some t7⟩ ∧ l.length = 0) ∨ ∃ g7 o7, a7 = some ⟨g7, o7, none⟩ := by
    cases a7 with
    | none => exact .inl ⟨rfl, by have := hz1 rfl; omega⟩
    | some a =>
      obtain ⟨g7, o7, sp⟩ := a
      cases sp with
      | none => exact .inr (.inr ⟨g7, o7, rfl⟩)
      | some t7 =>
        refine .inr (.inl ⟨g7, o7, t7, rfl, ?_⟩)
        rcases Nat.eq_zero_or_pos k7 with hh | hh
        · omega
        · have := hz2 _ rfl hh
          cases this
  refine Or.elim hcs (fun e => ?_) (fun e => Or.elim e (fun e => ?_) (fun e => ?_))
  obtain ⟨e, h0⟩ := e
  subst e
  have hsrc : ∀ A1, A.Sub A1 → (if l.length = 0 then some [] else none) = some (memCells l) := fun A1 _ => by
    rw [if_pos h0, List.length_eq_zero_iff.1 h0]; rfl
  rotate_left
  obtain ⟨g7, o7, t7, e, h0⟩ := e
  subst e
  have hsrc : ∀ A1, A.Sub A1 → (if l.length = 0 then some [] else none) = some (memCells l) := fun A1 _ => by
    rw [if_pos h0, List.length_eq_zero_iff.1 h0]; rfl
  rotate_left
  obtain ⟨g7, o7, e⟩ := e
  subst e
  have hsrc : ∀ A1, A.Sub A1 → (if l.length = 0 then some [] else A1.rd g7 o7 (l.length * 4)) = some (memCells l) := fun A1 hs => by
    by_cases h0 : l.length = 0
    · rw [if_pos h0, List.length_eq_zero_iff.1 h0]; rfl
    · rw [if_neg h0]; exact rd_sub hs (hz3 (by omega) _ rfl)
  rotate_left
  all_goals
    conv => lhs; whnf
    refine (hD _).2 ⟨by omega, by rw [hw]; omega, by rw [hw]; omega, by
      rw [← hc0, hc0e]
      show 32 * (l.length + 12) ≤ _
      omega, rfl, fun g A1 cc hcl hNw => ?_⟩
    have hNw : A.New A1 g cc 102 := hNw
    have hL0 : LRow A1 g 4 102 0 c0 [] := by
      refine ⟨⟨cc, hNw.at_, ?_, by simp⟩, Nat.zero_le _, rfl⟩
      rw [← Array.length_toList, hcl, ← hc0]
      simp [List.length_flatten]
      rfl
    conv => lhs; whnf
    refine (hD _).2 ⟨[], memCells l, hL0.base, hsrc A1 hNw.sub, hdl, memL_one l, by show 0 + l.length ≤ _; omega, fun h9 => (by
      have h9 : (IntKind.i64.wrap ((l.length : Int) + 12)).toNat < 0 + l.length := h9
      omega), rfl, fun h => (by cases h), fun g' o' hb _ _ => (by
      injection hb with hb
      injection hb with e1 e2
      subst e1; subst e2
      refine hL0.room ?_
      show 0 + 0 * 4 + _ ≤ _
      rw [memCells_len]
      omega), fun v A2 hA => ?_⟩
    obtain ⟨hv, hL1, ho1⟩ := hL0.add (m := l.length) (v := v) (A2 := A2) (by omega) hdl (by rw [hc0]; exact hA)
    rw [Nat.zero_add] at hv
    subst hv
    rw [Nat.zero_add, List.nil_append] at hL1
    have hs2 : A.Sub A2 := fun k o hk => by
      rw [ho1 k fun e => (by subst e; rw [hNw.none_] at hk; cases hk)]
      exact hNw.sub _ _ hk
    conv => lhs; whnf
    refine (hD _).2 ⟨lentMembersInv A g c0 l, ⟨(⟨0, A2⟩ : LbG), ⟨Nat.zero_le _, hs2, by
      show LRow A2 g 4 102 (l.length + 0) c0 (memCells l ++ [])
      rw [Nat.add_zero, List.append_nil]
      exact hL1⟩, ⟨rfl, rfl, trivial⟩, trivial, rfl⟩, fun (s : LbG) hG => ⟨⟨trivial, trivial, trivial⟩, trivial, ?_⟩⟩
    obtain ⟨k, As⟩ := s
    obtain ⟨hk, hsA, hLs⟩ : k ≤ 12 ∧ A.Sub As ∧ LRow As g 4 102 (l.length + k) c0 (memCells l ++ marksM k) := hG
    conv => lhs; whnf
    refine split_dec (fun hlt => ?_) (fun hlt => ?_)
    rotate_left
    · have hlt : ¬ (k : Int) < 12 := hlt
      have h12 : k = 12 := by omega
      subst h12
      have hle1 : (l.length : Int) ≤ (c0 : Int) := by omega
      have hend : lentMembersS.post l [] A (.slice (some ⟨g, 0, none⟩) l.length c0) As := ⟨hsA, g, c0, rfl, hNw.none_, hLs⟩
      conv => lhs; whnf
      refine go_dec hle1 ?_
      conv => lhs; whnf
      refine (hD _).2 ?_
      show lentMembersS.post l [] A (.slice (some ⟨g, 0 + (bif c0.beq (Int.toNat 0) then 0 else Int.toNat 0 * 4), none⟩) (Int.toNat (l.length : Int) - Int.toNat 0) (c0 - Int.toNat 0)) As
      rw [win0]
      exact hend
    have hlt : (k : Int) < 12 := hlt
    conv => lhs; whnf
    refine (hD _).2 ⟨((1 : Int), (k : Int)), rfl, fun v A9 hq => ?_⟩
    obtain ⟨h9, hv⟩ : A9 = As ∧ v = askV [.int .i64 (mkI 1 k), .int .u8 0, .int .i64 0, .int .i64 0] := hq
    subst h9; subst hv
    conv => lhs; whnf
    refine (hD _).2 fun gb A5 hN5 => ?_
    have hN5 : A9.New A5 gb #[.int .i64 (mkI 1 k), .int .u8 0, .int .i64 0, .int .i64 0] 102 := hN5
    have hrow5 : A5.rd gb 0 (1 * 4) = some (markM 1 k) := hN5.rd (o := 0) (n := 1 * 4) (by show 0 + 1 * 4 ≤ 4; omega)
    have hL5 := hLs.sub hN5.sub
    conv => lhs; whnf
    refine (hD _).2 ⟨memCells l ++ marksM k, markM 1 k, hL5.base, by
      show (if 1 * 4 = 0 then some [] else A5.rd gb 0 (1 * 4)) = _
      rw [if_neg (by omega)]; exact hrow5, rfl, fun v hv => (by
      simp only [markM, List.mem_cons, List.not_mem_nil, or_false] at hv
      rcases hv with rfl | rfl | rfl | rfl <;> rfl), by
      show l.length + k + 1 ≤ _
      omega, fun h9 => (by
      have h9 : c0 < l.length + k + 1 := h9
      omega), rfl, fun h => (by cases h), fun g' o' hb _ _ => (by
      injection hb with hb
      injection hb with e1 e2
      subst e1; subst e2
      refine hL5.room ?_
      show 0 + (l.length + k) * 4 + 4 ≤ _
      omega), fun v A6 hA6 => ?_⟩
    obtain ⟨hv, hL6, hs6, -⟩ := lent_step hsA hNw.none_ hLs hN5 (by omega) rfl hA6
    subst hv
    rw [List.append_assoc, ← marksM_succ] at hL6
    conv => lhs; whnf
    exact (hD _).2 ⟨(⟨k + 1, A6⟩ : LbG), ⟨⟨by show k + 1 ≤ 12; omega, hs6, hL6⟩, ⟨inc_slot (by omega), rfl, trivial⟩, trivial, rfl⟩, by show 12 - (k + 1) < 12 - k; omega, ⟨same1 rfl rfl, trivial⟩, trivial⟩

/-! ### Kept -/

def keptMembersS : FSpec := ⟨List MemD × Nat × Nat, fun g vs A => ∃ x, vs = [.slice (some ⟨g.2.1, 0, none⟩) g.1.length g.2.2, x] ∧ MemR A x g.1 ∧ LRow A g.2.1 4 102 (g.1.length + 12) g.2.2 (memCells g.1 ++ marksM 12),
  fun _ _ A v A' => A' = A ∧ v = .bool true⟩

set_option maxRecDepth 100000 in
set_option maxHeartbeats 0 in
theorem keptMembers_ok : FOk Try.prog 33 keptMembersS := by
  refine fok_v mixed fun ⟨l, g, c⟩ vs A hp => ?_
  obtain ⟨x, rfl, ⟨⟨ao, k7, rfl, hd7, hdl, hz1, hz2, hz3⟩, hdn⟩, hL⟩ : ∃ x, vs = [.slice (some ⟨g, 0, none⟩) l.length c, x] ∧ MemR A x l ∧ LRow A g 4 102 (l.length + 12) c (memCells l ++ marksM 12) := hp
  have hC : CTSound Try.prog (lookC [specE 56 markMemberS] noC) := lookC_sound (noC_sound _) (fun x hx => by
    simp only [List.mem_singleton] at hx
    subst hx; exact specE_ok markMember_ok)
  refine ⟨_, tabO Try.prog _ noL 60 [(33, 0)], 60, hC, tabO_sound mixed hC (noL_sound _) _ _, fun blk os out tape D hD => ?_⟩
  have hw : IntKind.i64.wrap ((l.length : Int) + 12) = ((l.length + 12 : Nat) : Int) := by
    rw [Sx.wrap_i64 (by omega) (by omega)]; omega
  have hwn : (IntKind.i64.wrap ((l.length : Int) + 12)).toNat = l.length + 12 := by rw [hw, Int.toNat_natCast]
  have hrow := hL.rd
  have hend : keptMembersS.post (l, g, c) [] A (.bool true) A := ⟨rfl, rfl⟩
  conv => lhs; whnf
  refine split_nd (fun _ => ?_) (fun h => absurd rfl h)
  conv => lhs; whnf
  refine go_b (lbnd_to (k := l.length + 12) hw hL.le) ?_
  conv => lhs; whnf
  refine (hD _).2 ⟨cnt A 6 [0, 1, 5] [] (l.length + 12) fun _ => True, ⟨(0 : Nat), ⟨Nat.zero_le _, trivial⟩, ⟨rfl, trivial⟩, trivial, rfl⟩, fun (k : Nat) hk => ⟨⟨trivial, trivial⟩, trivial, ?_⟩⟩
  simp only [cnt] at hk
  conv => lhs; whnf
  refine split_dec (fun hlt => ?_) (fun hlt => ?_)
  rotate_left
  · conv => lhs; whnf
    exact (hD _).2 hend
  have hlt : (k : Int) < (((IntKind.i64.wrap ((l.length : Int) + 12)).toNat : Nat) : Int) := hlt
  have hk2 : k < l.length + 12 := by
    have h9 := hlt
    rw [hwn] at h9
    omega
  have i0 : (0 : Int) ≤ (k : Int) ∧ (k : Int) < (((IntKind.i64.wrap ((l.length : Int) + 12)).toNat : Nat) : Int) := ⟨by omega, hlt⟩
  have hmu : (l.length + 12) - (k + 1) < (l.length + 12) - k := by omega
  by_cases h1 : k < l.length
  · obtain ⟨g', o', e, hrb⟩ := Sl.at_ hd7 hz1 hz2 hz3 (by omega)
    subst e
    have h1i : (k : Int) < (l.length : Int) := by omega
    have h1n : ¬ (l.length : Int) ≤ (k : Int) := by omega
    have i1 : (0 : Int) ≤ (k : Int) ∧ (k : Int) < (l.length : Int) := by omega
    have r1 : A.rd g ((0 + bif c.beq (Int.toNat 0) then 0 else Int.toNat 0 * 4) + k * 4) 4 = some [.int .i64 l[k].id, .int .u8 l[k].role, .int .i64 l[k].weight, .int .i64 l[k].group] := by
      rw [off0]
      have h9 := rd_at hrow (i := 0) (m := l.length * 4) (by omega)
      rw [List.drop_zero, List.take_left' (memCells_len l)] at h9
      exact mem_at h9 k h1 rfl
    have r2 := mem_at hrb k h1 rfl
    obtain ⟨⟨u1, u2, u3, u4⟩, hx⟩ : ∃ x, x = l[k] := ⟨_, rfl⟩
    rw [← hx] at r1 r2
    have r1 : A.rd g ((0 + bif c.beq (Int.toNat 0) then 0 else Int.toNat 0 * 4) + k * 4) 4 = some [.int .i64 u1, .int .u8 u2, .int .i64 u3, .int .i64 u4] := r1
    have r2 : A.rd g' (o' + k * 4) 4 = some [.int .i64 u1, .int .u8 u2, .int .i64 u3, .int .i64 u4] := r2
    conv => lhs; whnf
    repeat (first | refine go_dec h1i ?_ | refine go_in i0 ?_ | refine go_in i1 ?_ | refine go_rd r1 ?_ | refine go_rd r2 ?_
            conv => lhs; whnf)
    refine go_D hD (by kernel_rfl) ?_
    conv => lhs; whnf
    refine split_b (fun hb => absurd hb (by simp)) (fun _ => ?_)
    conv => lhs; whnf
    repeat (first | refine no_dec h1n ?_ | refine go_dec h1n ?_
            conv => lhs; whnf)
    exact (hD _).2 ⟨(k + 1 : Nat), ⟨⟨hk2, trivial⟩, ⟨inc_slot (by omega), trivial⟩, trivial, rfl⟩, hmu, ⟨same1 rfl rfl, same1 rfl rfl, same1 rfl rfl, trivial⟩, trivial⟩
  · have h1i : ¬ (k : Int) < (l.length : Int) := by omega
    have h1n : (l.length : Int) ≤ (k : Int) := by omega
    have hwk : IntKind.i64.wrap ((k : Int) - (l.length : Int)) = ((k - l.length : Nat) : Int) := by
      rw [Sx.wrap_i64 (by omega) (by omega)]; omega
    have r1 : A.rd g ((0 + bif c.beq (Int.toNat 0) then 0 else Int.toNat 0 * 4) + k * 4) 4 = some [.int .i64 (mkI 1 ((k - l.length : Nat) : Int)), .int .u8 0, .int .i64 0, .int .i64 0] := by
      rw [off0]
      have h9 := rd_at hrow (i := k * 4) (m := 4) (by omega)
      have h8 := markM_at (memCells_len l) (k - l.length) (by omega)
      rw [show l.length + (k - l.length) = k by omega] at h8
      rw [h8] at h9
      exact h9
    conv => lhs; whnf
    repeat (first | refine no_dec h1i ?_ | refine go_dec h1n ?_ | refine go_in i0 ?_ | refine go_rd r1 ?_
            conv => lhs; whnf)
    refine (hD _).2 ⟨((1 : Int), IntKind.i64.wrap ((k : Int) - (l.length : Int))), rfl, fun v A9 hq => ?_⟩
    obtain ⟨h9, hv⟩ : A9 = A ∧ v = askV [.int .i64 (mkI 1 (IntKind.i64.wrap ((k : Int) - (l.length : Int)))), .int .u8 0, .int .i64 0, .int .i64 0] := hq
    subst h9
    rw [hwk] at hv
    subst hv
    conv => lhs; whnf
    repeat (first | refine no_dec h1i ?_ | refine go_dec h1n ?_ | refine go_in i0 ?_ | refine go_rd r1 ?_ | refine go_D hD rfl ?_
            conv => lhs; whnf)
    refine go_D hD (by kernel_rfl) ?_
    conv => lhs; whnf
    repeat (refine go_D hD rfl ?_
            conv => lhs; whnf)
    refine split_b (fun hb => absurd hb (by simp)) (fun _ => ?_)
    conv => lhs; whnf
    exact (hD _).2 ⟨(k + 1 : Nat), ⟨⟨hk2, trivial⟩, ⟨inc_slot (by omega), trivial⟩, trivial, rfl⟩, hmu, ⟨same1 rfl rfl, same1 rfl rfl, same1 rfl rfl, trivial⟩, trivial⟩

/-! ### Over -/

def overMembersS : FSpec := ⟨Nat × Nat × Nat, fun g vs A => vs = [.slice (some ⟨g.1, 0, none⟩) g.2.1 g.2.2] ∧ g.2.1 * 32 ≤ 140737488351232 ∧ ∃ cs, LRow A g.1 4 102 (g.2.1 + 12) g.2.2 cs,
  fun g _ A _ A' => (∀ k, k ≠ g.1 → A'.blk k = A.blk k) ∧ ∃ o, A'.blk g.1 = some o⟩

def overMembersInv (A0 : Arena) (g n c : Nat) : LInv :=
  { γ := ObG, G := fun s => s.k ≤ n + 12 ∧ (∀ k, k ≠ g → s.A.blk k = A0.blk k) ∧ ∃ cs, LRow s.A g 4 102 (n + 12) c cs,
    keepS := [2], keepB := [], sl := fun s => [(3, .v (.int .i64 s.k))], bl := fun _ => [], ar := fun s => s.A, mu := fun s => n + 12 - s.k }

set_option maxRecDepth 100000 in
set_option maxHeartbeats 0 in
theorem overMembers_ok : FOk Try.prog 36 overMembersS := by
  refine fok_v mixed fun ⟨g, n, c⟩ vs A hp => ?_
  obtain ⟨rfl, hn, cs, hL⟩ : vs = [.slice (some ⟨g, 0, none⟩) n c] ∧ n * 32 ≤ 140737488351232 ∧ ∃ cs, LRow A g 4 102 (n + 12) c cs := hp
  have hC : CTSound Try.prog (lookC [specE 56 markMemberS] noC) := lookC_sound (noC_sound _) (fun x hx => by
    simp only [List.mem_singleton] at hx
    subst hx; exact specE_ok markMember_ok)
  refine ⟨_, tabO Try.prog _ noL 60 [(36, 0)], 60, hC, tabO_sound mixed hC (noL_sound _) _ _, fun blk os out tape D hD => ?_⟩
  have hw : IntKind.i64.wrap ((n : Int) + 12) = ((n + 12 : Nat) : Int) := by
    rw [Sx.wrap_i64 (by omega) (by omega)]; omega
  have hwn : (IntKind.i64.wrap ((n : Int) + 12)).toNat = n + 12 := by rw [hw, Int.toNat_natCast]
  conv => lhs; whnf
  refine go_b (lbnd_to (k := n + 12) hw hL.le) ?_
  conv => lhs; whnf
  refine (hD _).2 ⟨overMembersInv A g n c, ⟨(⟨0, A⟩ : ObG), ⟨Nat.zero_le _, fun _ _ => rfl, cs, hL⟩, ⟨rfl, trivial⟩, trivial, rfl⟩, fun (s : ObG) hG => ⟨⟨trivial, trivial⟩, trivial, ?_⟩⟩
  obtain ⟨k, As⟩ := s
  obtain ⟨hk, hoth, cs1, hLs⟩ : k ≤ n + 12 ∧ (∀ k, k ≠ g → As.blk k = A.blk k) ∧ ∃ cs, LRow As g 4 102 (n + 12) c cs := hG
  conv => lhs; whnf
  refine split_dec (fun hlt => ?_) (fun hlt => ?_)
  rotate_left
  · have hend : overMembersS.post (g, n, c) [] A (.tuple #[]) As := by
      obtain ⟨⟨cc, h1, _⟩, _⟩ := hLs
      exact ⟨hoth, _, h1⟩
    conv => lhs; whnf
    exact (hD _).2 hend
  have hlt : (k : Int) < (((IntKind.i64.wrap ((n : Int) + 12)).toNat : Nat) : Int) := hlt
  have hk2 : k < n + 12 := by
    have h9 := hlt
    rw [hwn] at h9
    omega
  have i0 : (0 : Int) ≤ (k : Int) ∧ (k : Int) < (((IntKind.i64.wrap ((n : Int) + 12)).toNat : Nat) : Int) := ⟨by omega, hlt⟩
  have hle := hLs.le
  conv => lhs; whnf
  refine (hD _).2 ⟨((2 : Int), (k : Int)), rfl, fun v A9 hq => ?_⟩
  obtain ⟨h9, hv⟩ : A9 = As ∧ v = askV [.int .i64 (mkI 2 k), .int .u8 0, .int .i64 0, .int .i64 0] := hq
  subst h9; subst hv
  have hk9 : k < 9223372036854775807 := by omega
  have hroom : A9.Room g ((0 + bif c.beq (Int.toNat 0) then 0 else Int.toNat 0 * 4) + k * 4) 4 := by
    rw [off0]
    refine hLs.room ?_
    omega
  conv => lhs; whnf
  repeat (first | refine go_in i0 ?_ | refine go_D hD rfl ?_
          conv => lhs; whnf)
  refine (hD _).2 ⟨hroom, fun A6 hPut => ?_⟩
  have hPut : A9.Put A6 g ((0 + bif c.beq (Int.toNat 0) then 0 else Int.toNat 0 * 4) + k * 4) [.int .i64 (mkI 2 k), .int .u8 0, .int .i64 0, .int .i64 0] := hPut
  rw [off0] at hPut
  obtain ⟨h6, ho6⟩ := hLs.over hPut (by show 0 + k * 4 + 4 ≤ c * 4; omega)
  obtain ⟨cs6, hL6⟩ := LRow.again hle h6
  conv => lhs; whnf
  exact (hD _).2 ⟨(⟨k + 1, A6⟩ : ObG), ⟨⟨hk2, fun j hj => (by rw [ho6 j hj]; exact hoth j hj), cs6, hL6⟩, ⟨inc_slot (k := k) hk9, trivial⟩, trivial, rfl⟩, by show (n + 12) - (k + 1) < (n + 12) - k; omega, ⟨same1 rfl rfl, trivial⟩, trivial⟩

end
end Go.Proofs.Ytpingnkjenicaaa
