/-
  Contracts: a queue that lies in one block of the arena.
-/
import Derived.Test.YtompigcfojbpkaaQaC
namespace Go.Proofs.Ytompigcfojbpkaa
open Go.Sx Go.RowKit
noncomputable section
open Classical

theorem but_of (A : Arena) (g : Nat) : (Arena.but A g).Sub A := fun k o hk => by
  have hk : (if k = g then none else A.blk k) = some o := hk
  split at hk
  · cases hk
  · exact hk

theorem but_self (A : Arena) (g : Nat) : (Arena.but A g).blk g = none := by
  show (if g = g then none else A.blk g) = none
  rw [if_pos rfl]

theorem but_mk {A : Arena} {g k : Nat} {o : Obj} (h : A.blk k = some o) (hne : k ≠ g) : (Arena.but A g).blk k = some o := by
  show (if k = g then none else A.blk k) = some o
  rw [if_neg hne]; exact h

/-- The queue's block. -/
structure QRaw (A : Arena) (g first n : Nat) (rows : List (List Value)) : Prop where
  at_ : ∃ c t fz, A.blk g = some (.cells c t fz) ∧ Fz c.size fz ∧ c.toList = rows.flatten ++ [.int .i64 first, .int .i64 n, .bool true]
  len : rows.length = 8
  lens : ∀ r ∈ rows, r.length = 15

theorem QRaw.flat {A : Arena} {g first n : Nat} {rows : List (List Value)} (h : QRaw A g first n rows) : rows.flatten.length = 120 := by
  rw [flat15 h.lens, h.len]

theorem QRaw.open_ {A : Arena} {g first n : Nat} {rows : List (List Value)} (h : QRaw A g first n rows) : ∃ c t fz, A.blk g = some (.cells c t fz) ∧ Fz c.size fz ∧ c.toList = rows.flatten ++ [.int .i64 first, .int .i64 n, .bool true] ∧ c.size = 123 := by
  obtain ⟨c, t, fz, h1, h0, h2⟩ := h.at_
  have h3 := h.flat
  refine ⟨c, t, fz, h1, h0, h2, ?_⟩
  rw [← Array.length_toList, h2, List.length_append, h3]; rfl

theorem QRaw.rd_first {A : Arena} {g first n : Nat} {rows : List (List Value)} (h : QRaw A g first n rows) : A.rd g 120 1 = some [.int .i64 first] := by
  obtain ⟨c, t, fz, h1, _, h2, h4⟩ := h.open_
  have h3 := h.flat
  rw [rd_mk h1 (by omega), h2, List.drop_append_of_le_length (by omega), List.drop_eq_nil_of_le (by omega)]; rfl

theorem QRaw.rd_n {A : Arena} {g first n : Nat} {rows : List (List Value)} (h : QRaw A g first n rows) : A.rd g 121 1 = some [.int .i64 n] := by
  obtain ⟨c, t, fz, h1, _, h2, h4⟩ := h.open_
  have h3 := h.flat
  rw [rd_mk h1 (by omega), h2, List.drop_append, List.drop_eq_nil_of_le (by omega), h3]; rfl

theorem QRaw.rd_made {A : Arena} {g first n : Nat} {rows : List (List Value)} (h : QRaw A g first n rows) : A.rd g 122 1 = some [.bool true] := by
  obtain ⟨c, t, fz, h1, _, h2, h4⟩ := h.open_
  have h3 := h.flat
  rw [rd_mk h1 (by omega), h2, List.drop_append, List.drop_eq_nil_of_le (by omega), h3]; rfl

theorem QRaw.rd_row {A : Arena} {g first n : Nat} {rows : List (List Value)} (h : QRaw A g first n rows) {i : Nat} {r : List Value} (hi : rows[i]? = some r) : A.rd g (0 + i * 15) 15 = some r := by
  obtain ⟨c, t, fz, h1, _, h2, h4⟩ := h.open_
  have h3 := h.flat
  obtain ⟨hi', rfl⟩ := List.getElem?_eq_some_iff.1 hi
  have h5 : A.rd g 0 (8 * 15) = some rows.flatten := by
    rw [rd_mk h1 (by omega), h2, List.drop_zero, List.take_append_of_le_length (by omega), List.take_of_length_le (by omega)]
  exact rows_at (o := 0) h5 h.lens i hi' h.len.symm

theorem flat_set : ∀ (rows : List (List Value)) (i : Nat) (cs : List Value), (∀ r ∈ rows, r.length = 15) → i < rows.length → (rows.set i cs).flatten = rows.flatten.take (i * 15) ++ cs ++ rows.flatten.drop (i * 15 + 15)
  | [], _, _, _, h => by simp at h
  | r :: rows, 0, cs, h, _ => by
    have := h r (by simp)
    rw [List.set_cons_zero, List.flatten_cons, List.flatten_cons, Nat.zero_mul, List.take_zero, List.nil_append, List.drop_append, List.drop_eq_nil_of_le (by omega), this]
    simp
  | r :: rows, i + 1, cs, h, hi => by
    have := h r (by simp)
    rw [List.set_cons_succ, List.flatten_cons, List.flatten_cons, flat_set rows i cs (fun r' h' => h r' (List.mem_cons_of_mem _ h')) (by simpa using hi), show (i + 1) * 15 = r.length + i * 15 by omega, Nat.add_assoc r.length, List.take_length_add_append, List.drop_length_add_append]
    simp

theorem QRaw.put_row {A A' : Arena} {g first n : Nat} {rows : List (List Value)} (h : QRaw A g first n rows) {i o : Nat} {cs : List Value} (hi : i < 8) (ho : o = i * 15) (hl : cs.length = 15) (hP : A.Put A' g o cs) : QRaw A' g first n (rows.set i cs) := by
  subst ho
  obtain ⟨c, t, fz, h1, h0, h2, h4⟩ := h.open_
  have h3 := h.flat
  obtain ⟨c0, t0, fz0, c1, e1, e2, e3⟩ := hP.at_
  rw [h1] at e1
  injection e1 with e1
  injection e1 with e1 e4 e5
  subst e1 e4 e5
  have e6 : c1.toList = (rows.set i cs).flatten ++ [.int .i64 first, .int .i64 n, .bool true] := by
    rw [e3, h2, flat_set rows i cs h.lens (by rw [h.len]; omega), hl, List.take_append_of_le_length (by omega), List.drop_append_of_le_length (by omega)]
    simp
  have hlens : ∀ r ∈ rows.set i cs, r.length = 15 := fun r hr => by
    rcases List.mem_or_eq_of_mem_set hr with hr | rfl
    · exact h.lens r hr
    · exact hl
  have hlen : (rows.set i cs).length = 8 := by rw [List.length_set, h.len]
  have hsz : c1.size = 123 := by
    rw [← Array.length_toList, e6, List.length_append, flat15 hlens, hlen]; rfl
  exact ⟨⟨c1, t, fz, e2, by rw [hsz, ← h4]; exact h0, e6⟩, hlen, hlens⟩

theorem QRaw.put_n {A A' : Arena} {g first n m : Nat} {rows : List (List Value)} (h : QRaw A g first n rows) (hP : A.Put A' g 121 [.int .i64 m]) : QRaw A' g first m rows := by
  obtain ⟨c, t, fz, h1, h0, h2, h4⟩ := h.open_
  have h3 := h.flat
  obtain ⟨c0, t0, fz0, c1, e1, e2, e3⟩ := hP.at_
  rw [h1] at e1
  injection e1 with e1
  injection e1 with e1 e4 e5
  subst e1 e4 e5
  have e6 : c1.toList = rows.flatten ++ [.int .i64 first, .int .i64 m, .bool true] := by
    rw [e3, h2, List.take_append, List.take_of_length_le (by omega), List.drop_append, List.drop_eq_nil_of_le (by simp; rw [← List.length_flatten]; omega), h3]
    simp
  have hsz : c1.size = 123 := by rw [← Array.length_toList, e6, List.length_append, h3]; rfl
  exact ⟨⟨c1, t, fz, e2, by rw [hsz, ← h4]; exact h0, e6⟩, h.len, h.lens⟩

theorem QRaw.put_first {A A' : Arena} {g first n m : Nat} {rows : List (List Value)} (h : QRaw A g first n rows) (hP : A.Put A' g 120 [.int .i64 m]) : QRaw A' g m n rows := by
  obtain ⟨c, t, fz, h1, h0, h2, h4⟩ := h.open_
  have h3 := h.flat
  obtain ⟨c0, t0, fz0, c1, e1, e2, e3⟩ := hP.at_
  rw [h1] at e1
  injection e1 with e1
  injection e1 with e1 e4 e5
  subst e1 e4 e5
  have e6 : c1.toList = rows.flatten ++ [.int .i64 m, .int .i64 n, .bool true] := by
    rw [e3, h2, List.take_append_of_le_length (by omega), List.take_of_length_le (by omega), List.drop_append, List.drop_eq_nil_of_le (by simp; rw [← List.length_flatten]; omega), h3]
    simp
  have hsz : c1.size = 123 := by rw [← Array.length_toList, e6, List.length_append, h3]; rfl
  exact ⟨⟨c1, t, fz, e2, by rw [hsz, ← h4]; exact h0, e6⟩, h.len, h.lens⟩

theorem QRaw.sub {A A' : Arena} {g first n : Nat} {rows : List (List Value)} (h : QRaw A g first n rows) (hs : A.Sub A') : QRaw A' g first n rows := by
  obtain ⟨c, t, fz, h1, h0, h2⟩ := h.at_
  exact ⟨⟨c, t, fz, hs _ _ h1, h0, h2⟩, h.len, h.lens⟩

theorem QRaw.room {A : Arena} {g first n : Nat} {rows : List (List Value)} (h : QRaw A g first n rows) {o k : Nat} (ho : o + k ≤ 123) : A.Room g o k := by
  obtain ⟨c, t, fz, h1, h0, h2, h4⟩ := h.open_
  exact ⟨c, t, fz, h1, by omega, h0⟩

structure QAt (B A : Arena) (g : Nat) (ds : List AskD) (first : Nat) (rows : List (List Value)) : Prop where
  raw : QRaw A g first ds.length rows
  sub : B.Sub A
  off : B.blk g = none
  lo : first < 8
  hi : ds.length ≤ 8
  own : ∀ j (h : j < ds.length), ∃ cs, rows[(first + j) % 8]? = some cs ∧ AskR B ds[j] cs

/-- A queue in block g of A; what its calls reach lies in B. -/
def QR (B A : Arena) (g : Nat) (ds : List AskD) : Prop := ∃ first rows, QAt B A g ds first rows

theorem QR.up {B A A' : Arena} {g : Nat} {ds : List AskD} (h : QR B A g ds) (hs : B.Sub A') (hg : ∀ o, A.blk g = some o → A'.blk g = some o) : QR B A' g ds := by
  obtain ⟨first, rows, h⟩ := h
  obtain ⟨c, t, fz, h1, h0, h2⟩ := h.raw.at_
  exact ⟨first, rows, ⟨⟨c, t, fz, hg _ h1, h0, h2⟩, h.raw.len, h.raw.lens⟩, hs, h.off, h.lo, h.hi, h.own⟩

/-- Both. -/
def Arena.join (B C : Arena) : Arena := Arena.of fun k => match B.blk k with
  | some o => some o
  | none => C.blk k

theorem join_blk (B C : Arena) (k : Nat) : (Arena.join B C).blk k = match B.blk k with
  | some o => some o
  | none => C.blk k := rfl

theorem join_l (B C : Arena) : B.Sub (Arena.join B C) := fun k o h => by rw [join_blk, h]

theorem join_r {B C : Arena} (h : ∀ k o, C.blk k = some o → B.blk k = none) : C.Sub (Arena.join B C) := fun k o hk => by rw [join_blk, h k o hk]; exact hk

theorem join_cases {B C : Arena} {k : Nat} {o : Obj} (h : (Arena.join B C).blk k = some o) : B.blk k = some o ∨ (B.blk k = none ∧ C.blk k = some o) := by
  rw [join_blk] at h
  split at h
  · left; rw [← h]; assumption
  · right; exact ⟨by assumption, h⟩

theorem but_up {A A' : Arena} (g : Nat) (h : A.Sub A') : (Arena.but A g).Sub (Arena.but A' g) := fun k o hk => by
  have hk : (if k = g then none else A.blk k) = some o := hk
  split at hk
  · cases hk
  · rename_i hne; exact but_mk (h _ _ hk) hne

theorem but_put {A A' : Arena} {g o : Nat} {vs : List Value} (h : A.Put A' g o vs) : (Arena.but A g).Sub (Arena.but A' g) := fun k ob hk => by
  have hk : (if k = g then none else A.blk k) = some ob := hk
  split at hk
  · cases hk
  · rename_i hne; exact but_mk (by rw [h.other k hne]; exact hk) hne

theorem minus_but {A A1 : Arena} {g : Nat} {o : Obj} (hg : A.blk g = some o) : (A1.minus A).Sub (Arena.but A1 g) := fun k ob hk => by
  obtain ⟨h1, h2⟩ := minus_blk hk
  exact but_mk h2 fun e => by subst e; rw [hg] at h1; cases h1

/-- A call is put. -/
theorem QAt.put {B A A1 A2 A3 : Arena} {g : Nat} {ds : List AskD} {first : Nat} {rows : List (List Value)} (h : QAt B A g ds first rows) {d : AskD} {cs : List Value} (hlt : ds.length < 8) (s1 : A.Sub A1) (hR : AskR (A1.minus A) d cs)
    {o : Nat} (ho : o = (first + ds.length) % 8 * 15) (hP : A1.Put A2 g o cs) (hN : A2.Put A3 g 121 [.int .i64 ((ds.length + 1 : Nat) : Int)]) :
    (Arena.but A g).Sub A3 ∧ ∃ B', QR B' A3 g (ds ++ [d]) ∧ B.Sub B' ∧ ∀ k o, A.blk k = some o → B.blk k = none → B'.blk k = none := by
  have hi : (first + ds.length) % 8 < 8 := Nat.mod_lt _ (by omega)
  have r1 := (h.raw.sub s1).put_row hi ho hR.len hP
  have r2 := r1.put_n hN
  obtain ⟨c, t, fz, hg, _⟩ := h.raw.at_
  have b1 : (Arena.but A g).Sub (Arena.but A3 g) := ((but_up g s1).trans (but_put hP)).trans (but_put hN)
  have b2 : (A1.minus A).Sub A3 := (((minus_but hg).trans (but_put hP)).trans (but_put hN)).trans (but_of _ _)
  have dis : ∀ k o, (A1.minus A).blk k = some o → B.blk k = none := fun k o hk => by
    cases hB : B.blk k with
    | none => rfl
    | some o' =>
      have := (minus_blk hk).1
      rw [h.sub _ _ hB] at this; cases this
  refine ⟨b1.trans (but_of _ _), Arena.join B (A1.minus A), ⟨first, rows.set ((first + ds.length) % 8) cs, by simpa using r2, fun k ob hk => ?_, ?_, h.lo, by simp; omega, fun j hj => ?_⟩, join_l _ _, fun k ob hA hB => ?_⟩
  · rcases join_cases hk with hk | ⟨_, hk⟩
    · exact b1.trans (but_of _ _) _ _ (but_mk (h.sub _ _ hk) fun e => by subst e; rw [h.off] at hk; cases hk)
    · exact b2 _ _ hk
  · rw [join_blk, h.off]; exact minus_none _ hg
  · by_cases e : j < ds.length
    · obtain ⟨cs', h1, h2⟩ := h.own j e
      refine ⟨cs', ?_, ?_⟩
      · rw [List.getElem?_set_ne (by omega)]; exact h1
      · rw [List.getElem_append_left e]; exact AskR.sub (join_l _ _) _ _ h2
    · have : j = ds.length := by simp at hj; omega
      subst this
      refine ⟨cs, ?_, ?_⟩
      · rw [List.getElem?_set_self (by rw [h.raw.len]; exact hi)]
      · rw [List.getElem_append_right (by omega)]
        simp only [Nat.sub_self, List.getElem_cons_zero]
        exact AskR.sub (join_r dis) _ _ hR
  · rw [join_blk, hB]; exact minus_none _ hA

def putS : FSpec := ⟨Nat × List AskD × AskD × Arena, fun x vs A => ∃ cs, vs = [.pointer (some ⟨x.1, 0, none⟩), askV cs] ∧ QR x.2.2.2 A x.1 x.2.1 ∧ AskR (Arena.but A x.1) x.2.2.1 cs,
  fun x _ A v A' => (Arena.but A x.1).Sub A' ∧ ((x.2.1.length = 8 ∧ v = .int .i64 360 ∧ QR x.2.2.2 A' x.1 x.2.1) ∨ (x.2.1.length < 8 ∧ v = .int .i64 0 ∧ ∃ B', QR B' A' x.1 (x.2.1 ++ [x.2.2.1]) ∧ x.2.2.2.Sub B' ∧ ∀ k o, A.blk k = some o → x.2.2.2.blk k = none → B'.blk k = none))⟩

set_option maxRecDepth 100000 in
set_option maxHeartbeats 0 in
theorem put_ok : FOk Try.prog 11 putS := by
  refine fok_v mixed fun ⟨g, ds, d, B⟩ vs A hp => ?_
  simp only [putS] at hp
  obtain ⟨cs, rfl, ⟨first, rows, hq⟩, hR⟩ := hp
  have hC : CTSound Try.prog (lookC [specE 31 copiedS'] noC) := lookC_sound (noC_sound _) (fun x hx => by
    simp only [List.mem_cons, List.not_mem_nil, or_false] at hx
    rcases hx with rfl
    exact specE_ok copied_ok)
  obtain ⟨p0, p1, p2, p3, p4, q5, u5, n5, p6, p7, p8, p9, p10, p11, p12, q13, u13, n13, q14, u14, n14, rfl⟩ := hR.form
  refine ⟨_, noL, 60, hC, noL_sound _, fun blk os out tape D hD => ?_⟩
  conv => lhs; whnf
  refine go_rd hq.raw.rd_made ?_
  conv => lhs; whnf
  refine go_rd hq.raw.rd_n ?_
  conv => lhs; whnf
  have h8 := hq.hi
  refine split_b (fun hb => ?_) (fun hb => ?_) <;> (conv => lhs; whnf)
  · have h9 : ds.length = 8 := by
      have : (ds.length : Int) = 8 := by simpa using hb
      omega
    exact (hD _).2 ⟨but_of _ _, .inl ⟨h9, rfl, first, rows, hq⟩⟩
  · have h9 : ds.length < 8 := by
      have : ¬ (ds.length : Int) = 8 := by simpa using hb
      omega
    refine go_rd hq.raw.rd_first ?_
    conv => lhs; whnf
    refine go_rd hq.raw.rd_n ?_
    conv => lhs; whnf
    refine (hD _).2 ⟨d, ⟨_, rfl, AskR.sub (but_of _ _) _ _ hR⟩, fun v A1 hq1 => ?_⟩
    obtain ⟨s1, cs', hv, hR1⟩ : A.Sub A1 ∧ ∃ cs, v = askV cs ∧ AskR (A1.minus A) d cs := hq1
    subst hv
    obtain ⟨p0', p1', p2', p3', p4', q5', u5', n5', p6', p7', p8', p9', p10', p11', p12', q13', u13', n13', q14', u14', n14', rfl⟩ := hR1.form
    conv => lhs; whnf
    repeat (first | refine go_rd (rd_sub s1 hq.raw.rd_first) ?_ | refine go_rd (rd_sub s1 hq.raw.rd_n) ?_ | refine go_D hD rfl ?_
            conv => lhs; whnf)
    have hidx : (IntKind.i64.wrap ((first : Int) + ds.length)).tmod 8 = (((first + ds.length) % 8 : Nat) : Int) := by
      rw [Sx.wrap_i64 (by omega) (by have := hq.lo; omega)]
      rw [show (first : Int) + ds.length = ((first + ds.length : Nat) : Int) by push_cast; rfl]
      rw [Int.tmod_eq_emod_of_nonneg (by omega)]
      push_cast; rfl
    rw [hidx]
    refine split_in (fun _ _ => ?_) (fun h => ?_)
    rotate_left
    · exfalso
      apply h
      constructor <;> omega
    conv => lhs; whnf
    refine (hD _).2 ⟨(hq.raw.sub s1).room (by show 0 + (first + ds.length) % 8 * 15 + 15 ≤ 123; omega), fun A2 hP => ?_⟩
    have hP : A1.Put A2 g (0 + (first + ds.length) % 8 * 15) _ := hP
    conv => lhs; whnf
    have r1 := (hq.raw.sub s1).put_row (i := (first + ds.length) % 8) (Nat.mod_lt _ (by omega)) (by omega) hR1.len hP
    refine go_rd r1.rd_n ?_
    conv => lhs; whnf
    refine (hD _).2 ⟨r1.room (by show 0 + 121 + 1 ≤ 123; omega), fun A3 hN => ?_⟩
    conv => lhs; whnf
    obtain ⟨k1, k2⟩ := hq.put h9 s1 hR1 (by omega) hP (by
      have := Sx.wrap_i64 (n := (ds.length : Int) + 1) (by omega) (by omega)
      rw [show ((ds.length + 1 : Nat) : Int) = (ds.length : Int) + 1 by push_cast; rfl, ← this]
      exact hN)
    exact (hD _).2 ⟨k1, .inr ⟨h9, rfl, k2⟩⟩

/-! ### A call goes out -/

def _root_.Go.Sx.AskD.kind : AskD → Int
  | .mk k _ _ _ _ _ _ _ _ _ _ _ _ _ _ => k
def _root_.Go.Sx.AskD.xid : AskD → Int
  | .mk _ x _ _ _ _ _ _ _ _ _ _ _ _ _ => x
def _root_.Go.Sx.AskD.turn : AskD → Int
  | .mk _ _ _ t _ _ _ _ _ _ _ _ _ _ _ => t

def readsD (k : Int) : Bool := (decide (7 ≤ k) && decide (k ≤ 9)) || decide (k = 13) || decide (k = 14)

theorem QAt.out {B A A1 A2 : Arena} {g : Nat} {d : AskD} {ds : List AskD} {first : Nat} {rows : List (List Value)} (h : QAt B A g (d :: ds) first rows) {m n : Int} (hm : m = (((first + 1) % 8 : Nat) : Int)) (hn : n = (ds.length : Int))
    (hP : A.Put A1 g 120 [.int .i64 m]) (hN : A1.Put A2 g 121 [.int .i64 n]) : (Arena.but A g).Sub A2 ∧ QR B A2 g ds := by
  subst hm hn
  have b1 : (Arena.but A g).Sub A2 := ((but_put hP).trans (but_put hN)).trans (but_of _ _)
  refine ⟨b1, (first + 1) % 8, rows, (h.raw.put_first hP).put_n hN, fun k o hk => b1 _ _ (but_mk (h.sub _ _ hk) fun e => by subst e; rw [h.off] at hk; cases hk), h.off, Nat.mod_lt _ (by omega), by have := h.hi; simp at this; omega, fun j hj => ?_⟩
  obtain ⟨cs, h1, h2⟩ := h.own (j + 1) (by simpa using hj)
  refine ⟨cs, ?_, by simpa using h2⟩
  rw [← h1]; congr 1; omega

theorem next_first {first : Nat} (h : first < 8) : (IntKind.i64.wrap ((first : Int) + 1)).tmod 8 = (((first + 1) % 8 : Nat) : Int) := by
  rw [Sx.wrap_i64 (by omega) (by omega)]
  rw [show (first : Int) + 1 = ((first + 1 : Nat) : Int) by push_cast; rfl]
  rw [Int.tmod_eq_emod_of_nonneg (by omega)]
  push_cast; rfl

theorem next_n {ds : List AskD} {d : AskD} (h : (d :: ds).length ≤ 8) : IntKind.i64.wrap (((d :: ds).length : Int) - 1) = (ds.length : Int) := by
  simp only [List.length_cons] at h ⊢
  rw [Sx.wrap_i64 (by omega) (by omega)]
  push_cast; omega

/-- No call. -/
def zeroC : List Value := [.int .u8 0, .int .i64 0, .int .i64 0, .int .i64 0, .string ⟨#[]⟩, .slice none 0 0, .int .i64 0, .int .i64 0, .bool false, .int .u8 0, .int .i64 0, .int .i64 0, .int .i64 0, .slice none 0 0, .slice none 0 0]

/-- What Read and Settle leave. -/
def outPost (B : Arena) (g : Nat) (ds : List AskD) (is : AskD → Bool) (A : Arena) (v : Value) (A' : Arena) : Prop :=
  (Arena.but A g).Sub A' ∧ ((∃ cs, v = .tuple #[askV cs, .bool false] ∧ cs = zeroC ∧ QR B A' g ds ∧ ∀ d ds', ds = d :: ds' → is d = false) ∨
    ∃ d ds' cs, ds = d :: ds' ∧ is d = true ∧ v = .tuple #[askV cs, .bool true] ∧ QR B A' g ds' ∧ AskR B d cs)

def readS : FSpec := ⟨Nat × List AskD × Arena, fun x vs A => vs = [.pointer (some ⟨x.1, 0, none⟩)] ∧ QR x.2.2 A x.1 x.2.1, fun x _ A v A' => outPost x.2.2 x.1 x.2.1 (fun d => readsD d.kind) A v A'⟩

set_option maxRecDepth 100000 in
set_option maxHeartbeats 0 in
theorem read_ok : FOk Try.prog 15 readS := by
  refine fok_v mixed fun ⟨g, ds, B⟩ vs A hp => ?_
  simp only [readS] at hp
  obtain ⟨rfl, first, rows, hq⟩ := hp
  refine ⟨noC, noL, 60, noC_sound _, noL_sound _, fun blk os out tape D hD => ?_⟩
  conv => lhs; whnf
  refine go_rd hq.raw.rd_n ?_
  conv => lhs; whnf
  refine split_b (fun hb => ?_) (fun hb => ?_) <;> (conv => lhs; whnf)
  · have h0 : ds = [] := by
      have : (ds.length : Int) = 0 := by simpa using hb
      exact List.length_eq_zero_iff.1 (by omega)
    subst h0
    exact (hD _).2 ⟨but_of _ _, .inl ⟨_, rfl, rfl, ⟨first, rows, hq⟩, fun d ds' h => by cases h⟩⟩
  · cases ds with
    | nil => simp at hb
    | cons d ds' =>
    obtain ⟨cs, hrow, hR⟩ := hq.own 0 (by simp)
    have hlo := hq.lo
    rw [Nat.add_zero, Nat.mod_eq_of_lt hlo] at hrow
    obtain ⟨kind, xid, ses, turn, path, data, flags, ver, watch, sort, last, tmo, frm, mem, parts⟩ := d
    simp only [List.getElem_cons_zero] at hR
    obtain ⟨vd, vm, vp, rows', rfl, hx1, hx2, hx3, hx4, hx5⟩ := hR
    obtain ⟨a5, k5, rfl⟩ := hx1.1.form
    obtain ⟨a13, k13, rfl⟩ := hx2.1.form
    obtain ⟨a14, k14, rfl⟩ := hx3.form
    refine go_rd hq.raw.rd_first ?_
    conv => lhs; whnf
    refine split_in (fun _ _ => ?_) (fun h => ?_)
    rotate_left
    · exfalso
      apply h
      constructor
      · show (0 : Int) ≤ (first : Int)
        omega
      · show (first : Int) < ((8 : Nat) : Int)
        omega
    conv => lhs; whnf
    refine go_rd (hq.raw.rd_row hrow) ?_
    conv => lhs; whnf
    have key : readsD kind = true ∨ readsD kind = false := by cases readsD kind <;> simp
    rcases key with hk | hk
    · have hk' := hk
      simp only [readsD, Bool.or_eq_true, Bool.and_eq_true, decide_eq_true_eq] at hk'
      rcases hk' with (⟨ha, hb⟩ | rfl) | rfl
      all_goals
        repeat (refine go_dec (by omega) ?_; conv => lhs; whnf)
        refine go_rd hq.raw.rd_first ?_
        conv => lhs; whnf
        refine go_in ⟨by show (0 : Int) ≤ (first : Int); omega, by show (first : Int) < ((8 : Nat) : Int); omega⟩ ?_
        conv => lhs; whnf
        refine go_rd (hq.raw.rd_row hrow) ?_
        conv => lhs; whnf
        repeat (first | refine go_rd hq.raw.rd_first ?_ | refine go_rd (hq.raw.rd_row hrow) ?_ | refine go_rd hq.raw.rd_n ?_ | refine go_D hD rfl ?_
                conv => lhs; whnf)
        refine (hD _).2 ⟨hq.raw.room (by show 0 + 120 + 1 ≤ 123; omega), fun A1 hP => ?_⟩
        conv => lhs; whnf
        refine (hD _).2 ⟨(hq.raw.put_first (m := (first + 1) % 8) (by rw [← next_first hlo]; exact hP)).room (by show 0 + 121 + 1 ≤ 123; omega), fun A2 hN => ?_⟩
        conv => lhs; whnf
        obtain ⟨k1, k2⟩ := hq.out (next_first hlo) (next_n hq.hi) hP hN
        exact (hD _).2 ⟨k1, .inr ⟨_, _, _, rfl, hk, rfl, k2, _, _, _, _, rfl, hx1, hx2, hx3, hx4, hx5⟩⟩
    · have hk' := hk
      simp only [readsD, Bool.or_eq_false_iff, Bool.and_eq_false_iff, decide_eq_false_iff_not] at hk'
      obtain ⟨⟨h1, h2⟩, h3⟩ := hk'
      by_cases h7 : 7 ≤ kind
      all_goals
        repeat (first | refine go_dec (by omega) ?_ | refine no_dec (by omega) ?_
                conv => lhs; whnf)
        refine go_b (by simp [h3]) ?_
        conv => lhs; whnf
        exact (hD _).2 ⟨but_of _ _, .inl ⟨_, rfl, rfl, ⟨first, rows, hq⟩, fun d ds' h => by injection h with h _; subst h; exact hk⟩⟩

end
end Go.Proofs.Ytompigcfojbpkaa
