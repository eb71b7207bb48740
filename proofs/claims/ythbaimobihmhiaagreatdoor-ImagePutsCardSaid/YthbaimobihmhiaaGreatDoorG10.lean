/-
  Rows that a loop makes by append.
  Rows that are made by append: many elements at once.
  Contracts: what is lent: rows in blocks of their own, with marks behind their ends; bytes.
  Lists that were handed out, and what marking and growing them leaves (the kit's look at what lies apart).
  Contract: bytes.growSlice, by the kit's law of it over any program.
  The program's writer: a bytes.Buffer in a block of the arena.
  The program's writer: a byte more.
  The program's writer: a text more.
  The program's writer: bytes more.
  wire.Writer: Byte, Int.
  wire.Writer: Text, Bytes.
  Contracts: bytes in a row of their own.
-/
import Derived.Test.YthbaimobihmhiaaGreatDoorG07
import Derived.Shelf.Bytes.GrowSlice
import Derived.Test.YthbaimobihmhiaaGreatDoorG08
namespace Go.Sx
noncomputable section

/-- A row that is made by appending: none yet, or one in a block that A1 does not know. -/
def GrowR (A1 A : Arena) (es : Nat) (e : TypeId) (n : Nat) (v : Value) (cs : List Value) : Prop :=
  cs.length = n * es ∧ ((n = 0 ∧ v = .slice none 0 0) ∨
    ∃ g nc c, v = .slice (some ⟨g, 0, none⟩) n nc ∧ n ≤ nc ∧ 0 < nc ∧ A1.blk g = none ∧ A.blk g = some (.cells c e (0, 0)) ∧ c.size = nc * es ∧ c.toList.take (n * es) = cs)

theorem GrowR.nil (A1 A : Arena) (es : Nat) (e : TypeId) : GrowR A1 A es e 0 (.slice none 0 0) [] := ⟨by simp, .inl ⟨rfl, rfl⟩⟩

theorem GrowR.keep {A1 A A' : Arena} {es : Nat} {e : TypeId} {n : Nat} {v : Value} {cs : List Value} (h : GrowR A1 A es e n v cs) (hk : ∀ k, A1.blk k = none → A'.blk k = A.blk k) : GrowR A1 A' es e n v cs := by
  obtain ⟨h1, h2 | ⟨g, nc, c, h3, h4, h4', h5, h6, h7, h8⟩⟩ := h
  · exact ⟨h1, .inl h2⟩
  · exact ⟨h1, .inr ⟨g, nc, c, h3, h4, h4', h5, by rw [hk g h5]; exact h6, h7, h8⟩⟩

theorem GrowR.sub {A1 A A' : Arena} {es : Nat} {e : TypeId} {n : Nat} {v : Value} {cs : List Value} (h : GrowR A1 A es e n v cs) (hk : A.Sub A') : GrowR A1 A' es e n v cs := by
  obtain ⟨h1, h2 | ⟨g, nc, c, h3, h4, h4', h5, h6, h7, h8⟩⟩ := h
  · exact ⟨h1, .inl h2⟩
  · exact ⟨h1, .inr ⟨g, nc, c, h3, h4, h4', h5, hk g _ h6, h7, h8⟩⟩

/-- What an append to it asks. -/
structure GrowP (A : Arena) (base : Option (Nat × Nat)) (n c es bytes : Nat) (cs : List Value) : Prop where
  rd : baseRd A base (n * es) = some cs
  cap : c < n + 1 → Builtin.nextslicecap (n + 1) c * bytes ≤ 281474976710656
  none_ : base = none → n = 0 ∧ c = 0
  room : ∀ (m : Nat), m = es → ∀ g o, base = some (g, o) → n + 1 ≤ c → A.Room g (o + n * es) m

theorem GrowR.form {A1 A : Arena} {es : Nat} {e : TypeId} {n : Nat} {v : Value} {cs : List Value} (h : GrowR A1 A es e n v cs) :
    ∃ base c, v = .slice (addrA base) n c ∧ (base = none ∨ ∃ g, base = some (g, 0)) ∧ (∀ bytes, bytes ≤ 65536 → n ≤ 1000000000 → GrowP A base n c es bytes cs) ∧
    ∀ ys v' A', ys.length = es → (∀ k, A.blk k = none → A1.blk k = none) → Appended A base n c es e cs ys 1 v' A' → GrowR A1 A' es e (n + 1) v' (cs ++ ys) ∧ ∀ k o, A1.blk k = some o → A'.blk k = A.blk k := by
  obtain ⟨hl, ⟨rfl, rfl⟩ | ⟨g, nc, c, rfl, hn, hpos, hg, hb, hsz, ht⟩⟩ := h
  · have hcs : cs = [] := List.length_eq_zero_iff.1 (by rw [hl]; simp)
    subst hcs
    refine ⟨none, 0, rfl, .inl rfl, fun bytes hby hn => ⟨by simp [baseRd], fun h => ?_, fun _ => ⟨rfl, rfl⟩, fun _ _ _ _ h => (by cases h)⟩, fun ys v' A' hy hd ha => ?_⟩
    · have := nextcap_le h
      calc _ ≤ (2 * (0 + 1) + 768) * 65536 := Nat.mul_le_mul this hby
        _ ≤ _ := by omega
    · rcases ha with ⟨h0, _⟩ | ⟨_, g, nc, c, zs, rfl, hnc, hc, hz, hN⟩
      · omega
      · refine ⟨⟨by simp [hy], .inr ⟨g, nc, c, rfl, hnc, by omega, hd g hN.none_, hN.at_, ?_, ?_⟩⟩, fun k o hk => hN.other k fun e => (by subst e; rw [hd _ hN.none_] at hk; cases hk)⟩
        · rw [← Array.length_toList, hc]
          simp only [List.nil_append, List.length_append, hy, hz, Nat.zero_add]
          have : nc = (nc - 1) + 1 := by omega
          rw [show nc * es = ((nc - 1) + 1) * es by rw [← this], Nat.succ_mul]; omega
        · rw [hc]; simp [hy]
  · have hle : n * es ≤ nc * es := Nat.mul_le_mul_right _ hn
    refine ⟨some (g, 0), nc, rfl, .inr ⟨g, rfl⟩, fun bytes hby hnb => ⟨?_, fun h => ?_, fun h => (by cases h), fun m hm g' o' h hlt => ?_⟩, fun ys v' A' hy hd ha => ?_⟩
    · show (if n * es = 0 then some [] else A.rd g 0 (n * es)) = some cs
      by_cases h0 : n * es = 0
      · rw [if_pos h0]
        rw [h0] at hl; rw [List.length_eq_zero_iff.1 hl]
      · rw [if_neg h0, rd_mk hb (by omega)]; simp [ht]
    · have := nextcap_le h
      calc _ ≤ (2 * (n + 1) + 768) * 65536 := Nat.mul_le_mul this hby
        _ ≤ _ := by omega
    · injection h with h; injection h with h1 h2; subst h1; subst h2; subst hm
      refine ⟨c, e, (0, 0), hb, ?_, .inl rfl⟩
      have := Nat.mul_le_mul_right m hlt
      rw [Nat.succ_mul] at this; omega
    · rcases ha with ⟨h0, rfl, h3⟩ | ⟨h0, g', nc', c', zs, rfl, hnc, hc, hz, hN⟩
      · obtain ⟨c', k1, k2, k3⟩ : ∃ c', A'.blk g = some (.cells c' e (0, 0)) ∧ (∀ k, k ≠ g → A'.blk k = A.blk k) ∧ c'.toList = c.toList.take (n * es) ++ ys ++ c.toList.drop (n * es + ys.length) := by
          rcases h3 with ⟨rfl, rfl⟩ | ⟨g', o', h, hP⟩
          · exact ⟨c, hb, fun _ _ => rfl, by simp⟩
          · injection h with h; injection h with h1 h2; subst h1; subst h2
            obtain ⟨c0, t0, fz0, c', k1, k2, k3⟩ := hP.at_
            rw [hb] at k1
            injection k1 with k1; injection k1 with k1 k1' k1''
            subst k1; subst k1'; subst k1''
            exact ⟨c', k2, hP.other, by rw [k3]; simp⟩
        have hlen : n * es + es ≤ nc * es := by rw [← Nat.succ_mul]; exact Nat.mul_le_mul_right _ h0
        refine ⟨⟨by simp [hl, hy, Nat.succ_mul], .inr ⟨g, nc, c', rfl, h0, hpos, hg, k1, ?_, ?_⟩⟩, fun k o hk => k2 k fun e => (by subst e; rw [hg] at hk; cases hk)⟩
        · rw [← Array.length_toList, k3]
          simp only [List.length_append, List.length_take, List.length_drop, Array.length_toList, hsz, hy]
          omega
        · rw [k3, ht]
          rw [List.take_append_of_le_length (by simp [hl, hy, Nat.succ_mul])]
          rw [List.take_of_length_le (by simp [hl, hy, Nat.succ_mul])]
      · refine ⟨⟨by simp [hl, hy, Nat.succ_mul], .inr ⟨g', nc', c', rfl, hnc, by omega, hd g' hN.none_, hN.at_, ?_, ?_⟩⟩, fun k o hk => hN.other k fun e => (by subst e; rw [hd _ hN.none_] at hk; cases hk)⟩
        · rw [← Array.length_toList, hc]
          simp only [List.length_append, hl, hy, hz]
          obtain ⟨d, rfl⟩ : ∃ d, nc' = (n + 1) + d := ⟨nc' - (n + 1), by omega⟩
          rw [Nat.add_sub_cancel_left, Nat.add_mul, Nat.add_mul]; omega
        · rw [hc]
          rw [List.take_append_of_le_length (by simp [hl, hy, Nat.succ_mul])]
          rw [List.take_of_length_le (by simp [hl, hy, Nat.succ_mul])]

end
end Go.Sx

namespace Go.Sx
noncomputable section

/-- What an append of m elements to it asks. -/
structure GrowM (A : Arena) (base : Option (Nat × Nat)) (n m c es bytes : Nat) (cs : List Value) : Prop where
  rd : baseRd A base (n * es) = some cs
  cap : c < n + m → Builtin.nextslicecap (n + m) c * bytes ≤ 281474976710656
  none_ : base = none → n = 0 ∧ c = 0
  room : ∀ (k : Nat), k = m * es → ∀ g o, base = some (g, o) → n + m ≤ c → A.Room g (o + n * es) k

theorem GrowR.formN {A1 A : Arena} {es : Nat} {e : TypeId} {n : Nat} {v : Value} {cs : List Value} (h : GrowR A1 A es e n v cs) :
    ∃ base c, v = .slice (addrA base) n c ∧ (base = none ∨ ∃ g, base = some (g, 0)) ∧ (∀ m bytes, bytes ≤ 65536 → n + m ≤ 1000000000 → GrowM A base n m c es bytes cs) ∧
    ∀ m ys v' A', ys.length = m * es → (∀ k, A.blk k = none → A1.blk k = none) → Appended A base n c es e cs ys m v' A' → GrowR A1 A' es e (n + m) v' (cs ++ ys) ∧ ∀ k o, A1.blk k = some o → A'.blk k = A.blk k := by
  obtain ⟨hl, ⟨rfl, rfl⟩ | ⟨g, nc, c, rfl, hn, hpos, hg, hb, hsz, ht⟩⟩ := h
  · have hcs : cs = [] := List.length_eq_zero_iff.1 (by rw [hl]; simp)
    subst hcs
    refine ⟨none, 0, rfl, .inl rfl, fun m bytes hby hn => ⟨by simp [baseRd], fun h => ?_, fun _ => ⟨rfl, rfl⟩, fun _ _ _ _ h => (by cases h)⟩, fun m ys v' A' hy hd ha => ?_⟩
    · have := nextcap_le h
      calc _ ≤ (2 * (0 + m) + 768) * 65536 := Nat.mul_le_mul this hby
        _ ≤ _ := by omega
    · rcases ha with ⟨h0, rfl, h3⟩ | ⟨hlt, g, nc, c, zs, rfl, hnc, hc, hz, hN⟩
      · have hm : m = 0 := by omega
        subst hm
        have hys : ys = [] := List.length_eq_zero_iff.1 (by rw [hy]; simp)
        subst hys
        rcases h3 with ⟨_, rfl⟩ | ⟨g, o, h, _⟩
        · exact ⟨GrowR.nil _ _ _ _, fun _ _ _ => rfl⟩
        · cases h
      · refine ⟨⟨by simp [hy], .inr ⟨g, nc, c, rfl, hnc, by omega, hd g hN.none_, hN.at_, ?_, ?_⟩⟩, fun k o hk => hN.other k fun e => (by subst e; rw [hd _ hN.none_] at hk; cases hk)⟩
        · rw [← Array.length_toList, hc]
          simp only [List.nil_append, List.length_append, hy, hz, Nat.zero_add]
          rw [← Nat.add_mul]; congr 1; omega
        · rw [hc, Nat.zero_add, List.nil_append, List.take_append_of_le_length (by omega), List.take_of_length_le (by omega)]
  · have hle : n * es ≤ nc * es := Nat.mul_le_mul_right _ hn
    refine ⟨some (g, 0), nc, rfl, .inr ⟨g, rfl⟩, fun m bytes hby hnb => ⟨?_, fun h => ?_, fun h => (by cases h), fun k hk g' o' h hlt => ?_⟩, fun m ys v' A' hy hd ha => ?_⟩
    · show (if n * es = 0 then some [] else A.rd g 0 (n * es)) = some cs
      by_cases h0 : n * es = 0
      · rw [if_pos h0]
        rw [h0] at hl; rw [List.length_eq_zero_iff.1 hl]
      · rw [if_neg h0, rd_mk hb (by omega)]; simp [ht]
    · have := nextcap_le h
      calc _ ≤ (2 * (n + m) + 768) * 65536 := Nat.mul_le_mul this hby
        _ ≤ _ := by omega
    · injection h with h; injection h with h1 h2; subst h1; subst h2; subst hk
      refine ⟨c, e, (0, 0), hb, ?_, .inl rfl⟩
      have := Nat.mul_le_mul_right es hlt
      rw [Nat.add_mul] at this; omega
    · rcases ha with ⟨h0, rfl, h3⟩ | ⟨h0, g', nc', c', zs, rfl, hnc, hc, hz, hN⟩
      · obtain ⟨c', k1, k2, k3⟩ : ∃ c', A'.blk g = some (.cells c' e (0, 0)) ∧ (∀ k, k ≠ g → A'.blk k = A.blk k) ∧ c'.toList = c.toList.take (n * es) ++ ys ++ c.toList.drop (n * es + ys.length) := by
          rcases h3 with ⟨rfl, rfl⟩ | ⟨g', o', h, hP⟩
          · exact ⟨c, hb, fun _ _ => rfl, by simp⟩
          · injection h with h; injection h with h1 h2; subst h1; subst h2
            obtain ⟨c0, t0, fz0, c', k1, k2, k3⟩ := hP.at_
            rw [hb] at k1
            injection k1 with k1; injection k1 with k1 k1' k1''
            subst k1; subst k1'; subst k1''
            exact ⟨c', k2, hP.other, by rw [k3]; simp⟩
        have hlen : n * es + m * es ≤ nc * es := by rw [← Nat.add_mul]; exact Nat.mul_le_mul_right _ h0
        have hcl : (cs ++ ys).length = (n + m) * es := by rw [List.length_append, hl, hy, Nat.add_mul]
        refine ⟨⟨hcl, .inr ⟨g, nc, c', rfl, h0, hpos, hg, k1, ?_, ?_⟩⟩, fun k o hk => k2 k fun e => (by subst e; rw [hg] at hk; cases hk)⟩
        · rw [← Array.length_toList, k3]
          simp only [List.length_append, List.length_take, List.length_drop, Array.length_toList, hsz, hy]
          omega
        · rw [k3, ht, List.take_append_of_le_length (by omega), List.take_of_length_le (by omega)]
      · have hcl : (cs ++ ys).length = (n + m) * es := by rw [List.length_append, hl, hy, Nat.add_mul]
        refine ⟨⟨hcl, .inr ⟨g', nc', c', rfl, hnc, by omega, hd g' hN.none_, hN.at_, ?_, ?_⟩⟩, fun k o hk => hN.other k fun e => (by subst e; rw [hd _ hN.none_] at hk; cases hk)⟩
        · rw [← Array.length_toList, hc]
          simp only [List.length_append, hl, hy, hz]
          rw [← Nat.add_mul, ← Nat.add_mul]; congr 1; omega
        · rw [hc, List.take_append_of_le_length (by omega), List.take_of_length_le (by omega)]

theorem addrA_inj {b b' : Option (Nat × Nat)} (h : addrA b = addrA b') : b = b' := by
  cases b with
  | none => cases b' with
    | none => rfl
    | some y => cases h
  | some x => cases b' with
    | none => cases h
    | some y =>
      obtain ⟨g, o⟩ := x
      obtain ⟨g', o'⟩ := y
      injection h with h
      injection h with h1 h2
      rw [h1, h2]

/-- The same, where the slice is spelled out. -/
theorem GrowR.formB {A1 A : Arena} {es : Nat} {e : TypeId} {n c : Nat} {base : Option (Nat × Nat)} {cs : List Value} (h : GrowR A1 A es e n (.slice (addrA base) n c) cs) :
    (∀ m bytes, bytes ≤ 65536 → n + m ≤ 1000000000 → GrowM A base n m c es bytes cs) ∧
    ∀ m ys v' A', ys.length = m * es → (∀ k, A.blk k = none → A1.blk k = none) → Appended A base n c es e cs ys m v' A' → GrowR A1 A' es e (n + m) v' (cs ++ ys) ∧ ∀ k o, A1.blk k = some o → A'.blk k = A.blk k := by
  obtain ⟨b', c', hv, _, h1, h2⟩ := h.formN
  injection hv with hv1 hv2 hv3
  have e := addrA_inj hv1
  subst e; subst hv3
  exact ⟨h1, h2⟩

theorem GrowR.cap_le {A1 A : Arena} {es : Nat} {e : TypeId} {n m c : Nat} {ao : Option Addr} {cs : List Value} (h : GrowR A1 A es e n (.slice ao m c) cs) : n ≤ c := by
  obtain ⟨_, ⟨rfl, h⟩ | ⟨g, nc, _, h, hn, _⟩⟩ := h
  · omega
  · injection h with h1 h2 h3
    omega

/-- What lies at the front of a row. -/
theorem src_take {A : Arena} {g o n q : Nat} {α : Type} {f : α → Value} {l : List α} (h : A.rd g 0 (n * 1) = some (l.map f)) (hq : q ≤ n) (ho : o = 0) : (if q = 0 then some [] else A.rd g o (q * 1)) = some ((l.take q).map f) := by
  subst ho
  by_cases h0 : q = 0
  · rw [if_pos h0, h0, List.take_zero]; rfl
  · rw [if_neg h0]
    have := rd_at h (i := 0) (m := q * 1) (by omega)
    rw [Nat.add_zero, List.drop_zero, Nat.mul_one, ← List.map_take] at this
    rw [Nat.mul_one]
    exact this

/-- What lies behind. -/
theorem src_drop {A : Arena} {g o n q : Nat} {α : Type} {f : α → Value} {l : List α} (h : A.rd g 0 (n * 1) = some (l.map f)) (hn : n = l.length) (ho : q < n → o = q) : (if n - q = 0 then some [] else A.rd g o ((n - q) * 1)) = some ((l.drop q).map f) := by
  by_cases h0 : n - q = 0
  · rw [if_pos h0, List.drop_eq_nil_of_le (by omega)]; rfl
  · rw [if_neg h0, ho (by omega)]
    have := rd_at h (i := q) (m := (n - q) * 1) (by omega)
    rw [Nat.zero_add] at this
    rw [this, ← List.map_drop, List.take_of_length_le (by rw [List.length_map, List.length_drop]; omega)]

/-- A row made by append, as a slice. -/
theorem GrowR.sl {A1 A : Arena} {es : Nat} {e : TypeId} {n : Nat} {v : Value} {cs : List Value} (h : GrowR A1 A es e n v cs) : Sl A es n v cs := by
  obtain ⟨h1, ⟨rfl, rfl⟩ | ⟨g, nc, c, rfl, h4, h4', h5, h6, h7, h8⟩⟩ := h
  · have hc : cs = [] := List.length_eq_zero_iff.1 (by rw [h1]; simp)
    subst hc
    exact Sl.nil _ _
  · have hle : n * es ≤ nc * es := Nat.mul_le_mul_right _ h4
    refine Sl.row h4 ?_
    rw [rd_mk h6 (by omega), List.drop_zero, h8]

end
end Go.Sx

namespace Go.Proofs.YthbaimobihmhiaaGreatDoor
open Go.Sx Go.RowKit
noncomputable section
open Classical

/-- A row in a block of its own, with room. -/
structure LRow (A : Arena) (g es : Nat) (e : TypeId) (n c : Nat) (cs : List Value) : Prop where
  at_ : ∃ cc, A.blk g = some (.cells cc e (0, 0)) ∧ cc.size = c * es ∧ cc.toList.take (n * es) = cs
  le : n ≤ c
  len : cs.length = n * es

theorem LRow.sub {A A' : Arena} {g es : Nat} {e : TypeId} {n c : Nat} {cs : List Value} (h : LRow A g es e n c cs) (hs : A.Sub A') : LRow A' g es e n c cs := by
  obtain ⟨⟨cc, h1, h2, h3⟩, h4, h5⟩ := h
  exact ⟨⟨cc, hs _ _ h1, h2, h3⟩, h4, h5⟩

theorem LRow.keep {A A' : Arena} {g es : Nat} {e : TypeId} {n c : Nat} {cs : List Value} (h : LRow A g es e n c cs) (hs : A'.blk g = A.blk g) : LRow A' g es e n c cs := by
  obtain ⟨⟨cc, h1, h2, h3⟩, h4, h5⟩ := h
  exact ⟨⟨cc, by rw [hs]; exact h1, h2, h3⟩, h4, h5⟩

theorem LRow.rd {A : Arena} {g es : Nat} {e : TypeId} {n c : Nat} {cs : List Value} (h : LRow A g es e n c cs) : A.rd g 0 (n * es) = some cs := by
  obtain ⟨⟨cc, h1, h2, h3⟩, h4, h5⟩ := h
  have := Nat.mul_le_mul_right es h4
  rw [rd_mk h1 (by omega), List.drop_zero, h3]

theorem LRow.base {A : Arena} {g es : Nat} {e : TypeId} {n c : Nat} {cs : List Value} (h : LRow A g es e n c cs) : baseRd A (some (g, 0)) (n * es) = some cs := by
  show (if n * es = 0 then some [] else A.rd g 0 (n * es)) = some cs
  by_cases h0 : n * es = 0
  · rw [if_pos h0]
    have := h.len
    rw [h0] at this
    rw [List.length_eq_zero_iff.1 this]
  · rw [if_neg h0, h.rd]

theorem LRow.room {A : Arena} {g es : Nat} {e : TypeId} {n c : Nat} {cs : List Value} (h : LRow A g es e n c cs) {o k : Nat} (hk : o + k ≤ c * es) : A.Room g o k := by
  obtain ⟨⟨cc, h1, h2, h3⟩, h4, h5⟩ := h
  exact ⟨cc, e, (0, 0), h1, by omega, .inl rfl⟩

/-- Something is put behind it, in its room. -/
theorem LRow.add {A A2 : Arena} {g es : Nat} {e : TypeId} {n c m : Nat} {cs ys : List Value} {v : Value} (h : LRow A g es e n c cs) (hm : n + m ≤ c) (hy : ys.length = m * es) (ha : Appended A (some (g, 0)) n c es e cs ys m v A2) :
    v = .slice (some ⟨g, 0, none⟩) (n + m) c ∧ LRow A2 g es e (n + m) c (cs ++ ys) ∧ ∀ k, k ≠ g → A2.blk k = A.blk k := by
  obtain ⟨⟨cc, h1, h2, h3⟩, h4, h5⟩ := h
  rcases ha with ⟨_, rfl, h6⟩ | ⟨h6, _⟩
  · refine ⟨rfl, ?_⟩
    have hlen : (cs ++ ys).length = (n + m) * es := by rw [List.length_append, h5, hy, Nat.add_mul]
    rcases h6 with ⟨rfl, rfl⟩ | ⟨g', o', e1, hP⟩
    · refine ⟨⟨⟨cc, h1, h2, ?_⟩, hm, hlen⟩, fun _ _ => rfl⟩
      have : m * es = 0 := by rw [← hy]; rfl
      rw [Nat.add_mul, this, Nat.add_zero, h3, List.append_nil]
    · injection e1 with e1
      injection e1 with e1 e2
      subst e1; subst e2
      obtain ⟨c0, t0, fz0, c', k1, k2, k3⟩ := hP.at_
      rw [h1] at k1
      injection k1 with k1
      injection k1 with k1 k1' k1''
      subst k1; subst k1'; subst k1''
      have hle := Nat.mul_le_mul_right es hm
      rw [Nat.add_mul] at hle
      refine ⟨⟨⟨c', k2, ?_, ?_⟩, hm, hlen⟩, hP.other⟩
      · rw [← Array.length_toList, k3]
        simp only [List.length_append, List.length_take, List.length_drop, Array.length_toList, h2, hy]
        omega
      · rw [k3, Nat.zero_add, h3, List.take_append_of_le_length (by omega), List.take_of_length_le (by omega)]
  · omega

/-- A cell row of it is stored over. -/
theorem LRow.over {A A2 : Arena} {g es : Nat} {e : TypeId} {c : Nat} {cs ys : List Value} {n o : Nat} (h : LRow A g es e n c cs) (hP : A.Put A2 g o ys) (hle : o + ys.length ≤ c * es) : (∃ cc, A2.blk g = some (.cells cc e (0, 0)) ∧ cc.size = c * es) ∧ ∀ k, k ≠ g → A2.blk k = A.blk k := by
  obtain ⟨⟨cc, h1, h2, h3⟩, h4, h5⟩ := h
  obtain ⟨c0, t0, fz0, c', k1, k2, k3⟩ := hP.at_
  rw [h1] at k1
  injection k1 with k1
  injection k1 with k1 k1' k1''
  subst k1; subst k1'; subst k1''
  refine ⟨⟨c', k2, ?_⟩, hP.other⟩
  rw [← Array.length_toList, k3]
  simp only [List.length_append, List.length_take, List.length_drop, Array.length_toList, h2]
  omega

end
end Go.Proofs.YthbaimobihmhiaaGreatDoor

namespace Go.Proofs.YthbaimobihmhiaaGreatDoor
open Go.Sx Go.RowKit
noncomputable section
open Classical

/-- A list that was handed out: its slice, length, room and block. -/
structure LsD where
  v : Value
  n : Nat
  c : Nat
  g : Option Nat

/-- It lies in A and holds cs. -/
def LsR (A : Arena) (es : Nat) (e : TypeId) (L : LsD) (cs : List Value) : Prop :=
  (L.g = none ∧ L.n = 0 ∧ L.c = 0 ∧ cs = [] ∧ ∃ base, L.v = .slice (addrA base) 0 0) ∨
  ∃ g, L.g = some g ∧ L.v = .slice (some ⟨g, 0, none⟩) L.n L.c ∧ 0 < L.c ∧ LRow A g es e L.n L.c cs

theorem LsR.len {A : Arena} {es : Nat} {e : TypeId} {L : LsD} {cs : List Value} (h : LsR A es e L cs) : cs.length = L.n * es := by
  rcases h with ⟨_, h2, _, rfl, _⟩ | ⟨g, _, _, _, h⟩
  · rw [h2]; simp
  · exact h.len

theorem LsR.keep {A A' : Arena} {es : Nat} {e : TypeId} {L : LsD} {cs : List Value} (h : LsR A es e L cs) (hk : ∀ g o, L.g = some g → A.blk g = some o → A'.blk g = some o) : LsR A' es e L cs := by
  rcases h with h | ⟨g, h1, h2, h3, h4⟩
  · exact .inl h
  · refine .inr ⟨g, h1, h2, h3, h4.keep ?_⟩
    obtain ⟨cc, h5, _⟩ := h4.at_
    rw [h5, hk g _ h1 h5]

theorem LsR.live {A : Arena} {es : Nat} {e : TypeId} {L : LsD} {cs : List Value} (h : LsR A es e L cs) {g : Nat} (hg : L.g = some g) : ∃ o, A.blk g = some o := by
  rcases h with ⟨h1, _⟩ | ⟨g', h1, _, _, h4⟩
  · rw [h1] at hg; cases hg
  · rw [h1] at hg
    injection hg with hg
    subst hg
    obtain ⟨cc, h5, _⟩ := h4.at_
    exact ⟨_, h5⟩

/-- The first q elements as they are marked. -/
def mks (m : Nat → List Value) (q : Nat) : List Value := (List.range q).flatMap m

theorem mks_zero (m : Nat → List Value) : mks m 0 = [] := rfl

theorem mks_succ (m : Nat → List Value) (q : Nat) : mks m (q + 1) = mks m q ++ m q := by
  unfold mks
  rw [List.range_succ, List.flatMap_append]
  simp

theorem mks_len {m : Nat → List Value} {es : Nat} (hm : ∀ i, (m i).length = es) : ∀ q, (mks m q).length = q * es
  | 0 => by simp [mks]
  | q + 1 => by rw [mks_succ, List.length_append, mks_len hm q, hm, Nat.succ_mul]

theorem mks_take {m : Nat → List Value} {es : Nat} (hm : ∀ i, (m i).length = es) {q : Nat} : ∀ {p : Nat}, q ≤ p → (mks m p).take (q * es) = mks m q
  | 0, h => by
    obtain rfl : q = 0 := by omega
    simp [mks]
  | p + 1, h => by
    by_cases e : q = p + 1
    · subst e
      rw [List.take_of_length_le (by rw [mks_len hm]; omega)]
    · have hqp : q * es ≤ p * es := Nat.mul_le_mul_right _ (by omega)
      rw [mks_succ, List.take_append_of_le_length (by rw [mks_len hm]; exact hqp), mks_take hm (by omega)]

theorem mks_at {m : Nat → List Value} {es : Nat} (hm : ∀ i, (m i).length = es) {i q : Nat} (h : i < q) : ((mks m q).drop (i * es)).take es = m i := by
  have h1 : (mks m (i + 1)).drop (i * es) = m i := by
    rw [mks_succ, List.drop_append_of_le_length (by rw [mks_len hm]; omega), List.drop_of_length_le (by rw [mks_len hm]; omega), List.nil_append]
  rw [← mks_take hm (show i + 1 ≤ q from h)] at h1
  rw [← h1, Nat.succ_mul, List.drop_take]
  congr 1
  omega

/-- The first q elements are marked. -/
def LsM (A : Arena) (es : Nat) (e : TypeId) (L : LsD) (m : Nat → List Value) (q : Nat) : Prop := ∃ cs, LsR A es e L cs ∧ q ≤ L.n ∧ cs.take (q * es) = mks m q

theorem LsM.keep {A A' : Arena} {es : Nat} {e : TypeId} {L : LsD} {m : Nat → List Value} {q : Nat} (h : LsM A es e L m q) (hk : ∀ g o, L.g = some g → A.blk g = some o → A'.blk g = some o) : LsM A' es e L m q := by
  obtain ⟨cs, h1, h2, h3⟩ := h
  exact ⟨cs, h1.keep hk, h2, h3⟩

theorem LsM.le {A : Arena} {es : Nat} {e : TypeId} {L : LsD} {m : Nat → List Value} {p q : Nat} (hm : ∀ i, (m i).length = es) (h : LsM A es e L m p) (hq : q ≤ p) : LsM A es e L m q := by
  obtain ⟨cs, h1, h2, h3⟩ := h
  refine ⟨cs, h1, by omega, ?_⟩
  have hle : q * es ≤ p * es := Nat.mul_le_mul_right _ hq
  rw [← mks_take hm hq, ← h3, List.take_take, Nat.min_eq_left hle]

theorem LsM.live {A : Arena} {es : Nat} {e : TypeId} {L : LsD} {m : Nat → List Value} {q : Nat} (h : LsM A es e L m q) {g : Nat} (hg : L.g = some g) : ∃ o, A.blk g = some o := by
  obtain ⟨cs, h1, _⟩ := h
  exact h1.live hg

/-- One of them is read. -/
theorem LsM.read {A : Arena} {es : Nat} {e : TypeId} {L : LsD} {m : Nat → List Value} {q i : Nat} (hm : ∀ i, (m i).length = es) (h : LsM A es e L m q) (hi : i < q) : ∃ g, L.v = .slice (some ⟨g, 0, none⟩) L.n L.c ∧ A.rd g (0 + i * es) es = some (m i) := by
  obtain ⟨cs, h1, h2, h3⟩ := h
  rcases h1 with ⟨_, h4, _⟩ | ⟨g, _, h4, _, h5⟩
  · omega
  · refine ⟨g, h4, ?_⟩
    have hle : (i + 1) * es ≤ q * es := Nat.mul_le_mul_right _ hi
    have hle2 : (i + 1) * es ≤ L.n * es := Nat.mul_le_mul_right _ (by omega)
    have hs : (i + 1) * es = i * es + es := Nat.succ_mul i es
    rw [rd_at h5.rd (by omega), ← mks_at hm hi, ← h3, List.drop_take, List.take_take, Nat.min_eq_left (by omega)]

/-- Its form, and what a store of the next mark leaves. -/
theorem LsM.put {A : Arena} {es : Nat} {e : TypeId} {L : LsD} {m : Nat → List Value} {q : Nat} (hm : ∀ i, (m i).length = es) (h : LsM A es e L m q) (hq : q < L.n) : ∃ g, L.g = some g ∧ L.v = .slice (some ⟨g, 0, none⟩) L.n L.c ∧ A.Room g (0 + q * es) es ∧
    ∀ A', A.Put A' g (0 + q * es) (m q) → LsM A' es e L m (q + 1) ∧ ∀ k, k ≠ g → A'.blk k = A.blk k := by
  obtain ⟨cs, h1, h2, h3⟩ := h
  rcases h1 with ⟨_, h4, _⟩ | ⟨g, h4, h5, h6, h7⟩
  · omega
  · have hle : (q + 1) * es ≤ L.n * es := Nat.mul_le_mul_right _ hq
    have hs : (q + 1) * es = q * es + es := Nat.succ_mul q es
    have hlc : L.n * es ≤ L.c * es := Nat.mul_le_mul_right _ h7.le
    refine ⟨g, h4, h5, h7.room (by omega), fun A' hP => ⟨?_, hP.other⟩⟩
    obtain ⟨cc, k1, k2, k3⟩ := h7.at_
    obtain ⟨c0, t0, fz0, c', e1, e2, e3⟩ := hP.at_
    rw [k1] at e1
    injection e1 with e1
    injection e1 with e1 e1' e1''
    subst e1; subst e1'; subst e1''
    rw [hm, Nat.zero_add] at e3
    have hcl : cc.toList.length = L.c * es := by rw [Array.length_toList, k2]
    have hml := hm q
    refine ⟨c'.toList.take (L.n * es), .inr ⟨g, h4, h5, h6, ⟨c', e2, ?_, rfl⟩, h7.le, ?_⟩, hq, ?_⟩
    · rw [← Array.length_toList, e3]
      simp only [List.length_append, List.length_take, List.length_drop, hml, hcl]
      omega
    · rw [List.length_take, e3]
      simp only [List.length_append, List.length_take, List.length_drop, hml, hcl]
      omega
    · have h9 : cc.toList.take (q * es) = mks m q := by
        rw [← h3, ← k3, List.take_take, Nat.min_eq_left (by omega)]
      rw [List.take_take, Nat.min_eq_left hle, e3, List.take_append_of_le_length (by simp only [List.length_append, List.length_take, hml, hcl]; omega), h9, ← mks_succ, List.take_of_length_le (by rw [mks_len hm]; omega)]

theorem nextcap_gm {m c : Nat} (h : c < m) : Builtin.nextslicecap m c ≤ 2 * m + 768 := nextcap_le h

/-- What an append to it asks, and what it leaves. -/
theorem LsR.app {A : Arena} {es : Nat} {e : TypeId} {L : LsD} {cs : List Value} (h : LsR A es e L cs) : ∃ base, L.v = .slice (addrA base) L.n L.c ∧ (base = none ∨ ∃ g o, base = some (g, o)) ∧
    (∀ m bytes, bytes ≤ 65536 → L.n + m ≤ 1000000000 → 0 < m → GrowM A base L.n m L.c es bytes cs) ∧
    ∀ m ys v' A', ys.length = m * es → 0 < m → Appended A base L.n L.c es e cs ys m v' A' →
      ∃ L' : LsD, L'.v = v' ∧ L'.n = L.n + m ∧ LsR A' es e L' (cs ++ ys) ∧ (∀ g, L'.g = some g → L.g = some g ∨ A.blk g = none) ∧ (∀ k o, A.blk k = some o → L.g ≠ some k → A'.blk k = some o) ∧ LsR A' es e L cs ∧ ∀ g, L'.g = some g → L.g = some g → L'.c = L.c := by
  have hcap : ∀ {m bytes}, bytes ≤ 65536 → L.n + m ≤ 1000000000 → L.c < L.n + m → Builtin.nextslicecap (L.n + m) L.c * bytes ≤ 281474976710656 := fun {m bytes} hb hn hc => by
    have h1 := nextcap_gm hc
    calc _ ≤ (2 * (L.n + m) + 768) * 65536 := Nat.mul_le_mul h1 hb
      _ ≤ _ := by omega
  rcases h with ⟨h1, h2, h3, rfl, base, h4⟩ | ⟨g, h1, h2, h3, h4⟩
  · rw [h2, h3] at hcap ⊢
    refine ⟨base, h4, ?_, fun m bytes hb hn hm => ⟨?_, hcap hb hn, fun hb0 => ⟨rfl, rfl⟩, fun k hk g o _ hle => by omega⟩, fun m ys v' A' hy hm ha => ?_⟩
    · cases base with
      | none => exact .inl rfl
      | some x => exact .inr ⟨x.1, x.2, rfl⟩
    · cases base with
      | none => simp [baseRd]
      | some x =>
        obtain ⟨g, o⟩ := x
        show (if 0 * es = 0 then some [] else A.rd g o (0 * es)) = some []
        rw [if_pos (Nat.zero_mul _)]
    · rcases ha with ⟨h0, _⟩ | ⟨_, g, nc, c0, zs, hv, hnc, hc, hz, hN⟩
      · omega
      · refine ⟨⟨v', 0 + m, nc, some g⟩, rfl, rfl, .inr ⟨g, rfl, hv, by show 0 < nc; omega, ⟨c0, hN.at_, ?_, ?_⟩, hnc, ?_⟩, fun g' hg' => ?_, fun k o hk _ => ?_, .inl ⟨h1, h2, h3, rfl, base, h4⟩, fun g9 _ h => by rw [h1] at h; cases h⟩
        · rw [← Array.length_toList, hc]
          simp only [List.nil_append, List.length_append, hy, hz]
          have : nc * es = (m + (nc - (0 + m))) * es := by congr 1; omega
          show m * es + (nc - (0 + m)) * es = nc * es
          rw [this, Nat.add_mul]
        · show c0.toList.take ((0 + m) * es) = _
          rw [hc, Nat.zero_add, List.nil_append, List.take_append_of_le_length (by omega), List.take_of_length_le (by omega)]
        · show ([] ++ ys).length = (0 + m) * es
          rw [Nat.zero_add]; simpa using hy
        · have hg' : some g = some g' := hg'
          injection hg' with hg'
          subst hg'
          exact .inr hN.none_
        · rw [hN.other k fun e => (by rw [e, hN.none_] at hk; cases hk)]
          exact hk
  · refine ⟨some (g, 0), h2, .inr ⟨g, 0, rfl⟩, fun m bytes hb hn hm => ⟨h4.base, hcap hb hn, fun h => (by cases h), fun k hk g' o he hle => ?_⟩, fun m ys v' A' hy hm ha => ?_⟩
    · injection he with he
      injection he with he1 he2
      subst he1; subst he2; subst hk
      have := Nat.mul_le_mul_right es hle
      rw [Nat.add_mul] at this
      exact h4.room (by omega)
    · have h4' := h4
      obtain ⟨cc, k1, k2, k3⟩ := h4'.at_
      rcases ha with hin | ⟨h0, g', nc, c0, zs, hv, hnc, hc, hz, hN⟩
      · obtain ⟨hv, hrow, hoth⟩ := h4.add hin.1 hy (.inl hin)
        refine ⟨⟨v', L.n + m, L.c, some g⟩, rfl, rfl, .inr ⟨g, rfl, hv, h3, hrow⟩, fun g' hg' => ?_, fun k o hk hne => ?_, .inr ⟨g, h1, h2, h3, ?_⟩, fun _ _ _ => rfl⟩
        · have hg' : some g = some g' := hg'
          rw [← hg']
          exact .inl h1
        · rw [hoth k fun e => hne (by rw [e]; exact h1)]
          exact hk
        · obtain ⟨⟨c2, j1, j2, j3⟩, j4, j5⟩ := hrow
          refine ⟨⟨c2, j1, j2, ?_⟩, h4.le, h4.len⟩
          have h9 := congrArg (List.take (L.n * es)) j3
          rw [List.take_take, Nat.min_eq_left (Nat.mul_le_mul_right _ (by omega)), List.take_append_of_le_length (by rw [h4.len]; omega), List.take_of_length_le (l := cs) (by rw [h4.len]; omega)] at h9
          exact h9
      · refine ⟨⟨v', L.n + m, nc, some g'⟩, rfl, rfl, .inr ⟨g', rfl, hv, by show 0 < nc; omega, ⟨c0, hN.at_, ?_, ?_⟩, hnc, ?_⟩, fun g9 hg9 => ?_, fun k o hk _ => ?_, .inr ⟨g, h1, h2, h3, h4.keep (hN.other g fun e => ?_)⟩, fun g9 hg9 hgl => ?_⟩
        · rw [← Array.length_toList, hc]
          simp only [List.length_append, hy, hz, h4.len]
          have : nc * es = (L.n + m + (nc - (L.n + m))) * es := by congr 1; omega
          show L.n * es + m * es + (nc - (L.n + m)) * es = nc * es
          rw [this, Nat.add_mul, Nat.add_mul]
        · show c0.toList.take ((L.n + m) * es) = _
          have hl : (cs ++ ys).length = (L.n + m) * es := by rw [List.length_append, h4.len, hy, Nat.add_mul]
          rw [hc, List.take_append_of_le_length (by omega), List.take_of_length_le (by omega)]
        · show (cs ++ ys).length = (L.n + m) * es
          rw [List.length_append, h4.len, hy, Nat.add_mul]
        · have hg9 : some g' = some g9 := hg9
          injection hg9 with hg9
          subst hg9
          exact .inr hN.none_
        · rw [hN.other k fun e => (by rw [e, hN.none_] at hk; cases hk)]
          exact hk
        · have := hN.none_
          rw [← e, k1] at this
          cases this
        · have hg9 : some g' = some g9 := hg9
          have := hN.none_
          rw [h1, ← hg9] at hgl
          injection hgl with hgl
          rw [← hgl, k1] at this
          cases this

end
end Go.Proofs.YthbaimobihmhiaaGreatDoor

namespace Go.Proofs.YthbaimobihmhiaaGreatDoor
open Go.Sx Go.RowKit Go.Shelf
noncomputable section
open Classical

def gsRen : Go.Shelf.Ren := ⟨fun | 290 => 98 | 324 => 105 | n => n, fun | 0 => 0 | 3 => 3 | 4 => 4 | 5 => 5 | 9 => 9 | 20 => 20 | 37 => 32 | 75 => 107 | 80 => 160 | n => n, fun | 14 => 0 | n => n⟩

set_option maxRecDepth 100000 in
theorem gsLays : LaysM.n290 Tryz.prog gsRen where
  mixed := by kernel_rfl
  f290 := Tryz.func98.trans (congrArg some (by kernel_rfl))
  f324 := Tryz.func105.trans (congrArg some (by kernel_rfl))
  t0 := Tryz.underlying0
  a0 := Tryz.isAgg0
  z0 := Tryz.sizeOf0
  v0 := Tryz.zeroValue0
  t3 := Tryz.underlying3
  a3 := Tryz.isAgg3
  z3 := Tryz.sizeOf3
  v3 := Tryz.zeroValue3
  t4 := Tryz.underlying4
  a4 := Tryz.isAgg4
  z4 := Tryz.sizeOf4
  v4 := Tryz.zeroValue4
  t20 := Tryz.underlying20
  a20 := Tryz.isAgg20
  z20 := Tryz.sizeOf20
  v20 := Tryz.zeroValue20
  t37 := Tryz.underlying32
  a37 := Tryz.isAgg32
  z37 := Tryz.sizeOf32
  v37 := Tryz.zeroValue32
  t75 := Tryz.underlying107
  a75 := Tryz.isAgg107
  z75 := Tryz.sizeOf107
  v75 := Tryz.zeroValue107
  g14 := by kernel_rfl
  t5 := Tryz.underlying5
  a5 := Tryz.isAgg5
  z5 := Tryz.sizeOf5
  v5 := Tryz.zeroValue5
  t9 := Tryz.underlying9
  a9 := Tryz.isAgg9
  z9 := Tryz.sizeOf9
  v9 := Tryz.zeroValue9
  t80 := Tryz.underlying160
  a80 := Tryz.isAgg160
  z80 := Tryz.sizeOf160
  v80 := Tryz.zeroValue160
  i0 := by kernel_rfl
  i3 := by kernel_rfl
  i4 := by kernel_rfl
  i5 := by kernel_rfl
  i9 := by kernel_rfl
  i20 := by kernel_rfl
  i37 := by kernel_rfl
  i75 := by kernel_rfl
  i80 := by kernel_rfl
  m14 := by kernel_rfl

structure GsG where
  L : LsD
  cs : List Value
  n : Nat

def growSliceS : FSpec := ⟨GsG, fun g vs A => vs = [g.L.v, .int .i64 g.n] ∧ LsR A 1 5 g.L g.cs ∧ 1 ≤ g.n ∧ g.L.c ≤ 140737488355328 ∧ g.L.n + g.n ≤ 1000000000 ∧ (∀ v ∈ g.cs, v.oneCell' = true) ∧ (g.L.g = none → g.L.v = .slice none 0 0),
  fun g _ A v A' => A.Sub A' ∧ ∃ L' : LsD, v = L'.v ∧ L'.n = g.L.n ∧ g.L.n + g.n ≤ L'.c ∧ L'.c ≤ 9223372036854775807 ∧ LsR A' 1 5 L' g.cs ∧ ∃ k, L'.g = some k ∧ A.blk k = none⟩

/-- One block more. -/
theorem moves_new {A : Arena} {w w' : World} {cells : Array Value} {t : TypeId} (hA : ∀ k o, A.blk k = some o → w.heap[k]? = some o) (hb : Below w.heap.size w w') (hn : w'.heap[w.heap.size]? = some (.cells cells t (0, 0))) :
    A.blk w.heap.size = none ∧ Moves A (Arena.of (fun k => if k = w.heap.size then some (.cells cells t (0, 0)) else A.blk k)) w w' := by
  have hlt : ∀ k o, A.blk k = some o → k < w.heap.size := fun k o hk => (Array.getElem?_eq_some_iff.1 (hA k o hk)).1
  have h0 : A.blk w.heap.size = none := by
    cases h : A.blk w.heap.size with
    | none => rfl
    | some o => exact absurd (hlt _ _ h) (Nat.lt_irrefl _)
  obtain ⟨b1, b2, b3, _, b5⟩ := hb
  refine ⟨h0, b1, b3, b2, fun k _ hk => b5 k hk, fun k o hk => ?_, fun k o hk => ?_⟩
  · have hk : (if k = w.heap.size then some (Obj.cells cells t (0, 0)) else A.blk k) = some o := hk
    by_cases e : k = w.heap.size
    · rw [if_pos e] at hk
      rw [e, hn, hk]
    · rw [if_neg e] at hk
      exact (b5 k (hlt k o hk)).trans (hA k o hk)
  · have hk : (if k = w.heap.size then some (Obj.cells cells t (0, 0)) else A.blk k) = some o := hk
    by_cases e : k = w.heap.size
    · exact .inr (by omega)
    · rw [if_neg e] at hk
      exact .inl ⟨o, hk⟩

theorem growSlice_ok : FOk Tryz.prog 98 growSliceS := by
  intro ⟨L, cs, n⟩ vs A w hA hp
  obtain ⟨rfl, hL, h1, hc, hn, hone, hnil⟩ : vs = [L.v, .int .i64 n] ∧ LsR A 1 5 L cs ∧ 1 ≤ n ∧ L.c ≤ 140737488355328 ∧ L.n + n ≤ 1000000000 ∧ (∀ v ∈ cs, v.oneCell' = true) ∧ (L.g = none → L.v = .slice none 0 0) := hp
  refine goes_of_calls gsLays.f290 ⟨by kernel_rfl, by kernel_rfl⟩ ?_
  rcases hL with ⟨k1, k2, k3, rfl, base, k4⟩ | ⟨g, k1, k2, k3, ⟨⟨cc, j1, j2, j3⟩, j4, j5⟩⟩
  · rw [hnil k1]
    intro fs
    obtain ⟨e, w', fr, ⟨cap2, cells, q1, q2, q3, q4, q5, q6⟩, q7⟩ := Any.bytes_growSlice_nil gsLays n w h1 (by omega) fs
    obtain ⟨h0, hM⟩ := moves_new hA q6 q2
    refine ⟨e, w', fr, ⟨_, q1, _, ⟨fun k o hk => ?_, ⟨.slice (some ⟨w.heap.size, 0, none⟩) 0 cap2, 0, cap2, some w.heap.size⟩, rfl, k2.symm, by show L.n + n ≤ cap2; omega, q5, .inr ⟨w.heap.size, rfl, rfl, by show 0 < cap2; omega, ⟨⟨cells, if_pos rfl, by show cells.size = cap2 * 1; omega, by simp⟩, Nat.zero_le _, by simp⟩⟩, w.heap.size, rfl, h0⟩, hM⟩, q7⟩
    show (if k = w.heap.size then _ else A.blk k) = some o
    rw [if_neg fun e => (by rw [e, h0] at hk; cases hk)]
    exact hk
  · rw [k2]
    have hcc : cc.size = L.c := by omega
    have hone' : ∀ v ∈ cc.toList.take L.n, v.oneCell' = true := fun v hv => hone v (by rw [← j3, Nat.mul_one]; exact hv)
    intro fs
    obtain ⟨e, w', fr, ⟨cap2, cells, q1, q2, q3, q4, q5, q6, q8⟩, q7⟩ := Any.bytes_growSlice_row gsLays g L.n L.c n cc w (hA _ _ j1) hcc j4 h1 (by omega) (by omega) hone' fs
    obtain ⟨h0, hM⟩ := moves_new hA q8 q2
    refine ⟨e, w', fr, ⟨_, q1, _, ⟨fun k o hk => ?_, ⟨.slice (some ⟨w.heap.size, 0, none⟩) L.n cap2, L.n, cap2, some w.heap.size⟩, rfl, rfl, q5, q6, .inr ⟨w.heap.size, rfl, rfl, by show 0 < cap2; omega, ⟨⟨cells, if_pos rfl, by show cells.size = cap2 * 1; omega, ?_⟩, by show L.n ≤ cap2; omega, j5⟩⟩, w.heap.size, rfl, h0⟩, hM⟩, q7⟩
    · show (if k = w.heap.size then _ else A.blk k) = some o
      rw [if_neg fun e => (by rw [e, h0] at hk; cases hk)]
      exact hk
    · show cells.toList.take (L.n * 1) = cs
      rw [Nat.mul_one, q4, ← j3, Nat.mul_one]

end
end Go.Proofs.YthbaimobihmhiaaGreatDoor

namespace Go.Proofs.YthbaimobihmhiaaGreatDoor
open Go.Sx Go.RowKit
noncomputable section
open Classical

/-- In block w; what was put lies in the list L. -/
structure BfR (A : Arena) (w : Nat) (L : LsD) (l : List UInt8) : Prop where
  top : ∃ lr, CellsAt A w [L.v, .int .i64 0, .int .i8 lr]
  row : LsR A 1 5 L (l.map bv)
  ne : L.g ≠ some w
  nil : L.g = none → L.v = .slice none 0 0
  cap : L.c ≤ 9223372036854775807

theorem BfR.len {A : Arena} {w : Nat} {L : LsD} {l : List UInt8} (h : BfR A w L l) : L.n = l.length := by
  have := h.row.len
  rw [List.length_map] at this
  omega

def BfTo (A : Arena) (w : Nat) (L : LsD) (l : List UInt8) (A' : Arena) : Prop :=
  ∃ L', BfR A' w L' l ∧ (∀ k o, A.blk k = some o → k ≠ w → L.g ≠ some k → A'.blk k = some o) ∧ ∀ g, L'.g = some g → L.g = some g ∨ A.blk g = none

/-- There is room now; what lies in it is not known. -/
def BfRoom (A : Arena) (w : Nat) (L : LsD) (l : List UInt8) (n : Nat) (A' : Arena) : Prop :=
  ∃ (k c : Nat) (zs : List Value), (∃ lr, CellsAt A' w [.slice (some ⟨k, 0, none⟩) (l.length + n) c, .int .i64 0, .int .i8 lr]) ∧ LRow A' k 1 5 (l.length + n) c (l.map bv ++ zs) ∧ zs.length = n ∧ 0 < c ∧ c ≤ 9223372036854775807 ∧ k ≠ w ∧ (L.g = some k ∨ A.blk k = none) ∧
    ∀ k' o, A.blk k' = some o → k' ≠ w → L.g ≠ some k' → A'.blk k' = some o

theorem bv_one (l : List UInt8) : ∀ v ∈ l.map bv, v.oneCell' = true := fun v hv => by
  obtain ⟨b, _, rfl⟩ := List.mem_map.1 hv
  rfl

theorem bnd_upto {x : Int} {c k : Nat} (hx : x = k) (hk : k ≤ c) : ((decide ((0 : Int) ≤ 0) && decide ((0 : Int) ≤ x)) && (false || decide (x ≤ (c : Int)))) = true := by
  subst hx
  exact Bool.and_eq_true_iff.2 ⟨Bool.and_eq_true_iff.2 ⟨decide_eq_true (by omega), decide_eq_true (by omega)⟩, Bool.or_eq_true_iff.2 (.inr (decide_eq_true (by omega)))⟩

theorem LsR.rowAt {A : Arena} {es : Nat} {e : TypeId} {L : LsD} {cs : List Value} {k : Nat} (h : LsR A es e L cs) (hk : L.g = some k) : L.v = .slice (some ⟨k, 0, none⟩) L.n L.c ∧ 0 < L.c ∧ LRow A k es e L.n L.c cs := by
  rcases h with ⟨h1, _⟩ | ⟨g, h1, h2, h3, h4⟩
  · rw [h1] at hk; cases hk
  · rw [h1] at hk
    injection hk with hk
    subst hk
    exact ⟨h2, h3, h4⟩

/-- A row reaches farther into its room. -/
theorem LRow.wide {A : Arena} {k : Nat} {e : TypeId} {m c n : Nat} {cs : List Value} (h : LRow A k 1 e m c cs) (hn : m + n ≤ c) : ∃ zs : List Value, zs.length = n ∧ LRow A k 1 e (m + n) c (cs ++ zs) := by
  obtain ⟨⟨cc, h1, h2, h3⟩, h4, h5⟩ := h
  have hcl : cc.toList.length = c := by rw [Array.length_toList]; omega
  have hz : ((cc.toList.drop m).take n).length = n := by rw [List.length_take, List.length_drop]; omega
  refine ⟨(cc.toList.drop m).take n, hz, ⟨cc, h1, h2, ?_⟩, hn, by rw [List.length_append, hz]; omega⟩
  rw [Nat.mul_one] at h3 ⊢
  rw [List.take_add, h3]

structure BfG where
  w : Nat
  L : LsD
  l : List UInt8
  n : Nat

/-- grow, where tryGrowByReslice has failed. -/
def bfGrowS : FSpec := ⟨BfG, fun g vs A => vs = [.pointer (some ⟨g.w, 0, none⟩), .int .i64 g.n] ∧ BfR A g.w g.L g.l ∧ 1 ≤ g.n ∧ g.l.length + g.n ≤ 900000000 ∧ g.L.c < g.l.length + g.n, fun g _ A v A' => v = .int .i64 g.l.length ∧ BfRoom A g.w g.L g.l g.n A'⟩

set_option maxRecDepth 100000 in
set_option maxHeartbeats 0 in
theorem bfGrow_ok : FOk Tryz.prog 80 bfGrowS := by
  refine fok_v mixed fun ⟨w, L, l, n⟩ vs A hp => ?_
  obtain ⟨rfl, hW, hn1, hlen, hfull⟩ : vs = [.pointer (some ⟨w, 0, none⟩), .int .i64 n] ∧ BfR A w L l ∧ 1 ≤ n ∧ l.length + n ≤ 900000000 ∧ L.c < l.length + n := hp
  have hC : CTSound Tryz.prog (lookC [specE 98 growSliceS] noC) := lookC_sound (noC_sound _) (fun x hx => by
    simp only [List.mem_singleton] at hx
    subst hx
    exact specE_ok growSlice_ok)
  refine ⟨_, noL, 60, hC, noL_sound _, fun blk os out tape D hD => ?_⟩
  have hL := hW.len
  obtain ⟨lr, htop⟩ := hW.top
  have hrow := hW.row
  rcases hrow with ⟨k1, k2, k3, k4, -⟩ | ⟨g, k1, k2, k3, k5⟩
  · have hv := hW.nil k1
    rw [hv] at htop
    have r1 : A.rd w 0 1 = some [.slice none 0 0] := htop.rd (o := 0) (n := 1) (by show 0 + 1 ≤ 3; omega)
    have r2 : A.rd w 1 1 = some [.int .i64 0] := htop.rd (o := 1) (n := 1) (by show 1 + 1 ≤ 3; omega)
    conv => lhs; whnf
    repeat (first | refine go_rd r1 ?_ | refine go_rd r2 ?_ | refine go_D hD rfl ?_
            conv => lhs; whnf)
    refine split_dec (fun h => absurd h (by show ¬ ((n : Int) ≤ 0); omega)) (fun _ => ?_)
    conv => lhs; whnf
    repeat (first | refine go_rd r1 ?_ | refine go_rd r2 ?_ | refine go_D hD rfl ?_
            conv => lhs; whnf)
    refine split_dec (fun h64 => ?_) (fun h64 => ?_) <;> (conv => lhs; whnf)
    all_goals
      repeat (first | refine go_rd r1 ?_ | refine go_rd r2 ?_ | refine go_D hD rfl ?_
              conv => lhs; whnf)
    · refine (hD _).2 ⟨by omega, h64, by decide, by decide, rfl, fun gb A1 c1 hc1 hN1 => ?_⟩
      have hN1 : A.New A1 gb c1 5 := hN1
      have hroom : A1.Room w 0 1 := (htop.sub fun o ho => hN1.sub w o ho).room (by show 0 + 1 ≤ 3; omega)
      conv => lhs; whnf
      repeat (first | refine go_rd r1 ?_ | refine go_rd r2 ?_ | refine go_D hD rfl ?_
              conv => lhs; whnf)
      refine (hD _).2 ⟨hroom, fun A6 hPut => ?_⟩
      have hPut : A1.Put A6 w 0 [.slice (some ⟨gb, 0, none⟩) n 64] := hPut
      conv => lhs; whnf
      repeat (first | refine go_rd r1 ?_ | refine go_rd r2 ?_ | refine go_D hD rfl ?_
              conv => lhs; whnf)
      have hc1' : c1.toList = List.replicate 64 (.int .u8 0) := by
        rw [hc1]
        show (List.replicate 64 [Value.int .u8 0]).flatten = _
        rw [List.flatten_replicate_singleton]
      have h64' : n ≤ 64 := by
        have h64 : (n : Int) ≤ 64 := h64
        omega
      have hgw : gb ≠ w := fun e => (by
        have hd := htop.dom
        obtain ⟨o, ho⟩ := hd
        rw [← e, hN1.none_] at ho; cases ho)
      have hend : bfGrowS.post ⟨w, L, l, n⟩ [] A (.int .i64 0) A6 := by
        have hl0 : l.length = 0 := by omega
        refine ⟨congrArg (Value.int .i64) (show (0 : Int) = (l.length : Int) by omega), gb, 64, c1.toList.take n, ⟨lr, ?_⟩, ⟨⟨c1, ?_, ?_, ?_⟩, ?_, ?_⟩, ?_, by decide, by decide, hgw, .inr hN1.none_, fun k' o hk hw _ => ?_⟩
        · have h9 : CellsAt A6 w [.slice (some ⟨gb, 0, none⟩) n 64, .int .i64 0, .int .i8 lr] := (htop.sub fun o ho => hN1.sub w o ho).put hPut (by show 0 + 1 ≤ 3; omega)
          show CellsAt A6 w [.slice (some ⟨gb, 0, none⟩) (l.length + n) 64, .int .i64 0, .int .i8 lr]
          rw [hl0, Nat.zero_add]
          exact h9
        · rw [hPut.other gb hgw]
          exact hN1.at_
        · rw [← Array.length_toList, hc1', List.length_replicate]
        · show c1.toList.take ((l.length + n) * 1) = l.map bv ++ c1.toList.take n
          rw [k4, hl0, Nat.zero_add, Nat.mul_one]
          rfl
        · show l.length + n ≤ 64
          omega
        · show (l.map bv ++ c1.toList.take n).length = (l.length + n) * 1
          rw [k4, List.nil_append, List.length_take, hc1', List.length_replicate]
          omega
        · show (c1.toList.take n).length = n
          rw [List.length_take, hc1', List.length_replicate]
          omega
        · rw [hPut.other k' hw]
          exact hN1.sub k' o hk
      exact (hD _).2 hend
    · have e2 : IntKind.i64.wrap (IntKind.i64.wrap ((0 : Int).tdiv 2) - IntKind.i64.wrap ((0 : Int) - 0)) = 0 := by decide +kernel
      refine split_dec (fun h => absurd h (by
        intro h
        have h : (n : Int) ≤ IntKind.i64.wrap (IntKind.i64.wrap ((0 : Int).tdiv 2) - IntKind.i64.wrap ((0 : Int) - 0)) := h
        rw [e2] at h
        omega)) (fun _ => ?_)
      conv => lhs; whnf
      repeat (first | refine go_rd r1 ?_ | refine go_rd r2 ?_ | refine go_D hD rfl ?_
              conv => lhs; whnf)
      have e3 : IntKind.i64.wrap (IntKind.i64.wrap ((9223372036854775807 : Int) - 0) - (n : Int)) = 9223372036854775807 - (n : Int) := by
        rw [i64_in (n := (9223372036854775807 : Int) - 0) (by omega) (by omega), i64_in (by omega) (by omega)]
        omega
      refine split_dec (fun h => absurd h (by
        intro h
        have h : IntKind.i64.wrap (IntKind.i64.wrap ((9223372036854775807 : Int) - 0) - (n : Int)) < 0 := h
        rw [e3] at h
        omega)) (fun _ => ?_)
      conv => lhs; whnf
      repeat (first | refine go_rd r1 ?_ | refine go_rd r2 ?_ | refine go_D hD rfl ?_
              conv => lhs; whnf)
      have e4 : IntKind.i64.wrap ((0 : Int) + (n : Int)) = (n : Int) := by rw [Int.zero_add]; exact i64_in (by omega) (by omega)
      have e6 : IntKind.i64.wrap (IntKind.i64.wrap ((0 : Int) - 0) + (n : Int)) = ((L.n + n : Nat) : Int) := by
        have e7 : IntKind.i64.wrap ((0 : Int) - 0) = 0 := by decide +kernel
        rw [e7, i64_in (by omega) (by omega)]
        omega
      have harg : [Value.slice none 0 0, .int .i64 (IntKind.i64.wrap ((0 : Int) + (n : Int)))] = [L.v, .int .i64 (n : Int)] := by rw [hv, e4]
      refine (hD _).2 ⟨(⟨L, l.map bv, n⟩ : GsG), ⟨harg, hW.row, hn1, by show L.c ≤ 140737488355328; omega, by show L.n + n ≤ 1000000000; omega, bv_one l, hW.nil⟩, fun v A1 hq => ?_⟩
      obtain ⟨s1, ⟨v', n', c', g'⟩, hv', hn', hc', hcm, hR, kb, hkb, hkA⟩ : A.Sub A1 ∧ ∃ L' : LsD, v = L'.v ∧ L'.n = L.n ∧ L.n + n ≤ L'.c ∧ L'.c ≤ 9223372036854775807 ∧ LsR A1 1 5 L' (l.map bv) ∧ ∃ k, L'.g = some k ∧ A.blk k = none := hq
      have hf := hR.rowAt hkb
      obtain ⟨z2, z3, z4⟩ := hf
      have hn' : n' = L.n := hn'
      have z2 : v' = .slice (some ⟨kb, 0, none⟩) n' c' := z2
      have hv' : v = v' := hv'
      subst hn'; subst hv'; subst z2
      have hc' : L.n + n ≤ c' := hc'
      have hkw : kb ≠ w := fun e => (by
        have hd := htop.dom
        obtain ⟨o, ho⟩ := hd
        rw [← e, hkA] at ho; cases ho)
      have ht1 := htop.sub fun o ho => s1 w o ho
      have hroom : A1.Room w 0 1 := ht1.room (by show 0 + 1 ≤ 3; omega)
      conv => lhs; whnf
      repeat (first | refine go_rd r1 ?_ | refine go_rd r2 ?_ | refine go_D hD rfl ?_
              conv => lhs; whnf)
      refine (hD _).2 ⟨hroom, fun A2 hP2 => ?_⟩
      conv => lhs; whnf
      repeat (first | refine go_rd r1 ?_ | refine go_rd r2 ?_ | refine go_D hD rfl ?_
              conv => lhs; whnf)
      have hP2 : A1.Put A2 w 0 [.slice (some ⟨kb, 0, none⟩) L.n c'] := hP2
      have ht2 : CellsAt A2 w [.slice (some ⟨kb, 0, none⟩) L.n c', .int .i64 0, .int .i8 lr] := ht1.put hP2 (by show 0 + 1 ≤ 3; omega)
      refine (hD _).2 ⟨ht2.room (by show 1 + 1 ≤ 3; omega), fun A3 hP3 => ?_⟩
      have hP3 : A2.Put A3 w 1 [.int .i64 0] := hP3
      have ht3 : CellsAt A3 w [.slice (some ⟨kb, 0, none⟩) L.n c', .int .i64 0, .int .i8 lr] := ht2.put hP3 (by show 1 + 1 ≤ 3; omega)
      have r3 : A3.rd w 0 1 = some [.slice (some ⟨kb, 0, none⟩) L.n c'] := ht3.rd (o := 0) (n := 1) (by show 0 + 1 ≤ 3; omega)
      conv => lhs; whnf
      repeat (first | refine go_rd r3 ?_ | refine go_D hD rfl ?_
              conv => lhs; whnf)
      refine go_b (bnd_upto e6 hc') ?_
      conv => lhs; whnf
      repeat (first | refine go_rd r3 ?_ | refine go_D hD rfl ?_
              conv => lhs; whnf)
      refine (hD _).2 ⟨ht3.room (by show 0 + 1 ≤ 3; omega), fun A4 hP4 => ?_⟩
      have hP4 : A3.Put A4 w 0 [.slice (some ⟨kb, 0 + (bif c'.beq (Int.toNat 0) then 0 else Int.toNat 0 * 1), none⟩) ((IntKind.i64.wrap (IntKind.i64.wrap ((0 : Int) - 0) + (n : Int))).toNat - Int.toNat 0) (c' - Int.toNat 0)] := hP4
      have e8 : (bif c'.beq (Int.toNat 0) then 0 else Int.toNat 0 * 1) = 0 := by cases c'.beq (Int.toNat 0) <;> rfl
      rw [e6, e8] at hP4
      have hP4 : A3.Put A4 w 0 [.slice (some ⟨kb, 0, none⟩) (L.n + n) c'] := hP4
      have ht4 : CellsAt A4 w [.slice (some ⟨kb, 0, none⟩) (L.n + n) c', .int .i64 0, .int .i8 lr] := ht3.put hP4 (by show 0 + 1 ≤ 3; omega)
      have hoth : ∀ k, k ≠ w → A4.blk k = A1.blk k := fun k hk => by rw [hP4.other k hk, hP3.other k hk, hP2.other k hk]
      have z4 : LRow A1 kb 1 5 L.n c' (l.map bv) := z4
      have hwide := z4.wide hc'
      obtain ⟨zs, hz, hrow9⟩ := hwide
      rw [hL] at ht4 hrow9
      have hend : bfGrowS.post ⟨w, L, l, n⟩ [] A (.int .i64 (IntKind.i64.wrap ((0 : Int) - 0))) A4 := by
        refine ⟨congrArg (Value.int .i64) (by rw [show IntKind.i64.wrap ((0 : Int) - 0) = 0 by decide +kernel]; show (0 : Int) = (l.length : Int); omega), kb, c', zs, ⟨lr, ht4⟩, hrow9.keep (hoth kb hkw), hz, z3, hcm, hkw, .inr hkA, fun k' o hk hw _ => ?_⟩
        rw [hoth k' hw]
        exact s1 k' o hk
      conv => lhs; whnf
      repeat (first | refine go_D hD rfl ?_
              conv => lhs; whnf)
      exact (hD _).2 hend
  · rw [k2] at htop
    have r1 : A.rd w 0 1 = some [.slice (some ⟨g, 0, none⟩) L.n L.c] := htop.rd (o := 0) (n := 1) (by show 0 + 1 ≤ 3; omega)
    have r2 : A.rd w 1 1 = some [.int .i64 0] := htop.rd (o := 1) (n := 1) (by show 1 + 1 ≤ 3; omega)
    conv => lhs; whnf
    repeat (first | refine go_rd r1 ?_ | refine go_rd r2 ?_ | refine go_D hD rfl ?_
            conv => lhs; whnf)
    have hcp := hW.cap
    have e0 : IntKind.i64.wrap ((L.n : Int) - 0) = (L.n : Int) := i64_in (by omega) (by omega)
    have e1 : IntKind.i64.wrap ((L.c : Int) - (L.n : Int)) = (L.c : Int) - (L.n : Int) := i64_in (by omega) (by omega)
    have e2 : IntKind.i64.wrap (IntKind.i64.wrap ((L.c : Int).tdiv 2) - IntKind.i64.wrap ((L.n : Int) - 0)) = ((L.c / 2 : Nat) : Int) - (L.n : Int) := by
      rw [e0, Int.tdiv_eq_ediv_of_nonneg (by omega), i64_in (n := (L.c : Int) / 2) (by omega) (by omega), i64_in (by omega) (by omega)]
      omega
    have e3 : IntKind.i64.wrap (IntKind.i64.wrap ((9223372036854775807 : Int) - (L.c : Int)) - (n : Int)) = 9223372036854775807 - (L.c : Int) - (n : Int) := by
      rw [i64_in (n := (9223372036854775807 : Int) - (L.c : Int)) (by omega) (by omega), i64_in (by omega) (by omega)]
    have e4 : IntKind.i64.wrap ((0 : Int) + (n : Int)) = (n : Int) := by rw [Int.zero_add]; exact i64_in (by omega) (by omega)
    have harg : [Value.slice (some ⟨g, 0 + (bif L.c.beq (Int.toNat 0) then 0 else Int.toNat 0 * 1), none⟩) ((L.n : Int).toNat - Int.toNat 0) (L.c - Int.toNat 0), .int .i64 (IntKind.i64.wrap ((0 : Int) + (n : Int)))] = [L.v, .int .i64 (n : Int)] := by
      have e5 : (bif L.c.beq (Int.toNat 0) then 0 else Int.toNat 0 * 1) = 0 := by cases L.c.beq (Int.toNat 0) <;> rfl
      rw [e4, k2, e5]
      rfl
    have e6 : IntKind.i64.wrap (IntKind.i64.wrap ((L.n : Int) - 0) + (n : Int)) = ((L.n + n : Nat) : Int) := by
      rw [e0, i64_in (by omega) (by omega)]
      omega
    refine split_dec (fun h0 => ?_) (fun h0 => ?_) <;> (conv => lhs; whnf)
    all_goals
      repeat (first | refine go_rd r1 ?_ | refine go_rd r2 ?_ | refine go_D hD rfl ?_
              conv => lhs; whnf)
      refine split_dec (fun h => absurd h (by rw [e1]; omega)) (fun _ => ?_)
      conv => lhs; whnf
      repeat (first | refine go_rd r1 ?_ | refine go_rd r2 ?_ | refine go_D hD rfl ?_
              conv => lhs; whnf)
      refine split_dec (fun h => absurd h (by rw [e2]; omega)) (fun _ => ?_)
      conv => lhs; whnf
      repeat (first | refine go_rd r1 ?_ | refine go_rd r2 ?_ | refine go_D hD rfl ?_
              conv => lhs; whnf)
    all_goals
      refine split_dec (fun h => absurd h (by rw [e3]; omega)) (fun _ => ?_)
      conv => lhs; whnf
      repeat (first | refine go_rd r1 ?_ | refine go_rd r2 ?_ | refine go_D hD rfl ?_
              conv => lhs; whnf)
    all_goals
      refine (hD _).2 ⟨(⟨L, l.map bv, n⟩ : GsG), ⟨harg, hW.row, hn1, by show L.c ≤ 140737488355328; omega, by show L.n + n ≤ 1000000000; omega, bv_one l, hW.nil⟩, fun v A1 hq => ?_⟩
      obtain ⟨s1, ⟨v', n', c', g'⟩, hv', hn', hc', hcm, hR, kb, hkb, hkA⟩ : A.Sub A1 ∧ ∃ L' : LsD, v = L'.v ∧ L'.n = L.n ∧ L.n + n ≤ L'.c ∧ L'.c ≤ 9223372036854775807 ∧ LsR A1 1 5 L' (l.map bv) ∧ ∃ k, L'.g = some k ∧ A.blk k = none := hq
      have hf := hR.rowAt hkb
      obtain ⟨z2, z3, z4⟩ := hf
      have hn' : n' = L.n := hn'
      have z2 : v' = .slice (some ⟨kb, 0, none⟩) n' c' := z2
      have hv' : v = v' := hv'
      subst hn'; subst hv'; subst z2
      have hc' : L.n + n ≤ c' := hc'
      have hkw : kb ≠ w := fun e => (by
        have hd := htop.dom
        obtain ⟨o, ho⟩ := hd
        rw [← e, hkA] at ho; cases ho)
      have ht1 := htop.sub fun o ho => s1 w o ho
      have hroom : A1.Room w 0 1 := ht1.room (by show 0 + 1 ≤ 3; omega)
      conv => lhs; whnf
      repeat (first | refine go_rd r1 ?_ | refine go_rd r2 ?_ | refine go_D hD rfl ?_
              conv => lhs; whnf)
      refine (hD _).2 ⟨hroom, fun A2 hP2 => ?_⟩
      conv => lhs; whnf
      repeat (first | refine go_rd r1 ?_ | refine go_rd r2 ?_ | refine go_D hD rfl ?_
              conv => lhs; whnf)
      have hP2 : A1.Put A2 w 0 [.slice (some ⟨kb, 0, none⟩) L.n c'] := hP2
      have ht2 : CellsAt A2 w [.slice (some ⟨kb, 0, none⟩) L.n c', .int .i64 0, .int .i8 lr] := ht1.put hP2 (by show 0 + 1 ≤ 3; omega)
      refine (hD _).2 ⟨ht2.room (by show 1 + 1 ≤ 3; omega), fun A3 hP3 => ?_⟩
      have hP3 : A2.Put A3 w 1 [.int .i64 0] := hP3
      have ht3 : CellsAt A3 w [.slice (some ⟨kb, 0, none⟩) L.n c', .int .i64 0, .int .i8 lr] := ht2.put hP3 (by show 1 + 1 ≤ 3; omega)
      have r3 : A3.rd w 0 1 = some [.slice (some ⟨kb, 0, none⟩) L.n c'] := ht3.rd (o := 0) (n := 1) (by show 0 + 1 ≤ 3; omega)
      conv => lhs; whnf
      repeat (first | refine go_rd r3 ?_ | refine go_D hD rfl ?_
              conv => lhs; whnf)
      refine go_b (bnd_upto e6 hc') ?_
      conv => lhs; whnf
      repeat (first | refine go_rd r3 ?_ | refine go_D hD rfl ?_
              conv => lhs; whnf)
      refine (hD _).2 ⟨ht3.room (by show 0 + 1 ≤ 3; omega), fun A4 hP4 => ?_⟩
      have hP4 : A3.Put A4 w 0 [.slice (some ⟨kb, 0 + (bif c'.beq (Int.toNat 0) then 0 else Int.toNat 0 * 1), none⟩) ((IntKind.i64.wrap (IntKind.i64.wrap ((L.n : Int) - 0) + (n : Int))).toNat - Int.toNat 0) (c' - Int.toNat 0)] := hP4
      have e8 : (bif c'.beq (Int.toNat 0) then 0 else Int.toNat 0 * 1) = 0 := by cases c'.beq (Int.toNat 0) <;> rfl
      rw [e6, e8] at hP4
      have hP4 : A3.Put A4 w 0 [.slice (some ⟨kb, 0, none⟩) (L.n + n) c'] := hP4
      have ht4 : CellsAt A4 w [.slice (some ⟨kb, 0, none⟩) (L.n + n) c', .int .i64 0, .int .i8 lr] := ht3.put hP4 (by show 0 + 1 ≤ 3; omega)
      have hoth : ∀ k, k ≠ w → A4.blk k = A1.blk k := fun k hk => by rw [hP4.other k hk, hP3.other k hk, hP2.other k hk]
      have z4 : LRow A1 kb 1 5 L.n c' (l.map bv) := z4
      have hwide := z4.wide hc'
      obtain ⟨zs, hz, hrow9⟩ := hwide
      rw [hL] at ht4 hrow9
      have hend : bfGrowS.post ⟨w, L, l, n⟩ [] A (.int .i64 (IntKind.i64.wrap ((L.n : Int) - 0))) A4 := by
        refine ⟨congrArg (Value.int .i64) (by rw [e0, hL]), kb, c', zs, ⟨lr, ht4⟩, hrow9.keep (hoth kb hkw), hz, z3, hcm, hkw, .inr hkA, fun k' o hk hw _ => ?_⟩
        rw [hoth k' hw]
        exact s1 k' o hk
      conv => lhs; whnf
      repeat (first | refine go_D hD rfl ?_
              conv => lhs; whnf)
      exact (hD _).2 hend

end
end Go.Proofs.YthbaimobihmhiaaGreatDoor

namespace Go.Proofs.YthbaimobihmhiaaGreatDoor
open Go.Sx Go.RowKit
noncomputable section
open Classical

/-- What lies in the room is written over. -/
theorem LRow.refill {A A' : Arena} {g : Nat} {e : TypeId} {m c n : Nat} {cs zs ys : List Value} (h : LRow A g 1 e (m + n) c (cs ++ zs)) (hc : cs.length = m) (hz : zs.length = n) (hy : ys.length = n) (hP : A.Put A' g m ys) : LRow A' g 1 e (m + n) c (cs ++ ys) := by
  obtain ⟨⟨cc, h1, h2, h3⟩, h4, h5⟩ := h
  obtain ⟨c0, t0, fz0, c', k1, k2, k3⟩ := hP.at_
  rw [h1] at k1
  injection k1 with k1
  injection k1 with k1 k1' k1''
  subst k1; subst k1'; subst k1''
  have hcl : cc.toList.length = c := by rw [Array.length_toList]; omega
  have hm : cc.toList.take m = cs := by
    have h9 := congrArg (List.take m) h3
    rw [List.take_take, Nat.min_eq_left (by omega), List.take_append_of_le_length (by omega), List.take_of_length_le (l := cs) (by omega)] at h9
    exact h9
  refine ⟨⟨c', k2, ?_, ?_⟩, h4, by rw [List.length_append]; omega⟩
  · rw [← Array.length_toList, k3]
    simp only [List.length_append, List.length_take, List.length_drop, hcl, hy]
    omega
  · rw [k3, hm, Nat.mul_one, List.take_append_of_le_length (by rw [List.length_append]; omega), List.take_of_length_le (by rw [List.length_append]; omega)]

/-- The room is filled. -/
theorem bf_fill {A A1 A2 : Arena} {w n k c : Nat} {L : LsD} {l ys : List UInt8} {zs : List Value} {lr : Int} (ht : CellsAt A1 w [.slice (some ⟨k, 0, none⟩) (l.length + n) c, .int .i64 0, .int .i8 lr]) (hr : LRow A1 k 1 5 (l.length + n) c (l.map bv ++ zs)) (hz : zs.length = n) (hc0 : 0 < c) (hcm : c ≤ 9223372036854775807) (hkw : k ≠ w)
    (hg : L.g = some k ∨ A.blk k = none) (hk : ∀ k' o, A.blk k' = some o → k' ≠ w → L.g ≠ some k' → A1.blk k' = some o) (hP : A1.Put A2 k l.length (ys.map bv)) (hy : ys.length = n) : BfTo A w L (l ++ ys) A2 := by
  have hrow := hr.refill (by rw [List.length_map]) hz (by rw [List.length_map]; exact hy) hP
  refine ⟨⟨.slice (some ⟨k, 0, none⟩) (l.length + n) c, l.length + n, c, some k⟩, ⟨⟨lr, ht.sub fun o ho => by rw [hP.other w hkw.symm]; exact ho⟩, .inr ⟨k, rfl, rfl, hc0, ?_⟩, fun e => hkw (Option.some.inj e), fun e => (by cases e), hcm⟩, fun k' o hk' hw hL => ?_, fun g hg' => ?_⟩
  · rw [List.map_append]
    exact hrow
  · rw [hP.other k' fun e => ?_]
    · exact hk k' o hk' hw hL
    · subst e
      rcases hg with h | h
      · exact hL h
      · rw [h] at hk'; cases hk'
  · have hg' : some k = some g := hg'
    injection hg' with hg'
    subst hg'
    exact hg

/-- The cell that tells what was read last. -/
theorem BfR.put2 {A A1 : Arena} {w : Nat} {L : LsD} {l : List UInt8} {x : Int} (h : BfR A w L l) (hP : A.Put A1 w 2 [.int .i8 x]) : BfR A1 w L l := by
  obtain ⟨lr, ht⟩ := h.top
  refine ⟨⟨x, ht.put hP (by show 2 + 1 ≤ 3; omega)⟩, h.row.keep fun g o hg ho => ?_, h.ne, h.nil, h.cap⟩
  rw [hP.other g fun e => h.ne (by rw [← e]; exact hg)]
  exact ho

theorem BfTo.ahead {A A1 A2 : Arena} {w : Nat} {L : LsD} {l : List UInt8} {o : Nat} {vs : List Value} (hP : A.Put A1 w o vs) (h : BfTo A1 w L l A2) : BfTo A w L l A2 := by
  obtain ⟨L', h1, h2, h3⟩ := h
  refine ⟨L', h1, fun k ob hk hw hL => h2 k ob (by rw [hP.other k hw]; exact hk) hw hL, fun g hg => ?_⟩
  rcases h3 g hg with h | h
  · exact .inl h
  · by_cases e : g = w
    · exact absurd (e ▸ hg) h1.ne
    · rw [hP.other g e] at h
      exact .inr h

structure BbG where
  w : Nat
  L : LsD
  l : List UInt8
  b : UInt8

def bfByteS : FSpec := ⟨BbG, fun g vs A => vs = [.pointer (some ⟨g.w, 0, none⟩), .int .u8 g.b.toNat] ∧ BfR A g.w g.L g.l ∧ g.l.length ≤ 890000000, fun g _ A v A' => v = .nilIface ∧ BfTo A g.w g.L (g.l ++ [g.b]) A'⟩

set_option maxRecDepth 100000 in
set_option maxHeartbeats 0 in
theorem bfByte_ok : FOk Tryz.prog 60 bfByteS := by
  refine fok_v mixed fun ⟨w, L, l, b⟩ vs A hp => ?_
  obtain ⟨rfl, hW, hlen⟩ : vs = [.pointer (some ⟨w, 0, none⟩), .int .u8 b.toNat] ∧ BfR A w L l ∧ l.length ≤ 890000000 := hp
  have hC : CTSound Tryz.prog (lookC [specE 80 bfGrowS] noC) := lookC_sound (noC_sound _) (fun x hx => by
    simp only [List.mem_singleton] at hx
    subst hx
    exact specE_ok bfGrow_ok)
  refine ⟨_, noL, 60, hC, noL_sound _, fun blk os out tape D hD => ?_⟩
  have hL := hW.len
  have hcp := hW.cap
  obtain ⟨lr, htop⟩ := hW.top
  have hroom : A.Room w 2 1 := htop.room (by show 2 + 1 ≤ 3; omega)
  conv => lhs; whnf
  repeat (first | refine go_D hD rfl ?_
          conv => lhs; whnf)
  refine (hD _).2 ⟨hroom, fun A1 hP1 => ?_⟩
  have hP1 : A.Put A1 w 2 [.int .i8 0] := hP1
  have hW1 := hW.put2 hP1
  have ht1 : CellsAt A1 w [L.v, .int .i64 0, .int .i8 0] := htop.put hP1 (by show 2 + 1 ≤ 3; omega)
  have hrow := hW.row
  rcases hrow with ⟨k1, k2, k3, k4, -⟩ | ⟨g, k1, k2, k3, k5⟩
  · rw [hW.nil k1] at ht1
    have r1 : A1.rd w 0 1 = some [.slice none 0 0] := ht1.rd (o := 0) (n := 1) (by show 0 + 1 ≤ 3; omega)
    conv => lhs; whnf
    repeat (first | refine go_rd r1 ?_ | refine go_D hD rfl ?_
            conv => lhs; whnf)
    refine (hD _).2 ⟨(⟨w, L, l, 1⟩ : BfG), ⟨rfl, hW1, Nat.le_refl _, by show l.length + 1 ≤ 900000000; omega, by show L.c < l.length + 1; omega⟩, fun v A2 hq => ?_⟩
    obtain ⟨hv, kb, c, zs, ⟨lr2, ht2⟩, hr2, hz, hc0, hcm, hkw, hg, hk2⟩ : v = .int .i64 l.length ∧ BfRoom A1 w L l 1 A2 := hq
    subst hv
    have r2 : A2.rd w 0 1 = some [.slice (some ⟨kb, 0, none⟩) (l.length + 1) c] := ht2.rd (o := 0) (n := 1) (by show 0 + 1 ≤ 3; omega)
    have i0 : (0 : Int) ≤ (l.length : Int) ∧ (l.length : Int) < ((l.length + 1 : Nat) : Int) := by omega
    conv => lhs; whnf
    repeat (first | refine go_in i0 ?_ | refine go_rd r2 ?_ | refine go_D hD rfl ?_
            conv => lhs; whnf)
    refine (hD _).2 ⟨hr2.room (by show 0 + l.length * 1 + 1 ≤ c * 1; have := hr2.le; omega), fun A3 hP3 => ?_⟩
    have hP3 : A2.Put A3 kb (0 + l.length * 1) [.int .u8 b.toNat] := hP3
    rw [Nat.mul_one, Nat.zero_add] at hP3
    have hfin := (bf_fill (ys := [b]) ht2 hr2 hz hc0 hcm hkw hg hk2 hP3 rfl).ahead hP1
    have hend : bfByteS.post ⟨w, L, l, b⟩ [] A .nilIface A3 := ⟨rfl, hfin⟩
    conv => lhs; whnf
    repeat (first | refine go_D hD rfl ?_
            conv => lhs; whnf)
    exact (hD _).2 hend
  · rw [k2] at ht1
    have r1 : A1.rd w 0 1 = some [.slice (some ⟨g, 0, none⟩) L.n L.c] := ht1.rd (o := 0) (n := 1) (by show 0 + 1 ≤ 3; omega)
    conv => lhs; whnf
    repeat (first | refine go_rd r1 ?_ | refine go_D hD rfl ?_
            conv => lhs; whnf)
    have e1 : IntKind.i64.wrap ((L.c : Int) - (L.n : Int)) = (L.c : Int) - (L.n : Int) := i64_in (by omega) (by omega)
    refine split_dec (fun h1 => ?_) (fun h1 => ?_)
    · rw [e1] at h1
      conv => lhs; whnf
      repeat (first | refine go_rd r1 ?_ | refine go_D hD rfl ?_
              conv => lhs; whnf)
      have hle : L.n + 1 ≤ L.c := by omega
      have e6 : IntKind.i64.wrap ((L.n : Int) + 1) = ((L.n + 1 : Nat) : Int) := by
        rw [i64_in (by omega) (by omega)]
        omega
      refine go_b (bnd_upto e6 hle) ?_
      conv => lhs; whnf
      repeat (first | refine go_rd r1 ?_ | refine go_D hD rfl ?_
              conv => lhs; whnf)
      refine (hD _).2 ⟨ht1.room (by show 0 + 1 ≤ 3; omega), fun A2 hP2 => ?_⟩
      have hP2 : A1.Put A2 w 0 [.slice (some ⟨g, 0 + (bif L.c.beq (Int.toNat 0) then 0 else Int.toNat 0 * 1), none⟩) ((IntKind.i64.wrap ((L.n : Int) + 1)).toNat - Int.toNat 0) (L.c - Int.toNat 0)] := hP2
      have e8 : (bif L.c.beq (Int.toNat 0) then 0 else Int.toNat 0 * 1) = 0 := by cases L.c.beq (Int.toNat 0) <;> rfl
      rw [e6, e8] at hP2
      have hP2 : A1.Put A2 w 0 [.slice (some ⟨g, 0, none⟩) (L.n + 1) L.c] := hP2
      have ht2 : CellsAt A2 w [.slice (some ⟨g, 0, none⟩) (L.n + 1) L.c, .int .i64 0, .int .i8 0] := ht1.put hP2 (by show 0 + 1 ≤ 3; omega)
      have hgw : g ≠ w := fun e => hW.ne (by rw [k1, e])
      have hr1 : LRow A2 g 1 5 L.n L.c (l.map bv) := k5.keep (by rw [hP2.other g hgw, hP1.other g hgw])
      have hwide := hr1.wide hle
      obtain ⟨zs, hz, hr2⟩ := hwide
      have r2 : A2.rd w 0 1 = some [.slice (some ⟨g, 0, none⟩) (L.n + 1) L.c] := ht2.rd (o := 0) (n := 1) (by show 0 + 1 ≤ 3; omega)
      have i0 : (0 : Int) ≤ (L.n : Int) ∧ (L.n : Int) < ((L.n + 1 : Nat) : Int) := by omega
      conv => lhs; whnf
      repeat (first | refine go_in i0 ?_ | refine go_rd r2 ?_ | refine go_D hD rfl ?_
              conv => lhs; whnf)
      refine (hD _).2 ⟨hr2.room (by show 0 + L.n * 1 + 1 ≤ L.c * 1; omega), fun A3 hP3 => ?_⟩
      have hP3 : A2.Put A3 g (0 + L.n * 1) [.int .u8 b.toNat] := hP3
      rw [Nat.mul_one, Nat.zero_add, hL] at hP3
      rw [hL] at ht2 hr2
      have hk2 : ∀ k' o, A1.blk k' = some o → k' ≠ w → L.g ≠ some k' → A2.blk k' = some o := fun k' o hk hw _ => by
        rw [hP2.other k' hw]
        exact hk
      have hfin := (bf_fill (ys := [b]) ht2 hr2 hz k3 hcp hgw (.inl k1) hk2 hP3 rfl).ahead hP1
      have hend : bfByteS.post ⟨w, L, l, b⟩ [] A .nilIface A3 := ⟨rfl, hfin⟩
      conv => lhs; whnf
      repeat (first | refine go_D hD rfl ?_
              conv => lhs; whnf)
      exact (hD _).2 hend
    · rw [e1] at h1
      conv => lhs; whnf
      repeat (first | refine go_rd r1 ?_ | refine go_D hD rfl ?_
              conv => lhs; whnf)
      refine (hD _).2 ⟨(⟨w, L, l, 1⟩ : BfG), ⟨rfl, hW1, Nat.le_refl _, by show l.length + 1 ≤ 900000000; omega, by show L.c < l.length + 1; omega⟩, fun v A2 hq => ?_⟩
      obtain ⟨hv, kb, c, zs, ⟨lr2, ht2⟩, hr2, hz, hc0, hcm, hkw, hg, hk2⟩ : v = .int .i64 l.length ∧ BfRoom A1 w L l 1 A2 := hq
      subst hv
      have r2 : A2.rd w 0 1 = some [.slice (some ⟨kb, 0, none⟩) (l.length + 1) c] := ht2.rd (o := 0) (n := 1) (by show 0 + 1 ≤ 3; omega)
      have i0 : (0 : Int) ≤ (l.length : Int) ∧ (l.length : Int) < ((l.length + 1 : Nat) : Int) := by omega
      conv => lhs; whnf
      repeat (first | refine go_in i0 ?_ | refine go_rd r2 ?_ | refine go_D hD rfl ?_
              conv => lhs; whnf)
      refine (hD _).2 ⟨hr2.room (by show 0 + l.length * 1 + 1 ≤ c * 1; have := hr2.le; omega), fun A3 hP3 => ?_⟩
      have hP3 : A2.Put A3 kb (0 + l.length * 1) [.int .u8 b.toNat] := hP3
      rw [Nat.mul_one, Nat.zero_add] at hP3
      have hfin := (bf_fill (ys := [b]) ht2 hr2 hz hc0 hcm hkw hg hk2 hP3 rfl).ahead hP1
      have hend : bfByteS.post ⟨w, L, l, b⟩ [] A .nilIface A3 := ⟨rfl, hfin⟩
      conv => lhs; whnf
      repeat (first | refine go_D hD rfl ?_
              conv => lhs; whnf)
      exact (hD _).2 hend

end
end Go.Proofs.YthbaimobihmhiaaGreatDoor

namespace Go.Proofs.YthbaimobihmhiaaGreatDoor
open Go.Sx Go.RowKit
noncomputable section
open Classical

theorem bnd_down {x : Int} {c k : Nat} {t : Bool} (hx : x = k) (hk : k ≤ c) : ((decide ((0 : Int) ≤ x) && decide (x ≤ (c : Int))) && (true || t)) = true := by
  subst hx
  exact Bool.and_eq_true_iff.2 ⟨Bool.and_eq_true_iff.2 ⟨decide_eq_true (by omega), decide_eq_true (by omega)⟩, rfl⟩

theorem beq_ne {a b : Nat} (h : a ≠ b) : a.beq b = false := by
  cases e : a.beq b with
  | false => rfl
  | true => exact absurd (Nat.eq_of_beq_eq_true e) h

theorem src_str {h : HS} {s : List UInt8} {n : Nat} (hn : n = s.length) : srcA h 1 n (.v (.string ⟨s.toArray⟩)) = some (s.map bv) := by
  show (if 1 = 1 ∧ n = s.length then some (s.map fun b => Value.int .u8 b.toNat) else none) = some (s.map bv)
  rw [if_pos ⟨rfl, hn⟩]
  rfl

theorem put_nil {A A' : Arena} {g o : Nat} (h : A.Put A' g o []) (k : Nat) : A'.blk k = A.blk k := by
  by_cases e : k = g
  · subst e
    obtain ⟨c, t, fz, c', k1, k2, k3⟩ := h.at_
    have : c' = c := Array.toList_inj.1 (by rw [k3]; simp)
    rw [k2, k1, this]
  · exact h.other k e

structure BsG where
  w : Nat
  L : LsD
  l : List UInt8
  s : List UInt8

def bfStrS : FSpec := ⟨BsG, fun g vs A => vs = [.pointer (some ⟨g.w, 0, none⟩), .string ⟨g.s.toArray⟩] ∧ BfR A g.w g.L g.l ∧ g.l.length + g.s.length ≤ 890000000, fun g _ A v A' => v = .tuple #[.int .i64 g.s.length, .nilIface] ∧ BfTo A g.w g.L (g.l ++ g.s) A'⟩

set_option maxRecDepth 100000 in
set_option maxHeartbeats 0 in
theorem bfStr_ok : FOk Tryz.prog 61 bfStrS := by
  refine fok_v mixed fun ⟨w, L, l, s⟩ vs A hp => ?_
  obtain ⟨rfl, hW, hlen⟩ : vs = [.pointer (some ⟨w, 0, none⟩), .string ⟨s.toArray⟩] ∧ BfR A w L l ∧ l.length + s.length ≤ 890000000 := hp
  have hC : CTSound Tryz.prog (lookC [specE 80 bfGrowS] noC) := lookC_sound (noC_sound _) (fun x hx => by
    simp only [List.mem_singleton] at hx
    subst hx
    exact specE_ok bfGrow_ok)
  refine ⟨_, noL, 60, hC, noL_sound _, fun blk os out tape D hD => ?_⟩
  have hL := hW.len
  have hcp := hW.cap
  obtain ⟨lr, htop⟩ := hW.top
  have hroom : A.Room w 2 1 := htop.room (by show 2 + 1 ≤ 3; omega)
  conv => lhs; whnf
  repeat (first | refine go_D hD rfl ?_
          conv => lhs; whnf)
  refine (hD _).2 ⟨hroom, fun A1 hP1 => ?_⟩
  have hP1 : A.Put A1 w 2 [.int .i8 0] := hP1
  have hW1 := hW.put2 hP1
  have ht1 : CellsAt A1 w [L.v, .int .i64 0, .int .i8 0] := htop.put hP1 (by show 2 + 1 ≤ 3; omega)
  have hrow := hW.row
  by_cases hs0 : s = []
  · subst hs0
    rcases hrow with ⟨k1, k2, k3, k4, -⟩ | ⟨g, k1, k2, k3, k5⟩
    · have hnil := hW.nil k1
      rw [hnil] at ht1
      have r1 : A1.rd w 0 1 = some [.slice none 0 0] := ht1.rd (o := 0) (n := 1) (by show 0 + 1 ≤ 3; omega)
      conv => lhs; whnf
      repeat (first | refine go_rd r1 ?_ | refine go_D hD rfl ?_
              conv => lhs; whnf)
      refine (hD _).2 ⟨ht1.room (by show 0 + 1 ≤ 3; omega), fun A2 hP2 => ?_⟩
      have hP2 : A1.Put A2 w 0 [.slice none 0 0] := hP2
      have ht2 : CellsAt A2 w [.slice none 0 0, .int .i64 0, .int .i8 0] := ht1.put hP2 (by show 0 + 1 ≤ 3; omega)
      have r2 : A2.rd w 0 1 = some [.slice none 0 0] := ht2.rd (o := 0) (n := 1) (by show 0 + 1 ≤ 3; omega)
      have hW2 : BfR A2 w L (l ++ []) := by
        rw [List.append_nil]
        exact ⟨⟨0, by rw [hnil]; exact ht2⟩, hW.row.keep fun g o hg _ => (by rw [k1] at hg; cases hg), hW.ne, hW.nil, hW.cap⟩
      have hfin : BfTo A w L (l ++ []) A2 := ⟨L, hW2, fun k o hk hw _ => by rw [hP2.other k hw, hP1.other k hw]; exact hk, fun g hg => .inl hg⟩
      have hend : bfStrS.post ⟨w, L, l, []⟩ [] A (.tuple #[.int .i64 0, .nilIface]) A2 := ⟨rfl, hfin⟩
      conv => lhs; whnf
      repeat (first | refine go_rd r2 ?_ | refine go_D hD rfl ?_
              conv => lhs; whnf)
      exact (hD _).2 hend
    · rw [k2] at ht1
      have r1 : A1.rd w 0 1 = some [.slice (some ⟨g, 0, none⟩) L.n L.c] := ht1.rd (o := 0) (n := 1) (by show 0 + 1 ≤ 3; omega)
      conv => lhs; whnf
      repeat (first | refine go_rd r1 ?_ | refine go_D hD rfl ?_
              conv => lhs; whnf)
      have e1 : IntKind.i64.wrap ((L.c : Int) - (L.n : Int)) = (L.c : Int) - (L.n : Int) := i64_in (by omega) (by omega)
      have hle : L.n ≤ L.c := k5.le
      refine split_dec (fun h1 => ?_) (fun h1 => absurd h1 (by intro h9; exact h9 (by rw [e1]; show (0 : Int) ≤ _; omega)))
      conv => lhs; whnf
      repeat (first | refine go_rd r1 ?_ | refine go_D hD rfl ?_
              conv => lhs; whnf)
      have e6 : IntKind.i64.wrap ((L.n : Int) + ((0 : Nat) : Int)) = (L.n : Int) := by
        rw [i64_in (by omega) (by omega)]
        omega
      refine go_b (bnd_upto e6 hle) ?_
      conv => lhs; whnf
      repeat (first | refine go_rd r1 ?_ | refine go_D hD rfl ?_
              conv => lhs; whnf)
      refine (hD _).2 ⟨ht1.room (by show 0 + 1 ≤ 3; omega), fun A2 hP2 => ?_⟩
      have hP2 : A1.Put A2 w 0 [.slice (some ⟨g, 0 + (bif L.c.beq (Int.toNat 0) then 0 else Int.toNat 0 * 1), none⟩) ((IntKind.i64.wrap ((L.n : Int) + ((0 : Nat) : Int))).toNat - Int.toNat 0) (L.c - Int.toNat 0)] := hP2
      have e8 : (bif L.c.beq (Int.toNat 0) then 0 else Int.toNat 0 * 1) = 0 := by cases L.c.beq (Int.toNat 0) <;> rfl
      rw [e6, e8] at hP2
      have hP2 : A1.Put A2 w 0 [.slice (some ⟨g, 0, none⟩) L.n L.c] := hP2
      have ht2 : CellsAt A2 w [.slice (some ⟨g, 0, none⟩) L.n L.c, .int .i64 0, .int .i8 0] := ht1.put hP2 (by show 0 + 1 ≤ 3; omega)
      have hgw : g ≠ w := fun e => hW.ne (by rw [k1, e])
      have hr2 : LRow A2 g 1 5 L.n L.c (l.map bv) := k5.keep (by rw [hP2.other g hgw, hP1.other g hgw])
      have r2 : A2.rd w 0 1 = some [.slice (some ⟨g, 0, none⟩) L.n L.c] := ht2.rd (o := 0) (n := 1) (by show 0 + 1 ≤ 3; omega)
      conv => lhs; whnf
      repeat (first | refine go_rd r2 ?_ | refine go_D hD rfl ?_
              conv => lhs; whnf)
      refine go_b (bnd_down (k := L.n) (c := L.n) rfl (Nat.le_refl _)) ?_
      conv => lhs; whnf
      repeat (first | refine go_rd r2 ?_ | refine go_rd r1 ?_ | refine go_D hD rfl ?_
              conv => lhs; whnf)
      have e9 : (bif L.c.beq ((L.n : Int).toNat) then 0 else (L.n : Int).toNat * 1) ≤ L.c := by
        cases L.c.beq ((L.n : Int).toNat)
        · show (L.n : Int).toNat * 1 ≤ L.c
          omega
        · exact Nat.zero_le _
      have e10 : Nat.min 0 ((L.n : Int).toNat - (L.n : Int).toNat) = 0 := Nat.zero_min _
      refine (hD _).2 ⟨[], src_str e10, fun v hv => (by cases hv), hr2.room (by show 0 + (bif L.c.beq ((L.n : Int).toNat) then 0 else (L.n : Int).toNat * 1) + 0 ≤ L.c * 1; omega), fun A3 hP3 => ?_⟩
      have hn3 := put_nil hP3
      have hW3 : BfR A3 w L (l ++ []) := by
        rw [List.append_nil]
        exact ⟨⟨0, by rw [k2]; exact ht2.sub fun o ho => (hn3 w).trans ho⟩, .inr ⟨g, k1, k2, k3, hr2.keep (hn3 g)⟩, hW.ne, hW.nil, hW.cap⟩
      have hfin : BfTo A w L (l ++ []) A3 := ⟨L, hW3, fun k o hk hw _ => by rw [hn3 k]; show A2.blk k = some o; rw [hP2.other k hw, hP1.other k hw]; exact hk, fun g hg => .inl hg⟩
      have hend : bfStrS.post ⟨w, L, l, []⟩ [] A (.tuple #[.int .i64 (Nat.min 0 ((L.n : Int).toNat - (L.n : Int).toNat) : Nat), .nilIface]) A3 := ⟨by rw [e10]; rfl, hfin⟩
      conv => lhs; whnf
      repeat (first | refine go_D hD rfl ?_
              conv => lhs; whnf)
      exact (hD _).2 hend
  have hpos : 0 < s.length := by
    cases s with
    | nil => exact absurd rfl hs0
    | cons x xs => simp
  rcases hrow with ⟨k1, k2, k3, k4, -⟩ | ⟨g, k1, k2, k3, k5⟩
  · rw [hW.nil k1] at ht1
    have r1 : A1.rd w 0 1 = some [.slice none 0 0] := ht1.rd (o := 0) (n := 1) (by show 0 + 1 ≤ 3; omega)
    conv => lhs; whnf
    repeat (first | refine go_rd r1 ?_ | refine go_D hD rfl ?_
            conv => lhs; whnf)
    refine split_dec (fun h => absurd h (by show ¬ ((s.length : Int) ≤ 0); omega)) (fun _ => ?_)
    conv => lhs; whnf
    repeat (first | refine go_rd r1 ?_ | refine go_D hD rfl ?_
            conv => lhs; whnf)
    refine (hD _).2 ⟨(⟨w, L, l, s.length⟩ : BfG), ⟨rfl, hW1, hpos, by show l.length + s.length ≤ 900000000; omega, by show L.c < l.length + s.length; omega⟩, fun v A2 hq => ?_⟩
    obtain ⟨hv, kb, c, zs, ⟨lr2, ht2⟩, hr2, hz, hc0, hcm, hkw, hg, hk2⟩ : v = .int .i64 l.length ∧ BfRoom A1 w L l s.length A2 := hq
    subst hv
    have r2 : A2.rd w 0 1 = some [.slice (some ⟨kb, 0, none⟩) (l.length + s.length) c] := ht2.rd (o := 0) (n := 1) (by show 0 + 1 ≤ 3; omega)
    have hcl := hr2.le
    conv => lhs; whnf
    repeat (first | refine go_rd r2 ?_ | refine go_D hD rfl ?_
            conv => lhs; whnf)
    refine go_b (bnd_down (k := l.length) (c := l.length + s.length) rfl (by omega)) ?_
    conv => lhs; whnf
    repeat (first | refine go_rd r2 ?_ | refine go_rd r1 ?_ | refine go_D hD rfl ?_
            conv => lhs; whnf)
    have e9 : (bif (c).beq ((l.length : Int).toNat) then 0 else (l.length : Int).toNat * 1) = l.length := by
      rw [show (c).beq ((l.length : Int).toNat) = false from beq_ne (by omega)]
      exact Nat.mul_one _
    have e10 : Nat.min s.length ((((l.length + s.length : Nat) : Int)).toNat - (l.length : Int).toNat) = s.length := Nat.min_eq_left (by omega)
    refine (hD _).2 ⟨s.map bv, (src_str e10), bv_one s, hr2.room (by show 0 + (bif (c).beq ((l.length : Int).toNat) then 0 else (l.length : Int).toNat * 1) + (s.map bv).length ≤ c * 1; rw [e9, List.length_map]; omega), fun A3 hP3 => ?_⟩
    have hP3 : A2.Put A3 kb (0 + (bif (c).beq ((l.length : Int).toNat) then 0 else (l.length : Int).toNat * 1)) (s.map bv) := hP3
    rw [e9, Nat.zero_add] at hP3
    have hfin := (bf_fill (ys := s) ht2 hr2 hz hc0 hcm hkw hg hk2 hP3 rfl).ahead hP1
    have hend : bfStrS.post ⟨w, L, l, s⟩ [] A (.tuple #[.int .i64 (Nat.min s.length (((l.length + s.length : Nat) : Int).toNat - (l.length : Int).toNat) : Nat), .nilIface]) A3 := ⟨by rw [e10], hfin⟩
    conv => lhs; whnf
    repeat (first | refine go_D hD rfl ?_
            conv => lhs; whnf)
    exact (hD _).2 hend
  · rw [k2] at ht1
    have r1 : A1.rd w 0 1 = some [.slice (some ⟨g, 0, none⟩) L.n L.c] := ht1.rd (o := 0) (n := 1) (by show 0 + 1 ≤ 3; omega)
    conv => lhs; whnf
    repeat (first | refine go_rd r1 ?_ | refine go_D hD rfl ?_
            conv => lhs; whnf)
    have e1 : IntKind.i64.wrap ((L.c : Int) - (L.n : Int)) = (L.c : Int) - (L.n : Int) := i64_in (by omega) (by omega)
    refine split_dec (fun h1 => ?_) (fun h1 => ?_)
    · rw [e1] at h1
      have h1 : (s.length : Int) ≤ (L.c : Int) - (L.n : Int) := h1
      conv => lhs; whnf
      repeat (first | refine go_rd r1 ?_ | refine go_D hD rfl ?_
              conv => lhs; whnf)
      have hle : L.n + s.length ≤ L.c := by omega
      have e6 : IntKind.i64.wrap ((L.n : Int) + (s.length : Int)) = ((L.n + s.length : Nat) : Int) := by
        rw [i64_in (by omega) (by omega)]
        omega
      refine go_b (bnd_upto e6 hle) ?_
      conv => lhs; whnf
      repeat (first | refine go_rd r1 ?_ | refine go_D hD rfl ?_
              conv => lhs; whnf)
      refine (hD _).2 ⟨ht1.room (by show 0 + 1 ≤ 3; omega), fun A2 hP2 => ?_⟩
      have hP2 : A1.Put A2 w 0 [.slice (some ⟨g, 0 + (bif L.c.beq (Int.toNat 0) then 0 else Int.toNat 0 * 1), none⟩) ((IntKind.i64.wrap ((L.n : Int) + (s.length : Int))).toNat - Int.toNat 0) (L.c - Int.toNat 0)] := hP2
      have e8 : (bif L.c.beq (Int.toNat 0) then 0 else Int.toNat 0 * 1) = 0 := by cases L.c.beq (Int.toNat 0) <;> rfl
      rw [e6, e8] at hP2
      have hP2 : A1.Put A2 w 0 [.slice (some ⟨g, 0, none⟩) (L.n + s.length) L.c] := hP2
      have ht2 : CellsAt A2 w [.slice (some ⟨g, 0, none⟩) (L.n + s.length) L.c, .int .i64 0, .int .i8 0] := ht1.put hP2 (by show 0 + 1 ≤ 3; omega)
      have hgw : g ≠ w := fun e => hW.ne (by rw [k1, e])
      have hr1 : LRow A2 g 1 5 L.n L.c (l.map bv) := k5.keep (by rw [hP2.other g hgw, hP1.other g hgw])
      have hwide := hr1.wide hle
      obtain ⟨zs, hz, hr2⟩ := hwide
      have hk2 : ∀ k' o, A1.blk k' = some o → k' ≠ w → L.g ≠ some k' → A2.blk k' = some o := fun k' o hk hw _ => by
        rw [hP2.other k' hw]
        exact hk
      have r2 : A2.rd w 0 1 = some [.slice (some ⟨g, 0, none⟩) (L.n + s.length) L.c] := ht2.rd (o := 0) (n := 1) (by show 0 + 1 ≤ 3; omega)
      conv => lhs; whnf
      repeat (first | refine go_rd r2 ?_ | refine go_D hD rfl ?_
              conv => lhs; whnf)
      refine go_b (bnd_down (k := L.n) (c := L.n + s.length) rfl (by omega)) ?_
      conv => lhs; whnf
      repeat (first | refine go_rd r2 ?_ | refine go_rd r1 ?_ | refine go_D hD rfl ?_
              conv => lhs; whnf)
      have e9 : (bif (L.c).beq ((L.n : Int).toNat) then 0 else (L.n : Int).toNat * 1) = L.n := by
        rw [show (L.c).beq ((L.n : Int).toNat) = false from beq_ne (by omega)]
        exact Nat.mul_one _
      have e10 : Nat.min s.length ((((L.n + s.length : Nat) : Int)).toNat - (L.n : Int).toNat) = s.length := Nat.min_eq_left (by omega)
      refine (hD _).2 ⟨s.map bv, (src_str e10), bv_one s, hr2.room (by show 0 + (bif (L.c).beq ((L.n : Int).toNat) then 0 else (L.n : Int).toNat * 1) + (s.map bv).length ≤ L.c * 1; rw [e9, List.length_map]; omega), fun A3 hP3 => ?_⟩
      have hP3 : A2.Put A3 g (0 + (bif (L.c).beq ((L.n : Int).toNat) then 0 else (L.n : Int).toNat * 1)) (s.map bv) := hP3
      rw [e9, Nat.zero_add] at hP3
      rw [hL] at hP3
      rw [hL] at ht2 hr2
      have hfin := (bf_fill (ys := s) ht2 hr2 hz k3 hcp hgw (.inl k1) hk2 hP3 rfl).ahead hP1
      have hend : bfStrS.post ⟨w, L, l, s⟩ [] A (.tuple #[.int .i64 (Nat.min s.length (((L.n + s.length : Nat) : Int).toNat - (L.n : Int).toNat) : Nat), .nilIface]) A3 := ⟨by rw [e10], hfin⟩
      conv => lhs; whnf
      repeat (first | refine go_D hD rfl ?_
              conv => lhs; whnf)
      exact (hD _).2 hend
    · rw [e1] at h1
      have h1 : ¬ (s.length : Int) ≤ (L.c : Int) - (L.n : Int) := h1
      conv => lhs; whnf
      repeat (first | refine go_rd r1 ?_ | refine go_D hD rfl ?_
              conv => lhs; whnf)
      refine (hD _).2 ⟨(⟨w, L, l, s.length⟩ : BfG), ⟨rfl, hW1, hpos, by show l.length + s.length ≤ 900000000; omega, by show L.c < l.length + s.length; omega⟩, fun v A2 hq => ?_⟩
      obtain ⟨hv, kb, c, zs, ⟨lr2, ht2⟩, hr2, hz, hc0, hcm, hkw, hg, hk2⟩ : v = .int .i64 l.length ∧ BfRoom A1 w L l s.length A2 := hq
      subst hv
      have r2 : A2.rd w 0 1 = some [.slice (some ⟨kb, 0, none⟩) (l.length + s.length) c] := ht2.rd (o := 0) (n := 1) (by show 0 + 1 ≤ 3; omega)
      have hcl := hr2.le
      conv => lhs; whnf
      repeat (first | refine go_rd r2 ?_ | refine go_D hD rfl ?_
              conv => lhs; whnf)
      refine go_b (bnd_down (k := l.length) (c := l.length + s.length) rfl (by omega)) ?_
      conv => lhs; whnf
      repeat (first | refine go_rd r2 ?_ | refine go_rd r1 ?_ | refine go_D hD rfl ?_
              conv => lhs; whnf)
      have e9 : (bif (c).beq ((l.length : Int).toNat) then 0 else (l.length : Int).toNat * 1) = l.length := by
        rw [show (c).beq ((l.length : Int).toNat) = false from beq_ne (by omega)]
        exact Nat.mul_one _
      have e10 : Nat.min s.length ((((l.length + s.length : Nat) : Int)).toNat - (l.length : Int).toNat) = s.length := Nat.min_eq_left (by omega)
      refine (hD _).2 ⟨s.map bv, (src_str e10), bv_one s, hr2.room (by show 0 + (bif (c).beq ((l.length : Int).toNat) then 0 else (l.length : Int).toNat * 1) + (s.map bv).length ≤ c * 1; rw [e9, List.length_map]; omega), fun A3 hP3 => ?_⟩
      have hP3 : A2.Put A3 kb (0 + (bif (c).beq ((l.length : Int).toNat) then 0 else (l.length : Int).toNat * 1)) (s.map bv) := hP3
      rw [e9, Nat.zero_add] at hP3
      have hfin := (bf_fill (ys := s) ht2 hr2 hz hc0 hcm hkw hg hk2 hP3 rfl).ahead hP1
      have hend : bfStrS.post ⟨w, L, l, s⟩ [] A (.tuple #[.int .i64 (Nat.min s.length (((l.length + s.length : Nat) : Int).toNat - (l.length : Int).toNat) : Nat), .nilIface]) A3 := ⟨by rw [e10], hfin⟩
      conv => lhs; whnf
      repeat (first | refine go_D hD rfl ?_
              conv => lhs; whnf)
      exact (hD _).2 hend

end
end Go.Proofs.YthbaimobihmhiaaGreatDoor

namespace Go.Proofs.YthbaimobihmhiaaGreatDoor
open Go.Sx Go.RowKit
noncomputable section
open Classical

theorem src_none {h : HS} {ao : Option Addr} {n m c : Nat} (hn : n = 0) : srcA h 1 n (.v (.slice ao m c)) = some [] := by
  rcases ao with _ | ⟨g, o, _ | sp⟩ <;> exact if_pos hn

theorem src_row {h : HS} {g o n m c : Nat} {ys : List Value} (hn : n ≠ 0) (hr : h.M.A.rd g o (n * 1) = some ys) : srcA h 1 n (.v (.slice (some ⟨g, o, none⟩) m c)) = some ys :=
  (if_neg hn).trans hr

structure BwG where
  w : Nat
  L : LsD
  l : List UInt8
  s : List UInt8
  C : Arena

def bfWrS : FSpec := ⟨BwG, fun g vs A => ∃ x, vs = [.pointer (some ⟨g.w, 0, none⟩), x] ∧ BfR A g.w g.L g.l ∧ g.l.length + g.s.length ≤ 890000000 ∧ Sl g.C 1 g.s.length x (g.s.map bv) ∧ ∀ k o, g.C.blk k = some o → A.blk k = some o ∧ k ≠ g.w ∧ g.L.g ≠ some k, fun g _ A v A' => v = .tuple #[.int .i64 g.s.length, .nilIface] ∧ BfTo A g.w g.L (g.l ++ g.s) A'⟩

set_option maxRecDepth 100000 in
set_option maxHeartbeats 0 in
theorem bfWr_ok : FOk Tryz.prog 62 bfWrS := by
  refine fok_v mixed fun ⟨w, L, l, s, C⟩ vs A hp => ?_
  obtain ⟨x, rfl, hW, hlen, hX, hCA⟩ : ∃ x, vs = [.pointer (some ⟨w, 0, none⟩), x] ∧ BfR A w L l ∧ l.length + s.length ≤ 890000000 ∧ Sl C 1 s.length x (s.map bv) ∧ ∀ k o, C.blk k = some o → A.blk k = some o ∧ k ≠ w ∧ L.g ≠ some k := hp
  obtain ⟨ao, cx, rfl, hcx, hlx, ha1, ha2, ha3⟩ := hX
  have hC : CTSound Tryz.prog (lookC [specE 80 bfGrowS] noC) := lookC_sound (noC_sound _) (fun x hx => by
    simp only [List.mem_singleton] at hx
    subst hx
    exact specE_ok bfGrow_ok)
  have hform : s = [] ∨ ∃ gs o9, ao = some ⟨gs, o9, none⟩ ∧ C.rd gs o9 (s.length * 1) = some (s.map bv) := by
    by_cases h : s = []
    · exact .inl h
    · refine .inr (Sl.at_ hcx ha1 ha2 ha3 ?_)
      cases s with
      | nil => exact absurd rfl h
      | cons y ys => simp
  refine ⟨_, noL, 60, hC, noL_sound _, fun blk os out tape D hD => ?_⟩
  have hL := hW.len
  have hcp := hW.cap
  obtain ⟨lr, htop⟩ := hW.top
  have hroom : A.Room w 2 1 := htop.room (by show 2 + 1 ≤ 3; omega)
  conv => lhs; whnf
  repeat (first | refine go_D hD rfl ?_
          conv => lhs; whnf)
  refine (hD _).2 ⟨hroom, fun A1 hP1 => ?_⟩
  have hP1 : A.Put A1 w 2 [.int .i8 0] := hP1
  have hW1 := hW.put2 hP1
  have ht1 : CellsAt A1 w [L.v, .int .i64 0, .int .i8 0] := htop.put hP1 (by show 2 + 1 ≤ 3; omega)
  have hrow := hW.row
  by_cases hs0 : s = []
  · subst hs0
    rcases hrow with ⟨k1, k2, k3, k4, -⟩ | ⟨g, k1, k2, k3, k5⟩
    · have hnil := hW.nil k1
      rw [hnil] at ht1
      have r1 : A1.rd w 0 1 = some [.slice none 0 0] := ht1.rd (o := 0) (n := 1) (by show 0 + 1 ≤ 3; omega)
      conv => lhs; whnf
      repeat (first | refine go_rd r1 ?_ | refine go_D hD rfl ?_
              conv => lhs; whnf)
      refine (hD _).2 ⟨ht1.room (by show 0 + 1 ≤ 3; omega), fun A2 hP2 => ?_⟩
      have hP2 : A1.Put A2 w 0 [.slice none 0 0] := hP2
      have ht2 : CellsAt A2 w [.slice none 0 0, .int .i64 0, .int .i8 0] := ht1.put hP2 (by show 0 + 1 ≤ 3; omega)
      have r2 : A2.rd w 0 1 = some [.slice none 0 0] := ht2.rd (o := 0) (n := 1) (by show 0 + 1 ≤ 3; omega)
      have hW2 : BfR A2 w L (l ++ []) := by
        rw [List.append_nil]
        exact ⟨⟨0, by rw [hnil]; exact ht2⟩, hW.row.keep fun g o hg _ => (by rw [k1] at hg; cases hg), hW.ne, hW.nil, hW.cap⟩
      have hfin : BfTo A w L (l ++ []) A2 := ⟨L, hW2, fun k o hk hw _ => by rw [hP2.other k hw, hP1.other k hw]; exact hk, fun g hg => .inl hg⟩
      have hend : bfWrS.post ⟨w, L, l, [], C⟩ [] A (.tuple #[.int .i64 0, .nilIface]) A2 := ⟨rfl, hfin⟩
      conv => lhs; whnf
      repeat (first | refine go_rd r2 ?_ | refine go_D hD rfl ?_
              conv => lhs; whnf)
      exact (hD _).2 hend
    · rw [k2] at ht1
      have r1 : A1.rd w 0 1 = some [.slice (some ⟨g, 0, none⟩) L.n L.c] := ht1.rd (o := 0) (n := 1) (by show 0 + 1 ≤ 3; omega)
      conv => lhs; whnf
      repeat (first | refine go_rd r1 ?_ | refine go_D hD rfl ?_
              conv => lhs; whnf)
      have e1 : IntKind.i64.wrap ((L.c : Int) - (L.n : Int)) = (L.c : Int) - (L.n : Int) := i64_in (by omega) (by omega)
      have hle : L.n ≤ L.c := k5.le
      refine split_dec (fun h1 => ?_) (fun h1 => absurd h1 (by intro h9; exact h9 (by rw [e1]; show (0 : Int) ≤ _; omega)))
      conv => lhs; whnf
      repeat (first | refine go_rd r1 ?_ | refine go_D hD rfl ?_
              conv => lhs; whnf)
      have e6 : IntKind.i64.wrap ((L.n : Int) + ((0 : Nat) : Int)) = (L.n : Int) := by
        rw [i64_in (by omega) (by omega)]
        omega
      refine go_b (bnd_upto e6 hle) ?_
      conv => lhs; whnf
      repeat (first | refine go_rd r1 ?_ | refine go_D hD rfl ?_
              conv => lhs; whnf)
      refine (hD _).2 ⟨ht1.room (by show 0 + 1 ≤ 3; omega), fun A2 hP2 => ?_⟩
      have hP2 : A1.Put A2 w 0 [.slice (some ⟨g, 0 + (bif L.c.beq (Int.toNat 0) then 0 else Int.toNat 0 * 1), none⟩) ((IntKind.i64.wrap ((L.n : Int) + ((0 : Nat) : Int))).toNat - Int.toNat 0) (L.c - Int.toNat 0)] := hP2
      have e8 : (bif L.c.beq (Int.toNat 0) then 0 else Int.toNat 0 * 1) = 0 := by cases L.c.beq (Int.toNat 0) <;> rfl
      rw [e6, e8] at hP2
      have hP2 : A1.Put A2 w 0 [.slice (some ⟨g, 0, none⟩) L.n L.c] := hP2
      have ht2 : CellsAt A2 w [.slice (some ⟨g, 0, none⟩) L.n L.c, .int .i64 0, .int .i8 0] := ht1.put hP2 (by show 0 + 1 ≤ 3; omega)
      have hgw : g ≠ w := fun e => hW.ne (by rw [k1, e])
      have hr2 : LRow A2 g 1 5 L.n L.c (l.map bv) := k5.keep (by rw [hP2.other g hgw, hP1.other g hgw])
      have r2 : A2.rd w 0 1 = some [.slice (some ⟨g, 0, none⟩) L.n L.c] := ht2.rd (o := 0) (n := 1) (by show 0 + 1 ≤ 3; omega)
      conv => lhs; whnf
      repeat (first | refine go_rd r2 ?_ | refine go_D hD rfl ?_
              conv => lhs; whnf)
      refine go_b (bnd_down (k := L.n) (c := L.n) rfl (Nat.le_refl _)) ?_
      conv => lhs; whnf
      repeat (first | refine go_rd r2 ?_ | refine go_rd r1 ?_ | refine go_D hD rfl ?_
              conv => lhs; whnf)
      have e9 : (bif L.c.beq ((L.n : Int).toNat) then 0 else (L.n : Int).toNat * 1) ≤ L.c := by
        cases L.c.beq ((L.n : Int).toNat)
        · show (L.n : Int).toNat * 1 ≤ L.c
          omega
        · exact Nat.zero_le _
      have e10 : Nat.min 0 ((L.n : Int).toNat - (L.n : Int).toNat) = 0 := Nat.zero_min _
      refine (hD _).2 ⟨[], src_none e10, fun v hv => (by cases hv), hr2.room (by show 0 + (bif L.c.beq ((L.n : Int).toNat) then 0 else (L.n : Int).toNat * 1) + 0 ≤ L.c * 1; omega), fun A3 hP3 => ?_⟩
      have hn3 := put_nil hP3
      have hW3 : BfR A3 w L (l ++ []) := by
        rw [List.append_nil]
        exact ⟨⟨0, by rw [k2]; exact ht2.sub fun o ho => (hn3 w).trans ho⟩, .inr ⟨g, k1, k2, k3, hr2.keep (hn3 g)⟩, hW.ne, hW.nil, hW.cap⟩
      have hfin : BfTo A w L (l ++ []) A3 := ⟨L, hW3, fun k o hk hw _ => by rw [hn3 k]; show A2.blk k = some o; rw [hP2.other k hw, hP1.other k hw]; exact hk, fun g hg => .inl hg⟩
      have hend : bfWrS.post ⟨w, L, l, [], C⟩ [] A (.tuple #[.int .i64 (Nat.min 0 ((L.n : Int).toNat - (L.n : Int).toNat) : Nat), .nilIface]) A3 := ⟨by rw [e10]; rfl, hfin⟩
      conv => lhs; whnf
      repeat (first | refine go_D hD rfl ?_
              conv => lhs; whnf)
      exact (hD _).2 hend
  have hpos : 0 < s.length := by
    cases s with
    | nil => exact absurd rfl hs0
    | cons x xs => simp
  have hform := hform.resolve_left hs0
  obtain ⟨gs, o9, rfl, hrd⟩ := hform
  rcases hrow with ⟨k1, k2, k3, k4, -⟩ | ⟨g, k1, k2, k3, k5⟩
  · rw [hW.nil k1] at ht1
    have r1 : A1.rd w 0 1 = some [.slice none 0 0] := ht1.rd (o := 0) (n := 1) (by show 0 + 1 ≤ 3; omega)
    conv => lhs; whnf
    repeat (first | refine go_rd r1 ?_ | refine go_D hD rfl ?_
            conv => lhs; whnf)
    refine split_dec (fun h => absurd h (by show ¬ ((s.length : Int) ≤ 0); omega)) (fun _ => ?_)
    conv => lhs; whnf
    repeat (first | refine go_rd r1 ?_ | refine go_D hD rfl ?_
            conv => lhs; whnf)
    refine (hD _).2 ⟨(⟨w, L, l, s.length⟩ : BfG), ⟨rfl, hW1, hpos, by show l.length + s.length ≤ 900000000; omega, by show L.c < l.length + s.length; omega⟩, fun v A2 hq => ?_⟩
    obtain ⟨hv, kb, c, zs, ⟨lr2, ht2⟩, hr2, hz, hc0, hcm, hkw, hg, hk2⟩ : v = .int .i64 l.length ∧ BfRoom A1 w L l s.length A2 := hq
    subst hv
    have r2 : A2.rd w 0 1 = some [.slice (some ⟨kb, 0, none⟩) (l.length + s.length) c] := ht2.rd (o := 0) (n := 1) (by show 0 + 1 ≤ 3; omega)
    have hcl := hr2.le
    conv => lhs; whnf
    repeat (first | refine go_rd r2 ?_ | refine go_D hD rfl ?_
            conv => lhs; whnf)
    have hC2 : C.Sub A2 := fun k o hk => hk2 k o (by rw [hP1.other k (hCA k o hk).2.1]; exact (hCA k o hk).1) (hCA k o hk).2.1 (hCA k o hk).2.2
    have hrd2 := rd_sub hC2 hrd
    refine go_b (bnd_down (k := l.length) (c := l.length + s.length) rfl (by omega)) ?_
    conv => lhs; whnf
    repeat (first | refine go_rd r2 ?_ | refine go_rd r1 ?_ | refine go_D hD rfl ?_
            conv => lhs; whnf)
    have e9 : (bif (c).beq ((l.length : Int).toNat) then 0 else (l.length : Int).toNat * 1) = l.length := by
      rw [show (c).beq ((l.length : Int).toNat) = false from beq_ne (by omega)]
      exact Nat.mul_one _
    have e10 : Nat.min s.length ((((l.length + s.length : Nat) : Int)).toNat - (l.length : Int).toNat) = s.length := Nat.min_eq_left (by omega)
    refine (hD _).2 ⟨s.map bv, src_row (by rw [e10]; omega) (by rw [e10]; exact hrd2), bv_one s, hr2.room (by show 0 + (bif (c).beq ((l.length : Int).toNat) then 0 else (l.length : Int).toNat * 1) + (s.map bv).length ≤ c * 1; rw [e9, List.length_map]; omega), fun A3 hP3 => ?_⟩
    have hP3 : A2.Put A3 kb (0 + (bif (c).beq ((l.length : Int).toNat) then 0 else (l.length : Int).toNat * 1)) (s.map bv) := hP3
    rw [e9, Nat.zero_add] at hP3
    have hfin := (bf_fill (ys := s) ht2 hr2 hz hc0 hcm hkw hg hk2 hP3 rfl).ahead hP1
    have hend : bfWrS.post ⟨w, L, l, s, C⟩ [] A (.tuple #[.int .i64 (Nat.min s.length (((l.length + s.length : Nat) : Int).toNat - (l.length : Int).toNat) : Nat), .nilIface]) A3 := ⟨by rw [e10], hfin⟩
    conv => lhs; whnf
    repeat (first | refine go_D hD rfl ?_
            conv => lhs; whnf)
    exact (hD _).2 hend
  · rw [k2] at ht1
    have r1 : A1.rd w 0 1 = some [.slice (some ⟨g, 0, none⟩) L.n L.c] := ht1.rd (o := 0) (n := 1) (by show 0 + 1 ≤ 3; omega)
    conv => lhs; whnf
    repeat (first | refine go_rd r1 ?_ | refine go_D hD rfl ?_
            conv => lhs; whnf)
    have e1 : IntKind.i64.wrap ((L.c : Int) - (L.n : Int)) = (L.c : Int) - (L.n : Int) := i64_in (by omega) (by omega)
    refine split_dec (fun h1 => ?_) (fun h1 => ?_)
    · rw [e1] at h1
      have h1 : (s.length : Int) ≤ (L.c : Int) - (L.n : Int) := h1
      conv => lhs; whnf
      repeat (first | refine go_rd r1 ?_ | refine go_D hD rfl ?_
              conv => lhs; whnf)
      have hle : L.n + s.length ≤ L.c := by omega
      have e6 : IntKind.i64.wrap ((L.n : Int) + (s.length : Int)) = ((L.n + s.length : Nat) : Int) := by
        rw [i64_in (by omega) (by omega)]
        omega
      refine go_b (bnd_upto e6 hle) ?_
      conv => lhs; whnf
      repeat (first | refine go_rd r1 ?_ | refine go_D hD rfl ?_
              conv => lhs; whnf)
      refine (hD _).2 ⟨ht1.room (by show 0 + 1 ≤ 3; omega), fun A2 hP2 => ?_⟩
      have hP2 : A1.Put A2 w 0 [.slice (some ⟨g, 0 + (bif L.c.beq (Int.toNat 0) then 0 else Int.toNat 0 * 1), none⟩) ((IntKind.i64.wrap ((L.n : Int) + (s.length : Int))).toNat - Int.toNat 0) (L.c - Int.toNat 0)] := hP2
      have e8 : (bif L.c.beq (Int.toNat 0) then 0 else Int.toNat 0 * 1) = 0 := by cases L.c.beq (Int.toNat 0) <;> rfl
      rw [e6, e8] at hP2
      have hP2 : A1.Put A2 w 0 [.slice (some ⟨g, 0, none⟩) (L.n + s.length) L.c] := hP2
      have ht2 : CellsAt A2 w [.slice (some ⟨g, 0, none⟩) (L.n + s.length) L.c, .int .i64 0, .int .i8 0] := ht1.put hP2 (by show 0 + 1 ≤ 3; omega)
      have hgw : g ≠ w := fun e => hW.ne (by rw [k1, e])
      have hr1 : LRow A2 g 1 5 L.n L.c (l.map bv) := k5.keep (by rw [hP2.other g hgw, hP1.other g hgw])
      have hwide := hr1.wide hle
      obtain ⟨zs, hz, hr2⟩ := hwide
      have hk2 : ∀ k' o, A1.blk k' = some o → k' ≠ w → L.g ≠ some k' → A2.blk k' = some o := fun k' o hk hw _ => by
        rw [hP2.other k' hw]
        exact hk
      have r2 : A2.rd w 0 1 = some [.slice (some ⟨g, 0, none⟩) (L.n + s.length) L.c] := ht2.rd (o := 0) (n := 1) (by show 0 + 1 ≤ 3; omega)
      conv => lhs; whnf
      repeat (first | refine go_rd r2 ?_ | refine go_D hD rfl ?_
              conv => lhs; whnf)
      have hC2 : C.Sub A2 := fun k o hk => hk2 k o (by rw [hP1.other k (hCA k o hk).2.1]; exact (hCA k o hk).1) (hCA k o hk).2.1 (hCA k o hk).2.2
      have hrd2 := rd_sub hC2 hrd
      refine go_b (bnd_down (k := L.n) (c := L.n + s.length) rfl (by omega)) ?_
      conv => lhs; whnf
      repeat (first | refine go_rd r2 ?_ | refine go_rd r1 ?_ | refine go_D hD rfl ?_
              conv => lhs; whnf)
      have e9 : (bif (L.c).beq ((L.n : Int).toNat) then 0 else (L.n : Int).toNat * 1) = L.n := by
        rw [show (L.c).beq ((L.n : Int).toNat) = false from beq_ne (by omega)]
        exact Nat.mul_one _
      have e10 : Nat.min s.length ((((L.n + s.length : Nat) : Int)).toNat - (L.n : Int).toNat) = s.length := Nat.min_eq_left (by omega)
      refine (hD _).2 ⟨s.map bv, src_row (by rw [e10]; omega) (by rw [e10]; exact hrd2), bv_one s, hr2.room (by show 0 + (bif (L.c).beq ((L.n : Int).toNat) then 0 else (L.n : Int).toNat * 1) + (s.map bv).length ≤ L.c * 1; rw [e9, List.length_map]; omega), fun A3 hP3 => ?_⟩
      have hP3 : A2.Put A3 g (0 + (bif (L.c).beq ((L.n : Int).toNat) then 0 else (L.n : Int).toNat * 1)) (s.map bv) := hP3
      rw [e9, Nat.zero_add] at hP3
      rw [hL] at hP3
      rw [hL] at ht2 hr2
      have hfin := (bf_fill (ys := s) ht2 hr2 hz k3 hcp hgw (.inl k1) hk2 hP3 rfl).ahead hP1
      have hend : bfWrS.post ⟨w, L, l, s, C⟩ [] A (.tuple #[.int .i64 (Nat.min s.length (((L.n + s.length : Nat) : Int).toNat - (L.n : Int).toNat) : Nat), .nilIface]) A3 := ⟨by rw [e10], hfin⟩
      conv => lhs; whnf
      repeat (first | refine go_D hD rfl ?_
              conv => lhs; whnf)
      exact (hD _).2 hend
    · rw [e1] at h1
      have h1 : ¬ (s.length : Int) ≤ (L.c : Int) - (L.n : Int) := h1
      conv => lhs; whnf
      repeat (first | refine go_rd r1 ?_ | refine go_D hD rfl ?_
              conv => lhs; whnf)
      refine (hD _).2 ⟨(⟨w, L, l, s.length⟩ : BfG), ⟨rfl, hW1, hpos, by show l.length + s.length ≤ 900000000; omega, by show L.c < l.length + s.length; omega⟩, fun v A2 hq => ?_⟩
      obtain ⟨hv, kb, c, zs, ⟨lr2, ht2⟩, hr2, hz, hc0, hcm, hkw, hg, hk2⟩ : v = .int .i64 l.length ∧ BfRoom A1 w L l s.length A2 := hq
      subst hv
      have r2 : A2.rd w 0 1 = some [.slice (some ⟨kb, 0, none⟩) (l.length + s.length) c] := ht2.rd (o := 0) (n := 1) (by show 0 + 1 ≤ 3; omega)
      have hcl := hr2.le
      conv => lhs; whnf
      repeat (first | refine go_rd r2 ?_ | refine go_D hD rfl ?_
              conv => lhs; whnf)
      have hC2 : C.Sub A2 := fun k o hk => hk2 k o (by rw [hP1.other k (hCA k o hk).2.1]; exact (hCA k o hk).1) (hCA k o hk).2.1 (hCA k o hk).2.2
      have hrd2 := rd_sub hC2 hrd
      refine go_b (bnd_down (k := l.length) (c := l.length + s.length) rfl (by omega)) ?_
      conv => lhs; whnf
      repeat (first | refine go_rd r2 ?_ | refine go_rd r1 ?_ | refine go_D hD rfl ?_
              conv => lhs; whnf)
      have e9 : (bif (c).beq ((l.length : Int).toNat) then 0 else (l.length : Int).toNat * 1) = l.length := by
        rw [show (c).beq ((l.length : Int).toNat) = false from beq_ne (by omega)]
        exact Nat.mul_one _
      have e10 : Nat.min s.length ((((l.length + s.length : Nat) : Int)).toNat - (l.length : Int).toNat) = s.length := Nat.min_eq_left (by omega)
      refine (hD _).2 ⟨s.map bv, src_row (by rw [e10]; omega) (by rw [e10]; exact hrd2), bv_one s, hr2.room (by show 0 + (bif (c).beq ((l.length : Int).toNat) then 0 else (l.length : Int).toNat * 1) + (s.map bv).length ≤ c * 1; rw [e9, List.length_map]; omega), fun A3 hP3 => ?_⟩
      have hP3 : A2.Put A3 kb (0 + (bif (c).beq ((l.length : Int).toNat) then 0 else (l.length : Int).toNat * 1)) (s.map bv) := hP3
      rw [e9, Nat.zero_add] at hP3
      have hfin := (bf_fill (ys := s) ht2 hr2 hz hc0 hcm hkw hg hk2 hP3 rfl).ahead hP1
      have hend : bfWrS.post ⟨w, L, l, s, C⟩ [] A (.tuple #[.int .i64 (Nat.min s.length (((l.length + s.length : Nat) : Int).toNat - (l.length : Int).toNat) : Nat), .nilIface]) A3 := ⟨by rw [e10], hfin⟩
      conv => lhs; whnf
      repeat (first | refine go_D hD rfl ?_
              conv => lhs; whnf)
      exact (hD _).2 hend

end
end Go.Proofs.YthbaimobihmhiaaGreatDoor

namespace Go.Proofs.YthbaimobihmhiaaGreatDoor
open Go.Sx Go.RowKit
noncomputable section
open Classical

theorem BfTo.refl {A : Arena} {w : Nat} {L : LsD} {l : List UInt8} (h : BfR A w L l) : BfTo A w L l A := ⟨L, h, fun _ _ h _ _ => h, fun _ h => .inl h⟩

theorem BfTo.then {A A' A'' : Arena} {w : Nat} {L L' : LsD} {l : List UInt8} (h1 : ∀ k o, A.blk k = some o → k ≠ w → L.g ≠ some k → A'.blk k = some o) (h2 : ∀ g, L'.g = some g → L.g = some g ∨ A.blk g = none) (h : BfTo A' w L' l A'') : BfTo A w L l A'' := by
  obtain ⟨L9, k1, k2, k3⟩ := h
  refine ⟨L9, k1, fun k o hk hw hL => k2 k o (h1 k o hk hw hL) hw fun e => ?_, fun g hg => ?_⟩
  · rcases h2 k e with h | h
    · exact hL h
    · rw [h] at hk; cases hk
  · rcases k3 g hg with h | h
    · exact h2 g h
    · cases hA : A.blk g with
      | none => exact .inr rfl
      | some o =>
        by_cases hw : g = w
        · subst hw
          exact absurd hg k1.ne
        · by_cases hL : L.g = some g
          · exact .inl hL
          · rw [h1 g o hA hw hL] at h; cases h

def wwByteS : FSpec := ⟨BbG, fun g vs A => vs = [.pointer (some ⟨g.w, 0, none⟩), .int .u8 g.b.toNat] ∧ BfR A g.w g.L g.l ∧ g.l.length ≤ 890000000, fun g _ A v A' => v = .tuple #[] ∧ BfTo A g.w g.L (g.l ++ [g.b]) A'⟩

set_option maxRecDepth 100000 in
set_option maxHeartbeats 0 in
theorem wwByte_ok : FOk Tryz.prog 32 wwByteS := by
  refine fok_v mixed fun ⟨w, L, l, b⟩ vs A hp => ?_
  obtain ⟨rfl, hW, hlen⟩ : vs = [.pointer (some ⟨w, 0, none⟩), .int .u8 b.toNat] ∧ BfR A w L l ∧ l.length ≤ 890000000 := hp
  have hC : CTSound Tryz.prog (lookC [specE 60 bfByteS] noC) := lookC_sound (noC_sound _) (fun x hx => by
    simp only [List.mem_singleton] at hx
    subst hx
    exact specE_ok bfByte_ok)
  refine ⟨_, noL, 60, hC, noL_sound _, fun blk os out tape D hD => ?_⟩
  conv => lhs; whnf
  repeat (first | refine go_D hD rfl ?_
          conv => lhs; whnf)
  refine (hD _).2 ⟨(⟨w, L, l, b⟩ : BbG), ⟨rfl, hW, hlen⟩, fun v A1 hq => ?_⟩
  obtain ⟨hv, hq⟩ : v = .nilIface ∧ BfTo A w L (l ++ [b]) A1 := hq
  subst hv
  have hend : wwByteS.post ⟨w, L, l, b⟩ [] A (.tuple #[]) A1 := ⟨rfl, hq⟩
  conv => lhs; whnf
  repeat (first | refine go_D hD rfl ?_
          conv => lhs; whnf)
  exact (hD _).2 hend

structure WiG where
  w : Nat
  L : LsD
  l : List UInt8
  n : Int

structure WiS where
  A : Arena
  L : LsD
  l : List UInt8
  u : Nat
  f : Nat

def wiInv (A0 : Arena) (w : Nat) (L0 : LsD) (T : List UInt8) : LInv :=
  { γ := WiS, G := fun s => BfR s.A w s.L s.l ∧ VI T s.l s.u s.f ∧ (∀ k o, A0.blk k = some o → k ≠ w → L0.g ≠ some k → s.A.blk k = some o) ∧ ∀ g, s.L.g = some g → L0.g = some g ∨ A0.blk g = none,
    keepS := [0], keepB := [], sl := fun s => [(4, .v (.int .u64 s.u))], bl := fun _ => [], ar := fun s => s.A, mu := fun s => s.u }

def wwIntS : FSpec := ⟨WiG, fun g vs A => vs = [.pointer (some ⟨g.w, 0, none⟩), .int .i64 g.n] ∧ BfR A g.w g.L g.l ∧ g.l.length ≤ 880000000 ∧ -9223372036854775808 ≤ g.n ∧ g.n ≤ 9223372036854775807, fun g _ A v A' => v = .tuple #[] ∧ BfTo A g.w g.L (g.l ++ vints g.n) A'⟩

set_option maxRecDepth 100000 in
set_option maxHeartbeats 0 in
theorem wwInt_ok : FOk Tryz.prog 33 wwIntS := by
  refine fok_v mixed fun ⟨w, L, l, n⟩ vs A hp => ?_
  obtain ⟨rfl, hW, hlen, hn1, hn2⟩ : vs = [.pointer (some ⟨w, 0, none⟩), .int .i64 n] ∧ BfR A w L l ∧ l.length ≤ 880000000 ∧ -9223372036854775808 ≤ n ∧ n ≤ 9223372036854775807 := hp
  have hC : CTSound Tryz.prog (lookC [specE 60 bfByteS] noC) := lookC_sound (noC_sound _) (fun x hx => by
    simp only [List.mem_singleton] at hx
    subst hx
    exact specE_ok bfByte_ok)
  refine ⟨_, tabO Tryz.prog _ noL 60 [(33, 0)], 60, hC, tabO_sound mixed hC (noL_sound _) _ _, fun blk os out tape D hD => ?_⟩
  have hz := zig_prog hn1 hn2
  conv => lhs; whnf
  repeat (first | refine go_D hD rfl ?_
          conv => lhs; whnf)
  have hG0 : (wiInv A w L (l ++ vints n)).G ⟨A, L, l, zig n, 9⟩ := ⟨hW, VI.start hn1 hn2 l, fun _ _ h _ _ => h, fun _ h => .inl h⟩
  refine (hD _).2 ⟨wiInv A w L (l ++ vints n), ⟨(⟨A, L, l, zig n, 9⟩ : WiS), hG0, ⟨congrArg (fun x : Int => some (SV.v (.int .u64 x))) hz, trivial⟩, trivial, rfl⟩, fun (s : WiS) hG => ⟨⟨trivial, trivial⟩, trivial, ?_⟩⟩
  clear hG0 hz
  obtain ⟨A1, L1, l1, u, f⟩ := s
  obtain ⟨hW1, hV, hk1, hg1⟩ : BfR A1 w L1 l1 ∧ VI (l ++ vints n) l1 u f ∧ (∀ k o, A.blk k = some o → k ≠ w → L.g ≠ some k → A1.blk k = some o) ∧ ∀ g, L1.g = some g → L.g = some g ∨ A.blk g = none := hG
  have hTl : (l ++ vints n).length ≤ 880000010 := by
    have := vput_len 9 (zig n)
    rw [List.length_append]
    show l.length + (vput 9 (zig n)).length ≤ _
    omega
  have hll := hV.len
  conv => lhs; whnf
  repeat (first | refine go_D hD rfl ?_
          conv => lhs; whnf)
  refine split_dec (fun h => ?_) (fun h => ?_)
  · have h : (127 : Int) < (u : Int) := h
    have hu : 128 ≤ u := by omega
    have hb : bitsOf .or .u8 (IntKind.u8.wrap (u : Int)) 128 = (((UInt8.ofNat (u % 128 + 128)).toNat : Nat) : Int) := by
      rw [u8_wrap, or_128, UInt8.toNat_ofNat_of_lt' (by omega : u % 128 + 128 < 256)]
    have hvs : [Value.pointer (some ⟨w, 0, none⟩), .int .u8 (bitsOf .or .u8 (IntKind.u8.wrap (u : Int)) 128)] = [.pointer (some ⟨w, 0, none⟩), .int .u8 (UInt8.ofNat (u % 128 + 128)).toNat] := by rw [hb]
    conv => lhs; whnf
    repeat (first | refine go_D hD rfl ?_
            conv => lhs; whnf)
    refine (hD _).2 ⟨(⟨w, L1, l1, UInt8.ofNat (u % 128 + 128)⟩ : BbG), ⟨hvs, hW1, by show l1.length ≤ 890000000; omega⟩, fun v A2 hq => ?_⟩
    obtain ⟨hv, L2, hW2, hk2, hg2⟩ : v = .nilIface ∧ BfTo A1 w L1 (l1 ++ [UInt8.ofNat (u % 128 + 128)]) A2 := hq
    subst hv
    have hnx := hV.next hu
    obtain ⟨f', hV2⟩ := hnx
    have hk3 : ∀ k o, A.blk k = some o → k ≠ w → L.g ≠ some k → A2.blk k = some o := fun k o hk hw hL => hk2 k o (hk1 k o hk hw hL) hw fun e => (hg1 k e).elim hL fun h9 => (by rw [h9] at hk; cases hk)
    have hg3 : ∀ g, L2.g = some g → L.g = some g ∨ A.blk g = none := fun g hg => by
      rcases hg2 g hg with h9 | h9
      · exact hg1 g h9
      · cases hA : A.blk g with
        | none => exact .inr rfl
        | some o =>
          by_cases hw : g = w
          · subst hw
            exact absurd hg hW2.ne
          · by_cases hL : L.g = some g
            · exact .inl hL
            · rw [hk1 g o hA hw hL] at h9; cases h9
    have hG2 : (wiInv A w L (l ++ vints n)).G ⟨A2, L2, l1 ++ [UInt8.ofNat (u % 128 + 128)], u / 128, f'⟩ := ⟨hW2, hV2, hk3, hg3⟩
    conv => lhs; whnf
    repeat (first | refine go_D hD rfl ?_
            conv => lhs; whnf)
    refine (hD _).2 ⟨(⟨A2, L2, l1 ++ [UInt8.ofNat (u % 128 + 128)], u / 128, f'⟩ : WiS), ⟨hG2, ⟨congrArg (fun x : Int => some (SV.v (.int .u64 x))) (shr_7 u), trivial⟩, trivial, rfl⟩, by show u / 128 < u; omega, ⟨same1 rfl rfl, trivial⟩, trivial⟩
  · have h : ¬ (127 : Int) < (u : Int) := h
    have hu : u < 128 := by omega
    have hb : IntKind.u8.wrap (u : Int) = (((UInt8.ofNat u).toNat : Nat) : Int) := by
      rw [u8_wrap, UInt8.toNat_ofNat_of_lt' (by omega : u < 256)]
      omega
    have hvs : [Value.pointer (some ⟨w, 0, none⟩), .int .u8 (IntKind.u8.wrap (u : Int))] = [.pointer (some ⟨w, 0, none⟩), .int .u8 (UInt8.ofNat u).toNat] := by rw [hb]
    conv => lhs; whnf
    repeat (first | refine go_D hD rfl ?_
            conv => lhs; whnf)
    refine (hD _).2 ⟨(⟨w, L1, l1, UInt8.ofNat u⟩ : BbG), ⟨hvs, hW1, by show l1.length ≤ 890000000; omega⟩, fun v A2 hq => ?_⟩
    obtain ⟨hv, hto⟩ : v = .nilIface ∧ BfTo A1 w L1 (l1 ++ [UInt8.ofNat u]) A2 := hq
    subst hv
    rw [hV.last hu] at hto
    have hend : wwIntS.post ⟨w, L, l, n⟩ [] A (.tuple #[]) A2 := ⟨rfl, BfTo.then hk1 hg1 hto⟩
    conv => lhs; whnf
    repeat (first | refine go_D hD rfl ?_
            conv => lhs; whnf)
    exact (hD _).2 hend

end
end Go.Proofs.YthbaimobihmhiaaGreatDoor

namespace Go.Proofs.YthbaimobihmhiaaGreatDoor
open Go.Sx Go.RowKit
noncomputable section
open Classical

theorem vints_len (n : Int) : (vints n).length ≤ 10 := vput_len 9 (zig n)

def wwTextS : FSpec := ⟨BsG, fun g vs A => vs = [.pointer (some ⟨g.w, 0, none⟩), .string ⟨g.s.toArray⟩] ∧ BfR A g.w g.L g.l ∧ g.l.length + g.s.length ≤ 880000000, fun g _ A v A' => v = .tuple #[] ∧ BfTo A g.w g.L (g.l ++ vints g.s.length ++ g.s) A'⟩

set_option maxRecDepth 100000 in
set_option maxHeartbeats 0 in
theorem wwText_ok : FOk Tryz.prog 34 wwTextS := by
  refine fok_v mixed fun ⟨w, L, l, s⟩ vs A hp => ?_
  obtain ⟨rfl, hW, hlen⟩ : vs = [.pointer (some ⟨w, 0, none⟩), .string ⟨s.toArray⟩] ∧ BfR A w L l ∧ l.length + s.length ≤ 880000000 := hp
  have hC : CTSound Tryz.prog (lookC [specE 33 wwIntS, specE 61 bfStrS] noC) := lookC_sound (noC_sound _) (fun x hx => by
    simp only [List.mem_cons, List.not_mem_nil, or_false] at hx
    rcases hx with rfl | rfl
    · exact specE_ok wwInt_ok
    · exact specE_ok bfStr_ok)
  refine ⟨_, noL, 60, hC, noL_sound _, fun blk os out tape D hD => ?_⟩
  have hvl := vints_len s.length
  conv => lhs; whnf
  repeat (first | refine go_D hD rfl ?_
          conv => lhs; whnf)
  refine (hD _).2 ⟨(⟨w, L, l, (s.length : Int)⟩ : WiG), ⟨rfl, hW, by show l.length ≤ 880000000; omega, by show -9223372036854775808 ≤ (s.length : Int); omega, by show (s.length : Int) ≤ 9223372036854775807; omega⟩, fun v A1 hq => ?_⟩
  obtain ⟨hv, L1, hW1, hk1, hg1⟩ : v = .tuple #[] ∧ BfTo A w L (l ++ vints s.length) A1 := hq
  subst hv
  conv => lhs; whnf
  repeat (first | refine go_D hD rfl ?_
          conv => lhs; whnf)
  refine (hD _).2 ⟨(⟨w, L1, l ++ vints s.length, s⟩ : BsG), ⟨rfl, hW1, by show (l ++ vints s.length).length + s.length ≤ 890000000; rw [List.length_append]; omega⟩, fun v A2 hq => ?_⟩
  obtain ⟨hv, hto⟩ : v = .tuple #[.int .i64 s.length, .nilIface] ∧ BfTo A1 w L1 (l ++ vints s.length ++ s) A2 := hq
  subst hv
  have hend : wwTextS.post ⟨w, L, l, s⟩ [] A (.tuple #[]) A2 := ⟨rfl, BfTo.then hk1 hg1 hto⟩
  conv => lhs; whnf
  repeat (first | refine go_D hD rfl ?_
          conv => lhs; whnf)
  exact (hD _).2 hend

def wwBytesS : FSpec := ⟨BwG, fun g vs A => ∃ x, vs = [.pointer (some ⟨g.w, 0, none⟩), x] ∧ BfR A g.w g.L g.l ∧ g.l.length + g.s.length ≤ 880000000 ∧ Sl g.C 1 g.s.length x (g.s.map bv) ∧ ∀ k o, g.C.blk k = some o → A.blk k = some o ∧ k ≠ g.w ∧ g.L.g ≠ some k, fun g _ A v A' => v = .tuple #[] ∧ BfTo A g.w g.L (g.l ++ vints g.s.length ++ g.s) A'⟩

set_option maxRecDepth 100000 in
set_option maxHeartbeats 0 in
theorem wwBytes_ok : FOk Tryz.prog 35 wwBytesS := by
  refine fok_v mixed fun ⟨w, L, l, s, C⟩ vs A hp => ?_
  obtain ⟨x, rfl, hW, hlen, hX, hCA⟩ : ∃ x, vs = [.pointer (some ⟨w, 0, none⟩), x] ∧ BfR A w L l ∧ l.length + s.length ≤ 880000000 ∧ Sl C 1 s.length x (s.map bv) ∧ ∀ k o, C.blk k = some o → A.blk k = some o ∧ k ≠ w ∧ L.g ≠ some k := hp
  have hX0 := hX
  obtain ⟨ao, cx, rfl, -⟩ := hX0
  have hC : CTSound Tryz.prog (lookC [specE 33 wwIntS, specE 62 bfWrS] noC) := lookC_sound (noC_sound _) (fun x hx => by
    simp only [List.mem_cons, List.not_mem_nil, or_false] at hx
    rcases hx with rfl | rfl
    · exact specE_ok wwInt_ok
    · exact specE_ok bfWr_ok)
  refine ⟨_, noL, 60, hC, noL_sound _, fun blk os out tape D hD => ?_⟩
  have hvl := vints_len s.length
  conv => lhs; whnf
  repeat (first | refine go_D hD rfl ?_
          conv => lhs; whnf)
  refine (hD _).2 ⟨(⟨w, L, l, (s.length : Int)⟩ : WiG), ⟨rfl, hW, by show l.length ≤ 880000000; omega, by show -9223372036854775808 ≤ (s.length : Int); omega, by show (s.length : Int) ≤ 9223372036854775807; omega⟩, fun v A1 hq => ?_⟩
  obtain ⟨hv, L1, hW1, hk1, hg1⟩ : v = .tuple #[] ∧ BfTo A w L (l ++ vints s.length) A1 := hq
  subst hv
  have hC1 : ∀ k o, C.blk k = some o → A1.blk k = some o ∧ k ≠ w ∧ L1.g ≠ some k := fun k o hk => by
    obtain ⟨h1, h2, h3⟩ := hCA k o hk
    refine ⟨hk1 k o h1 h2 h3, h2, fun e => ?_⟩
    rcases hg1 k e with h | h
    · exact h3 h
    · rw [h] at h1; cases h1
  conv => lhs; whnf
  repeat (first | refine go_D hD rfl ?_
          conv => lhs; whnf)
  refine (hD _).2 ⟨(⟨w, L1, l ++ vints s.length, s, C⟩ : BwG), ⟨_, rfl, hW1, by show (l ++ vints s.length).length + s.length ≤ 890000000; rw [List.length_append]; omega, hX, hC1⟩, fun v A2 hq => ?_⟩
  obtain ⟨hv, hto⟩ : v = .tuple #[.int .i64 s.length, .nilIface] ∧ BfTo A1 w L1 (l ++ vints s.length ++ s) A2 := hq
  subst hv
  have hend : wwBytesS.post ⟨w, L, l, s, C⟩ [] A (.tuple #[]) A2 := ⟨rfl, BfTo.then hk1 hg1 hto⟩
  conv => lhs; whnf
  repeat (first | refine go_D hD rfl ?_
          conv => lhs; whnf)
  exact (hD _).2 hend

end
end Go.Proofs.YthbaimobihmhiaaGreatDoor

namespace Go.Proofs.YthbaimobihmhiaaGreatDoor
open Go.Sx Go.RowKit
noncomputable section
open Classical

def cloneBytesS : FSpec := ⟨List UInt8, fun g vs A => ∃ x, vs = [x] ∧ SlB A x g, fun g _ A v A' => A.Sub A' ∧ SlB (A'.minus A) v g⟩

theorem nextcap0 {n : Nat} (h : 0 < 0 + n) : Builtin.nextslicecap (0 + n) 0 = n := by
  unfold Builtin.nextslicecap
  rw [if_pos (by omega)]; omega

set_option maxRecDepth 100000 in
set_option maxHeartbeats 0 in
theorem cloneBytes_ok : FOk Tryz.prog 65 cloneBytesS := by
  refine fok_v mixed fun bs vs A hp => ?_
  simp only [cloneBytesS] at hp
  obtain ⟨x, rfl, ⟨ao, c, rfl, hc, hl, ha1, ha2, ha3⟩, hxl⟩ := hp
  refine ⟨noC, noL, 60, noC_sound _, noL_sound _, fun blk os out tape D hD => ?_⟩
  conv => lhs; whnf
  refine split_b (fun hb => ?_) (fun hb => ?_) <;> (conv => lhs; whnf)
  · have h0 : ao = none := by simpa using hb
    have h1 := ha1 h0
    have h2 : bs = [] := List.length_eq_zero_iff.1 (by omega)
    subst h2
    exact (hD _).2 ⟨Arena.Sub.refl _, Sl.nil _ _, by simp⟩
  · have h0 : ∃ a, ao = some a := by cases ao with
      | none => simp at hb
      | some a => exact ⟨a, rfl⟩
    obtain ⟨⟨g, o, sp⟩, rfl⟩ := h0
    have hsp : sp = none ∨ bs.length = 0 := by
      rcases Nat.eq_zero_or_pos c with h | h
      · right; omega
      · left; exact ha2 _ rfl h
    rcases sp with _ | sp
    all_goals
      refine (hD _).2 fun g1 A1 hN => ?_
      conv => lhs; whnf
      refine (hD _).2 ⟨[], bs.map bv, rfl, ?_, hl, ?_, by omega, ?_, rfl, fun h => (by cases h), fun _ _ _ h1 h2 => ?_, fun v A2 hA => ?_⟩
      · first
        | (show (if bs.length = 0 then some [] else A1.rd g o (bs.length * 1)) = _
           by_cases h0 : bs.length = 0
           · rw [if_pos h0, List.length_eq_zero_iff.1 h0]; rfl
           · rw [if_neg h0]; exact rd_sub hN.sub (ha3 (by omega) _ rfl))
        | (have h9 : bs.length = 0 := hsp.resolve_left (by simp)
           show (if bs.length = 0 then some [] else none) = _
           (rw [if_pos h9, List.length_eq_zero_iff.1 h9]; rfl))
      · intro v hv
        obtain ⟨b, _, rfl⟩ := List.mem_map.1 hv; rfl
      · intro h0
        rw [nextcap0 h0]
        show bs.length * 1 ≤ _
        omega
      · exfalso
        have : bs.length = 0 := by omega
        exact h2 (by rw [List.length_eq_zero_iff.1 this]; rfl)
      · obtain ⟨k1, k2⟩ := clone_end hN.sub hA hl
        conv => lhs; whnf
        exact (hD _).2 ⟨k1, k2, hxl⟩

end
end Go.Proofs.YthbaimobihmhiaaGreatDoor
