/-
  Rows of rows: what lies at the front of one, and behind.
  Rows in blocks of their own.
  Rows of keys and values; maps of an arena that are such rows; a block whose cells are all known.
  A tree in an arena: its nodes by paths, its sittings by sessions; what changes leave of it.
  The document's queue: calls in a row.
  Contracts: two rows of bytes: are they the same?
  Contracts: two rows of members: are they the same?
  Contracts: bytes in a row of their own.
  Contracts: members in a row of their own.
  Contracts: two rows of bytes, two rows of members, two calls, two rows of calls: are they the same?
  Contracts: clones of rows, and a call in memory of its own.
  Contracts: the document's queue: a call in memory of its own.
-/
import Derived.Test.YtpingnkjenicaaaG06
namespace Go.Sx
noncomputable section

theorem flatN_len {α : Type} {enc : α → List Value} {es : Nat} (he : ∀ x, (enc x).length = es) : ∀ l : List α, (l.flatMap enc).length = l.length * es
  | [] => by simp
  | x :: l => by rw [List.flatMap_cons, List.length_append, he, flatN_len he l, List.length_cons, Nat.succ_mul]; omega

theorem flat_takeN {α : Type} {enc : α → List Value} {es : Nat} (he : ∀ x, (enc x).length = es) : ∀ (q : Nat) (l : List α), (l.flatMap enc).take (q * es) = (l.take q).flatMap enc
  | 0, _ => by simp
  | q + 1, [] => by simp
  | q + 1, x :: l => by
    have e1 : (q + 1) * es - (enc x).length = q * es := by rw [he, Nat.succ_mul]; omega
    have e2 : (enc x).take ((q + 1) * es) = enc x := List.take_of_length_le (by rw [he, Nat.succ_mul]; omega)
    rw [List.flatMap_cons, List.take_append, e1, e2, flat_takeN he q l, List.take_succ_cons, List.flatMap_cons]

theorem flat_dropN {α : Type} {enc : α → List Value} {es : Nat} (he : ∀ x, (enc x).length = es) : ∀ (q : Nat) (l : List α), (l.flatMap enc).drop (q * es) = (l.drop q).flatMap enc
  | 0, _ => by simp
  | q + 1, [] => by simp
  | q + 1, x :: l => by
    have e1 : (q + 1) * es - (enc x).length = q * es := by rw [he, Nat.succ_mul]; omega
    have e2 : (enc x).drop ((q + 1) * es) = [] := List.drop_eq_nil_of_le (by rw [he, Nat.succ_mul]; omega)
    rw [List.flatMap_cons, List.drop_append, e1, e2, flat_dropN he q l, List.drop_succ_cons, List.nil_append]

theorem srcN_take {A : Arena} {g o n q es : Nat} {α : Type} {enc : α → List Value} (he : ∀ x, (enc x).length = es) {l : List α} (h : A.rd g 0 (n * es) = some (l.flatMap enc)) (hq : q ≤ n) (ho : o = 0) : (if q = 0 then some [] else A.rd g o (q * es)) = some ((l.take q).flatMap enc) := by
  subst ho
  by_cases h0 : q = 0
  · rw [if_pos h0, h0, List.take_zero]; rfl
  · rw [if_neg h0]
    have := rd_at h (i := 0) (m := q * es) (by rw [Nat.zero_add]; exact Nat.mul_le_mul_right _ hq)
    rw [Nat.add_zero, List.drop_zero, flat_takeN he] at this
    exact this

theorem srcN_drop {A : Arena} {g o n q es : Nat} {α : Type} {enc : α → List Value} (he : ∀ x, (enc x).length = es) {l : List α} (h : A.rd g 0 (n * es) = some (l.flatMap enc)) (hn : n = l.length) (ho : q < n → o = q * es) : (if n - q = 0 then some [] else A.rd g o ((n - q) * es)) = some ((l.drop q).flatMap enc) := by
  by_cases h0 : n - q = 0
  · rw [if_pos h0, List.drop_eq_nil_of_le (by omega)]; rfl
  · rw [if_neg h0, ho (by omega)]
    have hle : q * es + (n - q) * es ≤ n * es := by rw [← Nat.add_mul]; exact Nat.mul_le_mul_right _ (by omega)
    have := rd_at h (i := q * es) (m := (n - q) * es) hle
    rw [Nat.zero_add, flat_dropN he] at this
    rw [this, List.take_of_length_le]
    rw [flatN_len he, List.length_drop]
    exact Nat.mul_le_mul_right _ (by omega)

end
end Go.Sx

namespace Go.Proofs.Ytpingnkjenicaaa
open Go.Sx Go.RowKit
noncomputable section
open Classical

/-- A row in a block of its own (wherever, where it has no elements). -/
def RowIn (A : Arena) (g es : Nat) (e : TypeId) (n : Nat) (v : Value) (cs : List Value) : Prop :=
  cs.length = n * es ∧ ∃ ao c, v = .slice ao n c ∧ n ≤ c ∧ (ao = none → c = 0) ∧ (∀ a, ao = some a → a.spot = none) ∧
    (0 < n → ao = some ⟨g, 0, none⟩ ∧ ∃ cc, A.blk g = some (.cells cc e (0, 0)) ∧ n * es ≤ cc.size ∧ cc.toList.take (n * es) = cs)

theorem RowIn.sl {A : Arena} {g es : Nat} {e : TypeId} {n : Nat} {v : Value} {cs : List Value} (h : RowIn A g es e n v cs) : Sl A es n v cs := by
  obtain ⟨h1, ao, c, h2, h3, h4, h5, h6⟩ := h
  refine ⟨ao, c, h2, h3, h1, h4, fun a ha _ => h5 a ha, fun hn a ha => ?_⟩
  obtain ⟨h7, cc, h8, h9, h10⟩ := h6 hn
  rw [h7] at ha
  injection ha with ha
  subst ha
  show A.rd g 0 (n * es) = some cs
  rw [rd_mk h8 (by omega), List.drop_zero, h10]

theorem RowIn.form {A : Arena} {g es : Nat} {e : TypeId} {n : Nat} {v : Value} {cs : List Value} (h : RowIn A g es e n v cs) : ∃ ao c, v = .slice ao n c ∧ n ≤ c ∧ (0 < n → ao = some ⟨g, 0, none⟩) := by
  obtain ⟨h1, ao, c, h2, h3, h4, h5, h6⟩ := h
  exact ⟨ao, c, h2, h3, fun hn => (h6 hn).1⟩

theorem RowIn.keep {A A' : Arena} {g es : Nat} {e : TypeId} {n : Nat} {v : Value} {cs : List Value} (h : RowIn A g es e n v cs) (hk : 0 < n → A'.blk g = A.blk g) : RowIn A' g es e n v cs := by
  obtain ⟨h1, ao, c, h2, h3, h4, h5, h6⟩ := h
  refine ⟨h1, ao, c, h2, h3, h4, h5, fun hn => ?_⟩
  obtain ⟨h7, cc, h8, h9, h10⟩ := h6 hn
  exact ⟨h7, cc, by rw [hk hn]; exact h8, h9, h10⟩

theorem RowIn.nil (A : Arena) (g es : Nat) (e : TypeId) : RowIn A g es e 0 (.slice none 0 0) [] :=
  ⟨by simp, none, 0, rfl, Nat.le_refl _, fun _ => rfl, fun a h => (by cases h), fun h => absurd h (Nat.lt_irrefl _)⟩

/-- What was made by append. -/
theorem RowIn.grown {K A : Arena} {es : Nat} {e : TypeId} {n : Nat} {v : Value} {cs : List Value} (h : GrowR K A es e n v cs) (g0 : Nat) : ∃ g, RowIn A g es e n v cs ∧ (0 < n → K.blk g = none) ∧ (n = 0 → g = g0) := by
  obtain ⟨h1, ⟨rfl, rfl⟩ | ⟨g, nc, c, rfl, h4, h4', h5, h6, h7, h8⟩⟩ := h
  · have hc : cs = [] := List.length_eq_zero_iff.1 (by rw [h1]; simp)
    subst hc
    exact ⟨g0, RowIn.nil _ _ _ _, fun h => absurd h (Nat.lt_irrefl _), fun _ => rfl⟩
  · have hle : n * es ≤ nc * es := Nat.mul_le_mul_right _ h4
    by_cases hn : n = 0
    · refine ⟨g0, ⟨h1, _, nc, rfl, h4, fun h => (by cases h), fun a ha => (by injection ha with ha; subst ha; rfl), fun h => by omega⟩, fun h => by omega, fun _ => rfl⟩
    · exact ⟨g, ⟨h1, _, nc, rfl, h4, fun h => (by cases h), fun a ha => (by injection ha with ha; subst ha; rfl), fun _ => ⟨rfl, c, h6, by omega, h8⟩⟩, fun _ => h5, fun h => absurd h hn⟩

end
end Go.Proofs.Ytpingnkjenicaaa

namespace Go.Sx
noncomputable section

section
variable {κ α β : Type} [BEq κ]

/-- What stands at a key. -/
def kGet (p : κ) : List (κ × α) → Option α
  | [] => none
  | e :: es => bif p == e.1 then some e.2 else kGet p es

def kPut (p : κ) (x : α) : List (κ × α) → List (κ × α)
  | [] => [(p, x)]
  | e :: es => bif p == e.1 then (p, x) :: es else e :: kPut p x es

def kDel (p : κ) : List (κ × α) → List (κ × α)
  | [] => []
  | e :: es => bif p == e.1 then es else e :: kDel p es

/-- What stands at a key, turned. -/
def kMod (p : κ) (f : α → α) : List (κ × α) → List (κ × α)
  | [] => []
  | e :: es => bif p == e.1 then (e.1, f e.2) :: es else e :: kMod p f es

/-- The same keys, with other values. -/
def kMap (f : α → β) (l : List (κ × α)) : List (κ × β) := l.map fun e => (e.1, f e.2)

theorem kGet_map (f : α → β) (p : κ) : ∀ l : List (κ × α), kGet p (kMap f l) = (kGet p l).map f
  | [] => rfl
  | e :: es => by
    have := kGet_map f p es
    simp only [kMap, List.map_cons, kGet] at this ⊢
    cases hb : p == e.1 <;> simp only [cond_true, cond_false, this, Option.map_some]

theorem kPut_map (f : α → β) (p : κ) (x : α) : ∀ l : List (κ × α), kPut p (f x) (kMap f l) = kMap f (kPut p x l)
  | [] => rfl
  | e :: es => by
    have := kPut_map f p x es
    simp only [kMap, List.map_cons, kPut] at this ⊢
    cases hb : p == e.1 <;> simp only [cond_true, cond_false, this, List.map_cons]

theorem kDel_map (f : α → β) (p : κ) : ∀ l : List (κ × α), kDel p (kMap f l) = kMap f (kDel p l)
  | [] => rfl
  | e :: es => by
    have := kDel_map f p es
    simp only [kMap, List.map_cons, kDel] at this ⊢
    cases hb : p == e.1 <;> simp only [cond_true, cond_false, this, List.map_cons]

theorem kMod_map (f : α → β) (h : α → α) (h' : β → β) (hh : ∀ x, h' (f x) = f (h x)) (p : κ) : ∀ l : List (κ × α), kMod p h' (kMap f l) = kMap f (kMod p h l)
  | [] => rfl
  | e :: es => by
    have := kMod_map f h h' hh p es
    simp only [kMap, List.map_cons, kMod] at this ⊢
    cases hb : p == e.1 <;> simp only [cond_true, cond_false, this, List.map_cons, hh]

theorem kGet_mem {p : κ} {x : α} (hq : ∀ q : κ, (p == q) = true → q = p) : ∀ {l : List (κ × α)}, kGet p l = some x → (p, x) ∈ l
  | [], h => by cases h
  | e :: es, h => by
    simp only [kGet] at h
    cases hb : p == e.1 with
    | true =>
      rw [hb] at h
      injection h with h
      rw [← hq _ hb, ← h]
      exact List.mem_cons_self
    | false => rw [hb] at h; exact List.mem_cons_of_mem _ (kGet_mem hq h)

theorem kGet_none {p : κ} (hr : (p == p) = true) : ∀ {l : List (κ × α)}, kGet p l = none → p ∉ l.map (·.1)
  | [], _ => by simp
  | e :: es, h => by
    simp only [kGet] at h
    cases hb : p == e.1 with
    | true => rw [hb] at h; cases h
    | false =>
      rw [hb] at h
      have := kGet_none hr (l := es) h
      simp only [List.map_cons, List.mem_cons, not_or]
      exact ⟨fun e' => (by rw [← e', hr] at hb; cases hb), this⟩

theorem kPut_none {p : κ} {x : α} : ∀ {l : List (κ × α)}, kGet p l = none → kPut p x l = l ++ [(p, x)]
  | [], _ => rfl
  | e :: es, h => by
    simp only [kGet] at h
    cases hb : p == e.1 with
    | true => rw [hb] at h; cases h
    | false => rw [hb] at h; simp only [kPut, hb, cond_false, kPut_none (l := es) h, List.cons_append]

theorem kDel_none {p : κ} : ∀ {l : List (κ × α)}, kGet p l = none → kDel p l = l
  | [], _ => rfl
  | e :: es, h => by
    simp only [kGet] at h
    cases hb : p == e.1 with
    | true => rw [hb] at h; cases h
    | false => rw [hb] at h; simp only [kDel, hb, cond_false, kDel_none (l := es) h]

theorem kMod_none {p : κ} {f : α → α} : ∀ {l : List (κ × α)}, kGet p l = none → kMod p f l = l
  | [], _ => rfl
  | e :: es, h => by
    simp only [kGet] at h
    cases hb : p == e.1 with
    | true => rw [hb] at h; cases h
    | false => rw [hb] at h; simp only [kMod, hb, cond_false, kMod_none (l := es) h]

theorem kMod_at {p : κ} {f : α → α} {x : α} : ∀ {l : List (κ × α)}, kGet p l = some x → kMod p (fun _ => f x) l = kMod p f l
  | [], h => by cases h
  | e :: es, h => by
    simp only [kGet] at h
    cases hb : p == e.1 with
    | true =>
      rw [hb] at h
      injection h with h
      simp only [kMod, hb, cond_true, h]
    | false => rw [hb] at h; simp only [kMod, hb, cond_false, kMod_at (l := es) h]

/-- Where a key stands, the row is a beginning, that entry, and an end. -/
theorem kGet_split {p : κ} {x : α} (hq : ∀ q : κ, (p == q) = true → q = p) : ∀ {l : List (κ × α)}, kGet p l = some x → ∃ a b, l = a ++ (p, x) :: b ∧ kGet p a = none ∧ (∀ y, kPut p y l = a ++ (p, y) :: b) ∧ kDel p l = a ++ b ∧ ∀ f, kMod p f l = a ++ (p, f x) :: b
  | [], h => by cases h
  | e :: es, h => by
    simp only [kGet] at h
    cases hb : p == e.1 with
    | true =>
      rw [hb] at h
      injection h with h
      have h1 := hq _ hb
      obtain ⟨k, v⟩ := e
      simp only at h h1 hb
      subst h h1
      exact ⟨[], es, rfl, rfl, fun y => (by simp only [kPut, hb, cond_true, List.nil_append]), (by simp only [kDel, hb, cond_true, List.nil_append]), fun f => (by simp only [kMod, hb, cond_true, List.nil_append])⟩
    | false =>
      rw [hb] at h
      obtain ⟨a, b, h1, h2, h3, h4, h5⟩ := kGet_split hq (l := es) h
      exact ⟨e :: a, b, (by rw [h1]; rfl), (by simp only [kGet, hb, cond_false, h2]), fun y => (by simp only [kPut, hb, cond_false, h3, List.cons_append]), (by simp only [kDel, hb, cond_false, h4, List.cons_append]), fun f => (by simp only [kMod, hb, cond_false, h5, List.cons_append])⟩

end

theorem bytes_beq_self (a : ByteArray) : (a == a) = true := by rw [beq_toListBytes]; simp
theorem bytes_key (p : ByteArray) : ∀ q : ByteArray, (p == q) = true → q = p := fun _ h => (bytes_beq h).symm
theorem int_key (p : Int) : ∀ q : Int, (p == q) = true → q = p := fun _ h => (eq_of_beq h).symm

/-! ### As entries of a map -/

section
variable {α : Type} (f : α → Value)

def strL (l : List (ByteArray × α)) : List (Value × Value) := l.map fun e => (.string e.1, f e.2)
def intL (l : List (Int × α)) : List (Value × Value) := l.map fun e => (.int .i64 e.1, f e.2)

theorem strL_alike (p : ByteArray) (l : List (ByteArray × α)) : ∀ e ∈ strL f l, alikeK (.string p) e.1 = true := fun e he => by
  obtain ⟨x, _, rfl⟩ := List.mem_map.1 he
  rfl

theorem intL_alike (p : Int) (l : List (Int × α)) : ∀ e ∈ intL f l, alikeK (.int .i64 p) e.1 = true := fun e he => by
  obtain ⟨x, _, rfl⟩ := List.mem_map.1 he
  rfl

theorem strL_get (p : ByteArray) : ∀ l : List (ByteArray × α), getL (.string p) (strL f l) = (kGet p l).map f
  | [] => rfl
  | e :: es => by
    have := strL_get p es
    simp only [strL, List.map_cons, getL, kGet, keyIs] at this ⊢
    cases hb : p == e.1 <;> simp only [cond_true, cond_false, this, Option.map_some]

theorem strL_put (p : ByteArray) (x : α) : ∀ l : List (ByteArray × α), putL (.string p) (f x) (strL f l) = strL f (kPut p x l)
  | [] => rfl
  | e :: es => by
    have := strL_put p x es
    simp only [strL, List.map_cons, putL, kPut, keyIs] at this ⊢
    cases hb : p == e.1 <;> simp only [cond_true, cond_false, this, List.map_cons]

theorem strL_del (p : ByteArray) : ∀ l : List (ByteArray × α), delL (.string p) (strL f l) = strL f (kDel p l)
  | [] => rfl
  | e :: es => by
    have := strL_del p es
    simp only [strL, List.map_cons, delL, kDel, keyIs] at this ⊢
    cases hb : p == e.1 <;> simp only [cond_true, cond_false, this, List.map_cons]

theorem intL_get (p : Int) : ∀ l : List (Int × α), getL (.int .i64 p) (intL f l) = (kGet p l).map f
  | [] => rfl
  | e :: es => by
    have := intL_get p es
    simp only [intL, List.map_cons, getL, kGet, keyIs] at this ⊢
    cases hb : p == e.1 <;> simp only [cond_true, cond_false, this, Option.map_some]

theorem intL_put (p : Int) (x : α) : ∀ l : List (Int × α), putL (.int .i64 p) (f x) (intL f l) = intL f (kPut p x l)
  | [] => rfl
  | e :: es => by
    have := intL_put p x es
    simp only [intL, List.map_cons, putL, kPut, keyIs] at this ⊢
    cases hb : p == e.1 <;> simp only [cond_true, cond_false, this, List.map_cons]

theorem intL_del (p : Int) : ∀ l : List (Int × α), delL (.int .i64 p) (intL f l) = intL f (kDel p l)
  | [] => rfl
  | e :: es => by
    have := intL_del p es
    simp only [intL, List.map_cons, delL, kDel, keyIs] at this ⊢
    cases hb : p == e.1 <;> simp only [cond_true, cond_false, this, List.map_cons]

end

theorem look_str {A : Arena} {m : Nat} {α : Type} {f : α → Value} {l : List (ByteArray × α)} (h : MapAt A m (strL f l)) (p : ByteArray) : A.look m (.string p) = some ((kGet p l).map f) := by
  rw [look_at h (strL_alike f p l), strL_get]

theorem look_int {A : Arena} {m : Nat} {α : Type} {f : α → Value} {l : List (Int × α)} (h : MapAt A m (intL f l)) (p : Int) : A.look m (.int .i64 p) = some ((kGet p l).map f) := by
  rw [look_at h (intL_alike f p l), intL_get]

/-! ### A block all of whose cells are known -/

def CellsAt (A : Arena) (g : Nat) (L : List Value) : Prop := ∃ c t fz, A.blk g = some (.cells c t fz) ∧ Fz c.size fz ∧ c.toList = L

theorem CellsAt.rd {A : Arena} {g : Nat} {L : List Value} (h : CellsAt A g L) {o n : Nat} (hle : o + n ≤ L.length) : A.rd g o n = some ((L.drop o).take n) := by
  obtain ⟨c, t, fz, h1, _, rfl⟩ := h
  exact rd_mk h1 (by simpa using hle)

theorem CellsAt.room {A : Arena} {g : Nat} {L : List Value} (h : CellsAt A g L) {o n : Nat} (hle : o + n ≤ L.length) : A.Room g o n := by
  obtain ⟨c, t, fz, h1, h2, rfl⟩ := h
  exact ⟨c, t, fz, h1, by simpa using hle, h2⟩

theorem CellsAt.put {A A' : Arena} {g o : Nat} {L vs : List Value} (h : CellsAt A g L) (hP : A.Put A' g o vs) (hle : o + vs.length ≤ L.length) : CellsAt A' g (L.take o ++ vs ++ L.drop (o + vs.length)) := by
  obtain ⟨c, t, fz, h1, h2, rfl⟩ := h
  obtain ⟨c0, t0, fz0, c1, e1, e2, e3⟩ := hP.at_
  rw [h1] at e1
  injection e1 with e1
  injection e1 with e1 e4 e5
  subst e1 e4 e5
  refine ⟨c1, t, fz, e2, ?_, e3⟩
  have : c1.size = c.size := by
    have hl : c1.toList.length = c.toList.length := by
      rw [e3]
      simp only [Array.length_toList] at hle
      simp; omega
    simpa using hl
  rw [this]; exact h2

theorem CellsAt.sub {A A' : Arena} {g : Nat} {L : List Value} (h : CellsAt A g L) (hs : ∀ o, A.blk g = some o → A'.blk g = some o) : CellsAt A' g L := by
  obtain ⟨c, t, fz, h1, h2⟩ := h
  exact ⟨c, t, fz, hs _ h1, h2⟩

theorem CellsAt.new {A A' : Arena} {g : Nat} {c : Array Value} {t : TypeId} (h : A.New A' g c t) : CellsAt A' g c.toList := ⟨c, t, (0, 0), h.at_, .inl rfl, rfl⟩

theorem CellsAt.dom {A : Arena} {g : Nat} {L : List Value} (h : CellsAt A g L) : ∃ o, A.blk g = some o := by
  obtain ⟨c, t, fz, h1, _⟩ := h
  exact ⟨_, h1⟩

/-! ### Two arenas together -/

def Arena.plus (B C : Arena) : Arena := Arena.of fun k => match B.blk k with
  | some o => some o
  | none => C.blk k

theorem plus_blk (B C : Arena) (k : Nat) : (B.plus C).blk k = match B.blk k with
  | some o => some o
  | none => C.blk k := rfl

theorem plus_l (B C : Arena) : B.Sub (B.plus C) := fun k o h => by rw [plus_blk, h]

theorem plus_r {B C : Arena} (h : ∀ k o, C.blk k = some o → B.blk k = none) : C.Sub (B.plus C) := fun k o hk => by rw [plus_blk, h k o hk]; exact hk

theorem plus_cases {B C : Arena} {k : Nat} {o : Obj} (h : (B.plus C).blk k = some o) : B.blk k = some o ∨ (B.blk k = none ∧ C.blk k = some o) := by
  rw [plus_blk] at h
  split at h
  · left; rw [← h]; assumption
  · right; exact ⟨by assumption, h⟩

/-- What is new stands beside what lies in a part of what lay. -/
theorem minus_apart {A A' B : Arena} (h : B.Sub A) : ∀ k o, (A'.minus A).blk k = some o → B.blk k = none := fun k o hk => by
  cases hB : B.blk k with
  | none => rfl
  | some o' =>
    have := (minus_blk hk).1
    rw [h _ _ hB] at this; cases this

end
end Go.Sx

namespace Go.Sx
noncomputable section

structure StatD where
  czxid : Int
  mzxid : Int
  pzxid : Int
  ctime : Int
  mtime : Int
  ver : Int
  cver : Int
  owner : Int
  len : Int
  kids : Int

def StatD.cells (s : StatD) : List Value := [.int .i64 s.czxid, .int .i64 s.mzxid, .int .i64 s.pzxid, .int .i64 s.ctime, .int .i64 s.mtime, .int .i64 s.ver, .int .i64 s.cver, .int .i64 s.owner, .int .i64 s.len, .int .i64 s.kids]

structure NodeD where
  data : List UInt8
  stat : StatD

structure SitD where
  ses : Int
  tmo : Int
  turn : Int

structure TreeD where
  nodes : List (ByteArray × NodeD)
  seats : List (Int × SitD)

def ptrV (g : Nat) : Value := .pointer (some ⟨g, 0, none⟩)
def sitV (s : SitD) : Value := .agg #[.int .i64 s.ses, .int .i64 s.tmo, .int .i64 s.turn]

/-- A node in block g; its data lie in B. -/
def NodeAt (A B : Arena) (g : Nat) (n : NodeD) : Prop := ∃ v, CellsAt A g (v :: n.stat.cells) ∧ SlB B v n.data

/-- A tree in block t; its own blocks are those of O, its nodes' data lie in B. -/
structure TreeR (A B : Arena) (O : Nat → Prop) (t : Nat) (T : TreeD) (m s : Nat) (E : List (ByteArray × Nat × NodeD)) : Prop where
  nodes : T.nodes = kMap (·.2) E
  top : CellsAt A t [.map (some m), .map (some s)]
  nmap : MapAt A m (strL ptrV (kMap (·.1) E))
  smap : MapAt A s (intL sitV T.seats)
  cells : ∀ e ∈ E, NodeAt A B e.2.1 e.2.2
  keys : (E.map (·.1)).Nodup
  ptrs : (E.map (·.2.1)).Nodup
  skeys : (T.seats.map (·.1)).Nodup
  sub : B.Sub A
  own : O t ∧ O m ∧ O s ∧ ∀ e ∈ E, O e.2.1
  off : ∀ k, O k → B.blk k = none
  live : ∀ k, O k → ∃ o, A.blk k = some o
  ne : m ≠ s ∧ ∀ e ∈ E, e.2.1 ≠ t

def TreeAt (A B : Arena) (O : Nat → Prop) (t : Nat) (T : TreeD) : Prop := ∃ m s E, TreeR A B O t T m s E

/-- What a change of a tree leaves. -/
structure Step (A B : Arena) (O : Nat → Prop) (A' B' : Arena) (O' : Nat → Prop) : Prop where
  keep : ∀ k o, A.blk k = some o → ¬ O k → A'.blk k = some o
  dom : ∀ k, A'.blk k = none → A.blk k = none
  own : ∀ k, O' k → O k ∨ A.blk k = none
  sub : B.Sub B'
  new : ∀ k o, B'.blk k = some o → B.blk k = some o ∨ A.blk k = none

theorem Step.refl (A B : Arena) (O : Nat → Prop) : Step A B O A B O := ⟨fun _ _ h _ => h, fun _ h => h, fun _ h => .inl h, Arena.Sub.refl _, fun _ _ h => .inl h⟩

theorem Step.trans {A B A1 B1 A2 B2 : Arena} {O O1 O2 : Nat → Prop} (h : Step A B O A1 B1 O1) (k : Step A1 B1 O1 A2 B2 O2) : Step A B O A2 B2 O2 := by
  refine ⟨fun j o hj hO => k.keep j o (h.keep j o hj hO) fun h1 => ?_, fun j hj => h.dom j (k.dom j hj), fun j hj => ?_, h.sub.trans k.sub, fun j o hj => ?_⟩
  · rcases h.own j h1 with h2 | h2
    · exact hO h2
    · rw [hj] at h2; cases h2
  · rcases k.own j hj with h1 | h1
    · exact h.own j h1
    · exact .inr (h.dom j h1)
  · rcases k.new j o hj with h1 | h1
    · exact h.new j o h1
    · exact .inr (h.dom j h1)

/-- A part of memory that the tree does not own stays. -/
theorem Step.stays {A B A' B' C : Arena} {O O' : Nat → Prop} (h : Step A B O A' B' O') (hC : C.Sub A) (hO : ∀ k o, C.blk k = some o → ¬ O k) : C.Sub A' := fun k o hk => h.keep k o (hC k o hk) (hO k o hk)

theorem NodeAt.mono {A A' B B' : Arena} {g : Nat} {n : NodeD} (h : NodeAt A B g n) (hg : A'.blk g = A.blk g) (hB : B.Sub B') : NodeAt A' B' g n := by
  obtain ⟨v, h1, h2⟩ := h
  exact ⟨v, h1.sub fun o ho => by rw [hg]; exact ho, h2.sub hB⟩

theorem kMap_keys {κ α β : Type} (f : α → β) (l : List (κ × α)) : (kMap f l).map (·.1) = l.map (·.1) := by simp [kMap, Function.comp_def]

/-- Memory around a tree changes, its own and its nodes' data do not. -/
theorem TreeR.frame {A B A' : Arena} {O : Nat → Prop} {t : Nat} {T : TreeD} {m s : Nat} {E : List (ByteArray × Nat × NodeD)} (h : TreeR A B O t T m s E) (hO : ∀ k, O k → A'.blk k = A.blk k) (hB : B.Sub A') : TreeR A' B O t T m s E where
  nodes := h.nodes
  top := h.top.sub fun o ho => by rw [hO t h.own.1]; exact ho
  nmap := h.nmap.sub fun o ho => by rw [hO m h.own.2.1]; exact ho
  smap := h.smap.sub fun o ho => by rw [hO s h.own.2.2.1]; exact ho
  cells := fun e he => (h.cells e he).mono (hO _ (h.own.2.2.2 e he)) (Arena.Sub.refl _)
  keys := h.keys
  ptrs := h.ptrs
  skeys := h.skeys
  sub := hB
  own := h.own
  off := h.off
  live := fun k hk => by rw [hO k hk]; exact h.live k hk
  ne := h.ne

theorem TreeAt.frame {A B A' : Arena} {O : Nat → Prop} {t : Nat} {T : TreeD} (h : TreeAt A B O t T) (hO : ∀ k, O k → A'.blk k = A.blk k) (hB : B.Sub A') : TreeAt A' B O t T := by
  obtain ⟨m, s, E, h⟩ := h
  exact ⟨m, s, E, h.frame hO hB⟩

theorem TreeR.dom {A B : Arena} {O : Nat → Prop} {t : Nat} {T : TreeD} {m s : Nat} {E : List (ByteArray × Nat × NodeD)} (h : TreeR A B O t T m s E) {e : ByteArray × Nat × NodeD} (he : e ∈ E) : e.2.1 ≠ m ∧ e.2.1 ≠ s := by
  obtain ⟨v, ⟨c, ty, fz, h1, _⟩, _⟩ := h.cells e he
  obtain ⟨es, cl, h2, _⟩ := h.nmap
  obtain ⟨es', cl', h3, _⟩ := h.smap
  exact ⟨fun e => (by rw [e, h2] at h1; cases h1), fun e => (by rw [e, h3] at h1; cases h1)⟩

theorem TreeR.top_ne {A B : Arena} {O : Nat → Prop} {t : Nat} {T : TreeD} {m s : Nat} {E : List (ByteArray × Nat × NodeD)} (h : TreeR A B O t T m s E) : t ≠ m ∧ t ≠ s := by
  obtain ⟨c, ty, fz, h1, _⟩ := h.top
  obtain ⟨es, cl, h2, _⟩ := h.nmap
  obtain ⟨es', cl', h3, _⟩ := h.smap
  exact ⟨fun e => (by rw [e, h2] at h1; cases h1), fun e => (by rw [e, h3] at h1; cases h1)⟩

theorem TreeR.get {A B : Arena} {O : Nat → Prop} {t : Nat} {T : TreeD} {m s : Nat} {E : List (ByteArray × Nat × NodeD)} (h : TreeR A B O t T m s E) (p : ByteArray) : kGet p T.nodes = (kGet p E).map (·.2) := by rw [h.nodes, kGet_map]

theorem TreeR.look {A B : Arena} {O : Nat → Prop} {t : Nat} {T : TreeD} {m s : Nat} {E : List (ByteArray × Nat × NodeD)} (h : TreeR A B O t T m s E) (p : ByteArray) : A.look m (.string p) = some ((kGet p E).map fun x => ptrV x.1) := by
  rw [look_str h.nmap, kGet_map]
  cases kGet p E <;> rfl

/-- A node is turned. -/
theorem TreeR.mod {A B A' B' : Arena} {O : Nat → Prop} {t : Nat} {T : TreeD} {m s : Nat} {E : List (ByteArray × Nat × NodeD)} (h : TreeR A B O t T m s E) {p : ByteArray} {g : Nat} {n n' : NodeD} (hp : kGet p E = some (g, n))
    (hO : ∀ k, O k → k ≠ g → A'.blk k = A.blk k) (hn : NodeAt A' B' g n') (hB : B.Sub B') (hs : B'.Sub A') (hoff : ∀ k, O k → B'.blk k = none) : TreeR A' B' O t ⟨kMod p (fun _ => n') T.nodes, T.seats⟩ m s (kMod p (fun x => (x.1, n')) E) := by
  have hmem := kGet_mem (bytes_key p) hp
  obtain ⟨a, b, h1, _, _, _, h2⟩ := kGet_split (bytes_key p) hp
  have h2 := h2 fun x => (x.1, n')
  have hk : ∀ {β : Type} (f : ByteArray × Nat × NodeD → β), f (p, g, n') = f (p, g, n) → (kMod p (fun x => (x.1, n')) E).map f = E.map f := fun f hf => by rw [h2, h1]; simp [hf]
  have hne := h.dom hmem
  have hgt := h.ne.2 _ hmem
  have hsplit : ∀ e ∈ kMod p (fun x => (x.1, n')) E, e = (p, g, n') ∨ (e ∈ E ∧ e.2.1 ≠ g) := fun e he => by
    rw [h2] at he
    have hnd := h.ptrs
    rw [h1] at hnd
    simp only [List.map_append, List.map_cons] at hnd
    obtain ⟨_, hb, hab⟩ := List.nodup_append.1 hnd
    rw [List.nodup_cons] at hb
    rcases List.mem_append.1 he with he | he
    · refine .inr ⟨by rw [h1]; exact List.mem_append_left _ he, fun eq => ?_⟩
      exact hab _ (List.mem_map.2 ⟨e, he, rfl⟩) g (by simp) eq
    · rcases List.mem_cons.1 he with rfl | he
      · exact .inl rfl
      · refine .inr ⟨by rw [h1]; exact List.mem_append_right _ (List.mem_cons_of_mem _ he), fun eq => ?_⟩
        exact hb.1 (List.mem_map.2 ⟨e, he, eq⟩)
  refine ⟨?_, h.top.sub fun o ho => (by rw [hO t h.own.1 (Ne.symm hgt)]; exact ho), ?_, h.smap.sub fun o ho => (by rw [hO s h.own.2.2.1 (Ne.symm hne.2)]; exact ho), fun e he => ?_, by rw [hk _ rfl]; exact h.keys, by rw [hk _ rfl]; exact h.ptrs, h.skeys, hs, ⟨h.own.1, h.own.2.1, h.own.2.2.1, fun e he => ?_⟩, hoff, fun k hk => ?_, ⟨h.ne.1, fun e he => ?_⟩⟩
  · show kMod p (fun _ => n') T.nodes = _
    rw [h.nodes]
    exact kMod_map (·.2) (fun x => (x.1, n')) (fun _ => n') (fun _ => rfl) p E
  · have e1 : kMap (·.1) (kMod p (fun x => (x.1, n')) E) = kMap (·.1) E := hk _ rfl
    rw [e1]
    exact h.nmap.sub fun o ho => (by rw [hO m h.own.2.1 (Ne.symm hne.1)]; exact ho)
  · rcases hsplit e he with rfl | ⟨he, hg⟩
    · exact hn
    · exact (h.cells e he).mono (hO _ (h.own.2.2.2 e he) hg) hB
  · rcases hsplit e he with rfl | ⟨he, hg⟩
    · exact h.own.2.2.2 (p, g, n) hmem
    · exact h.own.2.2.2 e he
  · by_cases e : k = g
    · subst e
      obtain ⟨v, h1, _⟩ := hn
      exact h1.dom
    · rw [hO k hk e]; exact h.live k hk
  · rcases hsplit e he with rfl | ⟨he, hg⟩
    · exact hgt
    · exact h.ne.2 e he

/-- A node is laid. -/
theorem TreeR.put {A B A' B' : Arena} {O : Nat → Prop} {t : Nat} {T : TreeD} {m s : Nat} {E : List (ByteArray × Nat × NodeD)} (h : TreeR A B O t T m s E) {p : ByteArray} {g : Nat} {n : NodeD} (hg : A.blk g = none)
    (hO : ∀ k, O k → k ≠ m → A'.blk k = A.blk k) (hm : MapAt A' m (putL (.string p) (ptrV g) (strL ptrV (kMap (·.1) E)))) (hn : NodeAt A' B' g n) (hB : B.Sub B') (hs : B'.Sub A') (hoff : ∀ k, O k ∨ k = g → B'.blk k = none) :
    TreeR A' B' (fun k => O k ∨ k = g) t ⟨kPut p n T.nodes, T.seats⟩ m s (kPut p (g, n) E) := by
  have hgo : ∀ e ∈ E, e.2.1 ≠ g := fun e he eq => by
    obtain ⟨v, h1, _⟩ := h.cells e he
    obtain ⟨o, ho⟩ := h1.dom
    rw [eq, hg] at ho; cases ho
  have htg : t ≠ g := fun e => by
    obtain ⟨o, ho⟩ := h.top.dom
    rw [e, hg] at ho; cases ho
  have hsplit : ∀ e ∈ kPut p (g, n) E, e = (p, g, n) ∨ e ∈ E := fun e he => by
    cases hp : kGet p E with
    | none =>
      rw [kPut_none hp, List.mem_append, List.mem_singleton] at he
      exact he.symm
    | some x =>
      obtain ⟨a, b, h1, _, h2, _, _⟩ := kGet_split (bytes_key p) hp
      rw [h2] at he
      rcases List.mem_append.1 he with he | he
      · exact .inr (by rw [h1]; exact List.mem_append_left _ he)
      · rcases List.mem_cons.1 he with rfl | he
        · exact .inl rfl
        · exact .inr (by rw [h1]; exact List.mem_append_right _ (List.mem_cons_of_mem _ he))
  have hnd : (((kPut p (g, n) E).map (·.1)).Nodup) ∧ ((kPut p (g, n) E).map (·.2.1)).Nodup := by
    cases hp : kGet p E with
    | none =>
      rw [kPut_none hp]
      have h9 := kGet_none (bytes_beq_self p) hp
      refine ⟨?_, ?_⟩
      · rw [List.map_append, List.nodup_append]
        refine ⟨h.keys, by simp, fun a ha b hb e => ?_⟩
        simp only [List.map_cons, List.map_nil, List.mem_singleton] at hb
        subst hb; subst e; exact h9 ha
      · rw [List.map_append, List.nodup_append]
        refine ⟨h.ptrs, by simp, fun a ha b hb e => ?_⟩
        simp only [List.map_cons, List.map_nil, List.mem_singleton] at hb
        subst hb; subst e
        obtain ⟨x, hx, hx2⟩ := List.mem_map.1 ha
        exact hgo x hx hx2
    | some x =>
      obtain ⟨a, b, h1, _, h2, _, _⟩ := kGet_split (bytes_key p) hp
      rw [h2]
      have k1 := h.keys
      have k2 := h.ptrs
      rw [h1] at k1 k2
      refine ⟨by simpa using k1, ?_⟩
      simp only [List.map_append, List.map_cons] at k2 ⊢
      obtain ⟨d1, d2, d3⟩ := List.nodup_append.1 k2
      rw [List.nodup_cons] at d2
      refine List.nodup_append.2 ⟨d1, List.nodup_cons.2 ⟨fun hm => ?_, d2.2⟩, fun u hu w hw e => ?_⟩
      · obtain ⟨y, hy, hy2⟩ := List.mem_map.1 hm
        exact hgo y (by rw [h1]; exact List.mem_append_right _ (List.mem_cons_of_mem _ hy)) hy2
      · rcases List.mem_cons.1 hw with rfl | hw
        · obtain ⟨y, hy, hy2⟩ := List.mem_map.1 hu
          exact hgo y (by rw [h1]; exact List.mem_append_left _ hy) (hy2.trans e)
        · exact d3 u hu w (List.mem_cons_of_mem _ hw) e
  have htm := h.top_ne
  refine ⟨?_, h.top.sub fun o ho => (by rw [hO t h.own.1 htm.1]; exact ho), ?_, h.smap.sub fun o ho => (by rw [hO s h.own.2.2.1 (Ne.symm h.ne.1)]; exact ho), fun e he => ?_, hnd.1, hnd.2, h.skeys, hs, ⟨.inl h.own.1, .inl h.own.2.1, .inl h.own.2.2.1, fun e he => ?_⟩, hoff, fun k hk => ?_, ⟨h.ne.1, fun e he => ?_⟩⟩
  · show kPut p n T.nodes = _
    rw [h.nodes]
    exact kPut_map (·.2) p (g, n) E
  · have : putL (.string p) (ptrV g) (strL ptrV (kMap (·.1) E)) = strL ptrV (kMap (·.1) (kPut p (g, n) E)) := by
      rw [strL_put]
      congr 1
      exact kPut_map (·.1) p (g, n) E
    rw [← this]; exact hm
  · rcases hsplit e he with rfl | he
    · exact hn
    · exact (h.cells e he).mono (hO _ (h.own.2.2.2 e he) (h.dom he).1) hB
  · rcases hsplit e he with rfl | he
    · exact .inr rfl
    · exact .inl (h.own.2.2.2 e he)
  · rcases hk with hk | rfl
    · by_cases e : k = m
      · subst e
        obtain ⟨es, cl, h1, _⟩ := hm
        exact ⟨_, h1⟩
      · rw [hO k hk e]; exact h.live k hk
    · obtain ⟨v, h1, _⟩ := hn
      exact h1.dom
  · rcases hsplit e he with rfl | he
    · exact Ne.symm htg
    · exact h.ne.2 e he

theorem kDel_sub {κ α : Type} [BEq κ] (p : κ) : ∀ l : List (κ × α), List.Sublist (kDel p l) l
  | [] => List.Sublist.refl _
  | e :: es => by
    simp only [kDel]
    cases hb : p == e.1 with
    | true => exact List.sublist_cons_self _ _
    | false => exact (kDel_sub p es).cons_cons e

/-- A node is taken away. -/
theorem TreeR.del {A B A' : Arena} {O : Nat → Prop} {t : Nat} {T : TreeD} {m s : Nat} {E : List (ByteArray × Nat × NodeD)} (h : TreeR A B O t T m s E) {p : ByteArray}
    (hO : ∀ k, k ≠ m → A'.blk k = A.blk k) (hm : MapAt A' m (delL (.string p) (strL ptrV (kMap (·.1) E)))) : TreeR A' B O t ⟨kDel p T.nodes, T.seats⟩ m s (kDel p E) := by
  have hsub := kDel_sub p E
  have htm := h.top_ne
  refine ⟨?_, h.top.sub fun o ho => (by rw [hO t htm.1]; exact ho), ?_, h.smap.sub fun o ho => (by rw [hO s (Ne.symm h.ne.1)]; exact ho), fun e he => ?_, h.keys.sublist (hsub.map _), h.ptrs.sublist (hsub.map _), h.skeys, fun k o hk => ?_, ⟨h.own.1, h.own.2.1, h.own.2.2.1, fun e he => h.own.2.2.2 e (hsub.subset he)⟩, h.off, fun k hk => ?_, ⟨h.ne.1, fun e he => h.ne.2 e (hsub.subset he)⟩⟩
  · show kDel p T.nodes = _
    rw [h.nodes]
    exact kDel_map (·.2) p E
  · have : delL (.string p) (strL ptrV (kMap (·.1) E)) = strL ptrV (kMap (·.1) (kDel p E)) := by
      rw [strL_del]
      congr 1
      exact kDel_map (·.1) p E
    rw [← this]; exact hm
  · have he := hsub.subset he
    exact (h.cells e he).mono (hO _ (h.dom he).1) (Arena.Sub.refl _)
  · rw [hO k fun e => by subst e; rw [h.off _ h.own.2.1] at hk; cases hk]
    exact h.sub k o hk
  · by_cases e : k = m
    · subst e
      obtain ⟨es, cl, h1, _⟩ := hm
      exact ⟨_, h1⟩
    · rw [hO k e]; exact h.live k hk

/-- Sittings are changed. -/
theorem TreeR.sit {A B A' : Arena} {O : Nat → Prop} {t : Nat} {T : TreeD} {m s : Nat} {E : List (ByteArray × Nat × NodeD)} (h : TreeR A B O t T m s E) {l : List (Int × SitD)}
    (hO : ∀ k, k ≠ s → A'.blk k = A.blk k) (hm : MapAt A' s (intL sitV l)) (hl : (l.map (·.1)).Nodup) : TreeR A' B O t ⟨T.nodes, l⟩ m s E := by
  have htm := h.top_ne
  refine ⟨h.nodes, h.top.sub fun o ho => (by rw [hO t htm.2]; exact ho), h.nmap.sub fun o ho => (by rw [hO m h.ne.1]; exact ho), hm, fun e he => (h.cells e he).mono (hO _ (h.dom he).2) (Arena.Sub.refl _), h.keys, h.ptrs, hl, fun k o hk => ?_, h.own, h.off, fun k hk => ?_, h.ne⟩
  · rw [hO k fun e => by subst e; rw [h.off _ h.own.2.2.1] at hk; cases hk]
    exact h.sub k o hk
  · by_cases e : k = s
    · subst e
      obtain ⟨es, cl, h1, _⟩ := hm
      exact ⟨_, h1⟩
    · rw [hO k e]; exact h.live k hk

theorem kPut_nodup {p : Int} {x : SitD} {l : List (Int × SitD)} (h : (l.map (·.1)).Nodup) : ((kPut p x l).map (·.1)).Nodup := by
  cases hp : kGet p l with
  | none =>
    rw [kPut_none hp, List.map_append, List.nodup_append]
    refine ⟨h, by simp, fun a ha b hb e => ?_⟩
    simp only [List.map_cons, List.map_nil, List.mem_singleton] at hb
    subst hb; subst e; exact kGet_none (by simp) hp ha
  | some y =>
    obtain ⟨a, b, h1, _, h2, _, _⟩ := kGet_split (int_key p) hp
    rw [h2]
    rw [h1] at h
    simpa using h

end
end Go.Sx

namespace Go.Proofs.Ytpingnkjenicaaa
open Go.Sx Go.RowKit
noncomputable section
open Classical

/-- A row that may grow: none, or one in a block of its own. -/
def RowX (A : Arena) (g es : Nat) (e : TypeId) (n : Nat) (v : Value) (cs : List Value) : Prop := (n = 0 ∧ v = .slice none 0 0 ∧ cs = []) ∨ ∃ c, v = .slice (some ⟨g, 0, none⟩) n c ∧ LRow A g es e n c cs

theorem RowX.keep {A A' : Arena} {g es : Nat} {e : TypeId} {n : Nat} {v : Value} {cs : List Value} (h : RowX A g es e n v cs) (hk : A'.blk g = A.blk g) : RowX A' g es e n v cs := by
  rcases h with h | ⟨c, h1, h2⟩
  · exact .inl h
  · exact .inr ⟨c, h1, h2.keep hk⟩

theorem RowX.sub {A A' : Arena} {g es : Nat} {e : TypeId} {n : Nat} {v : Value} {cs : List Value} (h : RowX A g es e n v cs) (hs : A.Sub A') : RowX A' g es e n v cs := by
  rcases h with h | ⟨c, h1, h2⟩
  · exact .inl h
  · exact .inr ⟨c, h1, h2.sub hs⟩

theorem RowX.form {A : Arena} {g es : Nat} {e : TypeId} {n : Nat} {v : Value} {cs : List Value} (h : RowX A g es e n v cs) : ∃ base c, v = .slice (addrA base) n c ∧ n ≤ c ∧ cs.length = n * es ∧ baseRd A base (n * es) = some cs ∧ (base = none → n = 0 ∧ c = 0) ∧ (base = none ∨ base = some (g, 0)) ∧
    (∀ m g0 o, base = some (g0, o) → n + m ≤ c → A.Room g0 (o + n * es) (m * es)) ∧
    ∀ ys v' A2, ys.length = 1 * es → Appended A base n c es e cs ys 1 v' A2 → ∃ g', RowX A2 g' es e (n + 1) v' (cs ++ ys) ∧ ((g' = g ∧ base = some (g, 0)) ∨ A.blk g' = none) ∧ ∀ k, k ≠ g' → A2.blk k = A.blk k := by
  have new_ : ∀ {base : Option (Nat × Nat)} {c : Nat} {ys : List Value} {v' : Value} {A2 : Arena}, cs.length = n * es → ys.length = 1 * es → c < n + 1 → Appended A base n c es e cs ys 1 v' A2 → ∃ g', RowX A2 g' es e (n + 1) v' (cs ++ ys) ∧ ((g' = g ∧ base = some (g, 0)) ∨ A.blk g' = none) ∧ ∀ k, k ≠ g' → A2.blk k = A.blk k := fun {base c ys v' A2} hcs hy hlt ha => by
    rcases ha with ⟨h0, _⟩ | ⟨_, g', nc, c', zs, rfl, hnc, hc, hz, hN⟩
    · omega
    · have hl : (cs ++ ys).length = (n + 1) * es := by rw [List.length_append, hcs, hy, Nat.add_mul]
      refine ⟨g', .inr ⟨nc, rfl, ⟨c', hN.at_, ?_, ?_⟩, hnc, hl⟩, .inr hN.none_, hN.other⟩
      · rw [← Array.length_toList, hc, List.length_append, hl, hz, ← Nat.add_mul]
        congr 1; omega
      · rw [hc, List.take_append_of_le_length (by omega), List.take_of_length_le (by omega)]
  rcases h with ⟨rfl, rfl, rfl⟩ | ⟨c, rfl, h⟩
  · exact ⟨none, 0, rfl, Nat.le_refl _, by simp, by simp [baseRd], fun _ => ⟨rfl, rfl⟩, .inl rfl, fun _ _ _ h => (by cases h), fun ys v' A2 hy ha => new_ (by simp) hy (by omega) ha⟩
  · refine ⟨some (g, 0), c, rfl, h.le, h.len, h.base, fun h => (by cases h), .inr rfl, fun m g0 o e1 hle => ?_, fun ys v' A2 hy ha => ?_⟩
    · injection e1 with e1
      injection e1 with e1 e2
      subst e1; subst e2
      have := Nat.mul_le_mul_right es hle
      rw [Nat.add_mul] at this
      exact h.room (by omega)
    · by_cases hlt : c < n + 1
      · exact new_ h.len hy hlt ha
      · obtain ⟨rfl, h2, h3⟩ := h.add (by omega) hy ha
        exact ⟨g, .inr ⟨c, rfl, h2⟩, .inl ⟨rfl, rfl⟩, h3⟩

/-- The document's queue in block r: its calls lie in a row, what these reach in B. -/
structure RqR (A B : Arena) (O : Nat → Prop) (r : Nat) (ds : List AskD) (rows : List (List Value)) (v : Value) (g : Nat) : Prop where
  top : CellsAt A r [v]
  row : RowX A g 15 34 ds.length v rows.flatten
  asks : AsksR B ds rows
  sub : B.Sub A
  own : O r ∧ (∀ c n, v = .slice (some ⟨g, 0, none⟩) n c → O g)
  off : ∀ k, O k → B.blk k = none
  live : ∀ k, O k → ∃ o, A.blk k = some o
  ne : ∀ c n, v = .slice (some ⟨g, 0, none⟩) n c → g ≠ r

def RqAt (A B : Arena) (O : Nat → Prop) (r : Nat) (ds : List AskD) : Prop := ∃ rows v g, RqR A B O r ds rows v g

theorem RqR.frame {A A' B : Arena} {O : Nat → Prop} {r : Nat} {ds : List AskD} {rows : List (List Value)} {v : Value} {g : Nat} (h : RqR A B O r ds rows v g) (hO : ∀ k, O k → A'.blk k = A.blk k) (hB : B.Sub A') : RqR A' B O r ds rows v g := by
  refine ⟨h.top.sub fun o ho => by rw [hO r h.own.1]; exact ho, ?_, h.asks, hB, h.own, h.off, fun k hk => by rw [hO k hk]; exact h.live k hk, h.ne⟩
  rcases h.row with h1 | ⟨c, h1, h2⟩
  · exact .inl h1
  · exact .inr ⟨c, h1, h2.keep (hO g (h.own.2 c _ h1))⟩

theorem RqAt.frame {A A' B : Arena} {O : Nat → Prop} {r : Nat} {ds : List AskD} (h : RqAt A B O r ds) (hO : ∀ k, O k → A'.blk k = A.blk k) (hB : B.Sub A') : RqAt A' B O r ds := by
  obtain ⟨rows, v, g, h⟩ := h
  exact ⟨rows, v, g, h.frame hO hB⟩

theorem RqAt.more {A A' B : Arena} {O : Nat → Prop} {r : Nat} {ds : List AskD} (h : RqAt A B O r ds) (hs : A.Sub A') : RqAt A' B O r ds := by
  obtain ⟨rows, v, g, h⟩ := h
  refine ⟨rows, v, g, h.frame (fun k hk => ?_) (h.sub.trans hs)⟩
  obtain ⟨o, ho⟩ := h.live k hk
  rw [hs k o ho, ho]

theorem asks_end {B : Arena} : ∀ {ds : List AskD} {rows : List (List Value)} {d : AskD} {cs : List Value}, AsksR B ds rows → AskR B d cs → AsksR B (ds ++ [d]) (rows ++ [cs])
  | [], rows, d, cs, h, hd => by
    rw [AsksR] at h
    subst h
    show AsksR B [d] [cs]
    rw [AsksR]
    exact ⟨cs, [], rfl, hd, by rw [AsksR]⟩
  | e :: ds, rows, d, cs, h, hd => by
    rw [AsksR] at h
    obtain ⟨r, rs, rfl, h1, h2⟩ := h
    show AsksR B (e :: (ds ++ [d])) (r :: (rs ++ [cs]))
    rw [AsksR]
    exact ⟨r, rs ++ [cs], rfl, h1, asks_end h2 hd⟩

theorem RqR.apart {A A2 B : Arena} {O : Nat → Prop} {r : Nat} {ds : List AskD} {rows : List (List Value)} {v : Value} {g : Nat} (h : RqR A B O r ds rows v g) {g' : Nat} {base : Option (Nat × Nat)} {c : Nat}
    (hv : v = .slice (addrA base) ds.length c) (s12 : A.Sub A2) (hg' : (g' = g ∧ base = some (g, 0)) ∨ A2.blk g' = none) : g' ≠ r := by
  obtain ⟨orr, hor⟩ := h.live r h.own.1
  rcases hg' with ⟨rfl, hb⟩ | hn
  · exact h.ne c _ (by rw [hv, hb]; rfl)
  · intro e
    rw [e, s12 _ _ hor] at hn; cases hn

/-- A call more. -/
theorem RqR.push {A B : Arena} {O : Nat → Prop} {r : Nat} {ds : List AskD} {rows : List (List Value)} {v : Value} {g : Nat} (h : RqR A B O r ds rows v g) {A1 A2 A4 : Arena} {d : AskD} {cs : List Value} {v' : Value} {g' : Nat} {base : Option (Nat × Nat)} {c : Nat}
    (hv : v = .slice (addrA base) ds.length c) (s1 : A.Sub A1) (hd : AskR (A1.minus A) d cs) (s2 : A1.Sub A2) (hX : RowX A4 g' 15 34 (ds.length + 1) v' (rows.flatten ++ cs)) (hg' : (g' = g ∧ base = some (g, 0)) ∨ A2.blk g' = none) (hoth : ∀ k, k ≠ g' → k ≠ r → A4.blk k = A2.blk k) (htop : CellsAt A4 r [v']) :
    ∃ B' O', RqAt A4 B' O' r (ds ++ [d]) ∧ Step A B O A4 B' O' := by
  have s12 := s1.trans s2
  obtain ⟨orr, hor⟩ := h.live r h.own.1
  have hgr : g' ≠ r := h.apart hv s12 hg'
  have hnew : ∀ k o, (A1.minus A).blk k = some o → A.blk k = none := fun k o hk => (minus_blk hk).1
  have hgA : ∀ k o, A.blk k = some o → ¬ O k → k ≠ g' := fun k o hk hO e => by
    rcases hg' with ⟨rfl, hb⟩ | hn
    · exact hO (e ▸ h.own.2 c _ (by rw [hv, hb]; rfl))
    · rw [← e, s12 _ _ hk] at hn; cases hn
  have hmg : ∀ k o, (A1.minus A).blk k = some o → k ≠ g' := fun k o hk e => by
    rcases hg' with ⟨rfl, hb⟩ | hn
    · obtain ⟨o', ho⟩ := h.live _ (h.own.2 c _ (by rw [hv, hb]; rfl))
      have := hnew k o hk
      rw [e, ho] at this; cases this
    · rw [← e, s2 _ _ (minus_blk hk).2] at hn; cases hn
  have hmr : ∀ k o, (A1.minus A).blk k = some o → k ≠ r := fun k o hk e => by
    have := hnew k o hk
    rw [e, hor] at this; cases this
  have hBd : ∀ k o, (A1.minus A).blk k = some o → B.blk k = none := fun k o hk => by
    cases hB : B.blk k with
    | none => rfl
    | some o' => have := h.sub k o' hB; rw [hnew k o hk] at this; cases this
  have hOB : ∀ k o, B.blk k = some o → ¬ O k := fun k o hk hO => by rw [h.off k hO] at hk; cases hk
  have hflat : (rows ++ [cs]).flatten = rows.flatten ++ cs := by simp
  refine ⟨B.plus (A1.minus A), fun k => O k ∨ k = g', ⟨rows ++ [cs], v', g', ?_⟩, fun k o hk hO => ?_, fun k hk => ?_, fun k hk => ?_, plus_l _ _, fun k o hk => ?_⟩
  · refine ⟨?_, ?_, asks_end (AsksR.sub (plus_l _ _) _ _ h.asks) (AskR.sub (plus_r hBd) _ _ hd), fun k o hk => ?_, ⟨.inl h.own.1, fun _ _ _ => .inr rfl⟩, fun k hk => ?_, fun k hk => ?_, fun _ _ _ => hgr⟩
    · exact htop
    · rw [hflat, List.length_append]
      exact hX
    · rcases plus_cases hk with hk | ⟨_, hk⟩
      · have hA := h.sub k o hk
        rw [hoth k (hgA k o hA (hOB k o hk)) fun e => hOB k o hk (e ▸ h.own.1)]
        exact s12 _ _ hA
      · rw [hoth k (hmg k o hk) (hmr k o hk)]
        exact s2 _ _ (minus_blk hk).2
    · rcases hk with hk | rfl
      · rw [plus_blk, h.off k hk]
        obtain ⟨o, ho⟩ := h.live k hk
        exact minus_none _ ho
      · cases hb : (B.plus (A1.minus A)).blk k with
        | none => rfl
        | some o =>
          rcases plus_cases hb with hb | ⟨_, hb⟩
          · exact absurd rfl (hgA k o (h.sub k o hb) (hOB k o hb))
          · exact absurd rfl (hmg k o hb)
    · by_cases e : k = r
      · rw [e]
        exact (CellsAt.dom htop)
      · by_cases e2 : k = g'
        · rcases hX with ⟨h0, _⟩ | ⟨c9, _, ⟨cc, h9, _⟩, _⟩
          · omega
          · rw [e2]; exact ⟨_, h9⟩
        · rw [hoth k e2 e]
          rcases hk with hk | hk
          · obtain ⟨o, ho⟩ := h.live k hk
            exact ⟨o, s12 _ _ ho⟩
          · exact absurd hk e2
  · rw [hoth k (hgA k o hk hO) fun e => hO (e ▸ h.own.1)]
    exact s12 _ _ hk
  · cases hA : A.blk k with
    | none => rfl
    | some o =>
      by_cases e2 : k = g'
      · rcases hX with ⟨h0, _⟩ | ⟨c9, _, ⟨cc, h9, _⟩, _⟩
        · omega
        · rw [e2, h9] at hk; cases hk
      · by_cases e : k = r
        · obtain ⟨o9, h9⟩ := (CellsAt.dom htop)
          rw [e, h9] at hk; cases hk
        · rw [hoth k e2 e, s12 _ _ hA] at hk; cases hk
  · rcases hk with hk | rfl
    · exact .inl hk
    · rcases hg' with ⟨rfl, hb⟩ | hn
      · exact .inl (h.own.2 c _ (by rw [hv, hb]; rfl))
      · right
        cases hA : A.blk k with
        | none => rfl
        | some o => rw [s12 _ _ hA] at hn; cases hn
  · rcases plus_cases hk with hk | ⟨_, hk⟩
    · exact .inl hk
    · exact .inr (hnew k o hk)

end
end Go.Proofs.Ytpingnkjenicaaa

namespace Go.Proofs.Ytpingnkjenicaaa
open Go.Sx Go.RowKit
noncomputable section
open Classical

/-! ### Bytes -/

def sameBytesS : FSpec := ⟨List UInt8 × List UInt8, fun g vs A => ∃ x y, vs = [x, y] ∧ SlB A x g.1 ∧ SlB A y g.2, fun g _ A v A' => A' = A ∧ v = .bool (decide (g.1 = g.2))⟩

set_option maxRecDepth 100000 in
set_option maxHeartbeats 0 in
theorem sameBytes_ok : FOk Try.prog 43 sameBytesS := by
  refine fok_v mixed fun ⟨ls, bs⟩ vs A hp => ?_
  simp only [sameBytesS] at hp
  obtain ⟨x, y, rfl, ⟨⟨ao, c, rfl, hc, _, ha1, ha2, ha3⟩, hxl⟩, ⟨bo, d, rfl, hd, _, hb1, hb2, hb3⟩, hyl⟩ := hp
  refine ⟨noC, tabO Try.prog noC noL 60 [(43, 0)], 60, noC_sound _, tabO_sound mixed (noC_sound _) (noL_sound _) _ _, fun blk os out tape D hD => ?_⟩
  conv => lhs; whnf
  refine split_b (fun hb => ?_) (fun hb => ?_) <;> (conv => lhs; whnf)
  · refine (hD _).2 ⟨rfl, ?_⟩
    have : ls ≠ bs := fun e => by subst e; simp at hb
    simp [this]
  · have hlen : ls.length = bs.length := by
      have : (ls.length : Int) = bs.length := by simpa using hb
      omega
    refine (hD _).2 ⟨cnt A 5 [0, 1] [] ls.length fun k => ls.take k = bs.take k, ⟨(0 : Nat), ⟨Nat.zero_le _, rfl⟩, ⟨rfl, trivial⟩, trivial, rfl⟩, fun (k : Nat) hk => ⟨⟨trivial, trivial⟩, trivial, ?_⟩⟩
    simp only [cnt] at hk
    conv => lhs; whnf
    refine split_dec (fun hlt => ?_) (fun hb => ?_) <;> (conv => lhs; whnf)
    · have hlt : k < ls.length := by omega
      obtain ⟨g, o, rfl, hra⟩ := Sl.at_ hc ha1 ha2 ha3 (by omega)
      obtain ⟨g', o', rfl, hrb⟩ := Sl.at_ hd hb1 hb2 hb3 (by omega)
      conv => lhs; whnf
      refine split_in (fun _ _ => ?_) (fun h => by omega)
      conv => lhs; whnf
      refine go_rd (byte_at hra k hlt rfl) ?_
      conv => lhs; whnf
      refine split_in (fun _ _ => ?_) (fun h => by omega)
      conv => lhs; whnf
      refine go_rd (byte_at hrb k (by omega) rfl) ?_
      conv => lhs; whnf
      refine split_b (fun hb => ?_) (fun hb => ?_) <;> (conv => lhs; whnf)
      · refine (hD _).2 ⟨rfl, ?_⟩
        have : ls ≠ bs := fun e => by subst e; simp at hb
        simp [this]
      · have he : ls[k] = bs[k] := by
          have : (ls[k].toNat : Int) = bs[k].toNat := by simpa using hb
          exact UInt8.toNat_inj.1 (by omega)
        refine (hD _).2 ⟨(k + 1 : Nat), ⟨⟨by omega, ?_⟩, ⟨inc_slot (by omega), trivial⟩, trivial, rfl⟩, ?_, ⟨rfl, rfl, trivial⟩, trivial⟩
        · show ls.take (k + 1) = bs.take (k + 1)
          rw [List.take_succ_eq_append_getElem hlt, List.take_succ_eq_append_getElem (by omega), hk.2, he]
        · show ls.length - (k + 1) < ls.length - k
          omega
    · refine (hD _).2 ⟨rfl, ?_⟩
      have h1 : k = ls.length := by omega
      have : ls = bs := by
        have := hk.2
        rw [h1, List.take_length, hlen, List.take_length] at this
        exact this
      simp [this]

end
end Go.Proofs.Ytpingnkjenicaaa

namespace Go.Proofs.Ytpingnkjenicaaa
open Go.Sx Go.RowKit
noncomputable section
open Classical

/-! ### Members -/

def sameMembersS : FSpec := ⟨List MemD × List MemD, fun g vs A => ∃ x y, vs = [x, y] ∧ MemR A x g.1 ∧ MemR A y g.2, fun g _ A v A' => A' = A ∧ v = .bool (decide (g.1 = g.2))⟩

theorem mem_at {A : Arena} {g o n : Nat} {l : List MemD} (h : A.rd g o (n * 4) = some (memCells l)) (k : Nat) (hk : k < l.length) (hn : n = l.length) : A.rd g (o + k * 4) 4 = some [.int .i64 l[k].id, .int .u8 l[k].role, .int .i64 l[k].weight, .int .i64 l[k].group] := by
  have := rows_at (rows := l.map MemD.cells) h (memCells_rows l) k (by simpa using hk) (by simpa using hn)
  simpa [MemD.cells] using this

set_option maxRecDepth 100000 in
set_option maxHeartbeats 0 in
theorem sameMembers_ok : FOk Try.prog 44 sameMembersS := by
  refine fok_v mixed fun ⟨ls, bs⟩ vs A hp => ?_
  simp only [sameMembersS] at hp
  obtain ⟨x, y, rfl, ⟨⟨ao, c, rfl, hc, _, ha1, ha2, ha3⟩, hxl⟩, ⟨bo, d, rfl, hd, _, hb1, hb2, hb3⟩, hyl⟩ := hp
  refine ⟨noC, tabO Try.prog noC noL 60 [(44, 0)], 60, noC_sound _, tabO_sound mixed (noC_sound _) (noL_sound _) _ _, fun blk os out tape D hD => ?_⟩
  conv => lhs; whnf
  refine split_b (fun hb => ?_) (fun hb => ?_) <;> (conv => lhs; whnf)
  · refine (hD _).2 ⟨rfl, ?_⟩
    have : ls ≠ bs := fun e => by subst e; simp at hb
    simp [this]
  · have hlen : ls.length = bs.length := by
      have : (ls.length : Int) = bs.length := by simpa using hb
      omega
    refine (hD _).2 ⟨cnt A 5 [0, 1] [] ls.length fun k => ls.take k = bs.take k, ⟨(0 : Nat), ⟨Nat.zero_le _, rfl⟩, ⟨rfl, trivial⟩, trivial, rfl⟩, fun (k : Nat) hk => ⟨⟨trivial, trivial⟩, trivial, ?_⟩⟩
    simp only [cnt] at hk
    conv => lhs; whnf
    refine split_dec (fun hlt => ?_) (fun hb => ?_) <;> (conv => lhs; whnf)
    · have hlt : k < ls.length := by omega
      obtain ⟨g, o, rfl, hra⟩ := Sl.at_ hc ha1 ha2 ha3 (by omega)
      obtain ⟨g', o', rfl, hrb⟩ := Sl.at_ hd hb1 hb2 hb3 (by omega)
      conv => lhs; whnf
      refine split_in (fun _ _ => ?_) (fun h => by omega)
      conv => lhs; whnf
      refine go_rd (mem_at hra k hlt rfl) ?_
      conv => lhs; whnf
      refine split_in (fun _ _ => ?_) (fun h => by omega)
      conv => lhs; whnf
      refine go_rd (mem_at hrb k (by omega) rfl) ?_
      conv => lhs; whnf
      refine go_D hD (by kernel_rfl) ?_
      conv => lhs; whnf
      refine split_b (fun hb => ?_) (fun hb => ?_) <;> (conv => lhs; whnf)
      · refine (hD _).2 ⟨rfl, ?_⟩
        have : ls ≠ bs := fun e => by subst e; simp at hb
        simp [this]
      · have he : ls[k] = bs[k] := by
          simp only [Bool.not_eq_false', Bool.and_eq_true, decide_eq_true_eq, Bool.and_true] at hb
          obtain ⟨h1, h2, h3, h4⟩ := hb
          cases hl : ls[k]; cases hr : bs[k]
          simp only [hl, hr] at h1 h2 h3 h4
          subst h1 h2 h3 h4; rfl
        refine (hD _).2 ⟨(k + 1 : Nat), ⟨⟨by omega, ?_⟩, ⟨inc_slot (by omega), trivial⟩, trivial, rfl⟩, ?_, ⟨rfl, rfl, trivial⟩, trivial⟩
        · show ls.take (k + 1) = bs.take (k + 1)
          rw [List.take_succ_eq_append_getElem hlt, List.take_succ_eq_append_getElem (by omega), hk.2, he]
        · show ls.length - (k + 1) < ls.length - k
          omega
    · refine (hD _).2 ⟨rfl, ?_⟩
      have h1 : k = ls.length := by omega
      have : ls = bs := by
        have := hk.2
        rw [h1, List.take_length, hlen, List.take_length] at this
        exact this
      simp [this]

end
end Go.Proofs.Ytpingnkjenicaaa

namespace Go.Proofs.Ytpingnkjenicaaa
open Go.Sx Go.RowKit
noncomputable section
open Classical

def cloneBytesS : FSpec := ⟨List UInt8, fun g vs A => ∃ x, vs = [x] ∧ SlB A x g, fun g _ A v A' => A.Sub A' ∧ SlB (A'.minus A) v g⟩

theorem nextcap0 {n : Nat} (h : 0 < 0 + n) : Builtin.nextslicecap (0 + n) 0 = n := by
  unfold Builtin.nextslicecap
  rw [if_pos (by omega)]; omega

set_option maxRecDepth 100000 in
set_option maxHeartbeats 0 in
theorem cloneBytes_ok : FOk Try.prog 58 cloneBytesS := by
  refine fok_v mixed fun bs vs A hp => ?_
  simp only [cloneBytesS] at hp
  obtain ⟨x, rfl, ⟨ao, c, rfl, hc, hl, ha1, ha2, ha3⟩, hxl⟩ := hp
  refine ⟨noC, noL, 60, noC_sound _, noL_sound _, fun blk os out tape D hD => ?_⟩
  conv => lhs; whnf
  refine split_b (fun hb => ?_) (fun hb => ?_) <;> (conv => lhs; whnf)
  · have h0 : ao = none := by simpa using hb
    have h1 := ha1 h0
    have h2 : bs = [] := List.length_eq_zero_iff.1 (by omega)
    subst h2
    exact (hD _).2 ⟨Arena.Sub.refl _, Sl.nil _ _, by simp⟩
  · have h0 : ∃ a, ao = some a := by cases ao with
      | none => simp at hb
      | some a => exact ⟨a, rfl⟩
    obtain ⟨⟨g, o, sp⟩, rfl⟩ := h0
    have hsp : sp = none ∨ bs.length = 0 := by
      rcases Nat.eq_zero_or_pos c with h | h
      · right; omega
      · left; exact ha2 _ rfl h
    rcases sp with _ | sp
    all_goals
      refine (hD _).2 fun g1 A1 hN => ?_
      conv => lhs; whnf
      refine (hD _).2 ⟨[], bs.map bv, rfl, ?_, hl, ?_, by omega, ?_, rfl, fun h => (by cases h), fun _ _ _ h1 h2 => ?_, fun v A2 hA => ?_⟩
      · first
        | (show (if bs.length = 0 then some [] else A1.rd g o (bs.length * 1)) = _
           by_cases h0 : bs.length = 0
           · rw [if_pos h0, List.length_eq_zero_iff.1 h0]; rfl
           · rw [if_neg h0]; exact rd_sub hN.sub (ha3 (by omega) _ rfl))
        | (have h9 : bs.length = 0 := hsp.resolve_left (by simp)
           show (if bs.length = 0 then some [] else none) = _
           (rw [if_pos h9, List.length_eq_zero_iff.1 h9]; rfl))
      · intro v hv
        obtain ⟨b, _, rfl⟩ := List.mem_map.1 hv; rfl
      · intro h0
        rw [nextcap0 h0]
        show bs.length * 1 ≤ _
        omega
      · exfalso
        have : bs.length = 0 := by omega
        exact h2 (by rw [List.length_eq_zero_iff.1 this]; rfl)
      · obtain ⟨k1, k2⟩ := clone_end hN.sub hA hl
        conv => lhs; whnf
        exact (hD _).2 ⟨k1, k2, hxl⟩

end
end Go.Proofs.Ytpingnkjenicaaa

namespace Go.Proofs.Ytpingnkjenicaaa
open Go.Sx Go.RowKit
noncomputable section
open Classical

/-! ### Members -/

def cloneMembersS : FSpec := ⟨List MemD, fun g vs A => ∃ x, vs = [x] ∧ MemR A x g, fun g _ A v A' => A.Sub A' ∧ MemR (A'.minus A) v g⟩

theorem memCells_length (l : List MemD) : (memCells l).length = l.length * 4 := by
  unfold memCells
  induction l with
  | nil => rfl
  | cons m l ih => simp only [List.map_cons, List.flatten_cons, List.length_append, ih, List.length_cons]; simp [MemD.cells]; omega

theorem memCells_one (l : List MemD) : ∀ v ∈ memCells l, v.oneCell' = true := fun v hv => by
  obtain ⟨r, hr, hv⟩ := List.mem_flatten.1 hv
  obtain ⟨m, _, rfl⟩ := List.mem_map.1 hr
  simp only [MemD.cells, List.mem_cons, List.not_mem_nil, or_false] at hv
  rcases hv with rfl | rfl | rfl | rfl <;> rfl

set_option maxRecDepth 100000 in
set_option maxHeartbeats 0 in
theorem cloneMembers_ok : FOk Try.prog 51 cloneMembersS := by
  refine fok_v mixed fun bs vs A hp => ?_
  simp only [cloneMembersS] at hp
  obtain ⟨x, rfl, ⟨ao, c, rfl, hc, hl, ha1, ha2, ha3⟩, hxl⟩ := hp
  refine ⟨noC, noL, 60, noC_sound _, noL_sound _, fun blk os out tape D hD => ?_⟩
  conv => lhs; whnf
  refine split_b (fun hb => ?_) (fun hb => ?_) <;> (conv => lhs; whnf)
  · have h0 : ao = none := by simpa using hb
    have h1 := ha1 h0
    have h2 : bs = [] := List.length_eq_zero_iff.1 (by omega)
    subst h2
    exact (hD _).2 ⟨Arena.Sub.refl _, Sl.nil _ _, by simp⟩
  · have h0 : ∃ a, ao = some a := by cases ao with
      | none => simp at hb
      | some a => exact ⟨a, rfl⟩
    obtain ⟨⟨g, o, sp⟩, rfl⟩ := h0
    have hsp : sp = none ∨ bs.length = 0 := by
      rcases Nat.eq_zero_or_pos c with h | h
      · right; omega
      · left; exact ha2 _ rfl h
    rcases sp with _ | sp
    all_goals
      refine (hD _).2 fun g1 A1 hN => ?_
      conv => lhs; whnf
      refine (hD _).2 ⟨[], memCells bs, rfl, ?_, hl, memCells_one bs, by omega, ?_, rfl, fun h => (by cases h), fun _ _ _ h1 h2 => ?_, fun v A2 hA => ?_⟩
      · first
        | (show (if bs.length = 0 then some [] else A1.rd g o (bs.length * 4)) = _
           by_cases h0 : bs.length = 0
           · rw [if_pos h0, List.length_eq_zero_iff.1 h0]; rfl
           · rw [if_neg h0]; exact rd_sub hN.sub (ha3 (by omega) _ rfl))
        | (have h9 : bs.length = 0 := hsp.resolve_left (by simp)
           show (if bs.length = 0 then some [] else none) = _
           (rw [if_pos h9, List.length_eq_zero_iff.1 h9]; rfl))
      · intro h0
        rw [nextcap0 h0]
        show bs.length * 32 ≤ _
        omega
      · exfalso
        have : bs.length = 0 := by omega
        exact h2 (by rw [List.length_eq_zero_iff.1 this]; rfl)
      · obtain ⟨k1, k2⟩ := clone_end hN.sub hA hl
        conv => lhs; whnf
        exact (hD _).2 ⟨k1, k2, hxl⟩

end
end Go.Proofs.Ytpingnkjenicaaa

namespace Go.Proofs.Ytpingnkjenicaaa
open Go.Sx Go.RowKit
noncomputable section
open Classical

/-! ### Calls -/

/-- Two rows of calls all of which are smaller than n. -/
def sameAsksS (n : Nat) : FSpec := ⟨List AskD × List AskD, fun g vs A => ∃ x y, vs = [x, y] ∧ (∀ d ∈ g.1, d.sz < n) ∧ AsksS A x g.1 ∧ AsksS A y g.2, fun g _ A v A' => A' = A ∧ v = .bool (decide (g.1 = g.2))⟩

def sameAskS (n : Nat) : FSpec := ⟨AskD × AskD, fun g vs A => ∃ x y, vs = [askV x, askV y] ∧ g.1.sz < n ∧ AskR A g.1 x ∧ AskR A g.2 y, fun g _ A v A' => A' = A ∧ v = .bool (decide (g.1 = g.2))⟩

theorem ask_at {A : Arena} {g o n : Nat} {ds : List AskD} {rows : List (List Value)} (h : A.rd g o (n * 15) = some rows.flatten) (hr : AsksR A ds rows) (k : Nat) (hk : k < ds.length) (hn : n = ds.length) : ∃ cs, A.rd g (o + k * 15) 15 = some cs ∧ AskR A ds[k] cs := by
  have hl := hr.length
  exact ⟨_, rows_at h hr.lens k (by omega) (by omega), hr.at_ k hk (by omega)⟩

set_option maxRecDepth 100000 in
set_option maxHeartbeats 0 in
theorem sameAsks_of (m : Nat) (ih : FOk Try.prog 16 (sameAskS m)) : FOk Try.prog 45 (sameAsksS m) := by
  refine fok_v mixed fun ⟨ls, bs⟩ vs A hp => ?_
  simp only [sameAsksS] at hp
  obtain ⟨x, y, rfl, hsz, ⟨r1, ⟨ao, c, rfl, hc, _, ha1, ha2, ha3⟩, hxl, hx⟩, r2, ⟨bo, d, rfl, hd, _, hb1, hb2, hb3⟩, hyl, hy⟩ := hp
  have hC : CTSound Try.prog (lookC [specE 16 (sameAskS m)] noC) := lookC_sound (noC_sound _) (fun x hx => by
    simp only [List.mem_singleton] at hx
    subst hx; exact specE_ok ih)
  refine ⟨lookC [specE 16 (sameAskS m)] noC, tabO Try.prog (lookC [specE 16 (sameAskS m)] noC) noL 60 [(45, 0)], 60, hC, tabO_sound mixed hC (noL_sound _) _ _, fun blk os out tape D hD => ?_⟩
  conv => lhs; whnf
  refine split_b (fun hb => ?_) (fun hb => ?_) <;> (conv => lhs; whnf)
  · refine (hD _).2 ⟨rfl, ?_⟩
    have : ls ≠ bs := fun e => by subst e; simp at hb
    simp [this]
  · have hlen : ls.length = bs.length := by
      have : (ls.length : Int) = bs.length := by simpa using hb
      omega
    refine (hD _).2 ⟨cnt A 5 [0, 1] [] ls.length fun k => ls.take k = bs.take k, ⟨(0 : Nat), ⟨Nat.zero_le _, rfl⟩, ⟨rfl, trivial⟩, trivial, rfl⟩, fun (k : Nat) hk => ⟨⟨trivial, trivial⟩, trivial, ?_⟩⟩
    simp only [cnt] at hk
    conv => lhs; whnf
    refine split_dec (fun hlt => ?_) (fun hb => ?_) <;> (conv => lhs; whnf)
    · have hlt : k < ls.length := by omega
      obtain ⟨g, o, rfl, hra⟩ := Sl.at_ hc ha1 ha2 ha3 (by omega)
      obtain ⟨g', o', rfl, hrb⟩ := Sl.at_ hd hb1 hb2 hb3 (by omega)
      obtain ⟨c1, hc1, hd1⟩ := ask_at hra hx k hlt rfl
      obtain ⟨c2, hc2, hd2⟩ := ask_at hrb hy k (by omega) rfl
      conv => lhs; whnf
      refine split_in (fun _ _ => ?_) (fun h => by omega)
      conv => lhs; whnf
      refine go_rd hc1 ?_
      conv => lhs; whnf
      refine split_in (fun _ _ => ?_) (fun h => by omega)
      conv => lhs; whnf
      refine go_rd hc2 ?_
      conv => lhs; whnf
      refine (hD _).2 ⟨(ls[k], bs[k]), ⟨_, _, rfl, hsz _ (List.getElem_mem _), hd1, hd2⟩, fun v A' ⟨e1, e2⟩ => ?_⟩
      subst e1; subst e2
      conv => lhs; whnf
      refine split_b (fun hb => ?_) (fun hb => ?_) <;> (conv => lhs; whnf)
      · refine (hD _).2 ⟨rfl, ?_⟩
        have : ls ≠ bs := fun e => by subst e; simp at hb
        simp [this]
      · have he : ls[k] = bs[k] := by simpa using hb
        refine (hD _).2 ⟨(k + 1 : Nat), ⟨⟨by omega, ?_⟩, ⟨inc_slot (by omega), trivial⟩, trivial, rfl⟩, ?_, ⟨rfl, rfl, trivial⟩, trivial⟩
        · show ls.take (k + 1) = bs.take (k + 1)
          rw [List.take_succ_eq_append_getElem hlt, List.take_succ_eq_append_getElem (by omega), hk.2, he]
        · show ls.length - (k + 1) < ls.length - k
          omega
    · refine (hD _).2 ⟨rfl, ?_⟩
      have h1 : k = ls.length := by omega
      have : ls = bs := by
        have := hk.2
        rw [h1, List.take_length, hlen, List.take_length] at this
        exact this
      simp [this]

set_option maxRecDepth 100000 in
set_option maxHeartbeats 0 in
theorem sameAsk_of (m : Nat) (ih : FOk Try.prog 45 (sameAsksS m)) : FOk Try.prog 16 (sameAskS (m + 1)) := by
  refine fok_v mixed fun ⟨d1, d2⟩ vs A hp => ?_
  simp only [sameAskS] at hp
  obtain ⟨x, y, rfl, hsz, hx, hy⟩ := hp
  obtain ⟨kind, xid, ses, turn, path, data, flags, ver, watch, sort, last, tmo, frm, mem, parts⟩ := d1
  obtain ⟨kind', xid', ses', turn', path', data', flags', ver', watch', sort', last', tmo', frm', mem', parts'⟩ := d2
  obtain ⟨vd, vm, vp, rows, rfl, hx1, hx2, hx3, hx4, hx5⟩ := hx
  obtain ⟨vd', vm', vp', rows', rfl, hy1, hy2, hy3, hy4, hy5⟩ := hy
  have hC : CTSound Try.prog (lookC [specE 45 (sameAsksS m), specE 43 sameBytesS, specE 44 sameMembersS] noC) := lookC_sound (noC_sound _) (fun x hx => by
    simp only [List.mem_cons, List.not_mem_nil, or_false] at hx
    rcases hx with rfl | rfl | rfl
    · exact specE_ok ih
    · exact specE_ok sameBytes_ok
    · exact specE_ok sameMembers_ok)
  refine ⟨_, noL, 60, hC, noL_sound _, fun blk os out tape D hD => ?_⟩
  conv => lhs; whnf
  refine split_dec (fun e1 => ?_) (fun hb => ?_) <;> (conv => lhs; whnf)
  rotate_left
  · exact (hD _).2 ⟨rfl, by rw [decide_eq_false (fun e => hb (by injection e))]⟩
  refine split_dec (fun e2 => ?_) (fun hb => ?_) <;> (conv => lhs; whnf)
  rotate_left
  · exact (hD _).2 ⟨rfl, by rw [decide_eq_false (fun e => hb (by injection e))]⟩
  refine split_dec (fun e3 => ?_) (fun hb => ?_) <;> (conv => lhs; whnf)
  rotate_left
  · exact (hD _).2 ⟨rfl, by rw [decide_eq_false (fun e => hb (by injection e))]⟩
  refine split_dec (fun e4 => ?_) (fun hb => ?_) <;> (conv => lhs; whnf)
  rotate_left
  · exact (hD _).2 ⟨rfl, by rw [decide_eq_false (fun e => hb (by injection e))]⟩
  refine split_b (fun e5 => ?_) (fun hb => ?_) <;> (conv => lhs; whnf)
  rotate_left
  · exact (hD _).2 ⟨rfl, by rw [decide_eq_false (fun e => absurd hb (by injection e; subst_vars; simp [beqL_iff]))]⟩
  refine (hD _).2 ⟨(data, data'), ⟨vd, vd', rfl, hx1, hy1⟩, fun v A' ⟨q1, q2⟩ => ?_⟩
  subst q1; subst q2
  conv => lhs; whnf
  refine split_dec (fun e6 => ?_) (fun hb => ?_) <;> (conv => lhs; whnf)
  rotate_left
  · exact (hD _).2 ⟨rfl, by rw [decide_eq_false (fun e => hb (by injection e))]⟩
  refine split_dec (fun e7 => ?_) (fun hb => ?_) <;> (conv => lhs; whnf)
  rotate_left
  · exact (hD _).2 ⟨rfl, by rw [decide_eq_false (fun e => hb (by injection e))]⟩
  refine split_dec (fun e8 => ?_) (fun hb => ?_) <;> (conv => lhs; whnf)
  rotate_left
  · exact (hD _).2 ⟨rfl, by rw [decide_eq_false (fun e => hb (by injection e))]⟩
  refine split_b (fun e9 => ?_) (fun hb => ?_) <;> (conv => lhs; whnf)
  rotate_left
  · exact (hD _).2 ⟨rfl, by rw [decide_eq_false (fun e => absurd hb (by injection e; subst_vars; simp))]⟩
  refine split_dec (fun e10 => ?_) (fun hb => ?_) <;> (conv => lhs; whnf)
  rotate_left
  · exact (hD _).2 ⟨rfl, by rw [decide_eq_false (fun e => hb (by injection e))]⟩
  refine split_dec (fun e11 => ?_) (fun hb => ?_) <;> (conv => lhs; whnf)
  rotate_left
  · exact (hD _).2 ⟨rfl, by rw [decide_eq_false (fun e => hb (by injection e))]⟩
  refine split_dec (fun e12 => ?_) (fun hb => ?_) <;> (conv => lhs; whnf)
  rotate_left
  · exact (hD _).2 ⟨rfl, by rw [decide_eq_false (fun e => hb (by injection e))]⟩
  refine split_dec (fun e13 => ?_) (fun hb => ?_) <;> (conv => lhs; whnf)
  rotate_left
  · exact (hD _).2 ⟨rfl, by rw [decide_eq_false (fun e => hb (by injection e))]⟩
  refine (hD _).2 ⟨(mem, mem'), ⟨vm, vm', rfl, hx2, hy2⟩, fun v A' ⟨q1, q2⟩ => ?_⟩
  subst q1; subst q2
  conv => lhs; whnf
  refine split_dec (fun e14 => ?_) (fun hb => ?_) <;> (conv => lhs; whnf)
  rotate_left
  · exact (hD _).2 ⟨rfl, by rw [decide_eq_false (fun e => hb (by injection e))]⟩
  refine (hD _).2 ⟨(parts, parts'), ⟨vp, vp', rfl, fun d hd => ?_, ⟨rows, hx3, hx4, hx5⟩, rows', hy3, hy4, hy5⟩, fun v A' ⟨q1, q2⟩ => ?_⟩
  · have := List.mem_iff_getElem.1 hd
    obtain ⟨k, hk, rfl⟩ := this
    have := sz_at hk
    simp only [AskD.sz] at hsz this ⊢
    omega
  subst q1; subst q2
  conv => lhs; whnf
  refine (hD _).2 ⟨rfl, ?_⟩
  have h5 : path = path' := by
    have := beqL_iff.1 (by simpa using e5)
    exact ByteArray.ext (Array.toList_inj.1 this)
  have h9 : watch = watch' := by simpa using e9
  simp only at e6 e14
  subst e1 e2 e3 e4 h5 e6 e7 e8 h9 e10 e11 e12 e13 e14
  simp

/-- Two calls, of whatever size. -/
theorem sameAsk_all : ∀ m, FOk Try.prog 16 (sameAskS m)
  | 0 => fun g vs A w _ hp => by obtain ⟨_, _, _, h, _⟩ := hp; omega
  | m + 1 => sameAsk_of m (sameAsks_of m (sameAsk_all m))

def sameAskS' : FSpec := ⟨AskD × AskD, fun g vs A => ∃ x y, vs = [askV x, askV y] ∧ AskR A g.1 x ∧ AskR A g.2 y, fun g _ A v A' => A' = A ∧ v = .bool (decide (g.1 = g.2))⟩

theorem sameAsk_ok : FOk Try.prog 16 sameAskS' := fun g vs A w hA ⟨x, y, h1, h2, h3⟩ =>
  sameAsk_all (g.1.sz + 1) g vs A w hA ⟨x, y, h1, Nat.lt_succ_self _, h2, h3⟩

end
end Go.Proofs.Ytpingnkjenicaaa

namespace Go.Proofs.Ytpingnkjenicaaa
open Go.Sx Go.RowKit
noncomputable section
open Classical

/-! ### Calls: the row alone -/

/-- Every cell of a call is one cell. -/
theorem askR_one {B : Arena} {d : AskD} {cs : List Value} (h : AskR B d cs) : ∀ v ∈ cs, v.oneCell' = true := by
  cases d
  obtain ⟨vd, vm, vp, rows, rfl, ⟨⟨_, _, rfl, _⟩, _⟩, ⟨⟨_, _, rfl, _⟩, _⟩, ⟨_, _, rfl, _⟩, _⟩ := h
  intro v hv
  simp only [List.mem_cons, List.not_mem_nil, or_false] at hv
  rcases hv with rfl | rfl | rfl | rfl | rfl | rfl | rfl | rfl | rfl | rfl | rfl | rfl | rfl | rfl | rfl <;> rfl

theorem asksR_one {B : Arena} : ∀ {ds : List AskD} {rows : List (List Value)}, AsksR B ds rows → ∀ v ∈ rows.flatten, v.oneCell' = true
  | [], _, h => by simp [AsksR] at h; subst h; simp
  | d :: ds, rows, h => by
    obtain ⟨r, rs, rfl, h1, h2⟩ := h
    intro v hv
    rw [List.flatten_cons, List.mem_append] at hv
    rcases hv with hv | hv
    · exact askR_one h1 v hv
    · exact asksR_one h2 v hv

/-- A row of calls, as it is; behind the call a row of its own has the same cells. -/
def cloneAsksS : FSpec := ⟨List AskD × List (List Value), fun g vs A => ∃ x, vs = [x] ∧ Sl A 15 g.1.length x g.2.flatten ∧ g.1.length * 168 ≤ 140737488351232 ∧ AsksR A g.1 g.2, fun g _ A v A' => A.Sub A' ∧ Sl (A'.minus A) 15 g.1.length v g.2.flatten ∧ (0 < g.1.length → ∃ b nc c t, v = .slice (some ⟨b, 0, none⟩) g.1.length nc ∧ g.1.length ≤ nc ∧ A.blk b = none ∧ A'.blk b = some (.cells c t (0, 0)) ∧ g.1.length * 15 ≤ c.size)⟩

set_option maxRecDepth 100000 in
set_option maxHeartbeats 0 in
theorem cloneAsks_ok : FOk Try.prog 59 cloneAsksS := by
  refine fok_v mixed fun ⟨ds, rows⟩ vs A hp => ?_
  simp only [cloneAsksS] at hp
  obtain ⟨x, rfl, ⟨ao, c, rfl, hc, hl, ha1, ha2, ha3⟩, hxl, hR⟩ := hp
  have hrow : ds.length = 0 → rows.flatten = [] := fun h => List.length_eq_zero_iff.1 (by rw [hl, h])
  refine ⟨noC, noL, 60, noC_sound _, noL_sound _, fun blk os out tape D hD => ?_⟩
  conv => lhs; whnf
  refine split_b (fun hb => ?_) (fun hb => ?_) <;> (conv => lhs; whnf)
  · have h0 : ao = none := by simpa using hb
    have h1 := ha1 h0
    have h2 : ds.length = 0 := by omega
    refine (hD _).2 ⟨Arena.Sub.refl _, ?_, fun (h : 0 < ds.length) => by omega⟩
    show Sl _ 15 ds.length _ rows.flatten
    rw [hrow h2, h2]
    exact Sl.nil _ _
  · have h0 : ∃ a, ao = some a := by cases ao with
      | none => simp at hb
      | some a => exact ⟨a, rfl⟩
    obtain ⟨⟨g, o, sp⟩, rfl⟩ := h0
    have hsp : sp = none ∨ ds.length = 0 := by
      rcases Nat.eq_zero_or_pos c with h | h
      · right; omega
      · left; exact ha2 _ rfl h
    rcases sp with _ | sp
    all_goals
      refine (hD _).2 fun g1 A1 hN => ?_
      conv => lhs; whnf
      refine (hD _).2 ⟨[], rows.flatten, rfl, ?_, hl, (asksR_one hR), by omega, ?_, rfl, fun h => (by cases h), fun _ _ _ h1 h2 => ?_, fun v A2 hA => ?_⟩
      · first
        | (show (if ds.length = 0 then some [] else A1.rd g o (ds.length * 15)) = _
           by_cases h0 : ds.length = 0
           · rw [if_pos h0, hrow h0]
           · rw [if_neg h0]; exact rd_sub hN.sub (ha3 (by omega) _ rfl))
        | (have h9 : ds.length = 0 := hsp.resolve_left (by simp)
           show (if ds.length = 0 then some [] else none) = _
           rw [if_pos h9, hrow h9])
      · intro h0
        rw [nextcap0 h0]
        show ds.length * 168 ≤ _
        omega
      · exfalso
        exact h2 (hrow (by omega))
      · obtain ⟨k1, k2⟩ := clone_end hN.sub hA hl
        conv => lhs; whnf
        exact (hD _).2 ⟨k1, k2, fun h => clone_row hN.sub hA hl h⟩


/-! ### A call in memory of its own -/

def copiedS (n : Nat) : FSpec := ⟨AskD, fun d vs A => ∃ cs, vs = [askV cs] ∧ d.sz < n ∧ AskR A d cs, fun d _ A v A' => A.Sub A' ∧ ∃ cs, v = askV cs ∧ AskR (A'.minus A) d cs⟩

/-- The arena but for a block. -/
def Arena.but (A : Arena) (g : Nat) : Arena := Arena.of fun k => if k = g then none else A.blk k

/-- What lies while the parts are gone through: k are done. -/
structure Mid (A3 : Arena) (g : Nat) (ds : List AskD) (rows : List (List Value)) (k : Nat) (done : List (List Value)) (Ak : Arena) : Prop where
  le : k ≤ ds.length
  len : done.length = k
  red : AsksR (Ak.minus A3) (ds.take k) done
  sub : (Arena.but A3 g).Sub Ak
  row : Ak.rd g 0 (ds.length * 15) = some (done ++ rows.drop k).flatten
  own : ∃ c t, Ak.blk g = some (.cells c t (0, 0)) ∧ ds.length * 15 ≤ c.size

theorem but_sub {A2 A3 : Arena} {g : Nat} (h : A2.Sub A3) (hg : A2.blk g = none) : A2.Sub (Arena.but A3 g) := fun k o hk => by
  show (if k = g then none else A3.blk k) = some o
  rw [if_neg (fun e => by subst e; rw [hg] at hk; cases hk)]
  exact h k o hk

theorem asks_take {B : Arena} : ∀ {ds : List AskD} {done : List (List Value)} {k : Nat} (hk : k < ds.length) {cs : List Value}, AsksR B (ds.take k) done → AskR B ds[k] cs → AsksR B (ds.take (k + 1)) (done ++ [cs])
  | d :: ds, done, 0, _, cs, h, hc => by
    simp only [List.take_zero, AsksR] at h
    subst h
    exact ⟨cs, [], rfl, hc, rfl⟩
  | d :: ds, done, k + 1, hk, cs, h, hc => by
    simp only [List.take_succ_cons] at h ⊢
    obtain ⟨r, rs, rfl, h1, h2⟩ := h
    exact ⟨r, rs ++ [cs], rfl, h1, asks_take (ds := ds) (k := k) (by simpa using hk) h2 (by simpa using hc)⟩

theorem flat15 : ∀ {l : List (List Value)}, (∀ r ∈ l, r.length = 15) → l.flatten.length = l.length * 15
  | [], _ => rfl
  | r :: l, h => by
    rw [List.flatten_cons, List.length_append, flat15 (fun r' h' => h r' (List.mem_cons_of_mem _ h')), h r (by simp), List.length_cons]; omega

theorem mid_start {A3 : Arena} {g : Nat} {ds : List AskD} {rows : List (List Value)} {c : Array Value} {t : TypeId} (hg : A3.blk g = some (.cells c t (0, 0))) (hc : ds.length * 15 ≤ c.size) (hr : A3.rd g 0 (ds.length * 15) = some rows.flatten) : Mid A3 g ds rows 0 [] A3 where
  le := Nat.zero_le _
  len := rfl
  red := by simp [AsksR]
  sub := fun k o hk => by
    have hk : (if k = g then none else A3.blk k) = some o := hk
    split at hk
    · cases hk
    · exact hk
  row := by simpa using hr
  own := ⟨c, t, hg, hc⟩

theorem mid_step {A3 : Arena} {g : Nat} {ds : List AskD} {rows : List (List Value)} {k : Nat} {done : List (List Value)} {Ak A' A'' : Arena} (hM : Mid A3 g ds rows k done Ak) (hk : k < ds.length) (hlen : rows.length = ds.length) (h15 : ∀ r ∈ rows, r.length = 15)
    {o : Obj} (hg3 : A3.blk g = some o) {cs : List Value} (hs : Ak.Sub A') (hc : AskR (A'.minus Ak) ds[k] cs) {o' : Nat} (ho : o' = k * 15) (hp : A'.Put A'' g o' cs) : Mid A3 g ds rows (k + 1) (done ++ [cs]) A'' := by
  subst ho
  obtain ⟨c, t, hb, hcs⟩ := hM.own
  have hb' := hs _ _ hb
  obtain ⟨c0, t0, fz0, c1, e1, e2, e3⟩ := hp.at_
  rw [hb'] at e1
  injection e1 with e1
  injection e1 with e1 e4 e5
  subst e1 e4 e5
  have hcl : cs.length = 15 := hc.len
  have hd15 := hM.red.lens
  have hdf : done.flatten.length = k * 15 := by rw [flat15 hd15, hM.len]
  have hnew : ∀ b ob, A'.blk b = some ob → b ≠ g → A''.blk b = some ob := fun b ob h hne => by rw [hp.other b hne]; exact h
  have hneg : ∀ b ob, (A'.minus Ak).blk b = some ob → b ≠ g := fun b ob h e => by
    subst e
    rw [minus_none _ hb] at h; cases h
  refine ⟨by omega, by simp [hM.len], asks_take hk ?_ ?_, ?_, ?_, ⟨c1, t, e2, ?_⟩⟩
  · -- those that were done
    refine AsksR.sub (fun b ob h => ?_) _ _ hM.red
    obtain ⟨h1, h2⟩ := minus_blk h
    exact minus_mk h1 (hnew _ _ (hs _ _ h2) fun e => by subst e; rw [hg3] at h1; cases h1)
  · -- the new one
    refine AskR.sub (fun b ob h => ?_) _ _ hc
    obtain ⟨h1, h2⟩ := minus_blk h
    refine minus_mk ?_ (hnew _ _ h2 (hneg _ _ h))
    cases h3 : A3.blk b with
    | none => rfl
    | some o3 =>
      have := hM.sub b o3 (by show (if b = g then none else A3.blk b) = _; rw [if_neg (hneg _ _ h)]; exact h3)
      rw [this] at h1; cases h1
  · intro b ob h
    have hbg : b ≠ g := fun e => by
      have h : (if b = g then none else A3.blk b) = some ob := h
      rw [if_pos e] at h; cases h
    exact hnew _ _ (hs _ _ (hM.sub _ _ h)) hbg
  · -- the row
    have hrow := hM.row
    obtain ⟨c', t', fz', hb2, hle, hfl⟩ := rd_some hrow
    rw [hb] at hb2
    injection hb2 with hb2
    injection hb2 with hb2 _ _
    subst hb2
    have hcl1 : c.toList.length = c.size := Array.length_toList
    have hsz : c1.size = c.size := by
      rw [← Array.length_toList, e3]; simp; omega
    rw [rd_mk e2 (by omega)]
    congr 1
    rw [List.drop_zero] at hfl ⊢
    have hdrop : rows.drop k = rows[k]'(by omega) :: rows.drop (k + 1) := List.drop_eq_getElem_cons (by omega)
    have hsplit : c.toList = done.flatten ++ rows[k]'(by omega) ++ (rows.drop (k + 1)).flatten ++ c.toList.drop (ds.length * 15) := by
      have := List.take_append_drop (ds.length * 15) c.toList
      rw [← hfl, hdrop, List.flatten_append, List.flatten_cons] at this
      simpa only [List.append_assoc] using this.symm
    have hr15 := h15 _ (List.getElem_mem (l := rows) (n := k) (by omega))
    have htail : ((rows.drop (k + 1)).flatten).length = (ds.length - (k + 1)) * 15 := by
      rw [flat15 (fun r hr => h15 r (List.mem_of_mem_drop hr)), List.length_drop, hlen]
    rw [e3]
    have t1 : c.toList.take (k * 15) = done.flatten := by
      rw [hsplit, List.append_assoc, List.append_assoc, List.take_left' hdf]
    have t2 : c.toList.drop (k * 15 + cs.length) = (rows.drop (k + 1)).flatten ++ c.toList.drop (ds.length * 15) := by
      conv => lhs; rw [hsplit]
      rw [List.append_assoc, List.drop_left' (by simp [hdf, hr15, hcl])]
    rw [t1, t2, ← List.append_assoc, List.take_left' (by
      simp only [List.length_append, hdf, hcl, htail]
      have : (ds.length - (k + 1)) * 15 + (k + 1) * 15 = ds.length * 15 := by rw [← Nat.add_mul]; congr 1; omega
      omega)]
    simp
  · have hcl1 : c.toList.length = c.size := Array.length_toList
    have : c1.size = c.size := by
      rw [← Array.length_toList, e3]; simp; omega
    omega

theorem mid_at {A3 : Arena} {g : Nat} {ds : List AskD} {rows : List (List Value)} {k : Nat} {done : List (List Value)} {Ak : Arena} (hM : Mid A3 g ds rows k done Ak) (hk : k < ds.length) (hlen : rows.length = ds.length) (h15 : ∀ r ∈ rows, r.length = 15) : Ak.rd g (0 + k * 15) 15 = some (rows[k]'(by omega)) := by
  have hl : (done ++ rows.drop k).length = ds.length := by
    have := hM.len
    simp; omega
  rw [rows_at (rows := done ++ rows.drop k) hM.row (fun r hr => by
    rcases List.mem_append.1 hr with hr | hr
    · exact hM.red.lens r hr
    · exact h15 r (List.mem_of_mem_drop hr)) k (by omega) hl.symm]
  congr 1
  rw [List.getElem_append_right (by have := hM.len; omega)]
  have := hM.len
  simp [this]

def copyInv (A3 : Arena) (g : Nat) (ds : List AskD) (rows : List (List Value)) : LInv := { γ := Nat × List (List Value) × Arena, G := fun s => Mid A3 g ds rows s.1 s.2.1 s.2.2, keepS := [1, 2, 18, 19], keepB := [0, 1], sl := fun s => [(20, .v (.int .i64 s.1))], bl := fun _ => [], ar := fun s => s.2.2, mu := fun s => ds.length - s.1 }

set_option maxRecDepth 100000 in
set_option maxHeartbeats 0 in
theorem copied_of (m : Nat) (ih : FOk Try.prog 30 (copiedS m)) : FOk Try.prog 30 (copiedS (m + 1)) := by
  refine fok_v mixed fun d vs A hp => ?_
  simp only [copiedS] at hp
  obtain ⟨x, rfl, hsz, hx⟩ := hp
  obtain ⟨kind, xid, ses, turn, path, data, flags, ver, watch, sort, last, tmo, frm, mem, parts⟩ := d
  obtain ⟨vd, vm, vp, rows, rfl, hx1, hx2, hx3, hx4, hx5⟩ := hx
  have hC : CTSound Try.prog (lookC [specE 30 (copiedS m), specE 58 cloneBytesS, specE 51 cloneMembersS, specE 59 cloneAsksS] noC) := lookC_sound (noC_sound _) (fun x hx => by
    simp only [List.mem_cons, List.not_mem_nil, or_false] at hx
    rcases hx with rfl | rfl | rfl | rfl
    · exact specE_ok ih
    · exact specE_ok cloneBytes_ok
    · exact specE_ok cloneMembers_ok
    · exact specE_ok cloneAsks_ok)
  refine ⟨_, tabO Try.prog _ noL 60 [(30, 0)], 60, hC, tabO_sound mixed hC (noL_sound _) _ _, fun blk os out tape D hD => ?_⟩
  conv => lhs; whnf
  refine (hD _).2 ⟨data, ⟨vd, rfl, hx1⟩, fun vd' A1 hq => ?_⟩
  obtain ⟨s1, b1⟩ : A.Sub A1 ∧ SlB (A1.minus A) vd' data := hq
  obtain ⟨ao1, k1, rfl⟩ := b1.1.form
  conv => lhs; whnf
  repeat (refine go_D hD rfl ?_; conv => lhs; whnf)
  refine (hD _).2 ⟨mem, ⟨vm, rfl, hx2.sub s1⟩, fun vm' A2 hq => ?_⟩
  obtain ⟨s2, b2⟩ : A1.Sub A2 ∧ MemR (A2.minus A1) vm' mem := hq
  obtain ⟨ao2, k2, rfl⟩ := b2.1.form
  conv => lhs; whnf
  repeat (refine go_D hD rfl ?_; conv => lhs; whnf)
  refine (hD _).2 ⟨(parts, rows), ⟨vp, rfl, hx3.sub (s1.trans s2), hx4, AsksR.sub (s1.trans s2) _ _ hx5⟩, fun vp' A3 hq => ?_⟩
  obtain ⟨s3, b3, b4⟩ : A2.Sub A3 ∧ Sl (A3.minus A2) 15 parts.length vp' rows.flatten ∧ (0 < parts.length → ∃ b nc c t, vp' = .slice (some ⟨b, 0, none⟩) parts.length nc ∧ parts.length ≤ nc ∧ A2.blk b = none ∧ A3.blk b = some (.cells c t (0, 0)) ∧ parts.length * 15 ≤ c.size) := hq
  obtain ⟨ao3, k3, rfl⟩ := b3.form
  conv => lhs; whnf
  by_cases hn : parts.length = 0
  · refine (hD _).2 ⟨cnt A3 20 [1, 2, 18, 19] [0, 1] 0 fun _ => True, ⟨(0 : Nat), ⟨Nat.zero_le _, trivial⟩, ⟨rfl, trivial⟩, trivial, rfl⟩, fun (k : Nat) hk => ⟨⟨trivial, trivial⟩, trivial, ?_⟩⟩
    simp only [cnt] at hk
    obtain rfl : k = 0 := by omega
    conv => lhs; whnf
    refine split_dec (fun hlt => by omega) (fun hb => ?_)
    conv => lhs; whnf
    have hp0 : parts = [] := List.length_eq_zero_iff.1 hn
    subst hp0
    simp only [AsksR] at hx5
    subst hx5
    have s13 : A1.Sub A3 := s2.trans s3
    exact (hD _).2 ⟨s1.trans s13, _, rfl, _, _, _, [], rfl, b1.sub (minus_up s13), b2.sub ((minus_later s1).trans (minus_up s3)), b3.sub (minus_later (s1.trans s2)), by simp, rfl⟩
  · obtain ⟨g, nc, c, t, he, hnc, hg2, hg3, hcs⟩ := b4 (by omega)
    injection he with he1 _ he3
    subst he1 he3
    refine (hD _).2 ⟨copyInv A3 g parts rows, ⟨(0, [], A3), ?_, ⟨rfl, trivial⟩, trivial, rfl⟩, fun s hG => ⟨⟨trivial, trivial⟩, trivial, ?_⟩⟩
    · have hr := b3
      obtain ⟨ao, cc, hv, _, _, _, _, hrd⟩ := hr
      injection hv with hv1 _ hv3
      subst hv1
      exact mid_start hg3 hcs (rd_sub (minus_sub _ _) (hrd (Nat.pos_of_ne_zero hn) _ rfl))
    · obtain ⟨k, done, Ak⟩ := s
      simp only [copyInv] at hG
      have hlen := hx5.length
      have h15 := hx5.lens
      have sAk : A.Sub Ak := ((s1.trans s2).trans (but_sub s3 hg2)).trans hG.sub
      have sA3 : A.Sub A3 := (s1.trans s2).trans s3
      conv => lhs; whnf
      refine split_dec (fun hlt => ?_) (fun hb => ?_) <;> (conv => lhs; whnf)
      · have hk : k < parts.length := by
          have hlt : (k : Int) < parts.length := hlt
          omega
        refine split_in (fun _ _ => ?_) (fun h => ?_)
        rotate_left
        · exfalso
          have h : ¬ (0 ≤ (k : Int) ∧ (k : Int) < parts.length) := h
          omega
        conv => lhs; whnf
        have hat := mid_at hG hk hlen h15
        have hR := hx5.at_ k hk (by omega)
        generalize rows[k]'(by omega) = r at hat hR
        obtain ⟨p0, p1, p2, p3, p4, q5, u5, n5, p6, p7, p8, p9, p10, p11, p12, q13, u13, n13, q14, u14, n14, rfl⟩ := hR.form
        refine go_rd hat ?_
        conv => lhs; whnf
        refine (hD _).2 ⟨parts[k], ⟨_, rfl, ?_, AskR.sub sAk _ _ hR⟩, fun v A' hq => ?_⟩
        · have := sz_at hk
          simp only [AskD.sz] at hsz
          omega
        obtain ⟨s', cs', hv, hR'⟩ : Ak.Sub A' ∧ ∃ cs, v = askV cs ∧ AskR (A'.minus Ak) parts[k] cs := hq
        subst hv
        have h15' := hR'.len
        obtain ⟨p0', p1', p2', p3', p4', q5', u5', n5', p6', p7', p8', p9', p10', p11', p12', q13', u13', n13', q14', u14', n14', rfl⟩ := hR'.form
        conv => lhs; whnf
        repeat (refine go_D hD rfl ?_; conv => lhs; whnf)
        refine split_in (fun _ _ => ?_) (fun h => ?_)
        rotate_left
        · exfalso
          have h : ¬ (0 ≤ (k : Int) ∧ (k : Int) < parts.length) := h
          omega
        conv => lhs; whnf
        refine (hD _).2 ⟨?_, fun A'' hPut => ?_⟩
        · obtain ⟨c', t', hb', hc'⟩ := hG.own
          refine ⟨c', t', _, s' _ _ hb', ?_, ?_⟩
          · show 0 + k * 15 + 15 ≤ c'.size
            omega
          · exact .inl rfl
        conv => lhs; whnf
        refine (hD _).2 ⟨(k + 1, done ++ [_], A''), ⟨mid_step hG hk hlen h15 hg3 s' hR' (show 0 + k * 15 = k * 15 by omega) hPut, ⟨inc_slot (by omega), trivial⟩, trivial, rfl⟩, ?_, ⟨rfl, rfl, rfl, rfl, trivial⟩, ⟨rfl, rfl, trivial⟩⟩
        show parts.length - (k + 1) < parts.length - k
        omega
      · have hk : k = parts.length := by
          have := hG.le
          have hb : ¬ ((k : Int) < parts.length) := hb
          omega
        subst hk
        have hrow := hG.row
        have hred := hG.red
        rw [List.drop_eq_nil_of_le (by omega), List.append_nil] at hrow
        rw [List.take_length] at hred
        have s3' : A2.Sub Ak := (but_sub s3 hg2).trans hG.sub
        have hgA : A.blk g = none := by
          cases h : A.blk g with
          | none => rfl
          | some o => rw [(s1.trans s2) _ _ h] at hg2; cases hg2
        exact (hD _).2 ⟨sAk, _, rfl, _, _, _, done, rfl, b1.sub (minus_up (s2.trans s3')), b2.sub ((minus_later s1).trans (minus_up s3')), Sl.row hnc (rd_minus hrow hgA), hx4, AsksR.sub ((minus_later sA3)) _ _ hred⟩

/-- A call of whatever size. -/
theorem copied_all : ∀ m, FOk Try.prog 30 (copiedS m)
  | 0 => fun g vs A w _ hp => by obtain ⟨_, _, h, _⟩ := hp; omega
  | m + 1 => copied_of m (copied_all m)

def copiedS' : FSpec := ⟨AskD, fun d vs A => ∃ cs, vs = [askV cs] ∧ AskR A d cs, fun d _ A v A' => A.Sub A' ∧ ∃ cs, v = askV cs ∧ AskR (A'.minus A) d cs⟩

theorem copied_ok : FOk Try.prog 30 copiedS' := fun g vs A w hA ⟨x, h1, h2⟩ =>
  copied_all (g.sz + 1) g vs A w hA ⟨x, h1, Nat.lt_succ_self _, h2⟩

end
end Go.Proofs.Ytpingnkjenicaaa

namespace Go.Proofs.Ytpingnkjenicaaa
open Go.Sx Go.RowKit
noncomputable section
open Classical

/-- Where a slice's address may lie. -/
theorem addr_cases {A : Arena} {es n c : Nat} {a : Option Addr} {cs : List Value} (h : Sl A es n (.slice a n c) cs) (hl : cs.length = n * es) :
    (a = none ∧ n = 0 ∧ ∀ A1, A.Sub A1 → (if n = 0 then some [] else none) = some cs) ∨ (∃ g o t, a = some ⟨g, o, some t⟩ ∧ n = 0 ∧ ∀ A1, A.Sub A1 → (if n = 0 then some [] else none) = some cs) ∨ ∃ g o, a = some ⟨g, o, none⟩ ∧ ∀ A1, A.Sub A1 → (if n = 0 then some [] else A1.rd g o (n * es)) = some cs := by
  obtain ⟨a', c', e, hc, _, h1, h2, h3⟩ := h
  injection e with e1 e2 e3
  subst e1; subst e3
  have hnil : n = 0 → cs = [] := fun h0 => List.length_eq_zero_iff.1 (by rw [hl, h0, Nat.zero_mul])
  cases a with
  | none =>
    have h0 : n = 0 := by have := h1 rfl; omega
    exact .inl ⟨rfl, h0, fun _ _ => by rw [if_pos h0, hnil h0]⟩
  | some a =>
    obtain ⟨g, o, sp⟩ := a
    cases sp with
    | none =>
      refine .inr (.inr ⟨g, o, rfl, fun A1 hs => ?_⟩)
      by_cases h0 : n = 0
      · rw [if_pos h0, hnil h0]
      · rw [if_neg h0]; exact rd_sub hs (h3 (by omega) _ rfl)
    | some t =>
      have h0 : n = 0 := by
        rcases Nat.eq_zero_or_pos c with hh | hh
        · omega
        · have := h2 _ rfl hh
          cases this
      exact .inr (.inl ⟨g, o, t, rfl, h0, fun _ _ => by rw [if_pos h0, hnil h0]⟩)

theorem nextcap_le2 {m c : Nat} (h : c < m) : Builtin.nextslicecap m c ≤ m + m / 4 + 520 := by
  unfold Builtin.nextslicecap
  split
  · omega
  · split
    · omega
    · have := growBy_le m 4 c h; omega

/-- A row that grows, however long it is. -/
theorem grow_open {A1 A : Arena} {es : Nat} {e : TypeId} {n : Nat} {v : Value} {cs : List Value} (h : GrowR A1 A es e n v cs) :
    ∃ base c, v = .slice (addrA base) n c ∧ (base = none ∨ ∃ g, base = some (g, 0)) ∧ baseRd A base (n * es) = some cs ∧ (base = none → n = 0 ∧ c = 0) ∧ (∀ (m : Nat), m = es → ∀ g o, base = some (g, o) → n + 1 ≤ c → A.Room g (o + n * es) m) ∧
    ∀ ys v' A', ys.length = es → (∀ k, A.blk k = none → A1.blk k = none) → Appended A base n c es e cs ys 1 v' A' → GrowR A1 A' es e (n + 1) v' (cs ++ ys) ∧ ∀ k o, A1.blk k = some o → A'.blk k = A.blk k := by
  obtain ⟨base, c, hv, hb, _, hA⟩ := h.form
  refine ⟨base, c, hv, hb, ?_, ?_, ?_, hA⟩
  all_goals
    obtain ⟨hl, ⟨h0, h1⟩ | ⟨g, nc, cc, h1, hn, hpos, hg, hbl, hsz, ht⟩⟩ := h
    · rw [hv] at h1
      injection h1 with e1 e2 e3
      have e1 : base = none := addrA_inj (b' := none) e1
      subst e1
      first
      | (have : cs = [] := List.length_eq_zero_iff.1 (by rw [hl, h0, Nat.zero_mul])
         subst this
         subst h0
         simp [baseRd]; done)
      | exact fun _ => ⟨h0, e3⟩
      | exact fun _ _ _ _ h => (by cases h)
    · rw [hv] at h1
      injection h1 with e1 e2 e3
      have e1 : base = some (g, 0) := addrA_inj (b' := some (g, 0)) e1
      subst e1
      subst e3
      have hle : n * es ≤ c * es := Nat.mul_le_mul_right _ hn
      first
      | (show (if n * es = 0 then some [] else A.rd g 0 (n * es)) = some cs
         by_cases h0 : n * es = 0
         · rw [if_pos h0]
           rw [h0] at hl; rw [List.length_eq_zero_iff.1 hl]
         · rw [if_neg h0, rd_mk hbl (by omega)]; simp [ht]
         done)
      | exact fun m hm g' o' h hlt => (by
          injection h with h; injection h with h1 h2; subst h1; subst h2; subst hm
          refine ⟨cc, e, (0, 0), hbl, ?_, .inl rfl⟩
          have := Nat.mul_le_mul_right m hlt
          rw [Nat.succ_mul] at this; omega)
      | exact fun h => (by cases h)

/-- The row lies in what is new. -/
theorem grow_minus {A0 K A : Arena} {es : Nat} {e : TypeId} {n : Nat} {v : Value} {cs : List Value} (h : GrowR K A es e n v cs) (hs : A0.Sub K) : Sl (A.minus A0) es n v cs := by
  obtain ⟨hl, h1 | ⟨g, nc, cc, h1, hn, hpos, hg, hbl, hsz, ht⟩⟩ := h
  · exact GrowR.sl (A1 := K) (e := e) ⟨hl, .inl h1⟩
  · refine GrowR.sl (A1 := K) (e := e) ⟨hl, .inr ⟨g, nc, cc, h1, hn, hpos, hg, minus_mk ?_ hbl, hsz, ht⟩⟩
    cases h0 : A0.blk g with
    | none => rfl
    | some o => rw [hs g o h0] at hg; cases hg

theorem grow_plus {K As A5 : Arena} {es : Nat} {e : TypeId} {n : Nat} {v : Value} {cs : List Value} (h : GrowR K As es e n v cs) : GrowR (K.plus (A5.minus As)) As es e n v cs := by
  obtain ⟨hl, h1 | ⟨g, nc, cc, h1, hn, hpos, hg, hbl, hsz, ht⟩⟩ := h
  · exact ⟨hl, .inl h1⟩
  · refine ⟨hl, .inr ⟨g, nc, cc, h1, hn, hpos, ?_, hbl, hsz, ht⟩⟩
    rw [plus_blk, hg]
    exact minus_none A5 hbl

structure RcG where
  k : Nat
  A : Arena
  K : Arena
  v : Value
  rows : List (List Value)

structure RcI (A0 A2 : Arena) (parts : List AskD) (s : RcG) : Prop where
  le : s.k ≤ parts.length
  know : s.K.Sub s.A
  old : A2.Sub s.K
  row : GrowR s.K s.A 15 34 s.k s.v s.rows.flatten
  asks : AsksR (s.K.minus A0) (parts.take s.k) s.rows

def rcopyInv (A0 A2 : Arena) (parts : List AskD) : LInv :=
  { γ := RcG, G := RcI A0 A2 parts, keepS := [1, 2], keepB := [0, 1], sl := fun s => [(4, .v (.int .i64 s.k)), (3, .v s.v)], bl := fun _ => [], ar := fun s => s.A, mu := fun s => parts.length - s.k }

set_option maxRecDepth 100000 in
set_option maxHeartbeats 0 in
theorem rcopied_of (m : Nat) (ih : FOk Try.prog 31 (copiedS m)) : FOk Try.prog 31 (copiedS (m + 1)) := by
  refine fok_v mixed fun d vs A hp => ?_
  simp only [copiedS] at hp
  obtain ⟨x, rfl, hsz, hx⟩ := hp
  obtain ⟨kind, xid, ses, turn, path, data, flags, ver, watch, sort, last, tmo, frm, mem, parts⟩ := d
  rw [AskR] at hx
  obtain ⟨vd, vm, vp, rows, rfl, hx1, hx2, hx3, hx4, hx5⟩ := hx
  have hC : CTSound Try.prog (lookC [specE 31 (copiedS m)] noC) := lookC_sound (noC_sound _) (fun x hx => by
    simp only [List.mem_singleton] at hx
    subst hx; exact specE_ok ih)
  obtain ⟨a5, k5, rfl⟩ := hx1.1.form
  obtain ⟨a13, k13, rfl⟩ := hx2.1.form
  obtain ⟨a14, k14, rfl, hc14, _, hz1, hz2, hz3⟩ := hx3
  have hdl : (data.map bv).length = data.length * 1 := by rw [List.length_map]; omega
  have hml := memCells_len mem
  have hone1 : ∀ v ∈ data.map bv, v.oneCell' = true := fun v hv => by
    obtain ⟨b, _, rfl⟩ := List.mem_map.1 hv
    rfl
  have hone2 : ∀ v ∈ memCells mem, v.oneCell' = true := fun v hv => by
    unfold memCells at hv
    obtain ⟨r, hr, hv⟩ := List.mem_flatten.1 hv
    obtain ⟨y, _, rfl⟩ := List.mem_map.1 hr
    simp only [MemD.cells, List.mem_cons, List.not_mem_nil, or_false] at hv
    rcases hv with rfl | rfl | rfl | rfl <;> rfl
  refine ⟨_, tabO Try.prog _ noL 60 [(31, 0)], 60, hC, tabO_sound mixed hC (noL_sound _) _ _, fun blk os out tape D hD => ?_⟩
  refine Or.elim (addr_cases hx1.1 hdl) (fun e => ?_) (fun e => Or.elim e (fun e => ?_) (fun e => ?_))
  obtain ⟨e, _, hsrc⟩ := e
  subst e
  rotate_left
  obtain ⟨g5, o5, t5, e, _, hsrc⟩ := e
  subst e
  rotate_left
  obtain ⟨g5, o5, e, hsrc⟩ := e
  subst e
  rotate_left
  all_goals
    refine Or.elim (addr_cases hx2.1 hml) (fun e => ?_) (fun e => Or.elim e (fun e => ?_) (fun e => ?_))
    obtain ⟨e, _, hsrm⟩ := e
    subst e
    rotate_left
    obtain ⟨g13, o13, t13, e, _, hsrm⟩ := e
    subst e
    rotate_left
    obtain ⟨g13, o13, e, hsrm⟩ := e
    subst e
    rotate_left
    all_goals
      conv => lhs; whnf
      repeat (refine go_D hD rfl ?_
              conv => lhs; whnf)
      refine (hD _).2 fun gb A1 hNw => ?_
      have hNw : A.New A1 gb #[] 5 := hNw
      conv => lhs; whnf
      repeat (refine go_D hD rfl ?_
              conv => lhs; whnf)
      refine (hD _).2 ⟨[], data.map bv, rfl, hsrc A1 hNw.sub, hdl, hone1, by show 0 + data.length ≤ 9223372036854775807; have := hx1.2; omega, fun h0 => (by
        rw [nextcap0 h0]
        show data.length * 1 ≤ _
        have := hx1.2
        omega), rfl, fun h => (by cases h), fun _ _ _ h1 h2 => absurd (by
        have : data.length = 0 := by omega
        rw [List.length_eq_zero_iff.1 this]; rfl) h2, fun v A2 hA => ?_⟩
      obtain ⟨s2, hS2⟩ := clone_end hNw.sub hA hdl
      obtain ⟨ax, cx, hvx⟩ := hS2.form
      subst hvx
      conv => lhs; whnf
      repeat (refine go_D hD rfl ?_
              conv => lhs; whnf)
      refine (hD _).2 fun gc A3 hNm => ?_
      have hNm : A2.New A3 gc #[] 102 := hNm
      conv => lhs; whnf
      repeat (refine go_D hD rfl ?_
              conv => lhs; whnf)
      refine (hD _).2 ⟨[], memCells mem, rfl, hsrm A3 (s2.trans hNm.sub), hml, hone2, by show 0 + mem.length ≤ 9223372036854775807; have := hx2.2; omega, fun h0 => (by
        rw [nextcap0 h0]
        show mem.length * 32 ≤ _
        have := hx2.2
        omega), rfl, fun h => (by cases h), fun _ _ _ h1 h2 => absurd (by
        have : mem.length = 0 := by omega
        rw [List.length_eq_zero_iff.1 this]; rfl) h2, fun v A4 hAm => ?_⟩
      obtain ⟨s4, hS4⟩ := clone_end hNm.sub hAm hml
      obtain ⟨ay, cy, hvy⟩ := hS4.form
      subst hvy
      conv => lhs; whnf
      repeat (refine go_D hD rfl ?_
              conv => lhs; whnf)
      have s4' : A.Sub A4 := s2.trans s4
      refine (hD _).2 ⟨rcopyInv A A4 parts, ⟨(⟨0, A4, A4, .slice none 0 0, []⟩ : RcG), ⟨Nat.zero_le _, Arena.Sub.refl _, Arena.Sub.refl _, GrowR.nil _ _ _ _, by
        show AsksR _ [] []
        rw [AsksR]⟩, ⟨rfl, rfl, trivial⟩, trivial, rfl⟩, fun (s : RcG) hG => ⟨⟨trivial, trivial, trivial⟩, trivial, ?_⟩⟩
      obtain ⟨k, As, K, v0, rs⟩ := s
      obtain ⟨hk, hknow, hold, hgrow, hasks⟩ : RcI A A4 parts ⟨k, As, K, v0, rs⟩ := hG
      dsimp only at hk hknow hold hgrow hasks
      have hsA : A.Sub As := s4'.trans (hold.trans hknow)
      conv => lhs; whnf
      refine split_dec (fun hlt => ?_) (fun hlt => ?_)
      rotate_left
      · have hlt : ¬ (k : Int) < (parts.length : Int) := hlt
        obtain rfl : k = parts.length := by omega
        rw [List.take_length] at hasks
        have s4s : A4.Sub As := hold.trans hknow
        have hend : (copiedS (m + 1)).post (.mk kind xid ses turn path data flags ver watch sort last tmo frm mem parts) [] A (askV [.int .u8 kind, .int .i64 xid, .int .i64 ses, .int .i64 turn, .string path, .slice ax data.length cx, .int .i64 flags, .int .i64 ver, .bool watch, .int .u8 sort, .int .i64 last, .int .i64 tmo, .int .i64 frm, .slice ay mem.length cy, v0]) As := by
          refine ⟨hsA, _, rfl, ?_⟩
          rw [AskR]
          exact ⟨_, _, _, rs, rfl, ⟨hS2.sub (minus_up (s4.trans s4s)), hx1.2⟩, ⟨hS4.sub ((minus_later s2).trans (minus_up s4s)), hx2.2⟩, grow_minus hgrow (s4'.trans hold), hx4, AsksR.sub (minus_up hknow) _ _ hasks⟩
        obtain ⟨a0, c0, hv0⟩ := (grow_minus hgrow (s4'.trans hold)).form
        subst hv0
        conv => lhs; whnf
        exact (hD _).2 hend
      have hlt : (k : Int) < (parts.length : Int) := hlt
      have hkl : k < parts.length := by omega
      have i0 : (0 : Int) ≤ (k : Int) ∧ (k : Int) < (parts.length : Int) := by omega
      have hk9 : k < 9223372036854775807 := by omega
      obtain ⟨g', o', e14, hra⟩ := Sl.at_ hc14 hz1 hz2 hz3 (by omega)
      subst e14
      obtain ⟨ce, hce1, hde⟩ := ask_at hra hx5 k hkl rfl
      have hce2 := rd_sub hsA hce1
      have hde := AskR.sub hsA _ _ hde
      have hde0 := hde
      have hszk : parts[k].sz < m := by
        have := sz_at hkl
        simp only [AskD.sz] at hsz
        omega
      obtain ⟨p0, p1, p2, p3, p4, q5, u5, n5, p6, p7, p8, p9, p10, p11, p12, q13, u13, n13, q14, u14, n14, rfl⟩ := hde.form
      conv => lhs; whnf
      repeat (first | refine go_in i0 ?_ | refine go_rd hce2 ?_ | refine go_D hD rfl ?_
              conv => lhs; whnf)
      refine (hD _).2 ⟨parts[k], ⟨_, rfl, hszk, hde0⟩, fun v A5 hq => ?_⟩
      have hq : As.Sub A5 ∧ ∃ cs, v = askV cs ∧ AskR (A5.minus As) parts[k] cs := hq
      obtain ⟨s5, cs2, hv, hr2⟩ := hq
      subst hv
      have hr20 := hr2
      obtain ⟨p0, p1, p2, p3, p4, q5, u5, n5, p6, p7, p8, p9, p10, p11, p12, q13, u13, n13, q14, u14, n14, hcs2⟩ := hr2.form
      subst hcs2
      obtain ⟨cs2, hcs2⟩ : ∃ cs2 : List Value, cs2 = [.int .u8 p0, .int .i64 p1, .int .i64 p2, .int .i64 p3, .string p4, .slice q5 u5 n5, .int .i64 p6, .int .i64 p7, .bool p8, .int .u8 p9, .int .i64 p10, .int .i64 p11, .int .i64 p12, .slice q13 u13 n13, .slice q14 u14 n14] := ⟨_, rfl⟩
      rw [← hcs2] at hr20
      have hlen15 := hr20.len
      have hone : ∀ v ∈ cs2, v.oneCell' = true := fun v hv => by
        rw [hcs2] at hv
        simp only [List.mem_cons, List.not_mem_nil, or_false] at hv
        rcases hv with rfl | rfl | rfl | rfl | rfl | rfl | rfl | rfl | rfl | rfl | rfl | rfl | rfl | rfl | rfl <;> rfl
      have hG0 := (grow_plus (A5 := A5) hgrow).sub s5
      obtain ⟨K', hK'⟩ : ∃ K', K' = K.plus (A5.minus As) := ⟨_, rfl⟩
      rw [← hK'] at hG0
      have hKK : K.Sub K' := by rw [hK']; exact plus_l _ _
      have hNK : (A5.minus As).Sub K' := by rw [hK']; exact plus_r fun j o hj => (by
        cases hKj : K.blk j with
        | none => rfl
        | some o2 => have := (minus_blk hj).1; rw [hknow j o2 hKj] at this; cases this)
      have hK5 : K'.Sub A5 := fun j o hj => by
        rw [hK'] at hj
        rcases plus_cases hj with h | ⟨_, h⟩
        · exact s5 j o (hknow j o h)
        · exact (minus_blk h).2
      conv => lhs; whnf
      repeat (refine go_D hD rfl ?_
              conv => lhs; whnf)
      refine (hD _).2 fun gb' A6 hN6 => ?_
      have hN6 : A5.New A6 gb' #[.int .u8 p0, .int .i64 p1, .int .i64 p2, .int .i64 p3, .string p4, .slice q5 u5 n5, .int .i64 p6, .int .i64 p7, .bool p8, .int .u8 p9, .int .i64 p10, .int .i64 p11, .int .i64 p12, .slice q13 u13 n13, .slice q14 u14 n14] 34 := hN6
      have hrow6 : A6.rd gb' 0 (1 * 15) = some cs2 := by
        rw [hcs2]
        exact hN6.rd (o := 0) (n := 1 * 15) (by show 0 + 1 * 15 ≤ 15; omega)
      have hK6 : K'.Sub A6 := hK5.trans hN6.sub
      have hd6 : ∀ j, A6.blk j = none → K'.blk j = none := fun j hj => by
        cases h : K'.blk j with
        | none => rfl
        | some o => rw [hK6 j o h] at hj; cases hj
      obtain ⟨base, c6, hv6, hbase, hrd6, hnone6, hroom6, hA6⟩ := grow_open (hG0.sub hN6.sub)
      subst hv6
      refine Or.elim hbase (fun hbase => ?_) (fun hbase => ?_)
      rotate_left
      obtain ⟨g6, hbase⟩ := hbase
      all_goals
        subst hbase
        conv => lhs; whnf
        repeat (refine go_D hD rfl ?_
                conv => lhs; whnf)
        refine (hD _).2 ⟨rs.flatten, cs2, hrd6, by
          show (if 1 * 15 = 0 then some [] else A6.rd gb' 0 (1 * 15)) = _
          rw [if_neg (by omega)]; exact hrow6, hlen15, hone, by
          show k + 1 ≤ _
          omega, fun h9 => (by
          have h9 : c6 < k + 1 := h9
          show Builtin.nextslicecap (k + 1) c6 * 168 ≤ _
          have := nextcap_le2 h9
          omega), rfl, hnone6, fun g' o' he hle _ => hroom6 _ hlen15 g' o' he hle, fun v A7 hA7 => ?_⟩
        obtain ⟨hG7, hk7⟩ := hA6 cs2 v A7 hlen15 hd6 hA7
        have hG' : RcI A A4 parts ⟨k + 1, A7, K', v, rs ++ [cs2]⟩ := by
          refine ⟨hkl, fun j o hj => (by
            show A7.blk j = some o
            rw [hk7 j o hj]; exact hK6 j o hj), hold.trans hKK, ?_, ?_⟩
          · show GrowR K' A7 15 34 (k + 1) v (rs ++ [cs2]).flatten
            rw [List.flatten_append, List.flatten_singleton]
            exact hG7
          · show AsksR (K'.minus A) (parts.take (k + 1)) (rs ++ [cs2])
            rw [List.take_succ_eq_append_getElem hkl]
            exact asks_end (AsksR.sub (minus_up hKK) _ _ hasks) (AskR.sub (fun j o hj => minus_mk (by
              cases h : A.blk j with
              | none => rfl
              | some o2 => have := (minus_blk hj).1; rw [hsA j o2 h] at this; cases this) (hNK j o hj)) _ _ hr20)
        conv => lhs; whnf
        exact (hD _).2 ⟨(⟨k + 1, A7, K', v, rs ++ [cs2]⟩ : RcG), ⟨hG', ⟨inc_slot (k := k) hk9, rfl, trivial⟩, trivial, rfl⟩, by show parts.length - (k + 1) < parts.length - k; omega, ⟨same1 rfl rfl, same1 rfl rfl, trivial⟩, ⟨same1 rfl rfl, same1 rfl rfl, trivial⟩⟩

theorem rcopied_all : ∀ m, FOk Try.prog 31 (copiedS m)
  | 0 => fun g vs A w _ hp => by obtain ⟨_, _, h, _⟩ := hp; omega
  | m + 1 => rcopied_of m (rcopied_all m)

theorem rcopied_ok : FOk Try.prog 31 copiedS' := fun g vs A w hA ⟨x, h1, h2⟩ =>
  rcopied_all (g.sz + 1) g vs A w hA ⟨x, h1, Nat.lt_succ_self _, h2⟩

end
end Go.Proofs.Ytpingnkjenicaaa
