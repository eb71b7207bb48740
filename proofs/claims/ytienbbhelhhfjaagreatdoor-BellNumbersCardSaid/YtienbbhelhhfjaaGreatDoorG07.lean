/-
  Rows of keys and values; maps of an arena that are such rows; a block whose cells are all known.
  Watches as plain data; a tower's map.
  What all contracts of this program want; loops over the places of a row.
  Paths: part PaA: what beadle/path.Check tells of every text.
  Paths: part PaB: what beadle/path.Check tells of every text.
  Paths: part PaC: what beadle/path.Check tells of every text.
  Paths: part PaD: what beadle/path.Check tells of every text.
  Paths: part PaE: what beadle/path.Check tells of every text.
  Paths: part PaF: what beadle/path.Check tells of every text.
  Paths: what stands over one, and its last part.
  Plain: the order of watches; what a change rings.
  Rows that a loop makes by append.
  Contracts: the law's is: rows of rings that are the same are told so.
  What contracts of slices.SortFunc at structs want.
  Contracts: bell: how rings are compared.
  Contracts: bell: the closure that compares two rings.
  Contracts: path.Check.
  Contracts: bell: New, may, Add, Count.
-/
import Derived.Test.YtienbbhelhhfjaaGreatDoorG06
import Derived.Test.YtienbbhelhhfjaaGreatDoorProg
import Derived.Test.YtienbbhelhhfjaaGreatDoorRows
import Derived.WalkKit
import Derived.Laws.Externs
import Derived.Lib.Bytealg
import Derived.Lib.CutLaws
import Derived.Lib.IndexMore
import Derived.Tactics
import Derived.Tactics2
import Derived.Shelf.RegionOpen
import Derived.Shelf.Abstract
import Derived.Shelf.RegionOpenPlain
import Derived.Laws.RangeString
import Derived.LoopTactic
import Derived.Laws.RangeAny
import Derived.RangeFuncNested
import Derived.RangeFuncBound
import Derived.RangeFuncCalls
import Derived.RangeFuncLeaves
import Derived.OwnWalkIn
import Derived.TacticsInMore
import Derived.LoopNIn
import Derived.LoopIn
import Derived.WalkSmall
import Derived.RangeFuncFrom
import Derived.Shelf.SlSortCmp.NoneTotal
import Derived.StillTailTactics
namespace Go.Sx
noncomputable section

section
variable {κ α β : Type} [BEq κ]

/-- What stands at a key. -/
def kGet (p : κ) : List (κ × α) → Option α
  | [] => none
  | e :: es => bif p == e.1 then some e.2 else kGet p es

def kPut (p : κ) (x : α) : List (κ × α) → List (κ × α)
  | [] => [(p, x)]
  | e :: es => bif p == e.1 then (p, x) :: es else e :: kPut p x es

def kDel (p : κ) : List (κ × α) → List (κ × α)
  | [] => []
  | e :: es => bif p == e.1 then es else e :: kDel p es

/-- What stands at a key, turned. -/
def kMod (p : κ) (f : α → α) : List (κ × α) → List (κ × α)
  | [] => []
  | e :: es => bif p == e.1 then (e.1, f e.2) :: es else e :: kMod p f es

/-- The same keys, with other values. -/
def kMap (f : α → β) (l : List (κ × α)) : List (κ × β) := l.map fun e => (e.1, f e.2)

theorem kGet_map (f : α → β) (p : κ) : ∀ l : List (κ × α), kGet p (kMap f l) = (kGet p l).map f
  | [] => rfl
  | e :: es => by
    have := kGet_map f p es
    simp only [kMap, List.map_cons, kGet] at this ⊢
    cases hb : p == e.1 <;> simp only [cond_true, cond_false, this, Option.map_some]

theorem kPut_map (f : α → β) (p : κ) (x : α) : ∀ l : List (κ × α), kPut p (f x) (kMap f l) = kMap f (kPut p x l)
  | [] => rfl
  | e :: es => by
    have := kPut_map f p x es
    simp only [kMap, List.map_cons, kPut] at this ⊢
    cases hb : p == e.1 <;> simp only [cond_true, cond_false, this, List.map_cons]

theorem kDel_map (f : α → β) (p : κ) : ∀ l : List (κ × α), kDel p (kMap f l) = kMap f (kDel p l)
  | [] => rfl
  | e :: es => by
    have := kDel_map f p es
    simp only [kMap, List.map_cons, kDel] at this ⊢
    cases hb : p == e.1 <;> simp only [cond_true, cond_false, this, List.map_cons]

theorem kMod_map (f : α → β) (h : α → α) (h' : β → β) (hh : ∀ x, h' (f x) = f (h x)) (p : κ) : ∀ l : List (κ × α), kMod p h' (kMap f l) = kMap f (kMod p h l)
  | [] => rfl
  | e :: es => by
    have := kMod_map f h h' hh p es
    simp only [kMap, List.map_cons, kMod] at this ⊢
    cases hb : p == e.1 <;> simp only [cond_true, cond_false, this, List.map_cons, hh]

theorem kGet_mem {p : κ} {x : α} (hq : ∀ q : κ, (p == q) = true → q = p) : ∀ {l : List (κ × α)}, kGet p l = some x → (p, x) ∈ l
  | [], h => by cases h
  | e :: es, h => by
    simp only [kGet] at h
    cases hb : p == e.1 with
    | true =>
      rw [hb] at h
      injection h with h
      rw [← hq _ hb, ← h]
      exact List.mem_cons_self
    | false => rw [hb] at h; exact List.mem_cons_of_mem _ (kGet_mem hq h)

theorem kGet_none {p : κ} (hr : (p == p) = true) : ∀ {l : List (κ × α)}, kGet p l = none → p ∉ l.map (·.1)
  | [], _ => by simp
  | e :: es, h => by
    simp only [kGet] at h
    cases hb : p == e.1 with
    | true => rw [hb] at h; cases h
    | false =>
      rw [hb] at h
      have := kGet_none hr (l := es) h
      simp only [List.map_cons, List.mem_cons, not_or]
      exact ⟨fun e' => (by rw [← e', hr] at hb; cases hb), this⟩

theorem kPut_none {p : κ} {x : α} : ∀ {l : List (κ × α)}, kGet p l = none → kPut p x l = l ++ [(p, x)]
  | [], _ => rfl
  | e :: es, h => by
    simp only [kGet] at h
    cases hb : p == e.1 with
    | true => rw [hb] at h; cases h
    | false => rw [hb] at h; simp only [kPut, hb, cond_false, kPut_none (l := es) h, List.cons_append]

theorem kDel_none {p : κ} : ∀ {l : List (κ × α)}, kGet p l = none → kDel p l = l
  | [], _ => rfl
  | e :: es, h => by
    simp only [kGet] at h
    cases hb : p == e.1 with
    | true => rw [hb] at h; cases h
    | false => rw [hb] at h; simp only [kDel, hb, cond_false, kDel_none (l := es) h]

theorem kMod_none {p : κ} {f : α → α} : ∀ {l : List (κ × α)}, kGet p l = none → kMod p f l = l
  | [], _ => rfl
  | e :: es, h => by
    simp only [kGet] at h
    cases hb : p == e.1 with
    | true => rw [hb] at h; cases h
    | false => rw [hb] at h; simp only [kMod, hb, cond_false, kMod_none (l := es) h]

theorem kMod_at {p : κ} {f : α → α} {x : α} : ∀ {l : List (κ × α)}, kGet p l = some x → kMod p (fun _ => f x) l = kMod p f l
  | [], h => by cases h
  | e :: es, h => by
    simp only [kGet] at h
    cases hb : p == e.1 with
    | true =>
      rw [hb] at h
      injection h with h
      simp only [kMod, hb, cond_true, h]
    | false => rw [hb] at h; simp only [kMod, hb, cond_false, kMod_at (l := es) h]

/-- Where a key stands, the row is a beginning, that entry, and an end. -/
theorem kGet_split {p : κ} {x : α} (hq : ∀ q : κ, (p == q) = true → q = p) : ∀ {l : List (κ × α)}, kGet p l = some x → ∃ a b, l = a ++ (p, x) :: b ∧ kGet p a = none ∧ (∀ y, kPut p y l = a ++ (p, y) :: b) ∧ kDel p l = a ++ b ∧ ∀ f, kMod p f l = a ++ (p, f x) :: b
  | [], h => by cases h
  | e :: es, h => by
    simp only [kGet] at h
    cases hb : p == e.1 with
    | true =>
      rw [hb] at h
      injection h with h
      have h1 := hq _ hb
      obtain ⟨k, v⟩ := e
      simp only at h h1 hb
      subst h h1
      exact ⟨[], es, rfl, rfl, fun y => (by simp only [kPut, hb, cond_true, List.nil_append]), (by simp only [kDel, hb, cond_true, List.nil_append]), fun f => (by simp only [kMod, hb, cond_true, List.nil_append])⟩
    | false =>
      rw [hb] at h
      obtain ⟨a, b, h1, h2, h3, h4, h5⟩ := kGet_split hq (l := es) h
      exact ⟨e :: a, b, (by rw [h1]; rfl), (by simp only [kGet, hb, cond_false, h2]), fun y => (by simp only [kPut, hb, cond_false, h3, List.cons_append]), (by simp only [kDel, hb, cond_false, h4, List.cons_append]), fun f => (by simp only [kMod, hb, cond_false, h5, List.cons_append])⟩

end

theorem bytes_beq_self (a : ByteArray) : (a == a) = true := by rw [beq_toListBytes]; simp
theorem bytes_key (p : ByteArray) : ∀ q : ByteArray, (p == q) = true → q = p := fun _ h => (bytes_beq h).symm
theorem int_key (p : Int) : ∀ q : Int, (p == q) = true → q = p := fun _ h => (eq_of_beq h).symm

/-! ### As entries of a map -/

section
variable {α : Type} (f : α → Value)

def strL (l : List (ByteArray × α)) : List (Value × Value) := l.map fun e => (.string e.1, f e.2)
def intL (l : List (Int × α)) : List (Value × Value) := l.map fun e => (.int .i64 e.1, f e.2)

theorem strL_alike (p : ByteArray) (l : List (ByteArray × α)) : ∀ e ∈ strL f l, alikeK (.string p) e.1 = true := fun e he => by
  obtain ⟨x, _, rfl⟩ := List.mem_map.1 he
  rfl

theorem intL_alike (p : Int) (l : List (Int × α)) : ∀ e ∈ intL f l, alikeK (.int .i64 p) e.1 = true := fun e he => by
  obtain ⟨x, _, rfl⟩ := List.mem_map.1 he
  rfl

theorem strL_get (p : ByteArray) : ∀ l : List (ByteArray × α), getL (.string p) (strL f l) = (kGet p l).map f
  | [] => rfl
  | e :: es => by
    have := strL_get p es
    simp only [strL, List.map_cons, getL, kGet, keyIs] at this ⊢
    cases hb : p == e.1 <;> simp only [cond_true, cond_false, this, Option.map_some]

theorem strL_put (p : ByteArray) (x : α) : ∀ l : List (ByteArray × α), putL (.string p) (f x) (strL f l) = strL f (kPut p x l)
  | [] => rfl
  | e :: es => by
    have := strL_put p x es
    simp only [strL, List.map_cons, putL, kPut, keyIs] at this ⊢
    cases hb : p == e.1 <;> simp only [cond_true, cond_false, this, List.map_cons]

theorem strL_del (p : ByteArray) : ∀ l : List (ByteArray × α), delL (.string p) (strL f l) = strL f (kDel p l)
  | [] => rfl
  | e :: es => by
    have := strL_del p es
    simp only [strL, List.map_cons, delL, kDel, keyIs] at this ⊢
    cases hb : p == e.1 <;> simp only [cond_true, cond_false, this, List.map_cons]

theorem intL_get (p : Int) : ∀ l : List (Int × α), getL (.int .i64 p) (intL f l) = (kGet p l).map f
  | [] => rfl
  | e :: es => by
    have := intL_get p es
    simp only [intL, List.map_cons, getL, kGet, keyIs] at this ⊢
    cases hb : p == e.1 <;> simp only [cond_true, cond_false, this, Option.map_some]

theorem intL_put (p : Int) (x : α) : ∀ l : List (Int × α), putL (.int .i64 p) (f x) (intL f l) = intL f (kPut p x l)
  | [] => rfl
  | e :: es => by
    have := intL_put p x es
    simp only [intL, List.map_cons, putL, kPut, keyIs] at this ⊢
    cases hb : p == e.1 <;> simp only [cond_true, cond_false, this, List.map_cons]

theorem intL_del (p : Int) : ∀ l : List (Int × α), delL (.int .i64 p) (intL f l) = intL f (kDel p l)
  | [] => rfl
  | e :: es => by
    have := intL_del p es
    simp only [intL, List.map_cons, delL, kDel, keyIs] at this ⊢
    cases hb : p == e.1 <;> simp only [cond_true, cond_false, this, List.map_cons]

end

theorem look_str {A : Arena} {m : Nat} {α : Type} {f : α → Value} {l : List (ByteArray × α)} (h : MapAt A m (strL f l)) (p : ByteArray) : A.look m (.string p) = some ((kGet p l).map f) := by
  rw [look_at h (strL_alike f p l), strL_get]

theorem look_int {A : Arena} {m : Nat} {α : Type} {f : α → Value} {l : List (Int × α)} (h : MapAt A m (intL f l)) (p : Int) : A.look m (.int .i64 p) = some ((kGet p l).map f) := by
  rw [look_at h (intL_alike f p l), intL_get]

/-! ### A block all of whose cells are known -/

def CellsAt (A : Arena) (g : Nat) (L : List Value) : Prop := ∃ c t fz, A.blk g = some (.cells c t fz) ∧ Fz c.size fz ∧ c.toList = L

theorem CellsAt.rd {A : Arena} {g : Nat} {L : List Value} (h : CellsAt A g L) {o n : Nat} (hle : o + n ≤ L.length) : A.rd g o n = some ((L.drop o).take n) := by
  obtain ⟨c, t, fz, h1, _, rfl⟩ := h
  exact rd_mk h1 (by simpa using hle)

theorem CellsAt.room {A : Arena} {g : Nat} {L : List Value} (h : CellsAt A g L) {o n : Nat} (hle : o + n ≤ L.length) : A.Room g o n := by
  obtain ⟨c, t, fz, h1, h2, rfl⟩ := h
  exact ⟨c, t, fz, h1, by simpa using hle, h2⟩

theorem CellsAt.put {A A' : Arena} {g o : Nat} {L vs : List Value} (h : CellsAt A g L) (hP : A.Put A' g o vs) (hle : o + vs.length ≤ L.length) : CellsAt A' g (L.take o ++ vs ++ L.drop (o + vs.length)) := by
  obtain ⟨c, t, fz, h1, h2, rfl⟩ := h
  obtain ⟨c0, t0, fz0, c1, e1, e2, e3⟩ := hP.at_
  rw [h1] at e1
  injection e1 with e1
  injection e1 with e1 e4 e5
  subst e1 e4 e5
  refine ⟨c1, t, fz, e2, ?_, e3⟩
  have : c1.size = c.size := by
    have hl : c1.toList.length = c.toList.length := by
      rw [e3]
      simp only [Array.length_toList] at hle
      simp; omega
    simpa using hl
  rw [this]; exact h2

theorem CellsAt.sub {A A' : Arena} {g : Nat} {L : List Value} (h : CellsAt A g L) (hs : ∀ o, A.blk g = some o → A'.blk g = some o) : CellsAt A' g L := by
  obtain ⟨c, t, fz, h1, h2⟩ := h
  exact ⟨c, t, fz, hs _ h1, h2⟩

theorem CellsAt.new {A A' : Arena} {g : Nat} {c : Array Value} {t : TypeId} (h : A.New A' g c t) : CellsAt A' g c.toList := ⟨c, t, (0, 0), h.at_, .inl rfl, rfl⟩

theorem CellsAt.dom {A : Arena} {g : Nat} {L : List Value} (h : CellsAt A g L) : ∃ o, A.blk g = some o := by
  obtain ⟨c, t, fz, h1, _⟩ := h
  exact ⟨_, h1⟩

/-! ### Two arenas together -/

def Arena.plus (B C : Arena) : Arena := Arena.of fun k => match B.blk k with
  | some o => some o
  | none => C.blk k

theorem plus_blk (B C : Arena) (k : Nat) : (B.plus C).blk k = match B.blk k with
  | some o => some o
  | none => C.blk k := rfl

theorem plus_l (B C : Arena) : B.Sub (B.plus C) := fun k o h => by rw [plus_blk, h]

theorem plus_r {B C : Arena} (h : ∀ k o, C.blk k = some o → B.blk k = none) : C.Sub (B.plus C) := fun k o hk => by rw [plus_blk, h k o hk]; exact hk

theorem plus_cases {B C : Arena} {k : Nat} {o : Obj} (h : (B.plus C).blk k = some o) : B.blk k = some o ∨ (B.blk k = none ∧ C.blk k = some o) := by
  rw [plus_blk] at h
  split at h
  · left; rw [← h]; assumption
  · right; exact ⟨by assumption, h⟩

/-- What is new stands beside what lies in a part of what lay. -/
theorem minus_apart {A A' B : Arena} (h : B.Sub A) : ∀ k o, (A'.minus A).blk k = some o → B.blk k = none := fun k o hk => by
  cases hB : B.blk k with
  | none => rfl
  | some o' =>
    have := (minus_blk hk).1
    rw [h _ _ hB] at this; cases this

end
end Go.Sx

namespace Go.Sx
noncomputable section

structure WatchD where
  conn : Int
  sort : Int
  path : ByteArray
deriving DecidableEq

def WatchD.cells (w : WatchD) : List Value := [.int .i64 w.conn, .int .u8 w.sort, .string w.path]

def wKey (w : WatchD) : Value := .agg w.cells.toArray

/-- A map's entries. -/
def wL (ws : List WatchD) : List (Value × Value) := ws.map fun w => (wKey w, .int .i64 1)

theorem wL_alike (w : WatchD) (ws : List WatchD) : ∀ e ∈ wL ws, alikeK (wKey w) e.1 = true := fun e he => by
  obtain ⟨x, _, rfl⟩ := List.mem_map.1 he
  rfl

theorem wKey_is (a b : WatchD) : keyIs (wKey a) (wKey b) = decide (a = b) := by
  obtain ⟨a1, a2, a3⟩ := a
  obtain ⟨b1, b2, b3⟩ := b
  show (a1 == b1 && (a2 == b2 && (a3 == b3 && true))) = _
  by_cases h : (⟨a1, a2, a3⟩ : WatchD) = ⟨b1, b2, b3⟩
  · injection h with h1 h2 h3
    subst h1; subst h2; subst h3
    rw [decide_eq_true rfl, bytes_beq_self]
    simp
  · rw [decide_eq_false h]
    by_cases h1 : a1 = b1
    · by_cases h2 : a2 = b2
      · have h3 : (a3 == b3) = false := by
          cases hb : a3 == b3 with
          | false => rfl
          | true => exact absurd (by rw [h1, h2, bytes_beq hb]) h
        rw [h3]; simp
      · have : (a2 == b2) = false := by simpa using h2
        rw [this]; simp
    · have : (a1 == b1) = false := by simpa using h1
      rw [this]; simp

theorem wKey_inj {a b : WatchD} (h : wKey a = wKey b) : a = b := by
  have h1 := wKey_is a b
  rw [h, wKey_is b b, decide_eq_true rfl] at h1
  exact of_decide_eq_true h1.symm

/-- A watch is set. -/
def wPut (w : WatchD) (ws : List WatchD) : List WatchD := if w ∈ ws then ws else ws ++ [w]

theorem wL_put (w : WatchD) : ∀ ws : List WatchD, putL (wKey w) (.int .i64 1) (wL ws) = wL (wPut w ws)
  | [] => rfl
  | x :: ws => by
    have ih := wL_put w ws
    simp only [wL, List.map_cons, putL, wKey_is] at ih ⊢
    by_cases h : w = x
    · subst h
      rw [decide_eq_true rfl, cond_true]
      simp [wPut]
    · rw [decide_eq_false h, cond_false, ih]
      unfold wPut
      by_cases h2 : w ∈ ws
      · rw [if_pos h2, if_pos (List.mem_cons_of_mem _ h2)]
        rfl
      · rw [if_neg h2, if_neg (fun hm => by
          rcases List.mem_cons.1 hm with hm | hm
          · exact h hm
          · exact h2 hm)]
        rfl

theorem wL_del (w : WatchD) : ∀ ws : List WatchD, delL (wKey w) (wL ws) = wL (ws.erase w)
  | [] => rfl
  | x :: ws => by
    have ih := wL_del w ws
    simp only [wL, List.map_cons, delL, wKey_is] at ih ⊢
    by_cases h : w = x
    · subst h
      rw [decide_eq_true rfl, cond_true, List.erase_cons_head]
    · rw [decide_eq_false h, cond_false, ih, List.erase_cons_tail (by simpa using fun e => h e.symm)]
      rfl

theorem wL_keys (ws : List WatchD) : (wL ws).map (·.1) = ws.map wKey := by
  unfold wL
  rw [List.map_map]
  rfl

theorem wL_nodup {ws : List WatchD} (h : ws.Nodup) : ((wL ws).map (·.1)).Nodup := by
  rw [wL_keys]
  exact List.Pairwise.map _ (fun a b hab e => hab (wKey_inj e)) h

theorem wPut_nodup {w : WatchD} {ws : List WatchD} (h : ws.Nodup) : (wPut w ws).Nodup := by
  unfold wPut
  split
  · exact h
  · rename_i hn
    refine List.nodup_append.2 ⟨h, by simp, fun a ha b hb e => ?_⟩
    rw [List.mem_singleton] at hb
    subst hb; subst e
    exact hn ha

/-- A tower: a cell that holds a map of watches. -/
structure TowerAt (A : Arena) (t m : Nat) (ws : List WatchD) : Prop where
  top : CellsAt A t [.map (some m)]
  map : MapAt A m (wL ws)
  nd : ws.Nodup
  ne : m ≠ t

theorem TowerAt.keep {A A' : Arena} {t m : Nat} {ws : List WatchD} (h : TowerAt A t m ws) (ht : A'.blk t = A.blk t) (hm : A'.blk m = A.blk m) : TowerAt A' t m ws :=
  ⟨h.top.sub fun o ho => by rw [ht]; exact ho, h.map.sub fun o ho => by rw [hm]; exact ho, h.nd, h.ne⟩

theorem TowerAt.set {A A' : Arena} {t m : Nat} {ws ws' : List WatchD} (h : TowerAt A t m ws) (hM : MapAt A' m (wL ws')) (ho : ∀ b, b ≠ m → A'.blk b = A.blk b) (hn : ws'.Nodup) : TowerAt A' t m ws' :=
  ⟨h.top.sub fun o hb => by rw [ho t (Ne.symm h.ne)]; exact hb, hM, hn, h.ne⟩

end
end Go.Sx

namespace Go.Proofs.YtienbbhelhhfjaaGreatDoor
open Go.Sx Go.RowKit
noncomputable section
open Classical

theorem wrapI {n : Int} (h0 : -9223372036854775808 ≤ n) (h1 : n ≤ 9223372036854775807) : IntKind.i64.wrap n = n := by
  simp only [IntKind.wrap, IntKind.bits, IntKind.signed]
  simp
  omega

theorem split_nd {p : Prop} {i : Decidable p} {A B : Bool} (h1 : p → B = true) (h2 : ¬ p → A = true) : (bif !(decide p) then A else B) = true := by
  by_cases h : p
  · rw [decide_eq_true h]; exact h1 h
  · rw [decide_eq_false h]; exact h2 h

theorem mixed : Tryz.prog.follows .mixedOrders = true := by kernel_rfl

/-- A loop over the places of a row, that reads only: slot s counts. -/
def cnt (A : Arena) (s : Nat) (keep keepB : List Nat) (n : Nat) (p : Nat → Prop) : LInv := { γ := Nat, G := fun k => k ≤ n ∧ p k, keepS := keep, keepB := keepB, sl := fun k => [(s, .v (.int .i64 k))], bl := fun _ => [], ar := fun _ => A, mu := fun k => n - k }

theorem inc_slot {k : Nat} (h : k < 9223372036854775807) : some (SV.v (.int .i64 (IntKind.i64.wrap ((k : Int) + 1)))) = some (SV.v (.int .i64 ((k + 1 : Nat) : Int))) := by
  rw [Sx.wrap_i64 (by omega) (by omega)]; rfl

theorem beqL_iff {l m : List UInt8} : beqL l m = true ↔ l = m := by rw [beqL_eq]; simp

theorem beqL_ff {l m : List UInt8} : beqL l m = false ↔ ¬ l = m := by rw [← beqL_iff]; simp

theorem goes_of_calls {P : Program} {f : FuncId} {args : Array Value} {w : World} {Φ : Value → World → Prop} {fn : Func} (hf : P.funcs[f]? = some fn) (h1 : (fn.name == "runtime.NumGoroutine") = false ∧ fn.body.isNone = false)
    (h : Calls P f args w fun e w' => ∃ v, e = .returned v ∧ Φ v w') : CallGoes P f args w Φ fun _ _ => False := by
  refine .inl ⟨fn, hf, h1, fun cs => ?_⟩
  obtain ⟨e, w', fr, k1, k2⟩ := h cs
  exact ⟨e, w', fr, .inl k1, k2⟩

end
end Go.Proofs.YtienbbhelhhfjaaGreatDoor

namespace Go.Proofs.YtienbbhelhhfjaaGreatDoor
open Go.RowKit Go.Shelf

set_option maxRecDepth 100000 in
theorem idx1 (s : ByteArray) (c : Int) (w : World) :
    Calls Tryz.prog 119 #[.string s, .int .u8 c] w fun e w' => e = .returned (.int .i64 (Lib.indexByte s.data.toList c.toNat.toUInt8)) ∧ w' = w := by
  go_enter Tryz.func119, Tryz.ntmps119
  go_wp2
  rw [run_callFunc_extern Tryz.func128 (by kernel_rfl) (by kernel_rfl) (by kernel_rfl) (e := Extern.BytealgIndexByte.indexByte) (by kernel_rfl), Lib.run_indexByteString]
  simp only [Result.andThen]
  rw [Oper.upon_value]
  go_wp2
  go_ret
  exact ⟨rfl, rfl⟩

set_option maxRecDepth 100000 in
set_option maxHeartbeats 1000000 in
theorem idx2 (s : ByteArray) (w : World) :
    Calls Tryz.prog 111 #[.string s, .string ⟨#[47]⟩] w fun e w' => e = .returned (.int .i64 (Lib.index s.data.toList [47])) ∧ w' = w := by
  go_enter Tryz.func111, Tryz.ntmps111
  go_wp2_with (go_at_call 119; refine (idx1 _ _ _).mono ?_; rintro e w' ⟨rfl, rfl⟩)
  · have h1 : ([47] == s.toList) = true := by assumption
    go_ret
    refine ⟨?_, rfl⟩
    rw [show Lib.index s.data.toList [47] = 0 from Lib.zero s ⟨#[47]⟩ (.inr (by simpa using h1))]
    rfl
  · go_ret
    refine ⟨?_, rfl⟩
    rw [show Lib.index s.data.toList [47] = _ from Lib.one s ⟨#[47]⟩ rfl]
    rfl

set_option maxRecDepth 100000 in
set_option maxHeartbeats 2000000 in
theorem cut1 (s : ByteArray) (hs : s.size < 4294967281) (w : World) :
    Calls Tryz.prog 99 #[.string s, .string ⟨#[47]⟩] w fun e w' => e = .returned (.tuple #[.string ⟨(Lib.cut s.data.toList [47]).1.toArray⟩, .string ⟨(Lib.cut s.data.toList [47]).2.1.toArray⟩, .bool (Lib.cut s.data.toList [47]).2.2]) ∧ ∃ n, w' = w.drewN n := by
  have mixed : Tryz.prog.follows .mixedOrders = true := by kernel_rfl
  rcases Lib.indexB_cases s ⟨#[47]⟩ with hix | ⟨i, hix, hroom⟩
  · obtain ⟨e1, e2, e3⟩ := Lib.cutB_miss s ⟨#[47]⟩ hix
    rw [show (Lib.cut s.data.toList [47]).1 = _ from rfl, show (⟨(Lib.cut s.data.toList [47]).1.toArray⟩ : ByteArray) = _ from e1, show (⟨(Lib.cut s.data.toList [47]).2.1.toArray⟩ : ByteArray) = _ from e2, show (Lib.cut s.data.toList [47]).2.2 = _ from e3]
    go_enter Tryz.func99, Tryz.ntmps99
    go_wp2_with (go_at_call 111; refine (idx2 _ _).mono ?_; rintro e w' ⟨rfl, rfl⟩; rw [show Lib.index s.data.toList [47] = _ from hix])
    go_ret3
    exact ⟨rfl, 0, rfl⟩
  · obtain ⟨e1, e2, e3⟩ := Lib.cutB_hit s ⟨#[47]⟩ i hix
    rw [show (⟨(Lib.cut s.data.toList [47]).1.toArray⟩ : ByteArray) = _ from e1, show (⟨(Lib.cut s.data.toList [47]).2.1.toArray⟩ : ByteArray) = _ from e2, show (Lib.cut s.data.toList [47]).2.2 = _ from e3]
    have c0 : (⟨#[47]⟩ : ByteArray).size = 1 := rfl
    rw [c0] at hroom ⊢
    have c1 : (0 : Int) ≤ ↑i := by omega
    have c2 : (↑i : Int) ≤ ↑s.size := by omega
    have c3 : (0 : Int) ≤ ↑i + 1 := by omega
    have c4 : (↑i + 1 : Int) ≤ ↑s.size := by omega
    go_enter Tryz.func99, Tryz.ntmps99
    go_wp2_with (go_at_call 111; refine (idx2 _ _).mono ?_; rintro e w' ⟨rfl, rfl⟩; rw [show Lib.index s.data.toList [47] = _ from hix])
    go_region_o
    go_wp2
    go_ret3
    exact ⟨rfl, 1, rfl⟩

set_option maxRecDepth 100000 in
set_option maxHeartbeats 1000000 in
theorem cut2 (s : ByteArray) (hs : s.size < 4294967281) (w : World) :
    Calls Tryz.prog 77 #[.string s, .string ⟨#[47]⟩] w fun e w' => e = .returned (.tuple #[.string ⟨(Lib.cut s.data.toList [47]).1.toArray⟩, .string ⟨(Lib.cut s.data.toList [47]).2.1.toArray⟩, .bool (Lib.cut s.data.toList [47]).2.2]) ∧ ∃ n, w' = w.drewN n := by
  go_enter Tryz.func77, Tryz.ntmps77
  go_wp2_with (go_at_call 99; refine (cut1 _ hs _).mono ?_; rintro e w' ⟨rfl, n, rfl⟩)
  go_ret3
  exact ⟨rfl, n, rfl⟩
end Go.Proofs.YtienbbhelhhfjaaGreatDoor

namespace Go.Proofs.YtienbbhelhhfjaaGreatDoor
open Go.RowKit Go.Shelf

def okByte (b : UInt8) : Bool := decide (33 ≤ b.toNat) && decide (b.toNat ≤ 126) && !(b == 47)
def partOk (l : List UInt8) : Bool := l.all okByte && !l.isEmpty && !(l == [46]) && !(l == [46, 46])

theorem dec_cases (s : ByteArray) (pos : Nat) (hp : pos < s.size) :
    (okByte (s[pos]'hp) = true ∧ Utf8.decode s pos = ((s[pos]'hp).toNat, 1) ∧ 33 ≤ (Utf8.decode s pos).1 ∧ (Utf8.decode s pos).1 ≤ 126 ∧ (Utf8.decode s pos).1 ≠ 47) ∨
    (okByte (s[pos]'hp) = false ∧ ((Utf8.decode s pos).1 < 33 ∨ 126 < (Utf8.decode s pos).1 ∨ (Utf8.decode s pos).1 = 47)) := by
  by_cases ha : (s[pos]'hp).toNat < 128
  · have hd := decode_ascii s pos hp ha
    rw [hd]
    have h47 : ((s[pos]'hp) == 47) = decide ((s[pos]'hp).toNat = 47) := by
      rw [Bool.eq_iff_iff, beq_iff_eq, decide_eq_true_iff]
      exact ⟨fun h => by rw [h]; rfl, fun h => UInt8.toNat_inj.1 (by rw [h]; rfl)⟩
    unfold okByte
    rw [h47]
    by_cases h1 : 33 ≤ (s[pos]'hp).toNat <;> by_cases h2 : (s[pos]'hp).toNat ≤ 126 <;> by_cases h3 : (s[pos]'hp).toNat = 47 <;> simp [h1, h2, h3] <;> omega
  · refine .inr ⟨?_, .inr (.inl ?_)⟩
    · unfold okByte
      have : ¬ (s[pos]'hp).toNat ≤ 126 := by omega
      simp [this]
    · have := (decode_high s pos hp (by omega)).1
      omega

theorem part_bad (s : ByteArray) (pos : Nat) (hp : pos < s.size) (h : okByte (s[pos]'hp) = false) : partOk s.data.toList = false := by
  unfold partOk
  have : s.data.toList.all okByte = false := by
    rw [List.all_eq_false]
    exact ⟨s[pos]'hp, by simp [ByteArray.getElem_eq_getElem_data], by simp [h]⟩
  simp [this]

theorem part_end (s : ByteArray) (pos : Nat) (hp : ¬ pos < s.size) (h2 : (s.data.toList.take pos).all okByte = true) : Hid (partOk s.data.toList = (!s.toList.isEmpty && !s.toList == [46] && !s.toList == [46, 46])) := by
  show _ = _
  rw [List.take_of_length_le (by have : s.data.toList.length = s.size := rfl; omega)] at h2
  unfold partOk
  rw [h2, ByteArray.toList_eq]
  simp

theorem take_ok (s : ByteArray) (pos : Nat) (hp : pos < s.size) (h : okByte (s[pos]'hp) = true) (h2 : (s.data.toList.take pos).all okByte = true) : (s.data.toList.take (pos + 1)).all okByte = true := by
  have hl : pos < s.data.toList.length := by simpa using hp
  rw [List.take_succ_eq_append_getElem hl, List.all_append, h2]
  simpa [ByteArray.getElem_eq_getElem_data] using h

set_option maxRecDepth 100000 in
set_option maxHeartbeats 1000000 in
theorem part1 (s : ByteArray) (w : World) :
    Calls Tryz.prog 56 #[.string s] w fun e w' => e = .returned (.bool (partOk s.data.toList)) ∧ ∃ pos, w' = w.iter s pos := by
  go_enter Tryz.func56, Tryz.ntmps56
  go_wp2
  go_loopw [] (fun w' => ∃ (pos : Nat), w' = w.iter s pos ∧ pos ≤ s.size ∧ (s.data.toList.take pos).all okByte = true) (fun w' => s.size - w'.iterPos w.heap.size)
  case atStart => exact ⟨0, rfl, by omega, by simp⟩
  case round =>
    obtain ⟨pos, rfl, h1, h2⟩ := hrel
    by_cases hp : pos < s.size
    · have hnx : ∀ ty, (Instr.next (.pointer (some ⟨w.heap.size, 0, none⟩)) true ty).run Tryz.prog (w.iter s pos) = _ := fun ty => run_next_any w s pos ty hp
      go_wp2
      · rename_i g
        rcases dec_cases s pos hp with ⟨k1, k2, k3, k4, k5⟩ | ⟨k1, k2⟩
        · exfalso
          rcases g with g | g
          · omega
          · have := eq_of_beq g; omega
        · have k3 := part_bad s pos hp k1
          go_ret
          exact ⟨by rw [k3]; rfl, _, rfl⟩
      · rename_i g
        rcases dec_cases s pos hp with ⟨k1, k2, k3, k4, k5⟩ | ⟨k1, k2⟩
        · rw [k2]
          exact ⟨⟨pos + 1, rfl, by omega, take_ok s pos hp k1 h2⟩, by simp; omega⟩
        · exfalso
          obtain ⟨g, g'⟩ := g
          have := ne_of_beq_false g'
          omega
      · rename_i g
        rcases dec_cases s pos hp with ⟨k1, k2, k3, k4, k5⟩ | ⟨k1, k2⟩
        · exfalso; omega
        · have k3 := part_bad s pos hp k1
          go_ret
          exact ⟨by rw [k3]; rfl, _, rfl⟩
      · rename_i g
        rcases dec_cases s pos hp with ⟨k1, k2, k3, k4, k5⟩ | ⟨k1, k2⟩
        · exfalso; omega
        · have k3 := part_bad s pos hp k1
          go_ret
          exact ⟨by rw [k3]; rfl, _, rfl⟩
    · have hnx : ∀ ty, (Instr.next (.pointer (some ⟨w.heap.size, 0, none⟩)) true ty).run Tryz.prog (w.iter s pos) = _ := fun ty => run_next_end w s pos ty hp
      have h3 := part_end s pos hp h2
      go_wp2
      · rename_i g
        go_ret
        refine ⟨?_, _, rfl⟩
        rw [h3.out, g]; rfl
      · rename_i g
        go_ret
        refine ⟨?_, _, rfl⟩
        rw [h3.out, g]; rfl
      · go_ret
        refine ⟨?_, _, rfl⟩
        rw [h3.out]; rfl
end Go.Proofs.YtienbbhelhhfjaaGreatDoor

namespace Go.Proofs.YtienbbhelhhfjaaGreatDoor
open Go.RowKit Go.Shelf
attribute [local go_sem] Oper.semAt_some

/-- The parts between the slashes. -/
def splitL : List UInt8 → List (List UInt8)
  | [] => [[]]
  | b :: l => bif b == 47 then [] :: splitL l else match splitL l with
    | x :: xs => (b :: x) :: xs
    | [] => [[b]]

/-- What stands behind the first slash. -/
def restOk (q : List UInt8) : Bool := q.isEmpty || (splitL q).all partOk

theorem splitL_none : ∀ (l : List UInt8), (∀ b ∈ l, b ≠ 47) → splitL l = [l]
  | [], _ => rfl
  | b :: l, h => by
    have hb : (b == 47) = false := by simpa using h b (by simp)
    simp [splitL, hb, splitL_none l (fun x hx => h x (by simp [hx]))]

theorem splitL_cut : ∀ (a b : List UInt8), (∀ x ∈ a, x ≠ 47) → splitL (a ++ 47 :: b) = a :: splitL b
  | [], b, _ => by simp [splitL]
  | x :: a, b, h => by
    have hb : (x == 47) = false := by simpa using h x (by simp)
    simp [splitL, hb, splitL_cut a b (fun y hy => h y (by simp [hy]))]

theorem index_cases : ∀ (l : List UInt8), (Lib.index l [47] = -1 ∧ ∀ x ∈ l, x ≠ 47) ∨ (∃ a b, l = a ++ 47 :: b ∧ (∀ x ∈ a, x ≠ 47) ∧ Lib.index l [47] = a.length)
  | [] => .inl ⟨rfl, by simp⟩
  | x :: l => by
    by_cases hx : x = 47
    · subst hx
      exact .inr ⟨[], l, rfl, by simp, by simp [Lib.index, List.isPrefixOf]⟩
    · have e : List.isPrefixOf [47] (x :: l) = false := by
        simp [List.isPrefixOf]
        exact fun h => hx h.symm
      rcases index_cases l with ⟨h1, h2⟩ | ⟨a, b, h1, h2, h3⟩
      · refine .inl ⟨by simp [Lib.index, e, h1], fun y hy => ?_⟩
        rcases List.mem_cons.1 hy with rfl | hy
        · exact hx
        · exact h2 y hy
      · refine .inr ⟨x :: a, b, by simp [h1], fun y hy => ?_, ?_⟩
        · rcases List.mem_cons.1 hy with rfl | hy
          · exact hx
          · exact h2 y hy
        · have : ((a.length : Int) == -1) = false := by rw [beq_eq_false_iff_ne]; omega
          simp [Lib.index, e, h3, this]

/-- A text, cut at its first slash. -/
def CutFacts (q n1 n2 : List UInt8) : Prop :=
  (n1 = q ∧ n2 = [] ∧ splitL q = [q]) ∨ (q = n1 ++ 47 :: n2 ∧ splitL q = n1 :: splitL n2)

theorem cut_facts (q : List UInt8) : CutFacts q (Lib.cut q [47]).1 (Lib.cut q [47]).2.1 := by
  unfold Lib.cut
  rcases index_cases q with ⟨h1, h2⟩ | ⟨a, b, h1, h2, h3⟩
  · rw [h1]
    exact .inl ⟨rfl, rfl, splitL_none q h2⟩
  · rw [h3, if_pos (by omega)]
    refine .inr ?_
    have e1 : q.take (↑a.length : Int).toNat = a := by rw [h1]; simp
    have e2 : q.drop ((↑a.length : Int).toNat + [47].length) = b := by
      rw [h1]
      simp
    simp only [e1]
    rw [show q.drop ((↑a.length : Int).toNat + [(47 : UInt8)].length) = b from e2]
    rw [h1]
    exact ⟨rfl, splitL_cut a b h2⟩

theorem cut3 (s : ByteArray) (hs : s.size < 4294967281) (w : World) :
    Calls Tryz.prog 77 #[.string s, .string ⟨#[47]⟩] w fun e w' => ∃ n1 n2 b n, e = .returned (.tuple #[.string n1, .string n2, .bool b]) ∧ w' = w.drewN n ∧ Hid (CutFacts s.data.toList n1.data.toList n2.data.toList) := by
  refine (cut2 s hs w).mono ?_
  rintro e w' ⟨rfl, n, rfl⟩
  exact ⟨_, _, _, n, rfl, rfl, cut_facts _⟩

end Go.Proofs.YtienbbhelhhfjaaGreatDoor

namespace Go.Proofs.YtienbbhelhhfjaaGreatDoor
open Go.RowKit Go.Shelf
attribute [local go_sem] Oper.semAt_some

def strSize : Option Value → Nat
  | some (.string s) => s.size
  | _ => 0

theorem ext_tail {p : ByteArray} {b : UInt8} {q : List UInt8} (hp : p.data.toList = b :: q) : (p.extract 1 p.size).data.toList = q := by
  have : (p.extract 1 p.size).data.toList = (p.data.toList.drop 1).take (p.size - 1) := by
    rw [ByteArray.data_extract]
    simp [Array.toList_extract]
  rw [this, hp]
  have h : p.size = (b :: q).length := by rw [← hp]; rfl
  simp [h]

theorem wrap64_in' (n : Int) (h : -9223372036854775808 ≤ n ∧ n ≤ 9223372036854775807) : wrap64 n = n := by unfold wrap64; omega

theorem size_list (p : ByteArray) : p.size = p.data.toList.length := rfl

theorem part_nil : partOk [] = false := rfl

/-- A cut part that is none. -/
theorem rest_bad {q n1 n2 : List UInt8} (hq : q ≠ []) (h : CutFacts q n1 n2) (ho : partOk n1 = false) : restOk q = false := by
  unfold restOk
  rcases h with ⟨h1, _, h3⟩ | ⟨_, h3⟩
  · rw [h3, ← h1]
    cases n1 with
    | nil => exact absurd h1.symm hq
    | cons x xs => simp [ho]
  · rw [h3]
    cases q with
    | nil => exact absurd rfl hq
    | cons x xs => simp [ho]

/-- The last part. -/
theorem rest_last {q n1 n2 : List UInt8} (h : CutFacts q n1 n2) (ho : partOk n1 = true) (hl : n1.length = q.length) : restOk q = true := by
  unfold restOk
  rcases h with ⟨h1, _, h3⟩ | ⟨h1, _⟩
  · rw [h3, ← h1]
    simp [ho]
  · rw [h1] at hl; simp at hl

/-- A part with others behind it. -/
theorem rest_more {q n1 n2 : List UInt8} (h : CutFacts q n1 n2) (ho : partOk n1 = true) (hl : n1.length ≠ q.length) : q.length = n1.length + n2.length + 1 ∧ restOk q = (splitL n2).all partOk := by
  rcases h with ⟨h1, _, h3⟩ | ⟨h1, h2⟩
  · exact absurd (by rw [h1]) hl
  · refine ⟨by rw [h1]; simp; omega, ?_⟩
    unfold restOk
    rw [h2]
    cases q with
    | nil => simp at h1
    | cons x xs => simp [ho]

set_option maxRecDepth 100000 in
set_option maxHeartbeats 4000000 in
theorem iter1 (n : Nat) (_ : 2 ≤ n) (l Bn : Nat) (J Jx : ByteArray → World → Prop)
    (jc : ∀ p W, J p W → W.cell? ⟨Bn, 0, none⟩ = some (.string p) ∧ W.frozen? ⟨Bn, 0, none⟩ = false)
    (xc : ∀ p W, Jx p W → W.cell? ⟨Bn, 0, none⟩ = some (.string p))
    (jd : ∀ p W k, J p W → J p (W.drewN k))
    (js : ∀ p p' W, J p W → J p' (W.setCell ⟨Bn, 0, none⟩ (.string p')))
    (hY : ∀ p x W, J p W → YieldAt Fence.wide (n - 1) Tryz.prog l #[.string x] W fun e W' => (Hid (partOk x.data.toList = true) ∧ e = .returned (.bool true) ∧ J p W') ∨ (Hid (partOk x.data.toList = false) ∧ e = .returned (.bool false) ∧ Jx p W'))
    (p0 : ByteArray) (q0 : List UInt8) (hp0 : Hid (p0.data.toList = 47 :: q0)) (hsz : p0.size ≤ 200) (W : World) (h0 : J p0 W) :
    CallsIn Fence.wide n Tryz.prog 76 #[.func (.yield l) #[] #[], .pointer (some ⟨Bn, 0, none⟩)] W fun e W' => (∃ v, e = .returned v) ∧
      ((restOk q0 = true ∧ ∃ p, J p W') ∨ (restOk q0 = false ∧ ∃ p, Jx p W')) := by
  refine callsIn_of_wp Tryz.func76 rfl trivial ?_ rfl
  simp only [Tryz.ntmps76, List.size_toArray, List.length_cons, List.length_nil, Nat.reduceAdd, Nat.reduceSub, Array.replicate_succ, Array.replicate_zero, List.push_toArray, List.append_toArray, List.nil_append, List.cons_append]
  gi_wp2
  gi_loopw [] (fun wr => (∃ (p : ByteArray) (q : List UInt8), J p wr ∧ Hid (p.data.toList = 47 :: q) ∧ Hid (restOk q = restOk q0) ∧ p.size ≤ 200) ∨ (∃ p : ByteArray, Jx p wr ∧ Hid (p = ⟨#[47]⟩) ∧ Hid (restOk q0 = false)))
    (fun wr => strSize (wr.cell? ⟨Bn, 0, none⟩))
  case atStart => exact .inl ⟨p0, q0, h0, hp0, rfl, hsz⟩
  case round =>
    rcases hrel with ⟨p, q, hJ, hp, hq, hs⟩ | ⟨p, hX, hp, hq⟩
    · obtain ⟨hc, hf⟩ := jc p wr hJ
      have hs1 : (1 : Int) ≤ ↑p.size := by
        have : p.size = (47 :: q).length := by rw [← hp.out]; rfl
        simp at this; omega
      have hsq : Hid (p.size = q.length + 1) := by show _ = _; rw [size_list, hp.out]; rfl
      by_cases hq' : q = []
      · -- '/' alone
        have hp' : p = ⟨#[47]⟩ := by
          have h := hp.out
          rw [hq'] at h
          obtain ⟨⟨x⟩⟩ := p
          simp at h
          rw [h]
        subst hp'
        have hq2 : Hid (restOk q0 = true) := by
          have h := hq.out
          rw [hq'] at h
          exact h.symm
        clear hq'
        gi_wp2
        go_end0
        exact ⟨⟨_, rfl⟩, .inl ⟨hq2.out, _, hJ⟩⟩
      · have hne : (p.toList == [47]) = false := by
          rw [beq_eq_false_iff_ne, ByteArray.toList_eq, hp.out]
          intro h
          injection h with _ h
          exact hq' h
        have hee : p.toList.isEmpty = false := by
          rw [ByteArray.toList_eq, hp.out]; rfl
        have hq2 : Hid (q ≠ []) := hq'
        clear hq'
        gi_wp2
        refine ⟨trivial, fun h => (by cases h), ?_⟩
        refine (callsIn_wide.2 (cut3 _ (by rw [ByteArray.size_extract]; omega) _)).mono ?_
        rintro e w' ⟨n1, n2, b, k, rfl, rfl, hcut⟩
        have hcut' : Hid (CutFacts q n1.data.toList n2.data.toList) := by
          have h := hcut.out
          rw [ext_tail hp.out] at h
          exact h
        clear hcut
        have hJ1 := jd _ _ k hJ
        obtain ⟨hc1, hf1⟩ := jc _ _ hJ1
        obtain ⟨fn, tmps, assign, body, hy, hR⟩ := hY _ n1 _ hJ1
        gi_wp2
        refine ⟨fun h => (by cases h), hR.mono ?_⟩
        rintro e W3 (⟨ho, rfl, hJ3⟩ | ⟨ho, rfl, hX3⟩)
        · obtain ⟨hc3, hf3⟩ := jc _ _ hJ3
          by_cases hl : n1.data.toList.length = q.length
          · have hlast : Hid (restOk q0 = true) := by
              rw [← hq.out]; exact rest_last hcut'.out ho.out hl
            have hlen : wrap64 ((n1.size : Int) + 1) = (p.size : Int) := by
              have h1 := hsq.out
              rw [wrap64_in' _ (by rw [size_list]; omega), size_list n1, hl, h1]
              simp
            clear hl
            gi_wp2
            refine bodyPost_ret (results_none rfl _ _ _) rfl ?_
            exact ⟨⟨_, rfl⟩, .inl ⟨hlast.out, _, hJ3⟩⟩
          · obtain ⟨hlq, hmore'⟩ := rest_more hcut'.out ho.out hl
            have hmore : Hid (restOk q0 = (splitL n2.data.toList).all partOk) := by
              rw [← hq.out]; exact hmore'
            have hlen : (wrap64 ((n1.size : Int) + 1) == (p.size : Int)) = false := by
              have h1 := hsq.out
              rw [wrap64_in' _ (by rw [size_list]; omega), size_list n1, h1, beq_eq_false_iff_ne]
              omega
            have hn2 : ¬ 9223372036854775807 < 1 + n2.size := by
              have h1 := hsq.out
              rw [size_list]; omega
            have hlq2 : Hid (q.length = n1.data.toList.length + n2.data.toList.length + 1) := hlq
            clear hl hlq hmore'
            have hJ4 := js p (⟨#[47]⟩ ++ n2) W3 hJ3
            obtain ⟨fn2, tm2, as2, bo2, hy2, hR2⟩ := hY _ ⟨#[]⟩ _ hJ4
            gi_wp2
            · rename_i hz _ _
              have hz' : n2.data.toList = [] := by
                rw [ByteArray.toList_eq] at hz
                exact List.isEmpty_iff.1 hz
              have hz2 : n2 = ⟨#[]⟩ := by
                obtain ⟨⟨x⟩⟩ := n2
                simp at hz'
                rw [hz']
              clear hz hz'
              refine ⟨fun h => (by cases h), hR2.mono ?_⟩
              rintro e W4 (⟨ho2, rfl, hJ5⟩ | ⟨ho2, rfl, hX5⟩)
              · exact absurd (ho2.out : partOk [] = true) (by decide)
              · have hc4 := xc _ _ hX5
                have hbad : Hid (restOk q0 = false) := by
                  rw [hmore.out, hz2]; rfl
                gi_wp2
                refine ⟨.inr ⟨_, hX5, ?_, hbad⟩, ?_⟩
                · rw [hz2]; rfl
                · have h1 := hsq.out; have h2 := hlq2.out
                  rw [hc4, hc, hz2]
                  show 1 < p.size
                  omega
            · rename_i hz
              have hz' : n2.data.toList ≠ [] := by
                rw [ByteArray.toList_eq] at hz
                intro h
                rw [h] at hz
                cases hz
              have hs2 : (⟨#[47]⟩ ++ n2 : ByteArray).size = n2.size + 1 := by
                rw [ByteArray.size_append]
                have : (⟨#[47]⟩ : ByteArray).size = 1 := rfl
                omega
              have h1 := hsq.out; have h2 := hlq2.out
              have h3 := size_list n2
              refine ⟨.inl ⟨_, n2.data.toList, hJ4, ?_, ?_, ?_⟩, ?_⟩
              · show _ = _
                rw [ByteArray.data_append, Array.toList_append]; rfl
              · show _ = _
                rw [hmore.out]
                unfold restOk
                cases hd : n2.data.toList with
                | nil => exact absurd hd hz'
                | cons x xs => simp
              · rw [hs2]; omega
              · rw [(jc _ _ hJ4).1, hc]
                show (⟨#[47]⟩ ++ n2 : ByteArray).size < p.size
                rw [hs2]; omega
        · have hc3 := xc _ _ hX3
          have hbad : Hid (restOk q0 = false) := by
            rw [← hq.out]; exact rest_bad hq2.out hcut'.out ho.out
          gi_wp2
          refine bodyPost_ret (results_none rfl _ _ _) rfl ?_
          exact ⟨⟨_, rfl⟩, .inr ⟨hbad.out, _, hX3⟩⟩
    · have hc := xc _ _ hX
      have hp' := hp.out
      subst hp'
      gi_wp2
      go_end0
      exact ⟨⟨_, rfl⟩, .inr ⟨hq.out, _, hX⟩⟩
end Go.Proofs.YtienbbhelhhfjaaGreatDoor

namespace Go.Proofs.YtienbbhelhhfjaaGreatDoor
open Go.RowKit Go.Shelf
attribute [local go_sem] Oper.semAt_some

theorem cellNew (W : World) (v : Value) (t : TypeId) : (W.alloc (.cells #[v] t)).cell? ⟨W.heap.size, 0, none⟩ = some v ∧ (W.alloc (.cells #[v] t)).frozen? ⟨W.heap.size, 0, none⟩ = false := by
  have h := World.alloc_heap_new W (.cells #[v] t)
  constructor
  · simp only [World.cell?, h]; rfl
  · simp only [World.frozen?, h]; rfl

theorem setOther {W : World} {p a : Addr} (v : Value) (h : p.block ≠ a.block) : (W.setCell p v).cell? a = W.cell? a :=
  World.cell?_of_block (Below.heap_setCell _ _ _ _ (fun e => h e.symm))

theorem cellAlloc {W : World} {a : Addr} {v : Value} (o : Obj) (h : W.cell? a = some v) : (W.alloc o).cell? a = some v := cell_kept h (World.grownBy_alloc W o none) (fun r e => by cases e)
theorem frozenAlloc {W : World} {a : Addr} {v : Value} (o : Obj) (h : W.cell? a = some v) (hf : W.frozen? a = false) : (W.alloc o).frozen? a = false := (frozen_kept h (World.grownBy_alloc W o none) (fun r e => by cases e)).trans hf

theorem head_of (p : ByteArray) (h : 0 < p.size) (e : (((p[0]'h).toNat : Nat) : Int) = 47) : ∃ q, p.data.toList = 47 :: q ∧ q.length + 1 = p.size := by
  obtain ⟨⟨l⟩⟩ := p
  cases l with
  | nil => simp [ByteArray.size] at h
  | cons b l =>
    refine ⟨l, ?_, rfl⟩
    have e' : ((b.toNat : Nat) : Int) = 47 := e
    have : b = 47 := UInt8.toNat_inj.1 (by have h47 : (47 : UInt8).toNat = 47 := rfl; omega)
    rw [this]

theorem size_pos_of (p : ByteArray) (h : ¬ p.toList = []) : 0 < p.size := by
  rw [ByteArray.toList_eq] at h
  rw [size_list]
  exact List.length_pos_iff.2 h

theorem not_head (p : ByteArray) (q : List UInt8) (hp : p.data.toList = 47 :: q) (h : 0 < p.size) : (((p[0]'h).toNat : Nat) : Int) = 47 := by
  obtain ⟨⟨l⟩⟩ := p
  simp at hp
  subst hp
  rfl

/-- Is it a right path? -/
def pathOk : List UInt8 → Bool
  | 47 :: q => decide (q.length < 200) && restOk q
  | _ => false

set_option maxRecDepth 100000 in
theorem parts1 (p : ByteArray) (w : World) :
    Calls Tryz.prog 55 #[.string p] w fun e w' => e = .returned (.func (.func 76) #[] #[.pointer (some ⟨w.heap.size, 0, none⟩)]) ∧ w' = w.alloc (.cells #[.string p] 9) := by
  go_enter Tryz.func55, Tryz.ntmps55
  go_wp2
  go_ret
  exact ⟨rfl, rfl⟩

theorem pathOk_no {l : List UInt8} (h : ∀ q, l = 47 :: q → ¬ q.length < 200) : pathOk l = false := by
  unfold pathOk
  split
  · rename_i q
    simp [h q rfl]
  · rfl

/-- Where the function leaves ahead of the loop. -/
theorem leave0 {R : Ending → World → Prop} {fn : Func} {a : Act} {w : World} (hd : a.defers = []) {v : Value} (hr : (results fn a.tmps).run Tryz.prog w = .ok v w) (h : R (.returned v) w) : bodyPostM Fence.wide 5 Tryz.prog fn R .ret a w := by
  show LeavesInM _ _ _ _ _ _ _ _ _
  rw [hd]
  exact ⟨v, hr, h⟩

/-- What lies between two rounds. -/
structure I0 (w0 : World) (p : ByteArray) (W : World) : Prop where
  ca : W.cell? ⟨w0.heap.size, 0, none⟩ = some (.bool false)
  fa : W.frozen? ⟨w0.heap.size, 0, none⟩ = false
  cb : W.cell? ⟨w0.heap.size + 1, 0, none⟩ = some (.string p)
  fb : W.frozen? ⟨w0.heap.size + 1, 0, none⟩ = false
  bl : Below w0.heap.size w0 W

theorem I0.own {w0 : World} {p : ByteArray} {W W' : World} {row : Option Nat} (h : I0 w0 p W) (hg : W.grownBy W' row) (hr : ∀ r, row = some r → w0.heap.size ≤ r ∧ ∃ o : Obj, W.heap[r]? = some o ∧ o.isCells = false) : I0 w0 p W' :=
  ⟨cell_kept h.ca hg (fun r e => (hr r e).2), (frozen_kept h.ca hg (fun r e => (hr r e).2)).trans h.fa, cell_kept h.cb hg (fun r e => (hr r e).2), (frozen_kept h.cb hg (fun r e => (hr r e).2)).trans h.fb, h.bl.grown hg h.bl.size (fun k e => (hr k e).1)⟩

theorem I0.put {w0 : World} {p : ByteArray} {W : World} {k : Nat} {o : Obj} (o' : Obj) (h : I0 w0 p W) (hk : w0.heap.size ≤ k) (ho : W.heap[k]? = some o) (hc : o.isCells = false) : I0 w0 p (W.putObj k o') :=
  h.own (grownBy_putObj' W k o') (fun r e => by cases e; exact ⟨hk, o, ho, hc⟩)

theorem I0.alloc {w0 : World} {p : ByteArray} {W : World} (o : Obj) (h : I0 w0 p W) : I0 w0 p (W.alloc o) :=
  h.own (World.grownBy_alloc W o none) (fun r e => by cases e)

theorem I0.drew {w0 : World} {p : ByteArray} {W : World} (k : Nat) (h : I0 w0 p W) : I0 w0 p (W.drewN k) :=
  ⟨h.ca, h.fa, h.cb, h.fb, below_drewN h.bl k⟩

theorem I0.set {w0 : World} {p : ByteArray} {W : World} (p' : ByteArray) (h : I0 w0 p W) : I0 w0 p' (W.setCell ⟨w0.heap.size + 1, 0, none⟩ (.string p')) := by
  refine ⟨?_, ?_, ?_, ?_, h.bl.setCell (by simp) _⟩
  · exact (setOther _ (by show _ ≠ _; simp)).trans h.ca
  · rw [World.frozen?_setCell]; exact h.fa
  · exact World.cell?_setCell_same' _ _ _ (by rw [h.cb]; rfl)
  · rw [World.frozen?_setCell]; exact h.fb

/-- A round's body, where it goes on and where it leaves. -/
def bodyEnd (w0 : World) (p x : ByteArray) (W : World) : Exit → Act → World → Prop
  | .normal, _, W' => Hid (partOk x.data.toList = true) ∧ KeepsOthers W W' ∧ I0 w0 p W'
  | .ret, _, W' => Hid (partOk x.data.toList = false) ∧ KeepsOthers W W' ∧ I0 w0 p W'
  | _, _, _ => False

/-- The loop, at whatever assignments and body. -/
theorem loop0 {n : Nat} (hn : 3 ≤ n) {t : Tmp} {g : Operand} {assign body : Code} {Q : Exit → Act → World → Prop} {a : Act} {w0 w : World} (hw : w0.heap.size + 2 ≤ w.heap.size)
    (hg : a.eval g = .func (.func 76) #[] #[.pointer (some ⟨w0.heap.size + 1, 0, none⟩)]) (p0 : ByteArray) (q0 : List UInt8) (hp0 : Hid (p0.data.toList = 47 :: q0)) (hsz : p0.size ≤ 200)
    (hI : I0 w0 p0 w) (a₁ : ByteArray → Act)
    (hassign : ∀ (l : Nat) (x : ByteArray) (W : World) (K : Act → World → Prop), K (a₁ x) W →
      assign.wpIn (Fence.wide.inRound l) (n - 1 - 1) Tryz.prog (Exit.then K (fun _ _ _ => False)) { tmps := ((#[t] : Array Tmp).zip #[Value.string x]).foldl (fun t (p, v) => t.setIfInBounds p v) a.tmps, defers := [] } W)
    (hbody : ∀ (l : Nat) (p x : ByteArray) (W : World), I0 w0 p W → body.wpIn (Fence.wide.inRound l) (n - 1 - 1) Tryz.prog (bodyEnd w0 p x W) (a₁ x) W)
    (hdone : ∀ (D : Nat) (p : ByteArray) (W : World), w0.heap.size ≤ D → Hid (restOk q0 = true) → I0 w0 p W → W.heap[D]? = some (.deferred (some [])) → Q .normal { a with defers := { target := .collected D, args := #[] } :: a.defers } W)
    (hstop : ∀ (D : Nat) (p : ByteArray) (W : World), w0.heap.size ≤ D → Hid (restOk q0 = false) → I0 w0 p W → W.heap[D]? = some (.deferred (some [])) → Code.ret.wpIn Fence.wide n Tryz.prog Q { a with defers := { target := .collected D, args := #[] } :: a.defers } W) :
    (Code.rangeFunc g #[t] assign body).wpIn Fence.wide n Tryz.prog Q a w := by
  refine wpIn_rangeFunc ?_
  intro fn hfn
  obtain ⟨rec, hrec⟩ : ∃ rec : LoopState → Option Code → Loop, rec = fun st pe => { state := st, pending := pe, fn, tmps := a.tmps, params := #[t], assign, body, defers := w.heap.size } := ⟨_, rfl⟩
  obtain ⟨W1, hW1⟩ : ∃ W1, (w.alloc (.deferred (some []))).alloc (.loop (rec .ready none)) = W1 := ⟨_, rfl⟩
  have hL1 : W1.heap[w.heap.size + 1]? = some (.loop (rec .ready none)) := by
    rw [← hW1]; have := World.alloc_heap_new (w.alloc (.deferred (some []))) (.loop (rec .ready none)); rwa [World.size_alloc] at this
  have hK1 : W1.heap[w.heap.size]? = some (.deferred (some [])) := by
    rw [← hW1]; exact (Below.heap_alloc _ _ _ (by simp)).trans (World.alloc_heap_new w _)
  have hI1 : I0 w0 p0 W1 := by rw [← hW1]; exact (hI.alloc _).alloc _
  have eg : ∀ args w, (callFunc 76 args).run Tryz.prog w = .ok (.enter 76 args) w := enters_of Tryz.func76 (by kernel_rfl) rfl
  refine ⟨w.heap.size + 1, [{ target := .collected w.heap.size, args := #[] }], W1, { target := .fn (.func 76) #[.pointer (some ⟨w0.heap.size + 1, 0, none⟩)], args := #[.func (.yield (w.heap.size + 1)) #[] #[]] }, W1, 76,
    #[.func (.yield (w.heap.size + 1)) #[] #[]] ++ #[.pointer (some ⟨w0.heap.size + 1, 0, none⟩)], W1, ?_, ?_, ?_, ?_, fun h => (by cases h), ?_⟩
  · rw [← hW1, hrec]; exact run_enterLoop_outer _ _ _ _ _
  · simp only [resolve, hg]
    simp [go_sem]
  · intro f' hf'; trivial
  · simp [invoke, go_sem, eg]
  · refine (iter1 (n - 1) (by omega) (w.heap.size + 1) (w0.heap.size + 1)
      (fun p W => I0 w0 p W ∧ W.heap[w.heap.size + 1]? = some (.loop (rec .ready none)) ∧ W.heap[w.heap.size]? = some (.deferred (some [])))
      (fun p W => I0 w0 p W ∧ W.heap[w.heap.size + 1]? = some (.loop (rec .done (some .ret))) ∧ W.heap[w.heap.size]? = some (.deferred (some [])))
      (fun p W h => ⟨h.1.cb, h.1.fb⟩) (fun p W h => h.1.cb) (fun p W k h => ⟨h.1.drew k, h.2.1, h.2.2⟩)
      (fun p p' W h => ⟨h.1.set p', (Below.heap_setCell _ _ _ _ (by show _ ≠ w0.heap.size + 1; omega)).trans h.2.1, (Below.heap_setCell _ _ _ _ (by show _ ≠ w0.heap.size + 1; omega)).trans h.2.2⟩)
      ?_ p0 q0 hp0 hsz W1 ⟨hI1, hL1, hK1⟩).mono ?_
    · -- one round
      rintro p x W ⟨hi, hl, hk⟩
      have hlt : w.heap.size + 1 < W.heap.size := (Array.getElem?_eq_some_iff.1 hl).1
      have hy := run_yield (P := Tryz.prog) (args := #[.string x]) hl (by rw [hrec]; rfl)
      rw [hrec] at hy
      refine ⟨fn, _, assign, body, hy, roundIn_of_wpIn hfn (hassign _ x W _ ⟨_, run_beginRound hl (by rw [hrec]), ?_⟩)⟩
      have hl2 : (W.putObj (w.heap.size + 1) (.loop { rec .ready none with state := .busy })).heap[w.heap.size + 1]? = some (.loop { rec .ready none with state := .busy }) := World.putObj_heap_same hlt
      have hk2 : (W.putObj (w.heap.size + 1) (.loop { rec .ready none with state := .busy })).heap[w.heap.size]? = some (.deferred (some [])) := (World.putObj_heap_other (by omega)).trans hk
      refine wpIn_mono (hbody _ p x _ (hi.put _ (by omega) hl rfl)) ?_
      have fin : ∀ (jump : Option Code) (W3 : World), KeepsOthers (W.putObj (w.heap.size + 1) (.loop { rec .ready none with state := .busy })) W3 →
          (Instr.endRound (w.heap.size + 1) jump).run Tryz.prog W3 = .ok (.bool jump.isNone) (W3.putObj (w.heap.size + 1) (.loop (rec (if jump.isNone then .ready else .done) jump))) ∧
          W3.heap[w.heap.size + 1]? = some (.loop { rec .ready none with state := .busy }) ∧
          (W3.putObj (w.heap.size + 1) (.loop (rec (if jump.isNone then .ready else .done) jump))).heap[w.heap.size + 1]? = some (.loop (rec (if jump.isNone then .ready else .done) jump)) ∧
          (W3.putObj (w.heap.size + 1) (.loop (rec (if jump.isNone then .ready else .done) jump))).heap[w.heap.size]? = some (.deferred (some [])) := fun jump W3 hk3 => by
        have hl3 := hk3.same _ _ hl2 rfl
        have := run_endRound (P := Tryz.prog) jump hl3
        rw [hrec] at this ⊢
        exact ⟨this, by rw [hrec] at hl3; exact hl3, World.putObj_heap_same (Array.getElem?_eq_some_iff.1 hl3).1, (World.putObj_heap_other (by omega)).trans (hk3.same _ _ hk2 rfl)⟩
      rintro e a3 W3 hp
      cases e with
      | normal =>
        obtain ⟨ho, hk3, hi3⟩ := hp
        obtain ⟨hr, hl3, hl4, hk4⟩ := fin none W3 hk3
        exact ⟨_, _, hr, .inl ⟨ho, rfl, hi3.put _ (by omega) hl3 rfl, hl4, hk4⟩⟩
      | ret =>
        obtain ⟨ho, hk3, hi3⟩ := hp
        obtain ⟨hr, hl3, hl4, hk4⟩ := fin (some .ret) W3 hk3
        exact ⟨_, _, hr, .inr ⟨ho, rfl, hi3.put _ (by omega) hl3 rfl, hl4, hk4⟩⟩
      | exit id => exact hp.elim
      | goto t => exact hp.elim
      | panic ch => exact hp.elim
      | outgrown => exact hp.elim
    · -- behind the iterator
      rintro e W2 ⟨⟨v, rfl⟩, (⟨hS, p, hi, hl, hk⟩ | ⟨hS, p, hi, hl, hk⟩)⟩
      · exact ⟨none, _, by have := run_endLoop (P := Tryz.prog) hl (by rw [hrec]; simp); rw [hrec] at this; exact this, hdone _ p _ (by omega) hS (hi.put _ (by omega) hl rfl) ((World.putObj_heap_other (by omega)).trans hk)⟩
      · exact ⟨some .ret, _, by have := run_endLoop (P := Tryz.prog) hl (by rw [hrec]; simp); rw [hrec] at this; exact this, hstop _ p _ (by omega) hS (hi.put _ (by omega) hl rfl) ((World.putObj_heap_other (by omega)).trans hk)⟩

set_option maxRecDepth 100000 in
set_option maxHeartbeats 4000000 in
theorem check0 (p : ByteArray) (w : World) :
    CallsIn Fence.wide 5 Tryz.prog 28 #[.string p] w fun e w' => e = .returned (.bool (pathOk p.data.toList)) ∧ Below w.heap.size w w' := by
  have hb1 : Below w.heap.size w (w.alloc (.cells #[.bool false] 4)) := (Below.refl _ w).alloc (Nat.le_refl _) _
  have hcA := (cellNew w (.bool false) 4).1
  have hfA := (cellNew w (.bool false) 4).2
  by_cases hbad : ∀ q, p.data.toList = 47 :: q → ¬ q.length < 200
  · have hno : Hid (pathOk p.data.toList = false) := pathOk_no hbad
    have hbad' : Hid (∀ q, p.data.toList = 47 :: q → ¬ q.length < 200) := hbad
    clear hbad
    refine callsIn_of_wp_marks Tryz.func28 rfl trivial ?_ rfl
    simp only [Tryz.ntmps28, List.size_toArray, List.length_cons, List.length_nil, Nat.reduceAdd, Nat.reduceSub, Array.replicate_succ, Array.replicate_zero, List.push_toArray, List.append_toArray, List.nil_append, List.cons_append]
    gi_wp2
    · refine leave0 rfl (v := .bool false) ?_ ⟨by rw [hno.out], hb1⟩
      simp [results, Tryz.f28, go_sem, hcA]
    · refine leave0 rfl (v := .bool false) ?_ ⟨by rw [hno.out], hb1⟩
      simp [results, Tryz.f28, go_sem, hcA]
    · exfalso
      rename_i g1 g2 g3 g4 _ _ _ _ _ _
      obtain ⟨q, h1, h2⟩ := head_of p g2 g3
      exact hbad'.out q h1 (by have := g4.2; omega)
    · refine leave0 rfl (v := .bool false) ?_ ⟨by rw [hno.out], hb1⟩
      simp [results, Tryz.f28, go_sem, hcA]
    · exfalso
      rename_i g1 _ _ g3
      exact g3 (size_pos_of p g1)
  · obtain ⟨q, hq⟩ := Classical.not_forall.1 hbad
    obtain ⟨hp, hlen⟩ := Classical.not_imp.1 hq
    have hlen' : q.length < 200 := Classical.not_not.1 hlen
    have hsz : p.size = q.length + 1 := by rw [size_list, hp]; rfl
    have hpos : 0 < p.size := by omega
    have hhd := not_head p q hp hpos
    have hp' : Hid (p.data.toList = 47 :: q) := hp
    have hsz' : Hid (p.size = q.length + 1) := hsz
    have hle : (p.size : Int) ≤ 200 := by omega
    have hee : p.toList.isEmpty = false := by rw [ByteArray.toList_eq, hp]; rfl
    have hok : Hid (pathOk p.data.toList = restOk q) := by
      show _ = _
      rw [hp]; unfold pathOk; simp [hlen']
    clear hbad hq hlen hlen' hp hsz
    refine callsIn_of_wp_marks Tryz.func28 rfl trivial ?_ rfl
    simp only [Tryz.ntmps28, List.size_toArray, List.length_cons, List.length_nil, Nat.reduceAdd, Nat.reduceSub, Array.replicate_succ, Array.replicate_zero, List.push_toArray, List.append_toArray, List.nil_append, List.cons_append]
    gi_wp2
    refine ⟨trivial, (callsIn_wide.2 (parts1 _ _)).mono ?_⟩
    rintro e w' ⟨rfl, rfl⟩
    gi_wp2
    have hI : I0 w p ((w.alloc (.cells #[.bool false] 4)).alloc (.cells #[.string p] 9)) := by
      have h := cellNew (w.alloc (.cells #[.bool false] 4)) (.string p) 9
      rw [World.size_alloc] at h
      exact ⟨cellAlloc _ hcA, frozenAlloc _ hcA hfA, h.1, h.2, hb1.alloc (by simp) _⟩
    refine loop0 (by omega) (w0 := w) (by simp) rfl p q hp' (by omega) hI
      (fun x => { tmps := #[.string p, undef, .pointer (some ⟨w.heap.size, 0, none⟩), .string x, .string p, .bool false, .bool false, .string p, .int .u8 47, .bool false, .bool false, .bool false, .string p, .int .i64 p.size, .bool (decide (200 < (p.size : Int))), .bool (decide (200 < (p.size : Int))), .string p, .func (.func 76) #[] #[.pointer (some ⟨w.heap.size + 1, 0, none⟩)], .string x, undef, undef, undef], defers := [] }) ?assign ?body ?done ?stop
    case assign =>
      intro l x W K hK
      gi_wp2
      exact hK
    case body =>
      intro l p1 x W h1
      have hca := h1.ca
      have hfa := h1.fa
      gi_wp2
      refine ⟨trivial, (CallsIn.inRound l (callsIn_wide.2 (part1 x W))).mono ?_⟩
      rintro e W2 ⟨rfl, pos, rfl⟩
      have hi2 : I0 w p1 (W.iter x pos) := h1.alloc _
      have hk2 : KeepsOthers W (W.iter x pos) := KeepsOthers.alloc W _
      have hca2 := hi2.ca
      have hfa2 := hi2.fa
      cases hx : partOk x.data.toList with
      | true =>
        have hx' : Hid (partOk x.data.toList = true) := hx
        clear hx
        gi_wp2
        exact ⟨hx', hk2, hi2⟩
      | false =>
        have hx' : Hid (partOk x.data.toList = false) := hx
        clear hx
        gi_wp2
        refine ⟨hx', hk2.trans (KeepsOthers.setCell _ _ _), ?_, ?_, ?_, ?_, ?_⟩
        · exact World.cell?_setCell_same' _ _ _ (by rw [hca2]; rfl)
        · rw [World.frozen?_setCell]; exact hfa2
        · exact (setOther _ (by show _ ≠ _; simp)).trans hi2.cb
        · rw [World.frozen?_setCell]; exact hi2.fb
        · exact hi2.bl.setCell (p := ⟨w.heap.size, 0, none⟩) (Nat.le_refl _) _
    case done =>
      intro D p1 W hD hr h1 hK
      have hca := h1.ca
      have hfa := h1.fa
      gi_wp2
      have hK' := (KeepsOthers.setCell W ⟨w.heap.size, 0, none⟩ (.bool true)).same D _ hK rfl
      refine ⟨by simp, .inl ⟨_, _, rfl, run_takeDeferred hK', ?_⟩⟩
      have hc5 := cell_kept (World.cell?_setCell_same' W ⟨w.heap.size, 0, none⟩ (.bool true) (by rw [hca]; rfl)) (grownBy_putObj' _ D (.deferred none)) (fun r e => by cases e; exact ⟨_, hK', rfl⟩)
      refine ⟨.bool true, ?_, by rw [hok.out, hr.out], (h1.bl.setCell (p := ⟨w.heap.size, 0, none⟩) (Nat.le_refl _) _).trans (belowK_b (w := w) (Nat.le_refl _) _ D _ _ hD hK' rfl rfl)⟩
      simp [results, Tryz.f28, go_sem, hc5]
    case stop =>
      intro D p1 W hD hr h1 hK
      gi_wp2
      refine ⟨by simp, .inl ⟨_, _, rfl, run_takeDeferred hK, ?_⟩⟩
      have hc5 := cell_kept h1.ca (grownBy_putObj' _ D (.deferred none)) (fun r e => by cases e; exact ⟨_, hK, rfl⟩)
      refine ⟨.bool false, ?_, by rw [hok.out, hr.out], h1.bl.trans (belowK_b (w := w) (Nat.le_refl _) W D _ _ hD hK rfl rfl)⟩
      simp [results, Tryz.f28, go_sem, hc5]

/-- path.Check, at every text. -/
theorem check1 (p : ByteArray) (w : World) : Calls Tryz.prog 28 #[.string p] w fun e w' => e = .returned (.bool (pathOk p.data.toList)) ∧ Below w.heap.size w w' := callsIn_wide.1 (check0 p w)

#print axioms check1
end Go.Proofs.YtienbbhelhhfjaaGreatDoor

namespace Go.Proofs.YtienbbhelhhfjaaGreatDoor
open Go.Sx Go.RowKit Go.Shelf

def ctPath : CT := fun args h K => match args with
  | [.v (.string s)] => K (.v (.bool (pathOk s.data.toList))) h
  | [.str l] => K (.v (.bool (pathOk l))) h
  | _ => false

def ctIdx : CT := fun args h K => match args with
  | [.v (.string s), .v (.int .u8 c)] => K (.v (.int .i64 (Lib.indexByte s.data.toList c.toNat.toUInt8))) h
  | [.str l, .v (.int .u8 c)] => K (.v (.int .i64 (Lib.indexByte l c.toNat.toUInt8))) h
  | _ => false

/-- The functions whose contracts are laid down. -/
def C0 : FuncId → Option CT := fun f => bif Nat.beq f 28 then some ctPath else bif Nat.beq f 128 then some ctIdx else none

theorem C0_sound : CTSound Tryz.prog C0 := by
  intro f ct h args h0 K hk ρ w H hargs
  unfold C0 at h
  cases h1 : Nat.beq f 28 with
  | true =>
    rw [h1] at h
    have := Nat.eq_of_beq_eq_true h1
    subst this
    simp only [cond_true, Option.some.injEq] at h
    subst h
    unfold ctPath at hk
    split at hk
    · rename_i s
      exact goes_of_below Tryz.func28 (by kernel_rfl) rfl (check1 s w) H hk rfl trivial
    · rename_i l
      exact goes_of_below Tryz.func28 (by kernel_rfl) rfl (check1 ⟨l.toArray⟩ w) H hk rfl trivial
    · exact absurd hk Bool.false_ne_true
  | false =>
    rw [h1] at h
    simp only [cond_false] at h
    cases h2 : Nat.beq f 128 with
    | true =>
      rw [h2] at h
      have := Nat.eq_of_beq_eq_true h2
      subst this
      simp only [cond_true, Option.some.injEq] at h
      subst h
      have key : ∀ (s : ByteArray) (c : Int), (callFunc 128 #[.string s, .int .u8 c]).run Tryz.prog w = .ok (.value (.int .i64 (Lib.indexByte s.data.toList c.toNat.toUInt8))) w := fun s c => by
        rw [run_callFunc_extern Tryz.func128 (by kernel_rfl) (by kernel_rfl) (by kernel_rfl) (e := Extern.BytealgIndexByte.indexByte) (by kernel_rfl), Lib.run_indexByteString]
        rfl
      unfold ctIdx at hk
      split at hk
      · rename_i s c
        exact goes_of_entry (key s c) H hk rfl trivial
      · rename_i l c
        exact goes_of_entry (key ⟨l.toArray⟩ c) H hk rfl trivial
      · exact absurd hk Bool.false_ne_true
    | false => rw [h2] at h; cases h

end Go.Proofs.YtienbbhelhhfjaaGreatDoor

namespace Go.Proofs.YtienbbhelhhfjaaGreatDoor
open Go.Sx Go.RowKit
noncomputable section
open Classical

/-- The last place of a byte ahead of place n. -/
def lastUp (l : List UInt8) (c : UInt8) : Nat → Int
  | 0 => -1
  | n + 1 => if l[n]? = some c then n else lastUp l c n

def lastIdx (l : List UInt8) (c : UInt8) : Int := lastUp l c l.length

theorem lastUp_lt (l : List UInt8) (c : UInt8) : ∀ n, -1 ≤ lastUp l c n ∧ lastUp l c n < n
  | 0 => by simp [lastUp]
  | n + 1 => by
    simp only [lastUp]
    split
    · omega
    · have := lastUp_lt l c n
      omega

def lastInv (A : Arena) (l : List UInt8) (c : UInt8) : LInv := { γ := Nat, G := fun n => n ≤ l.length ∧ lastUp l c n = lastIdx l c, keepS := [0, 1], keepB := [], sl := fun n => [(5, .v (.int .i64 ((n : Int) - 1)))], bl := fun _ => [], ar := fun _ => A, mu := fun n => n }

def lastS : FSpec := ⟨ByteArray × UInt8, fun g vs _ => vs = [.string g.1, .int .u8 g.2.toNat] ∧ g.1.data.toList.length ≤ 140737488351232, fun g _ A v A' => A' = A ∧ v = .int .i64 (lastIdx g.1.data.toList g.2)⟩

set_option maxRecDepth 100000 in
set_option maxHeartbeats 0 in
theorem last_ok : FOk Tryz.prog 101 lastS := by
  refine fok_v mixed fun ⟨s, c⟩ vs A hp => ?_
  simp only [lastS] at hp
  obtain ⟨rfl, hsz⟩ := hp
  refine ⟨noC, tabO Tryz.prog noC noL 60 [(101, 0)], 60, noC_sound _, tabO_sound mixed (noC_sound _) (noL_sound _) _ _, fun blk os out tape D hD => ?_⟩
  conv => lhs; whnf
  have hw0 : IntKind.i64.wrap ((s.data.toList.length : Int) - 1) = (s.data.toList.length : Int) - 1 := wrapI (by omega) (by omega)
  refine (hD _).2 ⟨lastInv A s.data.toList c, ⟨s.data.toList.length, ⟨Nat.le_refl _, rfl⟩, ⟨congrArg (fun x => some (SV.v (.int .i64 x))) hw0, trivial⟩, trivial, rfl⟩, fun (n : Nat) hn => ⟨⟨trivial, trivial⟩, trivial, ?_⟩⟩
  obtain ⟨hn, hl⟩ : n ≤ s.data.toList.length ∧ lastUp s.data.toList c n = lastIdx s.data.toList c := hn
  conv => lhs; whnf
  refine split_dec (fun h0 => ?_) (fun h0 => ?_)
  · obtain ⟨m, rfl⟩ : ∃ m, n = m + 1 := ⟨n - 1, by omega⟩
    have h1 : ((m + 1 : Nat) : Int) - 1 = (m : Int) := by omega
    conv => lhs; whnf
    refine go_in ⟨by omega, by show ((m + 1 : Nat) : Int) - 1 < (s.data.toList.length : Int); omega⟩ ?_
    conv => lhs; whnf
    have hg : s.data.toList.getD (((m + 1 : Nat) : Int) - 1).toNat 0 = s.data.toList[m] := by
      rw [h1, Int.toNat_natCast, List.getD_eq_getElem?_getD, List.getElem?_eq_getElem (by omega)]; rfl
    have hgm : s.data.toList[m]? = some s.data.toList[m] := List.getElem?_eq_getElem (by omega)
    refine split_dec (fun he => ?_) (fun he => ?_)
    · conv => lhs; whnf
      have he : (s.data.toList[m]).toNat = c.toNat := by rw [← hg]; exact Int.ofNat.inj he
      have hc : s.data.toList[m] = c := UInt8.toNat_inj.1 he
      refine (hD _).2 ⟨rfl, ?_⟩
      rw [← hl, h1]
      simp only [lastUp, hgm, hc, if_true]
    · conv => lhs; whnf
      have hc : s.data.toList[m] ≠ c := fun e => he (by rw [hg, e])
      have hw : IntKind.i64.wrap (((m + 1 : Nat) : Int) - 1 - 1) = (m : Int) - 1 := by rw [h1]; exact wrapI (by omega) (by omega)
      refine (hD _).2 ⟨m, ⟨⟨by omega, ?_⟩, ⟨congrArg (fun x => some (SV.v (.int .i64 x))) hw, trivial⟩, trivial, rfl⟩, by show m < m + 1; omega, ⟨rfl, rfl, trivial⟩, trivial⟩
      rw [← hl]
      simp only [lastUp, hgm, Option.some.injEq, hc, if_false]
  · conv => lhs; whnf
    have : n = 0 := by omega
    subst this
    exact (hD _).2 ⟨rfl, by rw [← hl]; rfl⟩

set_option maxRecDepth 100000 in
set_option maxHeartbeats 0 in
theorem lastIx_ok : FOk Tryz.prog 80 lastS := by
  refine fok_v mixed fun ⟨s, c⟩ vs A hp => ?_
  obtain ⟨rfl, hsz⟩ : vs = [.string s, .int .u8 c.toNat] ∧ s.data.toList.length ≤ 140737488351232 := hp
  have hC : CTSound Tryz.prog (lookC [specE 101 lastS] noC) := lookC_sound (noC_sound _) (fun x hx => by
    simp only [List.mem_singleton] at hx
    subst hx; exact specE_ok last_ok)
  refine ⟨_, noL, 60, hC, noL_sound _, fun blk os out tape D hD => ?_⟩
  conv => lhs; whnf
  refine (hD _).2 ⟨(s, c), ⟨rfl, hsz⟩, fun v A' hq => ?_⟩
  obtain ⟨rfl, rfl⟩ : A' = A ∧ v = .int .i64 (lastIdx s.data.toList c) := hq
  conv => lhs; whnf
  exact (hD _).2 ⟨rfl, rfl⟩

/-- A right path in two: what stands over it, and its last part. -/
def cutP (l : List UInt8) : List UInt8 × List UInt8 :=
  if pathOk l = true ∧ l ≠ [47] then (l.take (max (lastIdx l 47) 1).toNat, l.drop (lastIdx l 47 + 1).toNat) else ([], [])

/-- A right path begins with a slash. -/
theorem pathOk_head {l : List UInt8} (h : pathOk l = true) : ∃ q, l = 47 :: q ∧ q.length < 200 ∧ 0 ≤ lastIdx l 47 := by
  unfold pathOk at h
  split at h
  · rename_i q
    simp only [Bool.and_eq_true, decide_eq_true_eq] at h
    refine ⟨q, rfl, h.1, ?_⟩
    have key : ∀ n, 0 ≤ lastUp (47 :: q) 47 (n + 1) := fun n => by
      induction n with
      | zero => simp [lastUp]
      | succ n ih =>
        rw [lastUp]
        split
        · omega
        · exact ih
    exact key q.length
  · cases h

def cutS : FSpec := ⟨ByteArray, fun s vs _ => vs = [.string s], fun s _ A v A' => A' = A ∧ v = .tuple #[.string ⟨(cutP s.data.toList).1.toArray⟩, .string ⟨(cutP s.data.toList).2.toArray⟩]⟩

set_option maxRecDepth 100000 in
set_option maxHeartbeats 0 in
theorem cut_ok : FOk Tryz.prog 60 cutS := by
  refine fok_v mixed fun s vs A hp => ?_
  obtain rfl : vs = [.string s] := hp
  have hC : CTSound Tryz.prog (lookC [specE 80 lastS] C0) := lookC_sound C0_sound (fun x hx => by
    simp only [List.mem_singleton] at hx
    subst hx; exact specE_ok lastIx_ok)
  refine ⟨_, noL, 60, hC, noL_sound _, fun blk os out tape D hD => ?_⟩
  conv => lhs; whnf
  have key : pathOk s.data.toList = true ∨ pathOk s.data.toList = false := by cases pathOk s.data.toList <;> simp
  rcases key with hk | hk
  · refine split_b (fun hb => absurd hb (by simp [hk])) (fun _ => ?_)
    obtain ⟨q, hl, hq, hi0⟩ := pathOk_head hk
    conv => lhs; whnf
    refine split_b (fun hb => ?_) (fun hb => ?_) <;> (conv => lhs; whnf)
    · have h1 : s.data.toList = [47] := beqL_iff.1 hb
      refine (hD _).2 ⟨rfl, ?_⟩
      rw [cutP, if_neg (by simp [h1])]
    · have h1 : s.data.toList ≠ [47] := fun h => by
        have : beqL s.data.toList [47] = true := beqL_iff.2 h
        exact absurd (this.symm.trans hb) (by simp)
      refine (hD _).2 ⟨(s, 47), ⟨rfl, by rw [hl, List.length_cons]; omega⟩, fun v A' hq => ?_⟩
      obtain ⟨rfl, rfl⟩ : A' = A ∧ v = .int .i64 (lastIdx s.data.toList 47) := hq
      conv => lhs; whnf
      have hlt : lastIdx s.data.toList 47 < (s.data.toList.length : Int) := (lastUp_lt _ _ _).2
      have hlen : 1 ≤ s.data.toList.length := by rw [hl, List.length_cons]; omega
      have hlen2 : s.data.toList.length ≤ 200 := by rw [hl, List.length_cons]; omega
      have hmx : (bif decide (lastIdx s.data.toList 47 < 1) then 1 else lastIdx s.data.toList 47) = max (lastIdx s.data.toList 47) 1 := by
        by_cases h9 : lastIdx s.data.toList 47 < 1
        · simp only [h9, decide_true, cond_true]; omega
        · simp only [h9, decide_false, cond_false]; omega
      have hw : IntKind.i64.wrap (lastIdx s.data.toList 47 + 1) = lastIdx s.data.toList 47 + 1 := wrapI (by omega) (by omega)
      refine go_b ?_ ?_
      · simp only [cond_true, hmx, Bool.and_eq_true, decide_eq_true_eq, Bool.or_eq_true]
        omega
      conv => lhs; whnf
      refine go_b ?_ ?_
      · simp only [hw, Bool.and_eq_true, decide_eq_true_eq, Bool.or_eq_true]
        omega
      conv => lhs; whnf
      refine (hD _).2 ⟨rfl, ?_⟩
      rw [cutP, if_pos ⟨hk, h1⟩]
      simp only [cond_true, hmx, hw]
      simp
      exact List.take_of_length_le (by simp)
  · refine go_b (by simp [hk]) ?_
    conv => lhs; whnf
    refine (hD _).2 ⟨rfl, ?_⟩
    rw [cutP, if_neg (by simp [hk])]

def parentP (s : ByteArray) : ByteArray := ⟨(cutP s.data.toList).1.toArray⟩
def baseP (s : ByteArray) : ByteArray := ⟨(cutP s.data.toList).2.toArray⟩

def parentS : FSpec := ⟨ByteArray, fun s vs _ => vs = [.string s], fun s _ A v A' => A' = A ∧ v = .string (parentP s)⟩
def baseS : FSpec := ⟨ByteArray, fun s vs _ => vs = [.string s], fun s _ A v A' => A' = A ∧ v = .string (baseP s)⟩

theorem cutC : CTSound Tryz.prog (lookC [specE 60 cutS] noC) := lookC_sound (noC_sound _) (fun x hx => by
  simp only [List.mem_singleton] at hx
  subst hx; exact specE_ok cut_ok)

set_option maxRecDepth 100000 in
set_option maxHeartbeats 0 in
theorem parent_ok : FOk Tryz.prog 36 parentS := by
  refine fok_v mixed fun s vs A hp => ?_
  obtain rfl : vs = [.string s] := hp
  refine ⟨_, noL, 60, cutC, noL_sound _, fun blk os out tape D hD => ?_⟩
  conv => lhs; whnf
  refine (hD _).2 ⟨s, rfl, fun v A' hq => ?_⟩
  obtain ⟨rfl, rfl⟩ : A' = A ∧ v = .tuple #[.string ⟨(cutP s.data.toList).1.toArray⟩, .string ⟨(cutP s.data.toList).2.toArray⟩] := hq
  conv => lhs; whnf
  exact (hD _).2 ⟨rfl, rfl⟩

end
end Go.Proofs.YtienbbhelhhfjaaGreatDoor

namespace Go.Proofs.YtienbbhelhhfjaaGreatDoor
open Go.Sx Go.RowKit
noncomputable section
open Classical

/-! ### Texts -/

theorem blt_iff {a b : Nat} : Nat.blt a b = true ↔ a < b := by rw [Nat.blt_eq]

theorem ltL_irrefl : ∀ l, ltL l l = false
  | [] => rfl
  | a :: l => by
    have h1 : Nat.blt a.toNat a.toNat = false := by
      cases h : Nat.blt a.toNat a.toNat with
      | false => rfl
      | true => have := blt_iff.1 h; omega
    simp only [ltL, h1, Nat.beq_refl, cond_true, cond_false, ltL_irrefl l]

theorem ltL_cons {a b : UInt8} {l m : List UInt8} : ltL (a :: l) (b :: m) = true ↔ a.toNat < b.toNat ∨ (a = b ∧ ltL l m = true) := by
  simp only [ltL]
  cases h : Nat.blt a.toNat b.toNat with
  | true =>
    have := blt_iff.1 h
    simp [this]
  | false =>
    have h1 : ¬ a.toNat < b.toNat := fun hh => by rw [blt_iff.2 hh] at h; cases h
    cases h2 : Nat.beq a.toNat b.toNat with
    | true =>
      have := Nat.eq_of_beq_eq_true h2
      have e : a = b := UInt8.toNat_inj.1 this
      subst e
      simp
    | false =>
      have : a ≠ b := fun e => by rw [e, Nat.beq_refl] at h2; cases h2
      simp [h1, this]

theorem ltL_trans : ∀ a b c, ltL a b = true → ltL b c = true → ltL a c = true
  | [], _, [], _, h => by cases ‹List UInt8› <;> cases h
  | [], _, _ :: _, _, _ => rfl
  | _ :: _, [], _, h, _ => by cases h
  | _ :: _, _ :: _, [], _, h => by cases h
  | x :: a, y :: b, z :: c, h1, h2 => by
    rw [ltL_cons] at *
    rcases h1 with h1 | ⟨rfl, h1⟩
    · rcases h2 with h2 | ⟨rfl, h2⟩
      · exact .inl (Nat.lt_trans h1 h2)
      · exact .inl h1
    · rcases h2 with h2 | ⟨rfl, h2⟩
      · exact .inl h2
      · exact .inr ⟨rfl, ltL_trans a b c h1 h2⟩

theorem ltL_total : ∀ a b, ltL a b = false → ltL b a = false → a = b
  | [], [], _, _ => rfl
  | [], _ :: _, h, _ => by cases h
  | _ :: _, [], _, h => by cases h
  | x :: a, y :: b, h1, h2 => by
    have h1 : ¬ (x.toNat < y.toNat ∨ (x = y ∧ ltL a b = true)) := fun h => by rw [ltL_cons.2 h] at h1; cases h1
    have h2 : ¬ (y.toNat < x.toNat ∨ (y = x ∧ ltL b a = true)) := fun h => by rw [ltL_cons.2 h] at h2; cases h2
    have e : x = y := UInt8.toNat_inj.1 (by omega)
    subst e
    have e2 : a = b := ltL_total a b (by
      cases h : ltL a b with
      | false => rfl
      | true => exact absurd (.inr ⟨rfl, h⟩) h1) (by
      cases h : ltL b a with
      | false => rfl
      | true => exact absurd (.inr ⟨rfl, h⟩) h2)
    rw [e2]

theorem toList_inj {a b : ByteArray} (h : a.data.toList = b.data.toList) : a = b := by
  obtain ⟨⟨a⟩⟩ := a
  obtain ⟨⟨b⟩⟩ := b
  have h : a = b := h
  rw [h]

/-! ### The order of watches -/

def wLt (a b : WatchD) : Prop := a.conn < b.conn ∨ (a.conn = b.conn ∧ (a.sort < b.sort ∨ (a.sort = b.sort ∧ ltL a.path.data.toList b.path.data.toList = true)))

theorem wLt_irrefl (a : WatchD) : ¬ wLt a a := fun h => by
  rcases h with h | ⟨_, h | ⟨_, h⟩⟩
  · omega
  · omega
  · rw [ltL_irrefl] at h; cases h

theorem wLt_trans {a b c : WatchD} (h1 : wLt a b) (h2 : wLt b c) : wLt a c := by
  rcases h1 with h1 | ⟨e1, h1 | ⟨f1, h1⟩⟩
  · rcases h2 with h2 | ⟨e2, _⟩
    · exact .inl (Int.lt_trans h1 h2)
    · exact .inl (e2 ▸ h1)
  · rcases h2 with h2 | ⟨e2, h2 | ⟨f2, _⟩⟩
    · exact .inl (e1 ▸ h2)
    · exact .inr ⟨e1.trans e2, .inl (Int.lt_trans h1 h2)⟩
    · exact .inr ⟨e1.trans e2, .inl (f2 ▸ h1)⟩
  · rcases h2 with h2 | ⟨e2, h2 | ⟨f2, h2⟩⟩
    · exact .inl (e1 ▸ h2)
    · exact .inr ⟨e1.trans e2, .inl (f1 ▸ h2)⟩
    · exact .inr ⟨e1.trans e2, .inr ⟨f1.trans f2, ltL_trans _ _ _ h1 h2⟩⟩

theorem wLt_total {a b : WatchD} (h1 : ¬ wLt a b) (h2 : ¬ wLt b a) : a = b := by
  obtain ⟨c, s, p⟩ := a
  obtain ⟨c', s', p'⟩ := b
  simp only [wLt, not_or, not_and, Int.not_lt, Bool.not_eq_true] at h1 h2
  have e1 : c = c' := Int.le_antisymm h2.1 h1.1
  subst e1
  have h1 := h1.2 rfl
  have h2 := h2.2 rfl
  have e2 : s = s' := Int.le_antisymm h2.1 h1.1
  subst e2
  rw [toList_inj (ltL_total _ _ (h1.2 rfl) (h2.2 rfl))]

theorem wLt_asymm {a b : WatchD} (h : wLt a b) : ¬ wLt b a := fun k => wLt_irrefl _ (wLt_trans h k)

/-- Sorted. -/
def sortW (us : List WatchD) : List WatchD := us.mergeSort fun x y => !decide (wLt y x)

theorem sortW_perm (us : List WatchD) : (sortW us).Perm us := List.mergeSort_perm _ _

theorem sortW_length (us : List WatchD) : (sortW us).length = us.length := List.length_mergeSort _

theorem sortW_pw (us : List WatchD) : (sortW us).Pairwise fun a b => ¬ wLt b a := by
  refine (List.pairwise_mergeSort (le := fun x y => !decide (wLt y x)) (fun a b c h1 h2 => ?_) (fun a b => ?_) us).imp fun h => by simpa using h
  · simp only [Bool.not_eq_true', decide_eq_false_iff_not] at *
    intro h
    by_cases e : wLt b a
    · exact h1 e
    · by_cases e2 : wLt c b
      · exact h2 e2
      · by_cases e3 : wLt a b
        · exact h2 (wLt_trans h e3)
        · have := wLt_total e e3
          subst this
          exact e2 h
  · by_cases e : wLt b a
    · simp [e, wLt_asymm e]
    · simp [e]

/-- One sorted row alone. -/
theorem sorted_eq {us vs : List WatchD} (h1 : us.Pairwise fun a b => ¬ wLt b a) (h2 : vs.Pairwise fun a b => ¬ wLt b a) (hp : us.Perm vs) : us = vs :=
  List.Perm.eq_of_pairwise (le := fun a b => ¬ wLt b a) (fun _ _ _ _ h1 h2 => wLt_total h2 h1) h1 h2 hp

theorem sortW_of_perm {us vs : List WatchD} (h : us.Perm vs) : sortW us = sortW vs :=
  sorted_eq (sortW_pw _) (sortW_pw _) (((sortW_perm us).trans h).trans (sortW_perm vs).symm)

theorem sortW_id {us : List WatchD} (h : us.Pairwise wLt) : sortW us = us :=
  sorted_eq (sortW_pw _) (h.imp fun h => wLt_asymm h) (sortW_perm us)

/-! ### What a change rings -/

structure RingD where
  conn : Int
  kind : Int
  sort : Int
  path : ByteArray
  z : Int
deriving DecidableEq

def RingD.cells (r : RingD) : List Value := [.int .i64 r.conn, .int .u8 r.kind, .int .u8 r.sort, .string r.path, .int .i64 r.z]

def ringOf (k z : Int) (w : WatchD) : RingD := ⟨w.conn, k, w.sort, w.path, z⟩

/-- Which event a change makes for a watch; 0: none. -/
def rungK (kind : Int) (p : ByteArray) (w : WatchD) : Int :=
  if kind = 1 then (if w.path = p ∧ w.sort = 2 then 1 else if w.sort = 3 ∧ w.path = parentP p then 4 else 0)
  else if kind = 2 then (if w.path = p then 2 else if w.sort = 3 ∧ w.path = parentP p then 4 else 0)
  else if kind = 3 then (if w.path = p ∧ w.sort ≠ 3 then 3 else 0)
  else 0

def rung (kind : Int) (p : ByteArray) (ws : List WatchD) : List WatchD := ws.filter fun w => !decide (rungK kind p w = 0)
def unrung (kind : Int) (p : ByteArray) (ws : List WatchD) : List WatchD := ws.filter fun w => decide (rungK kind p w = 0)

/-- What is told. -/
def chRings (kind : Int) (p : ByteArray) (z : Int) (ws : List WatchD) : List RingD := (sortW (rung kind p ws)).map fun w => ringOf (rungK kind p w) z w

def WOk (ws : List WatchD) : Prop := ∀ w ∈ ws, 1 ≤ w.sort ∧ w.sort ≤ 3

end
end Go.Proofs.YtienbbhelhhfjaaGreatDoor

namespace Go.Sx
noncomputable section

/-- A row that is made by appending: none yet, or one in a block that A1 does not know. -/
def GrowR (A1 A : Arena) (es : Nat) (e : TypeId) (n : Nat) (v : Value) (cs : List Value) : Prop :=
  cs.length = n * es ∧ ((n = 0 ∧ v = .slice none 0 0) ∨
    ∃ g nc c, v = .slice (some ⟨g, 0, none⟩) n nc ∧ n ≤ nc ∧ 0 < nc ∧ A1.blk g = none ∧ A.blk g = some (.cells c e (0, 0)) ∧ c.size = nc * es ∧ c.toList.take (n * es) = cs)

theorem GrowR.nil (A1 A : Arena) (es : Nat) (e : TypeId) : GrowR A1 A es e 0 (.slice none 0 0) [] := ⟨by simp, .inl ⟨rfl, rfl⟩⟩

theorem GrowR.keep {A1 A A' : Arena} {es : Nat} {e : TypeId} {n : Nat} {v : Value} {cs : List Value} (h : GrowR A1 A es e n v cs) (hk : ∀ k, A1.blk k = none → A'.blk k = A.blk k) : GrowR A1 A' es e n v cs := by
  obtain ⟨h1, h2 | ⟨g, nc, c, h3, h4, h4', h5, h6, h7, h8⟩⟩ := h
  · exact ⟨h1, .inl h2⟩
  · exact ⟨h1, .inr ⟨g, nc, c, h3, h4, h4', h5, by rw [hk g h5]; exact h6, h7, h8⟩⟩

theorem GrowR.sub {A1 A A' : Arena} {es : Nat} {e : TypeId} {n : Nat} {v : Value} {cs : List Value} (h : GrowR A1 A es e n v cs) (hk : A.Sub A') : GrowR A1 A' es e n v cs := by
  obtain ⟨h1, h2 | ⟨g, nc, c, h3, h4, h4', h5, h6, h7, h8⟩⟩ := h
  · exact ⟨h1, .inl h2⟩
  · exact ⟨h1, .inr ⟨g, nc, c, h3, h4, h4', h5, hk g _ h6, h7, h8⟩⟩

/-- What an append to it asks. -/
structure GrowP (A : Arena) (base : Option (Nat × Nat)) (n c es bytes : Nat) (cs : List Value) : Prop where
  rd : baseRd A base (n * es) = some cs
  cap : c < n + 1 → Builtin.nextslicecap (n + 1) c * bytes ≤ 281474976710656
  none_ : base = none → n = 0 ∧ c = 0
  room : ∀ (m : Nat), m = es → ∀ g o, base = some (g, o) → n + 1 ≤ c → A.Room g (o + n * es) m

theorem GrowR.form {A1 A : Arena} {es : Nat} {e : TypeId} {n : Nat} {v : Value} {cs : List Value} (h : GrowR A1 A es e n v cs) :
    ∃ base c, v = .slice (addrA base) n c ∧ (base = none ∨ ∃ g, base = some (g, 0)) ∧ (∀ bytes, bytes ≤ 65536 → n ≤ 1000000000 → GrowP A base n c es bytes cs) ∧
    ∀ ys v' A', ys.length = es → (∀ k, A.blk k = none → A1.blk k = none) → Appended A base n c es e cs ys 1 v' A' → GrowR A1 A' es e (n + 1) v' (cs ++ ys) ∧ ∀ k o, A1.blk k = some o → A'.blk k = A.blk k := by
  obtain ⟨hl, ⟨rfl, rfl⟩ | ⟨g, nc, c, rfl, hn, hpos, hg, hb, hsz, ht⟩⟩ := h
  · have hcs : cs = [] := List.length_eq_zero_iff.1 (by rw [hl]; simp)
    subst hcs
    refine ⟨none, 0, rfl, .inl rfl, fun bytes hby hn => ⟨by simp [baseRd], fun h => ?_, fun _ => ⟨rfl, rfl⟩, fun _ _ _ _ h => (by cases h)⟩, fun ys v' A' hy hd ha => ?_⟩
    · have := nextcap_le h
      calc _ ≤ (2 * (0 + 1) + 768) * 65536 := Nat.mul_le_mul this hby
        _ ≤ _ := by omega
    · rcases ha with ⟨h0, _⟩ | ⟨_, g, nc, c, zs, rfl, hnc, hc, hz, hN⟩
      · omega
      · refine ⟨⟨by simp [hy], .inr ⟨g, nc, c, rfl, hnc, by omega, hd g hN.none_, hN.at_, ?_, ?_⟩⟩, fun k o hk => hN.other k fun e => (by subst e; rw [hd _ hN.none_] at hk; cases hk)⟩
        · rw [← Array.length_toList, hc]
          simp only [List.nil_append, List.length_append, hy, hz, Nat.zero_add]
          have : nc = (nc - 1) + 1 := by omega
          rw [show nc * es = ((nc - 1) + 1) * es by rw [← this], Nat.succ_mul]; omega
        · rw [hc]; simp [hy]
  · have hle : n * es ≤ nc * es := Nat.mul_le_mul_right _ hn
    refine ⟨some (g, 0), nc, rfl, .inr ⟨g, rfl⟩, fun bytes hby hnb => ⟨?_, fun h => ?_, fun h => (by cases h), fun m hm g' o' h hlt => ?_⟩, fun ys v' A' hy hd ha => ?_⟩
    · show (if n * es = 0 then some [] else A.rd g 0 (n * es)) = some cs
      by_cases h0 : n * es = 0
      · rw [if_pos h0]
        rw [h0] at hl; rw [List.length_eq_zero_iff.1 hl]
      · rw [if_neg h0, rd_mk hb (by omega)]; simp [ht]
    · have := nextcap_le h
      calc _ ≤ (2 * (n + 1) + 768) * 65536 := Nat.mul_le_mul this hby
        _ ≤ _ := by omega
    · injection h with h; injection h with h1 h2; subst h1; subst h2; subst hm
      refine ⟨c, e, (0, 0), hb, ?_, .inl rfl⟩
      have := Nat.mul_le_mul_right m hlt
      rw [Nat.succ_mul] at this; omega
    · rcases ha with ⟨h0, rfl, h3⟩ | ⟨h0, g', nc', c', zs, rfl, hnc, hc, hz, hN⟩
      · obtain ⟨c', k1, k2, k3⟩ : ∃ c', A'.blk g = some (.cells c' e (0, 0)) ∧ (∀ k, k ≠ g → A'.blk k = A.blk k) ∧ c'.toList = c.toList.take (n * es) ++ ys ++ c.toList.drop (n * es + ys.length) := by
          rcases h3 with ⟨rfl, rfl⟩ | ⟨g', o', h, hP⟩
          · exact ⟨c, hb, fun _ _ => rfl, by simp⟩
          · injection h with h; injection h with h1 h2; subst h1; subst h2
            obtain ⟨c0, t0, fz0, c', k1, k2, k3⟩ := hP.at_
            rw [hb] at k1
            injection k1 with k1; injection k1 with k1 k1' k1''
            subst k1; subst k1'; subst k1''
            exact ⟨c', k2, hP.other, by rw [k3]; simp⟩
        have hlen : n * es + es ≤ nc * es := by rw [← Nat.succ_mul]; exact Nat.mul_le_mul_right _ h0
        refine ⟨⟨by simp [hl, hy, Nat.succ_mul], .inr ⟨g, nc, c', rfl, h0, hpos, hg, k1, ?_, ?_⟩⟩, fun k o hk => k2 k fun e => (by subst e; rw [hg] at hk; cases hk)⟩
        · rw [← Array.length_toList, k3]
          simp only [List.length_append, List.length_take, List.length_drop, Array.length_toList, hsz, hy]
          omega
        · rw [k3, ht]
          rw [List.take_append_of_le_length (by simp [hl, hy, Nat.succ_mul])]
          rw [List.take_of_length_le (by simp [hl, hy, Nat.succ_mul])]
      · refine ⟨⟨by simp [hl, hy, Nat.succ_mul], .inr ⟨g', nc', c', rfl, hnc, by omega, hd g' hN.none_, hN.at_, ?_, ?_⟩⟩, fun k o hk => hN.other k fun e => (by subst e; rw [hd _ hN.none_] at hk; cases hk)⟩
        · rw [← Array.length_toList, hc]
          simp only [List.length_append, hl, hy, hz]
          obtain ⟨d, rfl⟩ : ∃ d, nc' = (n + 1) + d := ⟨nc' - (n + 1), by omega⟩
          rw [Nat.add_sub_cancel_left, Nat.add_mul, Nat.add_mul]; omega
        · rw [hc]
          rw [List.take_append_of_le_length (by simp [hl, hy, Nat.succ_mul])]
          rw [List.take_of_length_le (by simp [hl, hy, Nat.succ_mul])]

end
end Go.Sx

namespace Go.Proofs.YtienbbhelhhfjaaGreatDoor
open Go.Sx Go.RowKit
noncomputable section
open Classical

theorem ring_at {A : Arena} {g o n : Nat} {l : List RingD} (h : A.rd g o (n * 5) = some (l.flatMap RingD.cells)) (k : Nat) (hk : k < l.length) (hn : n = l.length) : A.rd g (o + k * 5) 5 = some l[k].cells := by
  have h' : A.rd g o (n * 5) = some (l.map RingD.cells).flatten := by rw [h, List.flatMap_def]
  have := rows_at h' (fun r hr => by obtain ⟨w, _, rfl⟩ := List.mem_map.1 hr; rfl) k (by simpa using hk) (by simpa using hn)
  rw [this]
  simp

def isEqS : FSpec := ⟨List RingD, fun l vs A => ∃ x y, vs = [x, y] ∧ Sl A 5 l.length x (l.flatMap RingD.cells) ∧ Sl A 5 l.length y (l.flatMap RingD.cells) ∧ l.length ≤ 1000000000, fun _ _ A v A' => A' = A ∧ v = .bool true⟩

set_option maxRecDepth 100000 in
set_option maxHeartbeats 0 in
theorem isEq_ok : FOk Tryz.prog 14 isEqS := by
  refine fok_v mixed fun (l : List RingD) vs A hp => ?_
  obtain ⟨x, y, rfl, ⟨ao, c, rfl, hc, _, ha1, ha2, ha3⟩, ⟨bo, d, rfl, hd, _, hb1, hb2, hb3⟩, hl⟩ : ∃ x y, vs = [x, y] ∧ Sl A 5 l.length x (l.flatMap RingD.cells) ∧ Sl A 5 l.length y (l.flatMap RingD.cells) ∧ l.length ≤ 1000000000 := hp
  refine ⟨noC, tabO Tryz.prog noC noL 60 [(14, 0)], 60, noC_sound _, tabO_sound mixed (noC_sound _) (noL_sound _) _ _, fun blk os out tape D hD => ?_⟩
  have hend : isEqS.post l [] A (.bool true) A := ⟨rfl, rfl⟩
  conv => lhs; whnf
  refine split_nd (fun _ => ?_) (fun h => absurd rfl h)
  conv => lhs; whnf
  refine (hD _).2 ⟨cnt A 5 [0, 1] [] l.length fun _ => True, ⟨(0 : Nat), ⟨Nat.zero_le _, trivial⟩, ⟨rfl, trivial⟩, trivial, rfl⟩, fun (k : Nat) hk => ⟨⟨trivial, trivial⟩, trivial, ?_⟩⟩
  simp only [cnt] at hk
  conv => lhs; whnf
  refine split_dec (fun hlt => ?_) (fun hlt => ?_)
  rotate_left
  · conv => lhs; whnf
    exact (hD _).2 hend
  have hlt : (k : Int) < (l.length : Int) := hlt
  have hkl : k < l.length := by omega
  have i0 : (0 : Int) ≤ (k : Int) ∧ (k : Int) < (l.length : Int) := by omega
  obtain ⟨g, o, rfl, hra⟩ := Sl.at_ hc ha1 ha2 ha3 (by omega)
  obtain ⟨g', o', rfl, hrb⟩ := Sl.at_ hd hb1 hb2 hb3 (by omega)
  have h1 := ring_at hra k hkl rfl
  have h2 := ring_at hrb k hkl rfl
  obtain ⟨w, hw⟩ : ∃ w, w = l[k] := ⟨_, rfl⟩
  rw [← hw] at h1 h2
  obtain ⟨cn, kd, so, p, z⟩ := w
  have hbb : beqL p.data.toList p.data.toList = true := beqL_iff.2 rfl
  conv => lhs; whnf
  repeat (first | refine go_in i0 ?_ | refine go_rd h1 ?_ | refine go_rd h2 ?_ | refine go_D hD rfl ?_ | refine go_D hD (by kernel_rfl) ?_
          conv => lhs; whnf)
  refine split_b (fun hb => ?_) (fun hb => ?_)
  · rw [hbb] at hb
    simp at hb
  conv => lhs; whnf
  exact (hD _).2 ⟨(k + 1 : Nat), ⟨⟨hkl, trivial⟩, ⟨inc_slot (by omega), trivial⟩, trivial, rfl⟩, by show l.length - (k + 1) < l.length - k; omega, ⟨same1 rfl rfl, same1 rfl rfl, trivial⟩, trivial⟩

end
end Go.Proofs.YtienbbhelhhfjaaGreatDoor

namespace Go.Proofs.YtienbbhelhhfjaaGreatDoor
open Go.Sx Go.RowKit Go.Sort Go.Shelf
noncomputable section

theorem flat_get {α : Type} [Inhabited α] (enc : α → List Value) (k : Nat) (hk : ∀ x, (enc x).length = k) (hp : 0 < k) : ∀ (l : List α) (t : Nat), t < l.length * k → (l.flatMap enc)[t]? = (enc (l[t / k]!))[t % k]?
  | [], t, h => by simp at h
  | x :: l, t, h => by
    rw [List.flatMap_cons]
    by_cases ht : t < k
    · rw [List.getElem?_append_left (by rw [hk]; exact ht), Nat.div_eq_of_lt ht, Nat.mod_eq_of_lt ht]; rfl
    · rw [List.getElem?_append_right (by rw [hk]; omega), hk]
      have hlt : t - k < l.length * k := by
        rw [List.length_cons, Nat.succ_mul] at h; omega
      rw [flat_get enc k hk hp l (t - k) hlt]
      have e1 : t / k = (t - k) / k + 1 := by
        rw [Nat.div_eq_sub_div hp (by omega)]
      have e2 : t % k = (t - k) % k := by rw [Nat.mod_eq_sub_mod (by omega)]
      rw [e1, e2]
      simp

theorem flatK_list {α : Type} [Inhabited α] (enc : α → List Value) (k : Nat) (hk : ∀ x, (enc x).length = k) (hp : 0 < k) (l : List α) : (flatK enc k l.toArray).toList = l.flatMap enc := by
  have hlen : (l.flatMap enc).length = l.length * k := by
    induction l with
    | nil => simp
    | cons x l ih => rw [List.flatMap_cons, List.length_append, hk, ih, List.length_cons, Nat.succ_mul]; omega
  refine List.ext_getElem? fun t => ?_
  by_cases ht : t < l.length * k
  · rw [flat_get enc k hk hp l t ht]
    have hm : t % k < k := Nat.mod_lt _ hp
    simp only [flatK, Array.toList_map, Array.toList_range, List.getElem?_map, List.size_toArray]
    rw [List.getElem?_range ht]
    simp only [Option.map_some, List.getElem!_toArray]
    rw [List.getElem?_eq_getElem (by rw [hk]; exact hm)]
    congr 1
    rw [List.getElem!_eq_getElem?_getD, List.getElem?_eq_getElem (by rw [hk]; exact hm)]
    rfl
  · rw [List.getElem?_eq_none (by rw [Array.length_toList, size_flatK, List.size_toArray]; omega), List.getElem?_eq_none (by rw [hlen]; omega)]

theorem putC_toList {β : Type} [Inhabited β] (enc : β → Value) (d : Array β) (c : Array Value) (h : d.size ≤ c.size) : (putCells enc 0 d c).toList = c.toList.take 0 ++ d.toList.map enc ++ c.toList.drop (0 + (d.toList.map enc).length) := by
  obtain ⟨d⟩ := d
  have h : d.length ≤ c.size := h
  refine List.ext_getElem? fun k => ?_
  simp only [putCells, Array.toList_mapIdx, List.getElem?_mapIdx, List.take_zero, List.nil_append, List.length_map, Nat.zero_add, Nat.zero_le, true_and, List.size_toArray, Nat.sub_zero]
  by_cases hk : k < d.length
  · rw [List.getElem?_append_left (by simpa using hk), List.getElem?_map, List.getElem?_eq_getElem hk]
    have hkc : k < c.toList.length := Nat.lt_of_lt_of_le hk h
    have h1 : c.toList[k]? = some c.toList[k] := List.getElem?_eq_getElem hkc
    rw [h1]
    simp [hk]
  · rw [List.getElem?_append_right (by simpa using Nat.le_of_not_lt hk), List.length_map, List.getElem?_drop, Nat.add_sub_cancel' (Nat.le_of_not_lt hk)]
    cases c.toList[k]? <;> simp [hk]

/-- A world that a sort leaves, as an arena. -/
theorem put_moves {β : Type} [Inhabited β] (enc : β → Value) {A : Arena} {w w' : World} (hA : ∀ k o, A.blk k = some o → w.heap[k]? = some o) {g : Nat} {c : Array Value} {t : TypeId} {fz : Nat × Nat} (hb : A.blk g = some (.cells c t fz)) {arr : Array β} (hd : arr.size ≤ c.size) {n : Nat} {os : Array Obj}
    (k2 : w' = grow (putRow enc (Sort.ahead w n) g 0 arr) os) : ∃ A', A.Put A' g 0 (arr.toList.map enc) ∧ Moves A A' w w' := by
  subst k2
  have hw := hA _ _ hb
  have hsz : g < w.heap.size := (Array.getElem?_eq_some_iff.1 hw).1
  refine ⟨Arena.of (fun k => if k = g then some (.cells (putCells enc 0 arr c) t fz) else A.blk k), ⟨⟨c, t, fz, _, hb, if_pos rfl, putC_toList enc arr c hd⟩, fun k hk => if_neg hk⟩, ?_⟩
  have at_ : ∀ k, k < w.heap.size → (grow (putRow enc (Sort.ahead w n) g 0 arr) os).heap[k]? = if k = g then some (.cells (putCells enc 0 arr c) t fz) else w.heap[k]? := fun k hk => by
    show (((w.heap.modify g (onCells (putCells enc 0 arr))) ++ os)[k]?) = _
    rw [Array.getElem?_append_left (by simpa using hk), Array.getElem?_modify]
    by_cases e : k = g
    · subst e; rw [if_pos rfl, if_pos rfl, hw]; rfl
    · rw [if_neg (fun h => e h.symm), if_neg e]
  have lt_ : ∀ k o, A.blk k = some o → k < w.heap.size := fun k o hk => (Array.getElem?_eq_some_iff.1 (hA k o hk)).1
  refine ⟨rfl, rfl, rfl, fun k hk hks => ?_, fun k o hk => ?_, fun k o hk => ?_⟩
  · rw [at_ k hks, if_neg fun e => (by rw [e, hb] at hk; cases hk)]
  · have hk : (if k = g then some (Obj.cells (putCells enc 0 arr c) t fz) else A.blk k) = some o := hk
    by_cases e : k = g
    · rw [if_pos e] at hk
      rw [at_ k (e ▸ hsz), if_pos e, hk]
    · rw [if_neg e] at hk
      rw [at_ k (lt_ k o hk), if_neg e]; exact hA k o hk
  · have hk : (if k = g then some (Obj.cells (putCells enc 0 arr c) t fz) else A.blk k) = some o := hk
    by_cases e : k = g
    · exact .inl ⟨_, e ▸ hb⟩
    · rw [if_neg e] at hk; exact .inl ⟨o, hk⟩

end
end Go.Proofs.YtienbbhelhhfjaaGreatDoor

namespace Go.Proofs.YtienbbhelhhfjaaGreatDoor
open Go.Sx Go.RowKit Go.Sort Go.Shelf
noncomputable section

def cmpI (x y : Int) : Int := if x < y then -1 else if y < x then 1 else 0

set_option maxHeartbeats 1000000 in
theorem cmpInt_calls (x y : Int) (W : World) : Calls Tryz.prog 40 #[.int .i64 x, .int .i64 y] W fun e w' => e = .returned (.int .i64 (cmpI x y)) ∧ w' = W := by
  by_cases h : x < y
  · have hc : cmpI x y = -1 := if_pos h
    rw [hc]
    go_enter Tryz.func40, Tryz.ntmps40
    go_wp2
    go_ret
    exact ⟨rfl, rfl⟩
  · by_cases h2 : y < x
    · have hc : cmpI x y = 1 := by rw [cmpI, if_neg h, if_pos h2]
      rw [hc]
      go_enter Tryz.func40, Tryz.ntmps40
      go_wp2
      go_ret
      exact ⟨rfl, rfl⟩
    · have hc : cmpI x y = 0 := by rw [cmpI, if_neg h, if_neg h2]
      rw [hc]
      go_enter Tryz.func40, Tryz.ntmps40
      go_wp2
      go_ret
      exact ⟨rfl, rfl⟩

set_option maxHeartbeats 1000000 in
theorem cmpU8_calls (x y : Int) (W : World) : Calls Tryz.prog 41 #[.int .u8 x, .int .u8 y] W fun e w' => e = .returned (.int .i64 (cmpI x y)) ∧ w' = W := by
  by_cases h : x < y
  · have hc : cmpI x y = -1 := if_pos h
    rw [hc]
    go_enter Tryz.func41, Tryz.ntmps41
    go_wp2
    go_ret
    exact ⟨rfl, rfl⟩
  · by_cases h2 : y < x
    · have hc : cmpI x y = 1 := by rw [cmpI, if_neg h, if_pos h2]
      rw [hc]
      go_enter Tryz.func41, Tryz.ntmps41
      go_wp2
      go_ret
      exact ⟨rfl, rfl⟩
    · have hc : cmpI x y = 0 := by rw [cmpI, if_neg h, if_neg h2]
      rw [hc]
      go_enter Tryz.func41, Tryz.ntmps41
      go_wp2
      go_ret
      exact ⟨rfl, rfl⟩

def cmpS (x y : ByteArray) : Int := if ltL x.data.toList y.data.toList = true then -1 else if x = y then 0 else 1

theorem cmpS_cases (x y : ByteArray) : (Op.bytesLess x.toList y.toList = true ∧ cmpS x y = -1) ∨ (Op.bytesLess x.toList y.toList = false ∧ (x.toList == y.toList) = true ∧ cmpS x y = 0) ∨ (Op.bytesLess x.toList y.toList = false ∧ (x.toList == y.toList) = false ∧ cmpS x y = 1) := by
  rw [ByteArray.toList_eq, ByteArray.toList_eq, ← ltL_eq]
  unfold cmpS
  cases h : ltL x.data.toList y.data.toList with
  | true => exact .inl ⟨rfl, rfl⟩
  | false =>
    by_cases e : x = y
    · subst e
      exact .inr (.inl ⟨rfl, by simp, by simp⟩)
    · have : ¬ x.data.toList = y.data.toList := fun h => e (toList_inj h)
      exact .inr (.inr ⟨rfl, by simpa using this, by simp [e]⟩)

theorem gtr_run {x y : ByteArray} {r : Bool} (h : (!(Op.bytesLess x.toList y.toList || x.toList == y.toList)) = r) (t : TypeId) (w : World) : (binOp .gtr t (.string x) (.string y)).run Tryz.prog w = .ok (.bool r) w := by
  simp only [binOp, Op.stringOp]
  rw [h]
  rfl

set_option maxHeartbeats 1000000 in
theorem cmpStr_calls (x y : ByteArray) (W : World) : Calls Tryz.prog 42 #[.string x, .string y] W fun e w' => e = .returned (.int .i64 (cmpS x y)) ∧ w' = W := by
  rcases cmpS_cases x y with ⟨h, hc⟩ | ⟨h, h2, hc⟩ | ⟨h, h2, hc⟩
  · rw [hc]
    clear hc
    go_enter Tryz.func42, Tryz.ntmps42
    go_wp2
    go_ret
    exact ⟨rfl, rfl⟩
  · rw [hc]
    clear hc
    have hg := fun w => gtr_run (x := x) (y := y) (r := false) (by rw [h, h2]; rfl) 9 w
    clear h2
    go_enter Tryz.func42, Tryz.ntmps42
    go_wp2
    go_ret
    exact ⟨rfl, rfl⟩
  · rw [hc]
    clear hc
    have hg := fun w => gtr_run (x := x) (y := y) (r := true) (by rw [h, h2]; rfl) 9 w
    clear h2
    go_enter Tryz.func42, Tryz.ntmps42
    go_wp2
    go_ret
    exact ⟨rfl, rfl⟩

def orI (x y z : Int) : Int := if x ≠ 0 then x else if y ≠ 0 then y else z

set_option maxHeartbeats 1000000 in
theorem cmpOr_calls (x y z : Int) (g c : Nat) (W : World) (h0 : W.cell? ⟨g, 0, none⟩ = some (.int .i64 x)) (h1 : W.cell? ⟨g, 1, none⟩ = some (.int .i64 y)) (h2 : W.cell? ⟨g, 2, none⟩ = some (.int .i64 z)) : Calls Tryz.prog 39 #[.slice (some ⟨g, 0, none⟩) 3 c] W fun e w' => e = .returned (.int .i64 (orI x y z)) ∧ w' = W := by
  by_cases hx : x = 0
  · by_cases hy : y = 0
    · by_cases hz : z = 0
      · subst hx; subst hy; subst hz
        rw [show orI 0 0 0 = 0 from rfl]
        go_enter Tryz.func39, Tryz.ntmps39
        go_wp2
        refine wp_loop_rounds 4 ?_
        rw [rounds_succ]
        go_wp2
        rw [rounds_succ]
        go_wp2
        rw [rounds_succ]
        go_wp2
        rw [rounds_succ]
        go_wp2
        go_ret
        exact ⟨rfl, rfl⟩
      · have hc : orI x y z = z := by simp [orI, hx, hy]
        rw [hc]
        have hz' : (z != 0) = true := by simpa using hz
        subst hx; subst hy
        go_enter Tryz.func39, Tryz.ntmps39
        go_wp2
        refine wp_loop_rounds 4 ?_
        rw [rounds_succ]
        go_wp2
        rw [rounds_succ]
        go_wp2
        rw [rounds_succ]
        go_wp2
        go_ret
        exact ⟨rfl, rfl⟩
    · have hc : orI x y z = y := by simp [orI, hx, hy]
      rw [hc]
      have hy' : (y != 0) = true := by simpa using hy
      subst hx
      go_enter Tryz.func39, Tryz.ntmps39
      go_wp2
      refine wp_loop_rounds 4 ?_
      rw [rounds_succ]
      go_wp2
      rw [rounds_succ]
      go_wp2
      go_ret
      exact ⟨rfl, rfl⟩
  · have hc : orI x y z = x := by simp [orI, hx]
    rw [hc]
    have hx' : (x != 0) = true := by simpa using hx
    go_enter Tryz.func39, Tryz.ntmps39
    go_wp2
    refine wp_loop_rounds 4 ?_
    rw [rounds_succ]
    go_wp2
    go_ret
    exact ⟨rfl, rfl⟩

end
end Go.Proofs.YtienbbhelhhfjaaGreatDoor

namespace Go.Proofs.YtienbbhelhhfjaaGreatDoor
open Go.Sx Go.RowKit Go.Sort Go.Shelf
noncomputable section

theorem cell_new (W : World) (c : Array Value) (t : TypeId) (i : Nat) (v : Value) (h : c[i]? = some v) : (W.alloc (.cells c t)).cell? ⟨W.heap.size, i, none⟩ = some v := by
  have h1 : (W.alloc (.cells c t)).heap[W.heap.size]? = some (.cells c t (0, 0)) := by
    show (W.heap.push (.cells c t (0, 0)))[W.heap.size]? = _
    rw [Array.getElem?_push_size]
  unfold World.cell?
  rw [h1]
  exact h

theorem cell_old (W : World) (o : Obj) (b i : Nat) (v : Value) (h : W.cell? ⟨b, i, none⟩ = some v) : (W.alloc o).cell? ⟨b, i, none⟩ = some v := by
  unfold World.cell? at *
  have h1 : b < W.heap.size := by
    by_cases hb : b < W.heap.size
    · exact hb
    · have h9 : W.heap[b]? = none := Array.getElem?_eq_none (Nat.le_of_not_lt hb)
      rw [h9] at h
      cases h
  have h2 : (W.alloc o).heap[b]? = W.heap[b]? := by
    show (W.heap.push o)[b]? = _
    rw [Array.getElem?_push_lt h1, Array.getElem?_eq_getElem h1]
  rw [h2]
  exact h

theorem size_one (W : World) (a : Obj) : (W.alloc a).heap.size = W.heap.size + 1 := by
  show (W.heap.push a).size = _
  rw [Array.size_push]

def cfR (x y : WatchD) : Int := orI (cmpI x.conn y.conn) (cmpI x.sort y.sort) (cmpS x.path y.path)

set_option maxHeartbeats 0 in
set_option maxRecDepth 100000 in
/-- The closure: which ring comes first. -/
theorem cmpRing (k k' z z' : Int) (x y : WatchD) (W : World) : Calls Tryz.prog 38 #[.agg (ringOf k z x).cells.toArray, .agg (ringOf k' z' y).cells.toArray] W fun e w' => e = .returned (.int .i64 (cfR x y)) ∧ ∃ q os', w' = grow (W.drewN q) os' := by
  have c1 := fun W' => cmpInt_calls x.conn y.conn W'
  have c2 := fun W' => cmpU8_calls x.sort y.sort W'
  have c3 := fun W' => cmpStr_calls x.path y.path W'
  unfold cfR
  generalize cmpI x.conn y.conn = r1 at c1 ⊢
  generalize cmpI x.sort y.sort = r2 at c2 ⊢
  generalize cmpS x.path y.path = r3 at c3 ⊢
  obtain ⟨a, b, c⟩ := x
  obtain ⟨a', b', c'⟩ := y
  simp only [ringOf, RingD.cells] at c1 c2 c3 ⊢
  go_enter Tryz.func38, Tryz.ntmps38
  go_wp2
  have f0 := cell_old _ (.cells #[.int .i64 a', .int .u8 k', .int .u8 b', .string c', .int .i64 z'] 51) _ _ _ (cell_new W #[.int .i64 a, .int .u8 k, .int .u8 b, .string c, .int .i64 z] 51 0 _ rfl)
  have f2 := cell_old _ (.cells #[.int .i64 a', .int .u8 k', .int .u8 b', .string c', .int .i64 z'] 51) _ _ _ (cell_new W #[.int .i64 a, .int .u8 k, .int .u8 b, .string c, .int .i64 z] 51 2 _ rfl)
  have f3 := cell_old _ (.cells #[.int .i64 a', .int .u8 k', .int .u8 b', .string c', .int .i64 z'] 51) _ _ _ (cell_new W #[.int .i64 a, .int .u8 k, .int .u8 b, .string c, .int .i64 z] 51 3 _ rfl)
  have g0 := cell_new (W.alloc (.cells #[.int .i64 a, .int .u8 k, .int .u8 b, .string c, .int .i64 z] 51)) #[.int .i64 a', .int .u8 k', .int .u8 b', .string c', .int .i64 z'] 51 0 _ rfl
  have g2 := cell_new (W.alloc (.cells #[.int .i64 a, .int .u8 k, .int .u8 b, .string c, .int .i64 z] 51)) #[.int .i64 a', .int .u8 k', .int .u8 b', .string c', .int .i64 z'] 51 2 _ rfl
  have g3 := cell_new (W.alloc (.cells #[.int .i64 a, .int .u8 k, .int .u8 b, .string c, .int .i64 z] 51)) #[.int .i64 a', .int .u8 k', .int .u8 b', .string c', .int .i64 z'] 51 3 _ rfl
  rw [size_one] at g0 g2 g3
  obtain ⟨os2, hgr⟩ : ∃ os2, grow W os2 = (W.alloc (.cells #[.int .i64 a, .int .u8 k, .int .u8 b, .string c, .int .i64 z] 51)).alloc (.cells #[.int .i64 a', .int .u8 k', .int .u8 b', .string c', .int .i64 z'] 51) := ⟨_, by rw [alloc_eq_grow, alloc_eq_grow, grow_grow]⟩
  generalize (W.alloc (.cells #[.int .i64 a, .int .u8 k, .int .u8 b, .string c, .int .i64 z] 51)).alloc (.cells #[.int .i64 a', .int .u8 k', .int .u8 b', .string c', .int .i64 z'] 51) = w2 at f0 f2 f3 g0 g2 g3 hgr ⊢
  refine wp_region_still_tail 19 (by kernel_rfl) (by kernel_rfl) ?_
  simp only [List.take_succ_cons, List.take_zero, List.drop_succ_cons, List.drop_zero]
  change wpStill _ _ w2.drew _ _ _
  repeat (first | still_step | still_call (c1 _) | still_call (c2 _) | still_call (c3 _))
  refine wpStill_nil ?_
  change wpList _ _ _ _ _ w2.drew
  clear f0 f2 f3 g0 g2 g3 c1 c2 c3
  obtain ⟨os3, hgr⟩ : ∃ os3, (grow W os3).drew = w2.drew := ⟨os2, by rw [hgr]⟩
  generalize w2.drew = w3 at hgr ⊢
  have co := cmpOr_calls r1 r2 r3 w3.heap.size 3 (w3.alloc (.cells #[.int .i64 r1, .int .i64 r2, .int .i64 r3] 3)) (cell_new _ _ _ 0 _ rfl) (cell_new _ _ _ 1 _ rfl) (cell_new _ _ _ 2 _ rfl)
  go_wp2_with (go_at_call 39; refine co.mono ?_; rintro e w' ⟨rfl, rfl⟩)
  go_ret
  exact ⟨rfl, 1, _, by rw [alloc_eq_grow, ← hgr, show (grow W os3).drew = grow (W.drewN 1) os3 from rfl, grow_grow]⟩

end
end Go.Proofs.YtienbbhelhhfjaaGreatDoor

namespace Go.Proofs.YtienbbhelhhfjaaGreatDoor
open Go.Sx Go.RowKit
noncomputable section
open Classical

def checkS : FSpec := ⟨ByteArray, fun p vs _ => vs = [.string p], fun p _ A v A' => A' = A ∧ v = .bool (pathOk p.data.toList)⟩

theorem check_ok : FOk Tryz.prog 28 checkS := by
  intro p vs A w hA hp
  obtain rfl : vs = [.string p] := hp
  refine goes_of_calls Tryz.func28 ⟨by kernel_rfl, by kernel_rfl⟩ ?_
  intro cs
  obtain ⟨e, w', fr, ⟨k1, b1, b2, b3, _, b5⟩, k3⟩ := check1 p w cs
  have hlt : ∀ k o, A.blk k = some o → k < w.heap.size := fun k o hk => (Array.getElem?_eq_some_iff.1 (hA k o hk)).1
  exact ⟨e, w', fr, ⟨_, k1, A, ⟨rfl, rfl⟩, b1, b3, b2, fun k _ hk => b5 k hk, fun k o hk => (b5 k (hlt k o hk)).trans (hA k o hk), fun k o ho => .inl ⟨o, ho⟩⟩, k3⟩

end
end Go.Proofs.YtienbbhelhhfjaaGreatDoor

namespace Go.Proofs.YtienbbhelhhfjaaGreatDoor
open Go.Sx Go.RowKit
noncomputable section
open Classical

/-- May a watch be? -/
def mayD (sort : Int) (p : ByteArray) : Bool := decide (1 ≤ sort) && decide (sort ≤ 3) && pathOk p.data.toList

structure TwG where
  t : Nat
  m : Nat
  ws : List WatchD

/-- What a tower's call leaves. -/
structure TwTo (A : Arena) (g : TwG) (ws' : List WatchD) (A' : Arena) : Prop where
  tower : TowerAt A' g.t g.m ws'
  keep : ∀ b o, b ≠ g.m → A.blk b = some o → A'.blk b = some o
  dom : ∀ b, A'.blk b = none → A.blk b = none

theorem TwTo.same {A : Arena} {g : TwG} {ws : List WatchD} (h : TowerAt A g.t g.m ws) : TwTo A g ws A := ⟨h, fun _ _ _ h => h, fun _ h => h⟩

theorem TwTo.of_set {A A' : Arena} {g : TwG} {ws ws' : List WatchD} (h : TowerAt A g.t g.m ws) (hM : MapAt A' g.m (wL ws')) (ho : ∀ b, b ≠ g.m → A'.blk b = A.blk b) (hn : ws'.Nodup) : TwTo A g ws' A' :=
  ⟨h.set hM ho hn, fun b o hb hk => by rw [ho b hb]; exact hk, fun b hb => by
    by_cases e : b = g.m
    · obtain ⟨es, clock, h1, _⟩ := hM
      rw [e, h1] at hb; cases hb
    · rw [ho b e] at hb; exact hb⟩

def bellNewS : FSpec := ⟨Unit, fun _ vs _ => vs = [], fun _ _ A v A' => A.Sub A' ∧ ∃ t m, v = .pointer (some ⟨t, 0, none⟩) ∧ TowerAt A' t m [] ∧ A.blk t = none ∧ A.blk m = none⟩

def alTower : TypeId → Bool := fun t => Nat.beq t 64

set_option maxRecDepth 100000 in
set_option maxHeartbeats 0 in
theorem bellNew_ok : FOk Tryz.prog 5 bellNewS := by
  refine fok_a mixed alTower fun _ vs A hp => ?_
  obtain rfl : vs = [] := hp
  refine ⟨noC, noL, 60, noC_sound _, noL_sound _, fun blk os out tape D hD => ?_⟩
  conv => lhs; whnf
  refine (hD _).2 fun m A1 hm ho hM => ?_
  have hm : A.blk m = none := hm
  have ho : ∀ b, b ≠ m → A1.blk b = A.blk b := ho
  have s1 : A.Sub A1 := fun k o hk => by
    rw [ho k fun e => (by subst e; rw [hm] at hk; cases hk)]
    exact hk
  conv => lhs; whnf
  refine (hD _).2 fun t A2 hN => ?_
  have hN : A1.New A2 t #[.map (some m)] 64 := hN
  obtain ⟨om, hom⟩ : ∃ o, A1.blk m = some o := by
    obtain ⟨es, clock, h1, _⟩ := hM
    exact ⟨_, h1⟩
  have hne : m ≠ t := fun e => by
    have := hN.none_
    rw [← e, hom] at this; cases this
  have htn : A.blk t = none := by
    cases h : A.blk t with
    | none => rfl
    | some o => have := hN.none_; rw [s1 t o h] at this; cases this
  have hend : bellNewS.post () [] A (.pointer (some ⟨t, 0, none⟩)) A2 := ⟨s1.trans hN.sub, t, m, rfl, ⟨CellsAt.new hN, hM.sub fun _ hb => hN.sub _ _ hb, List.nodup_nil, hne⟩, htn, hm⟩
  conv => lhs; whnf
  exact (hD _).2 hend

def mayS : FSpec := ⟨TwG × Int × ByteArray, fun g vs A => vs = [.pointer (some ⟨g.1.t, 0, none⟩), .int .u8 g.2.1, .string g.2.2] ∧ TowerAt A g.1.t g.1.m g.1.ws, fun g _ A v A' => A' = A ∧ v = .bool (mayD g.2.1 g.2.2)⟩

set_option maxRecDepth 100000 in
set_option maxHeartbeats 0 in
theorem may_ok : FOk Tryz.prog 18 mayS := by
  refine fok_v mixed fun ⟨⟨t, m, ws⟩, sort, p⟩ vs A hp => ?_
  obtain ⟨rfl, hT⟩ : vs = [.pointer (some ⟨t, 0, none⟩), .int .u8 sort, .string p] ∧ TowerAt A t m ws := hp
  have hC : CTSound Tryz.prog (lookC [specE 28 checkS] noC) := lookC_sound (noC_sound _) (fun x hx => by
    simp only [List.mem_singleton] at hx
    subst hx; exact specE_ok check_ok)
  refine ⟨_, noL, 60, hC, noL_sound _, fun blk os out tape D hD => ?_⟩
  have htop : A.rd t 0 1 = some [.map (some m)] := hT.top.rd (o := 0) (n := 1) (by show 0 + 1 ≤ 1; omega)
  by_cases h1 : (1 : Int) ≤ sort
  · by_cases h3 : sort ≤ 3
    · conv => lhs; whnf
      repeat (first | refine go_rd htop ?_ | refine go_dec h1 ?_ | refine go_dec h3 ?_
              conv => lhs; whnf)
      refine (hD _).2 ⟨p, rfl, fun v A1 hq => ?_⟩
      obtain ⟨h9, hv⟩ : A1 = A ∧ v = .bool (pathOk p.data.toList) := hq
      subst h9; subst hv
      have hend : mayS.post ((⟨t, m, ws⟩ : TwG), sort, p) [] A1 (.bool (pathOk p.data.toList)) A1 := ⟨rfl, by
        unfold mayD
        rw [decide_eq_true h1, decide_eq_true h3]
        rfl⟩
      conv => lhs; whnf
      exact (hD _).2 hend
    · conv => lhs; whnf
      repeat (first | refine go_rd htop ?_ | refine go_dec h1 ?_ | refine no_dec h3 ?_
              conv => lhs; whnf)
      refine (hD _).2 ⟨rfl, ?_⟩
      unfold mayD
      rw [decide_eq_false h3, Bool.and_false, Bool.false_and]
  · conv => lhs; whnf
    repeat (first | refine go_rd htop ?_ | refine no_dec h1 ?_
            conv => lhs; whnf)
    refine (hD _).2 ⟨rfl, ?_⟩
    unfold mayD
    rw [decide_eq_false h1, Bool.false_and, Bool.false_and]

def bellAddS : FSpec := ⟨TwG × WatchD, fun g vs A => vs = [.pointer (some ⟨g.1.t, 0, none⟩), .int .i64 g.2.conn, .int .u8 g.2.sort, .string g.2.path] ∧ TowerAt A g.1.t g.1.m g.1.ws,
  fun g _ A _ A' => TwTo A g.1 (if mayD g.2.sort g.2.path = true then wPut g.2 g.1.ws else g.1.ws) A'⟩

set_option maxRecDepth 100000 in
set_option maxHeartbeats 0 in
theorem bellAdd_ok : FOk Tryz.prog 7 bellAddS := by
  refine fok_v mixed fun ⟨⟨t, m, ws⟩, ⟨conn, sort, p⟩⟩ vs A hp => ?_
  obtain ⟨rfl, hT⟩ : vs = [.pointer (some ⟨t, 0, none⟩), .int .i64 conn, .int .u8 sort, .string p] ∧ TowerAt A t m ws := hp
  have hC : CTSound Tryz.prog (lookC [specE 18 mayS] noC) := lookC_sound (noC_sound _) (fun x hx => by
    simp only [List.mem_singleton] at hx
    subst hx; exact specE_ok may_ok)
  refine ⟨_, noL, 60, hC, noL_sound _, fun blk os out tape D hD => ?_⟩
  have htop : A.rd t 0 1 = some [.map (some m)] := hT.top.rd (o := 0) (n := 1) (by show 0 + 1 ≤ 1; omega)
  conv => lhs; whnf
  refine (hD _).2 ⟨((⟨t, m, ws⟩ : TwG), sort, p), ⟨rfl, hT⟩, fun v A1 hq => ?_⟩
  obtain ⟨h9, hv⟩ : A1 = A ∧ v = .bool (mayD sort p) := hq
  subst h9
  cases hm : mayD sort p with
  | false =>
    rw [hm] at hv
    subst hv
    have hend : ∀ v, bellAddS.post ((⟨t, m, ws⟩ : TwG), ⟨conn, sort, p⟩) [] A1 v A1 := fun _ => by
      show TwTo A1 _ (if mayD sort p = true then _ else _) A1
      rw [hm, if_neg Bool.false_ne_true]
      exact .same hT
    conv => lhs; whnf
    exact (hD _).2 (hend (.bool false))
  | true =>
    rw [hm] at hv
    subst hv
    conv => lhs; whnf
    repeat (first | refine go_rd htop ?_ | refine go_D hD rfl ?_
            conv => lhs; whnf)
    refine (hD _).2 ⟨by kernel_rfl, _, hT.map, wL_alike ⟨conn, sort, p⟩ ws, fun A2 hM ho => ?_⟩
    have hM : MapAt A2 m (putL (wKey ⟨conn, sort, p⟩) (.int .i64 1) (wL ws)) := hM
    rw [wL_put] at hM
    have hend : ∀ v, bellAddS.post ((⟨t, m, ws⟩ : TwG), ⟨conn, sort, p⟩) [] A1 v A2 := fun _ => by
      show TwTo A1 _ (if mayD sort p = true then _ else _) A2
      rw [hm, if_pos rfl]
      exact .of_set hT hM ho (wPut_nodup hT.nd)
    conv => lhs; whnf
    exact (hD _).2 (hend (.bool false))

def bellCountS : FSpec := ⟨TwG, fun g vs A => vs = [.pointer (some ⟨g.t, 0, none⟩)] ∧ TowerAt A g.t g.m g.ws, fun g _ A v A' => A' = A ∧ v = .int .i64 g.ws.length⟩

set_option maxRecDepth 100000 in
set_option maxHeartbeats 0 in
theorem bellCount_ok : FOk Tryz.prog 9 bellCountS := by
  refine fok_v mixed fun ⟨t, m, ws⟩ vs A hp => ?_
  obtain ⟨rfl, hT⟩ : vs = [.pointer (some ⟨t, 0, none⟩)] ∧ TowerAt A t m ws := hp
  refine ⟨noC, noL, 60, noC_sound _, noL_sound _, fun blk os out tape D hD => ?_⟩
  have htop : A.rd t 0 1 = some [.map (some m)] := hT.top.rd (o := 0) (n := 1) (by show 0 + 1 ≤ 1; omega)
  conv => lhs; whnf
  have hcnt : A.cnt m = some ws.length := by
    rw [cnt_at hT.map]
    unfold wL
    rw [List.length_map]
  repeat (first | refine go_rd htop ?_ | refine go_ct hcnt ?_ | refine go_D hD rfl ?_
          conv => lhs; whnf)
  exact (hD _).2 ⟨rfl, rfl⟩

end
end Go.Proofs.YtienbbhelhhfjaaGreatDoor
