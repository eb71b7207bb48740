/-
  Rows of keys and values; maps of an arena that are such rows; a block whose cells are all known.
  A tree in an arena: its nodes by paths, its sittings by sessions; what changes leave of it.
  What all contracts of this program want; loops over the places of a row.
  Paths: part PaA: what beadle/path.Check tells of every text.
  Paths: part PaB: what beadle/path.Check tells of every text.
  Paths: part PaC: what beadle/path.Check tells of every text.
  Paths: part PaD: what beadle/path.Check tells of every text.
  Paths: part PaE: what beadle/path.Check tells of every text.
  Paths: part PaF: what beadle/path.Check tells of every text.
  Paths: what stands over one, and its last part.
  Members as plain data.
  Contracts: may a config be?
  Deeds as plain data; what it means that cells of an arena read as one.
  Is a deed right? The words.
-/
import Derived.Test.YtfpfjobknefedaaGreatDoorG06
import Derived.Test.YtfpfjobknefedaaGreatDoorProg
import Derived.Test.YtfpfjobknefedaaGreatDoorRows
import Derived.WalkKit
import Derived.Laws.Externs
import Derived.Lib.Bytealg
import Derived.Lib.CutLaws
import Derived.Lib.IndexMore
import Derived.Tactics
import Derived.Tactics2
import Derived.Shelf.RegionOpen
import Derived.Shelf.Abstract
import Derived.Shelf.RegionOpenPlain
import Derived.Laws.RangeString
import Derived.LoopTactic
import Derived.Laws.RangeAny
import Derived.RangeFuncNested
import Derived.RangeFuncBound
import Derived.RangeFuncCalls
import Derived.RangeFuncLeaves
import Derived.OwnWalkIn
import Derived.TacticsInMore
import Derived.LoopNIn
import Derived.LoopIn
import Derived.WalkSmall
import Derived.RangeFuncFrom
namespace Go.Sx
noncomputable section

section
variable {κ α β : Type} [BEq κ]

/-- What stands at a key. -/
def kGet (p : κ) : List (κ × α) → Option α
  | [] => none
  | e :: es => bif p == e.1 then some e.2 else kGet p es

def kPut (p : κ) (x : α) : List (κ × α) → List (κ × α)
  | [] => [(p, x)]
  | e :: es => bif p == e.1 then (p, x) :: es else e :: kPut p x es

def kDel (p : κ) : List (κ × α) → List (κ × α)
  | [] => []
  | e :: es => bif p == e.1 then es else e :: kDel p es

/-- What stands at a key, turned. -/
def kMod (p : κ) (f : α → α) : List (κ × α) → List (κ × α)
  | [] => []
  | e :: es => bif p == e.1 then (e.1, f e.2) :: es else e :: kMod p f es

/-- The same keys, with other values. -/
def kMap (f : α → β) (l : List (κ × α)) : List (κ × β) := l.map fun e => (e.1, f e.2)

theorem kGet_map (f : α → β) (p : κ) : ∀ l : List (κ × α), kGet p (kMap f l) = (kGet p l).map f
  | [] => rfl
  | e :: es => by
    have := kGet_map f p es
    simp only [kMap, List.map_cons, kGet] at this ⊢
    cases hb : p == e.1 <;> simp only [cond_true, cond_false, this, Option.map_some]

theorem kPut_map (f : α → β) (p : κ) (x : α) : ∀ l : List (κ × α), kPut p (f x) (kMap f l) = kMap f (kPut p x l)
  | [] => rfl
  | e :: es => by
    have := kPut_map f p x es
    simp only [kMap, List.map_cons, kPut] at this ⊢
    cases hb : p == e.1 <;> simp only [cond_true, cond_false, this, List.map_cons]

theorem kDel_map (f : α → β) (p : κ) : ∀ l : List (κ × α), kDel p (kMap f l) = kMap f (kDel p l)
  | [] => rfl
  | e :: es => by
    have := kDel_map f p es
    simp only [kMap, List.map_cons, kDel] at this ⊢
    cases hb : p == e.1 <;> simp only [cond_true, cond_false, this, List.map_cons]

theorem kMod_map (f : α → β) (h : α → α) (h' : β → β) (hh : ∀ x, h' (f x) = f (h x)) (p : κ) : ∀ l : List (κ × α), kMod p h' (kMap f l) = kMap f (kMod p h l)
  | [] => rfl
  | e :: es => by
    have := kMod_map f h h' hh p es
    simp only [kMap, List.map_cons, kMod] at this ⊢
    cases hb : p == e.1 <;> simp only [cond_true, cond_false, this, List.map_cons, hh]

theorem kGet_mem {p : κ} {x : α} (hq : ∀ q : κ, (p == q) = true → q = p) : ∀ {l : List (κ × α)}, kGet p l = some x → (p, x) ∈ l
  | [], h => by cases h
  | e :: es, h => by
    simp only [kGet] at h
    cases hb : p == e.1 with
    | true =>
      rw [hb] at h
      injection h with h
      rw [← hq _ hb, ← h]
      exact List.mem_cons_self
    | false => rw [hb] at h; exact List.mem_cons_of_mem _ (kGet_mem hq h)

theorem kGet_none {p : κ} (hr : (p == p) = true) : ∀ {l : List (κ × α)}, kGet p l = none → p ∉ l.map (·.1)
  | [], _ => by simp
  | e :: es, h => by
    simp only [kGet] at h
    cases hb : p == e.1 with
    | true => rw [hb] at h; cases h
    | false =>
      rw [hb] at h
      have := kGet_none hr (l := es) h
      simp only [List.map_cons, List.mem_cons, not_or]
      exact ⟨fun e' => (by rw [← e', hr] at hb; cases hb), this⟩

theorem kPut_none {p : κ} {x : α} : ∀ {l : List (κ × α)}, kGet p l = none → kPut p x l = l ++ [(p, x)]
  | [], _ => rfl
  | e :: es, h => by
    simp only [kGet] at h
    cases hb : p == e.1 with
    | true => rw [hb] at h; cases h
    | false => rw [hb] at h; simp only [kPut, hb, cond_false, kPut_none (l := es) h, List.cons_append]

theorem kDel_none {p : κ} : ∀ {l : List (κ × α)}, kGet p l = none → kDel p l = l
  | [], _ => rfl
  | e :: es, h => by
    simp only [kGet] at h
    cases hb : p == e.1 with
    | true => rw [hb] at h; cases h
    | false => rw [hb] at h; simp only [kDel, hb, cond_false, kDel_none (l := es) h]

theorem kMod_none {p : κ} {f : α → α} : ∀ {l : List (κ × α)}, kGet p l = none → kMod p f l = l
  | [], _ => rfl
  | e :: es, h => by
    simp only [kGet] at h
    cases hb : p == e.1 with
    | true => rw [hb] at h; cases h
    | false => rw [hb] at h; simp only [kMod, hb, cond_false, kMod_none (l := es) h]

theorem kMod_at {p : κ} {f : α → α} {x : α} : ∀ {l : List (κ × α)}, kGet p l = some x → kMod p (fun _ => f x) l = kMod p f l
  | [], h => by cases h
  | e :: es, h => by
    simp only [kGet] at h
    cases hb : p == e.1 with
    | true =>
      rw [hb] at h
      injection h with h
      simp only [kMod, hb, cond_true, h]
    | false => rw [hb] at h; simp only [kMod, hb, cond_false, kMod_at (l := es) h]

/-- Where a key stands, the row is a beginning, that entry, and an end. -/
theorem kGet_split {p : κ} {x : α} (hq : ∀ q : κ, (p == q) = true → q = p) : ∀ {l : List (κ × α)}, kGet p l = some x → ∃ a b, l = a ++ (p, x) :: b ∧ kGet p a = none ∧ (∀ y, kPut p y l = a ++ (p, y) :: b) ∧ kDel p l = a ++ b ∧ ∀ f, kMod p f l = a ++ (p, f x) :: b
  | [], h => by cases h
  | e :: es, h => by
    simp only [kGet] at h
    cases hb : p == e.1 with
    | true =>
      rw [hb] at h
      injection h with h
      have h1 := hq _ hb
      obtain ⟨k, v⟩ := e
      simp only at h h1 hb
      subst h h1
      exact ⟨[], es, rfl, rfl, fun y => (by simp only [kPut, hb, cond_true, List.nil_append]), (by simp only [kDel, hb, cond_true, List.nil_append]), fun f => (by simp only [kMod, hb, cond_true, List.nil_append])⟩
    | false =>
      rw [hb] at h
      obtain ⟨a, b, h1, h2, h3, h4, h5⟩ := kGet_split hq (l := es) h
      exact ⟨e :: a, b, (by rw [h1]; rfl), (by simp only [kGet, hb, cond_false, h2]), fun y => (by simp only [kPut, hb, cond_false, h3, List.cons_append]), (by simp only [kDel, hb, cond_false, h4, List.cons_append]), fun f => (by simp only [kMod, hb, cond_false, h5, List.cons_append])⟩

end

theorem bytes_beq_self (a : ByteArray) : (a == a) = true := by rw [beq_toListBytes]; simp
theorem bytes_key (p : ByteArray) : ∀ q : ByteArray, (p == q) = true → q = p := fun _ h => (bytes_beq h).symm
theorem int_key (p : Int) : ∀ q : Int, (p == q) = true → q = p := fun _ h => (eq_of_beq h).symm

/-! ### As entries of a map -/

section
variable {α : Type} (f : α → Value)

def strL (l : List (ByteArray × α)) : List (Value × Value) := l.map fun e => (.string e.1, f e.2)
def intL (l : List (Int × α)) : List (Value × Value) := l.map fun e => (.int .i64 e.1, f e.2)

theorem strL_alike (p : ByteArray) (l : List (ByteArray × α)) : ∀ e ∈ strL f l, alikeK (.string p) e.1 = true := fun e he => by
  obtain ⟨x, _, rfl⟩ := List.mem_map.1 he
  rfl

theorem intL_alike (p : Int) (l : List (Int × α)) : ∀ e ∈ intL f l, alikeK (.int .i64 p) e.1 = true := fun e he => by
  obtain ⟨x, _, rfl⟩ := List.mem_map.1 he
  rfl

theorem strL_get (p : ByteArray) : ∀ l : List (ByteArray × α), getL (.string p) (strL f l) = (kGet p l).map f
  | [] => rfl
  | e :: es => by
    have := strL_get p es
    simp only [strL, List.map_cons, getL, kGet, keyIs] at this ⊢
    cases hb : p == e.1 <;> simp only [cond_true, cond_false, this, Option.map_some]

theorem strL_put (p : ByteArray) (x : α) : ∀ l : List (ByteArray × α), putL (.string p) (f x) (strL f l) = strL f (kPut p x l)
  | [] => rfl
  | e :: es => by
    have := strL_put p x es
    simp only [strL, List.map_cons, putL, kPut, keyIs] at this ⊢
    cases hb : p == e.1 <;> simp only [cond_true, cond_false, this, List.map_cons]

theorem strL_del (p : ByteArray) : ∀ l : List (ByteArray × α), delL (.string p) (strL f l) = strL f (kDel p l)
  | [] => rfl
  | e :: es => by
    have := strL_del p es
    simp only [strL, List.map_cons, delL, kDel, keyIs] at this ⊢
    cases hb : p == e.1 <;> simp only [cond_true, cond_false, this, List.map_cons]

theorem intL_get (p : Int) : ∀ l : List (Int × α), getL (.int .i64 p) (intL f l) = (kGet p l).map f
  | [] => rfl
  | e :: es => by
    have := intL_get p es
    simp only [intL, List.map_cons, getL, kGet, keyIs] at this ⊢
    cases hb : p == e.1 <;> simp only [cond_true, cond_false, this, Option.map_some]

theorem intL_put (p : Int) (x : α) : ∀ l : List (Int × α), putL (.int .i64 p) (f x) (intL f l) = intL f (kPut p x l)
  | [] => rfl
  | e :: es => by
    have := intL_put p x es
    simp only [intL, List.map_cons, putL, kPut, keyIs] at this ⊢
    cases hb : p == e.1 <;> simp only [cond_true, cond_false, this, List.map_cons]

theorem intL_del (p : Int) : ∀ l : List (Int × α), delL (.int .i64 p) (intL f l) = intL f (kDel p l)
  | [] => rfl
  | e :: es => by
    have := intL_del p es
    simp only [intL, List.map_cons, delL, kDel, keyIs] at this ⊢
    cases hb : p == e.1 <;> simp only [cond_true, cond_false, this, List.map_cons]

end

theorem look_str {A : Arena} {m : Nat} {α : Type} {f : α → Value} {l : List (ByteArray × α)} (h : MapAt A m (strL f l)) (p : ByteArray) : A.look m (.string p) = some ((kGet p l).map f) := by
  rw [look_at h (strL_alike f p l), strL_get]

theorem look_int {A : Arena} {m : Nat} {α : Type} {f : α → Value} {l : List (Int × α)} (h : MapAt A m (intL f l)) (p : Int) : A.look m (.int .i64 p) = some ((kGet p l).map f) := by
  rw [look_at h (intL_alike f p l), intL_get]

/-! ### A block all of whose cells are known -/

def CellsAt (A : Arena) (g : Nat) (L : List Value) : Prop := ∃ c t fz, A.blk g = some (.cells c t fz) ∧ Fz c.size fz ∧ c.toList = L

theorem CellsAt.rd {A : Arena} {g : Nat} {L : List Value} (h : CellsAt A g L) {o n : Nat} (hle : o + n ≤ L.length) : A.rd g o n = some ((L.drop o).take n) := by
  obtain ⟨c, t, fz, h1, _, rfl⟩ := h
  exact rd_mk h1 (by simpa using hle)

theorem CellsAt.room {A : Arena} {g : Nat} {L : List Value} (h : CellsAt A g L) {o n : Nat} (hle : o + n ≤ L.length) : A.Room g o n := by
  obtain ⟨c, t, fz, h1, h2, rfl⟩ := h
  exact ⟨c, t, fz, h1, by simpa using hle, h2⟩

theorem CellsAt.put {A A' : Arena} {g o : Nat} {L vs : List Value} (h : CellsAt A g L) (hP : A.Put A' g o vs) (hle : o + vs.length ≤ L.length) : CellsAt A' g (L.take o ++ vs ++ L.drop (o + vs.length)) := by
  obtain ⟨c, t, fz, h1, h2, rfl⟩ := h
  obtain ⟨c0, t0, fz0, c1, e1, e2, e3⟩ := hP.at_
  rw [h1] at e1
  injection e1 with e1
  injection e1 with e1 e4 e5
  subst e1 e4 e5
  refine ⟨c1, t, fz, e2, ?_, e3⟩
  have : c1.size = c.size := by
    have hl : c1.toList.length = c.toList.length := by
      rw [e3]
      simp only [Array.length_toList] at hle
      simp; omega
    simpa using hl
  rw [this]; exact h2

theorem CellsAt.sub {A A' : Arena} {g : Nat} {L : List Value} (h : CellsAt A g L) (hs : ∀ o, A.blk g = some o → A'.blk g = some o) : CellsAt A' g L := by
  obtain ⟨c, t, fz, h1, h2⟩ := h
  exact ⟨c, t, fz, hs _ h1, h2⟩

theorem CellsAt.new {A A' : Arena} {g : Nat} {c : Array Value} {t : TypeId} (h : A.New A' g c t) : CellsAt A' g c.toList := ⟨c, t, (0, 0), h.at_, .inl rfl, rfl⟩

theorem CellsAt.dom {A : Arena} {g : Nat} {L : List Value} (h : CellsAt A g L) : ∃ o, A.blk g = some o := by
  obtain ⟨c, t, fz, h1, _⟩ := h
  exact ⟨_, h1⟩

/-! ### Two arenas together -/

def Arena.plus (B C : Arena) : Arena := Arena.of fun k => match B.blk k with
  | some o => some o
  | none => C.blk k

theorem plus_blk (B C : Arena) (k : Nat) : (B.plus C).blk k = match B.blk k with
  | some o => some o
  | none => C.blk k := rfl

theorem plus_l (B C : Arena) : B.Sub (B.plus C) := fun k o h => by rw [plus_blk, h]

theorem plus_r {B C : Arena} (h : ∀ k o, C.blk k = some o → B.blk k = none) : C.Sub (B.plus C) := fun k o hk => by rw [plus_blk, h k o hk]; exact hk

theorem plus_cases {B C : Arena} {k : Nat} {o : Obj} (h : (B.plus C).blk k = some o) : B.blk k = some o ∨ (B.blk k = none ∧ C.blk k = some o) := by
  rw [plus_blk] at h
  split at h
  · left; rw [← h]; assumption
  · right; exact ⟨by assumption, h⟩

/-- What is new stands beside what lies in a part of what lay. -/
theorem minus_apart {A A' B : Arena} (h : B.Sub A) : ∀ k o, (A'.minus A).blk k = some o → B.blk k = none := fun k o hk => by
  cases hB : B.blk k with
  | none => rfl
  | some o' =>
    have := (minus_blk hk).1
    rw [h _ _ hB] at this; cases this

end
end Go.Sx

namespace Go.Sx
noncomputable section

structure StatD where
  czxid : Int
  mzxid : Int
  pzxid : Int
  ctime : Int
  mtime : Int
  ver : Int
  cver : Int
  owner : Int
  len : Int
  kids : Int

def StatD.cells (s : StatD) : List Value := [.int .i64 s.czxid, .int .i64 s.mzxid, .int .i64 s.pzxid, .int .i64 s.ctime, .int .i64 s.mtime, .int .i64 s.ver, .int .i64 s.cver, .int .i64 s.owner, .int .i64 s.len, .int .i64 s.kids]

structure NodeD where
  data : List UInt8
  stat : StatD

structure SitD where
  ses : Int
  tmo : Int
  turn : Int

structure TreeD where
  nodes : List (ByteArray × NodeD)
  seats : List (Int × SitD)

def ptrV (g : Nat) : Value := .pointer (some ⟨g, 0, none⟩)
def sitV (s : SitD) : Value := .agg #[.int .i64 s.ses, .int .i64 s.tmo, .int .i64 s.turn]

/-- A node in block g; its data lie in B. -/
def NodeAt (A B : Arena) (g : Nat) (n : NodeD) : Prop := ∃ v, CellsAt A g (v :: n.stat.cells) ∧ SlB B v n.data

/-- A tree in block t; its own blocks are those of O, its nodes' data lie in B. -/
structure TreeR (A B : Arena) (O : Nat → Prop) (t : Nat) (T : TreeD) (m s : Nat) (E : List (ByteArray × Nat × NodeD)) : Prop where
  nodes : T.nodes = kMap (·.2) E
  top : CellsAt A t [.map (some m), .map (some s)]
  nmap : MapAt A m (strL ptrV (kMap (·.1) E))
  smap : MapAt A s (intL sitV T.seats)
  cells : ∀ e ∈ E, NodeAt A B e.2.1 e.2.2
  keys : (E.map (·.1)).Nodup
  ptrs : (E.map (·.2.1)).Nodup
  skeys : (T.seats.map (·.1)).Nodup
  sub : B.Sub A
  own : O t ∧ O m ∧ O s ∧ ∀ e ∈ E, O e.2.1
  off : ∀ k, O k → B.blk k = none
  live : ∀ k, O k → ∃ o, A.blk k = some o
  ne : m ≠ s ∧ ∀ e ∈ E, e.2.1 ≠ t

def TreeAt (A B : Arena) (O : Nat → Prop) (t : Nat) (T : TreeD) : Prop := ∃ m s E, TreeR A B O t T m s E

/-- What a change of a tree leaves. -/
structure Step (A B : Arena) (O : Nat → Prop) (A' B' : Arena) (O' : Nat → Prop) : Prop where
  keep : ∀ k o, A.blk k = some o → ¬ O k → A'.blk k = some o
  dom : ∀ k, A'.blk k = none → A.blk k = none
  own : ∀ k, O' k → O k ∨ A.blk k = none
  sub : B.Sub B'
  new : ∀ k o, B'.blk k = some o → B.blk k = some o ∨ A.blk k = none

theorem Step.refl (A B : Arena) (O : Nat → Prop) : Step A B O A B O := ⟨fun _ _ h _ => h, fun _ h => h, fun _ h => .inl h, Arena.Sub.refl _, fun _ _ h => .inl h⟩

theorem Step.trans {A B A1 B1 A2 B2 : Arena} {O O1 O2 : Nat → Prop} (h : Step A B O A1 B1 O1) (k : Step A1 B1 O1 A2 B2 O2) : Step A B O A2 B2 O2 := by
  refine ⟨fun j o hj hO => k.keep j o (h.keep j o hj hO) fun h1 => ?_, fun j hj => h.dom j (k.dom j hj), fun j hj => ?_, h.sub.trans k.sub, fun j o hj => ?_⟩
  · rcases h.own j h1 with h2 | h2
    · exact hO h2
    · rw [hj] at h2; cases h2
  · rcases k.own j hj with h1 | h1
    · exact h.own j h1
    · exact .inr (h.dom j h1)
  · rcases k.new j o hj with h1 | h1
    · exact h.new j o h1
    · exact .inr (h.dom j h1)

/-- A part of memory that the tree does not own stays. -/
theorem Step.stays {A B A' B' C : Arena} {O O' : Nat → Prop} (h : Step A B O A' B' O') (hC : C.Sub A) (hO : ∀ k o, C.blk k = some o → ¬ O k) : C.Sub A' := fun k o hk => h.keep k o (hC k o hk) (hO k o hk)

theorem NodeAt.mono {A A' B B' : Arena} {g : Nat} {n : NodeD} (h : NodeAt A B g n) (hg : A'.blk g = A.blk g) (hB : B.Sub B') : NodeAt A' B' g n := by
  obtain ⟨v, h1, h2⟩ := h
  exact ⟨v, h1.sub fun o ho => by rw [hg]; exact ho, h2.sub hB⟩

theorem kMap_keys {κ α β : Type} (f : α → β) (l : List (κ × α)) : (kMap f l).map (·.1) = l.map (·.1) := by simp [kMap, Function.comp_def]

/-- Memory around a tree changes, its own and its nodes' data do not. -/
theorem TreeR.frame {A B A' : Arena} {O : Nat → Prop} {t : Nat} {T : TreeD} {m s : Nat} {E : List (ByteArray × Nat × NodeD)} (h : TreeR A B O t T m s E) (hO : ∀ k, O k → A'.blk k = A.blk k) (hB : B.Sub A') : TreeR A' B O t T m s E where
  nodes := h.nodes
  top := h.top.sub fun o ho => by rw [hO t h.own.1]; exact ho
  nmap := h.nmap.sub fun o ho => by rw [hO m h.own.2.1]; exact ho
  smap := h.smap.sub fun o ho => by rw [hO s h.own.2.2.1]; exact ho
  cells := fun e he => (h.cells e he).mono (hO _ (h.own.2.2.2 e he)) (Arena.Sub.refl _)
  keys := h.keys
  ptrs := h.ptrs
  skeys := h.skeys
  sub := hB
  own := h.own
  off := h.off
  live := fun k hk => by rw [hO k hk]; exact h.live k hk
  ne := h.ne

theorem TreeAt.frame {A B A' : Arena} {O : Nat → Prop} {t : Nat} {T : TreeD} (h : TreeAt A B O t T) (hO : ∀ k, O k → A'.blk k = A.blk k) (hB : B.Sub A') : TreeAt A' B O t T := by
  obtain ⟨m, s, E, h⟩ := h
  exact ⟨m, s, E, h.frame hO hB⟩

theorem TreeR.dom {A B : Arena} {O : Nat → Prop} {t : Nat} {T : TreeD} {m s : Nat} {E : List (ByteArray × Nat × NodeD)} (h : TreeR A B O t T m s E) {e : ByteArray × Nat × NodeD} (he : e ∈ E) : e.2.1 ≠ m ∧ e.2.1 ≠ s := by
  obtain ⟨v, ⟨c, ty, fz, h1, _⟩, _⟩ := h.cells e he
  obtain ⟨es, cl, h2, _⟩ := h.nmap
  obtain ⟨es', cl', h3, _⟩ := h.smap
  exact ⟨fun e => (by rw [e, h2] at h1; cases h1), fun e => (by rw [e, h3] at h1; cases h1)⟩

theorem TreeR.top_ne {A B : Arena} {O : Nat → Prop} {t : Nat} {T : TreeD} {m s : Nat} {E : List (ByteArray × Nat × NodeD)} (h : TreeR A B O t T m s E) : t ≠ m ∧ t ≠ s := by
  obtain ⟨c, ty, fz, h1, _⟩ := h.top
  obtain ⟨es, cl, h2, _⟩ := h.nmap
  obtain ⟨es', cl', h3, _⟩ := h.smap
  exact ⟨fun e => (by rw [e, h2] at h1; cases h1), fun e => (by rw [e, h3] at h1; cases h1)⟩

theorem TreeR.get {A B : Arena} {O : Nat → Prop} {t : Nat} {T : TreeD} {m s : Nat} {E : List (ByteArray × Nat × NodeD)} (h : TreeR A B O t T m s E) (p : ByteArray) : kGet p T.nodes = (kGet p E).map (·.2) := by rw [h.nodes, kGet_map]

theorem TreeR.look {A B : Arena} {O : Nat → Prop} {t : Nat} {T : TreeD} {m s : Nat} {E : List (ByteArray × Nat × NodeD)} (h : TreeR A B O t T m s E) (p : ByteArray) : A.look m (.string p) = some ((kGet p E).map fun x => ptrV x.1) := by
  rw [look_str h.nmap, kGet_map]
  cases kGet p E <;> rfl

/-- A node is turned. -/
theorem TreeR.mod {A B A' B' : Arena} {O : Nat → Prop} {t : Nat} {T : TreeD} {m s : Nat} {E : List (ByteArray × Nat × NodeD)} (h : TreeR A B O t T m s E) {p : ByteArray} {g : Nat} {n n' : NodeD} (hp : kGet p E = some (g, n))
    (hO : ∀ k, O k → k ≠ g → A'.blk k = A.blk k) (hn : NodeAt A' B' g n') (hB : B.Sub B') (hs : B'.Sub A') (hoff : ∀ k, O k → B'.blk k = none) : TreeR A' B' O t ⟨kMod p (fun _ => n') T.nodes, T.seats⟩ m s (kMod p (fun x => (x.1, n')) E) := by
  have hmem := kGet_mem (bytes_key p) hp
  obtain ⟨a, b, h1, _, _, _, h2⟩ := kGet_split (bytes_key p) hp
  have h2 := h2 fun x => (x.1, n')
  have hk : ∀ {β : Type} (f : ByteArray × Nat × NodeD → β), f (p, g, n') = f (p, g, n) → (kMod p (fun x => (x.1, n')) E).map f = E.map f := fun f hf => by rw [h2, h1]; simp [hf]
  have hne := h.dom hmem
  have hgt := h.ne.2 _ hmem
  have hsplit : ∀ e ∈ kMod p (fun x => (x.1, n')) E, e = (p, g, n') ∨ (e ∈ E ∧ e.2.1 ≠ g) := fun e he => by
    rw [h2] at he
    have hnd := h.ptrs
    rw [h1] at hnd
    simp only [List.map_append, List.map_cons] at hnd
    obtain ⟨_, hb, hab⟩ := List.nodup_append.1 hnd
    rw [List.nodup_cons] at hb
    rcases List.mem_append.1 he with he | he
    · refine .inr ⟨by rw [h1]; exact List.mem_append_left _ he, fun eq => ?_⟩
      exact hab _ (List.mem_map.2 ⟨e, he, rfl⟩) g (by simp) eq
    · rcases List.mem_cons.1 he with rfl | he
      · exact .inl rfl
      · refine .inr ⟨by rw [h1]; exact List.mem_append_right _ (List.mem_cons_of_mem _ he), fun eq => ?_⟩
        exact hb.1 (List.mem_map.2 ⟨e, he, eq⟩)
  refine ⟨?_, h.top.sub fun o ho => (by rw [hO t h.own.1 (Ne.symm hgt)]; exact ho), ?_, h.smap.sub fun o ho => (by rw [hO s h.own.2.2.1 (Ne.symm hne.2)]; exact ho), fun e he => ?_, by rw [hk _ rfl]; exact h.keys, by rw [hk _ rfl]; exact h.ptrs, h.skeys, hs, ⟨h.own.1, h.own.2.1, h.own.2.2.1, fun e he => ?_⟩, hoff, fun k hk => ?_, ⟨h.ne.1, fun e he => ?_⟩⟩
  · show kMod p (fun _ => n') T.nodes = _
    rw [h.nodes]
    exact kMod_map (·.2) (fun x => (x.1, n')) (fun _ => n') (fun _ => rfl) p E
  · have e1 : kMap (·.1) (kMod p (fun x => (x.1, n')) E) = kMap (·.1) E := hk _ rfl
    rw [e1]
    exact h.nmap.sub fun o ho => (by rw [hO m h.own.2.1 (Ne.symm hne.1)]; exact ho)
  · rcases hsplit e he with rfl | ⟨he, hg⟩
    · exact hn
    · exact (h.cells e he).mono (hO _ (h.own.2.2.2 e he) hg) hB
  · rcases hsplit e he with rfl | ⟨he, hg⟩
    · exact h.own.2.2.2 (p, g, n) hmem
    · exact h.own.2.2.2 e he
  · by_cases e : k = g
    · subst e
      obtain ⟨v, h1, _⟩ := hn
      exact h1.dom
    · rw [hO k hk e]; exact h.live k hk
  · rcases hsplit e he with rfl | ⟨he, hg⟩
    · exact hgt
    · exact h.ne.2 e he

/-- A node is laid. -/
theorem TreeR.put {A B A' B' : Arena} {O : Nat → Prop} {t : Nat} {T : TreeD} {m s : Nat} {E : List (ByteArray × Nat × NodeD)} (h : TreeR A B O t T m s E) {p : ByteArray} {g : Nat} {n : NodeD} (hg : A.blk g = none)
    (hO : ∀ k, O k → k ≠ m → A'.blk k = A.blk k) (hm : MapAt A' m (putL (.string p) (ptrV g) (strL ptrV (kMap (·.1) E)))) (hn : NodeAt A' B' g n) (hB : B.Sub B') (hs : B'.Sub A') (hoff : ∀ k, O k ∨ k = g → B'.blk k = none) :
    TreeR A' B' (fun k => O k ∨ k = g) t ⟨kPut p n T.nodes, T.seats⟩ m s (kPut p (g, n) E) := by
  have hgo : ∀ e ∈ E, e.2.1 ≠ g := fun e he eq => by
    obtain ⟨v, h1, _⟩ := h.cells e he
    obtain ⟨o, ho⟩ := h1.dom
    rw [eq, hg] at ho; cases ho
  have htg : t ≠ g := fun e => by
    obtain ⟨o, ho⟩ := h.top.dom
    rw [e, hg] at ho; cases ho
  have hsplit : ∀ e ∈ kPut p (g, n) E, e = (p, g, n) ∨ e ∈ E := fun e he => by
    cases hp : kGet p E with
    | none =>
      rw [kPut_none hp, List.mem_append, List.mem_singleton] at he
      exact he.symm
    | some x =>
      obtain ⟨a, b, h1, _, h2, _, _⟩ := kGet_split (bytes_key p) hp
      rw [h2] at he
      rcases List.mem_append.1 he with he | he
      · exact .inr (by rw [h1]; exact List.mem_append_left _ he)
      · rcases List.mem_cons.1 he with rfl | he
        · exact .inl rfl
        · exact .inr (by rw [h1]; exact List.mem_append_right _ (List.mem_cons_of_mem _ he))
  have hnd : (((kPut p (g, n) E).map (·.1)).Nodup) ∧ ((kPut p (g, n) E).map (·.2.1)).Nodup := by
    cases hp : kGet p E with
    | none =>
      rw [kPut_none hp]
      have h9 := kGet_none (bytes_beq_self p) hp
      refine ⟨?_, ?_⟩
      · rw [List.map_append, List.nodup_append]
        refine ⟨h.keys, by simp, fun a ha b hb e => ?_⟩
        simp only [List.map_cons, List.map_nil, List.mem_singleton] at hb
        subst hb; subst e; exact h9 ha
      · rw [List.map_append, List.nodup_append]
        refine ⟨h.ptrs, by simp, fun a ha b hb e => ?_⟩
        simp only [List.map_cons, List.map_nil, List.mem_singleton] at hb
        subst hb; subst e
        obtain ⟨x, hx, hx2⟩ := List.mem_map.1 ha
        exact hgo x hx hx2
    | some x =>
      obtain ⟨a, b, h1, _, h2, _, _⟩ := kGet_split (bytes_key p) hp
      rw [h2]
      have k1 := h.keys
      have k2 := h.ptrs
      rw [h1] at k1 k2
      refine ⟨by simpa using k1, ?_⟩
      simp only [List.map_append, List.map_cons] at k2 ⊢
      obtain ⟨d1, d2, d3⟩ := List.nodup_append.1 k2
      rw [List.nodup_cons] at d2
      refine List.nodup_append.2 ⟨d1, List.nodup_cons.2 ⟨fun hm => ?_, d2.2⟩, fun u hu w hw e => ?_⟩
      · obtain ⟨y, hy, hy2⟩ := List.mem_map.1 hm
        exact hgo y (by rw [h1]; exact List.mem_append_right _ (List.mem_cons_of_mem _ hy)) hy2
      · rcases List.mem_cons.1 hw with rfl | hw
        · obtain ⟨y, hy, hy2⟩ := List.mem_map.1 hu
          exact hgo y (by rw [h1]; exact List.mem_append_left _ hy) (hy2.trans e)
        · exact d3 u hu w (List.mem_cons_of_mem _ hw) e
  have htm := h.top_ne
  refine ⟨?_, h.top.sub fun o ho => (by rw [hO t h.own.1 htm.1]; exact ho), ?_, h.smap.sub fun o ho => (by rw [hO s h.own.2.2.1 (Ne.symm h.ne.1)]; exact ho), fun e he => ?_, hnd.1, hnd.2, h.skeys, hs, ⟨.inl h.own.1, .inl h.own.2.1, .inl h.own.2.2.1, fun e he => ?_⟩, hoff, fun k hk => ?_, ⟨h.ne.1, fun e he => ?_⟩⟩
  · show kPut p n T.nodes = _
    rw [h.nodes]
    exact kPut_map (·.2) p (g, n) E
  · have : putL (.string p) (ptrV g) (strL ptrV (kMap (·.1) E)) = strL ptrV (kMap (·.1) (kPut p (g, n) E)) := by
      rw [strL_put]
      congr 1
      exact kPut_map (·.1) p (g, n) E
    rw [← this]; exact hm
  · rcases hsplit e he with rfl | he
    · exact hn
    · exact (h.cells e he).mono (hO _ (h.own.2.2.2 e he) (h.dom he).1) hB
  · rcases hsplit e he with rfl | he
    · exact .inr rfl
    · exact .inl (h.own.2.2.2 e he)
  · rcases hk with hk | rfl
    · by_cases e : k = m
      · subst e
        obtain ⟨es, cl, h1, _⟩ := hm
        exact ⟨_, h1⟩
      · rw [hO k hk e]; exact h.live k hk
    · obtain ⟨v, h1, _⟩ := hn
      exact h1.dom
  · rcases hsplit e he with rfl | he
    · exact Ne.symm htg
    · exact h.ne.2 e he

theorem kDel_sub {κ α : Type} [BEq κ] (p : κ) : ∀ l : List (κ × α), List.Sublist (kDel p l) l
  | [] => List.Sublist.refl _
  | e :: es => by
    simp only [kDel]
    cases hb : p == e.1 with
    | true => exact List.sublist_cons_self _ _
    | false => exact (kDel_sub p es).cons_cons e

/-- A node is taken away. -/
theorem TreeR.del {A B A' : Arena} {O : Nat → Prop} {t : Nat} {T : TreeD} {m s : Nat} {E : List (ByteArray × Nat × NodeD)} (h : TreeR A B O t T m s E) {p : ByteArray}
    (hO : ∀ k, k ≠ m → A'.blk k = A.blk k) (hm : MapAt A' m (delL (.string p) (strL ptrV (kMap (·.1) E)))) : TreeR A' B O t ⟨kDel p T.nodes, T.seats⟩ m s (kDel p E) := by
  have hsub := kDel_sub p E
  have htm := h.top_ne
  refine ⟨?_, h.top.sub fun o ho => (by rw [hO t htm.1]; exact ho), ?_, h.smap.sub fun o ho => (by rw [hO s (Ne.symm h.ne.1)]; exact ho), fun e he => ?_, h.keys.sublist (hsub.map _), h.ptrs.sublist (hsub.map _), h.skeys, fun k o hk => ?_, ⟨h.own.1, h.own.2.1, h.own.2.2.1, fun e he => h.own.2.2.2 e (hsub.subset he)⟩, h.off, fun k hk => ?_, ⟨h.ne.1, fun e he => h.ne.2 e (hsub.subset he)⟩⟩
  · show kDel p T.nodes = _
    rw [h.nodes]
    exact kDel_map (·.2) p E
  · have : delL (.string p) (strL ptrV (kMap (·.1) E)) = strL ptrV (kMap (·.1) (kDel p E)) := by
      rw [strL_del]
      congr 1
      exact kDel_map (·.1) p E
    rw [← this]; exact hm
  · have he := hsub.subset he
    exact (h.cells e he).mono (hO _ (h.dom he).1) (Arena.Sub.refl _)
  · rw [hO k fun e => by subst e; rw [h.off _ h.own.2.1] at hk; cases hk]
    exact h.sub k o hk
  · by_cases e : k = m
    · subst e
      obtain ⟨es, cl, h1, _⟩ := hm
      exact ⟨_, h1⟩
    · rw [hO k e]; exact h.live k hk

/-- Sittings are changed. -/
theorem TreeR.sit {A B A' : Arena} {O : Nat → Prop} {t : Nat} {T : TreeD} {m s : Nat} {E : List (ByteArray × Nat × NodeD)} (h : TreeR A B O t T m s E) {l : List (Int × SitD)}
    (hO : ∀ k, k ≠ s → A'.blk k = A.blk k) (hm : MapAt A' s (intL sitV l)) (hl : (l.map (·.1)).Nodup) : TreeR A' B O t ⟨T.nodes, l⟩ m s E := by
  have htm := h.top_ne
  refine ⟨h.nodes, h.top.sub fun o ho => (by rw [hO t htm.2]; exact ho), h.nmap.sub fun o ho => (by rw [hO m h.ne.1]; exact ho), hm, fun e he => (h.cells e he).mono (hO _ (h.dom he).2) (Arena.Sub.refl _), h.keys, h.ptrs, hl, fun k o hk => ?_, h.own, h.off, fun k hk => ?_, h.ne⟩
  · rw [hO k fun e => by subst e; rw [h.off _ h.own.2.2.1] at hk; cases hk]
    exact h.sub k o hk
  · by_cases e : k = s
    · subst e
      obtain ⟨es, cl, h1, _⟩ := hm
      exact ⟨_, h1⟩
    · rw [hO k e]; exact h.live k hk

theorem kPut_nodup {p : Int} {x : SitD} {l : List (Int × SitD)} (h : (l.map (·.1)).Nodup) : ((kPut p x l).map (·.1)).Nodup := by
  cases hp : kGet p l with
  | none =>
    rw [kPut_none hp, List.map_append, List.nodup_append]
    refine ⟨h, by simp, fun a ha b hb e => ?_⟩
    simp only [List.map_cons, List.map_nil, List.mem_singleton] at hb
    subst hb; subst e; exact kGet_none (by simp) hp ha
  | some y =>
    obtain ⟨a, b, h1, _, h2, _, _⟩ := kGet_split (int_key p) hp
    rw [h2]
    rw [h1] at h
    simpa using h

end
end Go.Sx

namespace Go.Proofs.YtfpfjobknefedaaGreatDoor
open Go.Sx Go.RowKit
noncomputable section
open Classical

theorem wrapI {n : Int} (h0 : -9223372036854775808 ≤ n) (h1 : n ≤ 9223372036854775807) : IntKind.i64.wrap n = n := by
  simp only [IntKind.wrap, IntKind.bits, IntKind.signed]
  simp
  omega

theorem split_nd {p : Prop} {i : Decidable p} {A B : Bool} (h1 : p → B = true) (h2 : ¬ p → A = true) : (bif !(decide p) then A else B) = true := by
  by_cases h : p
  · rw [decide_eq_true h]; exact h1 h
  · rw [decide_eq_false h]; exact h2 h

theorem mixed : Tryz.prog.follows .mixedOrders = true := by kernel_rfl

/-- A loop over the places of a row, that reads only: slot s counts. -/
def cnt (A : Arena) (s : Nat) (keep keepB : List Nat) (n : Nat) (p : Nat → Prop) : LInv := { γ := Nat, G := fun k => k ≤ n ∧ p k, keepS := keep, keepB := keepB, sl := fun k => [(s, .v (.int .i64 k))], bl := fun _ => [], ar := fun _ => A, mu := fun k => n - k }

theorem inc_slot {k : Nat} (h : k < 9223372036854775807) : some (SV.v (.int .i64 (IntKind.i64.wrap ((k : Int) + 1)))) = some (SV.v (.int .i64 ((k + 1 : Nat) : Int))) := by
  rw [Sx.wrap_i64 (by omega) (by omega)]; rfl

theorem beqL_iff {l m : List UInt8} : beqL l m = true ↔ l = m := by rw [beqL_eq]; simp

theorem beqL_ff {l m : List UInt8} : beqL l m = false ↔ ¬ l = m := by rw [← beqL_iff]; simp

theorem goes_of_calls {P : Program} {f : FuncId} {args : Array Value} {w : World} {Φ : Value → World → Prop} {fn : Func} (hf : P.funcs[f]? = some fn) (h1 : (fn.name == "runtime.NumGoroutine") = false ∧ fn.body.isNone = false)
    (h : Calls P f args w fun e w' => ∃ v, e = .returned v ∧ Φ v w') : CallGoes P f args w Φ fun _ _ => False := by
  refine .inl ⟨fn, hf, h1, fun cs => ?_⟩
  obtain ⟨e, w', fr, k1, k2⟩ := h cs
  exact ⟨e, w', fr, .inl k1, k2⟩

end
end Go.Proofs.YtfpfjobknefedaaGreatDoor

namespace Go.Proofs.YtfpfjobknefedaaGreatDoor
open Go.RowKit Go.Shelf

set_option maxRecDepth 100000 in
theorem idx1 (s : ByteArray) (c : Int) (w : World) :
    Calls Tryz.prog 103 #[.string s, .int .u8 c] w fun e w' => e = .returned (.int .i64 (Lib.indexByte s.data.toList c.toNat.toUInt8)) ∧ w' = w := by
  go_enter Tryz.func103, Tryz.ntmps103
  go_wp2
  rw [run_callFunc_extern Tryz.func118 (by kernel_rfl) (by kernel_rfl) (by kernel_rfl) (e := Extern.BytealgIndexByte.indexByte) (by kernel_rfl), Lib.run_indexByteString]
  simp only [Result.andThen]
  rw [Oper.upon_value]
  go_wp2
  go_ret
  exact ⟨rfl, rfl⟩

set_option maxRecDepth 100000 in
set_option maxHeartbeats 1000000 in
theorem idx2 (s : ByteArray) (w : World) :
    Calls Tryz.prog 74 #[.string s, .string ⟨#[47]⟩] w fun e w' => e = .returned (.int .i64 (Lib.index s.data.toList [47])) ∧ w' = w := by
  go_enter Tryz.func74, Tryz.ntmps74
  go_wp2_with (go_at_call 103; refine (idx1 _ _ _).mono ?_; rintro e w' ⟨rfl, rfl⟩)
  · have h1 : ([47] == s.toList) = true := by assumption
    go_ret
    refine ⟨?_, rfl⟩
    rw [show Lib.index s.data.toList [47] = 0 from Lib.zero s ⟨#[47]⟩ (.inr (by simpa using h1))]
    rfl
  · go_ret
    refine ⟨?_, rfl⟩
    rw [show Lib.index s.data.toList [47] = _ from Lib.one s ⟨#[47]⟩ rfl]
    rfl

set_option maxRecDepth 100000 in
set_option maxHeartbeats 2000000 in
theorem cut1 (s : ByteArray) (hs : s.size < 4294967281) (w : World) :
    Calls Tryz.prog 62 #[.string s, .string ⟨#[47]⟩] w fun e w' => e = .returned (.tuple #[.string ⟨(Lib.cut s.data.toList [47]).1.toArray⟩, .string ⟨(Lib.cut s.data.toList [47]).2.1.toArray⟩, .bool (Lib.cut s.data.toList [47]).2.2]) ∧ ∃ n, w' = w.drewN n := by
  have mixed : Tryz.prog.follows .mixedOrders = true := by kernel_rfl
  rcases Lib.indexB_cases s ⟨#[47]⟩ with hix | ⟨i, hix, hroom⟩
  · obtain ⟨e1, e2, e3⟩ := Lib.cutB_miss s ⟨#[47]⟩ hix
    rw [show (Lib.cut s.data.toList [47]).1 = _ from rfl, show (⟨(Lib.cut s.data.toList [47]).1.toArray⟩ : ByteArray) = _ from e1, show (⟨(Lib.cut s.data.toList [47]).2.1.toArray⟩ : ByteArray) = _ from e2, show (Lib.cut s.data.toList [47]).2.2 = _ from e3]
    go_enter Tryz.func62, Tryz.ntmps62
    go_wp2_with (go_at_call 74; refine (idx2 _ _).mono ?_; rintro e w' ⟨rfl, rfl⟩; rw [show Lib.index s.data.toList [47] = _ from hix])
    go_ret3
    exact ⟨rfl, 0, rfl⟩
  · obtain ⟨e1, e2, e3⟩ := Lib.cutB_hit s ⟨#[47]⟩ i hix
    rw [show (⟨(Lib.cut s.data.toList [47]).1.toArray⟩ : ByteArray) = _ from e1, show (⟨(Lib.cut s.data.toList [47]).2.1.toArray⟩ : ByteArray) = _ from e2, show (Lib.cut s.data.toList [47]).2.2 = _ from e3]
    have c0 : (⟨#[47]⟩ : ByteArray).size = 1 := rfl
    rw [c0] at hroom ⊢
    have c1 : (0 : Int) ≤ ↑i := by omega
    have c2 : (↑i : Int) ≤ ↑s.size := by omega
    have c3 : (0 : Int) ≤ ↑i + 1 := by omega
    have c4 : (↑i + 1 : Int) ≤ ↑s.size := by omega
    go_enter Tryz.func62, Tryz.ntmps62
    go_wp2_with (go_at_call 74; refine (idx2 _ _).mono ?_; rintro e w' ⟨rfl, rfl⟩; rw [show Lib.index s.data.toList [47] = _ from hix])
    go_region_o
    go_wp2
    go_ret3
    exact ⟨rfl, 1, rfl⟩

set_option maxRecDepth 100000 in
set_option maxHeartbeats 1000000 in
theorem cut2 (s : ByteArray) (hs : s.size < 4294967281) (w : World) :
    Calls Tryz.prog 41 #[.string s, .string ⟨#[47]⟩] w fun e w' => e = .returned (.tuple #[.string ⟨(Lib.cut s.data.toList [47]).1.toArray⟩, .string ⟨(Lib.cut s.data.toList [47]).2.1.toArray⟩, .bool (Lib.cut s.data.toList [47]).2.2]) ∧ ∃ n, w' = w.drewN n := by
  go_enter Tryz.func41, Tryz.ntmps41
  go_wp2_with (go_at_call 62; refine (cut1 _ hs _).mono ?_; rintro e w' ⟨rfl, n, rfl⟩)
  go_ret3
  exact ⟨rfl, n, rfl⟩
end Go.Proofs.YtfpfjobknefedaaGreatDoor

namespace Go.Proofs.YtfpfjobknefedaaGreatDoor
open Go.RowKit Go.Shelf

def okByte (b : UInt8) : Bool := decide (33 ≤ b.toNat) && decide (b.toNat ≤ 126) && !(b == 47)
def partOk (l : List UInt8) : Bool := l.all okByte && !l.isEmpty && !(l == [46]) && !(l == [46, 46])

theorem dec_cases (s : ByteArray) (pos : Nat) (hp : pos < s.size) :
    (okByte (s[pos]'hp) = true ∧ Utf8.decode s pos = ((s[pos]'hp).toNat, 1) ∧ 33 ≤ (Utf8.decode s pos).1 ∧ (Utf8.decode s pos).1 ≤ 126 ∧ (Utf8.decode s pos).1 ≠ 47) ∨
    (okByte (s[pos]'hp) = false ∧ ((Utf8.decode s pos).1 < 33 ∨ 126 < (Utf8.decode s pos).1 ∨ (Utf8.decode s pos).1 = 47)) := by
  by_cases ha : (s[pos]'hp).toNat < 128
  · have hd := decode_ascii s pos hp ha
    rw [hd]
    have h47 : ((s[pos]'hp) == 47) = decide ((s[pos]'hp).toNat = 47) := by
      rw [Bool.eq_iff_iff, beq_iff_eq, decide_eq_true_iff]
      exact ⟨fun h => by rw [h]; rfl, fun h => UInt8.toNat_inj.1 (by rw [h]; rfl)⟩
    unfold okByte
    rw [h47]
    by_cases h1 : 33 ≤ (s[pos]'hp).toNat <;> by_cases h2 : (s[pos]'hp).toNat ≤ 126 <;> by_cases h3 : (s[pos]'hp).toNat = 47 <;> simp [h1, h2, h3] <;> omega
  · refine .inr ⟨?_, .inr (.inl ?_)⟩
    · unfold okByte
      have : ¬ (s[pos]'hp).toNat ≤ 126 := by omega
      simp [this]
    · have := (decode_high s pos hp (by omega)).1
      omega

theorem part_bad (s : ByteArray) (pos : Nat) (hp : pos < s.size) (h : okByte (s[pos]'hp) = false) : partOk s.data.toList = false := by
  unfold partOk
  have : s.data.toList.all okByte = false := by
    rw [List.all_eq_false]
    exact ⟨s[pos]'hp, by simp [ByteArray.getElem_eq_getElem_data], by simp [h]⟩
  simp [this]

theorem part_end (s : ByteArray) (pos : Nat) (hp : ¬ pos < s.size) (h2 : (s.data.toList.take pos).all okByte = true) : Hid (partOk s.data.toList = (!s.toList.isEmpty && !s.toList == [46] && !s.toList == [46, 46])) := by
  show _ = _
  rw [List.take_of_length_le (by have : s.data.toList.length = s.size := rfl; omega)] at h2
  unfold partOk
  rw [h2, ByteArray.toList_eq]
  simp

theorem take_ok (s : ByteArray) (pos : Nat) (hp : pos < s.size) (h : okByte (s[pos]'hp) = true) (h2 : (s.data.toList.take pos).all okByte = true) : (s.data.toList.take (pos + 1)).all okByte = true := by
  have hl : pos < s.data.toList.length := by simpa using hp
  rw [List.take_succ_eq_append_getElem hl, List.all_append, h2]
  simpa [ByteArray.getElem_eq_getElem_data] using h

set_option maxRecDepth 100000 in
set_option maxHeartbeats 1000000 in
theorem part1 (s : ByteArray) (w : World) :
    Calls Tryz.prog 23 #[.string s] w fun e w' => e = .returned (.bool (partOk s.data.toList)) ∧ ∃ pos, w' = w.iter s pos := by
  go_enter Tryz.func23, Tryz.ntmps23
  go_wp2
  go_loopw [] (fun w' => ∃ (pos : Nat), w' = w.iter s pos ∧ pos ≤ s.size ∧ (s.data.toList.take pos).all okByte = true) (fun w' => s.size - w'.iterPos w.heap.size)
  case atStart => exact ⟨0, rfl, by omega, by simp⟩
  case round =>
    obtain ⟨pos, rfl, h1, h2⟩ := hrel
    by_cases hp : pos < s.size
    · have hnx : ∀ ty, (Instr.next (.pointer (some ⟨w.heap.size, 0, none⟩)) true ty).run Tryz.prog (w.iter s pos) = _ := fun ty => run_next_any w s pos ty hp
      go_wp2
      · rename_i g
        rcases dec_cases s pos hp with ⟨k1, k2, k3, k4, k5⟩ | ⟨k1, k2⟩
        · exfalso
          rcases g with g | g
          · omega
          · have := eq_of_beq g; omega
        · have k3 := part_bad s pos hp k1
          go_ret
          exact ⟨by rw [k3]; rfl, _, rfl⟩
      · rename_i g
        rcases dec_cases s pos hp with ⟨k1, k2, k3, k4, k5⟩ | ⟨k1, k2⟩
        · rw [k2]
          exact ⟨⟨pos + 1, rfl, by omega, take_ok s pos hp k1 h2⟩, by simp; omega⟩
        · exfalso
          obtain ⟨g, g'⟩ := g
          have := ne_of_beq_false g'
          omega
      · rename_i g
        rcases dec_cases s pos hp with ⟨k1, k2, k3, k4, k5⟩ | ⟨k1, k2⟩
        · exfalso; omega
        · have k3 := part_bad s pos hp k1
          go_ret
          exact ⟨by rw [k3]; rfl, _, rfl⟩
      · rename_i g
        rcases dec_cases s pos hp with ⟨k1, k2, k3, k4, k5⟩ | ⟨k1, k2⟩
        · exfalso; omega
        · have k3 := part_bad s pos hp k1
          go_ret
          exact ⟨by rw [k3]; rfl, _, rfl⟩
    · have hnx : ∀ ty, (Instr.next (.pointer (some ⟨w.heap.size, 0, none⟩)) true ty).run Tryz.prog (w.iter s pos) = _ := fun ty => run_next_end w s pos ty hp
      have h3 := part_end s pos hp h2
      go_wp2
      · rename_i g
        go_ret
        refine ⟨?_, _, rfl⟩
        rw [h3.out, g]; rfl
      · rename_i g
        go_ret
        refine ⟨?_, _, rfl⟩
        rw [h3.out, g]; rfl
      · go_ret
        refine ⟨?_, _, rfl⟩
        rw [h3.out]; rfl
end Go.Proofs.YtfpfjobknefedaaGreatDoor

namespace Go.Proofs.YtfpfjobknefedaaGreatDoor
open Go.RowKit Go.Shelf
attribute [local go_sem] Oper.semAt_some

/-- The parts between the slashes. -/
def splitL : List UInt8 → List (List UInt8)
  | [] => [[]]
  | b :: l => bif b == 47 then [] :: splitL l else match splitL l with
    | x :: xs => (b :: x) :: xs
    | [] => [[b]]

/-- What stands behind the first slash. -/
def restOk (q : List UInt8) : Bool := q.isEmpty || (splitL q).all partOk

theorem splitL_none : ∀ (l : List UInt8), (∀ b ∈ l, b ≠ 47) → splitL l = [l]
  | [], _ => rfl
  | b :: l, h => by
    have hb : (b == 47) = false := by simpa using h b (by simp)
    simp [splitL, hb, splitL_none l (fun x hx => h x (by simp [hx]))]

theorem splitL_cut : ∀ (a b : List UInt8), (∀ x ∈ a, x ≠ 47) → splitL (a ++ 47 :: b) = a :: splitL b
  | [], b, _ => by simp [splitL]
  | x :: a, b, h => by
    have hb : (x == 47) = false := by simpa using h x (by simp)
    simp [splitL, hb, splitL_cut a b (fun y hy => h y (by simp [hy]))]

theorem index_cases : ∀ (l : List UInt8), (Lib.index l [47] = -1 ∧ ∀ x ∈ l, x ≠ 47) ∨ (∃ a b, l = a ++ 47 :: b ∧ (∀ x ∈ a, x ≠ 47) ∧ Lib.index l [47] = a.length)
  | [] => .inl ⟨rfl, by simp⟩
  | x :: l => by
    by_cases hx : x = 47
    · subst hx
      exact .inr ⟨[], l, rfl, by simp, by simp [Lib.index, List.isPrefixOf]⟩
    · have e : List.isPrefixOf [47] (x :: l) = false := by
        simp [List.isPrefixOf]
        exact fun h => hx h.symm
      rcases index_cases l with ⟨h1, h2⟩ | ⟨a, b, h1, h2, h3⟩
      · refine .inl ⟨by simp [Lib.index, e, h1], fun y hy => ?_⟩
        rcases List.mem_cons.1 hy with rfl | hy
        · exact hx
        · exact h2 y hy
      · refine .inr ⟨x :: a, b, by simp [h1], fun y hy => ?_, ?_⟩
        · rcases List.mem_cons.1 hy with rfl | hy
          · exact hx
          · exact h2 y hy
        · have : ((a.length : Int) == -1) = false := by rw [beq_eq_false_iff_ne]; omega
          simp [Lib.index, e, h3, this]

/-- A text, cut at its first slash. -/
def CutFacts (q n1 n2 : List UInt8) : Prop :=
  (n1 = q ∧ n2 = [] ∧ splitL q = [q]) ∨ (q = n1 ++ 47 :: n2 ∧ splitL q = n1 :: splitL n2)

theorem cut_facts (q : List UInt8) : CutFacts q (Lib.cut q [47]).1 (Lib.cut q [47]).2.1 := by
  unfold Lib.cut
  rcases index_cases q with ⟨h1, h2⟩ | ⟨a, b, h1, h2, h3⟩
  · rw [h1]
    exact .inl ⟨rfl, rfl, splitL_none q h2⟩
  · rw [h3, if_pos (by omega)]
    refine .inr ?_
    have e1 : q.take (↑a.length : Int).toNat = a := by rw [h1]; simp
    have e2 : q.drop ((↑a.length : Int).toNat + [47].length) = b := by
      rw [h1]
      simp
    simp only [e1]
    rw [show q.drop ((↑a.length : Int).toNat + [(47 : UInt8)].length) = b from e2]
    rw [h1]
    exact ⟨rfl, splitL_cut a b h2⟩

theorem cut3 (s : ByteArray) (hs : s.size < 4294967281) (w : World) :
    Calls Tryz.prog 41 #[.string s, .string ⟨#[47]⟩] w fun e w' => ∃ n1 n2 b n, e = .returned (.tuple #[.string n1, .string n2, .bool b]) ∧ w' = w.drewN n ∧ Hid (CutFacts s.data.toList n1.data.toList n2.data.toList) := by
  refine (cut2 s hs w).mono ?_
  rintro e w' ⟨rfl, n, rfl⟩
  exact ⟨_, _, _, n, rfl, rfl, cut_facts _⟩

end Go.Proofs.YtfpfjobknefedaaGreatDoor

namespace Go.Proofs.YtfpfjobknefedaaGreatDoor
open Go.RowKit Go.Shelf
attribute [local go_sem] Oper.semAt_some

def strSize : Option Value → Nat
  | some (.string s) => s.size
  | _ => 0

theorem ext_tail {p : ByteArray} {b : UInt8} {q : List UInt8} (hp : p.data.toList = b :: q) : (p.extract 1 p.size).data.toList = q := by
  have : (p.extract 1 p.size).data.toList = (p.data.toList.drop 1).take (p.size - 1) := by
    rw [ByteArray.data_extract]
    simp [Array.toList_extract]
  rw [this, hp]
  have h : p.size = (b :: q).length := by rw [← hp]; rfl
  simp [h]

theorem wrap64_in' (n : Int) (h : -9223372036854775808 ≤ n ∧ n ≤ 9223372036854775807) : wrap64 n = n := by unfold wrap64; omega

theorem size_list (p : ByteArray) : p.size = p.data.toList.length := rfl

theorem part_nil : partOk [] = false := rfl

/-- A cut part that is none. -/
theorem rest_bad {q n1 n2 : List UInt8} (hq : q ≠ []) (h : CutFacts q n1 n2) (ho : partOk n1 = false) : restOk q = false := by
  unfold restOk
  rcases h with ⟨h1, _, h3⟩ | ⟨_, h3⟩
  · rw [h3, ← h1]
    cases n1 with
    | nil => exact absurd h1.symm hq
    | cons x xs => simp [ho]
  · rw [h3]
    cases q with
    | nil => exact absurd rfl hq
    | cons x xs => simp [ho]

/-- The last part. -/
theorem rest_last {q n1 n2 : List UInt8} (h : CutFacts q n1 n2) (ho : partOk n1 = true) (hl : n1.length = q.length) : restOk q = true := by
  unfold restOk
  rcases h with ⟨h1, _, h3⟩ | ⟨h1, _⟩
  · rw [h3, ← h1]
    simp [ho]
  · rw [h1] at hl; simp at hl

/-- A part with others behind it. -/
theorem rest_more {q n1 n2 : List UInt8} (h : CutFacts q n1 n2) (ho : partOk n1 = true) (hl : n1.length ≠ q.length) : q.length = n1.length + n2.length + 1 ∧ restOk q = (splitL n2).all partOk := by
  rcases h with ⟨h1, _, h3⟩ | ⟨h1, h2⟩
  · exact absurd (by rw [h1]) hl
  · refine ⟨by rw [h1]; simp; omega, ?_⟩
    unfold restOk
    rw [h2]
    cases q with
    | nil => simp at h1
    | cons x xs => simp [ho]

set_option maxRecDepth 100000 in
set_option maxHeartbeats 4000000 in
theorem iter1 (n : Nat) (_ : 2 ≤ n) (l Bn : Nat) (J Jx : ByteArray → World → Prop)
    (jc : ∀ p W, J p W → W.cell? ⟨Bn, 0, none⟩ = some (.string p) ∧ W.frozen? ⟨Bn, 0, none⟩ = false)
    (xc : ∀ p W, Jx p W → W.cell? ⟨Bn, 0, none⟩ = some (.string p))
    (jd : ∀ p W k, J p W → J p (W.drewN k))
    (js : ∀ p p' W, J p W → J p' (W.setCell ⟨Bn, 0, none⟩ (.string p')))
    (hY : ∀ p x W, J p W → YieldAt Fence.wide (n - 1) Tryz.prog l #[.string x] W fun e W' => (Hid (partOk x.data.toList = true) ∧ e = .returned (.bool true) ∧ J p W') ∨ (Hid (partOk x.data.toList = false) ∧ e = .returned (.bool false) ∧ Jx p W'))
    (p0 : ByteArray) (q0 : List UInt8) (hp0 : Hid (p0.data.toList = 47 :: q0)) (hsz : p0.size ≤ 200) (W : World) (h0 : J p0 W) :
    CallsIn Fence.wide n Tryz.prog 40 #[.func (.yield l) #[] #[], .pointer (some ⟨Bn, 0, none⟩)] W fun e W' => (∃ v, e = .returned v) ∧
      ((restOk q0 = true ∧ ∃ p, J p W') ∨ (restOk q0 = false ∧ ∃ p, Jx p W')) := by
  refine callsIn_of_wp Tryz.func40 rfl trivial ?_ rfl
  simp only [Tryz.ntmps40, List.size_toArray, List.length_cons, List.length_nil, Nat.reduceAdd, Nat.reduceSub, Array.replicate_succ, Array.replicate_zero, List.push_toArray, List.append_toArray, List.nil_append, List.cons_append]
  gi_wp2
  gi_loopw [] (fun wr => (∃ (p : ByteArray) (q : List UInt8), J p wr ∧ Hid (p.data.toList = 47 :: q) ∧ Hid (restOk q = restOk q0) ∧ p.size ≤ 200) ∨ (∃ p : ByteArray, Jx p wr ∧ Hid (p = ⟨#[47]⟩) ∧ Hid (restOk q0 = false)))
    (fun wr => strSize (wr.cell? ⟨Bn, 0, none⟩))
  case atStart => exact .inl ⟨p0, q0, h0, hp0, rfl, hsz⟩
  case round =>
    rcases hrel with ⟨p, q, hJ, hp, hq, hs⟩ | ⟨p, hX, hp, hq⟩
    · obtain ⟨hc, hf⟩ := jc p wr hJ
      have hs1 : (1 : Int) ≤ ↑p.size := by
        have : p.size = (47 :: q).length := by rw [← hp.out]; rfl
        simp at this; omega
      have hsq : Hid (p.size = q.length + 1) := by show _ = _; rw [size_list, hp.out]; rfl
      by_cases hq' : q = []
      · -- '/' alone
        have hp' : p = ⟨#[47]⟩ := by
          have h := hp.out
          rw [hq'] at h
          obtain ⟨⟨x⟩⟩ := p
          simp at h
          rw [h]
        subst hp'
        have hq2 : Hid (restOk q0 = true) := by
          have h := hq.out
          rw [hq'] at h
          exact h.symm
        clear hq'
        gi_wp2
        go_end0
        exact ⟨⟨_, rfl⟩, .inl ⟨hq2.out, _, hJ⟩⟩
      · have hne : (p.toList == [47]) = false := by
          rw [beq_eq_false_iff_ne, ByteArray.toList_eq, hp.out]
          intro h
          injection h with _ h
          exact hq' h
        have hee : p.toList.isEmpty = false := by
          rw [ByteArray.toList_eq, hp.out]; rfl
        have hq2 : Hid (q ≠ []) := hq'
        clear hq'
        gi_wp2
        refine ⟨trivial, fun h => (by cases h), ?_⟩
        refine (callsIn_wide.2 (cut3 _ (by rw [ByteArray.size_extract]; omega) _)).mono ?_
        rintro e w' ⟨n1, n2, b, k, rfl, rfl, hcut⟩
        have hcut' : Hid (CutFacts q n1.data.toList n2.data.toList) := by
          have h := hcut.out
          rw [ext_tail hp.out] at h
          exact h
        clear hcut
        have hJ1 := jd _ _ k hJ
        obtain ⟨hc1, hf1⟩ := jc _ _ hJ1
        obtain ⟨fn, tmps, assign, body, hy, hR⟩ := hY _ n1 _ hJ1
        gi_wp2
        refine ⟨fun h => (by cases h), hR.mono ?_⟩
        rintro e W3 (⟨ho, rfl, hJ3⟩ | ⟨ho, rfl, hX3⟩)
        · obtain ⟨hc3, hf3⟩ := jc _ _ hJ3
          by_cases hl : n1.data.toList.length = q.length
          · have hlast : Hid (restOk q0 = true) := by
              rw [← hq.out]; exact rest_last hcut'.out ho.out hl
            have hlen : wrap64 ((n1.size : Int) + 1) = (p.size : Int) := by
              have h1 := hsq.out
              rw [wrap64_in' _ (by rw [size_list]; omega), size_list n1, hl, h1]
              simp
            clear hl
            gi_wp2
            refine bodyPost_ret (results_none rfl _ _ _) rfl ?_
            exact ⟨⟨_, rfl⟩, .inl ⟨hlast.out, _, hJ3⟩⟩
          · obtain ⟨hlq, hmore'⟩ := rest_more hcut'.out ho.out hl
            have hmore : Hid (restOk q0 = (splitL n2.data.toList).all partOk) := by
              rw [← hq.out]; exact hmore'
            have hlen : (wrap64 ((n1.size : Int) + 1) == (p.size : Int)) = false := by
              have h1 := hsq.out
              rw [wrap64_in' _ (by rw [size_list]; omega), size_list n1, h1, beq_eq_false_iff_ne]
              omega
            have hn2 : ¬ 9223372036854775807 < 1 + n2.size := by
              have h1 := hsq.out
              rw [size_list]; omega
            have hlq2 : Hid (q.length = n1.data.toList.length + n2.data.toList.length + 1) := hlq
            clear hl hlq hmore'
            have hJ4 := js p (⟨#[47]⟩ ++ n2) W3 hJ3
            obtain ⟨fn2, tm2, as2, bo2, hy2, hR2⟩ := hY _ ⟨#[]⟩ _ hJ4
            gi_wp2
            · rename_i hz _ _
              have hz' : n2.data.toList = [] := by
                rw [ByteArray.toList_eq] at hz
                exact List.isEmpty_iff.1 hz
              have hz2 : n2 = ⟨#[]⟩ := by
                obtain ⟨⟨x⟩⟩ := n2
                simp at hz'
                rw [hz']
              clear hz hz'
              refine ⟨fun h => (by cases h), hR2.mono ?_⟩
              rintro e W4 (⟨ho2, rfl, hJ5⟩ | ⟨ho2, rfl, hX5⟩)
              · exact absurd (ho2.out : partOk [] = true) (by decide)
              · have hc4 := xc _ _ hX5
                have hbad : Hid (restOk q0 = false) := by
                  rw [hmore.out, hz2]; rfl
                gi_wp2
                refine ⟨.inr ⟨_, hX5, ?_, hbad⟩, ?_⟩
                · rw [hz2]; rfl
                · have h1 := hsq.out; have h2 := hlq2.out
                  rw [hc4, hc, hz2]
                  show 1 < p.size
                  omega
            · rename_i hz
              have hz' : n2.data.toList ≠ [] := by
                rw [ByteArray.toList_eq] at hz
                intro h
                rw [h] at hz
                cases hz
              have hs2 : (⟨#[47]⟩ ++ n2 : ByteArray).size = n2.size + 1 := by
                rw [ByteArray.size_append]
                have : (⟨#[47]⟩ : ByteArray).size = 1 := rfl
                omega
              have h1 := hsq.out; have h2 := hlq2.out
              have h3 := size_list n2
              refine ⟨.inl ⟨_, n2.data.toList, hJ4, ?_, ?_, ?_⟩, ?_⟩
              · show _ = _
                rw [ByteArray.data_append, Array.toList_append]; rfl
              · show _ = _
                rw [hmore.out]
                unfold restOk
                cases hd : n2.data.toList with
                | nil => exact absurd hd hz'
                | cons x xs => simp
              · rw [hs2]; omega
              · rw [(jc _ _ hJ4).1, hc]
                show (⟨#[47]⟩ ++ n2 : ByteArray).size < p.size
                rw [hs2]; omega
        · have hc3 := xc _ _ hX3
          have hbad : Hid (restOk q0 = false) := by
            rw [← hq.out]; exact rest_bad hq2.out hcut'.out ho.out
          gi_wp2
          refine bodyPost_ret (results_none rfl _ _ _) rfl ?_
          exact ⟨⟨_, rfl⟩, .inr ⟨hbad.out, _, hX3⟩⟩
    · have hc := xc _ _ hX
      have hp' := hp.out
      subst hp'
      gi_wp2
      go_end0
      exact ⟨⟨_, rfl⟩, .inr ⟨hq.out, _, hX⟩⟩
end Go.Proofs.YtfpfjobknefedaaGreatDoor

namespace Go.Proofs.YtfpfjobknefedaaGreatDoor
open Go.RowKit Go.Shelf
attribute [local go_sem] Oper.semAt_some

theorem cellNew (W : World) (v : Value) (t : TypeId) : (W.alloc (.cells #[v] t)).cell? ⟨W.heap.size, 0, none⟩ = some v ∧ (W.alloc (.cells #[v] t)).frozen? ⟨W.heap.size, 0, none⟩ = false := by
  have h := World.alloc_heap_new W (.cells #[v] t)
  constructor
  · simp only [World.cell?, h]; rfl
  · simp only [World.frozen?, h]; rfl

theorem setOther {W : World} {p a : Addr} (v : Value) (h : p.block ≠ a.block) : (W.setCell p v).cell? a = W.cell? a :=
  World.cell?_of_block (Below.heap_setCell _ _ _ _ (fun e => h e.symm))

theorem cellAlloc {W : World} {a : Addr} {v : Value} (o : Obj) (h : W.cell? a = some v) : (W.alloc o).cell? a = some v := cell_kept h (World.grownBy_alloc W o none) (fun r e => by cases e)
theorem frozenAlloc {W : World} {a : Addr} {v : Value} (o : Obj) (h : W.cell? a = some v) (hf : W.frozen? a = false) : (W.alloc o).frozen? a = false := (frozen_kept h (World.grownBy_alloc W o none) (fun r e => by cases e)).trans hf

theorem head_of (p : ByteArray) (h : 0 < p.size) (e : (((p[0]'h).toNat : Nat) : Int) = 47) : ∃ q, p.data.toList = 47 :: q ∧ q.length + 1 = p.size := by
  obtain ⟨⟨l⟩⟩ := p
  cases l with
  | nil => simp [ByteArray.size] at h
  | cons b l =>
    refine ⟨l, ?_, rfl⟩
    have e' : ((b.toNat : Nat) : Int) = 47 := e
    have : b = 47 := UInt8.toNat_inj.1 (by have h47 : (47 : UInt8).toNat = 47 := rfl; omega)
    rw [this]

theorem size_pos_of (p : ByteArray) (h : ¬ p.toList = []) : 0 < p.size := by
  rw [ByteArray.toList_eq] at h
  rw [size_list]
  exact List.length_pos_iff.2 h

theorem not_head (p : ByteArray) (q : List UInt8) (hp : p.data.toList = 47 :: q) (h : 0 < p.size) : (((p[0]'h).toNat : Nat) : Int) = 47 := by
  obtain ⟨⟨l⟩⟩ := p
  simp at hp
  subst hp
  rfl

/-- Is it a right path? -/
def pathOk : List UInt8 → Bool
  | 47 :: q => decide (q.length < 200) && restOk q
  | _ => false

set_option maxRecDepth 100000 in
theorem parts1 (p : ByteArray) (w : World) :
    Calls Tryz.prog 22 #[.string p] w fun e w' => e = .returned (.func (.func 40) #[] #[.pointer (some ⟨w.heap.size, 0, none⟩)]) ∧ w' = w.alloc (.cells #[.string p] 9) := by
  go_enter Tryz.func22, Tryz.ntmps22
  go_wp2
  go_ret
  exact ⟨rfl, rfl⟩

theorem pathOk_no {l : List UInt8} (h : ∀ q, l = 47 :: q → ¬ q.length < 200) : pathOk l = false := by
  unfold pathOk
  split
  · rename_i q
    simp [h q rfl]
  · rfl

/-- Where the function leaves ahead of the loop. -/
theorem leave0 {R : Ending → World → Prop} {fn : Func} {a : Act} {w : World} (hd : a.defers = []) {v : Value} (hr : (results fn a.tmps).run Tryz.prog w = .ok v w) (h : R (.returned v) w) : bodyPostM Fence.wide 5 Tryz.prog fn R .ret a w := by
  show LeavesInM _ _ _ _ _ _ _ _ _
  rw [hd]
  exact ⟨v, hr, h⟩

/-- What lies between two rounds. -/
structure I0 (w0 : World) (p : ByteArray) (W : World) : Prop where
  ca : W.cell? ⟨w0.heap.size, 0, none⟩ = some (.bool false)
  fa : W.frozen? ⟨w0.heap.size, 0, none⟩ = false
  cb : W.cell? ⟨w0.heap.size + 1, 0, none⟩ = some (.string p)
  fb : W.frozen? ⟨w0.heap.size + 1, 0, none⟩ = false
  bl : Below w0.heap.size w0 W

theorem I0.own {w0 : World} {p : ByteArray} {W W' : World} {row : Option Nat} (h : I0 w0 p W) (hg : W.grownBy W' row) (hr : ∀ r, row = some r → w0.heap.size ≤ r ∧ ∃ o : Obj, W.heap[r]? = some o ∧ o.isCells = false) : I0 w0 p W' :=
  ⟨cell_kept h.ca hg (fun r e => (hr r e).2), (frozen_kept h.ca hg (fun r e => (hr r e).2)).trans h.fa, cell_kept h.cb hg (fun r e => (hr r e).2), (frozen_kept h.cb hg (fun r e => (hr r e).2)).trans h.fb, h.bl.grown hg h.bl.size (fun k e => (hr k e).1)⟩

theorem I0.put {w0 : World} {p : ByteArray} {W : World} {k : Nat} {o : Obj} (o' : Obj) (h : I0 w0 p W) (hk : w0.heap.size ≤ k) (ho : W.heap[k]? = some o) (hc : o.isCells = false) : I0 w0 p (W.putObj k o') :=
  h.own (grownBy_putObj' W k o') (fun r e => by cases e; exact ⟨hk, o, ho, hc⟩)

theorem I0.alloc {w0 : World} {p : ByteArray} {W : World} (o : Obj) (h : I0 w0 p W) : I0 w0 p (W.alloc o) :=
  h.own (World.grownBy_alloc W o none) (fun r e => by cases e)

theorem I0.drew {w0 : World} {p : ByteArray} {W : World} (k : Nat) (h : I0 w0 p W) : I0 w0 p (W.drewN k) :=
  ⟨h.ca, h.fa, h.cb, h.fb, below_drewN h.bl k⟩

theorem I0.set {w0 : World} {p : ByteArray} {W : World} (p' : ByteArray) (h : I0 w0 p W) : I0 w0 p' (W.setCell ⟨w0.heap.size + 1, 0, none⟩ (.string p')) := by
  refine ⟨?_, ?_, ?_, ?_, h.bl.setCell (by simp) _⟩
  · exact (setOther _ (by show _ ≠ _; simp)).trans h.ca
  · rw [World.frozen?_setCell]; exact h.fa
  · exact World.cell?_setCell_same' _ _ _ (by rw [h.cb]; rfl)
  · rw [World.frozen?_setCell]; exact h.fb

/-- A round's body, where it goes on and where it leaves. -/
def bodyEnd (w0 : World) (p x : ByteArray) (W : World) : Exit → Act → World → Prop
  | .normal, _, W' => Hid (partOk x.data.toList = true) ∧ KeepsOthers W W' ∧ I0 w0 p W'
  | .ret, _, W' => Hid (partOk x.data.toList = false) ∧ KeepsOthers W W' ∧ I0 w0 p W'
  | _, _, _ => False

/-- The loop, at whatever assignments and body. -/
theorem loop0 {n : Nat} (hn : 3 ≤ n) {t : Tmp} {g : Operand} {assign body : Code} {Q : Exit → Act → World → Prop} {a : Act} {w0 w : World} (hw : w0.heap.size + 2 ≤ w.heap.size)
    (hg : a.eval g = .func (.func 40) #[] #[.pointer (some ⟨w0.heap.size + 1, 0, none⟩)]) (p0 : ByteArray) (q0 : List UInt8) (hp0 : Hid (p0.data.toList = 47 :: q0)) (hsz : p0.size ≤ 200)
    (hI : I0 w0 p0 w) (a₁ : ByteArray → Act)
    (hassign : ∀ (l : Nat) (x : ByteArray) (W : World) (K : Act → World → Prop), K (a₁ x) W →
      assign.wpIn (Fence.wide.inRound l) (n - 1 - 1) Tryz.prog (Exit.then K (fun _ _ _ => False)) { tmps := ((#[t] : Array Tmp).zip #[Value.string x]).foldl (fun t (p, v) => t.setIfInBounds p v) a.tmps, defers := [] } W)
    (hbody : ∀ (l : Nat) (p x : ByteArray) (W : World), I0 w0 p W → body.wpIn (Fence.wide.inRound l) (n - 1 - 1) Tryz.prog (bodyEnd w0 p x W) (a₁ x) W)
    (hdone : ∀ (D : Nat) (p : ByteArray) (W : World), w0.heap.size ≤ D → Hid (restOk q0 = true) → I0 w0 p W → W.heap[D]? = some (.deferred (some [])) → Q .normal { a with defers := { target := .collected D, args := #[] } :: a.defers } W)
    (hstop : ∀ (D : Nat) (p : ByteArray) (W : World), w0.heap.size ≤ D → Hid (restOk q0 = false) → I0 w0 p W → W.heap[D]? = some (.deferred (some [])) → Code.ret.wpIn Fence.wide n Tryz.prog Q { a with defers := { target := .collected D, args := #[] } :: a.defers } W) :
    (Code.rangeFunc g #[t] assign body).wpIn Fence.wide n Tryz.prog Q a w := by
  refine wpIn_rangeFunc ?_
  intro fn hfn
  obtain ⟨rec, hrec⟩ : ∃ rec : LoopState → Option Code → Loop, rec = fun st pe => { state := st, pending := pe, fn, tmps := a.tmps, params := #[t], assign, body, defers := w.heap.size } := ⟨_, rfl⟩
  obtain ⟨W1, hW1⟩ : ∃ W1, (w.alloc (.deferred (some []))).alloc (.loop (rec .ready none)) = W1 := ⟨_, rfl⟩
  have hL1 : W1.heap[w.heap.size + 1]? = some (.loop (rec .ready none)) := by
    rw [← hW1]; have := World.alloc_heap_new (w.alloc (.deferred (some []))) (.loop (rec .ready none)); rwa [World.size_alloc] at this
  have hK1 : W1.heap[w.heap.size]? = some (.deferred (some [])) := by
    rw [← hW1]; exact (Below.heap_alloc _ _ _ (by simp)).trans (World.alloc_heap_new w _)
  have hI1 : I0 w0 p0 W1 := by rw [← hW1]; exact (hI.alloc _).alloc _
  have eg : ∀ args w, (callFunc 40 args).run Tryz.prog w = .ok (.enter 40 args) w := enters_of Tryz.func40 (by kernel_rfl) rfl
  refine ⟨w.heap.size + 1, [{ target := .collected w.heap.size, args := #[] }], W1, { target := .fn (.func 40) #[.pointer (some ⟨w0.heap.size + 1, 0, none⟩)], args := #[.func (.yield (w.heap.size + 1)) #[] #[]] }, W1, 40,
    #[.func (.yield (w.heap.size + 1)) #[] #[]] ++ #[.pointer (some ⟨w0.heap.size + 1, 0, none⟩)], W1, ?_, ?_, ?_, ?_, fun h => (by cases h), ?_⟩
  · rw [← hW1, hrec]; exact run_enterLoop_outer _ _ _ _ _
  · simp only [resolve, hg]
    simp [go_sem]
  · intro f' hf'; trivial
  · simp [invoke, go_sem, eg]
  · refine (iter1 (n - 1) (by omega) (w.heap.size + 1) (w0.heap.size + 1)
      (fun p W => I0 w0 p W ∧ W.heap[w.heap.size + 1]? = some (.loop (rec .ready none)) ∧ W.heap[w.heap.size]? = some (.deferred (some [])))
      (fun p W => I0 w0 p W ∧ W.heap[w.heap.size + 1]? = some (.loop (rec .done (some .ret))) ∧ W.heap[w.heap.size]? = some (.deferred (some [])))
      (fun p W h => ⟨h.1.cb, h.1.fb⟩) (fun p W h => h.1.cb) (fun p W k h => ⟨h.1.drew k, h.2.1, h.2.2⟩)
      (fun p p' W h => ⟨h.1.set p', (Below.heap_setCell _ _ _ _ (by show _ ≠ w0.heap.size + 1; omega)).trans h.2.1, (Below.heap_setCell _ _ _ _ (by show _ ≠ w0.heap.size + 1; omega)).trans h.2.2⟩)
      ?_ p0 q0 hp0 hsz W1 ⟨hI1, hL1, hK1⟩).mono ?_
    · -- one round
      rintro p x W ⟨hi, hl, hk⟩
      have hlt : w.heap.size + 1 < W.heap.size := (Array.getElem?_eq_some_iff.1 hl).1
      have hy := run_yield (P := Tryz.prog) (args := #[.string x]) hl (by rw [hrec]; rfl)
      rw [hrec] at hy
      refine ⟨fn, _, assign, body, hy, roundIn_of_wpIn hfn (hassign _ x W _ ⟨_, run_beginRound hl (by rw [hrec]), ?_⟩)⟩
      have hl2 : (W.putObj (w.heap.size + 1) (.loop { rec .ready none with state := .busy })).heap[w.heap.size + 1]? = some (.loop { rec .ready none with state := .busy }) := World.putObj_heap_same hlt
      have hk2 : (W.putObj (w.heap.size + 1) (.loop { rec .ready none with state := .busy })).heap[w.heap.size]? = some (.deferred (some [])) := (World.putObj_heap_other (by omega)).trans hk
      refine wpIn_mono (hbody _ p x _ (hi.put _ (by omega) hl rfl)) ?_
      have fin : ∀ (jump : Option Code) (W3 : World), KeepsOthers (W.putObj (w.heap.size + 1) (.loop { rec .ready none with state := .busy })) W3 →
          (Instr.endRound (w.heap.size + 1) jump).run Tryz.prog W3 = .ok (.bool jump.isNone) (W3.putObj (w.heap.size + 1) (.loop (rec (if jump.isNone then .ready else .done) jump))) ∧
          W3.heap[w.heap.size + 1]? = some (.loop { rec .ready none with state := .busy }) ∧
          (W3.putObj (w.heap.size + 1) (.loop (rec (if jump.isNone then .ready else .done) jump))).heap[w.heap.size + 1]? = some (.loop (rec (if jump.isNone then .ready else .done) jump)) ∧
          (W3.putObj (w.heap.size + 1) (.loop (rec (if jump.isNone then .ready else .done) jump))).heap[w.heap.size]? = some (.deferred (some [])) := fun jump W3 hk3 => by
        have hl3 := hk3.same _ _ hl2 rfl
        have := run_endRound (P := Tryz.prog) jump hl3
        rw [hrec] at this ⊢
        exact ⟨this, by rw [hrec] at hl3; exact hl3, World.putObj_heap_same (Array.getElem?_eq_some_iff.1 hl3).1, (World.putObj_heap_other (by omega)).trans (hk3.same _ _ hk2 rfl)⟩
      rintro e a3 W3 hp
      cases e with
      | normal =>
        obtain ⟨ho, hk3, hi3⟩ := hp
        obtain ⟨hr, hl3, hl4, hk4⟩ := fin none W3 hk3
        exact ⟨_, _, hr, .inl ⟨ho, rfl, hi3.put _ (by omega) hl3 rfl, hl4, hk4⟩⟩
      | ret =>
        obtain ⟨ho, hk3, hi3⟩ := hp
        obtain ⟨hr, hl3, hl4, hk4⟩ := fin (some .ret) W3 hk3
        exact ⟨_, _, hr, .inr ⟨ho, rfl, hi3.put _ (by omega) hl3 rfl, hl4, hk4⟩⟩
      | exit id => exact hp.elim
      | goto t => exact hp.elim
      | panic ch => exact hp.elim
      | outgrown => exact hp.elim
    · -- behind the iterator
      rintro e W2 ⟨⟨v, rfl⟩, (⟨hS, p, hi, hl, hk⟩ | ⟨hS, p, hi, hl, hk⟩)⟩
      · exact ⟨none, _, by have := run_endLoop (P := Tryz.prog) hl (by rw [hrec]; simp); rw [hrec] at this; exact this, hdone _ p _ (by omega) hS (hi.put _ (by omega) hl rfl) ((World.putObj_heap_other (by omega)).trans hk)⟩
      · exact ⟨some .ret, _, by have := run_endLoop (P := Tryz.prog) hl (by rw [hrec]; simp); rw [hrec] at this; exact this, hstop _ p _ (by omega) hS (hi.put _ (by omega) hl rfl) ((World.putObj_heap_other (by omega)).trans hk)⟩

set_option maxRecDepth 100000 in
set_option maxHeartbeats 4000000 in
theorem check0 (p : ByteArray) (w : World) :
    CallsIn Fence.wide 5 Tryz.prog 7 #[.string p] w fun e w' => e = .returned (.bool (pathOk p.data.toList)) ∧ Below w.heap.size w w' := by
  have hb1 : Below w.heap.size w (w.alloc (.cells #[.bool false] 4)) := (Below.refl _ w).alloc (Nat.le_refl _) _
  have hcA := (cellNew w (.bool false) 4).1
  have hfA := (cellNew w (.bool false) 4).2
  by_cases hbad : ∀ q, p.data.toList = 47 :: q → ¬ q.length < 200
  · have hno : Hid (pathOk p.data.toList = false) := pathOk_no hbad
    have hbad' : Hid (∀ q, p.data.toList = 47 :: q → ¬ q.length < 200) := hbad
    clear hbad
    refine callsIn_of_wp_marks Tryz.func7 rfl trivial ?_ rfl
    simp only [Tryz.ntmps7, List.size_toArray, List.length_cons, List.length_nil, Nat.reduceAdd, Nat.reduceSub, Array.replicate_succ, Array.replicate_zero, List.push_toArray, List.append_toArray, List.nil_append, List.cons_append]
    gi_wp2
    · refine leave0 rfl (v := .bool false) ?_ ⟨by rw [hno.out], hb1⟩
      simp [results, Tryz.f7, go_sem, hcA]
    · refine leave0 rfl (v := .bool false) ?_ ⟨by rw [hno.out], hb1⟩
      simp [results, Tryz.f7, go_sem, hcA]
    · exfalso
      rename_i g1 g2 g3 g4 _ _ _ _ _ _
      obtain ⟨q, h1, h2⟩ := head_of p g2 g3
      exact hbad'.out q h1 (by have := g4.2; omega)
    · refine leave0 rfl (v := .bool false) ?_ ⟨by rw [hno.out], hb1⟩
      simp [results, Tryz.f7, go_sem, hcA]
    · exfalso
      rename_i g1 _ _ g3
      exact g3 (size_pos_of p g1)
  · obtain ⟨q, hq⟩ := Classical.not_forall.1 hbad
    obtain ⟨hp, hlen⟩ := Classical.not_imp.1 hq
    have hlen' : q.length < 200 := Classical.not_not.1 hlen
    have hsz : p.size = q.length + 1 := by rw [size_list, hp]; rfl
    have hpos : 0 < p.size := by omega
    have hhd := not_head p q hp hpos
    have hp' : Hid (p.data.toList = 47 :: q) := hp
    have hsz' : Hid (p.size = q.length + 1) := hsz
    have hle : (p.size : Int) ≤ 200 := by omega
    have hee : p.toList.isEmpty = false := by rw [ByteArray.toList_eq, hp]; rfl
    have hok : Hid (pathOk p.data.toList = restOk q) := by
      show _ = _
      rw [hp]; unfold pathOk; simp [hlen']
    clear hbad hq hlen hlen' hp hsz
    refine callsIn_of_wp_marks Tryz.func7 rfl trivial ?_ rfl
    simp only [Tryz.ntmps7, List.size_toArray, List.length_cons, List.length_nil, Nat.reduceAdd, Nat.reduceSub, Array.replicate_succ, Array.replicate_zero, List.push_toArray, List.append_toArray, List.nil_append, List.cons_append]
    gi_wp2
    refine ⟨trivial, (callsIn_wide.2 (parts1 _ _)).mono ?_⟩
    rintro e w' ⟨rfl, rfl⟩
    gi_wp2
    have hI : I0 w p ((w.alloc (.cells #[.bool false] 4)).alloc (.cells #[.string p] 9)) := by
      have h := cellNew (w.alloc (.cells #[.bool false] 4)) (.string p) 9
      rw [World.size_alloc] at h
      exact ⟨cellAlloc _ hcA, frozenAlloc _ hcA hfA, h.1, h.2, hb1.alloc (by simp) _⟩
    refine loop0 (by omega) (w0 := w) (by simp) rfl p q hp' (by omega) hI
      (fun x => { tmps := #[.string p, undef, .pointer (some ⟨w.heap.size, 0, none⟩), .string x, .string p, .bool false, .bool false, .string p, .int .u8 47, .bool false, .bool false, .bool false, .string p, .int .i64 p.size, .bool (decide (200 < (p.size : Int))), .bool (decide (200 < (p.size : Int))), .string p, .func (.func 40) #[] #[.pointer (some ⟨w.heap.size + 1, 0, none⟩)], .string x, undef, undef, undef], defers := [] }) ?assign ?body ?done ?stop
    case assign =>
      intro l x W K hK
      gi_wp2
      exact hK
    case body =>
      intro l p1 x W h1
      have hca := h1.ca
      have hfa := h1.fa
      gi_wp2
      refine ⟨trivial, (CallsIn.inRound l (callsIn_wide.2 (part1 x W))).mono ?_⟩
      rintro e W2 ⟨rfl, pos, rfl⟩
      have hi2 : I0 w p1 (W.iter x pos) := h1.alloc _
      have hk2 : KeepsOthers W (W.iter x pos) := KeepsOthers.alloc W _
      have hca2 := hi2.ca
      have hfa2 := hi2.fa
      cases hx : partOk x.data.toList with
      | true =>
        have hx' : Hid (partOk x.data.toList = true) := hx
        clear hx
        gi_wp2
        exact ⟨hx', hk2, hi2⟩
      | false =>
        have hx' : Hid (partOk x.data.toList = false) := hx
        clear hx
        gi_wp2
        refine ⟨hx', hk2.trans (KeepsOthers.setCell _ _ _), ?_, ?_, ?_, ?_, ?_⟩
        · exact World.cell?_setCell_same' _ _ _ (by rw [hca2]; rfl)
        · rw [World.frozen?_setCell]; exact hfa2
        · exact (setOther _ (by show _ ≠ _; simp)).trans hi2.cb
        · rw [World.frozen?_setCell]; exact hi2.fb
        · exact hi2.bl.setCell (p := ⟨w.heap.size, 0, none⟩) (Nat.le_refl _) _
    case done =>
      intro D p1 W hD hr h1 hK
      have hca := h1.ca
      have hfa := h1.fa
      gi_wp2
      have hK' := (KeepsOthers.setCell W ⟨w.heap.size, 0, none⟩ (.bool true)).same D _ hK rfl
      refine ⟨by simp, .inl ⟨_, _, rfl, run_takeDeferred hK', ?_⟩⟩
      have hc5 := cell_kept (World.cell?_setCell_same' W ⟨w.heap.size, 0, none⟩ (.bool true) (by rw [hca]; rfl)) (grownBy_putObj' _ D (.deferred none)) (fun r e => by cases e; exact ⟨_, hK', rfl⟩)
      refine ⟨.bool true, ?_, by rw [hok.out, hr.out], (h1.bl.setCell (p := ⟨w.heap.size, 0, none⟩) (Nat.le_refl _) _).trans (belowK_b (w := w) (Nat.le_refl _) _ D _ _ hD hK' rfl rfl)⟩
      simp [results, Tryz.f7, go_sem, hc5]
    case stop =>
      intro D p1 W hD hr h1 hK
      gi_wp2
      refine ⟨by simp, .inl ⟨_, _, rfl, run_takeDeferred hK, ?_⟩⟩
      have hc5 := cell_kept h1.ca (grownBy_putObj' _ D (.deferred none)) (fun r e => by cases e; exact ⟨_, hK, rfl⟩)
      refine ⟨.bool false, ?_, by rw [hok.out, hr.out], h1.bl.trans (belowK_b (w := w) (Nat.le_refl _) W D _ _ hD hK rfl rfl)⟩
      simp [results, Tryz.f7, go_sem, hc5]

/-- path.Check, at every text. -/
theorem check1 (p : ByteArray) (w : World) : Calls Tryz.prog 7 #[.string p] w fun e w' => e = .returned (.bool (pathOk p.data.toList)) ∧ Below w.heap.size w w' := callsIn_wide.1 (check0 p w)

#print axioms check1
end Go.Proofs.YtfpfjobknefedaaGreatDoor

namespace Go.Proofs.YtfpfjobknefedaaGreatDoor
open Go.Sx Go.RowKit Go.Shelf

def ctPath : CT := fun args h K => match args with
  | [.v (.string s)] => K (.v (.bool (pathOk s.data.toList))) h
  | [.str l] => K (.v (.bool (pathOk l))) h
  | _ => false

def ctIdx : CT := fun args h K => match args with
  | [.v (.string s), .v (.int .u8 c)] => K (.v (.int .i64 (Lib.indexByte s.data.toList c.toNat.toUInt8))) h
  | [.str l, .v (.int .u8 c)] => K (.v (.int .i64 (Lib.indexByte l c.toNat.toUInt8))) h
  | _ => false

/-- The functions whose contracts are laid down. -/
def C0 : FuncId → Option CT := fun f => bif Nat.beq f 7 then some ctPath else bif Nat.beq f 118 then some ctIdx else none

theorem C0_sound : CTSound Tryz.prog C0 := by
  intro f ct h args h0 K hk ρ w H hargs
  unfold C0 at h
  cases h1 : Nat.beq f 7 with
  | true =>
    rw [h1] at h
    have := Nat.eq_of_beq_eq_true h1
    subst this
    simp only [cond_true, Option.some.injEq] at h
    subst h
    unfold ctPath at hk
    split at hk
    · rename_i s
      exact goes_of_below Tryz.func7 (by kernel_rfl) rfl (check1 s w) H hk rfl trivial
    · rename_i l
      exact goes_of_below Tryz.func7 (by kernel_rfl) rfl (check1 ⟨l.toArray⟩ w) H hk rfl trivial
    · exact absurd hk Bool.false_ne_true
  | false =>
    rw [h1] at h
    simp only [cond_false] at h
    cases h2 : Nat.beq f 118 with
    | true =>
      rw [h2] at h
      have := Nat.eq_of_beq_eq_true h2
      subst this
      simp only [cond_true, Option.some.injEq] at h
      subst h
      have key : ∀ (s : ByteArray) (c : Int), (callFunc 118 #[.string s, .int .u8 c]).run Tryz.prog w = .ok (.value (.int .i64 (Lib.indexByte s.data.toList c.toNat.toUInt8))) w := fun s c => by
        rw [run_callFunc_extern Tryz.func118 (by kernel_rfl) (by kernel_rfl) (by kernel_rfl) (e := Extern.BytealgIndexByte.indexByte) (by kernel_rfl), Lib.run_indexByteString]
        rfl
      unfold ctIdx at hk
      split at hk
      · rename_i s c
        exact goes_of_entry (key s c) H hk rfl trivial
      · rename_i l c
        exact goes_of_entry (key ⟨l.toArray⟩ c) H hk rfl trivial
      · exact absurd hk Bool.false_ne_true
    | false => rw [h2] at h; cases h

end Go.Proofs.YtfpfjobknefedaaGreatDoor

namespace Go.Proofs.YtfpfjobknefedaaGreatDoor
open Go.Sx Go.RowKit
noncomputable section
open Classical

/-- The last place of a byte ahead of place n. -/
def lastUp (l : List UInt8) (c : UInt8) : Nat → Int
  | 0 => -1
  | n + 1 => if l[n]? = some c then n else lastUp l c n

def lastIdx (l : List UInt8) (c : UInt8) : Int := lastUp l c l.length

theorem lastUp_lt (l : List UInt8) (c : UInt8) : ∀ n, -1 ≤ lastUp l c n ∧ lastUp l c n < n
  | 0 => by simp [lastUp]
  | n + 1 => by
    simp only [lastUp]
    split
    · omega
    · have := lastUp_lt l c n
      omega

def lastInv (A : Arena) (l : List UInt8) (c : UInt8) : LInv := { γ := Nat, G := fun n => n ≤ l.length ∧ lastUp l c n = lastIdx l c, keepS := [0, 1], keepB := [], sl := fun n => [(5, .v (.int .i64 ((n : Int) - 1)))], bl := fun _ => [], ar := fun _ => A, mu := fun n => n }

def lastS : FSpec := ⟨ByteArray × UInt8, fun g vs _ => vs = [.string g.1, .int .u8 g.2.toNat] ∧ g.1.data.toList.length ≤ 140737488351232, fun g _ A v A' => A' = A ∧ v = .int .i64 (lastIdx g.1.data.toList g.2)⟩

set_option maxRecDepth 100000 in
set_option maxHeartbeats 0 in
theorem last_ok : FOk Tryz.prog 102 lastS := by
  refine fok_v mixed fun ⟨s, c⟩ vs A hp => ?_
  simp only [lastS] at hp
  obtain ⟨rfl, hsz⟩ := hp
  refine ⟨noC, tabO Tryz.prog noC noL 60 [(102, 0)], 60, noC_sound _, tabO_sound mixed (noC_sound _) (noL_sound _) _ _, fun blk os out tape D hD => ?_⟩
  conv => lhs; whnf
  have hw0 : IntKind.i64.wrap ((s.data.toList.length : Int) - 1) = (s.data.toList.length : Int) - 1 := wrapI (by omega) (by omega)
  refine (hD _).2 ⟨lastInv A s.data.toList c, ⟨s.data.toList.length, ⟨Nat.le_refl _, rfl⟩, ⟨congrArg (fun x => some (SV.v (.int .i64 x))) hw0, trivial⟩, trivial, rfl⟩, fun (n : Nat) hn => ⟨⟨trivial, trivial⟩, trivial, ?_⟩⟩
  obtain ⟨hn, hl⟩ : n ≤ s.data.toList.length ∧ lastUp s.data.toList c n = lastIdx s.data.toList c := hn
  conv => lhs; whnf
  refine split_dec (fun h0 => ?_) (fun h0 => ?_)
  · obtain ⟨m, rfl⟩ : ∃ m, n = m + 1 := ⟨n - 1, by omega⟩
    have h1 : ((m + 1 : Nat) : Int) - 1 = (m : Int) := by omega
    conv => lhs; whnf
    refine go_in ⟨by omega, by show ((m + 1 : Nat) : Int) - 1 < (s.data.toList.length : Int); omega⟩ ?_
    conv => lhs; whnf
    have hg : s.data.toList.getD (((m + 1 : Nat) : Int) - 1).toNat 0 = s.data.toList[m] := by
      rw [h1, Int.toNat_natCast, List.getD_eq_getElem?_getD, List.getElem?_eq_getElem (by omega)]; rfl
    have hgm : s.data.toList[m]? = some s.data.toList[m] := List.getElem?_eq_getElem (by omega)
    refine split_dec (fun he => ?_) (fun he => ?_)
    · conv => lhs; whnf
      have he : (s.data.toList[m]).toNat = c.toNat := by rw [← hg]; exact Int.ofNat.inj he
      have hc : s.data.toList[m] = c := UInt8.toNat_inj.1 he
      refine (hD _).2 ⟨rfl, ?_⟩
      rw [← hl, h1]
      simp only [lastUp, hgm, hc, if_true]
    · conv => lhs; whnf
      have hc : s.data.toList[m] ≠ c := fun e => he (by rw [hg, e])
      have hw : IntKind.i64.wrap (((m + 1 : Nat) : Int) - 1 - 1) = (m : Int) - 1 := by rw [h1]; exact wrapI (by omega) (by omega)
      refine (hD _).2 ⟨m, ⟨⟨by omega, ?_⟩, ⟨congrArg (fun x => some (SV.v (.int .i64 x))) hw, trivial⟩, trivial, rfl⟩, by show m < m + 1; omega, ⟨rfl, rfl, trivial⟩, trivial⟩
      rw [← hl]
      simp only [lastUp, hgm, Option.some.injEq, hc, if_false]
  · conv => lhs; whnf
    have : n = 0 := by omega
    subst this
    exact (hD _).2 ⟨rfl, by rw [← hl]; rfl⟩

set_option maxRecDepth 100000 in
set_option maxHeartbeats 0 in
theorem lastIx_ok : FOk Tryz.prog 73 lastS := by
  refine fok_v mixed fun ⟨s, c⟩ vs A hp => ?_
  obtain ⟨rfl, hsz⟩ : vs = [.string s, .int .u8 c.toNat] ∧ s.data.toList.length ≤ 140737488351232 := hp
  have hC : CTSound Tryz.prog (lookC [specE 102 lastS] noC) := lookC_sound (noC_sound _) (fun x hx => by
    simp only [List.mem_singleton] at hx
    subst hx; exact specE_ok last_ok)
  refine ⟨_, noL, 60, hC, noL_sound _, fun blk os out tape D hD => ?_⟩
  conv => lhs; whnf
  refine (hD _).2 ⟨(s, c), ⟨rfl, hsz⟩, fun v A' hq => ?_⟩
  obtain ⟨rfl, rfl⟩ : A' = A ∧ v = .int .i64 (lastIdx s.data.toList c) := hq
  conv => lhs; whnf
  exact (hD _).2 ⟨rfl, rfl⟩

/-- A right path in two: what stands over it, and its last part. -/
def cutP (l : List UInt8) : List UInt8 × List UInt8 :=
  if pathOk l = true ∧ l ≠ [47] then (l.take (max (lastIdx l 47) 1).toNat, l.drop (lastIdx l 47 + 1).toNat) else ([], [])

/-- A right path begins with a slash. -/
theorem pathOk_head {l : List UInt8} (h : pathOk l = true) : ∃ q, l = 47 :: q ∧ q.length < 200 ∧ 0 ≤ lastIdx l 47 := by
  unfold pathOk at h
  split at h
  · rename_i q
    simp only [Bool.and_eq_true, decide_eq_true_eq] at h
    refine ⟨q, rfl, h.1, ?_⟩
    have key : ∀ n, 0 ≤ lastUp (47 :: q) 47 (n + 1) := fun n => by
      induction n with
      | zero => simp [lastUp]
      | succ n ih =>
        rw [lastUp]
        split
        · omega
        · exact ih
    exact key q.length
  · cases h

def cutS : FSpec := ⟨ByteArray, fun s vs _ => vs = [.string s], fun s _ A v A' => A' = A ∧ v = .tuple #[.string ⟨(cutP s.data.toList).1.toArray⟩, .string ⟨(cutP s.data.toList).2.toArray⟩]⟩

set_option maxRecDepth 100000 in
set_option maxHeartbeats 0 in
theorem cut_ok : FOk Tryz.prog 59 cutS := by
  refine fok_v mixed fun s vs A hp => ?_
  obtain rfl : vs = [.string s] := hp
  have hC : CTSound Tryz.prog (lookC [specE 73 lastS] C0) := lookC_sound C0_sound (fun x hx => by
    simp only [List.mem_singleton] at hx
    subst hx; exact specE_ok lastIx_ok)
  refine ⟨_, noL, 60, hC, noL_sound _, fun blk os out tape D hD => ?_⟩
  conv => lhs; whnf
  have key : pathOk s.data.toList = true ∨ pathOk s.data.toList = false := by cases pathOk s.data.toList <;> simp
  rcases key with hk | hk
  · refine split_b (fun hb => absurd hb (by simp [hk])) (fun _ => ?_)
    obtain ⟨q, hl, hq, hi0⟩ := pathOk_head hk
    conv => lhs; whnf
    refine split_b (fun hb => ?_) (fun hb => ?_) <;> (conv => lhs; whnf)
    · have h1 : s.data.toList = [47] := beqL_iff.1 hb
      refine (hD _).2 ⟨rfl, ?_⟩
      rw [cutP, if_neg (by simp [h1])]
    · have h1 : s.data.toList ≠ [47] := fun h => by
        have : beqL s.data.toList [47] = true := beqL_iff.2 h
        exact absurd (this.symm.trans hb) (by simp)
      refine (hD _).2 ⟨(s, 47), ⟨rfl, by rw [hl, List.length_cons]; omega⟩, fun v A' hq => ?_⟩
      obtain ⟨rfl, rfl⟩ : A' = A ∧ v = .int .i64 (lastIdx s.data.toList 47) := hq
      conv => lhs; whnf
      have hlt : lastIdx s.data.toList 47 < (s.data.toList.length : Int) := (lastUp_lt _ _ _).2
      have hlen : 1 ≤ s.data.toList.length := by rw [hl, List.length_cons]; omega
      have hlen2 : s.data.toList.length ≤ 200 := by rw [hl, List.length_cons]; omega
      have hmx : (bif decide (lastIdx s.data.toList 47 < 1) then 1 else lastIdx s.data.toList 47) = max (lastIdx s.data.toList 47) 1 := by
        by_cases h9 : lastIdx s.data.toList 47 < 1
        · simp only [h9, decide_true, cond_true]; omega
        · simp only [h9, decide_false, cond_false]; omega
      have hw : IntKind.i64.wrap (lastIdx s.data.toList 47 + 1) = lastIdx s.data.toList 47 + 1 := wrapI (by omega) (by omega)
      refine go_b ?_ ?_
      · simp only [cond_true, hmx, Bool.and_eq_true, decide_eq_true_eq, Bool.or_eq_true]
        omega
      conv => lhs; whnf
      refine go_b ?_ ?_
      · simp only [hw, Bool.and_eq_true, decide_eq_true_eq, Bool.or_eq_true]
        omega
      conv => lhs; whnf
      refine (hD _).2 ⟨rfl, ?_⟩
      rw [cutP, if_pos ⟨hk, h1⟩]
      simp only [cond_true, hmx, hw]
      simp
      exact List.take_of_length_le (by simp)
  · refine go_b (by simp [hk]) ?_
    conv => lhs; whnf
    refine (hD _).2 ⟨rfl, ?_⟩
    rw [cutP, if_neg (by simp [hk])]

def parentP (s : ByteArray) : ByteArray := ⟨(cutP s.data.toList).1.toArray⟩
def baseP (s : ByteArray) : ByteArray := ⟨(cutP s.data.toList).2.toArray⟩

def parentS : FSpec := ⟨ByteArray, fun s vs _ => vs = [.string s], fun s _ A v A' => A' = A ∧ v = .string (parentP s)⟩
def baseS : FSpec := ⟨ByteArray, fun s vs _ => vs = [.string s], fun s _ A v A' => A' = A ∧ v = .string (baseP s)⟩

theorem cutC : CTSound Tryz.prog (lookC [specE 59 cutS] noC) := lookC_sound (noC_sound _) (fun x hx => by
  simp only [List.mem_singleton] at hx
  subst hx; exact specE_ok cut_ok)

set_option maxRecDepth 100000 in
set_option maxHeartbeats 0 in
theorem parent_ok : FOk Tryz.prog 33 parentS := by
  refine fok_v mixed fun s vs A hp => ?_
  obtain rfl : vs = [.string s] := hp
  refine ⟨_, noL, 60, cutC, noL_sound _, fun blk os out tape D hD => ?_⟩
  conv => lhs; whnf
  refine (hD _).2 ⟨s, rfl, fun v A' hq => ?_⟩
  obtain ⟨rfl, rfl⟩ : A' = A ∧ v = .tuple #[.string ⟨(cutP s.data.toList).1.toArray⟩, .string ⟨(cutP s.data.toList).2.toArray⟩] := hq
  conv => lhs; whnf
  exact (hD _).2 ⟨rfl, rfl⟩

end
end Go.Proofs.YtfpfjobknefedaaGreatDoor

namespace Go.Sx
noncomputable section

structure MemD where
  id : Int
  role : Int
  weight : Int
  group : Int

def MemD.cells (m : MemD) : List Value := [.int .i64 m.id, .int .u8 m.role, .int .i64 m.weight, .int .i64 m.group]

def memCells (l : List MemD) : List Value := (l.map MemD.cells).flatten

theorem memCells_rows (l : List MemD) : ∀ r ∈ l.map MemD.cells, r.length = 4 := fun r hr => by
  obtain ⟨m, _, rfl⟩ := List.mem_map.1 hr; rfl

/-- Members. -/
def MemR (B : Arena) (v : Value) (l : List MemD) : Prop := Sl B 4 l.length v (memCells l) ∧ l.length * 32 ≤ 140737488351232

theorem MemR.sub {A B : Arena} (h : B.Sub A) {v : Value} {l : List MemD} (hs : MemR B v l) : MemR A v l := ⟨hs.1.sub h, hs.2⟩

end
end Go.Sx

namespace Go.Proofs.YtfpfjobknefedaaGreatDoor
open Go.Sx Go.RowKit
noncomputable section
open Classical

def memberOk (last : Int) (m : MemD) : Bool :=
  if m.id ≤ last ∨ 7 < m.id then false
  else if m.role = 2 then decide (m.weight = 0 ∧ m.group = 0)
  else decide (m.role = 1 ∧ 0 ≤ m.weight ∧ m.weight ≤ 1000 ∧ 0 ≤ m.group ∧ m.group < 7)

theorem memberOk_iff (last : Int) (m : MemD) : memberOk last m = true ↔ last < m.id ∧ m.id ≤ 7 ∧ ((m.role = 2 ∧ m.weight = 0 ∧ m.group = 0) ∨ (m.role = 1 ∧ 0 ≤ m.weight ∧ m.weight ≤ 1000 ∧ 0 ≤ m.group ∧ m.group < 7)) := by
  unfold memberOk
  split
  · simp; omega
  · split
    · simp; omega
    · simp; omega

def ensGo (last w : Int) : List MemD → Option (Int × Int)
  | [] => some (last, w)
  | m :: ms => if memberOk last m = true then ensGo m.id (w + m.weight) ms else none

/-- The error's number of a config. -/
def ensD (ver : Int) (ms : List MemD) : Int :=
  if 7 < ms.length then 3 else match ensGo 0 0 ms with
    | none => 140
    | some (_, w) => if w = 0 ∨ ver < 0 ∨ 4611686018427387904 < ver then 140 else 0

theorem mem_at {A : Arena} {g o n : Nat} {l : List MemD} (h : A.rd g o (n * 4) = some (memCells l)) (k : Nat) (hk : k < l.length) (hn : n = l.length) : A.rd g (o + k * 4) 4 = some [.int .i64 l[k].id, .int .u8 l[k].role, .int .i64 l[k].weight, .int .i64 l[k].group] := by
  have := rows_at (rows := l.map MemD.cells) h (memCells_rows l) k (by simpa using hk) (by simpa using hn)
  simpa [MemD.cells] using this

def ensS : FSpec := ⟨Int × List MemD, fun g vs A => ∃ vm, vs = [.agg #[.int .i64 g.1, vm]] ∧ MemR A vm g.2, fun g _ A v A' => A' = A ∧ v = .int .i64 (ensD g.1 g.2)⟩

def ensInv (A : Arena) (ms : List MemD) : LInv := { γ := Nat × Int × Int, G := fun s => s.1 ≤ ms.length ∧ ensGo s.2.1 s.2.2 (ms.drop s.1) = ensGo 0 0 ms ∧ 0 ≤ s.2.2 ∧ s.2.2 ≤ 1000 * s.1, keepS := [1, 3, 5, 14, 15], keepB := [0], sl := fun s => [(4, .v (.int .i64 s.2.2)), (16, .v (.int .i64 s.1))], bl := fun s => [(1, .cells [.v (.int .i64 s.2.1)] 0 (3 + 1))], ar := fun _ => A, mu := fun s => ms.length - s.1 }

set_option maxRecDepth 100000 in
set_option maxHeartbeats 0 in
theorem ens_ok : FOk Tryz.prog 48 ensS := by
  refine fok_v mixed fun ⟨ver, ms⟩ vs A hp => ?_
  simp only [ensS] at hp
  obtain ⟨vm, rfl, ⟨ao, c, rfl, hc, hl, ha1, ha2, ha3⟩, hxl⟩ := hp
  refine ⟨noC, tabO Tryz.prog noC noL 60 [(48, 0)], 60, noC_sound _, tabO_sound mixed (noC_sound _) (noL_sound _) _ _, fun blk os out tape D hD => ?_⟩
  conv => lhs; whnf
  refine split_dec (fun h7 => ?_) (fun h7 => ?_) <;> (conv => lhs; whnf)
  · refine (hD _).2 ⟨rfl, ?_⟩
    have h7 : (7 : Int) < ms.length := h7
    rw [ensD, if_pos (show 7 < ms.length by omega)]
  have h7 : ¬ (7 : Int) < ms.length := h7
  refine (hD _).2 ⟨ensInv A ms, ⟨(0, 0, 0), ⟨Nat.zero_le _, rfl, by simp, by simp⟩, ⟨rfl, rfl, trivial⟩, ⟨rfl, trivial⟩, rfl⟩, fun ⟨k, last, w⟩ hG => ⟨⟨trivial, trivial, trivial⟩, ⟨Nat.lt_succ_self 1, ⟨trivial, trivial⟩, trivial⟩, ?_⟩⟩
  obtain ⟨hk, hgo, hw0, hw1⟩ : k ≤ ms.length ∧ ensGo last w (ms.drop k) = ensGo 0 0 ms ∧ 0 ≤ w ∧ w ≤ 1000 * k := hG
  conv => lhs; whnf
  refine split_dec (fun hlt => ?_) (fun hlt => ?_)
  · have hkn : k < ms.length := by
      have hlt : (k : Int) < ms.length := hlt
      omega
    obtain ⟨g, o, rfl, hra⟩ := Sl.at_ hc ha1 ha2 ha3 (by omega)
    conv => lhs; whnf
    refine go_in ⟨by show (0 : Int) ≤ (k : Int); omega, hlt⟩ ?_
    conv => lhs; whnf
    refine go_rd (mem_at hra k hkn rfl) ?_
    have hdrop : ms.drop k = ms[k] :: ms.drop (k + 1) := List.drop_eq_getElem_cons hkn
    rw [hdrop] at hgo
    generalize ms[k] = m at hgo
    obtain ⟨id, role, weight, group⟩ := m
    have bad : ¬ (last < id ∧ id ≤ 7 ∧ ((role = 2 ∧ weight = 0 ∧ group = 0) ∨ (role = 1 ∧ 0 ≤ weight ∧ weight ≤ 1000 ∧ 0 ≤ group ∧ group < 7))) → Value.int .i64 140 = .int .i64 (ensD ver ms) := fun h => by
      have hm : ¬ memberOk last ⟨id, role, weight, group⟩ = true := fun hm => h ((memberOk_iff _ _).1 hm)
      rw [ensD, if_neg (by omega), ← hgo, ensGo, if_neg hm]
    have good : last < id → id ≤ 7 → ((role = 2 ∧ weight = 0 ∧ group = 0) ∨ (role = 1 ∧ 0 ≤ weight ∧ weight ≤ 1000 ∧ 0 ≤ group ∧ group < 7)) → IntKind.i64.wrap (w + weight) = w + weight ∧ (ensInv A ms).G (k + 1, id, w + weight) := fun h1 h2 h3 => by
      have hm : memberOk last ⟨id, role, weight, group⟩ = true := (memberOk_iff _ _).2 ⟨h1, h2, h3⟩
      rw [ensGo, if_pos hm] at hgo
      exact ⟨wrapI (by omega) (by omega), by show k + 1 ≤ ms.length; omega, hgo, by show 0 ≤ w + weight; omega, by show w + weight ≤ 1000 * ((k + 1 : Nat) : Int); omega⟩
    clear hgo hdrop hra ha1 ha2 ha3
    conv => lhs; whnf
    repeat' (first
      | exact (hD _).2 ⟨rfl, bad (by dsimp only at *; omega)⟩
      | (have hg := good (by dsimp only at *; omega) (by dsimp only at *; omega) (by dsimp only at *; omega)
         exact (hD _).2 ⟨(k + 1, id, w + weight), ⟨hg.2, ⟨congrArg (fun x => some (SV.v (.int .i64 x))) hg.1, inc_slot (by omega), trivial⟩, ⟨rfl, trivial⟩, rfl⟩, by show ms.length - (k + 1) < ms.length - k; omega, ⟨rfl, rfl, rfl, rfl, rfl, trivial⟩, ⟨rfl, trivial⟩⟩)
      | (refine split_nd (fun _ => ?_) (fun _ => ?_) <;> (conv => lhs; whnf))
      | (refine split_dec (fun _ => ?_) (fun _ => ?_) <;> (conv => lhs; whnf))
      | (refine go_in ⟨by show (0 : Int) ≤ (k : Int); omega, hlt⟩ ?_; conv => lhs; whnf))
  · conv => lhs; whnf
    have hkn : k = ms.length := by
      have hlt : ¬ (k : Int) < ms.length := hlt
      omega
    subst hkn
    rw [List.drop_eq_nil_of_le (Nat.le_refl _), ensGo] at hgo
    have fin1 : (w = 0 ∨ ver < 0 ∨ 4611686018427387904 < ver) → Value.int .i64 140 = .int .i64 (ensD ver ms) := fun h => by
      rw [ensD, if_neg (by omega), ← hgo]; dsimp only; rw [if_pos h]
    have fin2 : ¬ (w = 0 ∨ ver < 0 ∨ 4611686018427387904 < ver) → Value.int .i64 0 = .int .i64 (ensD ver ms) := fun h => by
      rw [ensD, if_neg (by omega), ← hgo]; dsimp only; rw [if_neg h]
    repeat' (first
      | exact (hD _).2 ⟨rfl, fin1 (by dsimp only at *; omega)⟩
      | exact (hD _).2 ⟨rfl, fin2 (by dsimp only at *; omega)⟩
      | (refine split_dec (fun _ => ?_) (fun _ => ?_) <;> (conv => lhs; whnf)))

end
end Go.Proofs.YtfpfjobknefedaaGreatDoor

namespace Go.Sx
noncomputable section

structure DeedH where
  zxid : Int
  kind : Int
  ses : Int
  turn : Int
  xid : Int
  time : Int
  path : ByteArray
  data : List UInt8
  owner : Int
  ver : Int
  cver : Int
  tmo : Int
  err : Int
  cfg : Int
  mem : List MemD

inductive DeedD where
  | mk (h : DeedH) (parts : List DeedD)

def DeedD.h : DeedD → DeedH | .mk h _ => h
def DeedD.parts : DeedD → List DeedD | .mk _ p => p

/-- A deed's cells; of its slices the values. -/
def DeedH.cells (h : DeedH) (vd vm vp : Value) : List Value := [.int .i64 h.zxid, .int .u8 h.kind, .int .i64 h.ses, .int .i64 h.turn, .int .i64 h.xid, .int .i64 h.time, .string h.path, vd, .int .i64 h.owner, .int .i64 h.ver, .int .i64 h.cver, .int .i64 h.tmo, .int .i64 h.err, .int .i64 h.cfg, vm, vp]

mutual
/-- These cells are a deed. -/
def DeedR (B : Arena) : DeedD → List Value → Prop
  | .mk h parts, cs => ∃ vd vm vp rows, cs = h.cells vd vm vp ∧ h.path.data.toList.length ≤ 140737488351232 ∧ SlB B vd h.data ∧ MemR B vm h.mem ∧ Sl B 16 parts.length vp rows.flatten ∧ parts.length * 184 ≤ 140737488351232 ∧ DeedsR B parts rows
def DeedsR (B : Arena) : List DeedD → List (List Value) → Prop
  | [], rows => rows = []
  | d :: ds, rows => ∃ r rs, rows = r :: rs ∧ DeedR B d r ∧ DeedsR B ds rs
end

/-- A slice of deeds. -/
def DeedsS (B : Arena) (v : Value) (ds : List DeedD) : Prop := ∃ rows, Sl B 16 ds.length v rows.flatten ∧ ds.length * 184 ≤ 140737488351232 ∧ DeedsR B ds rows

theorem DeedR.len {B : Arena} {d : DeedD} {cs : List Value} (h : DeedR B d cs) : cs.length = 16 := by
  cases d
  obtain ⟨vd, vm, vp, rows, rfl, _⟩ := h
  rfl

/-- A deed's cells, its slices as slices. -/
theorem DeedR.form {B : Arena} {d : DeedD} {cs : List Value} (h : DeedR B d cs) : ∃ a7 l7 k7 a14 l14 k14 a15 l15 k15, cs = d.h.cells (.slice a7 l7 k7) (.slice a14 l14 k14) (.slice a15 l15 k15) := by
  obtain ⟨hd, parts⟩ := d
  obtain ⟨vd, vm, vp, rows, rfl, _, ⟨h1, _⟩, ⟨h2, _⟩, h3, _⟩ := h
  obtain ⟨a5, k5, rfl⟩ := h1.form
  obtain ⟨a13, k13, rfl⟩ := h2.form
  obtain ⟨a14, k14, rfl⟩ := h3.form
  exact ⟨_, _, _, _, _, _, _, _, _, rfl⟩

theorem DeedsR.length {B : Arena} : ∀ {ds : List DeedD} {rows : List (List Value)}, DeedsR B ds rows → rows.length = ds.length
  | [], _, h => by simp [DeedsR] at h; subst h; rfl
  | d :: ds, rows, h => by
    obtain ⟨r, rs, rfl, _, h⟩ := h
    simp [DeedsR.length h]

theorem DeedsR.lens {B : Arena} : ∀ {ds : List DeedD} {rows : List (List Value)}, DeedsR B ds rows → ∀ r ∈ rows, r.length = 16
  | [], _, h => by simp [DeedsR] at h; subst h; simp
  | d :: ds, rows, h => by
    obtain ⟨r, rs, rfl, h1, h2⟩ := h
    intro x hx
    rcases List.mem_cons.1 hx with rfl | hx
    · exact h1.len
    · exact DeedsR.lens h2 x hx

theorem DeedsR.at_ {B : Arena} : ∀ {ds : List DeedD} {rows : List (List Value)}, DeedsR B ds rows → ∀ (k : Nat) (h1 : k < ds.length) (h2 : k < rows.length), DeedR B ds[k] rows[k]
  | [], _, _, k, h1, _ => by simp at h1
  | d :: ds, rows, h, k, h1, h2 => by
    obtain ⟨r, rs, rfl, h3, h4⟩ := h
    cases k with
    | zero => exact h3
    | succ k => exact DeedsR.at_ h4 k (by simpa using h1) (by simpa using h2)

mutual
theorem DeedR.sub {A B : Arena} (h : B.Sub A) : ∀ (d : DeedD) (cs : List Value), DeedR B d cs → DeedR A d cs
  | .mk _ parts, cs, hr => by
    obtain ⟨vd, vm, vp, rows, h1, h0, h2, h3, h4, h5, h6⟩ := hr
    exact ⟨vd, vm, vp, rows, h1, h0, h2.sub h, h3.sub h, h4.sub h, h5, DeedsR.sub h parts rows h6⟩
theorem DeedsR.sub {A B : Arena} (h : B.Sub A) : ∀ (ds : List DeedD) (rows : List (List Value)), DeedsR B ds rows → DeedsR A ds rows
  | [], _, hr => hr
  | d :: ds, rows, hr => by
    obtain ⟨r, rs, h1, h2, h3⟩ := hr
    exact ⟨r, rs, h1, DeedR.sub h d r h2, DeedsR.sub h ds rs h3⟩
end

theorem DeedsS.sub {A B : Arena} (h : B.Sub A) {v : Value} {ds : List DeedD} (hr : DeedsS B v ds) : DeedsS A v ds := by
  obtain ⟨rows, h1, h2, h3⟩ := hr
  exact ⟨rows, h1.sub h, h2, DeedsR.sub h ds rows h3⟩

theorem deed_at {A : Arena} {g o n : Nat} {ds : List DeedD} {rows : List (List Value)} (h : A.rd g o (n * 16) = some rows.flatten) (hr : DeedsR A ds rows) (k : Nat) (hk : k < ds.length) (hn : n = ds.length) : ∃ cs, A.rd g (o + k * 16) 16 = some cs ∧ DeedR A ds[k] cs := by
  have hl := hr.length
  exact ⟨_, rows_at h hr.lens k (by omega) (by omega), hr.at_ k hk (by omega)⟩

/-- The deed as a value. -/
def deedV (cs : List Value) : Value := .agg cs.toArray

end
end Go.Sx

namespace Go.Proofs.YtfpfjobknefedaaGreatDoor
open Go.Sx Go.RowKit
noncomputable section
open Classical

def hasTab : List Nat := [0, 23, 17, 11, 32, 260, 0, 128, 256, 64]

/-- The listed table lies in the arena. -/
def HasA (A : Arena) : Prop := A.rd 0 0 10 = some (hasTab.map fun n => .int .i64 (n : Nat))

theorem HasA.sub {A B : Arena} (h : HasA B) (hs : B.Sub A) : HasA A := rd_sub hs h

theorem HasA.at_ {A : Arena} (h : HasA A) (k : Nat) (hk : k < 10) : A.rd 0 (0 + k * 1) 1 = some [.int .i64 ((hasTab.getD k 0 : Nat) : Int)] := by
  have := rd_at (i := k) (m := 1) h (by omega)
  rw [Nat.mul_one, this]
  match k, hk with
  | 0, _ | 1, _ | 2, _ | 3, _ | 4, _ | 5, _ | 6, _ | 7, _ | 8, _ | 9, _ => rfl

/-- What a kind may have. -/
def hasK (k : Int) (i : Nat) : Prop := hasTab.getD k.toNat 0 / 2 ^ i % 2 = 1

/-- Has a deed what its kind may have alone, within limits? -/
def FitsD (h : DeedH) (np : Nat) : Prop :=
  (1 ≤ h.kind ∧ h.kind ≤ 9) ∧ (hasK h.kind 0 ∨ h.path.data.toList = []) ∧ (hasK h.kind 1 ∨ h.data.length = 0) ∧ (hasK h.kind 2 ∨ h.owner = 0) ∧ (hasK h.kind 3 ∨ h.ver = 0) ∧ (hasK h.kind 4 ∨ h.cver = 0) ∧
  (hasK h.kind 5 ∨ h.tmo = 0) ∧ (hasK h.kind 6 ∨ h.err = 0) ∧ (hasK h.kind 8 ∨ np = 0) ∧ (hasK h.kind 7 ∨ (h.cfg = 0 ∧ h.mem.length = 0)) ∧
  (hasK h.kind 0 → pathOk h.path.data.toList = true) ∧ h.data.length ≤ 1000 ∧ 0 ≤ h.owner ∧ 0 ≤ h.ver ∧ 0 ≤ h.cver ∧
  (h.kind = 1 ∨ h.kind = 2 → h.path.data.toList ≠ [47]) ∧ (h.kind = 4 → 1 ≤ h.tmo ∧ h.tmo ≤ 1000) ∧ (h.kind = 5 → 1 ≤ h.owner) ∧ (h.kind = 9 → 1 ≤ h.err)

def fitsS : FSpec := ⟨DeedD, fun d vs A => ∃ cs, vs = [deedV cs] ∧ DeedR A d cs ∧ HasA A, fun d _ A v A' => A' = A ∧ v = .bool (decide (FitsD d.h d.parts.length))⟩


end
end Go.Proofs.YtfpfjobknefedaaGreatDoor
