/-
  Calls as plain data: members, calls; what it means that cells of an arena read as one.
-/
import Derived.Test.YtompigcfojbpkaaSxZ
namespace Go.Sx
noncomputable section

structure MemD where
  id : Int
  role : Int
  weight : Int
  group : Int

def MemD.cells (m : MemD) : List Value := [.int .i64 m.id, .int .u8 m.role, .int .i64 m.weight, .int .i64 m.group]

inductive AskD where
  | mk (kind xid ses turn : Int) (path : ByteArray) (data : List UInt8) (flags ver : Int) (watch : Bool) (sort last tmo frm : Int) (mem : List MemD) (parts : List AskD)

def memCells (l : List MemD) : List Value := (l.map MemD.cells).flatten

theorem memCells_rows (l : List MemD) : ∀ r ∈ l.map MemD.cells, r.length = 4 := fun r hr => by
  obtain ⟨m, _, rfl⟩ := List.mem_map.1 hr; rfl

/-- Members. -/
def MemR (B : Arena) (v : Value) (l : List MemD) : Prop := Sl B 4 l.length v (memCells l) ∧ l.length * 32 ≤ 140737488351232

theorem MemR.sub {A B : Arena} (h : B.Sub A) {v : Value} {l : List MemD} (hs : MemR B v l) : MemR A v l := ⟨hs.1.sub h, hs.2⟩

mutual
/-- These cells are a call. -/
def AskR (B : Arena) : AskD → List Value → Prop
  | .mk kind xid ses turn path data flags ver watch sort last tmo frm mem parts, cs => ∃ vd vm vp rows,
      cs = [.int .u8 kind, .int .i64 xid, .int .i64 ses, .int .i64 turn, .string path, vd, .int .i64 flags, .int .i64 ver, .bool watch, .int .u8 sort, .int .i64 last, .int .i64 tmo, .int .i64 frm, vm, vp] ∧
      SlB B vd data ∧ MemR B vm mem ∧ Sl B 15 parts.length vp rows.flatten ∧ parts.length * 168 ≤ 140737488351232 ∧ AsksR B parts rows
def AsksR (B : Arena) : List AskD → List (List Value) → Prop
  | [], rows => rows = []
  | d :: ds, rows => ∃ r rs, rows = r :: rs ∧ AskR B d r ∧ AsksR B ds rs
end

/-- A slice of calls. -/
def AsksS (B : Arena) (v : Value) (ds : List AskD) : Prop := ∃ rows, Sl B 15 ds.length v rows.flatten ∧ ds.length * 168 ≤ 140737488351232 ∧ AsksR B ds rows

theorem AskR.len {B : Arena} {d : AskD} {cs : List Value} (h : AskR B d cs) : cs.length = 15 := by
  cases d
  obtain ⟨vd, vm, vp, rows, rfl, _⟩ := h
  rfl

/-- The shapes of a call's cells. -/
theorem AskR.form {B : Arena} {d : AskD} {cs : List Value} (h : AskR B d cs) : ∃ (c0 c1 c2 c3 : Int) (c4 : ByteArray) (a5 : Option Addr) (l5 k5 : Nat) (c6 c7 : Int) (c8 : Bool) (c9 c10 c11 c12 : Int) (a13 : Option Addr) (l13 k13 : Nat) (a14 : Option Addr) (l14 k14 : Nat),
    cs = [.int .u8 c0, .int .i64 c1, .int .i64 c2, .int .i64 c3, .string c4, .slice a5 l5 k5, .int .i64 c6, .int .i64 c7, .bool c8, .int .u8 c9, .int .i64 c10, .int .i64 c11, .int .i64 c12, .slice a13 l13 k13, .slice a14 l14 k14] := by
  cases d
  obtain ⟨vd, vm, vp, rows, rfl, ⟨h1, _⟩, ⟨h2, _⟩, h3, _⟩ := h
  obtain ⟨a5, k5, rfl⟩ := h1.form
  obtain ⟨a13, k13, rfl⟩ := h2.form
  obtain ⟨a14, k14, rfl⟩ := h3.form
  exact ⟨_, _, _, _, _, _, _, _, _, _, _, _, _, _, _, _, _, _, _, _, _, rfl⟩

theorem AsksR.length {B : Arena} : ∀ {ds : List AskD} {rows : List (List Value)}, AsksR B ds rows → rows.length = ds.length
  | [], _, h => by simp [AsksR] at h; subst h; rfl
  | d :: ds, rows, h => by
    obtain ⟨r, rs, rfl, _, h⟩ := h
    simp [AsksR.length h]

theorem AsksR.lens {B : Arena} : ∀ {ds : List AskD} {rows : List (List Value)}, AsksR B ds rows → ∀ r ∈ rows, r.length = 15
  | [], _, h => by simp [AsksR] at h; subst h; simp
  | d :: ds, rows, h => by
    obtain ⟨r, rs, rfl, h1, h2⟩ := h
    intro x hx
    rcases List.mem_cons.1 hx with rfl | hx
    · exact h1.len
    · exact AsksR.lens h2 x hx

theorem AsksR.at_ {B : Arena} : ∀ {ds : List AskD} {rows : List (List Value)}, AsksR B ds rows → ∀ (k : Nat) (h1 : k < ds.length) (h2 : k < rows.length), AskR B ds[k] rows[k]
  | [], _, _, k, h1, _ => by simp at h1
  | d :: ds, rows, h, k, h1, h2 => by
    obtain ⟨r, rs, rfl, h3, h4⟩ := h
    cases k with
    | zero => exact h3
    | succ k => exact AsksR.at_ h4 k (by simpa using h1) (by simpa using h2)

mutual
theorem AskR.sub {A B : Arena} (h : B.Sub A) : ∀ (d : AskD) (cs : List Value), AskR B d cs → AskR A d cs
  | .mk _ _ _ _ _ _ _ _ _ _ _ _ _ _ parts, cs, hr => by
    obtain ⟨vd, vm, vp, rows, h1, h2, h3, h4, h5, h6⟩ := hr
    exact ⟨vd, vm, vp, rows, h1, h2.sub h, h3.sub h, h4.sub h, h5, AsksR.sub h parts rows h6⟩
theorem AsksR.sub {A B : Arena} (h : B.Sub A) : ∀ (ds : List AskD) (rows : List (List Value)), AsksR B ds rows → AsksR A ds rows
  | [], _, hr => hr
  | d :: ds, rows, hr => by
    obtain ⟨r, rs, h1, h2, h3⟩ := hr
    exact ⟨r, rs, h1, AskR.sub h d r h2, AsksR.sub h ds rs h3⟩
end

theorem AsksS.sub {A B : Arena} (h : B.Sub A) {v : Value} {ds : List AskD} (hr : AsksS B v ds) : AsksS A v ds := by
  obtain ⟨rows, h1, h2, h3⟩ := hr
  exact ⟨rows, h1.sub h, h2, AsksR.sub h ds rows h3⟩

mutual
def AskD.sz : AskD → Nat
  | .mk _ _ _ _ _ _ _ _ _ _ _ _ _ _ parts => AskD.szs parts + 1
def AskD.szs : List AskD → Nat
  | [] => 0
  | d :: ds => d.sz + AskD.szs ds
end

theorem sz_at : ∀ {ds : List AskD} {k : Nat} (h : k < ds.length), ds[k].sz ≤ AskD.szs ds
  | d :: ds, 0, _ => by simp [AskD.szs]
  | d :: ds, k + 1, h => by
    have := sz_at (ds := ds) (k := k) (by simpa using h)
    simp only [List.getElem_cons_succ, AskD.szs]; omega

/-- The call as a value. -/
def askV (cs : List Value) : Value := .agg cs.toArray

end
end Go.Sx
