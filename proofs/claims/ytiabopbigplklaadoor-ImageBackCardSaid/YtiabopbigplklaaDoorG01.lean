/-
  A small library of my own: a symbolic executor for the model's code, whose answer is a proposition that the kernel reckons. This text: tries, symbolic values, the relation between a symbolic heap and a world.
  The symbolic executor: operations that only reckon with what the slots hold.
  The symbolic executor: all operations that look at the slots alone.
  The symbolic executor: the other operations that look at the slots alone.
-/
import Derived.Calls
import Derived.Laws.Sem
import Derived.Below
import Derived.Laws.Entries
import Derived.Laws.Strings
import Derived.LaidEql
import Derived.Laws.StructEq
import Derived.Laws.Slices
import Derived.Lib.IndexBytes
namespace Go.Sx
noncomputable section
variable {dfs : List Deferred}

/-! ### Tries, keyed by natural numbers -/

inductive T (α : Type) where
  | e
  | n (l : T α) (v : Option α) (r : T α)

namespace T
variable {α : Type}

theorem rec_cond {β : Type} (b : Bool) (x y : β) : Bool.rec (motive := fun _ => β) y x b = cond b x y := by cases b <;> rfl

/-- What is kept at i. -/
def get (t : T α) : Nat → Option α :=
  T.rec (motive := fun _ => Nat → Option α) (fun _ => none) (fun _ v _ gl gr i => Nat.rec (motive := fun _ => Option α) v (fun j _ => Bool.rec (motive := fun _ => Option α) (gr (Nat.div j 2)) (gl (Nat.div j 2)) (Nat.beq (Nat.mod j 2) 0)) i) t

def setF (f : Nat) : T α → Nat → Option α → T α :=
  Nat.rec (motive := fun _ => T α → Nat → Option α → T α) (fun _ _ _ => .e)
    (fun _ ih t i x => T.rec (motive := fun _ => T α)
      (Nat.rec (motive := fun _ => T α) (.n .e x .e) (fun j _ => Bool.rec (motive := fun _ => T α) (.n .e none (ih .e (Nat.div j 2) x)) (.n (ih .e (Nat.div j 2) x) none .e) (Nat.beq (Nat.mod j 2) 0)) i)
      (fun l v r _ _ => Nat.rec (motive := fun _ => T α) (.n l x r) (fun j _ => Bool.rec (motive := fun _ => T α) (.n l v (ih r (Nat.div j 2) x)) (.n (ih l (Nat.div j 2) x) v r) (Nat.beq (Nat.mod j 2) 0)) i) t) f

theorem get_n0 (l : T α) (v : Option α) (r : T α) : (T.n l v r).get 0 = v := rfl
theorem get_nS (l : T α) (v : Option α) (r : T α) (j : Nat) : (T.n l v r).get (j + 1) = bif Nat.beq (j % 2) 0 then l.get (j / 2) else r.get (j / 2) := rec_cond _ _ _
theorem setF_0 (t : T α) (i : Nat) (x : Option α) : setF 0 t i x = .e := rfl
theorem setF_e0 (f : Nat) (x : Option α) : setF (f + 1) (.e : T α) 0 x = .n .e x .e := rfl
theorem setF_eS (f j : Nat) (x : Option α) : setF (f + 1) (.e : T α) (j + 1) x = bif Nat.beq (j % 2) 0 then .n (setF f .e (j / 2) x) none .e else .n .e none (setF f .e (j / 2) x) := rec_cond _ _ _
theorem setF_n0 (f : Nat) (l : T α) (v : Option α) (r : T α) (x : Option α) : setF (f + 1) (.n l v r) 0 x = .n l x r := rfl
theorem setF_nS (f : Nat) (l : T α) (v : Option α) (r : T α) (j : Nat) (x : Option α) : setF (f + 1) (.n l v r) (j + 1) x = bif Nat.beq (j % 2) 0 then .n (setF f l (j / 2) x) v r else .n l v (setF f r (j / 2) x) := rec_cond _ _ _

def set (t : T α) (i : Nat) (x : α) : T α := setF 32 t i (some x)
def del (t : T α) (i : Nat) : T α := setF 32 t i none

theorem get_e (i : Nat) : (T.e : T α).get i = none := rfl

theorem half_eq {b : Bool} {j m : Nat} (hb : Nat.beq (j % 2) 0 = b) (hm : Nat.beq (m % 2) 0 = b) (h : m / 2 = j / 2) : m = j := by
  cases b
  · have h1 : j % 2 ≠ 0 := fun e => by rw [e] at hb; cases hb
    have h2 : m % 2 ≠ 0 := fun e => by rw [e] at hm; cases hm
    omega
  · have h1 := Nat.eq_of_beq_eq_true hb
    have h2 := Nat.eq_of_beq_eq_true hm
    omega

/-- What is read behind a setting is what was set there, or what stood elsewhere. -/
theorem get_setF : ∀ (f : Nat) (t : T α) (i k : Nat) (x : Option α) (y : α), (setF f t i x).get k = some y → (k = i ∧ x = some y) ∨ (k ≠ i ∧ t.get k = some y) := by
  intro f
  induction f with
  | zero => intro t i k x y h; rw [setF_0, get_e] at h; cases h
  | succ f ih =>
    intro t i k x y h
    cases t with
    | e =>
      cases i with
      | zero =>
        cases k with
        | zero => exact .inl ⟨rfl, h⟩
        | succ m => simp only [setF_e0, get_nS, get_e] at h; cases hb : Nat.beq (m % 2) 0 <;> simp [hb] at h
      | succ j =>
        simp only [setF_eS] at h
        cases hb : Nat.beq (j % 2) 0 <;> rw [hb] at h <;> simp only [cond_true, cond_false] at h <;> cases k with
        | zero => simp [get_n0] at h
        | succ m =>
          simp only [get_nS] at h
          cases hm : Nat.beq (m % 2) 0 <;> rw [hm] at h <;> simp only [cond_true, cond_false] at h
          all_goals first
            | (cases h; done)
            | (rw [get_e] at h; cases h; done)
            | (rcases ih _ _ _ _ _ h with ⟨h1, h2⟩ | ⟨h1, h2⟩
               · exact .inl ⟨by rw [half_eq hb hm h1], h2⟩
               · rw [get_e] at h2; cases h2)
    | n l v r =>
      cases i with
      | zero =>
        cases k with
        | zero => exact .inl ⟨rfl, h⟩
        | succ m => exact .inr ⟨by omega, h⟩
      | succ j =>
        simp only [setF_nS] at h
        cases hb : Nat.beq (j % 2) 0 <;> rw [hb] at h <;> simp only [cond_true, cond_false] at h <;> cases k with
        | zero => exact .inr ⟨by omega, h⟩
        | succ m =>
          simp only [get_nS] at h ⊢
          cases hm : Nat.beq (m % 2) 0 <;> rw [hm] at h <;> simp only [cond_true, cond_false] at h ⊢
          all_goals first
            | (rcases ih _ _ _ _ _ h with ⟨h1, h2⟩ | ⟨h1, h2⟩
               · exact .inl ⟨by rw [half_eq hb hm h1], h2⟩
               · exact .inr ⟨fun e => h1 (by omega), h2⟩)
            | exact .inr ⟨fun e => (by
                have e' : m = j := by omega
                subst e'; rw [hb] at hm; cases hm), h⟩

theorem get_set {t : T α} {i k : Nat} {x y : α} (h : (t.set i x).get k = some y) : (k = i ∧ x = y) ∨ (k ≠ i ∧ t.get k = some y) := by
  rcases get_setF _ _ _ _ _ _ h with ⟨h1, h2⟩ | h
  · exact .inl ⟨h1, by injection h2⟩
  · exact .inr h

theorem get_del {t : T α} {i k : Nat} {y : α} (h : (t.del i).get k = some y) : k ≠ i ∧ t.get k = some y := by
  rcases get_setF _ _ _ _ _ _ h with ⟨h1, h2⟩ | h
  · cases h2
  · exact h

def ofListF : Nat → List α → T α → T α
  | _, [], t => t
  | i, x :: xs, t => ofListF (i + 1) xs (t.set i x)

theorem get_ofListF : ∀ (l : List α) (i : Nat) (t : T α) (k : Nat) (y : α), (ofListF i l t).get k = some y → (i ≤ k ∧ l[k - i]? = some y) ∨ t.get k = some y := by
  intro l
  induction l with
  | nil => intro i t k y h; exact .inr h
  | cons x xs ih =>
    intro i t k y h
    rcases ih _ _ _ _ h with ⟨h1, h2⟩ | h
    · refine .inl ⟨by omega, ?_⟩
      rw [show k - i = (k - (i + 1)) + 1 by omega]
      exact h2
    · rcases get_set h with ⟨rfl, rfl⟩ | ⟨_, h⟩
      · exact .inl ⟨Nat.le_refl _, by simp⟩
      · exact .inr h

def ofList (l : List α) : T α := ofListF 0 l .e

theorem get_ofList {l : List α} {k : Nat} {y : α} (h : (ofList l).get k = some y) : l[k]? = some y := by
  rcases get_ofListF _ _ _ _ _ h with ⟨_, h⟩ | h
  · exact h
  · rw [get_e] at h; cases h

end T

/-! ### Symbolic values -/

/-- Where an id's window lies: the block, the first cell, the capacity (of a slice that an append has made). -/
structure Loc where
  blk : Nat
  off : Nat
  cap : Nat

inductive SCap where
  | lit (c : Nat)
  | sub (b d : Nat)      -- the window's capacity less d

inductive SV where
  | v (x : Value)
  | str (l : List UInt8)
  | ptr (b o : Nat)
  | slc (b o l : Nat) (c : SCap)
  | mp (b : Nat)
  | agg (cs : List SV)
  | tup (vs : List SV)
  | ifc (t : TypeId) (x : SV)
  | fn (f : FuncId) (caps : List SV)

instance : Inhabited SV := ⟨.v (.bool false)⟩

def SCap.den (ρ : Nat → Loc) : SCap → Nat
  | .lit c => c
  | .sub b d => (ρ b).cap - d

def SCap.lt (n : Nat) : SCap → Prop
  | .lit _ => True
  | .sub b _ => b < n

mutual
def SV.den (ρ : Nat → Loc) : SV → Value
  | .v x => x
  | .str l => .string ⟨l.toArray⟩
  | .ptr b o => .pointer (some ⟨(ρ b).blk, (ρ b).off + o, none⟩)
  | .slc b o l c => .slice (some ⟨(ρ b).blk, (ρ b).off + o, none⟩) l (c.den ρ)
  | .mp b => .map (some (ρ b).blk)
  | .agg cs => .agg (SV.dens ρ cs).toArray
  | .tup cs => .tuple (SV.dens ρ cs).toArray
  | .ifc t x => .iface t (x.den ρ)
  | .fn f cs => .func (.func f) #[] (SV.dens ρ cs).toArray
def SV.dens (ρ : Nat → Loc) : List SV → List Value
  | [] => []
  | x :: xs => x.den ρ :: SV.dens ρ xs
end

mutual
/-- All ids in it are below n. -/
def SV.lt (ρ : Nat → Loc) (n : Nat) : SV → Prop
  | .v _ | .str _ => True
  | .ptr b _ => b < n
  | .slc b _ l c => b < n ∧ c.lt n ∧ l ≤ c.den ρ
  | .mp b => b < n
  | .agg cs => SV.lts ρ n cs
  | .tup cs => SV.lts ρ n cs
  | .ifc _ x => x.lt ρ n
  | .fn _ cs => SV.lts ρ n cs
def SV.lts (ρ : Nat → Loc) (n : Nat) : List SV → Prop
  | [] => True
  | x :: xs => x.lt ρ n ∧ SV.lts ρ n xs
end

theorem dens_eq (ρ : Nat → Loc) (l : List SV) : SV.dens ρ l = l.map (SV.den ρ) := by
  induction l with
  | nil => rfl
  | cons x xs ih => simp [SV.dens, ih]

theorem lts_iff {ρ : Nat → Loc} {n : Nat} {l : List SV} : SV.lts ρ n l ↔ ∀ x ∈ l, x.lt ρ n := by
  induction l with
  | nil => simp [SV.lts]
  | cons x xs ih => simp [SV.lts, ih]

def Ext (ρ ρ' : Nat → Loc) (n : Nat) : Prop := ∀ b, b < n → ρ' b = ρ b

theorem Ext.refl (ρ : Nat → Loc) (n : Nat) : Ext ρ ρ n := fun _ _ => rfl
theorem Ext.trans {ρ ρ' ρ'' : Nat → Loc} {n n' : Nat} (h : Ext ρ ρ' n) (h' : Ext ρ' ρ'' n') (hn : n ≤ n') : Ext ρ ρ'' n :=
  fun b hb => (h' b (Nat.lt_of_lt_of_le hb hn)).trans (h b hb)
theorem Ext.mono {ρ ρ' : Nat → Loc} {n n' : Nat} (h : Ext ρ ρ' n') (hn : n ≤ n') : Ext ρ ρ' n := fun b hb => h b (Nat.lt_of_lt_of_le hb hn)

theorem SCap.den_ext {ρ ρ' : Nat → Loc} {n : Nat} (h : Ext ρ ρ' n) {c : SCap} (hc : c.lt n) : c.den ρ' = c.den ρ := by
  cases c with
  | lit c => rfl
  | sub b d => simp [SCap.den, h b hc]

mutual
theorem SV.den_ext {ρ ρ' : Nat → Loc} {n : Nat} (h : Ext ρ ρ' n) : ∀ (x : SV), x.lt ρ n → x.den ρ' = x.den ρ
  | .v _, _ => rfl
  | .str _, _ => rfl
  | .ptr b o, hx => by simp only [SV.den, h b hx]
  | .slc b o l c, hx => by simp only [SV.den, h b hx.1, SCap.den_ext h hx.2.1]
  | .mp b, hx => by simp only [SV.den, h b hx]
  | .agg cs, hx => by simp only [SV.den, SV.dens_ext h cs hx]
  | .tup cs, hx => by simp only [SV.den, SV.dens_ext h cs hx]
  | .ifc t x, hx => by simp only [SV.den, SV.den_ext h x hx]
  | .fn f cs, hx => by simp only [SV.den, SV.dens_ext h cs hx]
theorem SV.dens_ext {ρ ρ' : Nat → Loc} {n : Nat} (h : Ext ρ ρ' n) : ∀ (l : List SV), SV.lts ρ n l → SV.dens ρ' l = SV.dens ρ l
  | [], _ => rfl
  | x :: xs, hx => by simp only [SV.dens, SV.den_ext h x hx.1, SV.dens_ext h xs hx.2]
end

theorem SCap.lt_mono {n n' : Nat} (h : n ≤ n') {c : SCap} (hc : c.lt n) : c.lt n' := by
  cases c with
  | lit c => trivial
  | sub b d => exact Nat.lt_of_lt_of_le hc h

mutual
theorem SV.lt_ext {ρ ρ' : Nat → Loc} {n n' : Nat} (hx : Ext ρ ρ' n) (h : n ≤ n') : ∀ (x : SV), x.lt ρ n → x.lt ρ' n'
  | .v _, _ => trivial
  | .str _, _ => trivial
  | .ptr _ _, k => Nat.lt_of_lt_of_le k h
  | .slc _ _ _ _, k => ⟨Nat.lt_of_lt_of_le k.1 h, SCap.lt_mono h k.2.1, by rw [SCap.den_ext hx k.2.1]; exact k.2.2⟩
  | .mp _, k => Nat.lt_of_lt_of_le k h
  | .agg cs, k => SV.lts_ext hx h cs k
  | .tup cs, k => SV.lts_ext hx h cs k
  | .ifc _ x, k => SV.lt_ext hx h x k
  | .fn _ cs, k => SV.lts_ext hx h cs k
theorem SV.lts_ext {ρ ρ' : Nat → Loc} {n n' : Nat} (hx : Ext ρ ρ' n) (h : n ≤ n') : ∀ (l : List SV), SV.lts ρ n l → SV.lts ρ' n' l
  | [], _ => trivial
  | x :: xs, k => ⟨SV.lt_ext hx h x k.1, SV.lts_ext hx h xs k.2⟩
end

/-- A value as cells, and cells as a value. -/
def SV.cells : SV → Option (List SV)
  | .agg cs => some cs
  | .v (.agg cs) => some (cs.toList.map .v)
  | .v (.tuple _) => none
  | .tup _ => none
  | x => some [x]

theorem SV.cells_den {ρ : Nat → Loc} {x : SV} {cs : List SV} (h : x.cells = some cs) : (x.den ρ).cells.toList = cs.map (SV.den ρ) := by
  unfold SV.cells at h
  split at h
  · injection h with h; subst h; simp [SV.den, Value.cells, dens_eq]
  · injection h with h; subst h
    simp only [SV.den, Value.cells, List.map_map]
    exact (List.map_id' _).symm
  · cases h
  · cases h
  · rename_i h1 h2 h3 h4
    injection h with h; subst h
    cases x with
    | v x => cases x <;> first | rfl | exact absurd rfl (h2 _) | exact absurd rfl (h3 _)
    | agg cs => exact absurd rfl (h1 cs)
    | tup cs => exact absurd rfl (h4 cs)
    | _ => simp [SV.den, Value.cells]

theorem SV.cells_lt {ρ : Nat → Loc} {n : Nat} {x : SV} {cs : List SV} (h : x.cells = some cs) (hx : x.lt ρ n) : ∀ y ∈ cs, y.lt ρ n := by
  unfold SV.cells at h
  split at h
  · injection h with h; subst h; exact lts_iff.1 hx
  · injection h with h; subst h; intro y hy; obtain ⟨z, _, rfl⟩ := List.mem_map.1 hy; trivial
  · cases h
  · cases h
  · injection h with h; subst h; intro y hy; rw [List.mem_singleton] at hy; subst hy; exact hx

/-- Is it a value of one cell? -/
def SV.one : SV → Bool
  | .agg _ | .tup _ | .v (.agg _) | .v (.tuple _) => false
  | _ => true

theorem SV.one_den {ρ : Nat → Loc} {x : SV} (h : x.one = true) : (x.den ρ).oneCell' = true := by
  cases x with
  | v x => cases x <;> first | rfl | cases h
  | _ => first | rfl | cases h

/-- The value of a type's zero. -/
def svOf : Value → SV
  | .agg cs => .agg (cs.toList.map .v)
  | x => .v x

theorem svOf_den (ρ : Nat → Loc) (x : Value) : (svOf x).den ρ = x := by
  cases x <;> simp [svOf, SV.den, dens_eq, Function.comp_def]

theorem svOf_lt (ρ : Nat → Loc) (n : Nat) (x : Value) : (svOf x).lt ρ n := by
  cases x <;> simp [svOf, SV.lt, lts_iff]

/-! ### Symbolic heaps -/

inductive SBlk where
  | cells (cs : List SV) (es : Nat) (τ : Nat)      -- τ: its type, one on (0: not known); these cells, from the window's first on; es: cells an element, where an append may go on in it (0: none may)
  | map (es : List (SV × SV × Nat)) (clock : Nat)
  | siter (s : List UInt8) (pos : Nat)
  | miter (m since : Nat) (seen : List Nat) (last : Nat)      -- over the map m

/-- What n cells of a block hold, from o on. -/
def rdOf (blk : Nat → Option Obj) (g o n : Nat) : Option (List Value) := match blk g with
  | some (.cells c _ _) => if o + n ≤ c.size then some ((c.toList.drop o).take n) else none
  | _ => none

/-- Keys of maps: numbers of one kind, strings, bools. -/
def alike1 : Value → Value → Bool
  | .string _, .string _ => true
  | .int k _, .int k' _ => decide (k = k')
  | .bool _, .bool _ => true
  | _, _ => false

def key1 : Value → Value → Bool
  | .string a, .string b => a == b
  | .int _ a, .int _ b => a == b
  | .bool a, .bool b => a == b
  | _, _ => false

def alikeC : List Value → List Value → Bool
  | [], [] => true
  | x :: xs, y :: ys => alike1 x y && alikeC xs ys
  | _, _ => false

def keyC : List Value → List Value → Bool
  | [], [] => true
  | x :: xs, y :: ys => key1 x y && keyC xs ys
  | _, _ => false

def alikeK : Value → Value → Bool
  | .string _, .string _ => true
  | .int k _, .int k' _ => decide (k = k')
  | .bool _, .bool _ => true
  | .agg a, .agg b => alikeC a.toList b.toList
  | _, _ => false

def keyIs : Value → Value → Bool
  | .string a, .string b => a == b
  | .int _ a, .int _ b => a == b
  | .bool a, .bool b => a == b
  | .agg a, .agg b => keyC a.toList b.toList
  | _, _ => false

/-- What stands at a key. -/
def getL (k : Value) : List (Value × Value) → Option Value
  | [] => none
  | e :: es => bif keyIs k e.1 then some e.2 else getL k es

/-- A map's entries. -/
def entsOf (es : Array MapEntry) : List (Value × Value) := es.toList.map fun e => (e.key, e.val)

/-- What a map's block holds at a key. -/
def lookOf (blk : Nat → Option Obj) (g : Nat) (k : Value) : Option (Option Value) := match blk g with
  | some (.map es _) => bif (entsOf es).all fun e => alikeK k e.1 then some (getL k (entsOf es)) else none
  | _ => none

/-- How many entries a map has. -/
def cntOf (blk : Nat → Option Obj) (g : Nat) : Option Nat := match blk g with
  | some (.map es _) => some es.size
  | _ => none

/-- The entry that a walk over a map stands at. -/
def entOf (blk : Nat → Option Obj) (i : Nat) : Option Value := match blk i with
  | some (.mapIter (some m) _ seen stepped) => match seen.back?, blk m with
    | some st, some (.map es clock) => bif clock == stepped then (es.find? fun e => e.born == st).map fun e => .tuple #[e.key, e.val] else none
    | _, _ => none
  | _ => none

/-- Memory that is read and written where its addresses are not known: some blocks of the world. -/
structure Arena where
  blk : Nat → Option Obj
  rd : Nat → Nat → Nat → Option (List Value)
  rdeq : rd = rdOf blk
  look : Nat → Value → Option (Option Value)
  lookeq : look = lookOf blk
  ent : Nat → Option Value
  enteq : ent = entOf blk
  cnt : Nat → Option Nat
  cnteq : cnt = cntOf blk

def Arena.of (blk : Nat → Option Obj) : Arena := ⟨blk, rdOf blk, rfl, lookOf blk, rfl, entOf blk, rfl, cntOf blk, rfl⟩
def Arena.void : Arena := Arena.of fun _ => Option.none

theorem Arena.ext' {A B : Arena} (h : A.blk = B.blk) : A = B := by
  obtain ⟨a, b, c, d, e, f, g, i, j⟩ := A
  obtain ⟨a', b', c', d', e', f', g', i', j'⟩ := B
  have h : a = a' := h
  subst h; subst c; subst c'; subst e; subst e'; subst g; subst g'; subst j; subst j'; rfl

/-- An arena; and a test of whatever proposition. -/
structure MX where
  A : Arena
  D : Prop → Bool
  hD : ∀ p, D p = true ↔ p
  op : Bool      -- are addresses that are not known looked up in the arena, and new rows laid there?
  al : TypeId → Bool      -- variables of which types are laid there, too?

def MX.none : MX := ⟨Arena.void, fun p => @decide p (Classical.propDecidable p), fun p => by simp, false, fun _ => false⟩

/-- Memory that stays as it is. -/
structure Mem where
  blk : Nat → Option Obj
  os : Os
  out : Array (Nat × ByteArray)
  tape : Nat → Question → Nat
  gl : List (Nat × List Value)      -- what is known of some of its blocks
  glok : ∀ g cs, (g, cs) ∈ gl → ∃ c t fz, blk g = some (.cells c t fz) ∧ ∀ (i : Nat) v, cs[i]? = some v → c[i]? = some v
  X : MX

abbrev Mem.A (M : Mem) : Arena := M.X.A
abbrev Mem.D (M : Mem) : Prop → Bool := M.X.D
def Mem.put (M : Mem) (A : Arena) : Mem := match M with
  | ⟨blk, os, out, tape, gl, glok, ⟨_, D, hD, op, al⟩⟩ => ⟨blk, os, out, tape, gl, glok, ⟨A, D, hD, op, al⟩⟩
def Mem.still (M : Mem) : Mem := M.put Arena.void

def Mem.le (M M' : Mem) : Prop := (∀ k o, M.blk k = some o → M'.blk k = some o) ∧ M'.os = M.os ∧ M'.out = M.out ∧ M'.tape = M.tape

theorem Mem.le_refl (M : Mem) : M.le M := ⟨fun _ _ h => h, rfl, rfl, rfl⟩
theorem Mem.le_trans {M M' M'' : Mem} (h : M.le M') (h' : M'.le M'') : M.le M'' :=
  ⟨fun k o hk => h'.1 k o (h.1 k o hk), h'.2.1.trans h.2.1, h'.2.2.1.trans h.2.2.1, h'.2.2.2.trans h.2.2.2⟩

structure HS where
  H : T SBlk
  nx : Nat
  M : Mem

def HS.put (h : HS) (A : Arena) : HS := match h with
  | ⟨H, nx, M⟩ => ⟨H, nx, M.put A⟩

theorem Mem.put_A (M : Mem) (A : Arena) : (M.put A).A = A := rfl
theorem Mem.put_blk (M : Mem) (A : Arena) : (M.put A).blk = M.blk := rfl
theorem Mem.put_os (M : Mem) (A : Arena) : (M.put A).os = M.os := rfl
theorem Mem.put_out (M : Mem) (A : Arena) : (M.put A).out = M.out := rfl
theorem Mem.put_tape (M : Mem) (A : Arena) : (M.put A).tape = M.tape := rfl
theorem Mem.put_D (M : Mem) (A : Arena) : (M.put A).D = M.D := rfl
theorem Mem.put_le (M : Mem) (A : Arena) : M.le (M.put A) := ⟨fun _ _ h => h, rfl, rfl, rfl⟩
theorem HS.put_M (h : HS) (A : Arena) : (h.put A).M = h.M.put A := rfl

def entDen (ρ : Nat → Loc) (e : SV × SV × Nat) : MapEntry := ⟨e.1.den ρ, e.2.1.den ρ, e.2.2⟩

def SBlk.lt (ρ : Nat → Loc) (n : Nat) : SBlk → Prop
  | .cells cs _ _ => ∀ x ∈ cs, x.lt ρ n
  | .map es _ => ∀ e ∈ es, e.1.lt ρ n ∧ e.2.1.lt ρ n
  | .siter _ _ => True
  | .miter m _ _ _ => m < n

/-- No cell is frozen, but perhaps behind the last one. -/
def Fz (n : Nat) (fz : Nat × Nat) : Prop := fz.1 = fz.2 ∨ n ≤ fz.1

theorem Fz.not {n : Nat} {fz : Nat × Nat} (h : Fz n fz) (i : Nat) (hi : i < n) : ¬ (fz.1 ≤ i ∧ i < fz.2) := by
  rcases h with h | h <;> omega

/-- What is known of a block whose type is known: it is of that type, and its window begins where it begins; where no append may go on in it, the window is all of it. -/
def Whole (τ es off len n t : Nat) : Prop := τ = 0 ∨ (τ = t + 1 ∧ off = 0 ∧ (es = 0 → n = len))

def SBlk.Rel (ρ : Nat → Loc) (L : Loc) (w : World) : SBlk → Prop
  | .cells cs es τ => ∃ c t fz, w.heap[L.blk]? = some (.cells c t fz) ∧ (∀ i x, cs[i]? = some x → c[L.off + i]? = some (x.den ρ)) ∧
      L.off + L.cap * es ≤ c.size ∧ (es = 0 ∨ cs.length ≤ L.cap * es) ∧ Fz c.size fz ∧ Whole τ es L.off cs.length c.size t
  | .map es clock => w.heap[L.blk]? = some (.map (es.map (entDen ρ)).toArray clock)
  | .siter s pos => L.off = 0 ∧ w.heap[L.blk]? = some (.stringIter ⟨s.toArray⟩ pos)
  | .miter m since seen last => L.off = 0 ∧ w.heap[L.blk]? = some (.mapIter (some (ρ m).blk) since seen.toArray last)

structure HRel (ρ : Nat → Loc) (h : HS) (w : World) : Prop where
  os : w.os = h.M.os
  out : w.output = h.M.out
  tape : w.tape = h.M.tape
  mem : ∀ k o, h.M.blk k = some o → w.heap[k]? = some o
  blk : ∀ b B, h.H.get b = some B → b < h.nx ∧ B.lt ρ h.nx ∧ B.Rel ρ (ρ b) w
  inj : ∀ b b' B B', h.H.get b = some B → h.H.get b' = some B' → (ρ b).blk = (ρ b').blk → b = b'
  apart : ∀ b B, h.H.get b = some B → h.M.blk (ρ b).blk = none
  are : ∀ k o, h.M.A.blk k = some o → w.heap[k]? = some o
  aprA : ∀ b B, h.H.get b = some B → h.M.A.blk (ρ b).blk = none
  disj : ∀ k o, h.M.A.blk k = some o → h.M.blk k = none

theorem SBlk.Rel.size {ρ : Nat → Loc} {L : Loc} {w : World} {B : SBlk} (h : B.Rel ρ L w) : L.blk < w.heap.size := by
  cases B with
  | cells cs es τ => obtain ⟨c, t, fz, h, _⟩ := h; exact (Array.getElem?_eq_some_iff.1 h).1
  | map es clock => exact (Array.getElem?_eq_some_iff.1 h).1
  | siter s pos => exact (Array.getElem?_eq_some_iff.1 h.2).1
  | miter m since seen last => exact (Array.getElem?_eq_some_iff.1 h.2).1

/-- A block's relation hangs on its own block, and on where its ids lie. -/
theorem SBlk.Rel.of {ρ ρ' : Nat → Loc} {L : Loc} {w w' : World} {B : SBlk} {n : Nat} (h : B.Rel ρ L w) (hx : Ext ρ ρ' n) (hl : B.lt ρ n) (hw : w'.heap[L.blk]? = w.heap[L.blk]?) : B.Rel ρ' L w' := by
  cases B with
  | cells cs es τ =>
    obtain ⟨c, t, fz, h1, h2, h3⟩ := h
    exact ⟨c, t, fz, hw.trans h1, fun i x hi => by rw [SV.den_ext hx x (hl x (List.mem_of_getElem? hi))]; exact h2 i x hi, h3⟩
  | map es clock =>
    show w'.heap[L.blk]? = _
    rw [hw]
    have : es.map (entDen ρ') = es.map (entDen ρ) := List.map_congr_left fun e he => by
      simp [entDen, SV.den_ext hx _ (hl e he).1, SV.den_ext hx _ (hl e he).2]
    rw [this]; exact h
  | siter s pos => exact ⟨h.1, hw.trans h.2⟩
  | miter m since seen last => exact ⟨h.1, by rw [hx m hl]; exact hw.trans h.2⟩

theorem SBlk.lt_ext {ρ ρ' : Nat → Loc} {n n' : Nat} (hx : Ext ρ ρ' n) (h : n ≤ n') {B : SBlk} (hB : B.lt ρ n) : B.lt ρ' n' := by
  cases B with
  | cells cs es τ => exact fun x k => SV.lt_ext hx h x (hB x k)
  | map es clock => exact fun e he => ⟨SV.lt_ext hx h _ (hB e he).1, SV.lt_ext hx h _ (hB e he).2⟩
  | siter s pos => trivial
  | miter m since seen last => exact Nat.lt_of_lt_of_le hB h

/-- What is the same of a world but for draws. -/
theorem HRel.drawn {ρ : Nat → Loc} {h : HS} {w : World} (H : HRel ρ h w) (n : Nat) : HRel ρ h { w with drawn := n } :=
  ⟨H.os, H.out, H.tape, H.mem, fun b B hb => let ⟨h1, h2, h3⟩ := H.blk b B hb; ⟨h1, h2, h3.of (Ext.refl ρ h.nx) h2 rfl⟩, H.inj, H.apart, H.are, H.aprA, H.disj⟩

def extend (ρ : Nat → Loc) (n : Nat) (L : Loc) : Nat → Loc := fun b => if b = n then L else ρ b

theorem extend_ext (ρ : Nat → Loc) (n : Nat) (L : Loc) : Ext ρ (extend ρ n L) n := fun b hb => by simp [extend, Nat.ne_of_lt hb]
theorem extend_same (ρ : Nat → Loc) (n : Nat) (L : Loc) : extend ρ n L n = L := by simp [extend]

/-- A new block. -/
theorem HRel.alloc {ρ : Nat → Loc} {h : HS} {w : World} (H : HRel ρ h w) {o : Obj} {B : SBlk} {L : Loc} (hL : L.blk = w.heap.size) (hB : B.lt ρ h.nx)
    (hR : ∀ w' : World, w'.heap[L.blk]? = some o → B.Rel ρ L w') :
    HRel (extend ρ h.nx L) { h with H := h.H.set h.nx B, nx := h.nx + 1 } { w with heap := w.heap.push o } := by
  have hold : ∀ k, k < w.heap.size → (w.heap.push o)[k]? = w.heap[k]? := fun k hk => by rw [Array.getElem?_push, if_neg (by omega)]
  have apart' : ∀ (blk : Nat → Option Obj), (∀ k o', blk k = some o' → w.heap[k]? = some o') → (∀ b B', h.H.get b = some B' → blk (ρ b).blk = none) → ∀ b B', (h.H.set h.nx B).get b = some B' → blk ((extend ρ h.nx L) b).blk = none := fun blk hm ha b B' hb => by
    rcases T.get_set hb with ⟨rfl, rfl⟩ | ⟨hne, hb⟩
    · rw [extend_same]
      cases hm' : blk L.blk with
      | none => rfl
      | some o' => have := (Array.getElem?_eq_some_iff.1 (hm _ _ hm')).1; omega
    · rw [extend_ext ρ h.nx L b (H.blk b B' hb).1]; exact ha b B' hb
  refine ⟨H.os, H.out, H.tape, fun k o' hk => ?_, fun b B' hb => ?_, fun b b' B1 B2 hb hb' he => ?_, apart' _ H.mem H.apart, fun k o' hk => ?_, apart' _ H.are H.aprA, H.disj⟩
  · have := H.mem k o' hk
    show (w.heap.push o)[k]? = _
    rw [hold k (Array.getElem?_eq_some_iff.1 this).1]; exact this
  · rcases T.get_set hb with ⟨rfl, rfl⟩ | ⟨hne, hb⟩
    · refine ⟨Nat.lt_succ_self _, SBlk.lt_ext (extend_ext _ _ _) (Nat.le_succ _) hB, ?_⟩
      rw [extend_same]
      exact (hR _ (by show (w.heap.push o)[L.blk]? = _; rw [hL]; simp)).of (extend_ext _ _ _) hB rfl
    · obtain ⟨h1, h2, h3⟩ := H.blk b B' hb
      refine ⟨Nat.lt_succ_of_lt h1, SBlk.lt_ext (extend_ext _ _ _) (Nat.le_succ _) h2, ?_⟩
      rw [extend_ext ρ h.nx L b h1]
      exact h3.of (extend_ext _ _ _) h2 (hold _ h3.size)
  · rcases T.get_set hb with ⟨rfl, rfl⟩ | ⟨hne, hb⟩ <;> rcases T.get_set hb' with ⟨rfl, rfl⟩ | ⟨hne', hb'⟩
    · rfl
    · obtain ⟨h1, h2, h3⟩ := H.blk b' B2 hb'
      rw [extend_same, extend_ext ρ h.nx L b' h1] at he
      have := h3.size; omega
    · obtain ⟨h1, h2, h3⟩ := H.blk b B1 hb
      rw [extend_same, extend_ext ρ h.nx L b h1] at he
      have := h3.size; omega
    · rw [extend_ext ρ h.nx L b (H.blk b B1 hb).1, extend_ext ρ h.nx L b' (H.blk b' B2 hb').1] at he
      exact H.inj b b' B1 B2 hb hb' he
  · have := H.are k o' hk
    show (w.heap.push o)[k]? = _
    rw [hold k (Array.getElem?_eq_some_iff.1 this).1]; exact this

/-- A block that is written. -/
theorem HRel.write {ρ : Nat → Loc} {h : HS} {w w' : World} (H : HRel ρ h w) {b : Nat} {B B' : SBlk} (hb : h.H.get b = some B) (hB : B'.lt ρ h.nx)
    (hR : B'.Rel ρ (ρ b) w') (hother : ∀ k, k ≠ (ρ b).blk → w'.heap[k]? = w.heap[k]?) (h1 : w'.os = w.os) (h2 : w'.output = w.output) (h3 : w'.tape = w.tape) :
    HRel ρ { h with H := h.H.set b B' } w' := by
  refine ⟨h1.trans H.os, h2.trans H.out, h3.trans H.tape, fun k o hk => ?_, fun c C hc => ?_, fun c c' C C' hc hc' he => ?_, fun c C hc => ?_, fun k o hk => ?_, fun c C hc => ?_, H.disj⟩
  · rw [hother k (fun e => by subst e; rw [show h.M.blk (ρ b).blk = none from H.apart b B hb] at hk; cases hk)]
    exact H.mem k o hk
  · rcases T.get_set hc with ⟨rfl, rfl⟩ | ⟨hne, hc⟩
    · exact ⟨(H.blk _ _ hb).1, hB, hR⟩
    · obtain ⟨k1, k2, k3⟩ := H.blk c C hc
      exact ⟨k1, k2, k3.of (Ext.refl ρ h.nx) k2 (hother _ fun e => hne (H.inj c b C B hc hb e))⟩
  · rcases T.get_set hc with ⟨rfl, rfl⟩ | ⟨hne, hc2⟩ <;> rcases T.get_set hc' with ⟨rfl, rfl⟩ | ⟨hne', hc2'⟩
    · rfl
    · exact H.inj _ _ _ _ hb hc2' he
    · exact H.inj _ _ _ _ hc2 hb he
    · exact H.inj _ _ _ _ hc2 hc2' he
  · rcases T.get_set hc with ⟨rfl, rfl⟩ | ⟨hne, hc⟩
    · exact H.apart _ _ hb
    · exact H.apart _ _ hc
  · rw [hother k (fun e => by subst e; rw [show h.M.A.blk (ρ b).blk = none from H.aprA b B hb] at hk; cases hk)]
    exact H.are k o hk
  · rcases T.get_set hc with ⟨rfl, rfl⟩ | ⟨hne, hc⟩
    · exact H.aprA _ _ hb
    · exact H.aprA _ _ hc

/-- A block that is given up. -/
theorem HRel.drop {ρ : Nat → Loc} {h : HS} {w : World} (H : HRel ρ h w) (b : Nat) : HRel ρ { h with H := h.H.del b } w :=
  ⟨H.os, H.out, H.tape, H.mem, fun c C hc => H.blk c C (T.get_del hc).2, fun c c' C C' hc hc' => H.inj c c' C C' (T.get_del hc).2 (T.get_del hc').2, fun c C hc => H.apart c C (T.get_del hc).2, H.are, fun c C hc => H.aprA c C (T.get_del hc).2, H.disj⟩

/-- The arena changes: its own blocks, and new ones. -/
theorem HRel.arena {ρ : Nat → Loc} {h : HS} {w w' : World} (H : HRel ρ h w) {A' : Arena} (h1 : w'.os = w.os) (h2 : w'.output = w.output) (h3 : w'.tape = w.tape)
    (hk : ∀ k, h.M.A.blk k = none → k < w.heap.size → w'.heap[k]? = w.heap[k]?) (ha : ∀ k o, A'.blk k = some o → w'.heap[k]? = some o) (hn : ∀ k o, A'.blk k = some o → (∃ o', h.M.A.blk k = some o') ∨ w.heap.size ≤ k) : HRel ρ (h.put A') w' := by
  have old : ∀ k o, h.M.blk k = some o → h.M.A.blk k = none ∧ k < w.heap.size := fun k o hb => by
    refine ⟨?_, (Array.getElem?_eq_some_iff.1 (H.mem k o hb)).1⟩
    cases hA : h.M.A.blk k with
    | none => rfl
    | some o' => have := H.disj k o' hA; rw [this] at hb; cases hb
  refine ⟨h1.trans H.os, h2.trans H.out, h3.trans H.tape, fun k o hb => ?_, fun b B hb => ?_, H.inj, H.apart, ha, fun b B hb => ?_, fun k o hb => ?_⟩
  · have hb : h.M.blk k = some o := hb
    rw [hk k (old k o hb).1 (old k o hb).2]; exact H.mem k o hb
  · obtain ⟨k1, k2, k3⟩ := H.blk b B hb
    exact ⟨k1, k2, k3.of (Ext.refl ρ h.nx) k2 (hk _ (H.aprA b B hb) k3.size)⟩
  · show A'.blk (ρ b).blk = none
    cases hA : A'.blk (ρ b).blk with
    | none => rfl
    | some o =>
      exfalso
      rcases hn _ o hA with ⟨o', h'⟩ | h'
      · rw [H.aprA b B hb] at h'; cases h'
      · have := (H.blk b B hb).2.2.size; omega
  · show h.M.blk k = none
    cases hM : h.M.blk k with
    | none => rfl
    | some o' =>
      exfalso
      obtain ⟨k1, k2⟩ := old k o' hM
      rcases hn _ o hb with ⟨o', h'⟩ | h'
      · rw [k1] at h'; cases h'
      · omega

/-- The activation's slots. -/
structure ARel (dfs : List Deferred) (ρ : Nat → Loc) (tm : T SV) (sz nx : Nat) (a : Act) : Prop where
  size : a.tmps.size = sz
  at_ : ∀ i x, tm.get i = some x → x.lt ρ nx ∧ a.tmps[i]? = some (x.den ρ)
  defers : a.defers = dfs

theorem ARel.ext {ρ ρ' : Nat → Loc} {tm : T SV} {sz nx nx' : Nat} {a : Act} (h : ARel dfs ρ tm sz nx a) (hx : Ext ρ ρ' nx) (hn : nx ≤ nx') : ARel dfs ρ' tm sz nx' a :=
  ⟨h.size, fun i x hi => let ⟨h1, h2⟩ := h.at_ i x hi; ⟨SV.lt_ext hx hn x h1, by rw [SV.den_ext hx x h1]; exact h2⟩, h.defers⟩

theorem ARel.put {ρ : Nat → Loc} {tm : T SV} {sz nx d : Nat} {a : Act} {x : SV} (h : ARel dfs ρ tm sz nx a) (hx : x.lt ρ nx) (hd : d < sz) : ARel dfs ρ (tm.set d x) sz nx (a.put (some d) (x.den ρ)) := by
  refine ⟨by simp [Act.put, h.size], fun i y hi => ?_, h.defers⟩
  rcases T.get_set hi with ⟨rfl, rfl⟩ | ⟨hne, hi⟩
  · refine ⟨hx, ?_⟩
    simp only [Act.put, Array.getElem?_setIfInBounds_self]
    rw [if_pos (by rw [h.size]; exact hd)]
  · obtain ⟨h1, h2⟩ := h.at_ i y hi
    refine ⟨h1, ?_⟩
    simp only [Act.put]
    rw [Array.getElem?_setIfInBounds_ne (Ne.symm hne)]; exact h2

/-- Where a slot's value is only spelled otherwise. -/
theorem ARel.same {ρ : Nat → Loc} {tm : T SV} {sz nx d : Nat} {a : Act} {x y : SV} (h : ARel dfs ρ tm sz nx a) (hd : tm.get d = some y) (he : x.den ρ = y.den ρ) (hx : x.lt ρ nx) : ARel dfs ρ (tm.set d x) sz nx a := by
  refine ⟨h.size, fun i z hi => ?_, h.defers⟩
  rcases T.get_set hi with ⟨rfl, rfl⟩ | ⟨hne, hi⟩
  · exact ⟨hx, by rw [he]; exact (h.at_ _ _ hd).2⟩
  · exact h.at_ _ _ hi

end
end Go.Sx

namespace Go.Sx
noncomputable section
variable {dfs : List Deferred}

/-! ### The program's tables -/

structure STy where
  und : TypeDesc
  size : Nat
  bytes : Nat
  zero : Value

/-! Lists looked up by number: in strides of sixteen. -/

def nth {α : Type} (l : List α) : Nat → Option α :=
  List.rec (motive := fun _ => Nat → Option α) (fun _ => none) (fun x _ ih n => Nat.rec (motive := fun _ => Option α) (some x) (fun m _ => ih m) n) l

theorem nth_eq {α : Type} : ∀ (l : List α) (n : Nat), nth l n = l[n]?
  | [], _ => rfl
  | _ :: _, 0 => rfl
  | _ :: xs, n + 1 => nth_eq xs n

def dropN {α : Type} (n : Nat) : List α → List α :=
  Nat.rec (motive := fun _ => List α → List α) (fun l => l) (fun _ ih l => List.rec (motive := fun _ => List α) [] (fun _ xs _ => ih xs) l) n

theorem dropN_eq {α : Type} : ∀ (n : Nat) (l : List α), dropN n l = l.drop n
  | 0, _ => rfl
  | _ + 1, [] => rfl
  | n + 1, _ :: xs => dropN_eq n xs

def stride {α : Type} (n : Nat) : List α → List α :=
  Nat.rec (motive := fun _ => List α → List α) (fun l => l) (fun _ ih l => dropN 16 (ih l)) n

theorem stride_eq {α : Type} (l : List α) : ∀ (n : Nat), stride n l = l.drop (16 * n)
  | 0 => rfl
  | n + 1 => by
    show dropN 16 (stride n l) = _
    rw [dropN_eq, stride_eq l n, List.drop_drop]
    congr 1

def far {α : Type} (l : List α) (i : Nat) : Option α := nth (stride (Nat.div i 16) l) (Nat.mod i 16)

theorem far_eq {α : Type} (l : List α) (i : Nat) : far l i = l[i]? := by
  unfold far
  rw [nth_eq, stride_eq, List.getElem?_drop]
  congr 1
  exact Nat.div_add_mod i 16

def tyI (P : Program) (t : TypeId) : Option TypeInfo := match far P.types.toList t with
  | some i => some i
  | none => P.info? t

theorem tyI_eq (P : Program) (t : TypeId) : tyI P t = P.info? t := by
  unfold tyI
  split
  · rename_i i h
    rw [far_eq, Array.getElem?_toList] at h
    unfold Tables.info?
    have := (Array.getElem?_eq_some_iff.1 h).1
    rw [if_pos this, h]
  · rfl

def ty (P : Program) (t : TypeId) : Option STy :=
  match tyI P t with
  | none => none
  | some i => match i.zero with
    | none => none
    | some z => match i.desc with
      | .named _ u => match tyI P u with
        | some j => some ⟨j.desc, i.size, i.bytes, z⟩
        | none => none
      | d => some ⟨d, i.size, i.bytes, z⟩

def fnOf (P : Program) (f : FuncId) : Option Func := far P.funcs.toList f

theorem fn_of {P : Program} {f : FuncId} {fn : Func} (h : fnOf P f = some fn) : P.funcs[f]? = some fn := by
  unfold fnOf at h
  rw [far_eq] at h
  simpa using h

structure TyFacts (P : Program) (t : TypeId) (s : STy) : Prop where
  und : P.underlying t = some s.und
  info : ∃ i, P.info? t = some i ∧ i.size = s.size ∧ i.bytes = s.bytes ∧ i.zero = some s.zero

theorem ty_facts {P : Program} {t : TypeId} {s : STy} (h : ty P t = some s) : TyFacts P t s := by
  unfold ty at h
  simp only [tyI_eq] at h
  split at h
  · cases h
  · rename_i i hi
    split at h
    · cases h
    · rename_i z hz
      split at h
      · rename_i n u hd
        split at h
        · rename_i j hj
          injection h with h; subst h
          refine ⟨?_, i, hi, rfl, rfl, hz⟩
          unfold Program.underlying
          rw [hi]
          obtain ⟨d⟩ := i
          simp only at hd
          subst hd
          simp [hj]
        · cases h
      · rename_i hd
        injection h with h; subst h
        refine ⟨?_, i, hi, rfl, rfl, hz⟩
        unfold Program.underlying
        rw [hi]
        split
        · rename_i n u _ _ _ _ _ _ _ _ he
          injection he with he
          subst he
          exact absurd rfl (hd _ _)
        · rename_i he
          injection he with he; subst he; rfl
        · rename_i he; cases he

section
variable {P : Program} {t : TypeId} {s : STy} (w : World)

theorem r_underlying (h : ty P t = some s) : (underlying t).run P w = .ok s.und w := run_underlying (ty_facts h).und w
theorem r_typeInfo (h : ty P t = some s) : ∃ i, (typeInfo t).run P w = .ok i w ∧ i.size = s.size ∧ i.bytes = s.bytes ∧ i.zero = some s.zero := by
  obtain ⟨i, hi, h1, h2, h3⟩ := (ty_facts h).info
  exact ⟨i, by simp [typeInfo, hi], h1, h2, h3⟩
theorem r_sizeOf (h : ty P t = some s) : (sizeOf t).run P w = .ok s.size w := by
  obtain ⟨i, hi, h1, _⟩ := r_typeInfo w h
  simp [sizeOf, hi, h1]
theorem r_zeroValue (h : ty P t = some s) : (zeroValue t).run P w = .ok s.zero w := by
  obtain ⟨i, hi, _, _, h3⟩ := r_typeInfo w h
  simp [zeroValue, hi, h3]

def TypeDesc.isAgg : TypeDesc → Bool
  | .struct _ | .array _ _ => true
  | _ => false

theorem r_isAgg (h : ty P t = some s) : (isAgg t).run P w = .ok (TypeDesc.isAgg s.und) w := by
  simp only [isAgg, Sem.run_bind, r_underlying w h, Result.andThen_ok]
  cases s.und <;> rfl
end

/-! ### Operands -/

def opd (tm : T SV) : Operand → Option SV
  | .tmp t => tm.get t
  | .const v => some (.v v)
  | .global g => some (.v (.pointer (some ⟨g, 0, none⟩)))
  | .func f => some (.fn f [])

theorem opd_den {ρ : Nat → Loc} {tm : T SV} {sz nx : Nat} {a : Act} (A : ARel dfs ρ tm sz nx a) {x : Operand} {v : SV} (h : opd tm x = some v) : a.eval x = v.den ρ ∧ v.lt ρ nx := by
  cases x with
  | tmp t =>
    obtain ⟨h1, h2⟩ := A.at_ t v h
    exact ⟨by simp [Act.eval, h2], h1⟩
  | const c => injection h with h; subst h; exact ⟨rfl, trivial⟩
  | global g => injection h with h; subst h; exact ⟨rfl, trivial⟩
  | func f => injection h with h; subst h; exact ⟨rfl, trivial⟩

def opds (tm : T SV) : List Operand → Option (List SV)
  | [] => some []
  | x :: xs => match opd tm x with
    | none => none
    | some v => match opds tm xs with
      | none => none
      | some vs => some (v :: vs)

theorem opds_den {ρ : Nat → Loc} {tm : T SV} {sz nx : Nat} {a : Act} (A : ARel dfs ρ tm sz nx a) : ∀ (l : List Operand) (vs : List SV), opds tm l = some vs →
    l.map a.eval = vs.map (SV.den ρ) ∧ ∀ v ∈ vs, v.lt ρ nx := by
  intro l
  induction l with
  | nil => intro vs h; injection h with h; subst h; exact ⟨rfl, fun _ h => by cases h⟩
  | cons x xs ih =>
    intro vs h
    unfold opds at h
    split at h
    · cases h
    · rename_i v hv
      split at h
      · cases h
      · rename_i us hus
        injection h with h; subst h
        obtain ⟨h1, h2⟩ := opd_den A hv
        obtain ⟨h3, h4⟩ := ih us hus
        exact ⟨by simp [h1, h3], fun y hy => (by
          rcases List.mem_cons.1 hy with rfl | hy
          · exact h2
          · exact h4 y hy)⟩

/-! ### What shapes values have -/

def SV.str? : SV → Option (List UInt8)
  | .str l => some l
  | .v (.string s) => some s.data.toList
  | _ => none

theorem SV.str?_den {ρ : Nat → Loc} {x : SV} {l : List UInt8} (h : x.str? = some l) : x.den ρ = .string ⟨l.toArray⟩ := by
  unfold SV.str? at h
  split at h
  · injection h with h; subst h; rfl
  · injection h with h; subst h; rfl
  · cases h

def SV.int? : SV → Option (IntKind × Int)
  | .v (.int k n) => some (k, n)
  | _ => none

theorem SV.int?_den {ρ : Nat → Loc} {x : SV} {k : IntKind} {n : Int} (h : x.int? = some (k, n)) : x.den ρ = .int k n := by
  unfold SV.int? at h
  split at h
  · injection h with h; injection h with h1 h2; subst h1; subst h2; rfl
  · cases h

def beqL : List UInt8 → List UInt8 → Bool
  | [], [] => true
  | a :: l, b :: m => bif Nat.beq a.toNat b.toNat then beqL l m else false
  | _, _ => false

theorem beqL_eq : ∀ (l m : List UInt8), beqL l m = (l == m)
  | [], [] => rfl
  | [], _ :: _ => rfl
  | _ :: _, [] => rfl
  | a :: l, b :: m => by
    have ih := beqL_eq l m
    simp only [beqL, ih]
    by_cases h : a = b
    · subst h; simp [Nat.beq_refl]
    · have : Nat.beq a.toNat b.toNat = false := by
        cases hb : Nat.beq a.toNat b.toNat with
        | false => rfl
        | true => exact absurd (UInt8.toNat_inj.1 (Nat.eq_of_beq_eq_true hb)) h
      simp [this, h]

def ltL : List UInt8 → List UInt8 → Bool
  | _, [] => false
  | [], _ :: _ => true
  | a :: l, b :: m => bif Nat.blt a.toNat b.toNat then true else (bif Nat.beq a.toNat b.toNat then ltL l m else false)

theorem ltL_eq : ∀ (l m : List UInt8), ltL l m = Op.bytesLess l m
  | [], [] => rfl
  | _ :: _, [] => rfl
  | [], _ :: _ => rfl
  | a :: l, b :: m => by
    have ih := ltL_eq l m
    simp only [ltL, Op.bytesLess, ih]
    have h1 : Nat.blt a.toNat b.toNat = decide (a < b) := by
      by_cases hlt : a < b
      · have h' : a.toNat < b.toNat := UInt8.lt_iff_toNat_lt.1 hlt
        rw [decide_eq_true hlt]
        exact Nat.ble_eq.mpr h'
      · have h' : ¬ a.toNat < b.toNat := fun h => hlt (UInt8.lt_iff_toNat_lt.2 h)
        rw [decide_eq_false hlt]
        cases hb : Nat.blt a.toNat b.toNat with
        | false => rfl
        | true => exact absurd (Nat.le_of_ble_eq_true hb) h'
    have h2 : Nat.beq a.toNat b.toNat = (a == b) := by
      by_cases h : a = b
      · subst h; simp [Nat.beq_refl]
      · have : Nat.beq a.toNat b.toNat = false := by
          cases hb : Nat.beq a.toNat b.toNat with
          | false => rfl
          | true => exact absurd (UInt8.toNat_inj.1 (Nat.eq_of_beq_eq_true hb)) h
        simp [this, h]
    rw [h1, h2]
    cases decide (a < b) <;> cases (a == b) <;> simp

/-! ### Numbers -/

def bitsOf (op : BinOp) (k : IntKind) (a b : Int) : Int :=
  let x := BitVec.ofInt k.bits a
  let y := BitVec.ofInt k.bits b
  match op with
  | .and => k.wrap (x &&& y).toNat
  | .or => k.wrap (x ||| y).toNat
  | .xor => k.wrap (x ^^^ y).toNat
  | _ => k.wrap (x &&& ~~~y).toNat

def kEq : IntKind → IntKind → Bool
  | .i8, .i8 | .i16, .i16 | .i32, .i32 | .i64, .i64 | .u8, .u8 | .u16, .u16 | .u32, .u32 | .u64, .u64 => true
  | _, _ => false

theorem kEq_iff {k k' : IntKind} : kEq k k' = true ↔ k = k' := by cases k <;> cases k' <;> decide

/-- An integer operation: what it asks, and what it gives. -/
def intBin (op : BinOp) (k k' : IntKind) (a b : Int) : Option (Bool × SV) :=
  match op with
  | .shl => some (decide (0 ≤ b), .v (.int k (k.wrap (a * 2 ^ (min b.toNat k.bits)))))
  | .shr => some (decide (0 ≤ b), .v (.int k (a.fdiv (2 ^ (min b.toNat k.bits)))))
  | .add => some (kEq k k', .v (.int k (k.wrap (a + b))))
  | .sub => some (kEq k k', .v (.int k (k.wrap (a - b))))
  | .mul => some (kEq k k', .v (.int k (k.wrap (a * b))))
  | .quo => some (kEq k k' && !decide (b = 0), .v (.int k (k.wrap (a.tdiv b))))
  | .rem => some (kEq k k' && !decide (b = 0), .v (.int k (a.tmod b)))
  | .and => some (kEq k k', .v (.int k (bitsOf .and k a b)))
  | .or => some (kEq k k', .v (.int k (bitsOf .or k a b)))
  | .xor => some (kEq k k', .v (.int k (bitsOf .xor k a b)))
  | .andNot => some (kEq k k', .v (.int k (bitsOf .andNot k a b)))
  | .eql => some (kEq k k', .v (.bool (decide (a = b))))
  | .neq => some (kEq k k', .v (.bool (!decide (a = b))))
  | .lss => some (kEq k k', .v (.bool (decide (a < b))))
  | .leq => some (kEq k k', .v (.bool (decide (a ≤ b))))
  | .gtr => some (kEq k k', .v (.bool (decide (b < a))))
  | .geq => some (kEq k k', .v (.bool (decide (b ≤ a))))

theorem intBin_run {P : Program} {op : BinOp} {k k' : IntKind} {a b : Int} {r : Bool} {x : SV} (h : intBin op k k' a b = some (r, x)) (hr : r = true) (t : TypeId) (ρ : Nat → Loc) (w : World) :
    (binOp op t (.int k a) (.int k' b)).run P w = .ok (x.den ρ) w := by
  subst hr
  cases op <;> simp only [intBin, Option.some.injEq, Prod.mk.injEq, Bool.and_eq_true, kEq_iff, Bool.not_eq_true', decide_eq_true_eq, decide_eq_false_iff_not] at h <;> obtain ⟨h, rfl⟩ := h
  case shl => simp [binOp, Op.shift, SV.den, show ¬ b < 0 by omega]
  case shr => simp [binOp, Op.shift, SV.den, show ¬ b < 0 by omega]
  case quo => obtain ⟨rfl, h⟩ := h; simp [binOp, Op.intDiv, h, SV.den]
  case rem => obtain ⟨rfl, h⟩ := h; simp [binOp, Op.intDiv, h, SV.den]
  all_goals (subst h; simp [binOp, Op.intArith, Op.intBits, Op.intCmp, bitsOf, SV.den])
  all_goals (by_cases hab : a = b <;> simp [hab])

theorem intBin_lt {op : BinOp} {k k' : IntKind} {a b : Int} {r : Bool} {x : SV} (h : intBin op k k' a b = some (r, x)) (ρ : Nat → Loc) (n : Nat) : x.lt ρ n := by
  cases op <;> simp only [intBin, Option.some.injEq, Prod.mk.injEq] at h <;> obtain ⟨_, rfl⟩ := h <;> trivial

/-! ### Strings -/

def strBin (op : BinOp) (l m : List UInt8) : Option (Bool × SV) :=
  match op with
  | .add => some (Nat.ble (l.length + m.length) 9223372036854775807, .str (l ++ m))
  | .eql => some (true, .v (.bool (beqL l m)))
  | .neq => some (true, .v (.bool (!beqL l m)))
  | .lss => some (true, .v (.bool (ltL l m)))
  | .leq => some (true, .v (.bool (ltL l m || beqL l m)))
  | .gtr => some (true, .v (.bool (!(ltL l m || beqL l m))))
  | .geq => some (true, .v (.bool (!ltL l m)))
  | _ => none

theorem strBin_run {P : Program} {op : BinOp} {l m : List UInt8} {r : Bool} {x : SV} (h : strBin op l m = some (r, x)) (hr : r = true) (t : TypeId) (ρ : Nat → Loc) (w : World) :
    (binOp op t (.string ⟨l.toArray⟩) (.string ⟨m.toArray⟩)).run P w = .ok (x.den ρ) w := by
  subst hr
  have e1 : (⟨l.toArray⟩ : ByteArray).toList = l := by rw [ByteArray.toList_eq]
  have e2 : (⟨m.toArray⟩ : ByteArray).toList = m := by rw [ByteArray.toList_eq]
  cases op <;> simp only [strBin, Option.some.injEq, Prod.mk.injEq, reduceCtorEq] at h <;> obtain ⟨h, rfl⟩ := h
  case add =>
    have h := Nat.le_of_ble_eq_true h
    have hs : ¬ ((((⟨l.toArray⟩ : ByteArray).size + (⟨m.toArray⟩ : ByteArray).size : Nat) : Int) > IntKind.i64.max) := by
      show ¬ (((l.toArray.size + m.toArray.size : Nat) : Int) > 9223372036854775807)
      simp only [List.size_toArray]; omega
    have hap : (⟨l.toArray⟩ : ByteArray) ++ ⟨m.toArray⟩ = ⟨(l ++ m).toArray⟩ := by
      apply ByteArray.ext
      simp
    simp only [binOp, Op.stringOp, if_neg hs, hap, SV.den]
    rfl
  all_goals simp only [binOp, Op.stringOp, e1, e2, SV.den, beqL_eq, ltL_eq]
  all_goals rfl

theorem strBin_lt {op : BinOp} {l m : List UInt8} {r : Bool} {x : SV} (h : strBin op l m = some (r, x)) (ρ : Nat → Loc) (n : Nat) : x.lt ρ n := by
  cases op <;> simp only [strBin, Option.some.injEq, Prod.mk.injEq, reduceCtorEq] at h <;> obtain ⟨_, rfl⟩ := h <;> trivial

end
end Go.Sx

namespace Go.Sx
noncomputable section

/-! ### Equality -/

/-- Flat structs: each field one cell that holds a number, a bool or a string. -/
def eqCells : List Field → List SV → List SV → Nat → (Nat → Option STy) → Option Bool
  | [], _, _, _, _ => some true
  | f :: fs, x :: xs, y :: ys, i, tys =>
    bif !(Nat.beq f.offset i) || (f.name == "_") then none else
    match tys f.type with
    | none => none
    | some s =>
      match s.und, x, y with
      | .bool, .v (.bool a), .v (.bool b) => (eqCells fs xs ys (i + 1) tys).map fun r => (a == b) && r
      | .int _, .v (.int k a), .v (.int k' b) => bif kEq k k' then (eqCells fs xs ys (i + 1) tys).map fun r => decide (a = b) && r else none
      | .string, x, y => match x.str?, y.str? with
        | some l, some m => (eqCells fs xs ys (i + 1) tys).map fun r => beqL l m && r
        | _, _ => none
      | _, _, _ => none
  | _ :: _, _, _, _, _ => none

/-- Structs whose fields may be flat structs. -/
def eqCells2 (P : Program) : List Field → List SV → List SV → Nat → Option Bool
  | [], _, _, _ => some true
  | f :: fs, xs, ys, i =>
    bif !(Nat.beq f.offset i) || (f.name == "_") then none else
    match ty P f.type with
    | none => none
    | some s => match s.und with
      | .struct gs => bif Nat.ble s.size xs.length && Nat.ble s.size ys.length then (match eqCells gs.toList (xs.take s.size) (ys.take s.size) 0 (ty P) with
        | some r0 => (eqCells2 P fs (xs.drop s.size) (ys.drop s.size) (i + s.size)).map fun r => r0 && r
        | none => none) else none
      | _ => match xs, ys with
        | x :: xs', y :: ys' => match eqCells [f] [x] [y] i (ty P) with
          | some r0 => (eqCells2 P fs xs' ys' (i + 1)).map fun r => r0 && r
          | none => none
        | _, _ => none

def eqDeep (P : Program) (fs : List Field) (xs ys : List SV) : Option Bool := match eqCells fs xs ys 0 (ty P) with
  | some r => some r
  | none => eqCells2 P fs xs ys 0

/-- No field's struct is one of a package that the model stands in for. -/
def nestOk (P : Program) : List Field → Bool
  | [] => true
  | f :: fs => (match ty P f.type with
    | some s => match s.und with
      | .struct _ => !P.stoodInHeld f.type
      | _ => true
    | none => true) && nestOk P fs

def plainEq (P : Program) (t : TypeId) (fs : List Field) : Bool := (!P.eqGuardType P.depth t && !P.stoodInHeld t) && nestOk P fs

def isPtr : TypeDesc → Bool | .pointer _ => true | _ => false
def isSlc : TypeDesc → Bool | .slice _ => true | _ => false
def isMp : TypeDesc → Bool | .map _ _ => true | _ => false
def isFn : TypeDesc → Bool | .func _ _ _ => true | _ => false
def isIfc : TypeDesc → Bool | .interface _ => true | _ => false
def isBl : TypeDesc → Bool | .bool => true | _ => false

def SV.aggs? : SV → Option (List SV)
  | .agg cs => some cs
  | .v (.agg cs) => some (cs.toList.map .v)
  | _ => none

theorem SV.aggs?_den {ρ : Nat → Loc} {x : SV} {cs : List SV} (h : x.aggs? = some cs) : x.den ρ = .agg (cs.map (SV.den ρ)).toArray := by
  unfold SV.aggs? at h
  split at h
  · injection h with h; subst h; simp [SV.den, dens_eq]
  · injection h with h; subst h; simp [SV.den, Function.comp_def]
  · cases h

theorem SV.aggs?_lt {ρ : Nat → Loc} {n : Nat} {x : SV} {cs : List SV} (h : x.aggs? = some cs) (hx : x.lt ρ n) : ∀ y ∈ cs, y.lt ρ n := by
  unfold SV.aggs? at h
  split at h
  · injection h with h; subst h; exact lts_iff.1 hx
  · injection h with h; subst h; intro y hy; obtain ⟨z, _, rfl⟩ := List.mem_map.1 hy; trivial
  · cases h

/-- May values of a type be compared? -/
def cmpT (P : Program) (t : TypeId) : Bool := match P.info? t with
  | some i => i.comparable
  | none => false

theorem cmpT_some {P : Program} {t : TypeId} (h : cmpT P t = true) : ∃ i, P.info? t = some i ∧ i.comparable = true := by
  unfold cmpT at h
  split at h
  · rename_i i hi; exact ⟨i, hi, h⟩
  · cases h

/-- Two interface values: of two types, or of one type of numbers. -/
def eqI (P : Program) (u u' : TypeId) (a b : SV) : Option Bool := bif Nat.beq u u' then (match ty P u with
    | some su => match su.und, a.int?, b.int? with
      | .int _, some (ka, m), some (kb, n) => bif cmpT P u && kEq ka kb then some (decide (m = n)) else none
      | _, _, _ => none
    | none => none)
  else some false

/-- Two pointers that are one. -/
def eqP (P : Program) (d : TypeDesc) (b o b' o' : Nat) : Option Bool := match d with
  | .pointer e => bif (P.info? e).isSome && Nat.beq b b' && Nat.beq o o' then some true else none
  | _ => none

/-- What '==' gives, of two values that are neither numbers nor strings; yc: is the second one a constant of the text? -/
def eqB (P : Program) (t : TypeId) (yc : Bool) (x y : SV) : Option Bool :=
  match ty P t with
  | none => none
  | some s =>
    match x, y with
    | .v (.bool a), .v (.bool b) => bif isBl s.und then some (a == b) else none
    | .ptr _ _, .v (.pointer none) => bif isPtr s.und then some false else none
    | .v (.pointer none), .ptr _ _ => bif isPtr s.und then some false else none
    | .v (.pointer a), .v (.pointer none) => bif isPtr s.und then some a.isNone else none
    | .slc _ _ _ _, .v (.slice none _ _) => bif isSlc s.und then some false else none
    | .v (.slice a _ _), .v (.slice none _ _) => bif isSlc s.und then some a.isNone else none
    | .mp _, .v (.map none) => bif isMp s.und then some false else none
    | .v (.map a), .v (.map none) => bif isMp s.und then some a.isNone else none
    | .fn _ _, .v .nilFunc => bif isFn s.und then some false else none
    | .v .nilFunc, .v .nilFunc => bif isFn s.und then some true else none
    | .ifc _ _, .v .nilIface => bif isIfc s.und then some false else none
    | .v .nilIface, .v .nilIface => bif isIfc s.und && yc then some true else none
    | .ifc u a, .ifc u' b => bif isIfc s.und then eqI P u u' a b else none
    | .ptr b o, .ptr b' o' => eqP P s.und b o b' o'
    | x, y =>
      match s.und, x.aggs?, y.aggs? with
      | .struct fs, some xs, some ys => bif plainEq P t fs.toList then eqDeep P fs.toList xs ys else none
      | _, _, _ => none

theorem part_one {P : Program} {t : TypeId} {s : STy} (h : ty P t = some s) (hd : TypeDesc.isAgg s.und = false) {cs : Array Value} {i : Nat} {v : Value} (hv : cs[i]? = some v) (w : World) : (part t cs i).run P w = .ok v w := by
  simp only [part, Sem.run_bind, r_isAgg w h, Result.andThen_ok, hd, Bool.false_eq_true, if_false, hv, Sem.run_pure]

theorem part_agg {P : Program} {t : TypeId} {s : STy} (h : ty P t = some s) (hd : TypeDesc.isAgg s.und = true) (cs : Array Value) (i : Nat) (w : World) : (part t cs i).run P w = .ok (.agg (cs.extract i (i + s.size))) w := by
  simp only [part, Sem.run_bind, r_isAgg w h, Result.andThen_ok, hd, if_true, r_sizeOf w h, Sem.run_pure]

theorem eqCells_run {P : Program} {ρ : Nat → Loc} (d : Nat) (w : World) : ∀ (fs : List Field) (xs ys px py : List SV) (r : Bool),
    eqCells fs xs ys px.length (ty P) = some r → px.length = py.length →
    (Op.eqFields (d + 1) ((px ++ xs).map (SV.den ρ)).toArray ((py ++ ys).map (SV.den ρ)).toArray fs).run P w = .ok r w := by
  intro fs
  induction fs with
  | nil => intro xs ys px py r h _; simp only [eqCells] at h; injection h with h; subst h; rfl
  | cons f fs ih =>
    intro xs ys px py r h hp
    cases xs with
    | nil => simp [eqCells] at h
    | cons x xs =>
      cases ys with
      | nil => simp [eqCells] at h
      | cons y ys =>
        simp only [eqCells] at h
        cases hb : (!(Nat.beq f.offset px.length) || (f.name == "_")) with
        | true => rw [hb] at h; simp at h
        | false =>
          rw [hb] at h
          simp only [cond_false] at h
          have hoff : f.offset = px.length := by
            cases ho : Nat.beq f.offset px.length with
            | true => exact Nat.eq_of_beq_eq_true ho
            | false => rw [ho] at hb; simp at hb
          have hname : f.name ≠ "_" := by
            intro e
            rw [e] at hb; simp at hb
          split at h
          · cases h
          · rename_i s hs
            have hx : (((px ++ x :: xs).map (SV.den ρ)).toArray)[f.offset]? = some (x.den ρ) := by simp [hoff]
            have hy : (((py ++ y :: ys).map (SV.den ρ)).toArray)[f.offset]? = some (y.den ρ) := by simp [hoff, hp]
            have next : ∀ r', eqCells fs xs ys (px.length + 1) (ty P) = some r' →
                (Op.eqFields (d + 1) ((px ++ x :: xs).map (SV.den ρ)).toArray ((py ++ y :: ys).map (SV.den ρ)).toArray fs).run P w = .ok r' w := fun r' h' => by
              have := ih xs ys (px ++ [x]) (py ++ [y]) r' (by simpa using h') (by simp [hp])
              simpa [List.append_assoc] using this
            have fin : ∀ (e : Bool) (r' : Bool), TypeDesc.isAgg s.und = false → (Op.equalIn (d + 1) f.type (x.den ρ) (y.den ρ)).run P w = .ok e w →
                eqCells fs xs ys (px.length + 1) (ty P) = some r' → r = (e && r') →
                (Op.eqFields (d + 1) ((px ++ x :: xs).map (SV.den ρ)).toArray ((py ++ y :: ys).map (SV.den ρ)).toArray (f :: fs)).run P w = .ok r w := fun e r' ha he h' hr => by
              subst hr
              simp only [Op.eqFields, ne_eq, hname, not_false_eq_true, if_true, Sem.run_bind, part_one hs ha hx, part_one hs ha hy, Result.andThen_ok, he]
              cases e
              · simp
              · simp only [Bool.not_true, Bool.false_eq_true, if_false, Bool.true_and]; exact next r' h'
            have hu := (ty_facts hs).und
            split at h
            · rename_i a b hd
              cases hr : eqCells fs xs ys (px.length + 1) (ty P) with
              | none => rw [hr] at h; cases h
              | some r' =>
                rw [hr] at h
                injection h with h
                exact fin (a == b) r' (by rw [hd]; rfl) (run_equalIn_bool' w d f.type a b (by rw [hu, hd])) hr h.symm
            · rename_i k0 k a k' b hd
              cases hk : kEq k k' with
              | false => rw [hk] at h; cases h
              | true =>
                rw [hk] at h
                have hk := kEq_iff.1 hk
                subst hk
                cases hr : eqCells fs xs ys (px.length + 1) (ty P) with
                | none => rw [hr] at h; cases h
                | some r' =>
                  rw [hr] at h
                  injection h with h
                  refine fin (decide (a = b)) r' (by rw [hd]; rfl) ?_ hr h.symm
                  have := run_equalIn_int w d f.type k k0 a b (by rw [hu, hd])
                  rw [show (a == b) = decide (a = b) from rfl] at this
                  exact this
            · rename_i hd
              split at h
              · rename_i l m hl hm
                cases hr : eqCells fs xs ys (px.length + 1) (ty P) with
                | none => rw [hr] at h; cases h
                | some r' =>
                  rw [hr] at h
                  injection h with h
                  refine fin (beqL l m) r' (by rw [hd]; rfl) ?_ hr h.symm
                  rw [SV.str?_den hl, SV.str?_den hm]
                  have := run_equalIn_string w d f.type ⟨l.toArray⟩ ⟨m.toArray⟩ (by rw [hu, hd])
                  rw [this, ByteArray.toList_eq, ByteArray.toList_eq, beqL_eq]
              · cases h
            · cases h

theorem eqCells_one {P : Program} {f : Field} {x y : SV} {i : Nat} {r0 : Bool} (h : eqCells [f] [x] [y] i (ty P) = some r0) : ∃ s, ty P f.type = some s ∧ TypeDesc.isAgg s.und = false ∧ ∀ (d : Nat) (ρ : Nat → Loc) (w : World), (Op.equalIn (d + 1) f.type (x.den ρ) (y.den ρ)).run P w = .ok r0 w := by
  simp only [eqCells] at h
  cases hb : (!(Nat.beq f.offset i) || (f.name == "_")) with
  | true => rw [hb] at h; simp at h
  | false =>
    rw [hb] at h
    simp only [cond_false] at h
    split at h
    · cases h
    · rename_i s hs
      have hu := (ty_facts hs).und
      refine ⟨s, hs, ?_⟩
      split at h
      · rename_i a b hd
        injection h with h
        refine ⟨by rw [hd]; rfl, fun d ρ w => ?_⟩
        have h := (Bool.and_true _).symm.trans h
        rw [← h]
        exact run_equalIn_bool' w d f.type a b (by rw [hu, hd])
      · rename_i k0 k a k' b hd
        cases hk : kEq k k' with
        | false => rw [hk] at h; cases h
        | true =>
          rw [hk] at h
          have hk := kEq_iff.1 hk
          subst hk
          injection h with h
          refine ⟨by rw [hd]; rfl, fun d ρ w => ?_⟩
          have h := (Bool.and_true _).symm.trans h
          rw [← h]
          have := run_equalIn_int w d f.type k k0 a b (by rw [hu, hd])
          rw [show (a == b) = decide (a = b) from rfl] at this
          exact this
      · rename_i hd
        split at h
        · rename_i l m hl hm
          injection h with h
          refine ⟨by rw [hd]; rfl, fun d ρ w => ?_⟩
          have h := (Bool.and_true _).symm.trans h
          rw [← h, SV.str?_den hl, SV.str?_den hm]
          have := run_equalIn_string w d f.type ⟨l.toArray⟩ ⟨m.toArray⟩ (by rw [hu, hd])
          rw [this, ByteArray.toList_eq, ByteArray.toList_eq, beqL_eq]
        · cases h
      · cases h

theorem extract_cells {ρ : Nat → Loc} (px xs : List SV) (n : Nat) : ((px ++ xs).map (SV.den ρ)).toArray.extract px.length (px.length + n) = ((xs.take n).map (SV.den ρ)).toArray := by
  apply Array.toList_inj.1
  simp only [List.map_append, Array.toList_extract, List.extract_eq_take_drop, List.map_take]
  rw [Nat.add_sub_cancel_left, List.drop_left' (by simp)]

theorem eqCells2_run {P : Program} {ρ : Nat → Loc} (d : Nat) (w : World) : ∀ (fs : List Field) (xs ys px py : List SV) (r : Bool),
    eqCells2 P fs xs ys px.length = some r → px.length = py.length → nestOk P fs = true →
    (Op.eqFields (d + 2) ((px ++ xs).map (SV.den ρ)).toArray ((py ++ ys).map (SV.den ρ)).toArray fs).run P w = .ok r w := by
  intro fs
  induction fs with
  | nil => intro xs ys px py r h _ _; simp only [eqCells2] at h; injection h with h; subst h; rfl
  | cons f fs ih =>
    intro xs ys px py r h hp hn
    simp only [nestOk, Bool.and_eq_true] at hn
    obtain ⟨hn1, hn2⟩ := hn
    simp only [eqCells2] at h
    cases hb : (!(Nat.beq f.offset px.length) || (f.name == "_")) with
    | true => rw [hb] at h; simp at h
    | false =>
      rw [hb] at h
      simp only [cond_false] at h
      have hoff : f.offset = px.length := by
        cases ho : Nat.beq f.offset px.length with
        | true => exact Nat.eq_of_beq_eq_true ho
        | false => rw [ho] at hb; simp at hb
      have hname : f.name ≠ "_" := by
        intro e
        rw [e] at hb; simp at hb
      have fin : ∀ (X Y : Value) (r0 r' : Bool) (n : Nat) (xs0 ys0 xs1 ys1 : List SV), xs = xs0 ++ xs1 → ys = ys0 ++ ys1 → xs0.length = n → ys0.length = n → (part f.type ((px ++ xs).map (SV.den ρ)).toArray f.offset).run P w = .ok X w → (part f.type ((py ++ ys).map (SV.den ρ)).toArray f.offset).run P w = .ok Y w → (Op.equalIn (d + 2) f.type X Y).run P w = .ok r0 w →
          eqCells2 P fs xs1 ys1 (px.length + n) = some r' → r = (r0 && r') → (Op.eqFields (d + 2) ((px ++ xs).map (SV.den ρ)).toArray ((py ++ ys).map (SV.den ρ)).toArray (f :: fs)).run P w = .ok r w := fun X Y r0 r' n xs0 ys0 xs1 ys1 hx0 hy0 hlx hly hX hY he h' hr => by
        subst hr
        simp only [Op.eqFields, ne_eq, hname, not_false_eq_true, if_true, Sem.run_bind, hX, hY, Result.andThen_ok, he]
        cases r0
        · simp
        · simp only [Bool.not_true, Bool.false_eq_true, if_false, Bool.true_and]
          have := ih xs1 ys1 (px ++ xs0) (py ++ ys0) r' (by rw [List.length_append, hlx]; exact h') (by rw [List.length_append, List.length_append, hlx, hly, hp]) hn2
          rw [hx0, hy0]
          rw [List.append_assoc, List.append_assoc] at this
          exact this
      split at h
      · cases h
      · rename_i s hs
        have hu := (ty_facts hs).und
        rw [hs] at hn1
        split at h
        · rename_i gs hd
          cases hc : (Nat.ble s.size xs.length && Nat.ble s.size ys.length) with
          | false => rw [hc] at h; cases h
          | true =>
            rw [hc] at h
            simp only [Bool.and_eq_true] at hc
            have l1 := Nat.le_of_ble_eq_true hc.1
            have l2 := Nat.le_of_ble_eq_true hc.2
            simp only [cond_true] at h
            split at h
            · rename_i r0 h0
              have hst : P.stoodInHeld f.type = false := by simpa [hd] using hn1
              have ha : TypeDesc.isAgg s.und = true := by rw [hd]; rfl
              rw [hd] at hu
              have hf : P.fieldsOf f.type = gs := by simp [Program.fieldsOf, hu]
              have he : (Op.equalIn (d + 2) f.type (.agg ((xs.take s.size).map (SV.den ρ)).toArray) (.agg ((ys.take s.size).map (SV.den ρ)).toArray)).run P w = .ok r0 w := by
                have h1 := run_equalIn_struct (P := P) w (d + 1) f.type ((xs.take s.size).map (SV.den ρ)).toArray ((ys.take s.size).map (SV.den ρ)).toArray (by rw [hf]; exact hu) hst
                rw [hf] at h1
                rw [h1]
                exact eqCells_run d w gs.toList (xs.take s.size) (ys.take s.size) [] [] r0 h0 rfl
              cases hr : eqCells2 P fs (xs.drop s.size) (ys.drop s.size) (px.length + s.size) with
              | none => rw [hr] at h; cases h
              | some r' =>
                rw [hr] at h
                injection h with h
                refine fin _ _ r0 r' s.size (xs.take s.size) (ys.take s.size) (xs.drop s.size) (ys.drop s.size) (List.take_append_drop _ _).symm (List.take_append_drop _ _).symm (by rw [List.length_take]; omega) (by rw [List.length_take]; omega) ?_ ?_ he hr h.symm
                · rw [part_agg hs ha, hoff, extract_cells]
                · rw [part_agg hs ha, hoff, hp, extract_cells]
            · cases h
        · cases xs with
          | nil => cases h
          | cons x xs' =>
          cases ys with
          | nil => cases h
          | cons y ys' =>
            simp only at h
            split at h
            · rename_i r0 h0
              obtain ⟨s', hs', ha, he⟩ := eqCells_one h0
              rw [hs] at hs'
              injection hs' with hs'
              subst hs'
              have hx : (((px ++ x :: xs').map (SV.den ρ)).toArray)[f.offset]? = some (x.den ρ) := by simp [hoff]
              have hy : (((py ++ y :: ys').map (SV.den ρ)).toArray)[f.offset]? = some (y.den ρ) := by simp [hoff, hp]
              cases hr : eqCells2 P fs xs' ys' (px.length + 1) with
              | none => rw [hr] at h; cases h
              | some r' =>
                rw [hr] at h
                injection h with h
                exact fin _ _ r0 r' 1 [x] [y] xs' ys' rfl rfl rfl rfl (part_one hs ha hx w) (part_one hs ha hy w) (he (d + 1) ρ w) hr h.symm
            · cases h

theorem guard_run {P : Program} {t : TypeId} (w : World) {X Y : Value} (h1 : ∀ a b, ¬ (X = .agg a ∧ Y = .agg b)) (h2 : ¬ (X = .nilIface ∧ Y = .nilIface)) (op : BinOp) (xo yo : Operand) :
    (eqGuard op t xo yo X Y).run P w = .ok () w := by
  unfold eqGuard
  cases op <;> first
    | rfl
    | (cases X <;> first
        | rfl
        | (cases Y <;> first | rfl | exact absurd ⟨rfl, rfl⟩ h2 | exact absurd ⟨rfl, rfl⟩ (h1 _ _)))

set_option maxHeartbeats 2000000 in
theorem eqIn_run {P : Program} {t : TypeId} {yc : Bool} {x y : SV} {r : Bool} (h : eqB P t yc x y = some r) (ρ : Nat → Loc) (w : World) (d : Nat) :
    (Op.equalIn (d + 3) t (x.den ρ) (y.den ρ)).run P w = .ok r w := by
  unfold eqB at h
  split at h
  · cases h
  · rename_i s hs
    have hu := (ty_facts hs).und
    split at h
    case h_1 =>
      cases hd : s.und <;> rw [hd] at h <;> simp [isBl] at h
      subst h
      rw [hd] at hu
      exact run_equalIn_bool' w _ t _ _ hu
    case h_15 =>
      split at h
      · rename_i fs xs ys hd hx hy
        cases hp : plainEq P t fs.toList with
        | false => rw [hp] at h; cases h
        | true =>
          rw [hp] at h
          simp only [cond_true] at h
          simp only [plainEq, Bool.and_eq_true, Bool.not_eq_true'] at hp
          rw [hd] at hu
          have hf : P.fieldsOf t = fs := by simp [Program.fieldsOf, hu]
          rw [SV.aggs?_den hx, SV.aggs?_den hy]
          have := run_equalIn_struct (P := P) w (d + 2) t (xs.map (SV.den ρ)).toArray (ys.map (SV.den ρ)).toArray (by rw [hf]; exact hu) hp.1.2
          rw [hf] at this
          rw [this]
          unfold eqDeep at h
          split at h
          · rename_i r1 h1
            injection h with h
            subst h
            exact eqCells_run (d + 1) w fs.toList xs ys [] [] r1 h1 rfl
          · exact eqCells2_run d w fs.toList xs ys [] [] r h rfl hp.2
      · cases h
    case h_14 =>
      rename_i b o b' o'
      unfold eqP at h
      split at h
      · rename_i e hd
        rw [hd] at hu
        cases hc : (P.info? e).isSome && Nat.beq b b' && Nat.beq o o' with
        | false => rw [hc] at h; cases h
        | true =>
          rw [hc] at h
          simp only [cond_true, Option.some.injEq] at h
          subst h
          simp only [Bool.and_eq_true] at hc
          obtain ⟨j, hj⟩ := Option.isSome_iff_exists.1 hc.1.1
          have h1 := Nat.eq_of_beq_eq_true hc.1.2
          have h2 := Nat.eq_of_beq_eq_true hc.2
          subst h1; subst h2
          show (Op.equalIn ((d + 2) + 1) t _ _).run P w = _
          simp [Op.equalIn, run_underlying hu, SV.den, sizeOf, typeInfo, hj, run_sameAddr_same]
      · cases h
    case h_13 =>
      rename_i u a u' b
      cases hd : s.und <;> rw [hd] at h <;> simp only [isIfc, cond_true, cond_false] at h <;> first | (cases h; done) | skip
      rw [hd] at hu
      unfold eqI at h
      show (Op.equalIn ((d + 2) + 1) t _ _).run P w = _
      cases hb : Nat.beq u u' with
      | false =>
        rw [hb] at h
        have hne : u ≠ u' := fun e => by rw [e, Nat.beq_refl] at hb; cases hb
        simp only [cond_false, Option.some.injEq] at h
        subst h
        generalize d + 2 = e
        simp [Op.equalIn, run_underlying hu, SV.den, hne]
      | true =>
        rw [hb] at h
        have := Nat.eq_of_beq_eq_true hb
        subst this
        simp only [cond_true] at h
        split at h
        · rename_i su hsu
          split at h
          · rename_i k ka m kb n hdu ha hb'
            cases hc : cmpT P u && kEq ka kb with
            | false => rw [hc] at h; cases h
            | true =>
              rw [hc] at h
              simp only [cond_true, Option.some.injEq] at h
              subst h
              simp only [Bool.and_eq_true] at hc
              obtain ⟨i, hinfo, hcomp⟩ := cmpT_some hc.1
              have hk := kEq_iff.1 hc.2
              subst hk
              have hu2 := (ty_facts hsu).und
              rw [hdu] at hu2
              have key := run_equalIn_int (P := P) w (d + 1) u ka k m n hu2
              change (Op.equalIn (d + 2) u _ _).run P w = _ at key
              rw [show (m == n) = decide (m = n) from rfl] at key
              rw [SV.den, SV.den, SV.int?_den ha, SV.int?_den hb']
              revert key
              generalize d + 2 = e
              intro key
              simp [Op.equalIn, run_underlying hu, typeInfo, hinfo, hcomp, key]
          · cases h
        · cases h
    case h_4 => rename_i a; cases a <;> (cases hd : s.und <;> rw [hd] at h <;> simp [isPtr] at h; rw [hd] at hu; subst h; show (Op.equalIn ((d + 2) + 1) t _ _).run P w = _; generalize d + 2 = e; simp only [Op.equalIn, Sem.run_bind, run_underlying hu, Result.andThen_ok, SV.den, Sem.run_pure]; try rfl)
    case h_6 => rename_i a _ _ _ _; cases a <;> (cases hd : s.und <;> rw [hd] at h <;> simp [isSlc] at h; rw [hd] at hu; subst h; show (Op.equalIn ((d + 2) + 1) t _ _).run P w = _; generalize d + 2 = e; simp only [Op.equalIn, Sem.run_bind, run_underlying hu, Result.andThen_ok, SV.den, Sem.run_pure]; try rfl)
    case h_8 => rename_i a; cases a <;> (cases hd : s.und <;> rw [hd] at h <;> simp [isMp] at h; rw [hd] at hu; subst h; show (Op.equalIn ((d + 2) + 1) t _ _).run P w = _; generalize d + 2 = e; simp only [Op.equalIn, Sem.run_bind, run_underlying hu, Result.andThen_ok, SV.den, Sem.run_pure]; try rfl)
    all_goals
      (cases hd : s.und <;> rw [hd] at h <;> simp [isPtr, isSlc, isMp, isFn, isIfc] at h)
    all_goals
      rw [hd] at hu
      show (Op.equalIn ((d + 2) + 1) t _ _).run P w = _
      generalize d + 2 = e
      simp only [Op.equalIn, Sem.run_bind, run_underlying hu, Result.andThen_ok, SV.den, Sem.run_pure]
    all_goals first
      | (subst h; rfl)
      | (cases yc with
         | true => simp at h; subst h; rfl
         | false => simp at h)

theorem eqB_run {P : Program} {t : TypeId} {yc : Bool} {x y : SV} {r : Bool} (h : eqB P t yc x y = some r) (ρ : Nat → Loc) (w : World) :
    (Op.equal t (x.den ρ) (y.den ρ)).run P w = .ok r w ∧
    ∀ (op : BinOp) (xo yo : Operand), (yc = true → ∃ c, yo = .const c) → (eqGuard op t xo yo (x.den ρ) (y.den ρ)).run P w = .ok () w := by
  refine ⟨eqIn_run h ρ w 9997, ?_⟩
  unfold eqB at h
  split at h
  · cases h
  · rename_i s hs
    have hu := (ty_facts hs).und
    split at h
    case h_12 =>
      cases hd : s.und <;> rw [hd] at h <;> simp [isIfc] at h
      intro op xo yo hc
      obtain ⟨c, rfl⟩ := hc (by cases yc with | true => rfl | false => cases h)
      cases op <;> simp [eqGuard, SV.den]
    case h_15 =>
      split at h
      · rename_i fs xs ys hd hx hy
        cases hp : plainEq P t fs.toList with
        | false => rw [hp] at h; cases h
        | true =>
          simp only [plainEq, Bool.and_eq_true, Bool.not_eq_true'] at hp
          rw [SV.aggs?_den hx, SV.aggs?_den hy]
          exact fun op xo yo _ => run_eqGuard_agg w op t xo yo _ _ hp.1.1
      · cases h
    all_goals exact fun op xo yo _ => guard_run w (by simp [SV.den]) (by simp [SV.den]) op xo yo

/-! ### Binary operations -/

/-- The same without a look at the type; and that look. -/
def eqN (P : Program) (t : TypeId) (yc : Bool) (x y : SV) : Option Bool :=
  match ty P t with
  | none => none
  | some s =>
    match s.und with
    | .struct fs => match x.aggs?, y.aggs? with
      | some xs, some ys => eqDeep P fs.toList xs ys
      | _, _ => none
    | _ => eqB P t yc x y

def sideE (P : Program) (t : TypeId) : Bool := match ty P t with
  | none => true
  | some s => match s.und with
    | .struct fs => plainEq P t fs.toList
    | _ => true

theorem eqN_eqB {P : Program} {t : TypeId} {yc : Bool} {x y : SV} {e : Bool} (h : eqN P t yc x y = some e) (hs : sideE P t = true) : eqB P t yc x y = some e := by
  unfold eqN at h
  unfold sideE at hs
  split at h
  · cases h
  · rename_i s hty
    rw [hty] at hs
    simp only at hs
    split at h
    · rename_i fs hd
      rw [hd] at hs
      simp only at hs
      split at h
      · rename_i xs ys hx hy
        unfold eqB
        rw [hty]
        have hx' := hx
        have hy' := hy
        unfold SV.aggs? at hx hy
        split at hx
        · split at hy
          · simp only [hd, SV.aggs?] at hx' hy' ⊢
            injection hx' with hx'; injection hy' with hy'; subst hx'; subst hy'
            rw [hs]; exact h
          · simp only [hd, SV.aggs?] at hx' hy' ⊢
            injection hx' with hx'; injection hy' with hy'; subst hx'; subst hy'
            rw [hs]; exact h
          · cases hy
        · split at hy
          · simp only [hd, SV.aggs?] at hx' hy' ⊢
            injection hx' with hx'; injection hy' with hy'; subst hx'; subst hy'
            rw [hs]; exact h
          · simp only [hd, SV.aggs?] at hx' hy' ⊢
            injection hx' with hx'; injection hy' with hy'; subst hx'; subst hy'
            rw [hs]; exact h
          · cases hy
        · cases hx
      · cases h
    · exact h

def isCst : Operand → Bool
  | .const _ => true
  | _ => false

def binV (P : Program) (op : BinOp) (t : TypeId) (yc : Bool) (x y : SV) : Option (Bool × SV) :=
  match x.int?, y.int? with
  | some (k, a), some (k', b) => intBin op k k' a b
  | _, _ => match x.str?, y.str? with
    | some l, some m => strBin op l m
    | _, _ => match op with
      | .eql => match eqN P t yc x y with
        | some e => some (sideE P t, .v (.bool e))
        | none => none
      | .neq => match eqN P t yc x y with
        | some e => some (sideE P t, .v (.bool (!e)))
        | none => none
      | _ => none

theorem binV_lt {P : Program} {op : BinOp} {t : TypeId} {yc : Bool} {x y z : SV} {r : Bool} (h : binV P op t yc x y = some (r, z)) (ρ : Nat → Loc) (n : Nat) : z.lt ρ n := by
  unfold binV at h
  split at h
  · exact intBin_lt h ρ n
  · split at h
    · exact strBin_lt h ρ n
    · split at h
      · split at h
        · injection h with h; injection h with _ h; subst h; trivial
        · cases h
      · split at h
        · injection h with h; injection h with _ h; subst h; trivial
        · cases h
      · cases h

theorem binOp_eql {P : Program} {t : TypeId} {X Y : Value} {w : World} {e : Bool} (h : (Op.equal t X Y).run P w = .ok e w) (h1 : ∀ k a k' b, ¬ (X = .int k a ∧ Y = .int k' b)) (h2 : ∀ a b, ¬ (X = .string a ∧ Y = .string b))
    (h3 : ∀ k a k' b, ¬ (X = .float k a ∧ Y = .float k' b)) (h4 : ∀ k a b k' c d, ¬ (X = .complex k a b ∧ Y = .complex k' c d)) : (binOp .eql t X Y).run P w = .ok (.bool e) w := by
  have : binOp .eql t X Y = (do pure (.bool (← Op.equal t X Y)) : Sem Value) := by
    unfold binOp
    cases X <;> first
      | rfl
      | (cases Y <;> first | rfl | exact absurd ⟨rfl, rfl⟩ (h1 _ _ _ _) | exact absurd ⟨rfl, rfl⟩ (h2 _ _) | exact absurd ⟨rfl, rfl⟩ (h3 _ _ _ _) | exact absurd ⟨rfl, rfl⟩ (h4 _ _ _ _ _ _))
  rw [this]
  simp only [Sem.run_bind, h, Result.andThen_ok, Sem.run_pure]

theorem binOp_neq {P : Program} {t : TypeId} {X Y : Value} {w : World} {e : Bool} (h : (Op.equal t X Y).run P w = .ok e w) (h1 : ∀ k a k' b, ¬ (X = .int k a ∧ Y = .int k' b)) (h2 : ∀ a b, ¬ (X = .string a ∧ Y = .string b))
    (h3 : ∀ k a k' b, ¬ (X = .float k a ∧ Y = .float k' b)) (h4 : ∀ k a b k' c d, ¬ (X = .complex k a b ∧ Y = .complex k' c d)) : (binOp .neq t X Y).run P w = .ok (.bool (!e)) w := by
  have : binOp .neq t X Y = (do pure (.bool (!(← Op.equal t X Y))) : Sem Value) := by
    unfold binOp
    cases X <;> first
      | rfl
      | (cases Y <;> first | rfl | exact absurd ⟨rfl, rfl⟩ (h1 _ _ _ _) | exact absurd ⟨rfl, rfl⟩ (h2 _ _) | exact absurd ⟨rfl, rfl⟩ (h3 _ _ _ _) | exact absurd ⟨rfl, rfl⟩ (h4 _ _ _ _ _ _))
  rw [this]
  simp only [Sem.run_bind, h, Result.andThen_ok, Sem.run_pure]

/-- What an equality speaks of is neither two numbers nor two strings. -/
theorem eqB_shape {P : Program} {t : TypeId} {yc : Bool} {x y : SV} {e : Bool} (h : eqB P t yc x y = some e) (ρ : Nat → Loc) :
    (∀ k a k' b, ¬ (x.den ρ = .int k a ∧ y.den ρ = .int k' b)) ∧ (∀ a b, ¬ (x.den ρ = .string a ∧ y.den ρ = .string b)) ∧
    (∀ k a k' b, ¬ (x.den ρ = .float k a ∧ y.den ρ = .float k' b)) ∧ (∀ k a b k' c d, ¬ (x.den ρ = .complex k a b ∧ y.den ρ = .complex k' c d)) := by
  unfold eqB at h
  split at h
  · cases h
  · split at h
    case h_15 =>
      split at h
      · rename_i fs xs ys hd hx hy
        rw [SV.aggs?_den hx, SV.aggs?_den hy]
        simp
      · cases h
    all_goals simp [SV.den]

theorem binV_run {P : Program} {op : BinOp} {t : TypeId} {yc : Bool} {x y z : SV} {r : Bool} (h : binV P op t yc x y = some (r, z)) (hr : r = true) (ρ : Nat → Loc) (w : World) (xo yo : Operand) (hc : yc = true → ∃ c, yo = .const c) :
    (do eqGuard op t xo yo (x.den ρ) (y.den ρ); binOp op t (x.den ρ) (y.den ρ) : Sem Value).run P w = .ok (z.den ρ) w := by
  unfold binV at h
  split at h
  · rename_i k a k' b h1 h2
    rw [SV.int?_den h1, SV.int?_den h2]
    simp only [Sem.run_bind, guard_run w (X := .int k a) (Y := .int k' b) (by simp) (by simp), Result.andThen_ok]
    exact intBin_run h hr t ρ w
  · split at h
    · rename_i l m h1 h2
      rw [SV.str?_den h1, SV.str?_den h2]
      simp only [Sem.run_bind, guard_run w (X := .string ⟨l.toArray⟩) (Y := .string ⟨m.toArray⟩) (by simp) (by simp), Result.andThen_ok]
      exact strBin_run h hr t ρ w
    · split at h
      · split at h
        · rename_i e he
          injection h with h; injection h with hside h; subst h
          have he := eqN_eqB he (hside.trans hr)
          obtain ⟨h1, h2⟩ := eqB_run he ρ w
          obtain ⟨k1, k2, k3, k4⟩ := eqB_shape he ρ
          simp only [Sem.run_bind, h2 .eql xo yo hc, Result.andThen_ok]
          exact binOp_eql h1 k1 k2 k3 k4
        · cases h
      · split at h
        · rename_i e he
          injection h with h; injection h with hside h; subst h
          have he := eqN_eqB he (hside.trans hr)
          obtain ⟨h1, h2⟩ := eqB_run he ρ w
          obtain ⟨k1, k2, k3, k4⟩ := eqB_shape he ρ
          simp only [Sem.run_bind, h2 .neq xo yo hc, Result.andThen_ok]
          exact binOp_neq h1 k1 k2 k3 k4
        · cases h
      · cases h

end
end Go.Sx

namespace Go.Sx
noncomputable section

/-! ### One operand -/

def unV (op : UnOp) (x : SV) : Option SV :=
  match op, x with
  | .not, .v (.bool b) => some (.v (.bool (!b)))
  | .neg, .v (.int k n) => some (.v (.int k (k.wrap (0 - n))))
  | .xor, .v (.int k n) => some (.v (.int k (bitsOf .xor k (if k.signed then -1 else k.max) n)))
  | _, _ => none

theorem unV_run {P : Program} {op : UnOp} {x z : SV} (h : unV op x = some z) (ρ : Nat → Loc) (w : World) : (Op.unary op (x.den ρ)).run P w = .ok (z.den ρ) w := by
  unfold unV at h
  split at h <;> first | (cases h; done) | (injection h with h; subst h)
  · rfl
  · rfl
  · rfl

theorem unV_lt {op : UnOp} {x z : SV} (h : unV op x = some z) (ρ : Nat → Loc) (n : Nat) : z.lt ρ n := by
  unfold unV at h
  split at h <;> first | (cases h; done) | (injection h with h; subst h; trivial)

def convV (P : Program) (src dst : TypeId) (x : SV) : Option SV :=
  match ty P src, ty P dst with
  | some s, some d =>
    match d.und, x.int? with
    | .int k, some (_, n) => some (.v (.int k (k.wrap n)))
    | .string, none => match s.und, x.str? with
      | .string, some _ => some x
      | _, _ => none
    | _, _ => none
  | _, _ => none

theorem convV_run {P : Program} {src dst : TypeId} {x z : SV} (h : convV P src dst x = some z) (ρ : Nat → Loc) (w : World) : (convert src dst (x.den ρ)).run P w = .ok (z.den ρ) w := by
  unfold convV at h
  split at h
  · rename_i s d hs hd
    split at h
    · rename_i k n0 n hk hx
      injection h with h; subst h
      rw [SV.int?_den hx]
      simp only [convert, Sem.run_bind, r_underlying w hs, r_underlying w hd, Result.andThen_ok, hk]
      rfl
    · rename_i hk hx
      split at h
      · rename_i l hsu hl
        injection h with h; subst h
        rw [SV.str?_den hl]
        simp only [convert, Sem.run_bind, r_underlying w hs, r_underlying w hd, Result.andThen_ok, hk, hsu]
        rfl
      · cases h
    · cases h
  · cases h

theorem convV_lt {P : Program} {src dst : TypeId} {x z : SV} (h : convV P src dst x = some z) {ρ : Nat → Loc} {n : Nat} (hx : x.lt ρ n) : z.lt ρ n := by
  unfold convV at h
  split at h
  · split at h
    · injection h with h; subst h; trivial
    · split at h
      · injection h with h; subst h; exact hx
      · cases h
    · cases h
  · cases h

def nilV (x : SV) : Option (Bool × SV) :=
  match x with
  | .ptr b o => some (true, .ptr b o)
  | .v (.pointer o) => some (o.isSome, .v (.pointer o))
  | .fn f cs => some (true, .fn f cs)
  | .ifc t y => some (true, .ifc t y)
  | _ => none

def ifcV (P : Program) (t : TypeId) (x : SV) : Option SV :=
  match ty P t with
  | some s => bif isIfc s.und then none else some (.ifc t x)
  | none => none

theorem ifcV_run {P : Program} {t : TypeId} {x z : SV} (h : ifcV P t x = some z) (ρ : Nat → Loc) (w : World) : (Instr.makeInterface t (x.den ρ)).run P w = .ok (z.den ρ) w := by
  unfold ifcV at h
  split at h
  · rename_i s hs
    cases hi : isIfc s.und with
    | true => rw [hi] at h; cases h
    | false =>
      rw [hi] at h
      injection h with h; subst h
      simp only [Instr.makeInterface, Sem.run_bind, r_underlying w hs, Result.andThen_ok]
      cases hd : s.und <;> rw [hd] at hi <;> first | (cases hi; done) | rfl
  · cases h

theorem ifcV_lt {P : Program} {t : TypeId} {x z : SV} (h : ifcV P t x = some z) {ρ : Nat → Loc} {n : Nat} (hx : x.lt ρ n) : z.lt ρ n := by
  unfold ifcV at h
  split at h
  · rename_i s hs
    cases hi : isIfc s.und with
    | true => rw [hi] at h; cases h
    | false => rw [hi] at h; injection h with h; subst h; exact hx
  · cases h

/-- An assertion that a value is of a concrete type, which it is. -/
def assertV (P : Program) (t : TypeId) (ok : Bool) (x : SV) : Option SV :=
  match ty P t with
  | some s => bif isIfc s.und then none else match x with
    | .ifc u y => bif Nat.beq u t then some (bif ok then .tup [y, .v (.bool true)] else y) else none
    | _ => none
  | none => none

theorem assertV_run {P : Program} {xt t : TypeId} {ok : Bool} {x z : SV} (h : assertV P t ok x = some z) (ρ : Nat → Loc) (w : World) : (Instr.typeAssert (x.den ρ) xt t ok).run P w = .ok (z.den ρ) w := by
  unfold assertV at h
  split at h
  · rename_i s hs
    cases hi : isIfc s.und with
    | true => rw [hi] at h; cases h
    | false =>
      rw [hi] at h
      simp only [cond_false] at h
      split at h
      · rename_i u y
        cases hu : Nat.beq u t with
        | false => rw [hu] at h; cases h
        | true =>
          rw [hu] at h
          have hu := Nat.eq_of_beq_eq_true hu
          subst hu
          simp only [cond_true, Option.some.injEq] at h
          subst h
          simp only [Instr.typeAssert, Sem.run_bind, r_underlying w hs, Result.andThen_ok]
          cases hd : s.und <;> rw [hd] at hi <;> first | (cases hi; done) | (cases ok <;> simp [SV.den, SV.dens])
      · cases h
  · cases h

theorem assertV_lt {P : Program} {t : TypeId} {ok : Bool} {x z : SV} (h : assertV P t ok x = some z) {ρ : Nat → Loc} {n : Nat} (hx : x.lt ρ n) : z.lt ρ n := by
  unfold assertV at h
  split at h
  · rename_i s hs
    cases hi : isIfc s.und with
    | true => rw [hi] at h; cases h
    | false =>
      rw [hi] at h
      simp only [cond_false] at h
      split at h
      · rename_i u y
        cases hu : Nat.beq u t with
        | false => rw [hu] at h; cases h
        | true =>
          rw [hu] at h
          simp only [cond_true, Option.some.injEq] at h
          subst h
          cases ok with
          | true => exact lts_iff.2 (fun v hv => by
              rcases List.mem_cons.1 hv with rfl | hv
              · exact hx
              · rcases List.mem_singleton.1 hv with rfl; trivial)
          | false => exact hx
      · cases h
  · cases h

/-! ### Addresses -/

theorem add_none (b o n : Nat) : (⟨b, o, none⟩ : Addr).add n = ⟨b, o + n, none⟩ := by
  unfold Addr.add; split
  · subst_vars; rfl
  · rfl

def structFields (P : Program) (t : TypeId) : Option (List Field) :=
  match ty P t with
  | some s => match s.und with
    | .struct fs => some fs.toList
    | _ => none
  | none => none

theorem structFields_und {P : Program} {t : TypeId} {fs : List Field} (h : structFields P t = some fs) : P.underlying t = some (.struct fs.toArray) := by
  unfold structFields at h
  split at h
  · rename_i s hs
    split at h
    · rename_i fs' hd
      injection h with h; subst h
      rw [(ty_facts hs).und, hd]
    · cases h
  · cases h

def fieldAddrV (P : Program) (t : TypeId) (x : SV) (i : Nat) : Option SV :=
  match structFields P t with
  | none => none
  | some fs => match fs[i]? with
    | none => none
    | some f => match ty P f.type with
      | none => none
      | some s => bif Nat.beq s.size 0 then none else
        match x with
        | .ptr b o => some (.ptr b (o + f.offset))
        | .v (.pointer (some ⟨b, o, none⟩)) => some (.v (.pointer (some ⟨b, o + f.offset, none⟩)))
        | _ => none

theorem fieldAddrV_run {P : Program} {t : TypeId} {x z : SV} {i : Nat} (h : fieldAddrV P t x i = some z) (ρ : Nat → Loc) (w : World) : (Instr.fieldAt t (x.den ρ) i).run P w = .ok (z.den ρ) w := by
  unfold fieldAddrV at h
  split at h
  · cases h
  · rename_i fs hfs
    split at h
    · cases h
    · rename_i f hf
      split at h
      · cases h
      · rename_i s hs
        cases h0 : Nat.beq s.size 0 with
        | true => rw [h0] at h; cases h
        | false =>
          rw [h0] at h
          have hne : s.size ≠ 0 := fun e => by rw [e] at h0; cases h0
          have hu := run_underlying (structFields_und hfs) w
          have hplace : ∀ a, (fieldPlace a f).run P w = .ok (a.add f.offset) w := fun a => by
            simp only [fieldPlace, Sem.run_bind, r_sizeOf w hs, Result.andThen_ok, hne, if_false, Sem.run_pure]
          have hf' : fs.toArray[i]? = some f := by simpa using hf
          simp only [cond_false] at h
          split at h
          · injection h with h; subst h
            simp only [Instr.fieldAt, Sem.run_bind, hu, Result.andThen_ok, hf', SV.den, Instr.sureAddr, Sem.run_pure, hplace, add_none, Nat.add_assoc]
          · injection h with h; subst h
            simp only [Instr.fieldAt, Sem.run_bind, hu, Result.andThen_ok, hf', SV.den, Instr.sureAddr, Sem.run_pure, hplace, add_none]
          · cases h

theorem fieldAddrV_lt {P : Program} {t : TypeId} {x z : SV} {i : Nat} (h : fieldAddrV P t x i = some z) {ρ : Nat → Loc} {n : Nat} (hx : x.lt ρ n) : z.lt ρ n := by
  unfold fieldAddrV at h
  split at h
  · cases h
  · split at h
    · cases h
    · split at h
      · cases h
      · rename_i s hs
        cases h0 : Nat.beq s.size 0 with
        | true => rw [h0] at h; cases h
        | false =>
          rw [h0] at h
          simp only [cond_false] at h
          split at h
          · injection h with h; subst h; exact hx
          · injection h with h; subst h; trivial
          · cases h

/-- A part of an aggregate. -/
def partV (P : Program) (t : TypeId) (cs : List SV) (o : Nat) : Option SV :=
  match ty P t with
  | none => none
  | some s => bif TypeDesc.isAgg s.und then some (.agg ((cs.drop o).take s.size)) else cs[o]?

theorem partV_run {P : Program} {t : TypeId} {cs : List SV} {o : Nat} {z : SV} (h : partV P t cs o = some z) (ρ : Nat → Loc) (w : World) : (part t (cs.map (SV.den ρ)).toArray o).run P w = .ok (z.den ρ) w := by
  unfold partV at h
  split at h
  · cases h
  · rename_i s hs
    cases ha : TypeDesc.isAgg s.und with
    | true =>
      rw [ha] at h
      injection h with h; subst h
      rw [part_agg hs ha]
      simp only [SV.den, dens_eq, List.map_take, List.map_drop]
      congr 3
      simp [List.extract_eq_take_drop]
    | false =>
      rw [ha] at h
      exact part_one hs ha (by simp [show cs[o]? = some z from h]) w

theorem partV_lt {P : Program} {t : TypeId} {cs : List SV} {o : Nat} {z : SV} (h : partV P t cs o = some z) {ρ : Nat → Loc} {n : Nat} (hx : ∀ y ∈ cs, y.lt ρ n) : z.lt ρ n := by
  unfold partV at h
  split at h
  · cases h
  · rename_i s hs
    cases ha : TypeDesc.isAgg s.und with
    | true =>
      rw [ha] at h
      injection h with h; subst h
      exact lts_iff.2 fun y hy => hx y (List.mem_of_mem_drop (List.mem_of_mem_take hy))
    | false => rw [ha] at h; exact hx z (List.mem_of_getElem? h)

def fieldV (P : Program) (t : TypeId) (x : SV) (i : Nat) : Option SV :=
  match structFields P t, x.aggs? with
  | some fs, some cs => match fs[i]? with
    | none => none
    | some f => partV P f.type cs f.offset
  | _, _ => none

theorem fieldV_run {P : Program} {t : TypeId} {x z : SV} {i : Nat} (h : fieldV P t x i = some z) (ρ : Nat → Loc) (w : World) : (Instr.field t (x.den ρ) i).run P w = .ok (z.den ρ) w := by
  unfold fieldV at h
  split at h
  · rename_i fs cs hfs hcs
    split at h
    · cases h
    · rename_i f hf
      have hf' : fs.toArray[i]? = some f := by simpa using hf
      rw [SV.aggs?_den hcs]
      simp only [Instr.field, Sem.run_bind, run_underlying (structFields_und hfs) w, Result.andThen_ok, hf', asAgg, Sem.run_pure]
      exact partV_run h ρ w
  · cases h

theorem fieldV_lt {P : Program} {t : TypeId} {x z : SV} {i : Nat} (h : fieldV P t x i = some z) {ρ : Nat → Loc} {n : Nat} (hx : x.lt ρ n) : z.lt ρ n := by
  unfold fieldV at h
  split at h
  · rename_i fs cs hfs hcs
    split at h
    · cases h
    · exact partV_lt h (SV.aggs?_lt hcs hx)
  · cases h

/-- An index that is asked for: is it in range? -/
def inRange (n : Int) (l : Nat) : Bool := decide (0 ≤ n) && decide (n < l)

theorem inRange_iff {n : Int} {l : Nat} : inRange n l = true ↔ 0 ≤ n ∧ n < l := by simp [inRange]

def indexAddrV (P : Program) (t : TypeId) (x i : SV) : Option (Bool × SV) :=
  match ty P t, i.int? with
  | some s, some (_, n) =>
    match s.und, x with
    | .array len e, .ptr b o => match ty P e with
      | some se => some (inRange n len, .ptr b (o + n.toNat * se.size))
      | none => none
    | .array len e, .v (.pointer (some ⟨b, o, none⟩)) => match ty P e with
      | some se => some (inRange n len, .v (.pointer (some ⟨b, o + n.toNat * se.size, none⟩)))
      | none => none
    | .slice e, .slc b o l _ => match ty P e with
      | some se => some (inRange n l, .ptr b (o + n.toNat * se.size))
      | none => none
    | .slice e, .v (.slice (some ⟨b, o, none⟩) l _) => match ty P e with
      | some se => some (inRange n l, .v (.pointer (some ⟨b, o + n.toNat * se.size, none⟩)))
      | none => none
    | _, _ => none
  | _, _ => none

theorem indexAddrV_run {P : Program} {t : TypeId} {x i z : SV} {r : Bool} (h : indexAddrV P t x i = some (r, z)) (hr : r = true) (ρ : Nat → Loc) (w : World) : (Instr.indexAt t (x.den ρ) (i.den ρ)).run P w = .ok (z.den ρ) w := by
  subst hr
  unfold indexAddrV at h
  split at h
  · rename_i s k n hs hi
    rw [SV.int?_den hi]
    have hu := r_underlying w hs
    split at h
    all_goals first
      | (cases h; done)
      | (rename_i hd
         split at h
         · rename_i se hse
           injection h with h; injection h with h1 h2; subst h2
           have hr := inRange_iff.1 h1
           simp only [Instr.indexAt, asIntOf, Sem.run_bind, hu, hd, Result.andThen_ok, SV.den, Instr.sureAddr, Sem.run_pure, hr, and_self, if_true, r_sizeOf w hse, add_none, Nat.add_assoc]
         · cases h)
  · cases h

theorem indexAddrV_lt {P : Program} {t : TypeId} {x i z : SV} {r : Bool} (h : indexAddrV P t x i = some (r, z)) {ρ : Nat → Loc} {n : Nat} (hx : x.lt ρ n) : z.lt ρ n := by
  unfold indexAddrV at h
  split at h
  · split at h
    all_goals first
      | (cases h; done)
      | (split at h
         · injection h with h; injection h with h1 h2; subst h2
           first
             | trivial
             | exact hx
             | exact hx.1
         · cases h)
  · cases h

def indexV (P : Program) (t : TypeId) (x i : SV) : Option (Bool × SV) :=
  match ty P t, i.int? with
  | some s, some (_, n) =>
    match s.und with
    | .array len e => match x.aggs?, ty P e with
      | some cs, some se => match partV P e cs (n.toNat * se.size) with
        | some z => some (inRange n len, z)
        | none => none
      | _, _ => none
    | .string => match x.str? with
      | some l => some (inRange n l.length, .v (.int .u8 (l.getD n.toNat 0).toNat))
      | none => none
    | _ => none
  | _, _ => none

theorem indexV_run {P : Program} {t : TypeId} {x i z : SV} {r : Bool} (h : indexV P t x i = some (r, z)) (hr : r = true) (ρ : Nat → Loc) (w : World) : (Instr.index t (x.den ρ) (i.den ρ)).run P w = .ok (z.den ρ) w := by
  subst hr
  unfold indexV at h
  split at h
  · rename_i s k n hs hi
    rw [SV.int?_den hi]
    have hu := r_underlying w hs
    split at h
    · rename_i len e hd
      split at h
      · rename_i cs se hcs hse
        split at h
        · rename_i z' hz
          injection h with h; injection h with h1 h2; subst h2
          have hr := inRange_iff.1 h1
          rw [SV.aggs?_den hcs]
          simp only [Instr.index, asIntOf, Sem.run_bind, hu, hd, Result.andThen_ok, Sem.run_pure, hr, and_self, if_true, r_sizeOf w hse]
          exact partV_run hz ρ w
        · cases h
      · cases h
    · rename_i hd
      split at h
      · rename_i l hl
        injection h with h; injection h with h1 h2; subst h2
        have hr := inRange_iff.1 h1
        rw [SV.str?_den hl]
        have hb : (⟨l.toArray⟩ : ByteArray)[n.toNat]? = some (l.getD n.toNat 0) := by
          have hlt : n.toNat < l.length := by omega
          have : (⟨l.toArray⟩ : ByteArray)[n.toNat]? = l[n.toNat]? := by
            rw [getElem?_def]
            split
            · rename_i hh
              rw [List.getElem?_eq_getElem (by omega)]
              rfl
            · rename_i hh
              exact absurd (show n.toNat < (⟨l.toArray⟩ : ByteArray).size by show n.toNat < l.toArray.size; simpa using hlt) hh
          rw [this, List.getElem?_eq_getElem hlt, List.getD_eq_getElem?_getD, List.getElem?_eq_getElem hlt]; rfl
        simp only [Instr.index, asIntOf, Sem.run_bind, hu, hd, Result.andThen_ok, Sem.run_pure, hr.1, if_true, hb, SV.den]
      · cases h
    · cases h
  · cases h

theorem indexV_lt {P : Program} {t : TypeId} {x i z : SV} {r : Bool} (h : indexV P t x i = some (r, z)) {ρ : Nat → Loc} {n : Nat} (hx : x.lt ρ n) : z.lt ρ n := by
  unfold indexV at h
  split at h
  · split at h
    · split at h
      · rename_i cs se hcs hse
        split at h
        · rename_i z' hz
          injection h with h; injection h with h1 h2; subst h2
          exact partV_lt hz (SV.aggs?_lt hcs hx)
        · cases h
      · cases h
    · split at h
      · injection h with h; injection h with h1 h2; subst h2; trivial
      · cases h
    · cases h
  · cases h

def extractV (x : SV) (i : Nat) : Option SV :=
  match x with
  | .tup vs => vs[i]?
  | .v (.tuple vs) => (vs.toList[i]?).map .v
  | _ => none

theorem extractV_run {P : Program} {x z : SV} {i : Nat} (h : extractV x i = some z) (ρ : Nat → Loc) (w : World) : (Instr.extract (x.den ρ) i).run P w = .ok (z.den ρ) w := by
  unfold extractV at h
  split at h
  · rename_i vs
    simp only [Instr.extract, SV.den, dens_eq, List.getElem?_toArray, List.getElem?_map, h, Option.map_some, Sem.run_pure]
  · rename_i vs
    cases hv : vs.toList[i]? with
    | none => rw [hv] at h; cases h
    | some v =>
      rw [hv] at h
      injection h with h; subst h
      have : vs[i]? = some v := by simpa using hv
      simp only [Instr.extract, SV.den, this, Sem.run_pure]
  · cases h

theorem extractV_lt {x z : SV} {i : Nat} (h : extractV x i = some z) {ρ : Nat → Loc} {n : Nat} (hx : x.lt ρ n) : z.lt ρ n := by
  unfold extractV at h
  split at h
  · exact lts_iff.1 hx z (List.mem_of_getElem? h)
  · rename_i vs
    cases hv : vs.toList[i]? with
    | none => rw [hv] at h; cases h
    | some v => rw [hv] at h; injection h with h; subst h; trivial
  · cases h

end
end Go.Sx
