/-
  A small library of my own: a symbolic executor for the model's code, whose answer is a proposition that the kernel reckons. This text: tries, symbolic values, the relation between a symbolic heap and a world.
-/
import Derived.Calls
import Derived.Laws.Sem
import Derived.Below
namespace Go.Sx
noncomputable section
variable {dfs : List Deferred}

/-! ### Tries, keyed by natural numbers -/

inductive T (α : Type) where
  | e
  | n (l : T α) (v : Option α) (r : T α)

namespace T
variable {α : Type}

theorem rec_cond {β : Type} (b : Bool) (x y : β) : Bool.rec (motive := fun _ => β) y x b = cond b x y := by cases b <;> rfl

/-- What is kept at i. -/
def get (t : T α) : Nat → Option α :=
  T.rec (motive := fun _ => Nat → Option α) (fun _ => none) (fun _ v _ gl gr i => Nat.rec (motive := fun _ => Option α) v (fun j _ => Bool.rec (motive := fun _ => Option α) (gr (Nat.div j 2)) (gl (Nat.div j 2)) (Nat.beq (Nat.mod j 2) 0)) i) t

def setF (f : Nat) : T α → Nat → Option α → T α :=
  Nat.rec (motive := fun _ => T α → Nat → Option α → T α) (fun _ _ _ => .e)
    (fun _ ih t i x => T.rec (motive := fun _ => T α)
      (Nat.rec (motive := fun _ => T α) (.n .e x .e) (fun j _ => Bool.rec (motive := fun _ => T α) (.n .e none (ih .e (Nat.div j 2) x)) (.n (ih .e (Nat.div j 2) x) none .e) (Nat.beq (Nat.mod j 2) 0)) i)
      (fun l v r _ _ => Nat.rec (motive := fun _ => T α) (.n l x r) (fun j _ => Bool.rec (motive := fun _ => T α) (.n l v (ih r (Nat.div j 2) x)) (.n (ih l (Nat.div j 2) x) v r) (Nat.beq (Nat.mod j 2) 0)) i) t) f

theorem get_n0 (l : T α) (v : Option α) (r : T α) : (T.n l v r).get 0 = v := rfl
theorem get_nS (l : T α) (v : Option α) (r : T α) (j : Nat) : (T.n l v r).get (j + 1) = bif Nat.beq (j % 2) 0 then l.get (j / 2) else r.get (j / 2) := rec_cond _ _ _
theorem setF_0 (t : T α) (i : Nat) (x : Option α) : setF 0 t i x = .e := rfl
theorem setF_e0 (f : Nat) (x : Option α) : setF (f + 1) (.e : T α) 0 x = .n .e x .e := rfl
theorem setF_eS (f j : Nat) (x : Option α) : setF (f + 1) (.e : T α) (j + 1) x = bif Nat.beq (j % 2) 0 then .n (setF f .e (j / 2) x) none .e else .n .e none (setF f .e (j / 2) x) := rec_cond _ _ _
theorem setF_n0 (f : Nat) (l : T α) (v : Option α) (r : T α) (x : Option α) : setF (f + 1) (.n l v r) 0 x = .n l x r := rfl
theorem setF_nS (f : Nat) (l : T α) (v : Option α) (r : T α) (j : Nat) (x : Option α) : setF (f + 1) (.n l v r) (j + 1) x = bif Nat.beq (j % 2) 0 then .n (setF f l (j / 2) x) v r else .n l v (setF f r (j / 2) x) := rec_cond _ _ _

def set (t : T α) (i : Nat) (x : α) : T α := setF 32 t i (some x)
def del (t : T α) (i : Nat) : T α := setF 32 t i none

theorem get_e (i : Nat) : (T.e : T α).get i = none := rfl

theorem half_eq {b : Bool} {j m : Nat} (hb : Nat.beq (j % 2) 0 = b) (hm : Nat.beq (m % 2) 0 = b) (h : m / 2 = j / 2) : m = j := by
  cases b
  · have h1 : j % 2 ≠ 0 := fun e => by rw [e] at hb; cases hb
    have h2 : m % 2 ≠ 0 := fun e => by rw [e] at hm; cases hm
    omega
  · have h1 := Nat.eq_of_beq_eq_true hb
    have h2 := Nat.eq_of_beq_eq_true hm
    omega

/-- What is read behind a setting is what was set there, or what stood elsewhere. -/
theorem get_setF : ∀ (f : Nat) (t : T α) (i k : Nat) (x : Option α) (y : α), (setF f t i x).get k = some y → (k = i ∧ x = some y) ∨ (k ≠ i ∧ t.get k = some y) := by
  intro f
  induction f with
  | zero => intro t i k x y h; rw [setF_0, get_e] at h; cases h
  | succ f ih =>
    intro t i k x y h
    cases t with
    | e =>
      cases i with
      | zero =>
        cases k with
        | zero => exact .inl ⟨rfl, h⟩
        | succ m => simp only [setF_e0, get_nS, get_e] at h; cases hb : Nat.beq (m % 2) 0 <;> simp [hb] at h
      | succ j =>
        simp only [setF_eS] at h
        cases hb : Nat.beq (j % 2) 0 <;> rw [hb] at h <;> simp only [cond_true, cond_false] at h <;> cases k with
        | zero => simp [get_n0] at h
        | succ m =>
          simp only [get_nS] at h
          cases hm : Nat.beq (m % 2) 0 <;> rw [hm] at h <;> simp only [cond_true, cond_false] at h
          all_goals first
            | (cases h; done)
            | (rw [get_e] at h; cases h; done)
            | (rcases ih _ _ _ _ _ h with ⟨h1, h2⟩ | ⟨h1, h2⟩
               · exact .inl ⟨by rw [half_eq hb hm h1], h2⟩
               · rw [get_e] at h2; cases h2)
    | n l v r =>
      cases i with
      | zero =>
        cases k with
        | zero => exact .inl ⟨rfl, h⟩
        | succ m => exact .inr ⟨by omega, h⟩
      | succ j =>
        simp only [setF_nS] at h
        cases hb : Nat.beq (j % 2) 0 <;> rw [hb] at h <;> simp only [cond_true, cond_false] at h <;> cases k with
        | zero => exact .inr ⟨by omega, h⟩
        | succ m =>
          simp only [get_nS] at h ⊢
          cases hm : Nat.beq (m % 2) 0 <;> rw [hm] at h <;> simp only [cond_true, cond_false] at h ⊢
          all_goals first
            | (rcases ih _ _ _ _ _ h with ⟨h1, h2⟩ | ⟨h1, h2⟩
               · exact .inl ⟨by rw [half_eq hb hm h1], h2⟩
               · exact .inr ⟨fun e => h1 (by omega), h2⟩)
            | exact .inr ⟨fun e => (by
                have e' : m = j := by omega
                subst e'; rw [hb] at hm; cases hm), h⟩

theorem get_set {t : T α} {i k : Nat} {x y : α} (h : (t.set i x).get k = some y) : (k = i ∧ x = y) ∨ (k ≠ i ∧ t.get k = some y) := by
  rcases get_setF _ _ _ _ _ _ h with ⟨h1, h2⟩ | h
  · exact .inl ⟨h1, by injection h2⟩
  · exact .inr h

theorem get_del {t : T α} {i k : Nat} {y : α} (h : (t.del i).get k = some y) : k ≠ i ∧ t.get k = some y := by
  rcases get_setF _ _ _ _ _ _ h with ⟨h1, h2⟩ | h
  · cases h2
  · exact h

def ofListF : Nat → List α → T α → T α
  | _, [], t => t
  | i, x :: xs, t => ofListF (i + 1) xs (t.set i x)

theorem get_ofListF : ∀ (l : List α) (i : Nat) (t : T α) (k : Nat) (y : α), (ofListF i l t).get k = some y → (i ≤ k ∧ l[k - i]? = some y) ∨ t.get k = some y := by
  intro l
  induction l with
  | nil => intro i t k y h; exact .inr h
  | cons x xs ih =>
    intro i t k y h
    rcases ih _ _ _ _ h with ⟨h1, h2⟩ | h
    · refine .inl ⟨by omega, ?_⟩
      rw [show k - i = (k - (i + 1)) + 1 by omega]
      exact h2
    · rcases get_set h with ⟨rfl, rfl⟩ | ⟨_, h⟩
      · exact .inl ⟨Nat.le_refl _, by simp⟩
      · exact .inr h

def ofList (l : List α) : T α := ofListF 0 l .e

theorem get_ofList {l : List α} {k : Nat} {y : α} (h : (ofList l).get k = some y) : l[k]? = some y := by
  rcases get_ofListF _ _ _ _ _ h with ⟨_, h⟩ | h
  · exact h
  · rw [get_e] at h; cases h

end T

/-! ### Symbolic values -/

/-- Where an id's window lies: the block, the first cell, the capacity (of a slice that an append has made). -/
structure Loc where
  blk : Nat
  off : Nat
  cap : Nat

inductive SCap where
  | lit (c : Nat)
  | sub (b d : Nat)      -- the window's capacity less d

inductive SV where
  | v (x : Value)
  | str (l : List UInt8)
  | ptr (b o : Nat)
  | slc (b o l : Nat) (c : SCap)
  | mp (b : Nat)
  | agg (cs : List SV)
  | tup (vs : List SV)
  | ifc (t : TypeId) (x : SV)
  | fn (f : FuncId) (caps : List SV)

instance : Inhabited SV := ⟨.v (.bool false)⟩

def SCap.den (ρ : Nat → Loc) : SCap → Nat
  | .lit c => c
  | .sub b d => (ρ b).cap - d

def SCap.lt (n : Nat) : SCap → Prop
  | .lit _ => True
  | .sub b _ => b < n

mutual
def SV.den (ρ : Nat → Loc) : SV → Value
  | .v x => x
  | .str l => .string ⟨l.toArray⟩
  | .ptr b o => .pointer (some ⟨(ρ b).blk, (ρ b).off + o, none⟩)
  | .slc b o l c => .slice (some ⟨(ρ b).blk, (ρ b).off + o, none⟩) l (c.den ρ)
  | .mp b => .map (some (ρ b).blk)
  | .agg cs => .agg (SV.dens ρ cs).toArray
  | .tup cs => .tuple (SV.dens ρ cs).toArray
  | .ifc t x => .iface t (x.den ρ)
  | .fn f cs => .func (.func f) #[] (SV.dens ρ cs).toArray
def SV.dens (ρ : Nat → Loc) : List SV → List Value
  | [] => []
  | x :: xs => x.den ρ :: SV.dens ρ xs
end

mutual
/-- All ids in it are below n. -/
def SV.lt (ρ : Nat → Loc) (n : Nat) : SV → Prop
  | .v _ | .str _ => True
  | .ptr b _ => b < n
  | .slc b _ l c => b < n ∧ c.lt n ∧ l ≤ c.den ρ
  | .mp b => b < n
  | .agg cs => SV.lts ρ n cs
  | .tup cs => SV.lts ρ n cs
  | .ifc _ x => x.lt ρ n
  | .fn _ cs => SV.lts ρ n cs
def SV.lts (ρ : Nat → Loc) (n : Nat) : List SV → Prop
  | [] => True
  | x :: xs => x.lt ρ n ∧ SV.lts ρ n xs
end

theorem dens_eq (ρ : Nat → Loc) (l : List SV) : SV.dens ρ l = l.map (SV.den ρ) := by
  induction l with
  | nil => rfl
  | cons x xs ih => simp [SV.dens, ih]

theorem lts_iff {ρ : Nat → Loc} {n : Nat} {l : List SV} : SV.lts ρ n l ↔ ∀ x ∈ l, x.lt ρ n := by
  induction l with
  | nil => simp [SV.lts]
  | cons x xs ih => simp [SV.lts, ih]

def Ext (ρ ρ' : Nat → Loc) (n : Nat) : Prop := ∀ b, b < n → ρ' b = ρ b

theorem Ext.refl (ρ : Nat → Loc) (n : Nat) : Ext ρ ρ n := fun _ _ => rfl
theorem Ext.trans {ρ ρ' ρ'' : Nat → Loc} {n n' : Nat} (h : Ext ρ ρ' n) (h' : Ext ρ' ρ'' n') (hn : n ≤ n') : Ext ρ ρ'' n :=
  fun b hb => (h' b (Nat.lt_of_lt_of_le hb hn)).trans (h b hb)
theorem Ext.mono {ρ ρ' : Nat → Loc} {n n' : Nat} (h : Ext ρ ρ' n') (hn : n ≤ n') : Ext ρ ρ' n := fun b hb => h b (Nat.lt_of_lt_of_le hb hn)

theorem SCap.den_ext {ρ ρ' : Nat → Loc} {n : Nat} (h : Ext ρ ρ' n) {c : SCap} (hc : c.lt n) : c.den ρ' = c.den ρ := by
  cases c with
  | lit c => rfl
  | sub b d => simp [SCap.den, h b hc]

mutual
theorem SV.den_ext {ρ ρ' : Nat → Loc} {n : Nat} (h : Ext ρ ρ' n) : ∀ (x : SV), x.lt ρ n → x.den ρ' = x.den ρ
  | .v _, _ => rfl
  | .str _, _ => rfl
  | .ptr b o, hx => by simp only [SV.den, h b hx]
  | .slc b o l c, hx => by simp only [SV.den, h b hx.1, SCap.den_ext h hx.2.1]
  | .mp b, hx => by simp only [SV.den, h b hx]
  | .agg cs, hx => by simp only [SV.den, SV.dens_ext h cs hx]
  | .tup cs, hx => by simp only [SV.den, SV.dens_ext h cs hx]
  | .ifc t x, hx => by simp only [SV.den, SV.den_ext h x hx]
  | .fn f cs, hx => by simp only [SV.den, SV.dens_ext h cs hx]
theorem SV.dens_ext {ρ ρ' : Nat → Loc} {n : Nat} (h : Ext ρ ρ' n) : ∀ (l : List SV), SV.lts ρ n l → SV.dens ρ' l = SV.dens ρ l
  | [], _ => rfl
  | x :: xs, hx => by simp only [SV.dens, SV.den_ext h x hx.1, SV.dens_ext h xs hx.2]
end

theorem SCap.lt_mono {n n' : Nat} (h : n ≤ n') {c : SCap} (hc : c.lt n) : c.lt n' := by
  cases c with
  | lit c => trivial
  | sub b d => exact Nat.lt_of_lt_of_le hc h

mutual
theorem SV.lt_ext {ρ ρ' : Nat → Loc} {n n' : Nat} (hx : Ext ρ ρ' n) (h : n ≤ n') : ∀ (x : SV), x.lt ρ n → x.lt ρ' n'
  | .v _, _ => trivial
  | .str _, _ => trivial
  | .ptr _ _, k => Nat.lt_of_lt_of_le k h
  | .slc _ _ _ _, k => ⟨Nat.lt_of_lt_of_le k.1 h, SCap.lt_mono h k.2.1, by rw [SCap.den_ext hx k.2.1]; exact k.2.2⟩
  | .mp _, k => Nat.lt_of_lt_of_le k h
  | .agg cs, k => SV.lts_ext hx h cs k
  | .tup cs, k => SV.lts_ext hx h cs k
  | .ifc _ x, k => SV.lt_ext hx h x k
  | .fn _ cs, k => SV.lts_ext hx h cs k
theorem SV.lts_ext {ρ ρ' : Nat → Loc} {n n' : Nat} (hx : Ext ρ ρ' n) (h : n ≤ n') : ∀ (l : List SV), SV.lts ρ n l → SV.lts ρ' n' l
  | [], _ => trivial
  | x :: xs, k => ⟨SV.lt_ext hx h x k.1, SV.lts_ext hx h xs k.2⟩
end

/-- A value as cells, and cells as a value. -/
def SV.cells : SV → Option (List SV)
  | .agg cs => some cs
  | .v (.agg cs) => some (cs.toList.map .v)
  | .v (.tuple _) => none
  | .tup _ => none
  | x => some [x]

theorem SV.cells_den {ρ : Nat → Loc} {x : SV} {cs : List SV} (h : x.cells = some cs) : (x.den ρ).cells.toList = cs.map (SV.den ρ) := by
  unfold SV.cells at h
  split at h
  · injection h with h; subst h; simp [SV.den, Value.cells, dens_eq]
  · injection h with h; subst h
    simp only [SV.den, Value.cells, List.map_map]
    exact (List.map_id' _).symm
  · cases h
  · cases h
  · rename_i h1 h2 h3 h4
    injection h with h; subst h
    cases x with
    | v x => cases x <;> first | rfl | exact absurd rfl (h2 _) | exact absurd rfl (h3 _)
    | agg cs => exact absurd rfl (h1 cs)
    | tup cs => exact absurd rfl (h4 cs)
    | _ => simp [SV.den, Value.cells]

theorem SV.cells_lt {ρ : Nat → Loc} {n : Nat} {x : SV} {cs : List SV} (h : x.cells = some cs) (hx : x.lt ρ n) : ∀ y ∈ cs, y.lt ρ n := by
  unfold SV.cells at h
  split at h
  · injection h with h; subst h; exact lts_iff.1 hx
  · injection h with h; subst h; intro y hy; obtain ⟨z, _, rfl⟩ := List.mem_map.1 hy; trivial
  · cases h
  · cases h
  · injection h with h; subst h; intro y hy; rw [List.mem_singleton] at hy; subst hy; exact hx

/-- Is it a value of one cell? -/
def SV.one : SV → Bool
  | .agg _ | .tup _ | .v (.agg _) | .v (.tuple _) => false
  | _ => true

theorem SV.one_den {ρ : Nat → Loc} {x : SV} (h : x.one = true) : (x.den ρ).oneCell' = true := by
  cases x with
  | v x => cases x <;> first | rfl | cases h
  | _ => first | rfl | cases h

/-- The value of a type's zero. -/
def svOf : Value → SV
  | .agg cs => .agg (cs.toList.map .v)
  | x => .v x

theorem svOf_den (ρ : Nat → Loc) (x : Value) : (svOf x).den ρ = x := by
  cases x <;> simp [svOf, SV.den, dens_eq, Function.comp_def]

theorem svOf_lt (ρ : Nat → Loc) (n : Nat) (x : Value) : (svOf x).lt ρ n := by
  cases x <;> simp [svOf, SV.lt, lts_iff]

/-! ### Symbolic heaps -/

inductive SBlk where
  | cells (cs : List SV) (es : Nat) (τ : Nat)      -- τ: its type, one on (0: not known); these cells, from the window's first on; es: cells an element, where an append may go on in it (0: none may)
  | map (es : List (SV × SV × Nat)) (clock : Nat)
  | siter (s : List UInt8) (pos : Nat)
  | miter (m since : Nat) (seen : List Nat) (last : Nat)      -- over the map m

/-- What n cells of a block hold, from o on. -/
def rdOf (blk : Nat → Option Obj) (g o n : Nat) : Option (List Value) := match blk g with
  | some (.cells c _ _) => if o + n ≤ c.size then some ((c.toList.drop o).take n) else none
  | _ => none

/-- Memory that is read and written where its addresses are not known: some blocks of the world. -/
structure Arena where
  blk : Nat → Option Obj
  rd : Nat → Nat → Nat → Option (List Value)
  rdeq : rd = rdOf blk

def Arena.of (blk : Nat → Option Obj) : Arena := ⟨blk, rdOf blk, rfl⟩
def Arena.void : Arena := Arena.of fun _ => Option.none

theorem Arena.ext' {A B : Arena} (h : A.blk = B.blk) : A = B := by
  obtain ⟨a, b, c⟩ := A
  obtain ⟨a', b', c'⟩ := B
  have h : a = a' := h
  subst h; subst c; subst c'; rfl

/-- An arena; and a test of whatever proposition. -/
structure MX where
  A : Arena
  D : Prop → Bool
  hD : ∀ p, D p = true ↔ p
  op : Bool      -- are addresses that are not known looked up in the arena, and new rows laid there?

def MX.none : MX := ⟨Arena.void, fun p => @decide p (Classical.propDecidable p), fun p => by simp, false⟩

/-- Memory that stays as it is. -/
structure Mem where
  blk : Nat → Option Obj
  os : Os
  out : Array (Nat × ByteArray)
  tape : Nat → Question → Nat
  gl : List (Nat × List Value)      -- what is known of some of its blocks
  glok : ∀ g cs, (g, cs) ∈ gl → ∃ c t fz, blk g = some (.cells c t fz) ∧ ∀ (i : Nat) v, cs[i]? = some v → c[i]? = some v
  X : MX

abbrev Mem.A (M : Mem) : Arena := M.X.A
abbrev Mem.D (M : Mem) : Prop → Bool := M.X.D
def Mem.put (M : Mem) (A : Arena) : Mem := match M with
  | ⟨blk, os, out, tape, gl, glok, ⟨_, D, hD, op⟩⟩ => ⟨blk, os, out, tape, gl, glok, ⟨A, D, hD, op⟩⟩
def Mem.still (M : Mem) : Mem := M.put Arena.void

def Mem.le (M M' : Mem) : Prop := (∀ k o, M.blk k = some o → M'.blk k = some o) ∧ M'.os = M.os ∧ M'.out = M.out ∧ M'.tape = M.tape

theorem Mem.le_refl (M : Mem) : M.le M := ⟨fun _ _ h => h, rfl, rfl, rfl⟩
theorem Mem.le_trans {M M' M'' : Mem} (h : M.le M') (h' : M'.le M'') : M.le M'' :=
  ⟨fun k o hk => h'.1 k o (h.1 k o hk), h'.2.1.trans h.2.1, h'.2.2.1.trans h.2.2.1, h'.2.2.2.trans h.2.2.2⟩

structure HS where
  H : T SBlk
  nx : Nat
  M : Mem

def HS.put (h : HS) (A : Arena) : HS := match h with
  | ⟨H, nx, M⟩ => ⟨H, nx, M.put A⟩

theorem Mem.put_A (M : Mem) (A : Arena) : (M.put A).A = A := rfl
theorem Mem.put_blk (M : Mem) (A : Arena) : (M.put A).blk = M.blk := rfl
theorem Mem.put_os (M : Mem) (A : Arena) : (M.put A).os = M.os := rfl
theorem Mem.put_out (M : Mem) (A : Arena) : (M.put A).out = M.out := rfl
theorem Mem.put_tape (M : Mem) (A : Arena) : (M.put A).tape = M.tape := rfl
theorem Mem.put_D (M : Mem) (A : Arena) : (M.put A).D = M.D := rfl
theorem Mem.put_le (M : Mem) (A : Arena) : M.le (M.put A) := ⟨fun _ _ h => h, rfl, rfl, rfl⟩
theorem HS.put_M (h : HS) (A : Arena) : (h.put A).M = h.M.put A := rfl

def entDen (ρ : Nat → Loc) (e : SV × SV × Nat) : MapEntry := ⟨e.1.den ρ, e.2.1.den ρ, e.2.2⟩

def SBlk.lt (ρ : Nat → Loc) (n : Nat) : SBlk → Prop
  | .cells cs _ _ => ∀ x ∈ cs, x.lt ρ n
  | .map es _ => ∀ e ∈ es, e.1.lt ρ n ∧ e.2.1.lt ρ n
  | .siter _ _ => True
  | .miter m _ _ _ => m < n

/-- No cell is frozen, but perhaps behind the last one. -/
def Fz (n : Nat) (fz : Nat × Nat) : Prop := fz.1 = fz.2 ∨ n ≤ fz.1

theorem Fz.not {n : Nat} {fz : Nat × Nat} (h : Fz n fz) (i : Nat) (hi : i < n) : ¬ (fz.1 ≤ i ∧ i < fz.2) := by
  rcases h with h | h <;> omega

/-- What is known of a block whose type is known: it is of that type, and its window begins where it begins; where no append may go on in it, the window is all of it. -/
def Whole (τ es off len n t : Nat) : Prop := τ = 0 ∨ (τ = t + 1 ∧ off = 0 ∧ (es = 0 → n = len))

def SBlk.Rel (ρ : Nat → Loc) (L : Loc) (w : World) : SBlk → Prop
  | .cells cs es τ => ∃ c t fz, w.heap[L.blk]? = some (.cells c t fz) ∧ (∀ i x, cs[i]? = some x → c[L.off + i]? = some (x.den ρ)) ∧
      L.off + L.cap * es ≤ c.size ∧ (es = 0 ∨ cs.length ≤ L.cap * es) ∧ Fz c.size fz ∧ Whole τ es L.off cs.length c.size t
  | .map es clock => w.heap[L.blk]? = some (.map (es.map (entDen ρ)).toArray clock)
  | .siter s pos => L.off = 0 ∧ w.heap[L.blk]? = some (.stringIter ⟨s.toArray⟩ pos)
  | .miter m since seen last => L.off = 0 ∧ w.heap[L.blk]? = some (.mapIter (some (ρ m).blk) since seen.toArray last)

structure HRel (ρ : Nat → Loc) (h : HS) (w : World) : Prop where
  os : w.os = h.M.os
  out : w.output = h.M.out
  tape : w.tape = h.M.tape
  mem : ∀ k o, h.M.blk k = some o → w.heap[k]? = some o
  blk : ∀ b B, h.H.get b = some B → b < h.nx ∧ B.lt ρ h.nx ∧ B.Rel ρ (ρ b) w
  inj : ∀ b b' B B', h.H.get b = some B → h.H.get b' = some B' → (ρ b).blk = (ρ b').blk → b = b'
  apart : ∀ b B, h.H.get b = some B → h.M.blk (ρ b).blk = none
  are : ∀ k o, h.M.A.blk k = some o → w.heap[k]? = some o
  aprA : ∀ b B, h.H.get b = some B → h.M.A.blk (ρ b).blk = none
  disj : ∀ k o, h.M.A.blk k = some o → h.M.blk k = none

theorem SBlk.Rel.size {ρ : Nat → Loc} {L : Loc} {w : World} {B : SBlk} (h : B.Rel ρ L w) : L.blk < w.heap.size := by
  cases B with
  | cells cs es τ => obtain ⟨c, t, fz, h, _⟩ := h; exact (Array.getElem?_eq_some_iff.1 h).1
  | map es clock => exact (Array.getElem?_eq_some_iff.1 h).1
  | siter s pos => exact (Array.getElem?_eq_some_iff.1 h.2).1
  | miter m since seen last => exact (Array.getElem?_eq_some_iff.1 h.2).1

/-- A block's relation hangs on its own block, and on where its ids lie. -/
theorem SBlk.Rel.of {ρ ρ' : Nat → Loc} {L : Loc} {w w' : World} {B : SBlk} {n : Nat} (h : B.Rel ρ L w) (hx : Ext ρ ρ' n) (hl : B.lt ρ n) (hw : w'.heap[L.blk]? = w.heap[L.blk]?) : B.Rel ρ' L w' := by
  cases B with
  | cells cs es τ =>
    obtain ⟨c, t, fz, h1, h2, h3⟩ := h
    exact ⟨c, t, fz, hw.trans h1, fun i x hi => by rw [SV.den_ext hx x (hl x (List.mem_of_getElem? hi))]; exact h2 i x hi, h3⟩
  | map es clock =>
    show w'.heap[L.blk]? = _
    rw [hw]
    have : es.map (entDen ρ') = es.map (entDen ρ) := List.map_congr_left fun e he => by
      simp [entDen, SV.den_ext hx _ (hl e he).1, SV.den_ext hx _ (hl e he).2]
    rw [this]; exact h
  | siter s pos => exact ⟨h.1, hw.trans h.2⟩
  | miter m since seen last => exact ⟨h.1, by rw [hx m hl]; exact hw.trans h.2⟩

theorem SBlk.lt_ext {ρ ρ' : Nat → Loc} {n n' : Nat} (hx : Ext ρ ρ' n) (h : n ≤ n') {B : SBlk} (hB : B.lt ρ n) : B.lt ρ' n' := by
  cases B with
  | cells cs es τ => exact fun x k => SV.lt_ext hx h x (hB x k)
  | map es clock => exact fun e he => ⟨SV.lt_ext hx h _ (hB e he).1, SV.lt_ext hx h _ (hB e he).2⟩
  | siter s pos => trivial
  | miter m since seen last => exact Nat.lt_of_lt_of_le hB h

/-- What is the same of a world but for draws. -/
theorem HRel.drawn {ρ : Nat → Loc} {h : HS} {w : World} (H : HRel ρ h w) (n : Nat) : HRel ρ h { w with drawn := n } :=
  ⟨H.os, H.out, H.tape, H.mem, fun b B hb => let ⟨h1, h2, h3⟩ := H.blk b B hb; ⟨h1, h2, h3.of (Ext.refl ρ h.nx) h2 rfl⟩, H.inj, H.apart, H.are, H.aprA, H.disj⟩

def extend (ρ : Nat → Loc) (n : Nat) (L : Loc) : Nat → Loc := fun b => if b = n then L else ρ b

theorem extend_ext (ρ : Nat → Loc) (n : Nat) (L : Loc) : Ext ρ (extend ρ n L) n := fun b hb => by simp [extend, Nat.ne_of_lt hb]
theorem extend_same (ρ : Nat → Loc) (n : Nat) (L : Loc) : extend ρ n L n = L := by simp [extend]

/-- A new block. -/
theorem HRel.alloc {ρ : Nat → Loc} {h : HS} {w : World} (H : HRel ρ h w) {o : Obj} {B : SBlk} {L : Loc} (hL : L.blk = w.heap.size) (hB : B.lt ρ h.nx)
    (hR : ∀ w' : World, w'.heap[L.blk]? = some o → B.Rel ρ L w') :
    HRel (extend ρ h.nx L) { h with H := h.H.set h.nx B, nx := h.nx + 1 } { w with heap := w.heap.push o } := by
  have hold : ∀ k, k < w.heap.size → (w.heap.push o)[k]? = w.heap[k]? := fun k hk => by rw [Array.getElem?_push, if_neg (by omega)]
  have apart' : ∀ (blk : Nat → Option Obj), (∀ k o', blk k = some o' → w.heap[k]? = some o') → (∀ b B', h.H.get b = some B' → blk (ρ b).blk = none) → ∀ b B', (h.H.set h.nx B).get b = some B' → blk ((extend ρ h.nx L) b).blk = none := fun blk hm ha b B' hb => by
    rcases T.get_set hb with ⟨rfl, rfl⟩ | ⟨hne, hb⟩
    · rw [extend_same]
      cases hm' : blk L.blk with
      | none => rfl
      | some o' => have := (Array.getElem?_eq_some_iff.1 (hm _ _ hm')).1; omega
    · rw [extend_ext ρ h.nx L b (H.blk b B' hb).1]; exact ha b B' hb
  refine ⟨H.os, H.out, H.tape, fun k o' hk => ?_, fun b B' hb => ?_, fun b b' B1 B2 hb hb' he => ?_, apart' _ H.mem H.apart, fun k o' hk => ?_, apart' _ H.are H.aprA, H.disj⟩
  · have := H.mem k o' hk
    show (w.heap.push o)[k]? = _
    rw [hold k (Array.getElem?_eq_some_iff.1 this).1]; exact this
  · rcases T.get_set hb with ⟨rfl, rfl⟩ | ⟨hne, hb⟩
    · refine ⟨Nat.lt_succ_self _, SBlk.lt_ext (extend_ext _ _ _) (Nat.le_succ _) hB, ?_⟩
      rw [extend_same]
      exact (hR _ (by show (w.heap.push o)[L.blk]? = _; rw [hL]; simp)).of (extend_ext _ _ _) hB rfl
    · obtain ⟨h1, h2, h3⟩ := H.blk b B' hb
      refine ⟨Nat.lt_succ_of_lt h1, SBlk.lt_ext (extend_ext _ _ _) (Nat.le_succ _) h2, ?_⟩
      rw [extend_ext ρ h.nx L b h1]
      exact h3.of (extend_ext _ _ _) h2 (hold _ h3.size)
  · rcases T.get_set hb with ⟨rfl, rfl⟩ | ⟨hne, hb⟩ <;> rcases T.get_set hb' with ⟨rfl, rfl⟩ | ⟨hne', hb'⟩
    · rfl
    · obtain ⟨h1, h2, h3⟩ := H.blk b' B2 hb'
      rw [extend_same, extend_ext ρ h.nx L b' h1] at he
      have := h3.size; omega
    · obtain ⟨h1, h2, h3⟩ := H.blk b B1 hb
      rw [extend_same, extend_ext ρ h.nx L b h1] at he
      have := h3.size; omega
    · rw [extend_ext ρ h.nx L b (H.blk b B1 hb).1, extend_ext ρ h.nx L b' (H.blk b' B2 hb').1] at he
      exact H.inj b b' B1 B2 hb hb' he
  · have := H.are k o' hk
    show (w.heap.push o)[k]? = _
    rw [hold k (Array.getElem?_eq_some_iff.1 this).1]; exact this

/-- A block that is written. -/
theorem HRel.write {ρ : Nat → Loc} {h : HS} {w w' : World} (H : HRel ρ h w) {b : Nat} {B B' : SBlk} (hb : h.H.get b = some B) (hB : B'.lt ρ h.nx)
    (hR : B'.Rel ρ (ρ b) w') (hother : ∀ k, k ≠ (ρ b).blk → w'.heap[k]? = w.heap[k]?) (h1 : w'.os = w.os) (h2 : w'.output = w.output) (h3 : w'.tape = w.tape) :
    HRel ρ { h with H := h.H.set b B' } w' := by
  refine ⟨h1.trans H.os, h2.trans H.out, h3.trans H.tape, fun k o hk => ?_, fun c C hc => ?_, fun c c' C C' hc hc' he => ?_, fun c C hc => ?_, fun k o hk => ?_, fun c C hc => ?_, H.disj⟩
  · rw [hother k (fun e => by subst e; rw [show h.M.blk (ρ b).blk = none from H.apart b B hb] at hk; cases hk)]
    exact H.mem k o hk
  · rcases T.get_set hc with ⟨rfl, rfl⟩ | ⟨hne, hc⟩
    · exact ⟨(H.blk _ _ hb).1, hB, hR⟩
    · obtain ⟨k1, k2, k3⟩ := H.blk c C hc
      exact ⟨k1, k2, k3.of (Ext.refl ρ h.nx) k2 (hother _ fun e => hne (H.inj c b C B hc hb e))⟩
  · rcases T.get_set hc with ⟨rfl, rfl⟩ | ⟨hne, hc2⟩ <;> rcases T.get_set hc' with ⟨rfl, rfl⟩ | ⟨hne', hc2'⟩
    · rfl
    · exact H.inj _ _ _ _ hb hc2' he
    · exact H.inj _ _ _ _ hc2 hb he
    · exact H.inj _ _ _ _ hc2 hc2' he
  · rcases T.get_set hc with ⟨rfl, rfl⟩ | ⟨hne, hc⟩
    · exact H.apart _ _ hb
    · exact H.apart _ _ hc
  · rw [hother k (fun e => by subst e; rw [show h.M.A.blk (ρ b).blk = none from H.aprA b B hb] at hk; cases hk)]
    exact H.are k o hk
  · rcases T.get_set hc with ⟨rfl, rfl⟩ | ⟨hne, hc⟩
    · exact H.aprA _ _ hb
    · exact H.aprA _ _ hc

/-- A block that is given up. -/
theorem HRel.drop {ρ : Nat → Loc} {h : HS} {w : World} (H : HRel ρ h w) (b : Nat) : HRel ρ { h with H := h.H.del b } w :=
  ⟨H.os, H.out, H.tape, H.mem, fun c C hc => H.blk c C (T.get_del hc).2, fun c c' C C' hc hc' => H.inj c c' C C' (T.get_del hc).2 (T.get_del hc').2, fun c C hc => H.apart c C (T.get_del hc).2, H.are, fun c C hc => H.aprA c C (T.get_del hc).2, H.disj⟩

/-- The arena changes: its own blocks, and new ones. -/
theorem HRel.arena {ρ : Nat → Loc} {h : HS} {w w' : World} (H : HRel ρ h w) {A' : Arena} (h1 : w'.os = w.os) (h2 : w'.output = w.output) (h3 : w'.tape = w.tape)
    (hk : ∀ k, h.M.A.blk k = none → k < w.heap.size → w'.heap[k]? = w.heap[k]?) (ha : ∀ k o, A'.blk k = some o → w'.heap[k]? = some o) (hn : ∀ k o, A'.blk k = some o → (∃ o', h.M.A.blk k = some o') ∨ w.heap.size ≤ k) : HRel ρ (h.put A') w' := by
  have old : ∀ k o, h.M.blk k = some o → h.M.A.blk k = none ∧ k < w.heap.size := fun k o hb => by
    refine ⟨?_, (Array.getElem?_eq_some_iff.1 (H.mem k o hb)).1⟩
    cases hA : h.M.A.blk k with
    | none => rfl
    | some o' => have := H.disj k o' hA; rw [this] at hb; cases hb
  refine ⟨h1.trans H.os, h2.trans H.out, h3.trans H.tape, fun k o hb => ?_, fun b B hb => ?_, H.inj, H.apart, ha, fun b B hb => ?_, fun k o hb => ?_⟩
  · have hb : h.M.blk k = some o := hb
    rw [hk k (old k o hb).1 (old k o hb).2]; exact H.mem k o hb
  · obtain ⟨k1, k2, k3⟩ := H.blk b B hb
    exact ⟨k1, k2, k3.of (Ext.refl ρ h.nx) k2 (hk _ (H.aprA b B hb) k3.size)⟩
  · show A'.blk (ρ b).blk = none
    cases hA : A'.blk (ρ b).blk with
    | none => rfl
    | some o =>
      exfalso
      rcases hn _ o hA with ⟨o', h'⟩ | h'
      · rw [H.aprA b B hb] at h'; cases h'
      · have := (H.blk b B hb).2.2.size; omega
  · show h.M.blk k = none
    cases hM : h.M.blk k with
    | none => rfl
    | some o' =>
      exfalso
      obtain ⟨k1, k2⟩ := old k o' hM
      rcases hn _ o hb with ⟨o', h'⟩ | h'
      · rw [k1] at h'; cases h'
      · omega

/-- The activation's slots. -/
structure ARel (dfs : List Deferred) (ρ : Nat → Loc) (tm : T SV) (sz nx : Nat) (a : Act) : Prop where
  size : a.tmps.size = sz
  at_ : ∀ i x, tm.get i = some x → x.lt ρ nx ∧ a.tmps[i]? = some (x.den ρ)
  defers : a.defers = dfs

theorem ARel.ext {ρ ρ' : Nat → Loc} {tm : T SV} {sz nx nx' : Nat} {a : Act} (h : ARel dfs ρ tm sz nx a) (hx : Ext ρ ρ' nx) (hn : nx ≤ nx') : ARel dfs ρ' tm sz nx' a :=
  ⟨h.size, fun i x hi => let ⟨h1, h2⟩ := h.at_ i x hi; ⟨SV.lt_ext hx hn x h1, by rw [SV.den_ext hx x h1]; exact h2⟩, h.defers⟩

theorem ARel.put {ρ : Nat → Loc} {tm : T SV} {sz nx d : Nat} {a : Act} {x : SV} (h : ARel dfs ρ tm sz nx a) (hx : x.lt ρ nx) (hd : d < sz) : ARel dfs ρ (tm.set d x) sz nx (a.put (some d) (x.den ρ)) := by
  refine ⟨by simp [Act.put, h.size], fun i y hi => ?_, h.defers⟩
  rcases T.get_set hi with ⟨rfl, rfl⟩ | ⟨hne, hi⟩
  · refine ⟨hx, ?_⟩
    simp only [Act.put, Array.getElem?_setIfInBounds_self]
    rw [if_pos (by rw [h.size]; exact hd)]
  · obtain ⟨h1, h2⟩ := h.at_ i y hi
    refine ⟨h1, ?_⟩
    simp only [Act.put]
    rw [Array.getElem?_setIfInBounds_ne (Ne.symm hne)]; exact h2

/-- Where a slot's value is only spelled otherwise. -/
theorem ARel.same {ρ : Nat → Loc} {tm : T SV} {sz nx d : Nat} {a : Act} {x y : SV} (h : ARel dfs ρ tm sz nx a) (hd : tm.get d = some y) (he : x.den ρ = y.den ρ) (hx : x.lt ρ nx) : ARel dfs ρ (tm.set d x) sz nx a := by
  refine ⟨h.size, fun i z hi => ?_, h.defers⟩
  rcases T.get_set hi with ⟨rfl, rfl⟩ | ⟨hne, hi⟩
  · exact ⟨hx, by rw [he]; exact (h.at_ _ _ hd).2⟩
  · exact h.at_ _ _ hi

end
end Go.Sx
