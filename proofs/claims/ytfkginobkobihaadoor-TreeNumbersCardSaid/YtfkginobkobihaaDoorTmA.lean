/-
  TreeNumbers: what is known ahead of the walk: the listed table, and the state in which each round over the rows that are no tree's begins.
-/
import Derived.Test.YtfkginobkobihaaDoorPaF
import Derived.Test.YtfkginobkobihaaDoorSxV
namespace Go.Proofs.YtfkginobkobihaaDoor
open Go.Sx Go.RowKit
noncomputable section

/-! ### What the listed table holds -/

def hasL : List Value := [.int .i64 0, .int .i64 23, .int .i64 17, .int .i64 11, .int .i64 32, .int .i64 260, .int .i64 0, .int .i64 128, .int .i64 256, .int .i64 64]

/-- The table's block holds these. -/
def Has (w : World) : Prop := ∀ g cs, (g, cs) ∈ [((0 : Nat), hasL)] → ∃ c t fz, w.heap[g]? = some (.cells c t fz) ∧ ∀ (i : Nat) v, cs[i]? = some v → c[i]? = some v

theorem has_of {ρ : Nat → Sx.Loc} {h : HS} {w : World} (H : HRel ρ h w) (hg : globV 0 h.M.gl = some hasL) : Has w := by
  intro g cs hm
  simp only [List.mem_singleton, Prod.mk.injEq] at hm
  obtain ⟨rfl, rfl⟩ := hm
  obtain ⟨c, t, fz, hc, h4⟩ := h.M.glok _ _ (globV_mem hg)
  exact ⟨c, t, fz, H.mem _ _ hc, h4⟩

abbrev memH (w : World) (hg : Has w) : Mem := memG w [(0, hasL)] hg

/-- Are these values just these numbers? -/
def areI : List Value → List Int → Bool
  | [], [] => true
  | v :: vs, n :: ns => match v with
    | .int .i64 m => bif decide (m = n) then areI vs ns else false
    | _ => false
  | _, _ => false

theorem areI_eq : ∀ (vs : List Value) (ns : List Int), areI vs ns = true → vs = ns.map (Value.int .i64)
  | [], [], _ => rfl
  | v :: vs, n :: ns, h => by
    unfold areI at h
    split at h
    · rename_i m
      cases hd : decide (m = n) with
      | false => rw [hd] at h; exact absurd h Bool.false_ne_true
      | true =>
        rw [hd] at h
        have := of_decide_eq_true hd
        subst this
        rw [areI_eq vs ns h]; rfl
    · exact absurd h Bool.false_ne_true
  | [], _ :: _, h => by cases h
  | _ :: _, [], h => by cases h

def knowsHas (h : HS) : Bool := match globV 0 h.M.gl with
  | some cs => areI cs [0, 23, 17, 11, 32, 260, 0, 128, 256, 64]
  | none => false

theorem knowsHas_eq {h : HS} (hk : knowsHas h = true) : globV 0 h.M.gl = some hasL := by
  unfold knowsHas at hk
  split at hk
  · rename_i cs hc
    rw [hc, areI_eq _ _ hk]; rfl
  · exact absurd hk Bool.false_ne_true

theorem mixed : Tryd.prog.follows .mixedOrders = true := by kernel_rfl

/-- All that is known beside: the listed table. -/
def glIs (gl : List (Nat × List Value)) : Bool := match gl with
  | [(g, cs)] => bif Nat.beq g 0 then areI cs [0, 23, 17, 11, 32, 260, 0, 128, 256, 64] else false
  | _ => false

theorem glIs_eq {gl : List (Nat × List Value)} (h : glIs gl = true) : gl = [((0 : Nat), hasL)] := by
  unfold glIs at h
  split at h
  · rename_i g cs
    cases hd : Nat.beq g 0 with
    | false => rw [hd] at h; exact absurd h Bool.false_ne_true
    | true =>
      rw [hd] at h
      rw [Nat.eq_of_beq_eq_true hd, areI_eq _ _ h]; rfl
  · exact absurd h Bool.false_ne_true

/-! ### The law -/

/-- Behind these functions a state is laid out in its one form. -/
def mg : List Nat := [16, 11, 12, 23, 22, 17, 9, 14, 13, 15, 5, 7, 18, 20, 21, 36]

/-- The tree and the rows, as they lie ahead of the rounds. -/
def bl0 : List (Nat × SBlk) := [
  (40, (.cells [(.v (.slice .none 0 0)), (.slc 32 0 1 (.lit 1)), (.slc 33 0 3 (.lit 3)), (.slc 34 0 2 (.lit 2)), (.slc 35 0 2 (.lit 2)), (.slc 37 0 1 (.lit 1)), (.slc 38 0 1 (.lit 1)), (.slc 39 0 1 (.lit 1))] 0)),
  (39, (.cells [(.v (.string (.mk ([47]).toArray))), (.v (.slice .none 0 0)), (.v (.int .i64 0)), (.v (.int .i64 0)), (.v (.int .i64 0)), (.v (.int .i64 0)), (.v (.int .i64 0)), (.v (.int .i64 0)), (.v (.int .i64 0)), (.v (.int .i64 0)), (.v (.int .i64 0)), (.v (.int .i64 (-0-1)))] 0)),
  (38, (.cells [(.v (.string (.mk ([47]).toArray))), (.v (.slice .none 0 0)), (.v (.int .i64 0)), (.v (.int .i64 0)), (.v (.int .i64 0)), (.v (.int .i64 0)), (.v (.int .i64 0)), (.v (.int .i64 (-0-1))), (.v (.int .i64 0)), (.v (.int .i64 0)), (.v (.int .i64 0)), (.v (.int .i64 0))] 0)),
  (37, (.cells [(.v (.string (.mk ([47]).toArray))), (.slc 36 0 1001 (.lit 1001)), (.v (.int .i64 0)), (.v (.int .i64 0)), (.v (.int .i64 0)), (.v (.int .i64 0)), (.v (.int .i64 0)), (.v (.int .i64 0)), (.v (.int .i64 0)), (.v (.int .i64 0)), (.v (.int .i64 0)), (.v (.int .i64 0))] 0)),
  (36, (.cells (List.replicate 1001 (.v (.int .u8 0))) 0)),
  (35, (.cells [(.v (.string (.mk ([47]).toArray))), (.v (.slice .none 0 0)), (.v (.int .i64 0)), (.v (.int .i64 0)), (.v (.int .i64 0)), (.v (.int .i64 0)), (.v (.int .i64 0)), (.v (.int .i64 0)), (.v (.int .i64 0)), (.v (.int .i64 0)), (.v (.int .i64 0)), (.v (.int .i64 0)), (.v (.string (.mk ([97]).toArray))), (.v (.slice .none 0 0)), (.v (.int .i64 0)), (.v (.int .i64 0)), (.v (.int .i64 0)), (.v (.int .i64 0)), (.v (.int .i64 0)), (.v (.int .i64 0)), (.v (.int .i64 0)), (.v (.int .i64 0)), (.v (.int .i64 0)), (.v (.int .i64 0))] 0)),
  (34, (.cells [(.v (.string (.mk ([47]).toArray))), (.v (.slice .none 0 0)), (.v (.int .i64 0)), (.v (.int .i64 0)), (.v (.int .i64 0)), (.v (.int .i64 0)), (.v (.int .i64 0)), (.v (.int .i64 0)), (.v (.int .i64 0)), (.v (.int .i64 0)), (.v (.int .i64 0)), (.v (.int .i64 0)), (.v (.string (.mk ([47]).toArray))), (.v (.slice .none 0 0)), (.v (.int .i64 0)), (.v (.int .i64 0)), (.v (.int .i64 0)), (.v (.int .i64 0)), (.v (.int .i64 0)), (.v (.int .i64 0)), (.v (.int .i64 0)), (.v (.int .i64 0)), (.v (.int .i64 0)), (.v (.int .i64 0))] 0)),
  (33, (.cells [(.v (.string (.mk ([47]).toArray))), (.v (.slice .none 0 0)), (.v (.int .i64 0)), (.v (.int .i64 0)), (.v (.int .i64 0)), (.v (.int .i64 0)), (.v (.int .i64 0)), (.v (.int .i64 0)), (.v (.int .i64 0)), (.v (.int .i64 0)), (.v (.int .i64 0)), (.v (.int .i64 0)), (.v (.string (.mk ([47, 98]).toArray))), (.v (.slice .none 0 0)), (.v (.int .i64 0)), (.v (.int .i64 0)), (.v (.int .i64 0)), (.v (.int .i64 0)), (.v (.int .i64 0)), (.v (.int .i64 0)), (.v (.int .i64 0)), (.v (.int .i64 0)), (.v (.int .i64 0)), (.v (.int .i64 0)), (.v (.string (.mk ([47, 97]).toArray))), (.v (.slice .none 0 0)), (.v (.int .i64 0)), (.v (.int .i64 0)), (.v (.int .i64 0)), (.v (.int .i64 0)), (.v (.int .i64 0)), (.v (.int .i64 0)), (.v (.int .i64 0)), (.v (.int .i64 0)), (.v (.int .i64 0)), (.v (.int .i64 0))] 0)),
  (32, (.cells [(.v (.string (.mk ([47, 97]).toArray))), (.v (.slice .none 0 0)), (.v (.int .i64 0)), (.v (.int .i64 0)), (.v (.int .i64 0)), (.v (.int .i64 0)), (.v (.int .i64 0)), (.v (.int .i64 0)), (.v (.int .i64 0)), (.v (.int .i64 0)), (.v (.int .i64 0)), (.v (.int .i64 0))] 0)),
  (29, (.cells [(.v (.int .u8 121)), (.v (.int .u8 122))] 1)),
  (28, (.cells [(.slc 29 0 2 (.sub 29 0)), (.v (.int .i64 15)), (.v (.int .i64 15)), (.v (.int .i64 15)), (.v (.int .i64 4)), (.v (.int .i64 4)), (.v (.int .i64 1)), (.v (.int .i64 0)), (.v (.int .i64 0)), (.v (.int .i64 0)), (.v (.int .i64 0))] 0)),
  (15, (.cells [(.v (.int .u8 120))] 1)),
  (14, (.cells [(.slc 15 0 1 (.sub 15 0)), (.v (.int .i64 7)), (.v (.int .i64 7)), (.v (.int .i64 13)), (.v (.int .i64 7)), (.v (.int .i64 7)), (.v (.int .i64 0)), (.v (.int .i64 2)), (.v (.int .i64 8)), (.v (.int .i64 0)), (.v (.int .i64 0))] 0)),
  (3, (.cells [(.mp 0), (.mp 2)] 0)),
  (2, (.map [] 1)),
  (1, (.cells [(.v (.slice .none 0 0)), (.v (.int .i64 0)), (.v (.int .i64 0)), (.v (.int .i64 15)), (.v (.int .i64 0)), (.v (.int .i64 0)), (.v (.int .i64 0)), (.v (.int .i64 6)), (.v (.int .i64 0)), (.v (.int .i64 0)), (.v (.int .i64 0))] 0)),
  (0, (.map [((.v (.string (.mk ([47]).toArray))), ((.ptr 1 0), 0)), ((.v (.string (.mk ([47, 97]).toArray))), ((.ptr 14 0), 1)), ((.v (.string (.mk ([47, 109]).toArray))), ((.ptr 28 0), 3))] 4))]

/-- The state in which round i begins. -/
def rnd (i : Int) : St := ⟨[(1, (.ptr 3 0)), (8, (.slc 40 0 8 (.lit 8))), (9, (.v (.int .i64 i)))], bl0, 41, true⟩

/-- A round leaves all that as it was. -/
abbrev Round (i : Int) : Prop := ∀ (blk : Nat → Option Obj) (os : Os) (out : Array (Nat × ByteArray)) (tape : Nat → Question → Nat) (gok : ∀ g cs, (g, cs) ∈ [((0 : Nat), hasL)] → ∃ c t fz, blk g = some (.cells c t fz) ∧ ∀ (i : Nat) v, cs[i]? = some v → c[i]? = some v),
  roundK Tryd.prog C0 (mgL mg) 400 3 1 253 (rnd i) ⟨blk, os, out, tape, [((0 : Nat), hasL)], gok⟩ = true

/-! ### Two trees that are compared behind the rounds: a tree of three nodes, and a copy of it, in each order of its map -/

def ints (n : Nat) : List SV := List.replicate n (.v (.int .i64 0))
def cellsR : List SV := .v (.slice .none 0 0) :: (ints 8 ++ [.v (.int .i64 5), .v (.int .i64 9)])
def cellsA (d : Nat) : List SV := .slc d 0 1 (.sub d 0) :: ints 10
def cellsC : List SV := .v (.slice .none 0 0) :: ints 10
def pR : SV := .v (.string (.mk ([47]).toArray))
def pA : SV := .v (.string (.mk ([47, 97, 47, 98]).toArray))
def pC : SV := .v (.string (.mk ([47, 99]).toArray))
def seat (s t : Int) : SV := .agg [.v (.int .i64 s), .v (.int .i64 0), .v (.int .i64 t)]

def entB (turn : Int) (x y z : SV × List SV) (ans : Bool) : En := ⟨[.ptr 0 0, .ptr 1 0], [
  (0, .cells [.mp 2, .mp 3] 0), (1, .cells [.mp 4, .mp 5] 0),
  (2, .map [(pR, .ptr 6 0, 0), (pA, .ptr 7 0, 1), (pC, .ptr 8 0, 2)] 3),
  (3, .map [(.v (.int .i64 5), seat 5 2, 0), (.v (.int .i64 2), seat 2 0, 1)] 2),
  (4, .map [(x.1, .ptr 9 0, 0), (y.1, .ptr 10 0, 1), (z.1, .ptr 11 0, 2)] 3),
  (5, .map [(.v (.int .i64 2), seat 2 0, 0), (.v (.int .i64 5), seat 5 turn, 1)] 2),
  (6, .cells cellsR 0), (7, .cells (cellsA 12) 0), (8, .cells cellsC 0),
  (9, .cells x.2 0), (10, .cells y.2 0), (11, .cells z.2 0),
  (12, .cells [.v (.int .u8 113)] 1), (13, .cells [.v (.int .u8 113)] 1)], 14, ans⟩

def nR : SV × List SV := (pR, cellsR)
def nA : SV × List SV := (pA, cellsA 13)
def nC : SV × List SV := (pC, cellsC)

/-- What is to be shown of an entry, whatever lies beside. -/
abbrev Known (f : FuncId) (E : En) : Prop := ∀ (blk : Nat → Option Obj) (os : Os) (out : Array (Nat × ByteArray)) (tape : Nat → Question → Nat) (gok : ∀ g cs, (g, cs) ∈ [((0 : Nat), hasL)] → ∃ c t fz, blk g = some (.cells c t fz) ∧ ∀ (i : Nat) v, cs[i]? = some v → c[i]? = some v),
  entK Tryd.prog C0 (mgL mg) 400 f E ⟨blk, os, out, tape, [((0 : Nat), hasL)], gok⟩ = true

abbrev SameIs (E : En) : Prop := Known 14 E

end
end Go.Proofs.YtfkginobkobihaaDoor
