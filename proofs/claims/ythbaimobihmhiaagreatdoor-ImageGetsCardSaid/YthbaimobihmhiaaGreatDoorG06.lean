/-
  The symbolic executor: a state renumbered. Blocks that nothing reaches are forgotten, new ones are counted in the order in which they are met; what comes out is in one form alone, so that ways which meet again are gone once.
  The symbolic executor: code, functions, and what they show of the model's calls.
  The symbolic executor: contracts out of the kit's words: a call that leaves all that lay; an entry.
  Paths: part PaA: what beadle/path.Check tells of every text.
  Paths: part PaB: what beadle/path.Check tells of every text.
  Paths: part PaC: what beadle/path.Check tells of every text.
  Paths: part PaD: what beadle/path.Check tells of every text.
  Paths: part PaE: what beadle/path.Check tells of every text.
  Paths: part PaF: what beadle/path.Check tells of every text.
  Paths, plain: parts and their join.
-/
import Derived.Test.YthbaimobihmhiaaGreatDoorG05
import Derived.Test.YthbaimobihmhiaaGreatDoorRows
import Derived.WalkKit
import Derived.Laws.Externs
import Derived.Lib.Bytealg
import Derived.Lib.CutLaws
import Derived.Lib.IndexMore
import Derived.Tactics
import Derived.Tactics2
import Derived.Shelf.RegionOpen
import Derived.Shelf.Abstract
import Derived.Shelf.RegionOpenPlain
import Derived.Laws.RangeString
import Derived.LoopTactic
import Derived.Laws.RangeAny
import Derived.RangeFuncNested
import Derived.RangeFuncBound
import Derived.RangeFuncCalls
import Derived.RangeFuncLeaves
import Derived.OwnWalkIn
import Derived.TacticsInMore
import Derived.LoopNIn
import Derived.LoopIn
import Derived.WalkSmall
import Derived.RangeFuncFrom
import Derived.Lib.Join
namespace Go.Sx
noncomputable section
variable {dfs : List Deferred}

/-! ### Data laid out in one form -/

def intK (n : Int) (k : Int → Bool) : Bool := match n with
  | .ofNat m => natK m fun m => k (.ofNat m)
  | .negSucc m => natK m fun m => k (.negSucc m)
theorem intK_eq (n : Int) (k : Int → Bool) : intK n k = k n := by cases n <;> simp only [intK, natK_eq]

def kindK (x : IntKind) (k : IntKind → Bool) : Bool := match x with
  | .i8 => k .i8
  | .i16 => k .i16
  | .i32 => k .i32
  | .i64 => k .i64
  | .u8 => k .u8
  | .u16 => k .u16
  | .u32 => k .u32
  | .u64 => k .u64
theorem kindK_eq (x : IntKind) (k : IntKind → Bool) : kindK x k = k x := by cases x <;> rfl

def boolK (x : Bool) (k : Bool → Bool) : Bool := bif x then k true else k false
theorem boolK_eq (x : Bool) (k : Bool → Bool) : boolK x k = k x := by cases x <;> rfl

def byteK (b : UInt8) (k : UInt8 → Bool) : Bool := natK b.toNat fun n => k (UInt8.ofNat n)
theorem byteK_eq (b : UInt8) (k : UInt8 → Bool) : byteK b k = k b := by simp [byteK, natK_eq]

def bytesK : List UInt8 → (List UInt8 → Bool) → Bool
  | [], k => k []
  | b :: l, k => byteK b fun b => bytesK l fun l => k (b :: l)
theorem bytesK_eq : ∀ (l : List UInt8) (k : List UInt8 → Bool), bytesK l k = k l
  | [], _ => rfl
  | b :: l, k => by rw [bytesK, byteK_eq, bytesK_eq l]

def natsK : List Nat → (List Nat → Bool) → Bool
  | [], k => k []
  | b :: l, k => natK b fun b => natsK l fun l => k (b :: l)
theorem natsK_eq : ∀ (l : List Nat) (k : List Nat → Bool), natsK l k = k l
  | [], _ => rfl
  | b :: l, k => by rw [natsK, natK_eq, natsK_eq l]

def valK (x : Value) (k : Value → Bool) : Bool := match x with
  | .int t n => kindK t fun t => intK n fun n => k (.int t n)
  | .bool b => boolK b fun b => k (.bool b)
  | x => k x
theorem valK_eq (x : Value) (k : Value → Bool) : valK x k = k x := by
  unfold valK
  split
  · rw [kindK_eq, intK_eq]
  · rw [boolK_eq]
  · rfl

def setK {α : Type} (f : Nat) : T α → Nat → α → (T α → Bool) → Bool :=
  Nat.rec (motive := fun _ => T α → Nat → α → (T α → Bool) → Bool) (fun _ _ _ k => k .e)
    (fun _ ih t i x k => T.rec (motive := fun _ => Bool)
      (Nat.rec (motive := fun _ => Bool) (k (.n .e (some x) .e)) (fun j _ => Bool.rec (motive := fun _ => Bool) (ih .e (Nat.div j 2) x fun r => k (.n .e none r)) (ih .e (Nat.div j 2) x fun l => k (.n l none .e)) (Nat.beq (Nat.mod j 2) 0)) i)
      (fun l v r _ _ => Nat.rec (motive := fun _ => Bool) (k (.n l (some x) r)) (fun j _ => Bool.rec (motive := fun _ => Bool) (ih r (Nat.div j 2) x fun r => k (.n l v r)) (ih l (Nat.div j 2) x fun l => k (.n l v r)) (Nat.beq (Nat.mod j 2) 0)) i) t) f

theorem setK_eq {α : Type} : ∀ (f : Nat) (t : T α) (i : Nat) (x : α) (k : T α → Bool), setK f t i x k = k (T.setF f t i (some x)) := by
  intro f
  induction f with
  | zero => intro t i x k; rfl
  | succ f ih =>
    intro t i x k
    cases t with
    | e => cases i with
      | zero => rfl
      | succ j =>
        rw [T.setF_eS]
        show Bool.rec (motive := fun _ => Bool) (setK f .e (j / 2) x fun r => k (.n .e none r)) (setK f .e (j / 2) x fun l => k (.n l none .e)) (Nat.beq (j % 2) 0) = _
        rw [ih, ih]
        cases Nat.beq (j % 2) 0 <;> rfl
    | n l v r => cases i with
      | zero => rfl
      | succ j =>
        rw [T.setF_nS]
        show Bool.rec (motive := fun _ => Bool) (setK f r (j / 2) x fun r => k (.n l v r)) (setK f l (j / 2) x fun l => k (.n l v r)) (Nat.beq (j % 2) 0) = _
        rw [ih, ih]
        cases Nat.beq (j % 2) 0 <;> rfl

/-! ### Renaming -/

/-- Where a number stands. -/
def posN (b : Nat) : List Nat → Nat → Option Nat
  | [], _ => none
  | x :: xs, i => bif Nat.beq x b then some i else posN b xs (Nat.succ i)

theorem posN_spec (b : Nat) : ∀ (l : List Nat) (i k : Nat), posN b l i = some k → i ≤ k ∧ l[k - i]? = some b := by
  intro l
  induction l with
  | nil => intro i k h; cases h
  | cons x xs ih =>
    intro i k h
    simp only [posN] at h
    cases hb : Nat.beq x b with
    | true =>
      rw [hb] at h
      injection h with h; subst h
      have := Nat.eq_of_beq_eq_true hb
      subst this
      exact ⟨Nat.le_refl _, by simp⟩
    | false =>
      rw [hb] at h
      obtain ⟨h1, h2⟩ := ih _ _ h
      refine ⟨Nat.le_of_succ_le h1, ?_⟩
      rw [show k - i = (k - (i + 1)) + 1 by omega, List.getElem?_cons_succ]
      exact h2

def ixN (n0 : Nat) (L : List Nat) (b : Nat) : Option Nat := bif Nat.blt b n0 then some b else posN b L n0

/-- The numbers' way back. -/
def backN (n0 : Nat) (L : List Nat) (k : Nat) : Nat := if k < n0 then k else L.getD (k - n0) 0

theorem ixN_spec {n0 : Nat} {L : List Nat} {b k : Nat} (h : ixN n0 L b = some k) : backN n0 L k = b ∧ k < n0 + L.length := by
  unfold ixN at h
  unfold backN
  cases hb : Nat.blt b n0 with
  | true =>
    rw [hb] at h
    injection h with h; subst h
    have : b < n0 := Nat.le_of_ble_eq_true hb
    exact ⟨by rw [if_pos this], by omega⟩
  | false =>
    rw [hb] at h
    obtain ⟨h1, h2⟩ := posN_spec b L n0 k h
    rw [if_neg (by omega), List.getD_eq_getElem?_getD, h2]
    have := (List.getElem?_eq_some_iff.1 h2).1
    exact ⟨rfl, by omega⟩

def renC (n0 : Nat) (L : List Nat) : SCap → Option SCap
  | .lit c => some (.lit c)
  | .sub b d => match ixN n0 L b with
    | some b => some (.sub b d)
    | none => none

mutual
def renV (n0 : Nat) (L : List Nat) : SV → Option SV
  | .v x => some (.v x)
  | .str l => some (.str l)
  | .ptr b o => match ixN n0 L b with
    | some b => some (.ptr b o)
    | none => none
  | .slc b o l c => match ixN n0 L b, renC n0 L c with
    | some b, some c => some (.slc b o l c)
    | _, _ => none
  | .mp b => match ixN n0 L b with
    | some b => some (.mp b)
    | none => none
  | .agg cs => match renVs n0 L cs with
    | some cs => some (.agg cs)
    | none => none
  | .tup cs => match renVs n0 L cs with
    | some cs => some (.tup cs)
    | none => none
  | .ifc t x => match renV n0 L x with
    | some x => some (.ifc t x)
    | none => none
  | .fn f cs => match renVs n0 L cs with
    | some cs => some (.fn f cs)
    | none => none
def renVs (n0 : Nat) (L : List Nat) : List SV → Option (List SV)
  | [] => some []
  | x :: xs => match renV n0 L x with
    | some x => match renVs n0 L xs with
      | some xs => some (x :: xs)
      | none => none
    | none => none
end

theorem renC_den {n0 : Nat} {L : List Nat} {ρ : Nat → Loc} {c c' : SCap} (h : renC n0 L c = some c') : c'.den (fun k => ρ (backN n0 L k)) = c.den ρ ∧ c'.lt (n0 + L.length) := by
  cases c with
  | lit c => simp only [renC, Option.some.injEq] at h; subst h; exact ⟨rfl, trivial⟩
  | sub b d =>
    simp only [renC] at h
    split at h
    · rename_i b' hb
      injection h with h; subst h
      obtain ⟨h1, h2⟩ := ixN_spec hb
      exact ⟨by simp [SCap.den, h1], h2⟩
    · cases h

mutual
theorem renV_den {n0 n : Nat} {L : List Nat} {ρ : Nat → Loc} : ∀ (x x' : SV), renV n0 L x = some x' → x.lt ρ n → x'.den (fun k => ρ (backN n0 L k)) = x.den ρ ∧ x'.lt (fun k => ρ (backN n0 L k)) (n0 + L.length)
  | .v x, x', h, _ => by simp only [renV, Option.some.injEq] at h; subst h; exact ⟨rfl, trivial⟩
  | .str l, x', h, _ => by simp only [renV, Option.some.injEq] at h; subst h; exact ⟨rfl, trivial⟩
  | .ptr b o, x', h, _ => by
    simp only [renV] at h
    split at h
    · rename_i b' hb
      injection h with h; subst h
      obtain ⟨h1, h2⟩ := ixN_spec hb
      exact ⟨by simp [SV.den, h1], h2⟩
    · cases h
  | .slc b o l c, x', h, hl => by
    simp only [renV] at h
    split at h
    · rename_i b' c' hb hc
      injection h with h; subst h
      obtain ⟨h1, h2⟩ := ixN_spec hb
      obtain ⟨h3, h4⟩ := renC_den (ρ := ρ) hc
      exact ⟨by simp [SV.den, h1, h3], h2, h4, by rw [h3]; exact hl.2.2⟩
    · cases h
  | .mp b, x', h, _ => by
    simp only [renV] at h
    split at h
    · rename_i b' hb
      injection h with h; subst h
      obtain ⟨h1, h2⟩ := ixN_spec hb
      exact ⟨by simp [SV.den, h1], h2⟩
    · cases h
  | .agg cs, x', h, hl => by
    simp only [renV] at h
    split at h
    · rename_i cs' hc
      injection h with h; subst h
      obtain ⟨h1, h2⟩ := renVs_den cs cs' hc hl
      exact ⟨by simp only [SV.den, h1], h2⟩
    · cases h
  | .tup cs, x', h, hl => by
    simp only [renV] at h
    split at h
    · rename_i cs' hc
      injection h with h; subst h
      obtain ⟨h1, h2⟩ := renVs_den cs cs' hc hl
      exact ⟨by simp only [SV.den, h1], h2⟩
    · cases h
  | .ifc t x, x', h, hl => by
    simp only [renV] at h
    split at h
    · rename_i y hy
      injection h with h; subst h
      obtain ⟨h1, h2⟩ := renV_den x y hy hl
      exact ⟨by simp only [SV.den, h1], h2⟩
    · cases h
  | .fn f cs, x', h, hl => by
    simp only [renV] at h
    split at h
    · rename_i cs' hc
      injection h with h; subst h
      obtain ⟨h1, h2⟩ := renVs_den cs cs' hc hl
      exact ⟨by simp only [SV.den, h1], h2⟩
    · cases h
theorem renVs_den {n0 n : Nat} {L : List Nat} {ρ : Nat → Loc} : ∀ (l l' : List SV), renVs n0 L l = some l' → SV.lts ρ n l → SV.dens (fun k => ρ (backN n0 L k)) l' = SV.dens ρ l ∧ SV.lts (fun k => ρ (backN n0 L k)) (n0 + L.length) l'
  | [], l', h, _ => by simp only [renVs, Option.some.injEq] at h; subst h; exact ⟨rfl, trivial⟩
  | x :: xs, l', h, hl => by
    simp only [renVs] at h
    split at h
    · rename_i x' hx
      split at h
      · rename_i xs' hxs
        injection h with h; subst h
        obtain ⟨h1, h2⟩ := renV_den x x' hx hl.1
        obtain ⟨h3, h4⟩ := renVs_den xs xs' hxs hl.2
        exact ⟨by simp only [SV.dens, h1, h3], h2, h4⟩
      · cases h
    · cases h
end

def renEs (n0 : Nat) (L : List Nat) : List (SV × SV × Nat) → Option (List (SV × SV × Nat))
  | [] => some []
  | e :: es => match renV n0 L e.1 with
    | some k => match renV n0 L e.2.1 with
      | some v => match renEs n0 L es with
        | some es => some ((k, v, e.2.2) :: es)
        | none => none
      | none => none
    | none => none

def renB (n0 : Nat) (L : List Nat) : SBlk → Option SBlk
  | .cells cs es τ => match renVs n0 L cs with
    | some cs => some (.cells cs es τ)
    | none => none
  | .map es clock => match renEs n0 L es with
    | some es => some (.map es clock)
    | none => none
  | .siter s pos => some (.siter s pos)
  | .miter m since seen last => match ixN n0 L m with
    | some m => some (.miter m since seen last)
    | none => none

theorem renEs_den {n0 n : Nat} {L : List Nat} {ρ : Nat → Loc} : ∀ (es es' : List (SV × SV × Nat)), renEs n0 L es = some es' → (∀ e ∈ es, e.1.lt ρ n ∧ e.2.1.lt ρ n) →
    es'.map (entDen fun k => ρ (backN n0 L k)) = es.map (entDen ρ) ∧ ∀ e ∈ es', e.1.lt (fun k => ρ (backN n0 L k)) (n0 + L.length) ∧ e.2.1.lt (fun k => ρ (backN n0 L k)) (n0 + L.length) := by
  intro es
  induction es with
  | nil => intro es' h _; simp only [renEs, Option.some.injEq] at h; subst h; exact ⟨rfl, fun _ h => by cases h⟩
  | cons e es ih =>
    intro es' h hl
    simp only [renEs] at h
    split at h
    · rename_i k hk
      split at h
      · rename_i v hv
        split at h
        · rename_i es1 hes
          injection h with h; subst h
          obtain ⟨l1, l2⟩ := hl e List.mem_cons_self
          obtain ⟨h1, h2⟩ := renV_den _ _ hk l1
          obtain ⟨h3, h4⟩ := renV_den _ _ hv l2
          obtain ⟨h5, h6⟩ := ih es1 hes fun e he => hl e (List.mem_cons_of_mem _ he)
          refine ⟨by simp [entDen, h1, h3, h5], fun e' he => ?_⟩
          rcases List.mem_cons.1 he with rfl | he
          · exact ⟨h2, h4⟩
          · exact h6 e' he
        · cases h
      · cases h
    · cases h

theorem renB_rel {n0 n : Nat} {L : List Nat} {ρ : Nat → Loc} {B B' : SBlk} (h : renB n0 L B = some B') (hl : B.lt ρ n) {loc : Loc} {w : World} (hr : B.Rel ρ loc w) :
    B'.lt (fun k => ρ (backN n0 L k)) (n0 + L.length) ∧ B'.Rel (fun k => ρ (backN n0 L k)) loc w := by
  cases B with
  | cells cs es τ =>
    simp only [renB] at h
    split at h
    · rename_i cs' hc
      injection h with h; subst h
      obtain ⟨h1, h2⟩ := renVs_den cs cs' hc (lts_iff.2 hl)
      refine ⟨lts_iff.1 h2, ?_⟩
      obtain ⟨c, t, fz, k1, k2, k3, k4, k5⟩ := hr
      rw [dens_eq, dens_eq] at h1
      have hl1 : cs'.length = cs.length := by
        have := congrArg List.length h1
        simpa using this
      refine ⟨c, t, fz, k1, fun i x hx => ?_, k3, ?_, by rw [hl1]; exact k5⟩
      · have e1 : (cs'.map (SV.den fun k => ρ (backN n0 L k)))[i]? = some (x.den fun k => ρ (backN n0 L k)) := by rw [List.getElem?_map, hx]; rfl
        rw [h1, List.getElem?_map] at e1
        cases hy : cs[i]? with
        | none => rw [hy] at e1; cases e1
        | some y =>
          rw [hy] at e1
          injection e1 with e1
          rw [← e1]; exact k2 i y hy
      · have : cs'.length = cs.length := by
          have := congrArg List.length h1
          simpa using this
        rw [this]; exact k4
    · cases h
  | map es clock =>
    simp only [renB] at h
    split at h
    · rename_i es' hes
      injection h with h; subst h
      obtain ⟨h1, h2⟩ := renEs_den es es' hes hl
      refine ⟨h2, ?_⟩
      show w.heap[loc.blk]? = some (.map (es'.map (entDen fun k => ρ (backN n0 L k))).toArray clock)
      rw [h1]; exact hr
    · cases h
  | siter s pos => simp only [renB, Option.some.injEq] at h; subst h; exact ⟨trivial, hr⟩
  | miter m since seen last =>
    simp only [renB] at h
    split at h
    · rename_i m' hm
      injection h with h; subst h
      obtain ⟨h1, h2⟩ := ixN_spec hm
      refine ⟨h2, hr.1, ?_⟩
      show w.heap[loc.blk]? = some (.mapIter (some (ρ (backN n0 L m')).blk) since seen.toArray last)
      rw [h1]; exact hr.2
    · cases h

/-- The blocks of some numbers, renamed. -/
def renH (n0 : Nat) (L : List Nat) (H : T SBlk) : List Nat → T SBlk → Option (T SBlk)
  | [], acc => some acc
  | b :: bs, acc => match H.get b with
    | none => renH n0 L H bs acc
    | some B => match ixN n0 L b with
      | none => none
      | some k => match renB n0 L B with
        | none => none
        | some B' => renH n0 L H bs (acc.set k B')

theorem renH_spec {n0 : Nat} {L : List Nat} {H : T SBlk} : ∀ (bs : List Nat) (acc acc' : T SBlk), renH n0 L H bs acc = some acc' →
    (∀ k B', acc.get k = some B' → ∃ b B, H.get b = some B ∧ ixN n0 L b = some k ∧ renB n0 L B = some B') → ∀ k B', acc'.get k = some B' → ∃ b B, H.get b = some B ∧ ixN n0 L b = some k ∧ renB n0 L B = some B' := by
  intro bs
  induction bs with
  | nil => intro acc acc' h hi; simp only [renH, Option.some.injEq] at h; subst h; exact hi
  | cons b bs ih =>
    intro acc acc' h hi
    simp only [renH] at h
    split at h
    · exact ih _ _ h hi
    · rename_i B hB
      split at h
      · cases h
      · rename_i k hk
        split at h
        · cases h
        · rename_i B' hB'
          refine ih _ _ h fun k2 B2 h2 => ?_
          rcases T.get_set h2 with ⟨rfl, rfl⟩ | ⟨_, h2⟩
          · exact ⟨b, B, hB, hk, hB'⟩
          · exact hi k2 B2 h2

/-- What is renamed is as right as what was. -/
theorem HRel.ren {ρ : Nat → Loc} {h : HS} {w : World} (R : HRel ρ h w) {n0 : Nat} {L : List Nat} {H' : T SBlk} (hH : ∀ k B', H'.get k = some B' → ∃ b B, h.H.get b = some B ∧ ixN n0 L b = some k ∧ renB n0 L B = some B') :
    HRel (fun k => ρ (backN n0 L k)) ⟨H', n0 + L.length, h.M⟩ w where
  os := R.os
  out := R.out
  tape := R.tape
  mem := R.mem
  blk := fun k B' hk => by
    obtain ⟨b, B, h1, h2, h3⟩ := hH k B' hk
    obtain ⟨_, k2, k3⟩ := R.blk b B h1
    obtain ⟨g1, g2⟩ := ixN_spec h2
    obtain ⟨f1, f2⟩ := renB_rel h3 k2 k3
    refine ⟨g2, f1, ?_⟩
    show B'.Rel _ (ρ (backN n0 L k)) w
    rw [g1]; exact f2
  inj := fun k k' B B' hk hk' he => by
    obtain ⟨b, C, h1, h2, _⟩ := hH k B hk
    obtain ⟨b', C', h1', h2', _⟩ := hH k' B' hk'
    obtain ⟨g1, _⟩ := ixN_spec h2
    obtain ⟨g1', _⟩ := ixN_spec h2'
    have he : (ρ (backN n0 L k)).blk = (ρ (backN n0 L k')).blk := he
    rw [g1, g1'] at he
    have := R.inj b b' C C' h1 h1' he
    subst this
    rw [h2] at h2'
    injection h2'
  apart := fun k B hk => by
    obtain ⟨b, C, h1, h2, _⟩ := hH k B hk
    obtain ⟨g1, _⟩ := ixN_spec h2
    show h.M.blk (ρ (backN n0 L k)).blk = none
    rw [g1]; exact R.apart b C h1
  are := R.are
  aprA := fun k B hk => by
    obtain ⟨b, C, h1, h2, _⟩ := hH k B hk
    obtain ⟨g1, _⟩ := ixN_spec h2
    show h.M.A.blk (ρ (backN n0 L k)).blk = none
    rw [g1]; exact R.aprA b C h1
  disj := R.disj

/-! ### The same, laid out in one form -/

def ixK (n0 : Nat) (L : List Nat) (b : Nat) (k : Nat → Bool) : Bool := match ixN n0 L b with
  | some b => natK b k
  | none => false

def optB {α : Type} (x : Option α) (k : α → Bool) : Bool := match x with
  | some x => k x
  | none => false

theorem ixK_eq (n0 : Nat) (L : List Nat) (b : Nat) (k : Nat → Bool) : ixK n0 L b k = optB (ixN n0 L b) k := by
  unfold ixK optB
  cases ixN n0 L b with
  | none => rfl
  | some b => exact natK_eq _ _

def capK (n0 : Nat) (L : List Nat) (c : SCap) (k : SCap → Bool) : Bool := match c with
  | .lit c => natK c fun c => k (.lit c)
  | .sub b d => ixK n0 L b fun b => natK d fun d => k (.sub b d)

theorem capK_eq (n0 : Nat) (L : List Nat) (c : SCap) (k : SCap → Bool) : capK n0 L c k = optB (renC n0 L c) k := by
  cases c with
  | lit c => simp only [capK, natK_eq, renC, optB]
  | sub b d =>
    simp only [capK, ixK_eq, natK_eq, renC]
    cases ixN n0 L b <;> rfl

mutual
def renVK (n0 : Nat) (L : List Nat) : SV → (SV → Bool) → Bool
  | .v x, k => k (.v x)
  | .str l, k => k (.str l)
  | .ptr b o, k => ixK n0 L b fun b => natK o fun o => k (.ptr b o)
  | .slc b o l c, k => ixK n0 L b fun b => capK n0 L c fun c => natK o fun o => natK l fun l => k (.slc b o l c)
  | .mp b, k => ixK n0 L b fun b => k (.mp b)
  | .agg cs, k => renVsK n0 L cs fun cs => k (.agg cs)
  | .tup cs, k => renVsK n0 L cs fun cs => k (.tup cs)
  | .ifc t x, k => natK t fun t => renVK n0 L x fun x => k (.ifc t x)
  | .fn f cs, k => natK f fun f => renVsK n0 L cs fun cs => k (.fn f cs)
def renVsK (n0 : Nat) (L : List Nat) : List SV → (List SV → Bool) → Bool
  | [], k => k []
  | x :: xs, k => renVK n0 L x fun x => renVsK n0 L xs fun xs => k (x :: xs)
end

mutual
theorem renVK_eq (n0 : Nat) (L : List Nat) : ∀ (x : SV) (k : SV → Bool), renVK n0 L x k = optB (renV n0 L x) k
  | .v x, k => by simp only [renVK, renV, optB]
  | .str l, k => by simp only [renVK, renV, optB]
  | .ptr b o, k => by simp only [renVK, ixK_eq, natK_eq, renV]; cases ixN n0 L b <;> rfl
  | .slc b o l c, k => by simp only [renVK, ixK_eq, capK_eq, natK_eq, renV]; cases ixN n0 L b <;> cases renC n0 L c <;> rfl
  | .mp b, k => by simp only [renVK, ixK_eq, renV]; cases ixN n0 L b <;> rfl
  | .agg cs, k => by rw [renVK, renVsK_eq n0 L cs]; simp only [renV]; cases renVs n0 L cs <;> rfl
  | .tup cs, k => by rw [renVK, renVsK_eq n0 L cs]; simp only [renV]; cases renVs n0 L cs <;> rfl
  | .ifc t x, k => by rw [renVK, natK_eq, renVK_eq n0 L x]; simp only [renV]; cases renV n0 L x <;> rfl
  | .fn f cs, k => by rw [renVK, natK_eq, renVsK_eq n0 L cs]; simp only [renV]; cases renVs n0 L cs <;> rfl
theorem renVsK_eq (n0 : Nat) (L : List Nat) : ∀ (l : List SV) (k : List SV → Bool), renVsK n0 L l k = optB (renVs n0 L l) k
  | [], k => by simp only [renVsK, renVs, optB]
  | x :: xs, k => by
    rw [renVsK, renVK_eq n0 L x]
    simp only [renVs]
    cases renV n0 L x with
    | none => rfl
    | some y =>
      show renVsK n0 L xs _ = _
      rw [renVsK_eq n0 L xs]
      cases renVs n0 L xs <;> rfl
end

def renEsK (n0 : Nat) (L : List Nat) : List (SV × SV × Nat) → (List (SV × SV × Nat) → Bool) → Bool
  | [], k => k []
  | e :: es, k => renVK n0 L e.1 fun a => renVK n0 L e.2.1 fun b => natK e.2.2 fun c => renEsK n0 L es fun es => k ((a, b, c) :: es)

theorem renEsK_eq (n0 : Nat) (L : List Nat) : ∀ (l : List (SV × SV × Nat)) (k : List (SV × SV × Nat) → Bool), renEsK n0 L l k = optB (renEs n0 L l) k := by
  intro l
  induction l with
  | nil => intro k; rfl
  | cons e es ih =>
    intro k
    simp only [renEsK, renEs, renVK_eq, natK_eq, ih]
    cases renV n0 L e.1 with
    | none => rfl
    | some a => cases renV n0 L e.2.1 with
      | none => rfl
      | some b => cases renEs n0 L es <;> rfl

def renBK (n0 : Nat) (L : List Nat) (B : SBlk) (k : SBlk → Bool) : Bool := match B with
  | .cells cs es τ => renVsK n0 L cs fun cs => natK es fun es => natK τ fun τ => k (.cells cs es τ)
  | .map es clock => renEsK n0 L es fun es => natK clock fun clock => k (.map es clock)
  | .siter s pos => bytesK s fun s => natK pos fun pos => k (.siter s pos)
  | .miter m since seen last => ixK n0 L m fun m => natK since fun since => natsK seen fun seen => natK last fun last => k (.miter m since seen last)

theorem renBK_eq (n0 : Nat) (L : List Nat) (B : SBlk) (k : SBlk → Bool) : renBK n0 L B k = optB (renB n0 L B) k := by
  cases B with
  | cells cs es τ => simp only [renBK, renVsK_eq, natK_eq, renB]; cases renVs n0 L cs <;> rfl
  | map es clock => simp only [renBK, renEsK_eq, natK_eq, renB]; cases renEs n0 L es <;> rfl
  | siter s pos => simp only [renBK, bytesK_eq, natK_eq, renB, optB]
  | miter m since seen last => simp only [renBK, ixK_eq, natK_eq, natsK_eq, renB]; cases ixN n0 L m <;> rfl

/-! Old blocks that speak of old ones alone stay as they are. -/

def cleanC (n0 : Nat) (c : SCap) : Bool := match c with
  | .lit _ => true
  | .sub b _ => Nat.blt b n0

def cleanV (n0 : Nat) (x : SV) : Bool := match x with
  | .v _ => true
  | .str _ => true
  | .ptr b _ => Nat.blt b n0
  | .slc b _ _ c => bif Nat.blt b n0 then cleanC n0 c else false
  | .mp b => Nat.blt b n0
  | _ => false

def cleanL (n0 : Nat) (l : List SV) : Bool := List.rec (motive := fun _ => Bool) true (fun x _ ih => bif cleanV n0 x then ih else false) l

def cleanB (n0 : Nat) (B : SBlk) : Bool := match B with
  | .cells cs _ _ => cleanL n0 cs
  | _ => false

theorem ixN_old {n0 b : Nat} (L : List Nat) (h : Nat.blt b n0 = true) : ixN n0 L b = some b := by unfold ixN; rw [h]; rfl

theorem cleanV_ren {n0 : Nat} (L : List Nat) {x : SV} (h : cleanV n0 x = true) : renV n0 L x = some x := by
  cases x with
  | v x => rfl
  | str l => rfl
  | ptr b o => simp only [cleanV] at h; simp only [renV, ixN_old L h]
  | slc b o l c =>
    simp only [cleanV] at h
    cases hb : Nat.blt b n0 with
    | false => rw [hb] at h; exact absurd h Bool.false_ne_true
    | true =>
      rw [hb] at h
      simp only [cond_true] at h
      cases c with
      | lit c => simp only [renV, ixN_old L hb, renC]
      | sub b' d => simp only [cleanC] at h; simp only [renV, ixN_old L hb, renC, ixN_old L h]
  | mp b => simp only [cleanV] at h; simp only [renV, ixN_old L h]
  | _ => exact absurd h Bool.false_ne_true

theorem cleanL_ren {n0 : Nat} (L : List Nat) : ∀ {l : List SV}, cleanL n0 l = true → renVs n0 L l = some l := by
  intro l
  induction l with
  | nil => intro _; rfl
  | cons x l ih =>
    intro h
    have h : (bif cleanV n0 x then cleanL n0 l else false) = true := h
    cases hx : cleanV n0 x with
    | false => rw [hx] at h; exact absurd h Bool.false_ne_true
    | true =>
      rw [hx] at h
      simp only [renVs, cleanV_ren L hx, ih h]

theorem cleanB_ren {n0 : Nat} (L : List Nat) {B : SBlk} (h : cleanB n0 B = true) : renB n0 L B = some B := by
  cases B with
  | cells cs es τ => simp only [cleanB] at h; simp only [renB, cleanL_ren L h]
  | _ => exact absurd h Bool.false_ne_true

def putK (n0 : Nat) (L : List Nat) (B : SBlk) (k : SBlk → Bool) : Bool := bif cleanB n0 B then k B else renBK n0 L B k

theorem putK_eq (n0 : Nat) (L : List Nat) (B : SBlk) (k : SBlk → Bool) : putK n0 L B k = optB (renB n0 L B) k := by
  unfold putK
  cases h : cleanB n0 B with
  | true => rw [cleanB_ren L h]; rfl
  | false => exact renBK_eq n0 L B k

def renHK (n0 : Nat) (L : List Nat) (H : T SBlk) : List Nat → T SBlk → (T SBlk → Bool) → Bool
  | [], acc, k => k acc
  | b :: bs, acc, k => match H.get b with
    | none => renHK n0 L H bs acc k
    | some B => ixK n0 L b fun i => putK n0 L B fun B' => setK 32 acc i B' fun acc => renHK n0 L H bs acc k

theorem renHK_eq (n0 : Nat) (L : List Nat) (H : T SBlk) : ∀ (bs : List Nat) (acc : T SBlk) (k : T SBlk → Bool), renHK n0 L H bs acc k = optB (renH n0 L H bs acc) k := by
  intro bs
  induction bs with
  | nil => intro acc k; rfl
  | cons b bs ih =>
    intro acc k
    simp only [renHK, renH, ixK_eq, putK_eq, setK_eq, ih]
    cases H.get b with
    | none => rfl
    | some B => cases ixN n0 L b with
      | none => rfl
      | some i => cases hB : renB n0 L B with
        | none => simp only [optB, hB]
        | some B' => simp only [optB, hB]; rfl

/-! ### What is reached -/

def addN (n0 b : Nat) (L : List Nat) : List Nat := bif Nat.blt b n0 then L else bif memN b L then L else L ++ [b]

def idsC (n0 : Nat) (c : SCap) (L : List Nat) : List Nat := match c with
  | .lit _ => L
  | .sub b _ => addN n0 b L

mutual
def idsV (n0 : Nat) : SV → List Nat → List Nat
  | .v _, L => L
  | .str _, L => L
  | .ptr b _, L => addN n0 b L
  | .slc b _ _ c, L => idsC n0 c (addN n0 b L)
  | .mp b, L => addN n0 b L
  | .agg cs, L => idsVs n0 cs L
  | .tup cs, L => idsVs n0 cs L
  | .ifc _ x, L => idsV n0 x L
  | .fn _ cs, L => idsVs n0 cs L
def idsVs (n0 : Nat) : List SV → List Nat → List Nat
  | [], L => L
  | x :: xs, L => idsVs n0 xs (idsV n0 x L)
end

def idsV1 (n0 : Nat) (x : SV) (L : List Nat) : List Nat := match x with
  | .v _ => L
  | .str _ => L
  | .ptr b _ => addN n0 b L
  | x => idsV n0 x L

def idsL (n0 : Nat) (l : List SV) : List Nat → List Nat := List.rec (motive := fun _ => List Nat → List Nat) (fun L => L) (fun x _ ih L => ih (idsV1 n0 x L)) l

def idsE (n0 : Nat) : List (SV × SV × Nat) → List Nat → List Nat
  | [], L => L
  | e :: es, L => idsE n0 es (idsV n0 e.2.1 (idsV n0 e.1 L))

def idsB (n0 : Nat) (B : SBlk) (L : List Nat) : List Nat := match B with
  | .cells cs _ _ => idsL n0 cs L
  | .map es _ => idsE n0 es L
  | .siter _ _ => L
  | .miter m _ _ _ => addN n0 m L

def idsH (n0 : Nat) (H : T SBlk) : List Nat → List Nat → List Nat
  | [], L => L
  | b :: bs, L => match H.get b with
    | none => idsH n0 H bs L
    | some B => idsH n0 H bs (idsB n0 B L)

def closeL (n0 : Nat) (H : T SBlk) : Nat → Nat → List Nat → List Nat
  | 0, _, L => L
  | f + 1, p, L => match nth L p with
    | none => L
    | some b => match H.get b with
      | none => closeL n0 H f (Nat.succ p) L
      | some B => closeL n0 H f (Nat.succ p) (idsB n0 B L)

def upN (n : Nat) : List Nat := Nat.rec (motive := fun _ => List Nat) [] (fun m ih => m :: ih) n

/-- Reckoned once, wherever it is met again. -/
def memo (b : Bool) : Bool := bif b then true else false
theorem memo_eq (b : Bool) : memo b = b := by cases b <;> rfl

def memK (M : Mem) (k : Mem → Bool) : Bool := match M with
  | ⟨blk, os, out, tape, gl, glok, X⟩ => k ⟨blk, os, out, tape, gl, glok, X⟩
theorem memK_eq (M : Mem) (k : Mem → Bool) : memK M k = k M := by cases M; rfl

/-- A state, in its one form. -/
def canonK (n1 : Nat) (v : SV) (h : HS) (K : SV → HS → Bool) : Bool :=
  natK n1 fun n0 => memK h.M fun M => natsK (closeL n0 h.H h.nx 0 (idsH n0 h.H (upN n0) (idsV n0 v []))) fun L =>
    renVK n0 L v fun v' => renHK n0 L h.H (upN n0 ++ L) .e fun H' => natK (n0 + L.length) fun nx => memo (K v' ⟨H', nx, M⟩)

theorem canonK_post {ρ0 ρ : Nat → Loc} {h0 h : HS} {v : SV} {K : SV → HS → Bool} {w' : World} (hk : canonK h0.nx v h K = true) (hv : v.lt ρ h.nx) (R : HRel ρ h w') (hx : Ext ρ0 ρ h0.nx) (hm : h0.M.le h.M) :
    Post ρ0 h0 K (v.den ρ) w' := by
  unfold canonK at hk
  rw [natK_eq, memK_eq, natsK_eq] at hk
  generalize closeL h0.nx h.H h.nx 0 (idsH h0.nx h.H (upN h0.nx) (idsV h0.nx v [])) = L at hk
  rw [renVK_eq] at hk
  cases hr : renV h0.nx L v with
  | none => rw [hr] at hk; exact absurd hk Bool.false_ne_true
  | some v' =>
    rw [hr] at hk
    have hk : renHK h0.nx L h.H (upN h0.nx ++ L) .e (fun H' => natK (h0.nx + L.length) fun nx => memo (K v' ⟨H', nx, h.M⟩)) = true := hk
    rw [renHK_eq] at hk
    cases hh : renH h0.nx L h.H (upN h0.nx ++ L) .e with
    | none => rw [hh] at hk; exact absurd hk Bool.false_ne_true
    | some H' =>
      rw [hh] at hk
      have hk : (natK (h0.nx + L.length) fun nx => memo (K v' ⟨H', nx, h.M⟩)) = true := hk
      rw [natK_eq, memo_eq] at hk
      have hH := renH_spec _ _ _ hh (fun k B' hg => by rw [T.get_e] at hg; cases hg)
      obtain ⟨d1, d2⟩ := renV_den (ρ := ρ) v v' hr hv
      refine ⟨v', ⟨H', h0.nx + L.length, h.M⟩, fun k => ρ (backN h0.nx L k), hk, d1.symm, d2, R.ren hH, fun b hb => ?_, Nat.le_add_right _ _, hm⟩
      show ρ (backN h0.nx L b) = ρ0 b
      unfold backN
      rw [if_pos hb]
      exact hx b hb

/-! ### Slots and blocks that are wanted no more, forgotten -/

def liveK (tm : T SV) : List Nat → T SV → List Nat → (T SV → List Nat → Bool) → Bool
  | [], acc, L, k => k acc L
  | i :: is, acc, L, k => match tm.get i with
    | none => liveK tm is acc L k
    | some x => setK 32 acc i x fun acc => liveK tm is acc (idsV 0 x L) k

theorem liveK_sub {tm : T SV} : ∀ {is : List Nat} {acc : T SV} {L : List Nat} {k : T SV → List Nat → Bool}, liveK tm is acc L k = true → (∀ i x, acc.get i = some x → tm.get i = some x) →
    ∃ acc' L', k acc' L' = true ∧ ∀ i x, acc'.get i = some x → tm.get i = some x := by
  intro is
  induction is with
  | nil => intro acc L k h hs; exact ⟨acc, L, h, hs⟩
  | cons i is ih =>
    intro acc L k h hs
    simp only [liveK] at h
    split at h
    · exact ih h hs
    · rename_i x hx
      rw [setK_eq] at h
      refine ih h fun j y hj => ?_
      rcases T.get_set hj with ⟨rfl, rfl⟩ | ⟨_, hj⟩
      · exact hx
      · exact hs j y hj

def keepK (H : T SBlk) : List Nat → T SBlk → (T SBlk → Bool) → Bool
  | [], acc, k => k acc
  | b :: bs, acc, k => match H.get b with
    | none => keepK H bs acc k
    | some B => setK 32 acc b B fun acc => keepK H bs acc k

theorem keepK_sub {H : T SBlk} : ∀ {bs : List Nat} {acc : T SBlk} {k : T SBlk → Bool}, keepK H bs acc k = true → (∀ b B, acc.get b = some B → H.get b = some B) →
    ∃ acc', k acc' = true ∧ ∀ b B, acc'.get b = some B → H.get b = some B := by
  intro bs
  induction bs with
  | nil => intro acc k h hs; exact ⟨acc, h, hs⟩
  | cons b bs ih =>
    intro acc k h hs
    simp only [keepK] at h
    split at h
    · exact ih h hs
    · rename_i B hB
      rw [setK_eq] at h
      refine ih h fun j y hj => ?_
      rcases T.get_set hj with ⟨rfl, rfl⟩ | ⟨_, hj⟩
      · exact hB
      · exact hs j y hj

/-- These slots alone, and what they reach. -/
def gcK (live : List Nat) (tm : T SV) (h : HS) (F : T SV → HS → Bool) : Bool :=
  liveK tm live .e [] fun tm L => natsK (closeL 0 h.H h.nx 0 L) fun L => keepK h.H L .e fun H => natK h.nx fun nx => memK h.M fun M => memo (F tm ⟨H, nx, M⟩)

theorem gcK_sub {live : List Nat} {tm : T SV} {h : HS} {F : T SV → HS → Bool} (hk : gcK live tm h F = true) :
    ∃ tm' H', F tm' ⟨H', h.nx, h.M⟩ = true ∧ (∀ i x, tm'.get i = some x → tm.get i = some x) ∧ ∀ b B, H'.get b = some B → h.H.get b = some B := by
  unfold gcK at hk
  obtain ⟨tm', L, hk, h1⟩ := liveK_sub hk (fun i x h => by rw [T.get_e] at h; cases h)
  rw [natsK_eq] at hk
  obtain ⟨H', hk, h2⟩ := keepK_sub hk (fun i x h => by rw [T.get_e] at h; cases h)
  rw [natK_eq, memK_eq, memo_eq] at hk
  exact ⟨tm', H', hk, h1, h2⟩

theorem HRel.less {ρ : Nat → Loc} {h : HS} {w : World} (R : HRel ρ h w) {H' : T SBlk} (hs : ∀ b B, H'.get b = some B → h.H.get b = some B) : HRel ρ ⟨H', h.nx, h.M⟩ w :=
  ⟨R.os, R.out, R.tape, R.mem, fun b B hb => R.blk b B (hs b B hb), fun b b' B B' hb hb' he => R.inj b b' B B' (hs b B hb) (hs b' B' hb') he, fun b B hb => R.apart b B (hs b B hb), R.are, fun b B hb => R.aprA b B (hs b B hb), R.disj⟩

/-! ### A state in the midst of a function, in one form -/

def slotIds (n0 : Nat) (tm : T SV) : List Nat → List Nat → List Nat
  | [], L => L
  | i :: is, L => match tm.get i with
    | none => slotIds n0 tm is L
    | some x => slotIds n0 tm is (idsV n0 x L)

def renTK (n0 : Nat) (L : List Nat) (tm : T SV) : List Nat → T SV → (T SV → Bool) → Bool
  | [], acc, k => k acc
  | i :: is, acc, k => match tm.get i with
    | none => renTK n0 L tm is acc k
    | some x => renVK n0 L x fun x' => setK 32 acc i x' fun acc => renTK n0 L tm is acc k

theorem renTK_spec {n0 : Nat} {L : List Nat} {tm : T SV} : ∀ {is : List Nat} {acc : T SV} {k : T SV → Bool}, renTK n0 L tm is acc k = true →
    (∀ j y, acc.get j = some y → ∃ x, tm.get j = some x ∧ renV n0 L x = some y) → ∃ acc', k acc' = true ∧ ∀ j y, acc'.get j = some y → ∃ x, tm.get j = some x ∧ renV n0 L x = some y := by
  intro is
  induction is with
  | nil => intro acc k h hs; exact ⟨acc, h, hs⟩
  | cons i is ih =>
    intro acc k h hs
    simp only [renTK] at h
    split at h
    · exact ih h hs
    · rename_i x hx
      rw [renVK_eq] at h
      cases hr : renV n0 L x with
      | none => rw [hr] at h; exact absurd h Bool.false_ne_true
      | some x' =>
        rw [hr] at h
        have h : setK 32 acc i x' (fun acc => renTK n0 L tm is acc k) = true := h
        rw [setK_eq] at h
        refine ih h fun j y hj => ?_
        rcases T.get_set hj with ⟨rfl, rfl⟩ | ⟨_, hj⟩
        · exact ⟨x, hx, hr⟩
        · exact hs j y hj

/-- A state in its one form, the slots with it: blocks from n1 on are counted anew. -/
def canonT (n1 sz : Nat) (tm : T SV) (h : HS) (F : T SV → HS → Bool) : Bool :=
  natK n1 fun n0 => memK h.M fun M => natsK (closeL n0 h.H h.nx 0 (slotIds n0 tm (upN sz) (idsH n0 h.H (upN n0) []))) fun L =>
    renTK n0 L tm (upN sz) .e fun tm' => renHK n0 L h.H (upN n0 ++ L) .e fun H' => natK (n0 + L.length) fun nx => memo (F tm' ⟨H', nx, M⟩)

theorem canonT_goes {ρ0 ρ : Nat → Loc} {h0 h : HS} {sz : Nat} {tm : T SV} {F : T SV → HS → Bool} {a : Act} {w' : World} (hk : canonT h0.nx sz tm h F = true) (A : ARel dfs ρ tm sz h.nx a) (R : HRel ρ h w') (hx : Ext ρ0 ρ h0.nx) (hm : h0.M.le h.M) :
    Goes dfs ρ0 h0 sz F a w' := by
  unfold canonT at hk
  rw [natK_eq, memK_eq, natsK_eq] at hk
  generalize closeL h0.nx h.H h.nx 0 (slotIds h0.nx tm (upN sz) (idsH h0.nx h.H (upN h0.nx) [])) = L at hk
  obtain ⟨tm', hk, htm⟩ := renTK_spec hk (fun j y h => by rw [T.get_e] at h; cases h)
  rw [renHK_eq] at hk
  cases hh : renH h0.nx L h.H (upN h0.nx ++ L) .e with
  | none => rw [hh] at hk; exact absurd hk Bool.false_ne_true
  | some H' =>
    rw [hh] at hk
    have hk : (natK (h0.nx + L.length) fun nx => memo (F tm' ⟨H', nx, h.M⟩)) = true := hk
    rw [natK_eq, memo_eq] at hk
    have hH := renH_spec _ _ _ hh (fun k B' hg => by rw [T.get_e] at hg; cases hg)
    refine ⟨tm', ⟨H', h0.nx + L.length, h.M⟩, fun k => ρ (backN h0.nx L k), hk, ⟨A.size, fun i y hi => ?_, A.defers⟩, R.ren hH, fun b hb => ?_, Nat.le_add_right _ _, hm⟩
    · obtain ⟨x, hx', hr⟩ := htm i y hi
      obtain ⟨l1, l2⟩ := A.at_ i x hx'
      obtain ⟨d1, d2⟩ := renV_den (ρ := ρ) x y hr l1
      exact ⟨d2, by rw [l2, d1]⟩
    · show ρ (backN h0.nx L b) = ρ0 b
      unfold backN
      rw [if_pos hb]
      exact hx b hb

/-- Is there but one order? -/
def oneWay : DPlan → Bool
  | .done => true
  | .stop => true
  | .take _ _ _ r => oneWay r
  | .eff _ _ _ _ q a => match a with
    | .stop => oneWay q
    | _ => false

end
end Go.Sx

namespace Go.Sx
noncomputable section
variable {dfs : List Deferred}

inductive SX where
  | nrm
  | ext (id : Nat)
  | ret
  | pnc (x : SV)

abbrev KT := SX → T SV → HS → Bool

/-- A contract of a function, as a transformer. -/
abbrev CT := List SV → HS → (SV → HS → Bool) → Bool

def resV (P : Program) (tm : T SV) (h : HS) : List ResultVar → Option (List SV)
  | [] => some []
  | r :: rs => match (match r with
      | .tmp t => tm.get t
      | .cell x t => match tm.get x with
        | some x => loadV P h t x
        | none => none), resV P tm h rs with
    | some v, some vs => some (v :: vs)
    | _, _ => none

def oneOf : List SV → SV
  | [v] => v
  | vs => .tup vs

/-- What a block's code does, told beforehand. -/
abbrev LT := Code → Nat → KT → T SV → HS → Bool

/-- Blocks that are told beforehand; functions behind which a state is laid out in its one form. -/
structure LTab where
  lt : FuncId → Nat → Option LT
  mg : FuncId → Bool
  gc : FuncId → Nat → Option (List Nat)      -- ahead of these blocks: the slots that are wanted still

/-- A function's way out. -/
def retK (P : Program) (mg : Bool) (n0 : Nat) (rs : List ResultVar) (K E : SV → HS → Bool) (e : SX) (tm : T SV) (h : HS) : Bool :=
  match e with
  | .ext _ => false
  | .pnc x => E x h
  | _ => match resV P tm h rs with
    | some vs => bif mg then canonK n0 (oneOf vs) h K else K (oneOf vs) h
    | none => false

def runBody (P : Program) (mg : FuncId → Bool) (code : FuncId → Nat → Code → KT → T SV → HS → Bool) (f : FuncId) (args : List SV) (h : HS) (K E : SV → HS → Bool) (fn : Func) (c : Code) : Bool :=
  bif fn.name == "runtime.NumGoroutine" then false else
    code f (args.length + (fn.ntmps - args.length)) c (retK P (mg f) h.nx fn.results.toList K E) (T.ofList args) h

/-- A function's body, with its results. -/
def runFn (P : Program) (mg : FuncId → Bool) (code : FuncId → Nat → Code → KT → T SV → HS → Bool) (C : FuncId → Option CT) : CallT := fun f args h K E =>
  match C f with
  | some ct => ct args h K
  | none => match fnOf P f with
    | none => false
    | some fn => match fn.body with
      | none => false
      | some c => runBody P mg code f args h K E fn c

abbrev CodeT := FuncId → Nat → Code → KT → T SV → HS → Bool

def seqK (ih : CodeT) (f : FuncId) (sz : Nat) (b : Code) (K : KT) (e : SX) (tm : T SV) (h : HS) : Bool := match e with
  | .nrm => ih f sz b K tm h
  | e => K e tm h

def blkK (id : Nat) (K : KT) (e : SX) (tm : T SV) (h : HS) : Bool := match e with
  | .ext i => bif Nat.beq i id then K .nrm tm h else K (.ext i) tm h
  | e => K e tm h

def sxCond (ih : CodeT) (f : FuncId) (sz : Nat) (x : Option SV) (a b : Code) (K : KT) (tm : T SV) (h : HS) : Bool := match x with
  | some (.v (.bool t)) => bif t then ih f sz a K tm h else ih f sz b K tm h
  | _ => false

def sxBlock (Λ : LTab) (ih : CodeT) (f : FuncId) (sz : Nat) (id : Nat) (a : Code) (K : KT) (tm : T SV) (h : HS) : Bool := match Λ.lt f id with
  | some lt => lt a sz K tm h
  | none => match Λ.gc f id with
    | some live => gcK live tm h (fun tm h => ih f sz a (blkK id K) tm h)
    | none => ih f sz a (blkK id K) tm h

/-- The slots that a region writes, forgotten. -/
def strike : List Oper → T SV → T SV
  | [], tm => tm
  | o :: os, tm => match o.dst with
    | none => strike os tm
    | some d => strike os (tm.del d)

theorem strike_get : ∀ {os : List Oper} {tm : T SV} {i : Nat} {x : SV}, (strike os tm).get i = some x → tm.get i = some x ∧ ∀ o ∈ os, o.dst ≠ some i
  | [], _, _, _, h => ⟨h, fun _ ho => by cases ho⟩
  | o :: os, tm, i, x, h => by
    simp only [strike] at h
    cases hd : o.dst with
    | none =>
      rw [hd] at h
      obtain ⟨h1, h2⟩ := strike_get h
      exact ⟨h1, fun o' ho' => by
        rcases List.mem_cons.1 ho' with rfl | ho'
        · rw [hd]; exact fun e => by cases e
        · exact h2 o' ho'⟩
    | some d =>
      rw [hd] at h
      obtain ⟨h1, h2⟩ := strike_get h
      obtain ⟨h3, h4⟩ := T.get_del h1
      exact ⟨h4, fun o' ho' => by
        rcases List.mem_cons.1 ho' with rfl | ho'
        · rw [hd]; exact fun e => h3 (by injection e with e; exact e.symm)
        · exact h2 o' ho'⟩

/-- A panic out of a region. -/
def regE (ops : Array Oper) (K : KT) (x : SV) (tm : T SV) (h : HS) : Bool := K (.pnc x) (strike ops.toList tm) h

def sxRegion (P : Program) (call : CallT) (sz : Nat) (ops : Array Oper) (draw : Bool) (K : KT) (tm : T SV) (h : HS) : Bool :=
  bif draw then
    match planOf P ops with
    | some pl => bif h.M.X.op || oneWay pl then sxPlan P call sz (K .nrm) (regE ops K) pl [] tm h else sxPlan P call sz (fun tm' h' => canonT h.nx sz tm' h' (K .nrm)) (regE ops K) pl [] tm h
    | none => false
  else fxOps P call sz (regE ops K) ops.toList (K .nrm) ops.toList tm h

/-- A region, ahead of which some slots may be forgotten (its number, from a million on). -/
def sxReg (P : Program) (call : CallT) (Λ : LTab) (f : FuncId) (sz : Nat) (id : Nat) (ops : Array Oper) (draw : Bool) (K : KT) (tm : T SV) (h : HS) : Bool := match Λ.gc f (Nat.add 1000000 id) with
  | some live => gcK live tm h (fun tm h => sxRegion P call sz ops draw K tm h)
  | none => sxRegion P call sz ops draw K tm h

def sxStep (P : Program) (C : FuncId → Option CT) (Λ : LTab) (ih : CodeT) (f : FuncId) (sz : Nat) (c : Code) (K : KT) (tm : T SV) (h : HS) : Bool :=
  match c with
  | .skip => K .nrm tm h
  | .label _ => K .nrm tm h
  | .ret => K .ret tm h
  | .exit id => K (.ext id) tm h
  | .seq a b => ih f sz a (seqK ih f sz b K) tm h
  | .cond x a b => sxCond ih f sz (opd tm x) a b K tm h
  | .block id a => sxBlock Λ ih f sz id a K tm h
  | .scope a => ih f sz a K tm h
  | .loop a => ih f sz a (seqK ih f sz (.loop a) K) tm h
  | .region id ops draw => sxReg P (runFn P Λ.mg ih C) Λ f sz id ops draw K tm h
  | _ => false

def sxCode (P : Program) (C : FuncId → Option CT) (Λ : LTab) (n : Nat) : CodeT :=
  Nat.rec (motive := fun _ => CodeT) (fun _ _ _ _ _ _ => false) (fun _ ih f sz c K tm h => sxStep P C Λ ih f sz c K tm h) n

theorem sxCode_succ (P : Program) (C : FuncId → Option CT) (Λ : LTab) (n : Nat) (f : FuncId) (sz : Nat) (c : Code) (K : KT) (tm : T SV) (h : HS) :
    sxCode P C Λ (n + 1) f sz c K tm h = sxStep P C Λ (sxCode P C Λ n) f sz c K tm h := rfl

/-! ### Soundness -/

/-- What is left, by the way out. -/
def GoesX (dfs : List Deferred) (ρ : Nat → Loc) (h : HS) (sz : Nat) (K : KT) : Exit → Act → World → Prop
  | .normal, a, w => Goes dfs ρ h sz (K .nrm) a w
  | .exit i, a, w => Goes dfs ρ h sz (K (.ext i)) a w
  | .ret, a, w => Goes dfs ρ h sz (K .ret) a w
  | .panic c, a, w => GoesE dfs ρ h sz (fun x => K (.pnc x)) c a w
  | _, _, _ => False

theorem GoesX.trans {ρ ρ' : Nat → Loc} {h h' : HS} {sz : Nat} {K : KT} {e : Exit} {a : Act} {w : World} (g : GoesX dfs ρ' h' sz K e a w) (hx : Ext ρ ρ' h.nx) (hn : h.nx ≤ h'.nx) (hm : h.M.le h'.M) : GoesX dfs ρ h sz K e a w := by
  cases e <;> first | exact Goes.trans g hx hn hm | exact GoesE.trans g hx hn hm | exact g

/-- A contract is right. -/
def CTSound (P : Program) (C : FuncId → Option CT) : Prop :=
  ∀ f ct, C f = some ct → ∀ args h K, ct args h K → ∀ ρ w, HRel ρ h w → (∀ x ∈ args, x.lt ρ h.nx) → CallGoes P f (args.map (SV.den ρ)).toArray w (Post ρ h K) fun _ _ => False

theorem CallGoes.mono {P : Program} {f : FuncId} {args : Array Value} {w : World} {Φ Φ' Ψ Ψ' : Value → World → Prop} (g : CallGoes P f args w Φ Ψ) (h1 : ∀ v w', Φ v w' → Φ' v w') (h2 : ∀ v w', Ψ v w' → Ψ' v w') : CallGoes P f args w Φ' Ψ' := by
  rcases g with ⟨fn, a, b, c⟩ | ⟨v, w', a, b⟩
  · exact .inl ⟨fn, a, b, c.mono fun e w' hor => by
      rcases hor with ⟨v, he, hq⟩ | ⟨v, he, hq⟩
      · exact .inl ⟨v, he, h1 _ _ hq⟩
      · exact .inr ⟨v, he, h2 _ _ hq⟩⟩
  · exact .inr ⟨v, w', a, h1 _ _ b⟩

theorem not_post_false {ρ : Nat → Loc} {h : HS} {v : Value} {w : World} : ¬ Post ρ h (fun _ _ => false) v w := fun ⟨_, _, _, hk, _⟩ => absurd hk Bool.false_ne_true

/-- The same, for a region: what is told of a panic does not speak of the slots that it writes. -/
def GoesR (dfs : List Deferred) (ops : Array Oper) (ρ : Nat → Loc) (h : HS) (sz : Nat) (K : KT) : Exit → Act → World → Prop
  | .panic c, a, w => ∃ x tm' h' ρ', c = pnc (x.den ρ') ∧ x.lt ρ' h'.nx ∧ K (.pnc x) tm' h' ∧ (∀ i y, tm'.get i = some y → ∀ o ∈ ops.toList, o.dst ≠ some i) ∧
      ARel dfs ρ' tm' sz h'.nx a ∧ HRel ρ' h' w ∧ Ext ρ ρ' h.nx ∧ h.nx ≤ h'.nx ∧ h.M.le h'.M
  | e, a, w => GoesX dfs ρ h sz K e a w

theorem put_size (a : Act) (d : Option Tmp) (v : Value) : (a.put d v).tmps.size = a.tmps.size := by
  cases d <;> simp [Act.put]

theorem put_other (a : Act) {d : Option Tmp} {i : Nat} (h : d ≠ some i) (v : Value) : (a.put d v).tmps[i]? = a.tmps[i]? := by
  cases d with
  | none => rfl
  | some d =>
    have : d ≠ i := fun e => h (by rw [e])
    simp [Act.put, this]

theorem put_defers (a : Act) (d : Option Tmp) (v : Value) : (a.put d v).defers = a.defers := by
  cases d <;> rfl

/-- A part of a code. -/
inductive InC : Code → Code → Prop
  | refl (c : Code) : InC c c
  | seqL {a b c : Code} : InC (.seq a b) c → InC a c
  | seqR {a b c : Code} : InC (.seq a b) c → InC b c
  | condL {x : Operand} {a b c : Code} : InC (.cond x a b) c → InC a c
  | condR {x : Operand} {a b c : Code} : InC (.cond x a b) c → InC b c
  | block {i : Nat} {a c : Code} : InC (.block i a) c → InC a c
  | loop {a c : Code} : InC (.loop a) c → InC a c
  | scope {a c : Code} : InC (.scope a) c → InC a c

/-- A part of a function's body. -/
def Within (P : Program) (f : FuncId) (c : Code) : Prop := ∃ fn b, P.funcs[f]? = some fn ∧ fn.body = some b ∧ InC c b

theorem Within.to {P : Program} {f : FuncId} {c d : Code} (h : Within P f c) (hd : ∀ {b}, InC c b → InC d b) : Within P f d := by
  obtain ⟨fn, b, h1, h2, h3⟩ := h
  exact ⟨fn, b, h1, h2, hd h3⟩

/-- What is told of a block is right. -/
def LTSound (P : Program) (Λ : LTab) : Prop :=
  ∀ f id lt, Λ.lt f id = some lt → ∀ c sz K tm h, Within P f (.block id c) → lt c sz K tm h → ∀ dfs ρ a w, ARel dfs ρ tm sz h.nx a → HRel ρ h w → (Code.block id c).wp P (GoesX dfs ρ h sz K) a w

def resM (tmps : Array Value) : ResultVar → Sem Value
  | .tmp t => pure (tmps.getD t undef)
  | .cell x t => do loadVar t (← asAddr (tmps.getD x undef))

theorem results_eq (fn : Func) (tmps : Array Value) : results fn tmps = (do
    let vs ← fn.results.mapM (resM tmps)
    pure (if h : vs.size = 1 then vs[0] else .tuple vs)) := by
  unfold results
  congr 1

theorem resV_run {P : Program} {tm : T SV} {h : HS} {ρ : Nat → Loc} {sz : Nat} {a : Act} {w : World} (A : ARel dfs ρ tm sz h.nx a) (H : HRel ρ h w) : ∀ (rs : List ResultVar) (vs : List SV), resV P tm h rs = some vs →
    (rs.mapM (resM a.tmps)).run P w = .ok (vs.map (SV.den ρ)) w ∧ ∀ v ∈ vs, v.lt ρ h.nx := by
  intro rs
  induction rs with
  | nil => intro vs h; simp only [resV, Option.some.injEq] at h; subst h; exact ⟨rfl, fun _ h => by cases h⟩
  | cons r rs ih =>
    intro vs hv
    simp only [resV] at hv
    split at hv
    · rename_i v vs' h1 h2
      injection hv with hv; subst hv
      obtain ⟨k1, k2⟩ := ih vs' h2
      cases r with
      | tmp t =>
        obtain ⟨g1, g2⟩ := A.at_ t v h1
        refine ⟨?_, fun y hy => ?_⟩
        · have hg : a.tmps.getD t undef = v.den ρ := by simp [g2]
          simp only [List.mapM_cons, resM, Sem.run_bind, Sem.run_pure, Result.andThen_ok, hg]
          rw [k1]; rfl
        · rcases List.mem_cons.1 hy with rfl | hy
          · exact g1
          · exact k2 y hy
      | cell x t =>
        simp only at h1
        split at h1
        · rename_i xv hx
          obtain ⟨g1, g2⟩ := A.at_ x xv hx
          obtain ⟨l1, l2⟩ := loadV_run h1 H
          have hg : a.tmps.getD x undef = xv.den ρ := by simp [g2]
          refine ⟨?_, fun y hy => ?_⟩
          · -- a load of a pointer
            have hp : ∃ ad, xv.den ρ = .pointer (some ad) := by
              unfold loadV at h1
              split at h1
              · cases h1
              · split at h1
                · exact ⟨_, rfl⟩
                · exact ⟨_, rfl⟩
                · cases h1
            obtain ⟨ad, had⟩ := hp
            rw [had] at l1 hg
            simp only [Instr.loadAt, Instr.sureAddr, Sem.run_bind, Sem.run_pure, Result.andThen_ok] at l1
            have hasA : (asAddr (.pointer (some ad))).run P w = .ok ad w := rfl
            simp only [List.mapM_cons, resM, Sem.run_bind, hg, hasA, Sem.run_pure, Result.andThen_ok, l1]
            rw [k1]; rfl
          · rcases List.mem_cons.1 hy with rfl | hy
            · exact l2
            · exact k2 y hy
        · cases h1
    · cases hv

theorem runFn_sound {P : Program} {mg : FuncId → Bool} {C : FuncId → Option CT} (hC : CTSound P C) {code : FuncId → Nat → Code → KT → T SV → HS → Bool}
    (hcode : ∀ f sz c K tm h, Within P f c → code f sz c K tm h → ∀ dfs ρ a w, ARel dfs ρ tm sz h.nx a → HRel ρ h w → c.wp P (GoesX dfs ρ h sz K) a w) : CallSound P (runFn P mg code C) := by
  intro f args h K E hk ρ w H hargs
  unfold runFn at hk
  split at hk
  · rename_i ct hct
    exact (hC f ct hct args h K hk ρ w H hargs).mono (fun _ _ h => h) fun _ _ h => h.elim
  · split at hk
    · exact absurd hk Bool.false_ne_true
    · rename_i fn hfn
      split at hk
      · exact absurd hk Bool.false_ne_true
      · rename_i c hb
        have hf := fn_of hfn
        unfold runBody at hk
        cases hname : fn.name == "runtime.NumGoroutine" with
        | true => rw [hname] at hk; exact absurd hk Bool.false_ne_true
        | false =>
          rw [hname] at hk
          simp only [cond_false] at hk
          refine .inl ⟨fn, hf, ⟨hname, by rw [hb]; rfl⟩, calls_of_wp hf hb ?_⟩
          have A : ARel [] ρ (T.ofList args) (args.length + (fn.ntmps - args.length)) h.nx { tmps := (args.map (SV.den ρ)).toArray ++ Array.replicate (fn.ntmps - (args.map (SV.den ρ)).toArray.size) undef, defers := [] } := by
            refine ⟨by simp, fun i x hi => ?_, rfl⟩
            have hx := T.get_ofList hi
            refine ⟨hargs x (List.mem_of_getElem? hx), ?_⟩
            have hlt := (List.getElem?_eq_some_iff.1 hx).1
            rw [Array.getElem?_append_left (by simpa using hlt)]
            simp [hx]
          refine wp_mono (hcode _ _ _ _ _ _ ⟨fn, c, hf, hb, .refl c⟩ hk [] ρ _ w A H) fun e a' w' g => ?_
          have fin : ∀ a' w', Goes [] ρ h (args.length + (fn.ntmps - args.length)) (retK P (mg f) h.nx fn.results.toList K E .nrm) a' w' →
              a'.defers = [] ∧ ∃ v, (results fn a'.tmps).run P w' = .ok v w' ∧ ((∃ v', Ending.returned v = .returned v' ∧ Post ρ h K v' w') ∨ ∃ v', Ending.returned v = .panicked (pnc v') ∧ Post ρ h E v' w') := by
            intro a' w' ⟨tm', h', ρ', hk', A', H', hx, hnx, hm⟩
            refine ⟨A'.defers, ?_⟩
            simp only [retK] at hk'
            split at hk'
            · rename_i vs hvs
              obtain ⟨r1, r2⟩ := resV_run A' H' _ _ hvs
              have hres : (results fn a'.tmps).run P w' = .ok ((oneOf vs).den ρ') w' := by
                rw [results_eq, Array.mapM_eq_mapM_toList]
                simp only [Sem.run_bind, Sem.run_map]
                rw [r1]
                simp only [Result.andThen_ok, Sem.run_pure]
                congr 1
                match vs with
                | [] => simp [oneOf, SV.den, SV.dens]
                | [v] => simp [oneOf]
                | v :: u :: vs => simp [oneOf, SV.den, SV.dens, dens_eq]
              have hv : (oneOf vs).lt ρ' h'.nx := by
                match vs with
                | [] => trivial
                | [v] => exact r2 v (by simp)
                | v :: u :: vs => exact lts_iff.2 r2
              refine ⟨_, hres, .inl ⟨_, rfl, ?_⟩⟩
              cases hmg : mg f with
              | true => rw [hmg] at hk'; exact canonK_post hk' hv H' hx hm
              | false => rw [hmg] at hk'; exact ⟨oneOf vs, h', ρ', hk', rfl, hv, H', hx, hnx, hm⟩
            · exact absurd hk' Bool.false_ne_true
          cases e with
          | normal => exact fin a' w' g
          | ret => exact fin a' w' g
          | exit i => obtain ⟨_, _, _, hk', _⟩ := g; exact absurd hk' Bool.false_ne_true
          | goto l => exact g.elim
          | panic c =>
            obtain ⟨x, tm', h', ρ', hc, hl, hk', A', H', hx, hnx, hm⟩ := g
            have hk' : E x h' = true := hk'
            exact ⟨A'.defers, .inr ⟨_, by rw [hc], x, h', ρ', hk', rfl, hl, H', hx, hnx, hm⟩⟩
          | outgrown => exact g.elim

theorem rounds_mono {P : Program} {c : Code} {Q Q' : Exit → Act → World → Prop} (hq : ∀ e a w, Q e a w → Q' e a w) : ∀ (n : Nat) (a : Act) (w : World), Code.rounds P c Q n a w → Code.rounds P c Q' n a w := by
  intro n
  induction n with
  | zero => intro a w h; exact h
  | succ n ih =>
    intro a w h
    exact wp_mono h fun e a w g => by cases e <;> first | exact ih _ _ g | exact hq _ _ _ g

theorem sxCode_wp {P : Program} (hm : P.follows .mixedOrders = true) {C : FuncId → Option CT} (hC : CTSound P C) {Λ : LTab} (hΛ : LTSound P Λ) : ∀ (n : Nat),
    (∀ f sz c K tm h, Within P f c → sxCode P C Λ n f sz c K tm h → ∀ dfs ρ a w, ARel dfs ρ tm sz h.nx a → HRel ρ h w → c.wp P (GoesX dfs ρ h sz K) a w) ∧
    (∀ f sz c K tm h, Within P f (.loop c) → sxCode P C Λ n f sz (.loop c) K tm h → ∀ dfs ρ a w, ARel dfs ρ tm sz h.nx a → HRel ρ h w → Code.rounds P c (GoesX dfs ρ h sz K) n a w) := by
  intro n
  induction n with
  | zero => exact ⟨fun _ _ _ _ _ _ _ h => absurd h Bool.false_ne_true, fun _ _ _ _ _ _ _ h => absurd h Bool.false_ne_true⟩
  | succ n ih =>
    obtain ⟨ih1, ih2⟩ := ih
    have loops : ∀ f sz c K tm h, Within P f (.loop c) → sxCode P C Λ (n + 1) f sz (.loop c) K tm h → ∀ dfs ρ a w, ARel dfs ρ tm sz h.nx a → HRel ρ h w → Code.rounds P c (GoesX dfs ρ h sz K) (n + 1) a w := by
      intro f sz c K tm h hW hk dfs ρ a w A H
      rw [sxCode_succ] at hk
      simp only [sxStep] at hk
      rw [rounds_succ]
      refine wp_mono (ih1 _ _ _ _ _ _ (hW.to .loop) hk dfs ρ a w A H) fun e a' w' g => ?_
      cases e with
      | normal =>
        obtain ⟨tm', h', ρ', hk', A', H', hx, hnx, hm'⟩ := g
        simp only [seqK] at hk'
        exact rounds_mono (fun e a w g => g.trans hx hnx hm') _ _ _ (ih2 _ _ _ _ _ _ hW hk' dfs ρ' a' w' A' H')
      | exit i => exact g
      | ret => exact g
      | goto l => exact g
      | panic c => exact g
      | outgrown => exact g
    refine ⟨?_, loops⟩
    intro f sz c K tm h hW hk0 dfs ρ a w A H
    have here : ∀ {K' : T SV → HS → Bool}, K' tm h → Goes dfs ρ h sz K' a w := fun hk => ⟨tm, h, ρ, hk, A, H, Ext.refl _ _, Nat.le_refl _, Mem.le_refl _⟩
    have hk := hk0
    rw [sxCode_succ] at hk
    cases c with
    | skip => exact wp_skip (here hk)
    | label l => exact wp_label (here hk)
    | ret => exact wp_ret (here hk)
    | exit id => exact wp_exit (here hk)
    | seq x y =>
      simp only [sxStep] at hk
      refine wp_seq (wp_mono (ih1 _ _ _ _ _ _ (hW.to .seqL) hk dfs ρ a w A H) fun e a' w' g => ?_)
      cases e with
      | normal =>
        obtain ⟨tm', h', ρ', hk', A', H', hx, hnx, hm'⟩ := g
        simp only [seqK] at hk'
        exact wp_mono (ih1 _ _ _ _ _ _ (hW.to .seqR) hk' dfs ρ' a' w' A' H') fun e a w g => g.trans hx hnx hm'
      | exit i => exact g
      | ret => exact g
      | goto l => exact g
      | panic c => exact g
      | outgrown => exact g
    | cond x y z =>
      simp only [sxStep, sxCond] at hk
      split at hk
      · rename_i t ht
        obtain ⟨h1, _⟩ := opd_den A ht
        refine wp_cond (t := t) h1 ?_
        cases t with
        | true => exact ih1 _ _ _ _ _ _ (hW.to .condL) hk dfs ρ a w A H
        | false => exact ih1 _ _ _ _ _ _ (hW.to .condR) hk dfs ρ a w A H
      · exact absurd hk Bool.false_ne_true
    | block id x =>
      simp only [sxStep, sxBlock] at hk
      split at hk
      · rename_i lt hlt
        exact hΛ f id lt hlt x sz K tm h hW hk dfs ρ a w A H
      have go : ∀ tm h, sxCode P C Λ n f sz x (blkK id K) tm h = true → ARel dfs ρ tm sz h.nx a → HRel ρ h w → (Code.block id x).wp P (GoesX dfs ρ h sz K) a w := by
        intro tm h hk A H
        refine wp_block (wp_mono (ih1 _ _ _ _ _ _ (hW.to .block) hk dfs ρ a w A H) fun e a' w' g => ?_)
        cases e with
        | normal => exact g
        | exit i =>
          obtain ⟨tm', h', ρ', hk', A', H', hx, hnx, hm'⟩ := g
          simp only [blkK] at hk'
          cases hb : Nat.beq i id with
          | true =>
            rw [hb] at hk'
            have := Nat.eq_of_beq_eq_true hb
            subst this
            simp only [Exit.inBlock, if_true]
            exact ⟨tm', h', ρ', hk', A', H', hx, hnx, hm'⟩
          | false =>
            rw [hb] at hk'
            have hne : i ≠ id := fun e => by rw [e, Nat.beq_refl] at hb; cases hb
            simp only [Exit.inBlock, hne, if_false]
            exact ⟨tm', h', ρ', hk', A', H', hx, hnx, hm'⟩
        | ret => exact g
        | goto l => exact g
        | panic c => exact g
        | outgrown => exact g
      split at hk
      · obtain ⟨tm', H', hk', s1, s2⟩ := gcK_sub hk
        exact wp_mono (go tm' ⟨H', h.nx, h.M⟩ hk' ⟨A.size, fun i y hi => A.at_ i y (s1 i y hi), A.defers⟩ (H.less s2)) fun e a' w' g => g.trans (Ext.refl _ _) (Nat.le_refl _) (Mem.le_refl _)
      · exact go tm h hk A H
    | scope x =>
      simp only [sxStep] at hk
      refine wp_scope_straight (wp_mono (ih1 _ _ _ _ _ _ (hW.to .scope) hk dfs ρ a w A H) fun e a' w' g => ?_)
      cases e <;> exact g
    | loop x => exact wp_loop_rounds (n + 1) (loops f sz x K tm h hW hk0 dfs ρ a w A H)
    | region id ops draw =>
      have CS := runFn_sound (mg := Λ.mg) hC ih1
      have go : ∀ tm h, sxRegion P (runFn P Λ.mg (sxCode P C Λ n) C) sz ops draw K tm h = true → ARel dfs ρ tm sz h.nx a → HRel ρ h w → (Code.region id ops draw).wp P (GoesX dfs ρ h sz K) a w := by
        intro tm h hk A H
        simp only [sxRegion] at hk
        have hQ : ∀ (j : Nat) (o : Oper), ops[j]? = some o → ∀ v c a w, GoesR dfs ops ρ h sz K (.panic c) (a.put o.dst v) w → GoesR dfs ops ρ h sz K (.panic c) a w := by
          intro j o ho v c a w ⟨x, tm', h', ρ', e, l, k, s, A', R'⟩
          refine ⟨x, tm', h', ρ', e, l, k, s, ⟨?_, fun i y hi => ?_, ?_⟩, R'⟩
          · rw [← A'.size]; exact (put_size a o.dst v).symm
          · obtain ⟨l1, l2⟩ := A'.at_ i y hi
            refine ⟨l1, ?_⟩
            rw [← l2]
            refine (put_other a ?_ v).symm
            exact s i y hi o (by simpa using Array.mem_of_getElem? ho)
          · rw [← A'.defers]; exact (put_defers a o.dst v).symm
        have hE : ∀ c a' w', GoesE dfs ρ h sz (regE ops K) c a' w' → GoesR dfs ops ρ h sz K (.panic c) a' w' := by
          intro c a' w' ⟨x, tm', h', ρ', e, l, k, A', R'⟩
          exact ⟨x, strike ops.toList tm', h', ρ', e, l, k, fun i y hi => (strike_get hi).2, ⟨A'.size, fun i y hi => A'.at_ i y (strike_get hi).1, A'.defers⟩, R'⟩
        have out : ∀ {e : Exit} {a : Act} {w : World}, GoesR dfs ops ρ h sz K e a w → GoesX dfs ρ h sz K e a w := by
          intro e a w g
          cases e with
          | panic c =>
            obtain ⟨x, tm', h', ρ', e, l, k, _, A', R'⟩ := g
            exact ⟨x, tm', h', ρ', e, l, k, A', R'⟩
          | _ => exact g
        cases draw with
        | true =>
          simp only [cond_true] at hk
          split at hk
          · rename_i pl hpl
            obtain ⟨k1, k3⟩ := planOf_ok hpl
            have down : Down .any ops (Array.replicate ops.size false) := by
              intro k ok hk' hl
              exfalso
              rw [Array.getD_eq_getD_getElem?, Array.getElem?_replicate] at hl
              split at hl <;> simp at hl
            refine wp_mono (Q := GoesR dfs ops ρ h sz K) ?_ fun e a w g => out g
            cases h1 : (h.M.X.op || oneWay pl) with
            | true =>
              rw [h1] at hk
              exact wp_region_any hm (wpAnyL_any _ [] _ _ _ (sxPlan_wp CS k3 hQ _ pl _ 0 [] k1 (by simp) hk [] A (H.drawn _) down (by simp) (fun a' w' g => g) hE))
            | false =>
              rw [h1] at hk
              refine wp_region_any hm (wpAnyL_any _ [] _ _ _ (sxPlan_wp CS k3 hQ _ pl _ 0 [] k1 (by simp) hk [] A (H.drawn _) down (by simp) (fun a' w' g => ?_) hE))
              obtain ⟨tm', h', ρ', hk', A', R', hx, _, hm'⟩ := g
              exact canonT_goes (h0 := h) hk' A' R' hx hm'
          · exact absurd hk Bool.false_ne_true
        | false =>
          simp only [cond_false] at hk
          refine wp_mono (Q := GoesR dfs ops ρ h sz K) ?_ fun e a w g => out g
          refine wp_region (fxOps_wp CS (List.range ops.size) ops.toList ?_ hk A H (fun a' w' g => g) hE)
          apply List.ext_getElem?
          intro i
          simp only [List.getElem?_map]
          by_cases hi : i < ops.size
          · rw [List.getElem?_range hi]
            simp [hi]
          · rw [List.getElem?_eq_none (by simpa using hi), List.getElem?_eq_none (by simpa using hi)]
            rfl
      simp only [sxStep, sxReg] at hk
      split at hk
      · obtain ⟨tm', H', hk', s1, s2⟩ := gcK_sub hk
        exact wp_mono (go tm' ⟨H', h.nx, h.M⟩ hk' ⟨A.size, fun i y hi => A.at_ i y (s1 i y hi), A.defers⟩ (H.less s2)) fun e a' w' g => g.trans (Ext.refl _ _) (Nat.le_refl _) (Mem.le_refl _)
      · exact go tm h hk A H
    | rangeFunc f ps x y => exact absurd hk Bool.false_ne_true
    | goto l => exact absurd hk Bool.false_ne_true
    | refuse s => exact absurd hk Bool.false_ne_true

/-- **A CALL, BY THE EXECUTOR.** -/
def sxCallE (P : Program) (C : FuncId → Option CT) (Λ : LTab) (n : Nat) : CallT := runFn P Λ.mg (sxCode P C Λ n) C

/-- A call that does not panic. -/
def sxCall (P : Program) (C : FuncId → Option CT) (Λ : LTab) (n : Nat) (f : FuncId) (args : List SV) (h : HS) (K : SV → HS → Bool) : Bool := sxCallE P C Λ n f args h K fun _ _ => false

theorem sxCallE_sound {P : Program} (hm : P.follows .mixedOrders = true) {C : FuncId → Option CT} (hC : CTSound P C) {Λ : LTab} (hΛ : LTSound P Λ) (n : Nat) : CallSound P (sxCallE P C Λ n) := runFn_sound hC (sxCode_wp hm hC hΛ n).1

theorem sxCall_sound {P : Program} (hm : P.follows .mixedOrders = true) {C : FuncId → Option CT} (hC : CTSound P C) {Λ : LTab} (hΛ : LTSound P Λ) (n : Nat) : ∀ f args h K, sxCall P C Λ n f args h K → ∀ ρ w, HRel ρ h w → (∀ x ∈ args, x.lt ρ h.nx) → CallGoes P f (args.map (SV.den ρ)).toArray w (Post ρ h K) fun _ _ => False :=
  fun f args h K hk ρ w H ha => (sxCallE_sound hm hC hΛ n f args h K _ hk ρ w H ha).mono (fun _ _ h => h) fun _ _ h => not_post_false h

def noC : FuncId → Option CT := fun _ => none
def noL : LTab := ⟨fun _ _ => none, fun _ => false, fun _ _ => none⟩

/-- No blocks told; one form behind these functions. -/
def mgL (l : List Nat) : LTab := ⟨fun _ _ => none, fun f => memN f l, fun _ _ => none⟩

/-- The same, and ahead of some blocks (function, block, slots) what is wanted no more is forgotten. -/
def gcOf (f id : Nat) : List (Nat × Nat × List Nat) → Option (List Nat)
  | [] => none
  | x :: xs => bif Nat.beq x.1 f && Nat.beq x.2.1 id then some x.2.2 else gcOf f id xs

def gcL (l : List Nat) (g : List (Nat × Nat × List Nat)) : LTab := ⟨fun _ _ => none, fun f => memN f l, fun f id => gcOf f id g⟩

theorem noC_sound (P : Program) : CTSound P noC := fun _ _ h => by cases h
theorem noL_sound (P : Program) : LTSound P noL := fun _ _ _ h => by cases h
theorem mgL_sound (P : Program) (l : List Nat) : LTSound P (mgL l) := fun _ _ _ h => by cases h
theorem gcL_sound (P : Program) (l : List Nat) (g : List (Nat × Nat × List Nat)) : LTSound P (gcL l g) := fun _ _ _ h => by cases h

/-! ### Loops with an invariant -/

/-- What one state says, the other says too. -/
def SubT (tm tm' : T SV) : Prop := ∀ k x, tm.get k = some x → tm'.get k = some x

structure SubH (h h' : HS) : Prop where
  nx : h.nx = h'.nx
  blk : ∀ b B, h.H.get b = some B → h'.H.get b = some B
  mem : h.M.le h'.M

theorem ARel.sub {ρ : Nat → Loc} {tm tm' : T SV} {sz nx : Nat} {a : Act} (A : ARel dfs ρ tm' sz nx a) (h : SubT tm tm') : ARel dfs ρ tm sz nx a := ⟨A.size, fun i x hi => A.at_ i x (h i x hi), A.defers⟩

end
end Go.Sx

namespace Go.Sx
noncomputable section
open Go.RowKit

theorem HRel.below {ρ : Nat → Loc} {h : HS} {w w' : World} (H : HRel ρ h w) (hb : Below w.heap.size w w') : HRel ρ h w' where
  os := hb.os.trans H.os
  out := hb.output.trans H.out
  tape := hb.tape.trans H.tape
  mem := fun k o hk => by
    have h1 := H.mem k o hk
    rw [hb.block k (Array.getElem?_eq_some_iff.1 h1).1]; exact h1
  blk := fun b B hB => by
    obtain ⟨h1, h2, h3⟩ := H.blk b B hB
    exact ⟨h1, h2, h3.of (Ext.refl ρ h.nx) h2 (hb.block _ h3.size)⟩
  inj := H.inj
  apart := H.apart
  are := fun k o hk => by
    have h1 := H.are k o hk
    rw [hb.block k (Array.getElem?_eq_some_iff.1 h1).1]; exact h1
  aprA := H.aprA
  disj := H.disj

/-- A call that hands back a value which names no memory, and leaves all that lay. -/
theorem goes_of_below {P : Program} {f : FuncId} {fn : Func} (hf : P.funcs[f]? = some fn) (hn : (fn.name == "runtime.NumGoroutine") = false) (hb : fn.body.isNone = false)
    {args : Array Value} {w : World} {x : Value} (hc : Calls P f args w fun e w' => e = .returned x ∧ Below w.heap.size w w')
    {ρ : Nat → Loc} {h : HS} (H : HRel ρ h w) {K : SV → HS → Bool} {z : SV} (hk : K z h) (hz : z.den ρ = x) (hl : z.lt ρ h.nx) {Ψ : Value → World → Prop} : CallGoes P f args w (Post ρ h K) Ψ :=
  .inl ⟨fn, hf, ⟨hn, hb⟩, hc.mono fun _ _ ⟨he, hw⟩ => .inl ⟨x, he, z, h, ρ, hk, hz.symm, hl, H.below hw, Ext.refl _ _, Nat.le_refl _, Mem.le_refl _⟩⟩

/-- An entry of the model's that gives a value at once. -/
theorem goes_of_entry {P : Program} {f : FuncId} {args : Array Value} {w : World} {x : Value} (hc : (callFunc f args).run P w = .ok (.value x) w)
    {ρ : Nat → Loc} {h : HS} (H : HRel ρ h w) {K : SV → HS → Bool} {z : SV} (hk : K z h) (hz : z.den ρ = x) (hl : z.lt ρ h.nx) {Ψ : Value → World → Prop} : CallGoes P f args w (Post ρ h K) Ψ :=
  .inr ⟨x, w, hc, z, h, ρ, hk, hz.symm, hl, H, Ext.refl _ _, Nat.le_refl _, Mem.le_refl _⟩

/-- What a call shows, out of the executor. -/
theorem calls_of_goes {P : Program} {f : FuncId} {args : Array Value} {w : World} {Φ : Value → World → Prop} (h : CallGoes P f args w Φ fun _ _ => False) {fn : Func} (hf : P.funcs[f]? = some fn)
    (hn : (fn.name == "runtime.NumGoroutine") = false) (hb : fn.body.isSome = true) : Calls P f args w fun e w' => ∃ v, e = .returned v ∧ Φ v w' := by
  rcases h with ⟨_, _, _, h⟩ | ⟨v, w', hv, h⟩
  · exact h.mono fun e w' hor => by
      rcases hor with h | ⟨_, _, h⟩
      · exact h
      · exact h.elim
  · have h1 : fn.name ≠ "runtime.NumGoroutine" := by simpa using hn
    obtain ⟨c, hc⟩ := Option.isSome_iff_exists.1 hb
    have e : (callFunc f args).run P w = .ok (.enter f args) w := by simp [callFunc, hf, h1, hc, mark]
    rw [e] at hv
    cases hv

/-- The heap as it came in, all of it to stay. -/
def memOf (w : World) : Mem := { blk := fun k => w.heap[k]?, os := w.os, out := w.output, tape := w.tape, gl := [], glok := fun _ _ h => (by cases h), X := .none }

/-- The same, with what is known of some blocks. -/
def memG (w : World) (gl : List (Nat × List Value)) (hg : ∀ g cs, (g, cs) ∈ gl → ∃ c t fz, w.heap[g]? = some (.cells c t fz) ∧ ∀ (i : Nat) v, cs[i]? = some v → c[i]? = some v) : Mem :=
  { blk := fun k => w.heap[k]?, os := w.os, out := w.output, tape := w.tape, gl := gl, glok := hg, X := .none }

/-- Memory as it came in. -/
structure Came (w : World) (M : Mem) : Prop where
  blk : M.blk = fun k => w.heap[k]?
  os : M.os = w.os
  out : M.out = w.output
  tape : M.tape = w.tape
  are : M.A.blk = fun _ => none

theorem came_of (w : World) : Came w (memOf w) := ⟨rfl, rfl, rfl, rfl, rfl⟩
theorem came_g (w : World) (gl : List (Nat × List Value)) (hg : ∀ g cs, (g, cs) ∈ gl → ∃ c t fz, w.heap[g]? = some (.cells c t fz) ∧ ∀ (i : Nat) v, cs[i]? = some v → c[i]? = some v) : Came w (memG w gl hg) := ⟨rfl, rfl, rfl, rfl, rfl⟩

theorem hrel_came {w : World} {M : Mem} (h : Came w M) : HRel (fun _ => ⟨0, 0, 0⟩) ⟨.e, 0, M⟩ w where
  os := h.os.symm
  out := h.out.symm
  tape := h.tape.symm
  mem := fun k o hk => by
    have hk : M.blk k = some o := hk
    rw [h.blk] at hk; exact hk
  blk := fun b B h => by rw [T.get_e] at h; cases h
  inj := fun b b' B B' h => by rw [T.get_e] at h; cases h
  apart := fun b B h => by rw [T.get_e] at h; cases h
  are := fun k o hk => by
    have hk : M.A.blk k = some o := hk
    rw [h.are] at hk; cases hk
  aprA := fun b B h => by rw [T.get_e] at h; cases h
  disj := fun k o hk => by
    have hk : M.A.blk k = some o := hk
    rw [h.are] at hk; cases hk

theorem hrel_start (w : World) : HRel (fun _ => ⟨0, 0, 0⟩) ⟨.e, 0, memOf w⟩ w where
  os := rfl
  out := rfl
  tape := rfl
  mem := fun _ _ h => h
  blk := fun b B h => by rw [T.get_e] at h; cases h
  inj := fun b b' B B' h => by rw [T.get_e] at h; cases h
  apart := fun b B h => by rw [T.get_e] at h; cases h
  are := fun k o hk => by cases hk
  aprA := fun b B h => by rw [T.get_e] at h; cases h
  disj := fun k o hk => by cases hk

end
end Go.Sx

namespace Go.Proofs.YthbaimobihmhiaaGreatDoor
open Go.RowKit Go.Shelf

set_option maxRecDepth 100000 in
theorem idx1 (s : ByteArray) (c : Int) (w : World) :
    Calls Tryz.prog 111 #[.string s, .int .u8 c] w fun e w' => e = .returned (.int .i64 (Lib.indexByte s.data.toList c.toNat.toUInt8)) ∧ w' = w := by
  go_enter Tryz.func111, Tryz.ntmps111
  go_wp2
  rw [run_callFunc_extern Tryz.func118 (by kernel_rfl) (by kernel_rfl) (by kernel_rfl) (e := Extern.BytealgIndexByte.indexByte) (by kernel_rfl), Lib.run_indexByteString]
  simp only [Result.andThen]
  rw [Oper.upon_value]
  go_wp2
  go_ret
  exact ⟨rfl, rfl⟩

set_option maxRecDepth 100000 in
set_option maxHeartbeats 1000000 in
theorem idx2 (s : ByteArray) (w : World) :
    Calls Tryz.prog 107 #[.string s, .string ⟨#[47]⟩] w fun e w' => e = .returned (.int .i64 (Lib.index s.data.toList [47])) ∧ w' = w := by
  go_enter Tryz.func107, Tryz.ntmps107
  go_wp2_with (go_at_call 111; refine (idx1 _ _ _).mono ?_; rintro e w' ⟨rfl, rfl⟩)
  · have h1 : ([47] == s.toList) = true := by assumption
    go_ret
    refine ⟨?_, rfl⟩
    rw [show Lib.index s.data.toList [47] = 0 from Lib.zero s ⟨#[47]⟩ (.inr (by simpa using h1))]
    rfl
  · go_ret
    refine ⟨?_, rfl⟩
    rw [show Lib.index s.data.toList [47] = _ from Lib.one s ⟨#[47]⟩ rfl]
    rfl

set_option maxRecDepth 100000 in
set_option maxHeartbeats 2000000 in
theorem cut1 (s : ByteArray) (hs : s.size < 4294967281) (w : World) :
    Calls Tryz.prog 104 #[.string s, .string ⟨#[47]⟩] w fun e w' => e = .returned (.tuple #[.string ⟨(Lib.cut s.data.toList [47]).1.toArray⟩, .string ⟨(Lib.cut s.data.toList [47]).2.1.toArray⟩, .bool (Lib.cut s.data.toList [47]).2.2]) ∧ ∃ n, w' = w.drewN n := by
  have mixed : Tryz.prog.follows .mixedOrders = true := by kernel_rfl
  rcases Lib.indexB_cases s ⟨#[47]⟩ with hix | ⟨i, hix, hroom⟩
  · obtain ⟨e1, e2, e3⟩ := Lib.cutB_miss s ⟨#[47]⟩ hix
    rw [show (Lib.cut s.data.toList [47]).1 = _ from rfl, show (⟨(Lib.cut s.data.toList [47]).1.toArray⟩ : ByteArray) = _ from e1, show (⟨(Lib.cut s.data.toList [47]).2.1.toArray⟩ : ByteArray) = _ from e2, show (Lib.cut s.data.toList [47]).2.2 = _ from e3]
    go_enter Tryz.func104, Tryz.ntmps104
    go_wp2_with (go_at_call 107; refine (idx2 _ _).mono ?_; rintro e w' ⟨rfl, rfl⟩; rw [show Lib.index s.data.toList [47] = _ from hix])
    go_ret3
    exact ⟨rfl, 0, rfl⟩
  · obtain ⟨e1, e2, e3⟩ := Lib.cutB_hit s ⟨#[47]⟩ i hix
    rw [show (⟨(Lib.cut s.data.toList [47]).1.toArray⟩ : ByteArray) = _ from e1, show (⟨(Lib.cut s.data.toList [47]).2.1.toArray⟩ : ByteArray) = _ from e2, show (Lib.cut s.data.toList [47]).2.2 = _ from e3]
    have c0 : (⟨#[47]⟩ : ByteArray).size = 1 := rfl
    rw [c0] at hroom ⊢
    have c1 : (0 : Int) ≤ ↑i := by omega
    have c2 : (↑i : Int) ≤ ↑s.size := by omega
    have c3 : (0 : Int) ≤ ↑i + 1 := by omega
    have c4 : (↑i + 1 : Int) ≤ ↑s.size := by omega
    go_enter Tryz.func104, Tryz.ntmps104
    go_wp2_with (go_at_call 107; refine (idx2 _ _).mono ?_; rintro e w' ⟨rfl, rfl⟩; rw [show Lib.index s.data.toList [47] = _ from hix])
    go_region_o
    go_wp2
    go_ret3
    exact ⟨rfl, 1, rfl⟩

set_option maxRecDepth 100000 in
set_option maxHeartbeats 1000000 in
theorem cut2 (s : ByteArray) (hs : s.size < 4294967281) (w : World) :
    Calls Tryz.prog 95 #[.string s, .string ⟨#[47]⟩] w fun e w' => e = .returned (.tuple #[.string ⟨(Lib.cut s.data.toList [47]).1.toArray⟩, .string ⟨(Lib.cut s.data.toList [47]).2.1.toArray⟩, .bool (Lib.cut s.data.toList [47]).2.2]) ∧ ∃ n, w' = w.drewN n := by
  go_enter Tryz.func95, Tryz.ntmps95
  go_wp2_with (go_at_call 104; refine (cut1 _ hs _).mono ?_; rintro e w' ⟨rfl, n, rfl⟩)
  go_ret3
  exact ⟨rfl, n, rfl⟩
end Go.Proofs.YthbaimobihmhiaaGreatDoor

namespace Go.Proofs.YthbaimobihmhiaaGreatDoor
open Go.RowKit Go.Shelf

def okByte (b : UInt8) : Bool := decide (33 ≤ b.toNat) && decide (b.toNat ≤ 126) && !(b == 47)
def partOk (l : List UInt8) : Bool := l.all okByte && !l.isEmpty && !(l == [46]) && !(l == [46, 46])

theorem dec_cases (s : ByteArray) (pos : Nat) (hp : pos < s.size) :
    (okByte (s[pos]'hp) = true ∧ Utf8.decode s pos = ((s[pos]'hp).toNat, 1) ∧ 33 ≤ (Utf8.decode s pos).1 ∧ (Utf8.decode s pos).1 ≤ 126 ∧ (Utf8.decode s pos).1 ≠ 47) ∨
    (okByte (s[pos]'hp) = false ∧ ((Utf8.decode s pos).1 < 33 ∨ 126 < (Utf8.decode s pos).1 ∨ (Utf8.decode s pos).1 = 47)) := by
  by_cases ha : (s[pos]'hp).toNat < 128
  · have hd := decode_ascii s pos hp ha
    rw [hd]
    have h47 : ((s[pos]'hp) == 47) = decide ((s[pos]'hp).toNat = 47) := by
      rw [Bool.eq_iff_iff, beq_iff_eq, decide_eq_true_iff]
      exact ⟨fun h => by rw [h]; rfl, fun h => UInt8.toNat_inj.1 (by rw [h]; rfl)⟩
    unfold okByte
    rw [h47]
    by_cases h1 : 33 ≤ (s[pos]'hp).toNat <;> by_cases h2 : (s[pos]'hp).toNat ≤ 126 <;> by_cases h3 : (s[pos]'hp).toNat = 47 <;> simp [h1, h2, h3] <;> omega
  · refine .inr ⟨?_, .inr (.inl ?_)⟩
    · unfold okByte
      have : ¬ (s[pos]'hp).toNat ≤ 126 := by omega
      simp [this]
    · have := (decode_high s pos hp (by omega)).1
      omega

theorem part_bad (s : ByteArray) (pos : Nat) (hp : pos < s.size) (h : okByte (s[pos]'hp) = false) : partOk s.data.toList = false := by
  unfold partOk
  have : s.data.toList.all okByte = false := by
    rw [List.all_eq_false]
    exact ⟨s[pos]'hp, by simp [ByteArray.getElem_eq_getElem_data], by simp [h]⟩
  simp [this]

theorem part_end (s : ByteArray) (pos : Nat) (hp : ¬ pos < s.size) (h2 : (s.data.toList.take pos).all okByte = true) : Hid (partOk s.data.toList = (!s.toList.isEmpty && !s.toList == [46] && !s.toList == [46, 46])) := by
  show _ = _
  rw [List.take_of_length_le (by have : s.data.toList.length = s.size := rfl; omega)] at h2
  unfold partOk
  rw [h2, ByteArray.toList_eq]
  simp

theorem take_ok (s : ByteArray) (pos : Nat) (hp : pos < s.size) (h : okByte (s[pos]'hp) = true) (h2 : (s.data.toList.take pos).all okByte = true) : (s.data.toList.take (pos + 1)).all okByte = true := by
  have hl : pos < s.data.toList.length := by simpa using hp
  rw [List.take_succ_eq_append_getElem hl, List.all_append, h2]
  simpa [ByteArray.getElem_eq_getElem_data] using h

set_option maxRecDepth 100000 in
set_option maxHeartbeats 1000000 in
theorem part1 (s : ByteArray) (w : World) :
    Calls Tryz.prog 78 #[.string s] w fun e w' => e = .returned (.bool (partOk s.data.toList)) ∧ ∃ pos, w' = w.iter s pos := by
  go_enter Tryz.func78, Tryz.ntmps78
  go_wp2
  go_loopw [] (fun w' => ∃ (pos : Nat), w' = w.iter s pos ∧ pos ≤ s.size ∧ (s.data.toList.take pos).all okByte = true) (fun w' => s.size - w'.iterPos w.heap.size)
  case atStart => exact ⟨0, rfl, by omega, by simp⟩
  case round =>
    obtain ⟨pos, rfl, h1, h2⟩ := hrel
    by_cases hp : pos < s.size
    · have hnx : ∀ ty, (Instr.next (.pointer (some ⟨w.heap.size, 0, none⟩)) true ty).run Tryz.prog (w.iter s pos) = _ := fun ty => run_next_any w s pos ty hp
      go_wp2
      · rename_i g
        rcases dec_cases s pos hp with ⟨k1, k2, k3, k4, k5⟩ | ⟨k1, k2⟩
        · exfalso
          rcases g with g | g
          · omega
          · have := eq_of_beq g; omega
        · have k3 := part_bad s pos hp k1
          go_ret
          exact ⟨by rw [k3]; rfl, _, rfl⟩
      · rename_i g
        rcases dec_cases s pos hp with ⟨k1, k2, k3, k4, k5⟩ | ⟨k1, k2⟩
        · rw [k2]
          exact ⟨⟨pos + 1, rfl, by omega, take_ok s pos hp k1 h2⟩, by simp; omega⟩
        · exfalso
          obtain ⟨g, g'⟩ := g
          have := ne_of_beq_false g'
          omega
      · rename_i g
        rcases dec_cases s pos hp with ⟨k1, k2, k3, k4, k5⟩ | ⟨k1, k2⟩
        · exfalso; omega
        · have k3 := part_bad s pos hp k1
          go_ret
          exact ⟨by rw [k3]; rfl, _, rfl⟩
      · rename_i g
        rcases dec_cases s pos hp with ⟨k1, k2, k3, k4, k5⟩ | ⟨k1, k2⟩
        · exfalso; omega
        · have k3 := part_bad s pos hp k1
          go_ret
          exact ⟨by rw [k3]; rfl, _, rfl⟩
    · have hnx : ∀ ty, (Instr.next (.pointer (some ⟨w.heap.size, 0, none⟩)) true ty).run Tryz.prog (w.iter s pos) = _ := fun ty => run_next_end w s pos ty hp
      have h3 := part_end s pos hp h2
      go_wp2
      · rename_i g
        go_ret
        refine ⟨?_, _, rfl⟩
        rw [h3.out, g]; rfl
      · rename_i g
        go_ret
        refine ⟨?_, _, rfl⟩
        rw [h3.out, g]; rfl
      · go_ret
        refine ⟨?_, _, rfl⟩
        rw [h3.out]; rfl
end Go.Proofs.YthbaimobihmhiaaGreatDoor

namespace Go.Proofs.YthbaimobihmhiaaGreatDoor
open Go.RowKit Go.Shelf
attribute [local go_sem] Oper.semAt_some

/-- The parts between the slashes. -/
def splitL : List UInt8 → List (List UInt8)
  | [] => [[]]
  | b :: l => bif b == 47 then [] :: splitL l else match splitL l with
    | x :: xs => (b :: x) :: xs
    | [] => [[b]]

/-- What stands behind the first slash. -/
def restOk (q : List UInt8) : Bool := q.isEmpty || (splitL q).all partOk

theorem splitL_none : ∀ (l : List UInt8), (∀ b ∈ l, b ≠ 47) → splitL l = [l]
  | [], _ => rfl
  | b :: l, h => by
    have hb : (b == 47) = false := by simpa using h b (by simp)
    simp [splitL, hb, splitL_none l (fun x hx => h x (by simp [hx]))]

theorem splitL_cut : ∀ (a b : List UInt8), (∀ x ∈ a, x ≠ 47) → splitL (a ++ 47 :: b) = a :: splitL b
  | [], b, _ => by simp [splitL]
  | x :: a, b, h => by
    have hb : (x == 47) = false := by simpa using h x (by simp)
    simp [splitL, hb, splitL_cut a b (fun y hy => h y (by simp [hy]))]

theorem index_cases : ∀ (l : List UInt8), (Lib.index l [47] = -1 ∧ ∀ x ∈ l, x ≠ 47) ∨ (∃ a b, l = a ++ 47 :: b ∧ (∀ x ∈ a, x ≠ 47) ∧ Lib.index l [47] = a.length)
  | [] => .inl ⟨rfl, by simp⟩
  | x :: l => by
    by_cases hx : x = 47
    · subst hx
      exact .inr ⟨[], l, rfl, by simp, by simp [Lib.index, List.isPrefixOf]⟩
    · have e : List.isPrefixOf [47] (x :: l) = false := by
        simp [List.isPrefixOf]
        exact fun h => hx h.symm
      rcases index_cases l with ⟨h1, h2⟩ | ⟨a, b, h1, h2, h3⟩
      · refine .inl ⟨by simp [Lib.index, e, h1], fun y hy => ?_⟩
        rcases List.mem_cons.1 hy with rfl | hy
        · exact hx
        · exact h2 y hy
      · refine .inr ⟨x :: a, b, by simp [h1], fun y hy => ?_, ?_⟩
        · rcases List.mem_cons.1 hy with rfl | hy
          · exact hx
          · exact h2 y hy
        · have : ((a.length : Int) == -1) = false := by rw [beq_eq_false_iff_ne]; omega
          simp [Lib.index, e, h3, this]

/-- A text, cut at its first slash. -/
def CutFacts (q n1 n2 : List UInt8) : Prop :=
  (n1 = q ∧ n2 = [] ∧ splitL q = [q]) ∨ (q = n1 ++ 47 :: n2 ∧ splitL q = n1 :: splitL n2)

theorem cut_facts (q : List UInt8) : CutFacts q (Lib.cut q [47]).1 (Lib.cut q [47]).2.1 := by
  unfold Lib.cut
  rcases index_cases q with ⟨h1, h2⟩ | ⟨a, b, h1, h2, h3⟩
  · rw [h1]
    exact .inl ⟨rfl, rfl, splitL_none q h2⟩
  · rw [h3, if_pos (by omega)]
    refine .inr ?_
    have e1 : q.take (↑a.length : Int).toNat = a := by rw [h1]; simp
    have e2 : q.drop ((↑a.length : Int).toNat + [47].length) = b := by
      rw [h1]
      simp
    simp only [e1]
    rw [show q.drop ((↑a.length : Int).toNat + [(47 : UInt8)].length) = b from e2]
    rw [h1]
    exact ⟨rfl, splitL_cut a b h2⟩

theorem cut3 (s : ByteArray) (hs : s.size < 4294967281) (w : World) :
    Calls Tryz.prog 95 #[.string s, .string ⟨#[47]⟩] w fun e w' => ∃ n1 n2 b n, e = .returned (.tuple #[.string n1, .string n2, .bool b]) ∧ w' = w.drewN n ∧ Hid (CutFacts s.data.toList n1.data.toList n2.data.toList) := by
  refine (cut2 s hs w).mono ?_
  rintro e w' ⟨rfl, n, rfl⟩
  exact ⟨_, _, _, n, rfl, rfl, cut_facts _⟩

end Go.Proofs.YthbaimobihmhiaaGreatDoor

namespace Go.Proofs.YthbaimobihmhiaaGreatDoor
open Go.RowKit Go.Shelf
attribute [local go_sem] Oper.semAt_some

def strSize : Option Value → Nat
  | some (.string s) => s.size
  | _ => 0

theorem ext_tail {p : ByteArray} {b : UInt8} {q : List UInt8} (hp : p.data.toList = b :: q) : (p.extract 1 p.size).data.toList = q := by
  have : (p.extract 1 p.size).data.toList = (p.data.toList.drop 1).take (p.size - 1) := by
    rw [ByteArray.data_extract]
    simp [Array.toList_extract]
  rw [this, hp]
  have h : p.size = (b :: q).length := by rw [← hp]; rfl
  simp [h]

theorem wrap64_in' (n : Int) (h : -9223372036854775808 ≤ n ∧ n ≤ 9223372036854775807) : wrap64 n = n := by unfold wrap64; omega

theorem size_list (p : ByteArray) : p.size = p.data.toList.length := rfl

theorem part_nil : partOk [] = false := rfl

/-- A cut part that is none. -/
theorem rest_bad {q n1 n2 : List UInt8} (hq : q ≠ []) (h : CutFacts q n1 n2) (ho : partOk n1 = false) : restOk q = false := by
  unfold restOk
  rcases h with ⟨h1, _, h3⟩ | ⟨_, h3⟩
  · rw [h3, ← h1]
    cases n1 with
    | nil => exact absurd h1.symm hq
    | cons x xs => simp [ho]
  · rw [h3]
    cases q with
    | nil => exact absurd rfl hq
    | cons x xs => simp [ho]

/-- The last part. -/
theorem rest_last {q n1 n2 : List UInt8} (h : CutFacts q n1 n2) (ho : partOk n1 = true) (hl : n1.length = q.length) : restOk q = true := by
  unfold restOk
  rcases h with ⟨h1, _, h3⟩ | ⟨h1, _⟩
  · rw [h3, ← h1]
    simp [ho]
  · rw [h1] at hl; simp at hl

/-- A part with others behind it. -/
theorem rest_more {q n1 n2 : List UInt8} (h : CutFacts q n1 n2) (ho : partOk n1 = true) (hl : n1.length ≠ q.length) : q.length = n1.length + n2.length + 1 ∧ restOk q = (splitL n2).all partOk := by
  rcases h with ⟨h1, _, h3⟩ | ⟨h1, h2⟩
  · exact absurd (by rw [h1]) hl
  · refine ⟨by rw [h1]; simp; omega, ?_⟩
    unfold restOk
    rw [h2]
    cases q with
    | nil => simp at h1
    | cons x xs => simp [ho]

set_option maxRecDepth 100000 in
set_option maxHeartbeats 4000000 in
theorem iter1 (n : Nat) (_ : 2 ≤ n) (l Bn : Nat) (J Jx : ByteArray → World → Prop)
    (jc : ∀ p W, J p W → W.cell? ⟨Bn, 0, none⟩ = some (.string p) ∧ W.frozen? ⟨Bn, 0, none⟩ = false)
    (xc : ∀ p W, Jx p W → W.cell? ⟨Bn, 0, none⟩ = some (.string p))
    (jd : ∀ p W k, J p W → J p (W.drewN k))
    (js : ∀ p p' W, J p W → J p' (W.setCell ⟨Bn, 0, none⟩ (.string p')))
    (hY : ∀ p x W, J p W → YieldAt Fence.wide (n - 1) Tryz.prog l #[.string x] W fun e W' => (Hid (partOk x.data.toList = true) ∧ e = .returned (.bool true) ∧ J p W') ∨ (Hid (partOk x.data.toList = false) ∧ e = .returned (.bool false) ∧ Jx p W'))
    (p0 : ByteArray) (q0 : List UInt8) (hp0 : Hid (p0.data.toList = 47 :: q0)) (hsz : p0.size ≤ 200) (W : World) (h0 : J p0 W) :
    CallsIn Fence.wide n Tryz.prog 94 #[.func (.yield l) #[] #[], .pointer (some ⟨Bn, 0, none⟩)] W fun e W' => (∃ v, e = .returned v) ∧
      ((restOk q0 = true ∧ ∃ p, J p W') ∨ (restOk q0 = false ∧ ∃ p, Jx p W')) := by
  refine callsIn_of_wp Tryz.func94 rfl trivial ?_ rfl
  simp only [Tryz.ntmps94, List.size_toArray, List.length_cons, List.length_nil, Nat.reduceAdd, Nat.reduceSub, Array.replicate_succ, Array.replicate_zero, List.push_toArray, List.append_toArray, List.nil_append, List.cons_append]
  gi_wp2
  gi_loopw [] (fun wr => (∃ (p : ByteArray) (q : List UInt8), J p wr ∧ Hid (p.data.toList = 47 :: q) ∧ Hid (restOk q = restOk q0) ∧ p.size ≤ 200) ∨ (∃ p : ByteArray, Jx p wr ∧ Hid (p = ⟨#[47]⟩) ∧ Hid (restOk q0 = false)))
    (fun wr => strSize (wr.cell? ⟨Bn, 0, none⟩))
  case atStart => exact .inl ⟨p0, q0, h0, hp0, rfl, hsz⟩
  case round =>
    rcases hrel with ⟨p, q, hJ, hp, hq, hs⟩ | ⟨p, hX, hp, hq⟩
    · obtain ⟨hc, hf⟩ := jc p wr hJ
      have hs1 : (1 : Int) ≤ ↑p.size := by
        have : p.size = (47 :: q).length := by rw [← hp.out]; rfl
        simp at this; omega
      have hsq : Hid (p.size = q.length + 1) := by show _ = _; rw [size_list, hp.out]; rfl
      by_cases hq' : q = []
      · -- '/' alone
        have hp' : p = ⟨#[47]⟩ := by
          have h := hp.out
          rw [hq'] at h
          obtain ⟨⟨x⟩⟩ := p
          simp at h
          rw [h]
        subst hp'
        have hq2 : Hid (restOk q0 = true) := by
          have h := hq.out
          rw [hq'] at h
          exact h.symm
        clear hq'
        gi_wp2
        go_end0
        exact ⟨⟨_, rfl⟩, .inl ⟨hq2.out, _, hJ⟩⟩
      · have hne : (p.toList == [47]) = false := by
          rw [beq_eq_false_iff_ne, ByteArray.toList_eq, hp.out]
          intro h
          injection h with _ h
          exact hq' h
        have hee : p.toList.isEmpty = false := by
          rw [ByteArray.toList_eq, hp.out]; rfl
        have hq2 : Hid (q ≠ []) := hq'
        clear hq'
        gi_wp2
        refine ⟨trivial, fun h => (by cases h), ?_⟩
        refine (callsIn_wide.2 (cut3 _ (by rw [ByteArray.size_extract]; omega) _)).mono ?_
        rintro e w' ⟨n1, n2, b, k, rfl, rfl, hcut⟩
        have hcut' : Hid (CutFacts q n1.data.toList n2.data.toList) := by
          have h := hcut.out
          rw [ext_tail hp.out] at h
          exact h
        clear hcut
        have hJ1 := jd _ _ k hJ
        obtain ⟨hc1, hf1⟩ := jc _ _ hJ1
        obtain ⟨fn, tmps, assign, body, hy, hR⟩ := hY _ n1 _ hJ1
        gi_wp2
        refine ⟨fun h => (by cases h), hR.mono ?_⟩
        rintro e W3 (⟨ho, rfl, hJ3⟩ | ⟨ho, rfl, hX3⟩)
        · obtain ⟨hc3, hf3⟩ := jc _ _ hJ3
          by_cases hl : n1.data.toList.length = q.length
          · have hlast : Hid (restOk q0 = true) := by
              rw [← hq.out]; exact rest_last hcut'.out ho.out hl
            have hlen : wrap64 ((n1.size : Int) + 1) = (p.size : Int) := by
              have h1 := hsq.out
              rw [wrap64_in' _ (by rw [size_list]; omega), size_list n1, hl, h1]
              simp
            clear hl
            gi_wp2
            refine bodyPost_ret (results_none rfl _ _ _) rfl ?_
            exact ⟨⟨_, rfl⟩, .inl ⟨hlast.out, _, hJ3⟩⟩
          · obtain ⟨hlq, hmore'⟩ := rest_more hcut'.out ho.out hl
            have hmore : Hid (restOk q0 = (splitL n2.data.toList).all partOk) := by
              rw [← hq.out]; exact hmore'
            have hlen : (wrap64 ((n1.size : Int) + 1) == (p.size : Int)) = false := by
              have h1 := hsq.out
              rw [wrap64_in' _ (by rw [size_list]; omega), size_list n1, h1, beq_eq_false_iff_ne]
              omega
            have hn2 : ¬ 9223372036854775807 < 1 + n2.size := by
              have h1 := hsq.out
              rw [size_list]; omega
            have hlq2 : Hid (q.length = n1.data.toList.length + n2.data.toList.length + 1) := hlq
            clear hl hlq hmore'
            have hJ4 := js p (⟨#[47]⟩ ++ n2) W3 hJ3
            obtain ⟨fn2, tm2, as2, bo2, hy2, hR2⟩ := hY _ ⟨#[]⟩ _ hJ4
            gi_wp2
            · rename_i hz _ _
              have hz' : n2.data.toList = [] := by
                rw [ByteArray.toList_eq] at hz
                exact List.isEmpty_iff.1 hz
              have hz2 : n2 = ⟨#[]⟩ := by
                obtain ⟨⟨x⟩⟩ := n2
                simp at hz'
                rw [hz']
              clear hz hz'
              refine ⟨fun h => (by cases h), hR2.mono ?_⟩
              rintro e W4 (⟨ho2, rfl, hJ5⟩ | ⟨ho2, rfl, hX5⟩)
              · exact absurd (ho2.out : partOk [] = true) (by decide)
              · have hc4 := xc _ _ hX5
                have hbad : Hid (restOk q0 = false) := by
                  rw [hmore.out, hz2]; rfl
                gi_wp2
                refine ⟨.inr ⟨_, hX5, ?_, hbad⟩, ?_⟩
                · rw [hz2]; rfl
                · have h1 := hsq.out; have h2 := hlq2.out
                  rw [hc4, hc, hz2]
                  show 1 < p.size
                  omega
            · rename_i hz
              have hz' : n2.data.toList ≠ [] := by
                rw [ByteArray.toList_eq] at hz
                intro h
                rw [h] at hz
                cases hz
              have hs2 : (⟨#[47]⟩ ++ n2 : ByteArray).size = n2.size + 1 := by
                rw [ByteArray.size_append]
                have : (⟨#[47]⟩ : ByteArray).size = 1 := rfl
                omega
              have h1 := hsq.out; have h2 := hlq2.out
              have h3 := size_list n2
              refine ⟨.inl ⟨_, n2.data.toList, hJ4, ?_, ?_, ?_⟩, ?_⟩
              · show _ = _
                rw [ByteArray.data_append, Array.toList_append]; rfl
              · show _ = _
                rw [hmore.out]
                unfold restOk
                cases hd : n2.data.toList with
                | nil => exact absurd hd hz'
                | cons x xs => simp
              · rw [hs2]; omega
              · rw [(jc _ _ hJ4).1, hc]
                show (⟨#[47]⟩ ++ n2 : ByteArray).size < p.size
                rw [hs2]; omega
        · have hc3 := xc _ _ hX3
          have hbad : Hid (restOk q0 = false) := by
            rw [← hq.out]; exact rest_bad hq2.out hcut'.out ho.out
          gi_wp2
          refine bodyPost_ret (results_none rfl _ _ _) rfl ?_
          exact ⟨⟨_, rfl⟩, .inr ⟨hbad.out, _, hX3⟩⟩
    · have hc := xc _ _ hX
      have hp' := hp.out
      subst hp'
      gi_wp2
      go_end0
      exact ⟨⟨_, rfl⟩, .inr ⟨hq.out, _, hX⟩⟩
end Go.Proofs.YthbaimobihmhiaaGreatDoor

namespace Go.Proofs.YthbaimobihmhiaaGreatDoor
open Go.RowKit Go.Shelf
attribute [local go_sem] Oper.semAt_some

theorem cellNew (W : World) (v : Value) (t : TypeId) : (W.alloc (.cells #[v] t)).cell? ⟨W.heap.size, 0, none⟩ = some v ∧ (W.alloc (.cells #[v] t)).frozen? ⟨W.heap.size, 0, none⟩ = false := by
  have h := World.alloc_heap_new W (.cells #[v] t)
  constructor
  · simp only [World.cell?, h]; rfl
  · simp only [World.frozen?, h]; rfl

theorem setOther {W : World} {p a : Addr} (v : Value) (h : p.block ≠ a.block) : (W.setCell p v).cell? a = W.cell? a :=
  World.cell?_of_block (Below.heap_setCell _ _ _ _ (fun e => h e.symm))

theorem cellAlloc {W : World} {a : Addr} {v : Value} (o : Obj) (h : W.cell? a = some v) : (W.alloc o).cell? a = some v := cell_kept h (World.grownBy_alloc W o none) (fun r e => by cases e)
theorem frozenAlloc {W : World} {a : Addr} {v : Value} (o : Obj) (h : W.cell? a = some v) (hf : W.frozen? a = false) : (W.alloc o).frozen? a = false := (frozen_kept h (World.grownBy_alloc W o none) (fun r e => by cases e)).trans hf

theorem head_of (p : ByteArray) (h : 0 < p.size) (e : (((p[0]'h).toNat : Nat) : Int) = 47) : ∃ q, p.data.toList = 47 :: q ∧ q.length + 1 = p.size := by
  obtain ⟨⟨l⟩⟩ := p
  cases l with
  | nil => simp [ByteArray.size] at h
  | cons b l =>
    refine ⟨l, ?_, rfl⟩
    have e' : ((b.toNat : Nat) : Int) = 47 := e
    have : b = 47 := UInt8.toNat_inj.1 (by have h47 : (47 : UInt8).toNat = 47 := rfl; omega)
    rw [this]

theorem size_pos_of (p : ByteArray) (h : ¬ p.toList = []) : 0 < p.size := by
  rw [ByteArray.toList_eq] at h
  rw [size_list]
  exact List.length_pos_iff.2 h

theorem not_head (p : ByteArray) (q : List UInt8) (hp : p.data.toList = 47 :: q) (h : 0 < p.size) : (((p[0]'h).toNat : Nat) : Int) = 47 := by
  obtain ⟨⟨l⟩⟩ := p
  simp at hp
  subst hp
  rfl

/-- Is it a right path? -/
def pathOk : List UInt8 → Bool
  | 47 :: q => decide (q.length < 200) && restOk q
  | _ => false

set_option maxRecDepth 100000 in
theorem parts1 (p : ByteArray) (w : World) :
    Calls Tryz.prog 77 #[.string p] w fun e w' => e = .returned (.func (.func 94) #[] #[.pointer (some ⟨w.heap.size, 0, none⟩)]) ∧ w' = w.alloc (.cells #[.string p] 9) := by
  go_enter Tryz.func77, Tryz.ntmps77
  go_wp2
  go_ret
  exact ⟨rfl, rfl⟩

theorem pathOk_no {l : List UInt8} (h : ∀ q, l = 47 :: q → ¬ q.length < 200) : pathOk l = false := by
  unfold pathOk
  split
  · rename_i q
    simp [h q rfl]
  · rfl

/-- Where the function leaves ahead of the loop. -/
theorem leave0 {R : Ending → World → Prop} {fn : Func} {a : Act} {w : World} (hd : a.defers = []) {v : Value} (hr : (results fn a.tmps).run Tryz.prog w = .ok v w) (h : R (.returned v) w) : bodyPostM Fence.wide 5 Tryz.prog fn R .ret a w := by
  show LeavesInM _ _ _ _ _ _ _ _ _
  rw [hd]
  exact ⟨v, hr, h⟩

/-- What lies between two rounds. -/
structure I0 (w0 : World) (p : ByteArray) (W : World) : Prop where
  ca : W.cell? ⟨w0.heap.size, 0, none⟩ = some (.bool false)
  fa : W.frozen? ⟨w0.heap.size, 0, none⟩ = false
  cb : W.cell? ⟨w0.heap.size + 1, 0, none⟩ = some (.string p)
  fb : W.frozen? ⟨w0.heap.size + 1, 0, none⟩ = false
  bl : Below w0.heap.size w0 W

theorem I0.own {w0 : World} {p : ByteArray} {W W' : World} {row : Option Nat} (h : I0 w0 p W) (hg : W.grownBy W' row) (hr : ∀ r, row = some r → w0.heap.size ≤ r ∧ ∃ o : Obj, W.heap[r]? = some o ∧ o.isCells = false) : I0 w0 p W' :=
  ⟨cell_kept h.ca hg (fun r e => (hr r e).2), (frozen_kept h.ca hg (fun r e => (hr r e).2)).trans h.fa, cell_kept h.cb hg (fun r e => (hr r e).2), (frozen_kept h.cb hg (fun r e => (hr r e).2)).trans h.fb, h.bl.grown hg h.bl.size (fun k e => (hr k e).1)⟩

theorem I0.put {w0 : World} {p : ByteArray} {W : World} {k : Nat} {o : Obj} (o' : Obj) (h : I0 w0 p W) (hk : w0.heap.size ≤ k) (ho : W.heap[k]? = some o) (hc : o.isCells = false) : I0 w0 p (W.putObj k o') :=
  h.own (grownBy_putObj' W k o') (fun r e => by cases e; exact ⟨hk, o, ho, hc⟩)

theorem I0.alloc {w0 : World} {p : ByteArray} {W : World} (o : Obj) (h : I0 w0 p W) : I0 w0 p (W.alloc o) :=
  h.own (World.grownBy_alloc W o none) (fun r e => by cases e)

theorem I0.drew {w0 : World} {p : ByteArray} {W : World} (k : Nat) (h : I0 w0 p W) : I0 w0 p (W.drewN k) :=
  ⟨h.ca, h.fa, h.cb, h.fb, below_drewN h.bl k⟩

theorem I0.set {w0 : World} {p : ByteArray} {W : World} (p' : ByteArray) (h : I0 w0 p W) : I0 w0 p' (W.setCell ⟨w0.heap.size + 1, 0, none⟩ (.string p')) := by
  refine ⟨?_, ?_, ?_, ?_, h.bl.setCell (by simp) _⟩
  · exact (setOther _ (by show _ ≠ _; simp)).trans h.ca
  · rw [World.frozen?_setCell]; exact h.fa
  · exact World.cell?_setCell_same' _ _ _ (by rw [h.cb]; rfl)
  · rw [World.frozen?_setCell]; exact h.fb

/-- A round's body, where it goes on and where it leaves. -/
def bodyEnd (w0 : World) (p x : ByteArray) (W : World) : Exit → Act → World → Prop
  | .normal, _, W' => Hid (partOk x.data.toList = true) ∧ KeepsOthers W W' ∧ I0 w0 p W'
  | .ret, _, W' => Hid (partOk x.data.toList = false) ∧ KeepsOthers W W' ∧ I0 w0 p W'
  | _, _, _ => False

/-- The loop, at whatever assignments and body. -/
theorem loop0 {n : Nat} (hn : 3 ≤ n) {t : Tmp} {g : Operand} {assign body : Code} {Q : Exit → Act → World → Prop} {a : Act} {w0 w : World} (hw : w0.heap.size + 2 ≤ w.heap.size)
    (hg : a.eval g = .func (.func 94) #[] #[.pointer (some ⟨w0.heap.size + 1, 0, none⟩)]) (p0 : ByteArray) (q0 : List UInt8) (hp0 : Hid (p0.data.toList = 47 :: q0)) (hsz : p0.size ≤ 200)
    (hI : I0 w0 p0 w) (a₁ : ByteArray → Act)
    (hassign : ∀ (l : Nat) (x : ByteArray) (W : World) (K : Act → World → Prop), K (a₁ x) W →
      assign.wpIn (Fence.wide.inRound l) (n - 1 - 1) Tryz.prog (Exit.then K (fun _ _ _ => False)) { tmps := ((#[t] : Array Tmp).zip #[Value.string x]).foldl (fun t (p, v) => t.setIfInBounds p v) a.tmps, defers := [] } W)
    (hbody : ∀ (l : Nat) (p x : ByteArray) (W : World), I0 w0 p W → body.wpIn (Fence.wide.inRound l) (n - 1 - 1) Tryz.prog (bodyEnd w0 p x W) (a₁ x) W)
    (hdone : ∀ (D : Nat) (p : ByteArray) (W : World), w0.heap.size ≤ D → Hid (restOk q0 = true) → I0 w0 p W → W.heap[D]? = some (.deferred (some [])) → Q .normal { a with defers := { target := .collected D, args := #[] } :: a.defers } W)
    (hstop : ∀ (D : Nat) (p : ByteArray) (W : World), w0.heap.size ≤ D → Hid (restOk q0 = false) → I0 w0 p W → W.heap[D]? = some (.deferred (some [])) → Code.ret.wpIn Fence.wide n Tryz.prog Q { a with defers := { target := .collected D, args := #[] } :: a.defers } W) :
    (Code.rangeFunc g #[t] assign body).wpIn Fence.wide n Tryz.prog Q a w := by
  refine wpIn_rangeFunc ?_
  intro fn hfn
  obtain ⟨rec, hrec⟩ : ∃ rec : LoopState → Option Code → Loop, rec = fun st pe => { state := st, pending := pe, fn, tmps := a.tmps, params := #[t], assign, body, defers := w.heap.size } := ⟨_, rfl⟩
  obtain ⟨W1, hW1⟩ : ∃ W1, (w.alloc (.deferred (some []))).alloc (.loop (rec .ready none)) = W1 := ⟨_, rfl⟩
  have hL1 : W1.heap[w.heap.size + 1]? = some (.loop (rec .ready none)) := by
    rw [← hW1]; have := World.alloc_heap_new (w.alloc (.deferred (some []))) (.loop (rec .ready none)); rwa [World.size_alloc] at this
  have hK1 : W1.heap[w.heap.size]? = some (.deferred (some [])) := by
    rw [← hW1]; exact (Below.heap_alloc _ _ _ (by simp)).trans (World.alloc_heap_new w _)
  have hI1 : I0 w0 p0 W1 := by rw [← hW1]; exact (hI.alloc _).alloc _
  have eg : ∀ args w, (callFunc 94 args).run Tryz.prog w = .ok (.enter 94 args) w := enters_of Tryz.func94 (by kernel_rfl) rfl
  refine ⟨w.heap.size + 1, [{ target := .collected w.heap.size, args := #[] }], W1, { target := .fn (.func 94) #[.pointer (some ⟨w0.heap.size + 1, 0, none⟩)], args := #[.func (.yield (w.heap.size + 1)) #[] #[]] }, W1, 94,
    #[.func (.yield (w.heap.size + 1)) #[] #[]] ++ #[.pointer (some ⟨w0.heap.size + 1, 0, none⟩)], W1, ?_, ?_, ?_, ?_, fun h => (by cases h), ?_⟩
  · rw [← hW1, hrec]; exact run_enterLoop_outer _ _ _ _ _
  · simp only [resolve, hg]
    simp [go_sem]
  · intro f' hf'; trivial
  · simp [invoke, go_sem, eg]
  · refine (iter1 (n - 1) (by omega) (w.heap.size + 1) (w0.heap.size + 1)
      (fun p W => I0 w0 p W ∧ W.heap[w.heap.size + 1]? = some (.loop (rec .ready none)) ∧ W.heap[w.heap.size]? = some (.deferred (some [])))
      (fun p W => I0 w0 p W ∧ W.heap[w.heap.size + 1]? = some (.loop (rec .done (some .ret))) ∧ W.heap[w.heap.size]? = some (.deferred (some [])))
      (fun p W h => ⟨h.1.cb, h.1.fb⟩) (fun p W h => h.1.cb) (fun p W k h => ⟨h.1.drew k, h.2.1, h.2.2⟩)
      (fun p p' W h => ⟨h.1.set p', (Below.heap_setCell _ _ _ _ (by show _ ≠ w0.heap.size + 1; omega)).trans h.2.1, (Below.heap_setCell _ _ _ _ (by show _ ≠ w0.heap.size + 1; omega)).trans h.2.2⟩)
      ?_ p0 q0 hp0 hsz W1 ⟨hI1, hL1, hK1⟩).mono ?_
    · -- one round
      rintro p x W ⟨hi, hl, hk⟩
      have hlt : w.heap.size + 1 < W.heap.size := (Array.getElem?_eq_some_iff.1 hl).1
      have hy := run_yield (P := Tryz.prog) (args := #[.string x]) hl (by rw [hrec]; rfl)
      rw [hrec] at hy
      refine ⟨fn, _, assign, body, hy, roundIn_of_wpIn hfn (hassign _ x W _ ⟨_, run_beginRound hl (by rw [hrec]), ?_⟩)⟩
      have hl2 : (W.putObj (w.heap.size + 1) (.loop { rec .ready none with state := .busy })).heap[w.heap.size + 1]? = some (.loop { rec .ready none with state := .busy }) := World.putObj_heap_same hlt
      have hk2 : (W.putObj (w.heap.size + 1) (.loop { rec .ready none with state := .busy })).heap[w.heap.size]? = some (.deferred (some [])) := (World.putObj_heap_other (by omega)).trans hk
      refine wpIn_mono (hbody _ p x _ (hi.put _ (by omega) hl rfl)) ?_
      have fin : ∀ (jump : Option Code) (W3 : World), KeepsOthers (W.putObj (w.heap.size + 1) (.loop { rec .ready none with state := .busy })) W3 →
          (Instr.endRound (w.heap.size + 1) jump).run Tryz.prog W3 = .ok (.bool jump.isNone) (W3.putObj (w.heap.size + 1) (.loop (rec (if jump.isNone then .ready else .done) jump))) ∧
          W3.heap[w.heap.size + 1]? = some (.loop { rec .ready none with state := .busy }) ∧
          (W3.putObj (w.heap.size + 1) (.loop (rec (if jump.isNone then .ready else .done) jump))).heap[w.heap.size + 1]? = some (.loop (rec (if jump.isNone then .ready else .done) jump)) ∧
          (W3.putObj (w.heap.size + 1) (.loop (rec (if jump.isNone then .ready else .done) jump))).heap[w.heap.size]? = some (.deferred (some [])) := fun jump W3 hk3 => by
        have hl3 := hk3.same _ _ hl2 rfl
        have := run_endRound (P := Tryz.prog) jump hl3
        rw [hrec] at this ⊢
        exact ⟨this, by rw [hrec] at hl3; exact hl3, World.putObj_heap_same (Array.getElem?_eq_some_iff.1 hl3).1, (World.putObj_heap_other (by omega)).trans (hk3.same _ _ hk2 rfl)⟩
      rintro e a3 W3 hp
      cases e with
      | normal =>
        obtain ⟨ho, hk3, hi3⟩ := hp
        obtain ⟨hr, hl3, hl4, hk4⟩ := fin none W3 hk3
        exact ⟨_, _, hr, .inl ⟨ho, rfl, hi3.put _ (by omega) hl3 rfl, hl4, hk4⟩⟩
      | ret =>
        obtain ⟨ho, hk3, hi3⟩ := hp
        obtain ⟨hr, hl3, hl4, hk4⟩ := fin (some .ret) W3 hk3
        exact ⟨_, _, hr, .inr ⟨ho, rfl, hi3.put _ (by omega) hl3 rfl, hl4, hk4⟩⟩
      | exit id => exact hp.elim
      | goto t => exact hp.elim
      | panic ch => exact hp.elim
      | outgrown => exact hp.elim
    · -- behind the iterator
      rintro e W2 ⟨⟨v, rfl⟩, (⟨hS, p, hi, hl, hk⟩ | ⟨hS, p, hi, hl, hk⟩)⟩
      · exact ⟨none, _, by have := run_endLoop (P := Tryz.prog) hl (by rw [hrec]; simp); rw [hrec] at this; exact this, hdone _ p _ (by omega) hS (hi.put _ (by omega) hl rfl) ((World.putObj_heap_other (by omega)).trans hk)⟩
      · exact ⟨some .ret, _, by have := run_endLoop (P := Tryz.prog) hl (by rw [hrec]; simp); rw [hrec] at this; exact this, hstop _ p _ (by omega) hS (hi.put _ (by omega) hl rfl) ((World.putObj_heap_other (by omega)).trans hk)⟩

set_option maxRecDepth 100000 in
set_option maxHeartbeats 4000000 in
theorem check0 (p : ByteArray) (w : World) :
    CallsIn Fence.wide 5 Tryz.prog 59 #[.string p] w fun e w' => e = .returned (.bool (pathOk p.data.toList)) ∧ Below w.heap.size w w' := by
  have hb1 : Below w.heap.size w (w.alloc (.cells #[.bool false] 4)) := (Below.refl _ w).alloc (Nat.le_refl _) _
  have hcA := (cellNew w (.bool false) 4).1
  have hfA := (cellNew w (.bool false) 4).2
  by_cases hbad : ∀ q, p.data.toList = 47 :: q → ¬ q.length < 200
  · have hno : Hid (pathOk p.data.toList = false) := pathOk_no hbad
    have hbad' : Hid (∀ q, p.data.toList = 47 :: q → ¬ q.length < 200) := hbad
    clear hbad
    refine callsIn_of_wp_marks Tryz.func59 rfl trivial ?_ rfl
    simp only [Tryz.ntmps59, List.size_toArray, List.length_cons, List.length_nil, Nat.reduceAdd, Nat.reduceSub, Array.replicate_succ, Array.replicate_zero, List.push_toArray, List.append_toArray, List.nil_append, List.cons_append]
    gi_wp2
    · refine leave0 rfl (v := .bool false) ?_ ⟨by rw [hno.out], hb1⟩
      simp [results, Tryz.f59, go_sem, hcA]
    · refine leave0 rfl (v := .bool false) ?_ ⟨by rw [hno.out], hb1⟩
      simp [results, Tryz.f59, go_sem, hcA]
    · exfalso
      rename_i g1 g2 g3 g4 _ _ _ _ _ _
      obtain ⟨q, h1, h2⟩ := head_of p g2 g3
      exact hbad'.out q h1 (by have := g4.2; omega)
    · refine leave0 rfl (v := .bool false) ?_ ⟨by rw [hno.out], hb1⟩
      simp [results, Tryz.f59, go_sem, hcA]
    · exfalso
      rename_i g1 _ _ g3
      exact g3 (size_pos_of p g1)
  · obtain ⟨q, hq⟩ := Classical.not_forall.1 hbad
    obtain ⟨hp, hlen⟩ := Classical.not_imp.1 hq
    have hlen' : q.length < 200 := Classical.not_not.1 hlen
    have hsz : p.size = q.length + 1 := by rw [size_list, hp]; rfl
    have hpos : 0 < p.size := by omega
    have hhd := not_head p q hp hpos
    have hp' : Hid (p.data.toList = 47 :: q) := hp
    have hsz' : Hid (p.size = q.length + 1) := hsz
    have hle : (p.size : Int) ≤ 200 := by omega
    have hee : p.toList.isEmpty = false := by rw [ByteArray.toList_eq, hp]; rfl
    have hok : Hid (pathOk p.data.toList = restOk q) := by
      show _ = _
      rw [hp]; unfold pathOk; simp [hlen']
    clear hbad hq hlen hlen' hp hsz
    refine callsIn_of_wp_marks Tryz.func59 rfl trivial ?_ rfl
    simp only [Tryz.ntmps59, List.size_toArray, List.length_cons, List.length_nil, Nat.reduceAdd, Nat.reduceSub, Array.replicate_succ, Array.replicate_zero, List.push_toArray, List.append_toArray, List.nil_append, List.cons_append]
    gi_wp2
    refine ⟨trivial, (callsIn_wide.2 (parts1 _ _)).mono ?_⟩
    rintro e w' ⟨rfl, rfl⟩
    gi_wp2
    have hI : I0 w p ((w.alloc (.cells #[.bool false] 4)).alloc (.cells #[.string p] 9)) := by
      have h := cellNew (w.alloc (.cells #[.bool false] 4)) (.string p) 9
      rw [World.size_alloc] at h
      exact ⟨cellAlloc _ hcA, frozenAlloc _ hcA hfA, h.1, h.2, hb1.alloc (by simp) _⟩
    refine loop0 (by omega) (w0 := w) (by simp) rfl p q hp' (by omega) hI
      (fun x => { tmps := #[.string p, undef, .pointer (some ⟨w.heap.size, 0, none⟩), .string x, .string p, .bool false, .bool false, .string p, .int .u8 47, .bool false, .bool false, .bool false, .string p, .int .i64 p.size, .bool (decide (200 < (p.size : Int))), .bool (decide (200 < (p.size : Int))), .string p, .func (.func 94) #[] #[.pointer (some ⟨w.heap.size + 1, 0, none⟩)], .string x, undef, undef, undef], defers := [] }) ?assign ?body ?done ?stop
    case assign =>
      intro l x W K hK
      gi_wp2
      exact hK
    case body =>
      intro l p1 x W h1
      have hca := h1.ca
      have hfa := h1.fa
      gi_wp2
      refine ⟨trivial, (CallsIn.inRound l (callsIn_wide.2 (part1 x W))).mono ?_⟩
      rintro e W2 ⟨rfl, pos, rfl⟩
      have hi2 : I0 w p1 (W.iter x pos) := h1.alloc _
      have hk2 : KeepsOthers W (W.iter x pos) := KeepsOthers.alloc W _
      have hca2 := hi2.ca
      have hfa2 := hi2.fa
      cases hx : partOk x.data.toList with
      | true =>
        have hx' : Hid (partOk x.data.toList = true) := hx
        clear hx
        gi_wp2
        exact ⟨hx', hk2, hi2⟩
      | false =>
        have hx' : Hid (partOk x.data.toList = false) := hx
        clear hx
        gi_wp2
        refine ⟨hx', hk2.trans (KeepsOthers.setCell _ _ _), ?_, ?_, ?_, ?_, ?_⟩
        · exact World.cell?_setCell_same' _ _ _ (by rw [hca2]; rfl)
        · rw [World.frozen?_setCell]; exact hfa2
        · exact (setOther _ (by show _ ≠ _; simp)).trans hi2.cb
        · rw [World.frozen?_setCell]; exact hi2.fb
        · exact hi2.bl.setCell (p := ⟨w.heap.size, 0, none⟩) (Nat.le_refl _) _
    case done =>
      intro D p1 W hD hr h1 hK
      have hca := h1.ca
      have hfa := h1.fa
      gi_wp2
      have hK' := (KeepsOthers.setCell W ⟨w.heap.size, 0, none⟩ (.bool true)).same D _ hK rfl
      refine ⟨by simp, .inl ⟨_, _, rfl, run_takeDeferred hK', ?_⟩⟩
      have hc5 := cell_kept (World.cell?_setCell_same' W ⟨w.heap.size, 0, none⟩ (.bool true) (by rw [hca]; rfl)) (grownBy_putObj' _ D (.deferred none)) (fun r e => by cases e; exact ⟨_, hK', rfl⟩)
      refine ⟨.bool true, ?_, by rw [hok.out, hr.out], (h1.bl.setCell (p := ⟨w.heap.size, 0, none⟩) (Nat.le_refl _) _).trans (belowK_b (w := w) (Nat.le_refl _) _ D _ _ hD hK' rfl rfl)⟩
      simp [results, Tryz.f59, go_sem, hc5]
    case stop =>
      intro D p1 W hD hr h1 hK
      gi_wp2
      refine ⟨by simp, .inl ⟨_, _, rfl, run_takeDeferred hK, ?_⟩⟩
      have hc5 := cell_kept h1.ca (grownBy_putObj' _ D (.deferred none)) (fun r e => by cases e; exact ⟨_, hK, rfl⟩)
      refine ⟨.bool false, ?_, by rw [hok.out, hr.out], h1.bl.trans (belowK_b (w := w) (Nat.le_refl _) W D _ _ hD hK rfl rfl)⟩
      simp [results, Tryz.f59, go_sem, hc5]

/-- path.Check, at every text. -/
theorem check1 (p : ByteArray) (w : World) : Calls Tryz.prog 59 #[.string p] w fun e w' => e = .returned (.bool (pathOk p.data.toList)) ∧ Below w.heap.size w w' := callsIn_wide.1 (check0 p w)

#print axioms check1
end Go.Proofs.YthbaimobihmhiaaGreatDoor

namespace Go.Proofs.YthbaimobihmhiaaGreatDoor
open Go.Sx Go.RowKit Go.Shelf

def ctPath : CT := fun args h K => match args with
  | [.v (.string s)] => K (.v (.bool (pathOk s.data.toList))) h
  | [.str l] => K (.v (.bool (pathOk l))) h
  | _ => false

def ctIdx : CT := fun args h K => match args with
  | [.v (.string s), .v (.int .u8 c)] => K (.v (.int .i64 (Lib.indexByte s.data.toList c.toNat.toUInt8))) h
  | [.str l, .v (.int .u8 c)] => K (.v (.int .i64 (Lib.indexByte l c.toNat.toUInt8))) h
  | _ => false

/-- The functions whose contracts are laid down. -/
def C0 : FuncId → Option CT := fun f => bif Nat.beq f 59 then some ctPath else bif Nat.beq f 118 then some ctIdx else none

theorem C0_sound : CTSound Tryz.prog C0 := by
  intro f ct h args h0 K hk ρ w H hargs
  unfold C0 at h
  cases h1 : Nat.beq f 59 with
  | true =>
    rw [h1] at h
    have := Nat.eq_of_beq_eq_true h1
    subst this
    simp only [cond_true, Option.some.injEq] at h
    subst h
    unfold ctPath at hk
    split at hk
    · rename_i s
      exact goes_of_below Tryz.func59 (by kernel_rfl) rfl (check1 s w) H hk rfl trivial
    · rename_i l
      exact goes_of_below Tryz.func59 (by kernel_rfl) rfl (check1 ⟨l.toArray⟩ w) H hk rfl trivial
    · exact absurd hk Bool.false_ne_true
  | false =>
    rw [h1] at h
    simp only [cond_false] at h
    cases h2 : Nat.beq f 118 with
    | true =>
      rw [h2] at h
      have := Nat.eq_of_beq_eq_true h2
      subst this
      simp only [cond_true, Option.some.injEq] at h
      subst h
      have key : ∀ (s : ByteArray) (c : Int), (callFunc 118 #[.string s, .int .u8 c]).run Tryz.prog w = .ok (.value (.int .i64 (Lib.indexByte s.data.toList c.toNat.toUInt8))) w := fun s c => by
        rw [run_callFunc_extern Tryz.func118 (by kernel_rfl) (by kernel_rfl) (by kernel_rfl) (e := Extern.BytealgIndexByte.indexByte) (by kernel_rfl), Lib.run_indexByteString]
        rfl
      unfold ctIdx at hk
      split at hk
      · rename_i s c
        exact goes_of_entry (key s c) H hk rfl trivial
      · rename_i l c
        exact goes_of_entry (key ⟨l.toArray⟩ c) H hk rfl trivial
      · exact absurd hk Bool.false_ne_true
    | false => rw [h2] at h; cases h

end Go.Proofs.YthbaimobihmhiaaGreatDoor

namespace Go.Proofs.YthbaimobihmhiaaGreatDoor
open Go.Sx Go.RowKit
noncomputable section
open Classical

theorem splitL_ne : ∀ l : List UInt8, splitL l ≠ []
  | [] => by simp [splitL]
  | b :: l => by
    simp only [splitL]
    cases hb : b == 47 with
    | true => simp
    | false =>
      simp only [cond_false]
      split <;> simp

theorem splitL_len : ∀ l : List UInt8, (splitL l).length = l.count 47 + 1
  | [] => rfl
  | b :: l => by
    have ih := splitL_len l
    simp only [splitL]
    cases hb : b == 47 with
    | true =>
      have e : b = 47 := by simpa using hb
      subst e
      simp [ih]
    | false =>
      have e : b ≠ 47 := by simpa using hb
      simp only [cond_false]
      rw [List.count_cons_of_ne e]
      cases hs : splitL l with
      | nil => exact absurd hs (splitL_ne l)
      | cons x xs => rw [hs] at ih; simpa using ih

/-- Where there is more than one part, the first one is cut off. -/
theorem splitL_step {l : List UInt8} (h : 2 ≤ (splitL l).length) : ∃ a b, l = a ++ 47 :: b ∧ Lib.index l [47] = a.length ∧ splitL l = a :: splitL b := by
  rcases index_cases l with ⟨_, h2⟩ | ⟨a, b, h1, h2, h3⟩
  · rw [splitL_none l h2] at h
    simp at h
  · exact ⟨a, b, h1, h3, by rw [h1, splitL_cut a b h2]⟩

theorem splitL_last : ∀ (a b : List UInt8), (∀ x ∈ b, x ≠ 47) → splitL (a ++ 47 :: b) = splitL a ++ [b]
  | [], b, h => by simp [splitL, splitL_none b h]
  | x :: a, b, h => by
    have ih := splitL_last a b h
    simp only [List.cons_append, splitL]
    cases hb : x == 47 with
    | true => simp [ih]
    | false =>
      simp only [cond_false, ih]
      cases hs : splitL a with
      | nil => exact absurd hs (splitL_ne a)
      | cons y ys => simp

theorem join_cons2 (x : List UInt8) (xs : List (List UInt8)) (h : xs ≠ []) : Lib.join (x :: xs) [47] = x ++ 47 :: Lib.join xs [47] := by
  cases xs with
  | nil => exact absurd rfl h
  | cons y ys =>
    rw [Lib.join_cons, Lib.join_cons]
    simp [Lib.joinTail]

theorem join_split : ∀ l : List UInt8, Lib.join (splitL l) [47] = l
  | [] => by simp [splitL, Lib.join_one]
  | b :: l => by
    have ih := join_split l
    simp only [splitL]
    cases hb : b == 47 with
    | true =>
      have e : b = 47 := by simpa using hb
      subst e
      rw [cond_true, join_cons2 [] _ (splitL_ne l), ih]
      rfl
    | false =>
      simp only [cond_false]
      cases hs : splitL l with
      | nil => exact absurd hs (splitL_ne l)
      | cons x xs =>
        rw [hs] at ih
        simp only
        by_cases hx : xs = []
        · subst hx
          rw [Lib.join_one] at ih ⊢
          rw [ih]
        · rw [join_cons2 _ _ hx] at ih ⊢
          rw [List.cons_append, ih]

theorem last_split : ∀ l : List UInt8, (∀ x ∈ l, x ≠ 47) ∨ ∃ a b, l = a ++ 47 :: b ∧ ∀ x ∈ b, x ≠ 47
  | [] => .inl (by simp)
  | x :: l => by
    rcases last_split l with h | ⟨a, b, h1, h2⟩
    · by_cases hx : x = 47
      · exact .inr ⟨[], l, by rw [hx]; rfl, h⟩
      · refine .inl fun y hy => ?_
        rcases List.mem_cons.1 hy with rfl | hy
        · exact hx
        · exact h y hy
    · exact .inr ⟨x :: a, b, by rw [h1]; rfl, h2⟩

end
end Go.Proofs.YthbaimobihmhiaaGreatDoor
