/-
  The symbolic executor: a state renumbered. Blocks that nothing reaches are forgotten, new ones are counted in the order in which they are met; what comes out is in one form alone, so that ways which meet again are gone once.
-/
import Derived.Test.YtompigcfojbpkaaSxP
namespace Go.Sx
noncomputable section
variable {dfs : List Deferred}

/-! ### Data laid out in one form -/

def intK (n : Int) (k : Int → Bool) : Bool := match n with
  | .ofNat m => natK m fun m => k (.ofNat m)
  | .negSucc m => natK m fun m => k (.negSucc m)
theorem intK_eq (n : Int) (k : Int → Bool) : intK n k = k n := by cases n <;> simp only [intK, natK_eq]

def kindK (x : IntKind) (k : IntKind → Bool) : Bool := match x with
  | .i8 => k .i8
  | .i16 => k .i16
  | .i32 => k .i32
  | .i64 => k .i64
  | .u8 => k .u8
  | .u16 => k .u16
  | .u32 => k .u32
  | .u64 => k .u64
theorem kindK_eq (x : IntKind) (k : IntKind → Bool) : kindK x k = k x := by cases x <;> rfl

def boolK (x : Bool) (k : Bool → Bool) : Bool := bif x then k true else k false
theorem boolK_eq (x : Bool) (k : Bool → Bool) : boolK x k = k x := by cases x <;> rfl

def byteK (b : UInt8) (k : UInt8 → Bool) : Bool := natK b.toNat fun n => k (UInt8.ofNat n)
theorem byteK_eq (b : UInt8) (k : UInt8 → Bool) : byteK b k = k b := by simp [byteK, natK_eq]

def bytesK : List UInt8 → (List UInt8 → Bool) → Bool
  | [], k => k []
  | b :: l, k => byteK b fun b => bytesK l fun l => k (b :: l)
theorem bytesK_eq : ∀ (l : List UInt8) (k : List UInt8 → Bool), bytesK l k = k l
  | [], _ => rfl
  | b :: l, k => by rw [bytesK, byteK_eq, bytesK_eq l]

def natsK : List Nat → (List Nat → Bool) → Bool
  | [], k => k []
  | b :: l, k => natK b fun b => natsK l fun l => k (b :: l)
theorem natsK_eq : ∀ (l : List Nat) (k : List Nat → Bool), natsK l k = k l
  | [], _ => rfl
  | b :: l, k => by rw [natsK, natK_eq, natsK_eq l]

def valK (x : Value) (k : Value → Bool) : Bool := match x with
  | .int t n => kindK t fun t => intK n fun n => k (.int t n)
  | .bool b => boolK b fun b => k (.bool b)
  | x => k x
theorem valK_eq (x : Value) (k : Value → Bool) : valK x k = k x := by
  unfold valK
  split
  · rw [kindK_eq, intK_eq]
  · rw [boolK_eq]
  · rfl

def setK {α : Type} (f : Nat) : T α → Nat → α → (T α → Bool) → Bool :=
  Nat.rec (motive := fun _ => T α → Nat → α → (T α → Bool) → Bool) (fun _ _ _ k => k .e)
    (fun _ ih t i x k => T.rec (motive := fun _ => Bool)
      (Nat.rec (motive := fun _ => Bool) (k (.n .e (some x) .e)) (fun j _ => Bool.rec (motive := fun _ => Bool) (ih .e (Nat.div j 2) x fun r => k (.n .e none r)) (ih .e (Nat.div j 2) x fun l => k (.n l none .e)) (Nat.beq (Nat.mod j 2) 0)) i)
      (fun l v r _ _ => Nat.rec (motive := fun _ => Bool) (k (.n l (some x) r)) (fun j _ => Bool.rec (motive := fun _ => Bool) (ih r (Nat.div j 2) x fun r => k (.n l v r)) (ih l (Nat.div j 2) x fun l => k (.n l v r)) (Nat.beq (Nat.mod j 2) 0)) i) t) f

theorem setK_eq {α : Type} : ∀ (f : Nat) (t : T α) (i : Nat) (x : α) (k : T α → Bool), setK f t i x k = k (T.setF f t i (some x)) := by
  intro f
  induction f with
  | zero => intro t i x k; rfl
  | succ f ih =>
    intro t i x k
    cases t with
    | e => cases i with
      | zero => rfl
      | succ j =>
        rw [T.setF_eS]
        show Bool.rec (motive := fun _ => Bool) (setK f .e (j / 2) x fun r => k (.n .e none r)) (setK f .e (j / 2) x fun l => k (.n l none .e)) (Nat.beq (j % 2) 0) = _
        rw [ih, ih]
        cases Nat.beq (j % 2) 0 <;> rfl
    | n l v r => cases i with
      | zero => rfl
      | succ j =>
        rw [T.setF_nS]
        show Bool.rec (motive := fun _ => Bool) (setK f r (j / 2) x fun r => k (.n l v r)) (setK f l (j / 2) x fun l => k (.n l v r)) (Nat.beq (j % 2) 0) = _
        rw [ih, ih]
        cases Nat.beq (j % 2) 0 <;> rfl

/-! ### Renaming -/

/-- Where a number stands. -/
def posN (b : Nat) : List Nat → Nat → Option Nat
  | [], _ => none
  | x :: xs, i => bif Nat.beq x b then some i else posN b xs (Nat.succ i)

theorem posN_spec (b : Nat) : ∀ (l : List Nat) (i k : Nat), posN b l i = some k → i ≤ k ∧ l[k - i]? = some b := by
  intro l
  induction l with
  | nil => intro i k h; cases h
  | cons x xs ih =>
    intro i k h
    simp only [posN] at h
    cases hb : Nat.beq x b with
    | true =>
      rw [hb] at h
      injection h with h; subst h
      have := Nat.eq_of_beq_eq_true hb
      subst this
      exact ⟨Nat.le_refl _, by simp⟩
    | false =>
      rw [hb] at h
      obtain ⟨h1, h2⟩ := ih _ _ h
      refine ⟨Nat.le_of_succ_le h1, ?_⟩
      rw [show k - i = (k - (i + 1)) + 1 by omega, List.getElem?_cons_succ]
      exact h2

def ixN (n0 : Nat) (L : List Nat) (b : Nat) : Option Nat := bif Nat.blt b n0 then some b else posN b L n0

/-- The numbers' way back. -/
def backN (n0 : Nat) (L : List Nat) (k : Nat) : Nat := if k < n0 then k else L.getD (k - n0) 0

theorem ixN_spec {n0 : Nat} {L : List Nat} {b k : Nat} (h : ixN n0 L b = some k) : backN n0 L k = b ∧ k < n0 + L.length := by
  unfold ixN at h
  unfold backN
  cases hb : Nat.blt b n0 with
  | true =>
    rw [hb] at h
    injection h with h; subst h
    have : b < n0 := Nat.le_of_ble_eq_true hb
    exact ⟨by rw [if_pos this], by omega⟩
  | false =>
    rw [hb] at h
    obtain ⟨h1, h2⟩ := posN_spec b L n0 k h
    rw [if_neg (by omega), List.getD_eq_getElem?_getD, h2]
    have := (List.getElem?_eq_some_iff.1 h2).1
    exact ⟨rfl, by omega⟩

def renC (n0 : Nat) (L : List Nat) : SCap → Option SCap
  | .lit c => some (.lit c)
  | .sub b d => match ixN n0 L b with
    | some b => some (.sub b d)
    | none => none

mutual
def renV (n0 : Nat) (L : List Nat) : SV → Option SV
  | .v x => some (.v x)
  | .str l => some (.str l)
  | .ptr b o => match ixN n0 L b with
    | some b => some (.ptr b o)
    | none => none
  | .slc b o l c => match ixN n0 L b, renC n0 L c with
    | some b, some c => some (.slc b o l c)
    | _, _ => none
  | .mp b => match ixN n0 L b with
    | some b => some (.mp b)
    | none => none
  | .agg cs => match renVs n0 L cs with
    | some cs => some (.agg cs)
    | none => none
  | .tup cs => match renVs n0 L cs with
    | some cs => some (.tup cs)
    | none => none
  | .ifc t x => match renV n0 L x with
    | some x => some (.ifc t x)
    | none => none
  | .fn f cs => match renVs n0 L cs with
    | some cs => some (.fn f cs)
    | none => none
def renVs (n0 : Nat) (L : List Nat) : List SV → Option (List SV)
  | [] => some []
  | x :: xs => match renV n0 L x with
    | some x => match renVs n0 L xs with
      | some xs => some (x :: xs)
      | none => none
    | none => none
end

theorem renC_den {n0 : Nat} {L : List Nat} {ρ : Nat → Loc} {c c' : SCap} (h : renC n0 L c = some c') : c'.den (fun k => ρ (backN n0 L k)) = c.den ρ ∧ c'.lt (n0 + L.length) := by
  cases c with
  | lit c => simp only [renC, Option.some.injEq] at h; subst h; exact ⟨rfl, trivial⟩
  | sub b d =>
    simp only [renC] at h
    split at h
    · rename_i b' hb
      injection h with h; subst h
      obtain ⟨h1, h2⟩ := ixN_spec hb
      exact ⟨by simp [SCap.den, h1], h2⟩
    · cases h

mutual
theorem renV_den {n0 n : Nat} {L : List Nat} {ρ : Nat → Loc} : ∀ (x x' : SV), renV n0 L x = some x' → x.lt ρ n → x'.den (fun k => ρ (backN n0 L k)) = x.den ρ ∧ x'.lt (fun k => ρ (backN n0 L k)) (n0 + L.length)
  | .v x, x', h, _ => by simp only [renV, Option.some.injEq] at h; subst h; exact ⟨rfl, trivial⟩
  | .str l, x', h, _ => by simp only [renV, Option.some.injEq] at h; subst h; exact ⟨rfl, trivial⟩
  | .ptr b o, x', h, _ => by
    simp only [renV] at h
    split at h
    · rename_i b' hb
      injection h with h; subst h
      obtain ⟨h1, h2⟩ := ixN_spec hb
      exact ⟨by simp [SV.den, h1], h2⟩
    · cases h
  | .slc b o l c, x', h, hl => by
    simp only [renV] at h
    split at h
    · rename_i b' c' hb hc
      injection h with h; subst h
      obtain ⟨h1, h2⟩ := ixN_spec hb
      obtain ⟨h3, h4⟩ := renC_den (ρ := ρ) hc
      exact ⟨by simp [SV.den, h1, h3], h2, h4, by rw [h3]; exact hl.2.2⟩
    · cases h
  | .mp b, x', h, _ => by
    simp only [renV] at h
    split at h
    · rename_i b' hb
      injection h with h; subst h
      obtain ⟨h1, h2⟩ := ixN_spec hb
      exact ⟨by simp [SV.den, h1], h2⟩
    · cases h
  | .agg cs, x', h, hl => by
    simp only [renV] at h
    split at h
    · rename_i cs' hc
      injection h with h; subst h
      obtain ⟨h1, h2⟩ := renVs_den cs cs' hc hl
      exact ⟨by simp only [SV.den, h1], h2⟩
    · cases h
  | .tup cs, x', h, hl => by
    simp only [renV] at h
    split at h
    · rename_i cs' hc
      injection h with h; subst h
      obtain ⟨h1, h2⟩ := renVs_den cs cs' hc hl
      exact ⟨by simp only [SV.den, h1], h2⟩
    · cases h
  | .ifc t x, x', h, hl => by
    simp only [renV] at h
    split at h
    · rename_i y hy
      injection h with h; subst h
      obtain ⟨h1, h2⟩ := renV_den x y hy hl
      exact ⟨by simp only [SV.den, h1], h2⟩
    · cases h
  | .fn f cs, x', h, hl => by
    simp only [renV] at h
    split at h
    · rename_i cs' hc
      injection h with h; subst h
      obtain ⟨h1, h2⟩ := renVs_den cs cs' hc hl
      exact ⟨by simp only [SV.den, h1], h2⟩
    · cases h
theorem renVs_den {n0 n : Nat} {L : List Nat} {ρ : Nat → Loc} : ∀ (l l' : List SV), renVs n0 L l = some l' → SV.lts ρ n l → SV.dens (fun k => ρ (backN n0 L k)) l' = SV.dens ρ l ∧ SV.lts (fun k => ρ (backN n0 L k)) (n0 + L.length) l'
  | [], l', h, _ => by simp only [renVs, Option.some.injEq] at h; subst h; exact ⟨rfl, trivial⟩
  | x :: xs, l', h, hl => by
    simp only [renVs] at h
    split at h
    · rename_i x' hx
      split at h
      · rename_i xs' hxs
        injection h with h; subst h
        obtain ⟨h1, h2⟩ := renV_den x x' hx hl.1
        obtain ⟨h3, h4⟩ := renVs_den xs xs' hxs hl.2
        exact ⟨by simp only [SV.dens, h1, h3], h2, h4⟩
      · cases h
    · cases h
end

def renEs (n0 : Nat) (L : List Nat) : List (SV × SV × Nat) → Option (List (SV × SV × Nat))
  | [] => some []
  | e :: es => match renV n0 L e.1 with
    | some k => match renV n0 L e.2.1 with
      | some v => match renEs n0 L es with
        | some es => some ((k, v, e.2.2) :: es)
        | none => none
      | none => none
    | none => none

def renB (n0 : Nat) (L : List Nat) : SBlk → Option SBlk
  | .cells cs es τ => match renVs n0 L cs with
    | some cs => some (.cells cs es τ)
    | none => none
  | .map es clock => match renEs n0 L es with
    | some es => some (.map es clock)
    | none => none
  | .siter s pos => some (.siter s pos)
  | .miter m since seen last => match ixN n0 L m with
    | some m => some (.miter m since seen last)
    | none => none

theorem renEs_den {n0 n : Nat} {L : List Nat} {ρ : Nat → Loc} : ∀ (es es' : List (SV × SV × Nat)), renEs n0 L es = some es' → (∀ e ∈ es, e.1.lt ρ n ∧ e.2.1.lt ρ n) →
    es'.map (entDen fun k => ρ (backN n0 L k)) = es.map (entDen ρ) ∧ ∀ e ∈ es', e.1.lt (fun k => ρ (backN n0 L k)) (n0 + L.length) ∧ e.2.1.lt (fun k => ρ (backN n0 L k)) (n0 + L.length) := by
  intro es
  induction es with
  | nil => intro es' h _; simp only [renEs, Option.some.injEq] at h; subst h; exact ⟨rfl, fun _ h => by cases h⟩
  | cons e es ih =>
    intro es' h hl
    simp only [renEs] at h
    split at h
    · rename_i k hk
      split at h
      · rename_i v hv
        split at h
        · rename_i es1 hes
          injection h with h; subst h
          obtain ⟨l1, l2⟩ := hl e List.mem_cons_self
          obtain ⟨h1, h2⟩ := renV_den _ _ hk l1
          obtain ⟨h3, h4⟩ := renV_den _ _ hv l2
          obtain ⟨h5, h6⟩ := ih es1 hes fun e he => hl e (List.mem_cons_of_mem _ he)
          refine ⟨by simp [entDen, h1, h3, h5], fun e' he => ?_⟩
          rcases List.mem_cons.1 he with rfl | he
          · exact ⟨h2, h4⟩
          · exact h6 e' he
        · cases h
      · cases h
    · cases h

theorem renB_rel {n0 n : Nat} {L : List Nat} {ρ : Nat → Loc} {B B' : SBlk} (h : renB n0 L B = some B') (hl : B.lt ρ n) {loc : Loc} {w : World} (hr : B.Rel ρ loc w) :
    B'.lt (fun k => ρ (backN n0 L k)) (n0 + L.length) ∧ B'.Rel (fun k => ρ (backN n0 L k)) loc w := by
  cases B with
  | cells cs es τ =>
    simp only [renB] at h
    split at h
    · rename_i cs' hc
      injection h with h; subst h
      obtain ⟨h1, h2⟩ := renVs_den cs cs' hc (lts_iff.2 hl)
      refine ⟨lts_iff.1 h2, ?_⟩
      obtain ⟨c, t, fz, k1, k2, k3, k4, k5⟩ := hr
      rw [dens_eq, dens_eq] at h1
      have hl1 : cs'.length = cs.length := by
        have := congrArg List.length h1
        simpa using this
      refine ⟨c, t, fz, k1, fun i x hx => ?_, k3, ?_, by rw [hl1]; exact k5⟩
      · have e1 : (cs'.map (SV.den fun k => ρ (backN n0 L k)))[i]? = some (x.den fun k => ρ (backN n0 L k)) := by rw [List.getElem?_map, hx]; rfl
        rw [h1, List.getElem?_map] at e1
        cases hy : cs[i]? with
        | none => rw [hy] at e1; cases e1
        | some y =>
          rw [hy] at e1
          injection e1 with e1
          rw [← e1]; exact k2 i y hy
      · have : cs'.length = cs.length := by
          have := congrArg List.length h1
          simpa using this
        rw [this]; exact k4
    · cases h
  | map es clock =>
    simp only [renB] at h
    split at h
    · rename_i es' hes
      injection h with h; subst h
      obtain ⟨h1, h2⟩ := renEs_den es es' hes hl
      refine ⟨h2, ?_⟩
      show w.heap[loc.blk]? = some (.map (es'.map (entDen fun k => ρ (backN n0 L k))).toArray clock)
      rw [h1]; exact hr
    · cases h
  | siter s pos => simp only [renB, Option.some.injEq] at h; subst h; exact ⟨trivial, hr⟩
  | miter m since seen last =>
    simp only [renB] at h
    split at h
    · rename_i m' hm
      injection h with h; subst h
      obtain ⟨h1, h2⟩ := ixN_spec hm
      refine ⟨h2, hr.1, ?_⟩
      show w.heap[loc.blk]? = some (.mapIter (some (ρ (backN n0 L m')).blk) since seen.toArray last)
      rw [h1]; exact hr.2
    · cases h

/-- The blocks of some numbers, renamed. -/
def renH (n0 : Nat) (L : List Nat) (H : T SBlk) : List Nat → T SBlk → Option (T SBlk)
  | [], acc => some acc
  | b :: bs, acc => match H.get b with
    | none => renH n0 L H bs acc
    | some B => match ixN n0 L b with
      | none => none
      | some k => match renB n0 L B with
        | none => none
        | some B' => renH n0 L H bs (acc.set k B')

theorem renH_spec {n0 : Nat} {L : List Nat} {H : T SBlk} : ∀ (bs : List Nat) (acc acc' : T SBlk), renH n0 L H bs acc = some acc' →
    (∀ k B', acc.get k = some B' → ∃ b B, H.get b = some B ∧ ixN n0 L b = some k ∧ renB n0 L B = some B') → ∀ k B', acc'.get k = some B' → ∃ b B, H.get b = some B ∧ ixN n0 L b = some k ∧ renB n0 L B = some B' := by
  intro bs
  induction bs with
  | nil => intro acc acc' h hi; simp only [renH, Option.some.injEq] at h; subst h; exact hi
  | cons b bs ih =>
    intro acc acc' h hi
    simp only [renH] at h
    split at h
    · exact ih _ _ h hi
    · rename_i B hB
      split at h
      · cases h
      · rename_i k hk
        split at h
        · cases h
        · rename_i B' hB'
          refine ih _ _ h fun k2 B2 h2 => ?_
          rcases T.get_set h2 with ⟨rfl, rfl⟩ | ⟨_, h2⟩
          · exact ⟨b, B, hB, hk, hB'⟩
          · exact hi k2 B2 h2

/-- What is renamed is as right as what was. -/
theorem HRel.ren {ρ : Nat → Loc} {h : HS} {w : World} (R : HRel ρ h w) {n0 : Nat} {L : List Nat} {H' : T SBlk} (hH : ∀ k B', H'.get k = some B' → ∃ b B, h.H.get b = some B ∧ ixN n0 L b = some k ∧ renB n0 L B = some B') :
    HRel (fun k => ρ (backN n0 L k)) ⟨H', n0 + L.length, h.M⟩ w where
  os := R.os
  out := R.out
  tape := R.tape
  mem := R.mem
  blk := fun k B' hk => by
    obtain ⟨b, B, h1, h2, h3⟩ := hH k B' hk
    obtain ⟨_, k2, k3⟩ := R.blk b B h1
    obtain ⟨g1, g2⟩ := ixN_spec h2
    obtain ⟨f1, f2⟩ := renB_rel h3 k2 k3
    refine ⟨g2, f1, ?_⟩
    show B'.Rel _ (ρ (backN n0 L k)) w
    rw [g1]; exact f2
  inj := fun k k' B B' hk hk' he => by
    obtain ⟨b, C, h1, h2, _⟩ := hH k B hk
    obtain ⟨b', C', h1', h2', _⟩ := hH k' B' hk'
    obtain ⟨g1, _⟩ := ixN_spec h2
    obtain ⟨g1', _⟩ := ixN_spec h2'
    have he : (ρ (backN n0 L k)).blk = (ρ (backN n0 L k')).blk := he
    rw [g1, g1'] at he
    have := R.inj b b' C C' h1 h1' he
    subst this
    rw [h2] at h2'
    injection h2'
  apart := fun k B hk => by
    obtain ⟨b, C, h1, h2, _⟩ := hH k B hk
    obtain ⟨g1, _⟩ := ixN_spec h2
    show h.M.blk (ρ (backN n0 L k)).blk = none
    rw [g1]; exact R.apart b C h1
  are := R.are
  aprA := fun k B hk => by
    obtain ⟨b, C, h1, h2, _⟩ := hH k B hk
    obtain ⟨g1, _⟩ := ixN_spec h2
    show h.M.A.blk (ρ (backN n0 L k)).blk = none
    rw [g1]; exact R.aprA b C h1
  disj := R.disj

/-! ### The same, laid out in one form -/

def ixK (n0 : Nat) (L : List Nat) (b : Nat) (k : Nat → Bool) : Bool := match ixN n0 L b with
  | some b => natK b k
  | none => false

def optB {α : Type} (x : Option α) (k : α → Bool) : Bool := match x with
  | some x => k x
  | none => false

theorem ixK_eq (n0 : Nat) (L : List Nat) (b : Nat) (k : Nat → Bool) : ixK n0 L b k = optB (ixN n0 L b) k := by
  unfold ixK optB
  cases ixN n0 L b with
  | none => rfl
  | some b => exact natK_eq _ _

def capK (n0 : Nat) (L : List Nat) (c : SCap) (k : SCap → Bool) : Bool := match c with
  | .lit c => natK c fun c => k (.lit c)
  | .sub b d => ixK n0 L b fun b => natK d fun d => k (.sub b d)

theorem capK_eq (n0 : Nat) (L : List Nat) (c : SCap) (k : SCap → Bool) : capK n0 L c k = optB (renC n0 L c) k := by
  cases c with
  | lit c => simp only [capK, natK_eq, renC, optB]
  | sub b d =>
    simp only [capK, ixK_eq, natK_eq, renC]
    cases ixN n0 L b <;> rfl

mutual
def renVK (n0 : Nat) (L : List Nat) : SV → (SV → Bool) → Bool
  | .v x, k => k (.v x)
  | .str l, k => k (.str l)
  | .ptr b o, k => ixK n0 L b fun b => natK o fun o => k (.ptr b o)
  | .slc b o l c, k => ixK n0 L b fun b => capK n0 L c fun c => natK o fun o => natK l fun l => k (.slc b o l c)
  | .mp b, k => ixK n0 L b fun b => k (.mp b)
  | .agg cs, k => renVsK n0 L cs fun cs => k (.agg cs)
  | .tup cs, k => renVsK n0 L cs fun cs => k (.tup cs)
  | .ifc t x, k => natK t fun t => renVK n0 L x fun x => k (.ifc t x)
  | .fn f cs, k => natK f fun f => renVsK n0 L cs fun cs => k (.fn f cs)
def renVsK (n0 : Nat) (L : List Nat) : List SV → (List SV → Bool) → Bool
  | [], k => k []
  | x :: xs, k => renVK n0 L x fun x => renVsK n0 L xs fun xs => k (x :: xs)
end

mutual
theorem renVK_eq (n0 : Nat) (L : List Nat) : ∀ (x : SV) (k : SV → Bool), renVK n0 L x k = optB (renV n0 L x) k
  | .v x, k => by simp only [renVK, renV, optB]
  | .str l, k => by simp only [renVK, renV, optB]
  | .ptr b o, k => by simp only [renVK, ixK_eq, natK_eq, renV]; cases ixN n0 L b <;> rfl
  | .slc b o l c, k => by simp only [renVK, ixK_eq, capK_eq, natK_eq, renV]; cases ixN n0 L b <;> cases renC n0 L c <;> rfl
  | .mp b, k => by simp only [renVK, ixK_eq, renV]; cases ixN n0 L b <;> rfl
  | .agg cs, k => by rw [renVK, renVsK_eq n0 L cs]; simp only [renV]; cases renVs n0 L cs <;> rfl
  | .tup cs, k => by rw [renVK, renVsK_eq n0 L cs]; simp only [renV]; cases renVs n0 L cs <;> rfl
  | .ifc t x, k => by rw [renVK, natK_eq, renVK_eq n0 L x]; simp only [renV]; cases renV n0 L x <;> rfl
  | .fn f cs, k => by rw [renVK, natK_eq, renVsK_eq n0 L cs]; simp only [renV]; cases renVs n0 L cs <;> rfl
theorem renVsK_eq (n0 : Nat) (L : List Nat) : ∀ (l : List SV) (k : List SV → Bool), renVsK n0 L l k = optB (renVs n0 L l) k
  | [], k => by simp only [renVsK, renVs, optB]
  | x :: xs, k => by
    rw [renVsK, renVK_eq n0 L x]
    simp only [renVs]
    cases renV n0 L x with
    | none => rfl
    | some y =>
      show renVsK n0 L xs _ = _
      rw [renVsK_eq n0 L xs]
      cases renVs n0 L xs <;> rfl
end

def renEsK (n0 : Nat) (L : List Nat) : List (SV × SV × Nat) → (List (SV × SV × Nat) → Bool) → Bool
  | [], k => k []
  | e :: es, k => renVK n0 L e.1 fun a => renVK n0 L e.2.1 fun b => natK e.2.2 fun c => renEsK n0 L es fun es => k ((a, b, c) :: es)

theorem renEsK_eq (n0 : Nat) (L : List Nat) : ∀ (l : List (SV × SV × Nat)) (k : List (SV × SV × Nat) → Bool), renEsK n0 L l k = optB (renEs n0 L l) k := by
  intro l
  induction l with
  | nil => intro k; rfl
  | cons e es ih =>
    intro k
    simp only [renEsK, renEs, renVK_eq, natK_eq, ih]
    cases renV n0 L e.1 with
    | none => rfl
    | some a => cases renV n0 L e.2.1 with
      | none => rfl
      | some b => cases renEs n0 L es <;> rfl

def renBK (n0 : Nat) (L : List Nat) (B : SBlk) (k : SBlk → Bool) : Bool := match B with
  | .cells cs es τ => renVsK n0 L cs fun cs => natK es fun es => natK τ fun τ => k (.cells cs es τ)
  | .map es clock => renEsK n0 L es fun es => natK clock fun clock => k (.map es clock)
  | .siter s pos => bytesK s fun s => natK pos fun pos => k (.siter s pos)
  | .miter m since seen last => ixK n0 L m fun m => natK since fun since => natsK seen fun seen => natK last fun last => k (.miter m since seen last)

theorem renBK_eq (n0 : Nat) (L : List Nat) (B : SBlk) (k : SBlk → Bool) : renBK n0 L B k = optB (renB n0 L B) k := by
  cases B with
  | cells cs es τ => simp only [renBK, renVsK_eq, natK_eq, renB]; cases renVs n0 L cs <;> rfl
  | map es clock => simp only [renBK, renEsK_eq, natK_eq, renB]; cases renEs n0 L es <;> rfl
  | siter s pos => simp only [renBK, bytesK_eq, natK_eq, renB, optB]
  | miter m since seen last => simp only [renBK, ixK_eq, natK_eq, natsK_eq, renB]; cases ixN n0 L m <;> rfl

/-! Old blocks that speak of old ones alone stay as they are. -/

def cleanC (n0 : Nat) (c : SCap) : Bool := match c with
  | .lit _ => true
  | .sub b _ => Nat.blt b n0

def cleanV (n0 : Nat) (x : SV) : Bool := match x with
  | .v _ => true
  | .str _ => true
  | .ptr b _ => Nat.blt b n0
  | .slc b _ _ c => bif Nat.blt b n0 then cleanC n0 c else false
  | .mp b => Nat.blt b n0
  | _ => false

def cleanL (n0 : Nat) (l : List SV) : Bool := List.rec (motive := fun _ => Bool) true (fun x _ ih => bif cleanV n0 x then ih else false) l

def cleanB (n0 : Nat) (B : SBlk) : Bool := match B with
  | .cells cs _ _ => cleanL n0 cs
  | _ => false

theorem ixN_old {n0 b : Nat} (L : List Nat) (h : Nat.blt b n0 = true) : ixN n0 L b = some b := by unfold ixN; rw [h]; rfl

theorem cleanV_ren {n0 : Nat} (L : List Nat) {x : SV} (h : cleanV n0 x = true) : renV n0 L x = some x := by
  cases x with
  | v x => rfl
  | str l => rfl
  | ptr b o => simp only [cleanV] at h; simp only [renV, ixN_old L h]
  | slc b o l c =>
    simp only [cleanV] at h
    cases hb : Nat.blt b n0 with
    | false => rw [hb] at h; exact absurd h Bool.false_ne_true
    | true =>
      rw [hb] at h
      simp only [cond_true] at h
      cases c with
      | lit c => simp only [renV, ixN_old L hb, renC]
      | sub b' d => simp only [cleanC] at h; simp only [renV, ixN_old L hb, renC, ixN_old L h]
  | mp b => simp only [cleanV] at h; simp only [renV, ixN_old L h]
  | _ => exact absurd h Bool.false_ne_true

theorem cleanL_ren {n0 : Nat} (L : List Nat) : ∀ {l : List SV}, cleanL n0 l = true → renVs n0 L l = some l := by
  intro l
  induction l with
  | nil => intro _; rfl
  | cons x l ih =>
    intro h
    have h : (bif cleanV n0 x then cleanL n0 l else false) = true := h
    cases hx : cleanV n0 x with
    | false => rw [hx] at h; exact absurd h Bool.false_ne_true
    | true =>
      rw [hx] at h
      simp only [renVs, cleanV_ren L hx, ih h]

theorem cleanB_ren {n0 : Nat} (L : List Nat) {B : SBlk} (h : cleanB n0 B = true) : renB n0 L B = some B := by
  cases B with
  | cells cs es τ => simp only [cleanB] at h; simp only [renB, cleanL_ren L h]
  | _ => exact absurd h Bool.false_ne_true

def putK (n0 : Nat) (L : List Nat) (B : SBlk) (k : SBlk → Bool) : Bool := bif cleanB n0 B then k B else renBK n0 L B k

theorem putK_eq (n0 : Nat) (L : List Nat) (B : SBlk) (k : SBlk → Bool) : putK n0 L B k = optB (renB n0 L B) k := by
  unfold putK
  cases h : cleanB n0 B with
  | true => rw [cleanB_ren L h]; rfl
  | false => exact renBK_eq n0 L B k

def renHK (n0 : Nat) (L : List Nat) (H : T SBlk) : List Nat → T SBlk → (T SBlk → Bool) → Bool
  | [], acc, k => k acc
  | b :: bs, acc, k => match H.get b with
    | none => renHK n0 L H bs acc k
    | some B => ixK n0 L b fun i => putK n0 L B fun B' => setK 32 acc i B' fun acc => renHK n0 L H bs acc k

theorem renHK_eq (n0 : Nat) (L : List Nat) (H : T SBlk) : ∀ (bs : List Nat) (acc : T SBlk) (k : T SBlk → Bool), renHK n0 L H bs acc k = optB (renH n0 L H bs acc) k := by
  intro bs
  induction bs with
  | nil => intro acc k; rfl
  | cons b bs ih =>
    intro acc k
    simp only [renHK, renH, ixK_eq, putK_eq, setK_eq, ih]
    cases H.get b with
    | none => rfl
    | some B => cases ixN n0 L b with
      | none => rfl
      | some i => cases hB : renB n0 L B with
        | none => simp only [optB, hB]
        | some B' => simp only [optB, hB]; rfl

/-! ### What is reached -/

def addN (n0 b : Nat) (L : List Nat) : List Nat := bif Nat.blt b n0 then L else bif memN b L then L else L ++ [b]

def idsC (n0 : Nat) (c : SCap) (L : List Nat) : List Nat := match c with
  | .lit _ => L
  | .sub b _ => addN n0 b L

mutual
def idsV (n0 : Nat) : SV → List Nat → List Nat
  | .v _, L => L
  | .str _, L => L
  | .ptr b _, L => addN n0 b L
  | .slc b _ _ c, L => idsC n0 c (addN n0 b L)
  | .mp b, L => addN n0 b L
  | .agg cs, L => idsVs n0 cs L
  | .tup cs, L => idsVs n0 cs L
  | .ifc _ x, L => idsV n0 x L
  | .fn _ cs, L => idsVs n0 cs L
def idsVs (n0 : Nat) : List SV → List Nat → List Nat
  | [], L => L
  | x :: xs, L => idsVs n0 xs (idsV n0 x L)
end

def idsV1 (n0 : Nat) (x : SV) (L : List Nat) : List Nat := match x with
  | .v _ => L
  | .str _ => L
  | .ptr b _ => addN n0 b L
  | x => idsV n0 x L

def idsL (n0 : Nat) (l : List SV) : List Nat → List Nat := List.rec (motive := fun _ => List Nat → List Nat) (fun L => L) (fun x _ ih L => ih (idsV1 n0 x L)) l

def idsE (n0 : Nat) : List (SV × SV × Nat) → List Nat → List Nat
  | [], L => L
  | e :: es, L => idsE n0 es (idsV n0 e.2.1 (idsV n0 e.1 L))

def idsB (n0 : Nat) (B : SBlk) (L : List Nat) : List Nat := match B with
  | .cells cs _ _ => idsL n0 cs L
  | .map es _ => idsE n0 es L
  | .siter _ _ => L
  | .miter m _ _ _ => addN n0 m L

def idsH (n0 : Nat) (H : T SBlk) : List Nat → List Nat → List Nat
  | [], L => L
  | b :: bs, L => match H.get b with
    | none => idsH n0 H bs L
    | some B => idsH n0 H bs (idsB n0 B L)

def closeL (n0 : Nat) (H : T SBlk) : Nat → Nat → List Nat → List Nat
  | 0, _, L => L
  | f + 1, p, L => match nth L p with
    | none => L
    | some b => match H.get b with
      | none => closeL n0 H f (Nat.succ p) L
      | some B => closeL n0 H f (Nat.succ p) (idsB n0 B L)

def upN (n : Nat) : List Nat := Nat.rec (motive := fun _ => List Nat) [] (fun m ih => m :: ih) n

/-- Reckoned once, wherever it is met again. -/
def memo (b : Bool) : Bool := bif b then true else false
theorem memo_eq (b : Bool) : memo b = b := by cases b <;> rfl

def memK (M : Mem) (k : Mem → Bool) : Bool := match M with
  | ⟨blk, os, out, tape, gl, glok, X⟩ => k ⟨blk, os, out, tape, gl, glok, X⟩
theorem memK_eq (M : Mem) (k : Mem → Bool) : memK M k = k M := by cases M; rfl

/-- A state, in its one form. -/
def canonK (n1 : Nat) (v : SV) (h : HS) (K : SV → HS → Bool) : Bool :=
  natK n1 fun n0 => memK h.M fun M => natsK (closeL n0 h.H h.nx 0 (idsH n0 h.H (upN n0) (idsV n0 v []))) fun L =>
    renVK n0 L v fun v' => renHK n0 L h.H (upN n0 ++ L) .e fun H' => natK (n0 + L.length) fun nx => memo (K v' ⟨H', nx, M⟩)

theorem canonK_post {ρ0 ρ : Nat → Loc} {h0 h : HS} {v : SV} {K : SV → HS → Bool} {w' : World} (hk : canonK h0.nx v h K = true) (hv : v.lt ρ h.nx) (R : HRel ρ h w') (hx : Ext ρ0 ρ h0.nx) (hm : h0.M.le h.M) :
    Post ρ0 h0 K (v.den ρ) w' := by
  unfold canonK at hk
  rw [natK_eq, memK_eq, natsK_eq] at hk
  generalize closeL h0.nx h.H h.nx 0 (idsH h0.nx h.H (upN h0.nx) (idsV h0.nx v [])) = L at hk
  rw [renVK_eq] at hk
  cases hr : renV h0.nx L v with
  | none => rw [hr] at hk; exact absurd hk Bool.false_ne_true
  | some v' =>
    rw [hr] at hk
    have hk : renHK h0.nx L h.H (upN h0.nx ++ L) .e (fun H' => natK (h0.nx + L.length) fun nx => memo (K v' ⟨H', nx, h.M⟩)) = true := hk
    rw [renHK_eq] at hk
    cases hh : renH h0.nx L h.H (upN h0.nx ++ L) .e with
    | none => rw [hh] at hk; exact absurd hk Bool.false_ne_true
    | some H' =>
      rw [hh] at hk
      have hk : (natK (h0.nx + L.length) fun nx => memo (K v' ⟨H', nx, h.M⟩)) = true := hk
      rw [natK_eq, memo_eq] at hk
      have hH := renH_spec _ _ _ hh (fun k B' hg => by rw [T.get_e] at hg; cases hg)
      obtain ⟨d1, d2⟩ := renV_den (ρ := ρ) v v' hr hv
      refine ⟨v', ⟨H', h0.nx + L.length, h.M⟩, fun k => ρ (backN h0.nx L k), hk, d1.symm, d2, R.ren hH, fun b hb => ?_, Nat.le_add_right _ _, hm⟩
      show ρ (backN h0.nx L b) = ρ0 b
      unfold backN
      rw [if_pos hb]
      exact hx b hb

/-! ### Slots and blocks that are wanted no more, forgotten -/

def liveK (tm : T SV) : List Nat → T SV → List Nat → (T SV → List Nat → Bool) → Bool
  | [], acc, L, k => k acc L
  | i :: is, acc, L, k => match tm.get i with
    | none => liveK tm is acc L k
    | some x => setK 32 acc i x fun acc => liveK tm is acc (idsV 0 x L) k

theorem liveK_sub {tm : T SV} : ∀ {is : List Nat} {acc : T SV} {L : List Nat} {k : T SV → List Nat → Bool}, liveK tm is acc L k = true → (∀ i x, acc.get i = some x → tm.get i = some x) →
    ∃ acc' L', k acc' L' = true ∧ ∀ i x, acc'.get i = some x → tm.get i = some x := by
  intro is
  induction is with
  | nil => intro acc L k h hs; exact ⟨acc, L, h, hs⟩
  | cons i is ih =>
    intro acc L k h hs
    simp only [liveK] at h
    split at h
    · exact ih h hs
    · rename_i x hx
      rw [setK_eq] at h
      refine ih h fun j y hj => ?_
      rcases T.get_set hj with ⟨rfl, rfl⟩ | ⟨_, hj⟩
      · exact hx
      · exact hs j y hj

def keepK (H : T SBlk) : List Nat → T SBlk → (T SBlk → Bool) → Bool
  | [], acc, k => k acc
  | b :: bs, acc, k => match H.get b with
    | none => keepK H bs acc k
    | some B => setK 32 acc b B fun acc => keepK H bs acc k

theorem keepK_sub {H : T SBlk} : ∀ {bs : List Nat} {acc : T SBlk} {k : T SBlk → Bool}, keepK H bs acc k = true → (∀ b B, acc.get b = some B → H.get b = some B) →
    ∃ acc', k acc' = true ∧ ∀ b B, acc'.get b = some B → H.get b = some B := by
  intro bs
  induction bs with
  | nil => intro acc k h hs; exact ⟨acc, h, hs⟩
  | cons b bs ih =>
    intro acc k h hs
    simp only [keepK] at h
    split at h
    · exact ih h hs
    · rename_i B hB
      rw [setK_eq] at h
      refine ih h fun j y hj => ?_
      rcases T.get_set hj with ⟨rfl, rfl⟩ | ⟨_, hj⟩
      · exact hB
      · exact hs j y hj

/-- These slots alone, and what they reach. -/
def gcK (live : List Nat) (tm : T SV) (h : HS) (F : T SV → HS → Bool) : Bool :=
  liveK tm live .e [] fun tm L => natsK (closeL 0 h.H h.nx 0 L) fun L => keepK h.H L .e fun H => natK h.nx fun nx => memK h.M fun M => memo (F tm ⟨H, nx, M⟩)

theorem gcK_sub {live : List Nat} {tm : T SV} {h : HS} {F : T SV → HS → Bool} (hk : gcK live tm h F = true) :
    ∃ tm' H', F tm' ⟨H', h.nx, h.M⟩ = true ∧ (∀ i x, tm'.get i = some x → tm.get i = some x) ∧ ∀ b B, H'.get b = some B → h.H.get b = some B := by
  unfold gcK at hk
  obtain ⟨tm', L, hk, h1⟩ := liveK_sub hk (fun i x h => by rw [T.get_e] at h; cases h)
  rw [natsK_eq] at hk
  obtain ⟨H', hk, h2⟩ := keepK_sub hk (fun i x h => by rw [T.get_e] at h; cases h)
  rw [natK_eq, memK_eq, memo_eq] at hk
  exact ⟨tm', H', hk, h1, h2⟩

theorem HRel.less {ρ : Nat → Loc} {h : HS} {w : World} (R : HRel ρ h w) {H' : T SBlk} (hs : ∀ b B, H'.get b = some B → h.H.get b = some B) : HRel ρ ⟨H', h.nx, h.M⟩ w :=
  ⟨R.os, R.out, R.tape, R.mem, fun b B hb => R.blk b B (hs b B hb), fun b b' B B' hb hb' he => R.inj b b' B B' (hs b B hb) (hs b' B' hb') he, fun b B hb => R.apart b B (hs b B hb), R.are, fun b B hb => R.aprA b B (hs b B hb), R.disj⟩

/-! ### A state in the midst of a function, in one form -/

def slotIds (n0 : Nat) (tm : T SV) : List Nat → List Nat → List Nat
  | [], L => L
  | i :: is, L => match tm.get i with
    | none => slotIds n0 tm is L
    | some x => slotIds n0 tm is (idsV n0 x L)

def renTK (n0 : Nat) (L : List Nat) (tm : T SV) : List Nat → T SV → (T SV → Bool) → Bool
  | [], acc, k => k acc
  | i :: is, acc, k => match tm.get i with
    | none => renTK n0 L tm is acc k
    | some x => renVK n0 L x fun x' => setK 32 acc i x' fun acc => renTK n0 L tm is acc k

theorem renTK_spec {n0 : Nat} {L : List Nat} {tm : T SV} : ∀ {is : List Nat} {acc : T SV} {k : T SV → Bool}, renTK n0 L tm is acc k = true →
    (∀ j y, acc.get j = some y → ∃ x, tm.get j = some x ∧ renV n0 L x = some y) → ∃ acc', k acc' = true ∧ ∀ j y, acc'.get j = some y → ∃ x, tm.get j = some x ∧ renV n0 L x = some y := by
  intro is
  induction is with
  | nil => intro acc k h hs; exact ⟨acc, h, hs⟩
  | cons i is ih =>
    intro acc k h hs
    simp only [renTK] at h
    split at h
    · exact ih h hs
    · rename_i x hx
      rw [renVK_eq] at h
      cases hr : renV n0 L x with
      | none => rw [hr] at h; exact absurd h Bool.false_ne_true
      | some x' =>
        rw [hr] at h
        have h : setK 32 acc i x' (fun acc => renTK n0 L tm is acc k) = true := h
        rw [setK_eq] at h
        refine ih h fun j y hj => ?_
        rcases T.get_set hj with ⟨rfl, rfl⟩ | ⟨_, hj⟩
        · exact ⟨x, hx, hr⟩
        · exact hs j y hj

/-- A state in its one form, the slots with it: blocks from n1 on are counted anew. -/
def canonT (n1 sz : Nat) (tm : T SV) (h : HS) (F : T SV → HS → Bool) : Bool :=
  natK n1 fun n0 => memK h.M fun M => natsK (closeL n0 h.H h.nx 0 (slotIds n0 tm (upN sz) (idsH n0 h.H (upN n0) []))) fun L =>
    renTK n0 L tm (upN sz) .e fun tm' => renHK n0 L h.H (upN n0 ++ L) .e fun H' => natK (n0 + L.length) fun nx => memo (F tm' ⟨H', nx, M⟩)

theorem canonT_goes {ρ0 ρ : Nat → Loc} {h0 h : HS} {sz : Nat} {tm : T SV} {F : T SV → HS → Bool} {a : Act} {w' : World} (hk : canonT h0.nx sz tm h F = true) (A : ARel dfs ρ tm sz h.nx a) (R : HRel ρ h w') (hx : Ext ρ0 ρ h0.nx) (hm : h0.M.le h.M) :
    Goes dfs ρ0 h0 sz F a w' := by
  unfold canonT at hk
  rw [natK_eq, memK_eq, natsK_eq] at hk
  generalize closeL h0.nx h.H h.nx 0 (slotIds h0.nx tm (upN sz) (idsH h0.nx h.H (upN h0.nx) [])) = L at hk
  obtain ⟨tm', hk, htm⟩ := renTK_spec hk (fun j y h => by rw [T.get_e] at h; cases h)
  rw [renHK_eq] at hk
  cases hh : renH h0.nx L h.H (upN h0.nx ++ L) .e with
  | none => rw [hh] at hk; exact absurd hk Bool.false_ne_true
  | some H' =>
    rw [hh] at hk
    have hk : (natK (h0.nx + L.length) fun nx => memo (F tm' ⟨H', nx, h.M⟩)) = true := hk
    rw [natK_eq, memo_eq] at hk
    have hH := renH_spec _ _ _ hh (fun k B' hg => by rw [T.get_e] at hg; cases hg)
    refine ⟨tm', ⟨H', h0.nx + L.length, h.M⟩, fun k => ρ (backN h0.nx L k), hk, ⟨A.size, fun i y hi => ?_, A.defers⟩, R.ren hH, fun b hb => ?_, Nat.le_add_right _ _, hm⟩
    · obtain ⟨x, hx', hr⟩ := htm i y hi
      obtain ⟨l1, l2⟩ := A.at_ i x hx'
      obtain ⟨d1, d2⟩ := renV_den (ρ := ρ) x y hr l1
      exact ⟨d2, by rw [l2, d1]⟩
    · show ρ (backN h0.nx L b) = ρ0 b
      unfold backN
      rw [if_pos hb]
      exact hx b hb

/-- Is there but one order? -/
def oneWay : DPlan → Bool
  | .done => true
  | .stop => true
  | .take _ _ _ r => oneWay r
  | .eff _ _ _ _ q a => match a with
    | .stop => oneWay q
    | _ => false

end
end Go.Sx
