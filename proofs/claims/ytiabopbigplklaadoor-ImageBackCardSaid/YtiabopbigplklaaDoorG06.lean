/-
  The symbolic executor: a state renumbered. Blocks that nothing reaches are forgotten, new ones are counted in the order in which they are met; what comes out is in one form alone, so that ways which meet again are gone once.
  The symbolic executor: code, functions, and what they show of the model's calls.
  The symbolic executor: contracts out of the kit's words: a call that leaves all that lay; an entry.
  From the executor to a row: what lay when the call began lies as it lay; the row's step over that.
  The symbolic executor over arenas: contracts of functions at plain arguments, used in any heap; loops with an invariant.
-/
import Derived.Test.YtiabopbigplklaaDoorG05
import Derived.ChangeSame
namespace Go.Sx
noncomputable section
variable {dfs : List Deferred}

/-! ### Data laid out in one form -/

def intK (n : Int) (k : Int → Bool) : Bool := match n with
  | .ofNat m => natK m fun m => k (.ofNat m)
  | .negSucc m => natK m fun m => k (.negSucc m)
theorem intK_eq (n : Int) (k : Int → Bool) : intK n k = k n := by cases n <;> simp only [intK, natK_eq]

def kindK (x : IntKind) (k : IntKind → Bool) : Bool := match x with
  | .i8 => k .i8
  | .i16 => k .i16
  | .i32 => k .i32
  | .i64 => k .i64
  | .u8 => k .u8
  | .u16 => k .u16
  | .u32 => k .u32
  | .u64 => k .u64
theorem kindK_eq (x : IntKind) (k : IntKind → Bool) : kindK x k = k x := by cases x <;> rfl

def boolK (x : Bool) (k : Bool → Bool) : Bool := bif x then k true else k false
theorem boolK_eq (x : Bool) (k : Bool → Bool) : boolK x k = k x := by cases x <;> rfl

def byteK (b : UInt8) (k : UInt8 → Bool) : Bool := natK b.toNat fun n => k (UInt8.ofNat n)
theorem byteK_eq (b : UInt8) (k : UInt8 → Bool) : byteK b k = k b := by simp [byteK, natK_eq]

def bytesK : List UInt8 → (List UInt8 → Bool) → Bool
  | [], k => k []
  | b :: l, k => byteK b fun b => bytesK l fun l => k (b :: l)
theorem bytesK_eq : ∀ (l : List UInt8) (k : List UInt8 → Bool), bytesK l k = k l
  | [], _ => rfl
  | b :: l, k => by rw [bytesK, byteK_eq, bytesK_eq l]

def natsK : List Nat → (List Nat → Bool) → Bool
  | [], k => k []
  | b :: l, k => natK b fun b => natsK l fun l => k (b :: l)
theorem natsK_eq : ∀ (l : List Nat) (k : List Nat → Bool), natsK l k = k l
  | [], _ => rfl
  | b :: l, k => by rw [natsK, natK_eq, natsK_eq l]

def valK (x : Value) (k : Value → Bool) : Bool := match x with
  | .int t n => kindK t fun t => intK n fun n => k (.int t n)
  | .bool b => boolK b fun b => k (.bool b)
  | x => k x
theorem valK_eq (x : Value) (k : Value → Bool) : valK x k = k x := by
  unfold valK
  split
  · rw [kindK_eq, intK_eq]
  · rw [boolK_eq]
  · rfl

def setK {α : Type} (f : Nat) : T α → Nat → α → (T α → Bool) → Bool :=
  Nat.rec (motive := fun _ => T α → Nat → α → (T α → Bool) → Bool) (fun _ _ _ k => k .e)
    (fun _ ih t i x k => T.rec (motive := fun _ => Bool)
      (Nat.rec (motive := fun _ => Bool) (k (.n .e (some x) .e)) (fun j _ => Bool.rec (motive := fun _ => Bool) (ih .e (Nat.div j 2) x fun r => k (.n .e none r)) (ih .e (Nat.div j 2) x fun l => k (.n l none .e)) (Nat.beq (Nat.mod j 2) 0)) i)
      (fun l v r _ _ => Nat.rec (motive := fun _ => Bool) (k (.n l (some x) r)) (fun j _ => Bool.rec (motive := fun _ => Bool) (ih r (Nat.div j 2) x fun r => k (.n l v r)) (ih l (Nat.div j 2) x fun l => k (.n l v r)) (Nat.beq (Nat.mod j 2) 0)) i) t) f

theorem setK_eq {α : Type} : ∀ (f : Nat) (t : T α) (i : Nat) (x : α) (k : T α → Bool), setK f t i x k = k (T.setF f t i (some x)) := by
  intro f
  induction f with
  | zero => intro t i x k; rfl
  | succ f ih =>
    intro t i x k
    cases t with
    | e => cases i with
      | zero => rfl
      | succ j =>
        rw [T.setF_eS]
        show Bool.rec (motive := fun _ => Bool) (setK f .e (j / 2) x fun r => k (.n .e none r)) (setK f .e (j / 2) x fun l => k (.n l none .e)) (Nat.beq (j % 2) 0) = _
        rw [ih, ih]
        cases Nat.beq (j % 2) 0 <;> rfl
    | n l v r => cases i with
      | zero => rfl
      | succ j =>
        rw [T.setF_nS]
        show Bool.rec (motive := fun _ => Bool) (setK f r (j / 2) x fun r => k (.n l v r)) (setK f l (j / 2) x fun l => k (.n l v r)) (Nat.beq (j % 2) 0) = _
        rw [ih, ih]
        cases Nat.beq (j % 2) 0 <;> rfl

/-! ### Renaming -/

/-- Where a number stands. -/
def posN (b : Nat) : List Nat → Nat → Option Nat
  | [], _ => none
  | x :: xs, i => bif Nat.beq x b then some i else posN b xs (Nat.succ i)

theorem posN_spec (b : Nat) : ∀ (l : List Nat) (i k : Nat), posN b l i = some k → i ≤ k ∧ l[k - i]? = some b := by
  intro l
  induction l with
  | nil => intro i k h; cases h
  | cons x xs ih =>
    intro i k h
    simp only [posN] at h
    cases hb : Nat.beq x b with
    | true =>
      rw [hb] at h
      injection h with h; subst h
      have := Nat.eq_of_beq_eq_true hb
      subst this
      exact ⟨Nat.le_refl _, by simp⟩
    | false =>
      rw [hb] at h
      obtain ⟨h1, h2⟩ := ih _ _ h
      refine ⟨Nat.le_of_succ_le h1, ?_⟩
      rw [show k - i = (k - (i + 1)) + 1 by omega, List.getElem?_cons_succ]
      exact h2

def ixN (n0 : Nat) (L : List Nat) (b : Nat) : Option Nat := bif Nat.blt b n0 then some b else posN b L n0

/-- The numbers' way back. -/
def backN (n0 : Nat) (L : List Nat) (k : Nat) : Nat := if k < n0 then k else L.getD (k - n0) 0

theorem ixN_spec {n0 : Nat} {L : List Nat} {b k : Nat} (h : ixN n0 L b = some k) : backN n0 L k = b ∧ k < n0 + L.length := by
  unfold ixN at h
  unfold backN
  cases hb : Nat.blt b n0 with
  | true =>
    rw [hb] at h
    injection h with h; subst h
    have : b < n0 := Nat.le_of_ble_eq_true hb
    exact ⟨by rw [if_pos this], by omega⟩
  | false =>
    rw [hb] at h
    obtain ⟨h1, h2⟩ := posN_spec b L n0 k h
    rw [if_neg (by omega), List.getD_eq_getElem?_getD, h2]
    have := (List.getElem?_eq_some_iff.1 h2).1
    exact ⟨rfl, by omega⟩

def renC (n0 : Nat) (L : List Nat) : SCap → Option SCap
  | .lit c => some (.lit c)
  | .sub b d => match ixN n0 L b with
    | some b => some (.sub b d)
    | none => none

mutual
def renV (n0 : Nat) (L : List Nat) : SV → Option SV
  | .v x => some (.v x)
  | .str l => some (.str l)
  | .ptr b o => match ixN n0 L b with
    | some b => some (.ptr b o)
    | none => none
  | .slc b o l c => match ixN n0 L b, renC n0 L c with
    | some b, some c => some (.slc b o l c)
    | _, _ => none
  | .mp b => match ixN n0 L b with
    | some b => some (.mp b)
    | none => none
  | .agg cs => match renVs n0 L cs with
    | some cs => some (.agg cs)
    | none => none
  | .tup cs => match renVs n0 L cs with
    | some cs => some (.tup cs)
    | none => none
  | .ifc t x => match renV n0 L x with
    | some x => some (.ifc t x)
    | none => none
  | .fn f cs => match renVs n0 L cs with
    | some cs => some (.fn f cs)
    | none => none
def renVs (n0 : Nat) (L : List Nat) : List SV → Option (List SV)
  | [] => some []
  | x :: xs => match renV n0 L x with
    | some x => match renVs n0 L xs with
      | some xs => some (x :: xs)
      | none => none
    | none => none
end

theorem renC_den {n0 : Nat} {L : List Nat} {ρ : Nat → Loc} {c c' : SCap} (h : renC n0 L c = some c') : c'.den (fun k => ρ (backN n0 L k)) = c.den ρ ∧ c'.lt (n0 + L.length) := by
  cases c with
  | lit c => simp only [renC, Option.some.injEq] at h; subst h; exact ⟨rfl, trivial⟩
  | sub b d =>
    simp only [renC] at h
    split at h
    · rename_i b' hb
      injection h with h; subst h
      obtain ⟨h1, h2⟩ := ixN_spec hb
      exact ⟨by simp [SCap.den, h1], h2⟩
    · cases h

mutual
theorem renV_den {n0 n : Nat} {L : List Nat} {ρ : Nat → Loc} : ∀ (x x' : SV), renV n0 L x = some x' → x.lt ρ n → x'.den (fun k => ρ (backN n0 L k)) = x.den ρ ∧ x'.lt (fun k => ρ (backN n0 L k)) (n0 + L.length)
  | .v x, x', h, _ => by simp only [renV, Option.some.injEq] at h; subst h; exact ⟨rfl, trivial⟩
  | .str l, x', h, _ => by simp only [renV, Option.some.injEq] at h; subst h; exact ⟨rfl, trivial⟩
  | .ptr b o, x', h, _ => by
    simp only [renV] at h
    split at h
    · rename_i b' hb
      injection h with h; subst h
      obtain ⟨h1, h2⟩ := ixN_spec hb
      exact ⟨by simp [SV.den, h1], h2⟩
    · cases h
  | .slc b o l c, x', h, hl => by
    simp only [renV] at h
    split at h
    · rename_i b' c' hb hc
      injection h with h; subst h
      obtain ⟨h1, h2⟩ := ixN_spec hb
      obtain ⟨h3, h4⟩ := renC_den (ρ := ρ) hc
      exact ⟨by simp [SV.den, h1, h3], h2, h4, by rw [h3]; exact hl.2.2⟩
    · cases h
  | .mp b, x', h, _ => by
    simp only [renV] at h
    split at h
    · rename_i b' hb
      injection h with h; subst h
      obtain ⟨h1, h2⟩ := ixN_spec hb
      exact ⟨by simp [SV.den, h1], h2⟩
    · cases h
  | .agg cs, x', h, hl => by
    simp only [renV] at h
    split at h
    · rename_i cs' hc
      injection h with h; subst h
      obtain ⟨h1, h2⟩ := renVs_den cs cs' hc hl
      exact ⟨by simp only [SV.den, h1], h2⟩
    · cases h
  | .tup cs, x', h, hl => by
    simp only [renV] at h
    split at h
    · rename_i cs' hc
      injection h with h; subst h
      obtain ⟨h1, h2⟩ := renVs_den cs cs' hc hl
      exact ⟨by simp only [SV.den, h1], h2⟩
    · cases h
  | .ifc t x, x', h, hl => by
    simp only [renV] at h
    split at h
    · rename_i y hy
      injection h with h; subst h
      obtain ⟨h1, h2⟩ := renV_den x y hy hl
      exact ⟨by simp only [SV.den, h1], h2⟩
    · cases h
  | .fn f cs, x', h, hl => by
    simp only [renV] at h
    split at h
    · rename_i cs' hc
      injection h with h; subst h
      obtain ⟨h1, h2⟩ := renVs_den cs cs' hc hl
      exact ⟨by simp only [SV.den, h1], h2⟩
    · cases h
theorem renVs_den {n0 n : Nat} {L : List Nat} {ρ : Nat → Loc} : ∀ (l l' : List SV), renVs n0 L l = some l' → SV.lts ρ n l → SV.dens (fun k => ρ (backN n0 L k)) l' = SV.dens ρ l ∧ SV.lts (fun k => ρ (backN n0 L k)) (n0 + L.length) l'
  | [], l', h, _ => by simp only [renVs, Option.some.injEq] at h; subst h; exact ⟨rfl, trivial⟩
  | x :: xs, l', h, hl => by
    simp only [renVs] at h
    split at h
    · rename_i x' hx
      split at h
      · rename_i xs' hxs
        injection h with h; subst h
        obtain ⟨h1, h2⟩ := renV_den x x' hx hl.1
        obtain ⟨h3, h4⟩ := renVs_den xs xs' hxs hl.2
        exact ⟨by simp only [SV.dens, h1, h3], h2, h4⟩
      · cases h
    · cases h
end

def renEs (n0 : Nat) (L : List Nat) : List (SV × SV × Nat) → Option (List (SV × SV × Nat))
  | [] => some []
  | e :: es => match renV n0 L e.1 with
    | some k => match renV n0 L e.2.1 with
      | some v => match renEs n0 L es with
        | some es => some ((k, v, e.2.2) :: es)
        | none => none
      | none => none
    | none => none

def renB (n0 : Nat) (L : List Nat) : SBlk → Option SBlk
  | .cells cs es τ => match renVs n0 L cs with
    | some cs => some (.cells cs es τ)
    | none => none
  | .map es clock => match renEs n0 L es with
    | some es => some (.map es clock)
    | none => none
  | .siter s pos => some (.siter s pos)
  | .miter m since seen last => match ixN n0 L m with
    | some m => some (.miter m since seen last)
    | none => none

theorem renEs_den {n0 n : Nat} {L : List Nat} {ρ : Nat → Loc} : ∀ (es es' : List (SV × SV × Nat)), renEs n0 L es = some es' → (∀ e ∈ es, e.1.lt ρ n ∧ e.2.1.lt ρ n) →
    es'.map (entDen fun k => ρ (backN n0 L k)) = es.map (entDen ρ) ∧ ∀ e ∈ es', e.1.lt (fun k => ρ (backN n0 L k)) (n0 + L.length) ∧ e.2.1.lt (fun k => ρ (backN n0 L k)) (n0 + L.length) := by
  intro es
  induction es with
  | nil => intro es' h _; simp only [renEs, Option.some.injEq] at h; subst h; exact ⟨rfl, fun _ h => by cases h⟩
  | cons e es ih =>
    intro es' h hl
    simp only [renEs] at h
    split at h
    · rename_i k hk
      split at h
      · rename_i v hv
        split at h
        · rename_i es1 hes
          injection h with h; subst h
          obtain ⟨l1, l2⟩ := hl e List.mem_cons_self
          obtain ⟨h1, h2⟩ := renV_den _ _ hk l1
          obtain ⟨h3, h4⟩ := renV_den _ _ hv l2
          obtain ⟨h5, h6⟩ := ih es1 hes fun e he => hl e (List.mem_cons_of_mem _ he)
          refine ⟨by simp [entDen, h1, h3, h5], fun e' he => ?_⟩
          rcases List.mem_cons.1 he with rfl | he
          · exact ⟨h2, h4⟩
          · exact h6 e' he
        · cases h
      · cases h
    · cases h

theorem renB_rel {n0 n : Nat} {L : List Nat} {ρ : Nat → Loc} {B B' : SBlk} (h : renB n0 L B = some B') (hl : B.lt ρ n) {loc : Loc} {w : World} (hr : B.Rel ρ loc w) :
    B'.lt (fun k => ρ (backN n0 L k)) (n0 + L.length) ∧ B'.Rel (fun k => ρ (backN n0 L k)) loc w := by
  cases B with
  | cells cs es τ =>
    simp only [renB] at h
    split at h
    · rename_i cs' hc
      injection h with h; subst h
      obtain ⟨h1, h2⟩ := renVs_den cs cs' hc (lts_iff.2 hl)
      refine ⟨lts_iff.1 h2, ?_⟩
      obtain ⟨c, t, fz, k1, k2, k3, k4, k5⟩ := hr
      rw [dens_eq, dens_eq] at h1
      have hl1 : cs'.length = cs.length := by
        have := congrArg List.length h1
        simpa using this
      refine ⟨c, t, fz, k1, fun i x hx => ?_, k3, ?_, by rw [hl1]; exact k5⟩
      · have e1 : (cs'.map (SV.den fun k => ρ (backN n0 L k)))[i]? = some (x.den fun k => ρ (backN n0 L k)) := by rw [List.getElem?_map, hx]; rfl
        rw [h1, List.getElem?_map] at e1
        cases hy : cs[i]? with
        | none => rw [hy] at e1; cases e1
        | some y =>
          rw [hy] at e1
          injection e1 with e1
          rw [← e1]; exact k2 i y hy
      · have : cs'.length = cs.length := by
          have := congrArg List.length h1
          simpa using this
        rw [this]; exact k4
    · cases h
  | map es clock =>
    simp only [renB] at h
    split at h
    · rename_i es' hes
      injection h with h; subst h
      obtain ⟨h1, h2⟩ := renEs_den es es' hes hl
      refine ⟨h2, ?_⟩
      show w.heap[loc.blk]? = some (.map (es'.map (entDen fun k => ρ (backN n0 L k))).toArray clock)
      rw [h1]; exact hr
    · cases h
  | siter s pos => simp only [renB, Option.some.injEq] at h; subst h; exact ⟨trivial, hr⟩
  | miter m since seen last =>
    simp only [renB] at h
    split at h
    · rename_i m' hm
      injection h with h; subst h
      obtain ⟨h1, h2⟩ := ixN_spec hm
      refine ⟨h2, hr.1, ?_⟩
      show w.heap[loc.blk]? = some (.mapIter (some (ρ (backN n0 L m')).blk) since seen.toArray last)
      rw [h1]; exact hr.2
    · cases h

/-- The blocks of some numbers, renamed. -/
def renH (n0 : Nat) (L : List Nat) (H : T SBlk) : List Nat → T SBlk → Option (T SBlk)
  | [], acc => some acc
  | b :: bs, acc => match H.get b with
    | none => renH n0 L H bs acc
    | some B => match ixN n0 L b with
      | none => none
      | some k => match renB n0 L B with
        | none => none
        | some B' => renH n0 L H bs (acc.set k B')

theorem renH_spec {n0 : Nat} {L : List Nat} {H : T SBlk} : ∀ (bs : List Nat) (acc acc' : T SBlk), renH n0 L H bs acc = some acc' →
    (∀ k B', acc.get k = some B' → ∃ b B, H.get b = some B ∧ ixN n0 L b = some k ∧ renB n0 L B = some B') → ∀ k B', acc'.get k = some B' → ∃ b B, H.get b = some B ∧ ixN n0 L b = some k ∧ renB n0 L B = some B' := by
  intro bs
  induction bs with
  | nil => intro acc acc' h hi; simp only [renH, Option.some.injEq] at h; subst h; exact hi
  | cons b bs ih =>
    intro acc acc' h hi
    simp only [renH] at h
    split at h
    · exact ih _ _ h hi
    · rename_i B hB
      split at h
      · cases h
      · rename_i k hk
        split at h
        · cases h
        · rename_i B' hB'
          refine ih _ _ h fun k2 B2 h2 => ?_
          rcases T.get_set h2 with ⟨rfl, rfl⟩ | ⟨_, h2⟩
          · exact ⟨b, B, hB, hk, hB'⟩
          · exact hi k2 B2 h2

/-- What is renamed is as right as what was. -/
theorem HRel.ren {ρ : Nat → Loc} {h : HS} {w : World} (R : HRel ρ h w) {n0 : Nat} {L : List Nat} {H' : T SBlk} (hH : ∀ k B', H'.get k = some B' → ∃ b B, h.H.get b = some B ∧ ixN n0 L b = some k ∧ renB n0 L B = some B') :
    HRel (fun k => ρ (backN n0 L k)) ⟨H', n0 + L.length, h.M⟩ w where
  os := R.os
  out := R.out
  tape := R.tape
  mem := R.mem
  blk := fun k B' hk => by
    obtain ⟨b, B, h1, h2, h3⟩ := hH k B' hk
    obtain ⟨_, k2, k3⟩ := R.blk b B h1
    obtain ⟨g1, g2⟩ := ixN_spec h2
    obtain ⟨f1, f2⟩ := renB_rel h3 k2 k3
    refine ⟨g2, f1, ?_⟩
    show B'.Rel _ (ρ (backN n0 L k)) w
    rw [g1]; exact f2
  inj := fun k k' B B' hk hk' he => by
    obtain ⟨b, C, h1, h2, _⟩ := hH k B hk
    obtain ⟨b', C', h1', h2', _⟩ := hH k' B' hk'
    obtain ⟨g1, _⟩ := ixN_spec h2
    obtain ⟨g1', _⟩ := ixN_spec h2'
    have he : (ρ (backN n0 L k)).blk = (ρ (backN n0 L k')).blk := he
    rw [g1, g1'] at he
    have := R.inj b b' C C' h1 h1' he
    subst this
    rw [h2] at h2'
    injection h2'
  apart := fun k B hk => by
    obtain ⟨b, C, h1, h2, _⟩ := hH k B hk
    obtain ⟨g1, _⟩ := ixN_spec h2
    show h.M.blk (ρ (backN n0 L k)).blk = none
    rw [g1]; exact R.apart b C h1
  are := R.are
  aprA := fun k B hk => by
    obtain ⟨b, C, h1, h2, _⟩ := hH k B hk
    obtain ⟨g1, _⟩ := ixN_spec h2
    show h.M.A.blk (ρ (backN n0 L k)).blk = none
    rw [g1]; exact R.aprA b C h1
  disj := R.disj

/-! ### The same, laid out in one form -/

def ixK (n0 : Nat) (L : List Nat) (b : Nat) (k : Nat → Bool) : Bool := match ixN n0 L b with
  | some b => natK b k
  | none => false

def optB {α : Type} (x : Option α) (k : α → Bool) : Bool := match x with
  | some x => k x
  | none => false

theorem ixK_eq (n0 : Nat) (L : List Nat) (b : Nat) (k : Nat → Bool) : ixK n0 L b k = optB (ixN n0 L b) k := by
  unfold ixK optB
  cases ixN n0 L b with
  | none => rfl
  | some b => exact natK_eq _ _

def capK (n0 : Nat) (L : List Nat) (c : SCap) (k : SCap → Bool) : Bool := match c with
  | .lit c => natK c fun c => k (.lit c)
  | .sub b d => ixK n0 L b fun b => natK d fun d => k (.sub b d)

theorem capK_eq (n0 : Nat) (L : List Nat) (c : SCap) (k : SCap → Bool) : capK n0 L c k = optB (renC n0 L c) k := by
  cases c with
  | lit c => simp only [capK, natK_eq, renC, optB]
  | sub b d =>
    simp only [capK, ixK_eq, natK_eq, renC]
    cases ixN n0 L b <;> rfl

mutual
def renVK (n0 : Nat) (L : List Nat) : SV → (SV → Bool) → Bool
  | .v x, k => k (.v x)
  | .str l, k => k (.str l)
  | .ptr b o, k => ixK n0 L b fun b => natK o fun o => k (.ptr b o)
  | .slc b o l c, k => ixK n0 L b fun b => capK n0 L c fun c => natK o fun o => natK l fun l => k (.slc b o l c)
  | .mp b, k => ixK n0 L b fun b => k (.mp b)
  | .agg cs, k => renVsK n0 L cs fun cs => k (.agg cs)
  | .tup cs, k => renVsK n0 L cs fun cs => k (.tup cs)
  | .ifc t x, k => natK t fun t => renVK n0 L x fun x => k (.ifc t x)
  | .fn f cs, k => natK f fun f => renVsK n0 L cs fun cs => k (.fn f cs)
def renVsK (n0 : Nat) (L : List Nat) : List SV → (List SV → Bool) → Bool
  | [], k => k []
  | x :: xs, k => renVK n0 L x fun x => renVsK n0 L xs fun xs => k (x :: xs)
end

mutual
theorem renVK_eq (n0 : Nat) (L : List Nat) : ∀ (x : SV) (k : SV → Bool), renVK n0 L x k = optB (renV n0 L x) k
  | .v x, k => by simp only [renVK, renV, optB]
  | .str l, k => by simp only [renVK, renV, optB]
  | .ptr b o, k => by simp only [renVK, ixK_eq, natK_eq, renV]; cases ixN n0 L b <;> rfl
  | .slc b o l c, k => by simp only [renVK, ixK_eq, capK_eq, natK_eq, renV]; cases ixN n0 L b <;> cases renC n0 L c <;> rfl
  | .mp b, k => by simp only [renVK, ixK_eq, renV]; cases ixN n0 L b <;> rfl
  | .agg cs, k => by rw [renVK, renVsK_eq n0 L cs]; simp only [renV]; cases renVs n0 L cs <;> rfl
  | .tup cs, k => by rw [renVK, renVsK_eq n0 L cs]; simp only [renV]; cases renVs n0 L cs <;> rfl
  | .ifc t x, k => by rw [renVK, natK_eq, renVK_eq n0 L x]; simp only [renV]; cases renV n0 L x <;> rfl
  | .fn f cs, k => by rw [renVK, natK_eq, renVsK_eq n0 L cs]; simp only [renV]; cases renVs n0 L cs <;> rfl
theorem renVsK_eq (n0 : Nat) (L : List Nat) : ∀ (l : List SV) (k : List SV → Bool), renVsK n0 L l k = optB (renVs n0 L l) k
  | [], k => by simp only [renVsK, renVs, optB]
  | x :: xs, k => by
    rw [renVsK, renVK_eq n0 L x]
    simp only [renVs]
    cases renV n0 L x with
    | none => rfl
    | some y =>
      show renVsK n0 L xs _ = _
      rw [renVsK_eq n0 L xs]
      cases renVs n0 L xs <;> rfl
end

def renEsK (n0 : Nat) (L : List Nat) : List (SV × SV × Nat) → (List (SV × SV × Nat) → Bool) → Bool
  | [], k => k []
  | e :: es, k => renVK n0 L e.1 fun a => renVK n0 L e.2.1 fun b => natK e.2.2 fun c => renEsK n0 L es fun es => k ((a, b, c) :: es)

theorem renEsK_eq (n0 : Nat) (L : List Nat) : ∀ (l : List (SV × SV × Nat)) (k : List (SV × SV × Nat) → Bool), renEsK n0 L l k = optB (renEs n0 L l) k := by
  intro l
  induction l with
  | nil => intro k; rfl
  | cons e es ih =>
    intro k
    simp only [renEsK, renEs, renVK_eq, natK_eq, ih]
    cases renV n0 L e.1 with
    | none => rfl
    | some a => cases renV n0 L e.2.1 with
      | none => rfl
      | some b => cases renEs n0 L es <;> rfl

def renBK (n0 : Nat) (L : List Nat) (B : SBlk) (k : SBlk → Bool) : Bool := match B with
  | .cells cs es τ => renVsK n0 L cs fun cs => natK es fun es => natK τ fun τ => k (.cells cs es τ)
  | .map es clock => renEsK n0 L es fun es => natK clock fun clock => k (.map es clock)
  | .siter s pos => bytesK s fun s => natK pos fun pos => k (.siter s pos)
  | .miter m since seen last => ixK n0 L m fun m => natK since fun since => natsK seen fun seen => natK last fun last => k (.miter m since seen last)

theorem renBK_eq (n0 : Nat) (L : List Nat) (B : SBlk) (k : SBlk → Bool) : renBK n0 L B k = optB (renB n0 L B) k := by
  cases B with
  | cells cs es τ => simp only [renBK, renVsK_eq, natK_eq, renB]; cases renVs n0 L cs <;> rfl
  | map es clock => simp only [renBK, renEsK_eq, natK_eq, renB]; cases renEs n0 L es <;> rfl
  | siter s pos => simp only [renBK, bytesK_eq, natK_eq, renB, optB]
  | miter m since seen last => simp only [renBK, ixK_eq, natK_eq, natsK_eq, renB]; cases ixN n0 L m <;> rfl

/-! Old blocks that speak of old ones alone stay as they are. -/

def cleanC (n0 : Nat) (c : SCap) : Bool := match c with
  | .lit _ => true
  | .sub b _ => Nat.blt b n0

def cleanV (n0 : Nat) (x : SV) : Bool := match x with
  | .v _ => true
  | .str _ => true
  | .ptr b _ => Nat.blt b n0
  | .slc b _ _ c => bif Nat.blt b n0 then cleanC n0 c else false
  | .mp b => Nat.blt b n0
  | _ => false

def cleanL (n0 : Nat) (l : List SV) : Bool := List.rec (motive := fun _ => Bool) true (fun x _ ih => bif cleanV n0 x then ih else false) l

def cleanB (n0 : Nat) (B : SBlk) : Bool := match B with
  | .cells cs _ _ => cleanL n0 cs
  | _ => false

theorem ixN_old {n0 b : Nat} (L : List Nat) (h : Nat.blt b n0 = true) : ixN n0 L b = some b := by unfold ixN; rw [h]; rfl

theorem cleanV_ren {n0 : Nat} (L : List Nat) {x : SV} (h : cleanV n0 x = true) : renV n0 L x = some x := by
  cases x with
  | v x => rfl
  | str l => rfl
  | ptr b o => simp only [cleanV] at h; simp only [renV, ixN_old L h]
  | slc b o l c =>
    simp only [cleanV] at h
    cases hb : Nat.blt b n0 with
    | false => rw [hb] at h; exact absurd h Bool.false_ne_true
    | true =>
      rw [hb] at h
      simp only [cond_true] at h
      cases c with
      | lit c => simp only [renV, ixN_old L hb, renC]
      | sub b' d => simp only [cleanC] at h; simp only [renV, ixN_old L hb, renC, ixN_old L h]
  | mp b => simp only [cleanV] at h; simp only [renV, ixN_old L h]
  | _ => exact absurd h Bool.false_ne_true

theorem cleanL_ren {n0 : Nat} (L : List Nat) : ∀ {l : List SV}, cleanL n0 l = true → renVs n0 L l = some l := by
  intro l
  induction l with
  | nil => intro _; rfl
  | cons x l ih =>
    intro h
    have h : (bif cleanV n0 x then cleanL n0 l else false) = true := h
    cases hx : cleanV n0 x with
    | false => rw [hx] at h; exact absurd h Bool.false_ne_true
    | true =>
      rw [hx] at h
      simp only [renVs, cleanV_ren L hx, ih h]

theorem cleanB_ren {n0 : Nat} (L : List Nat) {B : SBlk} (h : cleanB n0 B = true) : renB n0 L B = some B := by
  cases B with
  | cells cs es τ => simp only [cleanB] at h; simp only [renB, cleanL_ren L h]
  | _ => exact absurd h Bool.false_ne_true

def putK (n0 : Nat) (L : List Nat) (B : SBlk) (k : SBlk → Bool) : Bool := bif cleanB n0 B then k B else renBK n0 L B k

theorem putK_eq (n0 : Nat) (L : List Nat) (B : SBlk) (k : SBlk → Bool) : putK n0 L B k = optB (renB n0 L B) k := by
  unfold putK
  cases h : cleanB n0 B with
  | true => rw [cleanB_ren L h]; rfl
  | false => exact renBK_eq n0 L B k

def renHK (n0 : Nat) (L : List Nat) (H : T SBlk) : List Nat → T SBlk → (T SBlk → Bool) → Bool
  | [], acc, k => k acc
  | b :: bs, acc, k => match H.get b with
    | none => renHK n0 L H bs acc k
    | some B => ixK n0 L b fun i => putK n0 L B fun B' => setK 32 acc i B' fun acc => renHK n0 L H bs acc k

theorem renHK_eq (n0 : Nat) (L : List Nat) (H : T SBlk) : ∀ (bs : List Nat) (acc : T SBlk) (k : T SBlk → Bool), renHK n0 L H bs acc k = optB (renH n0 L H bs acc) k := by
  intro bs
  induction bs with
  | nil => intro acc k; rfl
  | cons b bs ih =>
    intro acc k
    simp only [renHK, renH, ixK_eq, putK_eq, setK_eq, ih]
    cases H.get b with
    | none => rfl
    | some B => cases ixN n0 L b with
      | none => rfl
      | some i => cases hB : renB n0 L B with
        | none => simp only [optB, hB]
        | some B' => simp only [optB, hB]; rfl

/-! ### What is reached -/

def addN (n0 b : Nat) (L : List Nat) : List Nat := bif Nat.blt b n0 then L else bif memN b L then L else L ++ [b]

def idsC (n0 : Nat) (c : SCap) (L : List Nat) : List Nat := match c with
  | .lit _ => L
  | .sub b _ => addN n0 b L

mutual
def idsV (n0 : Nat) : SV → List Nat → List Nat
  | .v _, L => L
  | .str _, L => L
  | .ptr b _, L => addN n0 b L
  | .slc b _ _ c, L => idsC n0 c (addN n0 b L)
  | .mp b, L => addN n0 b L
  | .agg cs, L => idsVs n0 cs L
  | .tup cs, L => idsVs n0 cs L
  | .ifc _ x, L => idsV n0 x L
  | .fn _ cs, L => idsVs n0 cs L
def idsVs (n0 : Nat) : List SV → List Nat → List Nat
  | [], L => L
  | x :: xs, L => idsVs n0 xs (idsV n0 x L)
end

def idsV1 (n0 : Nat) (x : SV) (L : List Nat) : List Nat := match x with
  | .v _ => L
  | .str _ => L
  | .ptr b _ => addN n0 b L
  | x => idsV n0 x L

def idsL (n0 : Nat) (l : List SV) : List Nat → List Nat := List.rec (motive := fun _ => List Nat → List Nat) (fun L => L) (fun x _ ih L => ih (idsV1 n0 x L)) l

def idsE (n0 : Nat) : List (SV × SV × Nat) → List Nat → List Nat
  | [], L => L
  | e :: es, L => idsE n0 es (idsV n0 e.2.1 (idsV n0 e.1 L))

def idsB (n0 : Nat) (B : SBlk) (L : List Nat) : List Nat := match B with
  | .cells cs _ _ => idsL n0 cs L
  | .map es _ => idsE n0 es L
  | .siter _ _ => L
  | .miter m _ _ _ => addN n0 m L

def idsH (n0 : Nat) (H : T SBlk) : List Nat → List Nat → List Nat
  | [], L => L
  | b :: bs, L => match H.get b with
    | none => idsH n0 H bs L
    | some B => idsH n0 H bs (idsB n0 B L)

def closeL (n0 : Nat) (H : T SBlk) : Nat → Nat → List Nat → List Nat
  | 0, _, L => L
  | f + 1, p, L => match nth L p with
    | none => L
    | some b => match H.get b with
      | none => closeL n0 H f (Nat.succ p) L
      | some B => closeL n0 H f (Nat.succ p) (idsB n0 B L)

def upN (n : Nat) : List Nat := Nat.rec (motive := fun _ => List Nat) [] (fun m ih => m :: ih) n

/-- Reckoned once, wherever it is met again. -/
def memo (b : Bool) : Bool := bif b then true else false
theorem memo_eq (b : Bool) : memo b = b := by cases b <;> rfl

def memK (M : Mem) (k : Mem → Bool) : Bool := match M with
  | ⟨blk, os, out, tape, gl, glok, X⟩ => k ⟨blk, os, out, tape, gl, glok, X⟩
theorem memK_eq (M : Mem) (k : Mem → Bool) : memK M k = k M := by cases M; rfl

/-- A state, in its one form. -/
def canonK (n1 : Nat) (v : SV) (h : HS) (K : SV → HS → Bool) : Bool :=
  natK n1 fun n0 => memK h.M fun M => natsK (closeL n0 h.H h.nx 0 (idsH n0 h.H (upN n0) (idsV n0 v []))) fun L =>
    renVK n0 L v fun v' => renHK n0 L h.H (upN n0 ++ L) .e fun H' => natK (n0 + L.length) fun nx => memo (K v' ⟨H', nx, M⟩)

theorem canonK_post {ρ0 ρ : Nat → Loc} {h0 h : HS} {v : SV} {K : SV → HS → Bool} {w' : World} (hk : canonK h0.nx v h K = true) (hv : v.lt ρ h.nx) (R : HRel ρ h w') (hx : Ext ρ0 ρ h0.nx) (hm : h0.M.le h.M) :
    Post ρ0 h0 K (v.den ρ) w' := by
  unfold canonK at hk
  rw [natK_eq, memK_eq, natsK_eq] at hk
  generalize closeL h0.nx h.H h.nx 0 (idsH h0.nx h.H (upN h0.nx) (idsV h0.nx v [])) = L at hk
  rw [renVK_eq] at hk
  cases hr : renV h0.nx L v with
  | none => rw [hr] at hk; exact absurd hk Bool.false_ne_true
  | some v' =>
    rw [hr] at hk
    have hk : renHK h0.nx L h.H (upN h0.nx ++ L) .e (fun H' => natK (h0.nx + L.length) fun nx => memo (K v' ⟨H', nx, h.M⟩)) = true := hk
    rw [renHK_eq] at hk
    cases hh : renH h0.nx L h.H (upN h0.nx ++ L) .e with
    | none => rw [hh] at hk; exact absurd hk Bool.false_ne_true
    | some H' =>
      rw [hh] at hk
      have hk : (natK (h0.nx + L.length) fun nx => memo (K v' ⟨H', nx, h.M⟩)) = true := hk
      rw [natK_eq, memo_eq] at hk
      have hH := renH_spec _ _ _ hh (fun k B' hg => by rw [T.get_e] at hg; cases hg)
      obtain ⟨d1, d2⟩ := renV_den (ρ := ρ) v v' hr hv
      refine ⟨v', ⟨H', h0.nx + L.length, h.M⟩, fun k => ρ (backN h0.nx L k), hk, d1.symm, d2, R.ren hH, fun b hb => ?_, Nat.le_add_right _ _, hm⟩
      show ρ (backN h0.nx L b) = ρ0 b
      unfold backN
      rw [if_pos hb]
      exact hx b hb

/-! ### Slots and blocks that are wanted no more, forgotten -/

def liveK (tm : T SV) : List Nat → T SV → List Nat → (T SV → List Nat → Bool) → Bool
  | [], acc, L, k => k acc L
  | i :: is, acc, L, k => match tm.get i with
    | none => liveK tm is acc L k
    | some x => setK 32 acc i x fun acc => liveK tm is acc (idsV 0 x L) k

theorem liveK_sub {tm : T SV} : ∀ {is : List Nat} {acc : T SV} {L : List Nat} {k : T SV → List Nat → Bool}, liveK tm is acc L k = true → (∀ i x, acc.get i = some x → tm.get i = some x) →
    ∃ acc' L', k acc' L' = true ∧ ∀ i x, acc'.get i = some x → tm.get i = some x := by
  intro is
  induction is with
  | nil => intro acc L k h hs; exact ⟨acc, L, h, hs⟩
  | cons i is ih =>
    intro acc L k h hs
    simp only [liveK] at h
    split at h
    · exact ih h hs
    · rename_i x hx
      rw [setK_eq] at h
      refine ih h fun j y hj => ?_
      rcases T.get_set hj with ⟨rfl, rfl⟩ | ⟨_, hj⟩
      · exact hx
      · exact hs j y hj

def keepK (H : T SBlk) : List Nat → T SBlk → (T SBlk → Bool) → Bool
  | [], acc, k => k acc
  | b :: bs, acc, k => match H.get b with
    | none => keepK H bs acc k
    | some B => setK 32 acc b B fun acc => keepK H bs acc k

theorem keepK_sub {H : T SBlk} : ∀ {bs : List Nat} {acc : T SBlk} {k : T SBlk → Bool}, keepK H bs acc k = true → (∀ b B, acc.get b = some B → H.get b = some B) →
    ∃ acc', k acc' = true ∧ ∀ b B, acc'.get b = some B → H.get b = some B := by
  intro bs
  induction bs with
  | nil => intro acc k h hs; exact ⟨acc, h, hs⟩
  | cons b bs ih =>
    intro acc k h hs
    simp only [keepK] at h
    split at h
    · exact ih h hs
    · rename_i B hB
      rw [setK_eq] at h
      refine ih h fun j y hj => ?_
      rcases T.get_set hj with ⟨rfl, rfl⟩ | ⟨_, hj⟩
      · exact hB
      · exact hs j y hj

/-- These slots alone, and what they reach. -/
def gcK (live : List Nat) (tm : T SV) (h : HS) (F : T SV → HS → Bool) : Bool :=
  liveK tm live .e [] fun tm L => natsK (closeL 0 h.H h.nx 0 L) fun L => keepK h.H L .e fun H => natK h.nx fun nx => memK h.M fun M => memo (F tm ⟨H, nx, M⟩)

theorem gcK_sub {live : List Nat} {tm : T SV} {h : HS} {F : T SV → HS → Bool} (hk : gcK live tm h F = true) :
    ∃ tm' H', F tm' ⟨H', h.nx, h.M⟩ = true ∧ (∀ i x, tm'.get i = some x → tm.get i = some x) ∧ ∀ b B, H'.get b = some B → h.H.get b = some B := by
  unfold gcK at hk
  obtain ⟨tm', L, hk, h1⟩ := liveK_sub hk (fun i x h => by rw [T.get_e] at h; cases h)
  rw [natsK_eq] at hk
  obtain ⟨H', hk, h2⟩ := keepK_sub hk (fun i x h => by rw [T.get_e] at h; cases h)
  rw [natK_eq, memK_eq, memo_eq] at hk
  exact ⟨tm', H', hk, h1, h2⟩

theorem HRel.less {ρ : Nat → Loc} {h : HS} {w : World} (R : HRel ρ h w) {H' : T SBlk} (hs : ∀ b B, H'.get b = some B → h.H.get b = some B) : HRel ρ ⟨H', h.nx, h.M⟩ w :=
  ⟨R.os, R.out, R.tape, R.mem, fun b B hb => R.blk b B (hs b B hb), fun b b' B B' hb hb' he => R.inj b b' B B' (hs b B hb) (hs b' B' hb') he, fun b B hb => R.apart b B (hs b B hb), R.are, fun b B hb => R.aprA b B (hs b B hb), R.disj⟩

/-! ### A state in the midst of a function, in one form -/

def slotIds (n0 : Nat) (tm : T SV) : List Nat → List Nat → List Nat
  | [], L => L
  | i :: is, L => match tm.get i with
    | none => slotIds n0 tm is L
    | some x => slotIds n0 tm is (idsV n0 x L)

def renTK (n0 : Nat) (L : List Nat) (tm : T SV) : List Nat → T SV → (T SV → Bool) → Bool
  | [], acc, k => k acc
  | i :: is, acc, k => match tm.get i with
    | none => renTK n0 L tm is acc k
    | some x => renVK n0 L x fun x' => setK 32 acc i x' fun acc => renTK n0 L tm is acc k

theorem renTK_spec {n0 : Nat} {L : List Nat} {tm : T SV} : ∀ {is : List Nat} {acc : T SV} {k : T SV → Bool}, renTK n0 L tm is acc k = true →
    (∀ j y, acc.get j = some y → ∃ x, tm.get j = some x ∧ renV n0 L x = some y) → ∃ acc', k acc' = true ∧ ∀ j y, acc'.get j = some y → ∃ x, tm.get j = some x ∧ renV n0 L x = some y := by
  intro is
  induction is with
  | nil => intro acc k h hs; exact ⟨acc, h, hs⟩
  | cons i is ih =>
    intro acc k h hs
    simp only [renTK] at h
    split at h
    · exact ih h hs
    · rename_i x hx
      rw [renVK_eq] at h
      cases hr : renV n0 L x with
      | none => rw [hr] at h; exact absurd h Bool.false_ne_true
      | some x' =>
        rw [hr] at h
        have h : setK 32 acc i x' (fun acc => renTK n0 L tm is acc k) = true := h
        rw [setK_eq] at h
        refine ih h fun j y hj => ?_
        rcases T.get_set hj with ⟨rfl, rfl⟩ | ⟨_, hj⟩
        · exact ⟨x, hx, hr⟩
        · exact hs j y hj

/-- A state in its one form, the slots with it: blocks from n1 on are counted anew. -/
def canonT (n1 sz : Nat) (tm : T SV) (h : HS) (F : T SV → HS → Bool) : Bool :=
  natK n1 fun n0 => memK h.M fun M => natsK (closeL n0 h.H h.nx 0 (slotIds n0 tm (upN sz) (idsH n0 h.H (upN n0) []))) fun L =>
    renTK n0 L tm (upN sz) .e fun tm' => renHK n0 L h.H (upN n0 ++ L) .e fun H' => natK (n0 + L.length) fun nx => memo (F tm' ⟨H', nx, M⟩)

theorem canonT_goes {ρ0 ρ : Nat → Loc} {h0 h : HS} {sz : Nat} {tm : T SV} {F : T SV → HS → Bool} {a : Act} {w' : World} (hk : canonT h0.nx sz tm h F = true) (A : ARel dfs ρ tm sz h.nx a) (R : HRel ρ h w') (hx : Ext ρ0 ρ h0.nx) (hm : h0.M.le h.M) :
    Goes dfs ρ0 h0 sz F a w' := by
  unfold canonT at hk
  rw [natK_eq, memK_eq, natsK_eq] at hk
  generalize closeL h0.nx h.H h.nx 0 (slotIds h0.nx tm (upN sz) (idsH h0.nx h.H (upN h0.nx) [])) = L at hk
  obtain ⟨tm', hk, htm⟩ := renTK_spec hk (fun j y h => by rw [T.get_e] at h; cases h)
  rw [renHK_eq] at hk
  cases hh : renH h0.nx L h.H (upN h0.nx ++ L) .e with
  | none => rw [hh] at hk; exact absurd hk Bool.false_ne_true
  | some H' =>
    rw [hh] at hk
    have hk : (natK (h0.nx + L.length) fun nx => memo (F tm' ⟨H', nx, h.M⟩)) = true := hk
    rw [natK_eq, memo_eq] at hk
    have hH := renH_spec _ _ _ hh (fun k B' hg => by rw [T.get_e] at hg; cases hg)
    refine ⟨tm', ⟨H', h0.nx + L.length, h.M⟩, fun k => ρ (backN h0.nx L k), hk, ⟨A.size, fun i y hi => ?_, A.defers⟩, R.ren hH, fun b hb => ?_, Nat.le_add_right _ _, hm⟩
    · obtain ⟨x, hx', hr⟩ := htm i y hi
      obtain ⟨l1, l2⟩ := A.at_ i x hx'
      obtain ⟨d1, d2⟩ := renV_den (ρ := ρ) x y hr l1
      exact ⟨d2, by rw [l2, d1]⟩
    · show ρ (backN h0.nx L b) = ρ0 b
      unfold backN
      rw [if_pos hb]
      exact hx b hb

/-- Is there but one order? -/
def oneWay : DPlan → Bool
  | .done => true
  | .stop => true
  | .take _ _ _ r => oneWay r
  | .eff _ _ _ _ q a => match a with
    | .stop => oneWay q
    | _ => false

end
end Go.Sx

namespace Go.Sx
noncomputable section
variable {dfs : List Deferred}

inductive SX where
  | nrm
  | ext (id : Nat)
  | ret
  | pnc (x : SV)

abbrev KT := SX → T SV → HS → Bool

/-- A contract of a function, as a transformer. -/
abbrev CT := List SV → HS → (SV → HS → Bool) → Bool

def resV (P : Program) (tm : T SV) (h : HS) : List ResultVar → Option (List SV)
  | [] => some []
  | r :: rs => match (match r with
      | .tmp t => tm.get t
      | .cell x t => match tm.get x with
        | some x => loadV P h t x
        | none => none), resV P tm h rs with
    | some v, some vs => some (v :: vs)
    | _, _ => none

def oneOf : List SV → SV
  | [v] => v
  | vs => .tup vs

/-- What a block's code does, told beforehand. -/
abbrev LT := Code → Nat → KT → T SV → HS → Bool

/-- Blocks that are told beforehand; functions behind which a state is laid out in its one form. -/
structure LTab where
  lt : FuncId → Nat → Option LT
  mg : FuncId → Bool
  gc : FuncId → Nat → Option (List Nat)      -- ahead of these blocks: the slots that are wanted still

/-- A function's way out. -/
def retK (P : Program) (mg : Bool) (n0 : Nat) (rs : List ResultVar) (K E : SV → HS → Bool) (e : SX) (tm : T SV) (h : HS) : Bool :=
  match e with
  | .ext _ => false
  | .pnc x => E x h
  | _ => match resV P tm h rs with
    | some vs => bif mg then canonK n0 (oneOf vs) h K else K (oneOf vs) h
    | none => false

def runBody (P : Program) (mg : FuncId → Bool) (code : FuncId → Nat → Code → KT → T SV → HS → Bool) (f : FuncId) (args : List SV) (h : HS) (K E : SV → HS → Bool) (fn : Func) (c : Code) : Bool :=
  bif fn.name == "runtime.NumGoroutine" then false else
    code f (args.length + (fn.ntmps - args.length)) c (retK P (mg f) h.nx fn.results.toList K E) (T.ofList args) h

/-- A function's body, with its results. -/
def runFn (P : Program) (mg : FuncId → Bool) (code : FuncId → Nat → Code → KT → T SV → HS → Bool) (C : FuncId → Option CT) : CallT := fun f args h K E =>
  match C f with
  | some ct => ct args h K
  | none => match fnOf P f with
    | none => false
    | some fn => match fn.body with
      | none => false
      | some c => runBody P mg code f args h K E fn c

abbrev CodeT := FuncId → Nat → Code → KT → T SV → HS → Bool

def seqK (ih : CodeT) (f : FuncId) (sz : Nat) (b : Code) (K : KT) (e : SX) (tm : T SV) (h : HS) : Bool := match e with
  | .nrm => ih f sz b K tm h
  | e => K e tm h

def blkK (id : Nat) (K : KT) (e : SX) (tm : T SV) (h : HS) : Bool := match e with
  | .ext i => bif Nat.beq i id then K .nrm tm h else K (.ext i) tm h
  | e => K e tm h

def sxCond (ih : CodeT) (f : FuncId) (sz : Nat) (x : Option SV) (a b : Code) (K : KT) (tm : T SV) (h : HS) : Bool := match x with
  | some (.v (.bool t)) => bif t then ih f sz a K tm h else ih f sz b K tm h
  | _ => false

def sxBlock (Λ : LTab) (ih : CodeT) (f : FuncId) (sz : Nat) (id : Nat) (a : Code) (K : KT) (tm : T SV) (h : HS) : Bool := match Λ.lt f id with
  | some lt => lt a sz K tm h
  | none => match Λ.gc f id with
    | some live => gcK live tm h (fun tm h => ih f sz a (blkK id K) tm h)
    | none => ih f sz a (blkK id K) tm h

/-- The slots that a region writes, forgotten. -/
def strike : List Oper → T SV → T SV
  | [], tm => tm
  | o :: os, tm => match o.dst with
    | none => strike os tm
    | some d => strike os (tm.del d)

theorem strike_get : ∀ {os : List Oper} {tm : T SV} {i : Nat} {x : SV}, (strike os tm).get i = some x → tm.get i = some x ∧ ∀ o ∈ os, o.dst ≠ some i
  | [], _, _, _, h => ⟨h, fun _ ho => by cases ho⟩
  | o :: os, tm, i, x, h => by
    simp only [strike] at h
    cases hd : o.dst with
    | none =>
      rw [hd] at h
      obtain ⟨h1, h2⟩ := strike_get h
      exact ⟨h1, fun o' ho' => by
        rcases List.mem_cons.1 ho' with rfl | ho'
        · rw [hd]; exact fun e => by cases e
        · exact h2 o' ho'⟩
    | some d =>
      rw [hd] at h
      obtain ⟨h1, h2⟩ := strike_get h
      obtain ⟨h3, h4⟩ := T.get_del h1
      exact ⟨h4, fun o' ho' => by
        rcases List.mem_cons.1 ho' with rfl | ho'
        · rw [hd]; exact fun e => h3 (by injection e with e; exact e.symm)
        · exact h2 o' ho'⟩

/-- A panic out of a region. -/
def regE (ops : Array Oper) (K : KT) (x : SV) (tm : T SV) (h : HS) : Bool := K (.pnc x) (strike ops.toList tm) h

def sxRegion (P : Program) (call : CallT) (sz : Nat) (ops : Array Oper) (draw : Bool) (K : KT) (tm : T SV) (h : HS) : Bool :=
  bif draw then
    match planOf P ops with
    | some pl => bif h.M.X.op || oneWay pl then sxPlan P call sz (K .nrm) (regE ops K) pl [] tm h else sxPlan P call sz (fun tm' h' => canonT h.nx sz tm' h' (K .nrm)) (regE ops K) pl [] tm h
    | none => false
  else fxOps P call sz (regE ops K) ops.toList (K .nrm) ops.toList tm h

/-- A region, ahead of which some slots may be forgotten (its number, from a million on). -/
def sxReg (P : Program) (call : CallT) (Λ : LTab) (f : FuncId) (sz : Nat) (id : Nat) (ops : Array Oper) (draw : Bool) (K : KT) (tm : T SV) (h : HS) : Bool := match Λ.gc f (Nat.add 1000000 id) with
  | some live => gcK live tm h (fun tm h => sxRegion P call sz ops draw K tm h)
  | none => sxRegion P call sz ops draw K tm h

def sxStep (P : Program) (C : FuncId → Option CT) (Λ : LTab) (ih : CodeT) (f : FuncId) (sz : Nat) (c : Code) (K : KT) (tm : T SV) (h : HS) : Bool :=
  match c with
  | .skip => K .nrm tm h
  | .label _ => K .nrm tm h
  | .ret => K .ret tm h
  | .exit id => K (.ext id) tm h
  | .seq a b => ih f sz a (seqK ih f sz b K) tm h
  | .cond x a b => sxCond ih f sz (opd tm x) a b K tm h
  | .block id a => sxBlock Λ ih f sz id a K tm h
  | .scope a => ih f sz a K tm h
  | .loop a => ih f sz a (seqK ih f sz (.loop a) K) tm h
  | .region id ops draw => sxReg P (runFn P Λ.mg ih C) Λ f sz id ops draw K tm h
  | _ => false

def sxCode (P : Program) (C : FuncId → Option CT) (Λ : LTab) (n : Nat) : CodeT :=
  Nat.rec (motive := fun _ => CodeT) (fun _ _ _ _ _ _ => false) (fun _ ih f sz c K tm h => sxStep P C Λ ih f sz c K tm h) n

theorem sxCode_succ (P : Program) (C : FuncId → Option CT) (Λ : LTab) (n : Nat) (f : FuncId) (sz : Nat) (c : Code) (K : KT) (tm : T SV) (h : HS) :
    sxCode P C Λ (n + 1) f sz c K tm h = sxStep P C Λ (sxCode P C Λ n) f sz c K tm h := rfl

/-! ### Soundness -/

/-- What is left, by the way out. -/
def GoesX (dfs : List Deferred) (ρ : Nat → Loc) (h : HS) (sz : Nat) (K : KT) : Exit → Act → World → Prop
  | .normal, a, w => Goes dfs ρ h sz (K .nrm) a w
  | .exit i, a, w => Goes dfs ρ h sz (K (.ext i)) a w
  | .ret, a, w => Goes dfs ρ h sz (K .ret) a w
  | .panic c, a, w => GoesE dfs ρ h sz (fun x => K (.pnc x)) c a w
  | _, _, _ => False

theorem GoesX.trans {ρ ρ' : Nat → Loc} {h h' : HS} {sz : Nat} {K : KT} {e : Exit} {a : Act} {w : World} (g : GoesX dfs ρ' h' sz K e a w) (hx : Ext ρ ρ' h.nx) (hn : h.nx ≤ h'.nx) (hm : h.M.le h'.M) : GoesX dfs ρ h sz K e a w := by
  cases e <;> first | exact Goes.trans g hx hn hm | exact GoesE.trans g hx hn hm | exact g

/-- A contract is right. -/
def CTSound (P : Program) (C : FuncId → Option CT) : Prop :=
  ∀ f ct, C f = some ct → ∀ args h K, ct args h K → ∀ ρ w, HRel ρ h w → (∀ x ∈ args, x.lt ρ h.nx) → CallGoes P f (args.map (SV.den ρ)).toArray w (Post ρ h K) fun _ _ => False

theorem CallGoes.mono {P : Program} {f : FuncId} {args : Array Value} {w : World} {Φ Φ' Ψ Ψ' : Value → World → Prop} (g : CallGoes P f args w Φ Ψ) (h1 : ∀ v w', Φ v w' → Φ' v w') (h2 : ∀ v w', Ψ v w' → Ψ' v w') : CallGoes P f args w Φ' Ψ' := by
  rcases g with ⟨fn, a, b, c⟩ | ⟨v, w', a, b⟩
  · exact .inl ⟨fn, a, b, c.mono fun e w' hor => by
      rcases hor with ⟨v, he, hq⟩ | ⟨v, he, hq⟩
      · exact .inl ⟨v, he, h1 _ _ hq⟩
      · exact .inr ⟨v, he, h2 _ _ hq⟩⟩
  · exact .inr ⟨v, w', a, h1 _ _ b⟩

theorem not_post_false {ρ : Nat → Loc} {h : HS} {v : Value} {w : World} : ¬ Post ρ h (fun _ _ => false) v w := fun ⟨_, _, _, hk, _⟩ => absurd hk Bool.false_ne_true

/-- The same, for a region: what is told of a panic does not speak of the slots that it writes. -/
def GoesR (dfs : List Deferred) (ops : Array Oper) (ρ : Nat → Loc) (h : HS) (sz : Nat) (K : KT) : Exit → Act → World → Prop
  | .panic c, a, w => ∃ x tm' h' ρ', c = pnc (x.den ρ') ∧ x.lt ρ' h'.nx ∧ K (.pnc x) tm' h' ∧ (∀ i y, tm'.get i = some y → ∀ o ∈ ops.toList, o.dst ≠ some i) ∧
      ARel dfs ρ' tm' sz h'.nx a ∧ HRel ρ' h' w ∧ Ext ρ ρ' h.nx ∧ h.nx ≤ h'.nx ∧ h.M.le h'.M
  | e, a, w => GoesX dfs ρ h sz K e a w

theorem put_size (a : Act) (d : Option Tmp) (v : Value) : (a.put d v).tmps.size = a.tmps.size := by
  cases d <;> simp [Act.put]

theorem put_other (a : Act) {d : Option Tmp} {i : Nat} (h : d ≠ some i) (v : Value) : (a.put d v).tmps[i]? = a.tmps[i]? := by
  cases d with
  | none => rfl
  | some d =>
    have : d ≠ i := fun e => h (by rw [e])
    simp [Act.put, this]

theorem put_defers (a : Act) (d : Option Tmp) (v : Value) : (a.put d v).defers = a.defers := by
  cases d <;> rfl

/-- A part of a code. -/
inductive InC : Code → Code → Prop
  | refl (c : Code) : InC c c
  | seqL {a b c : Code} : InC (.seq a b) c → InC a c
  | seqR {a b c : Code} : InC (.seq a b) c → InC b c
  | condL {x : Operand} {a b c : Code} : InC (.cond x a b) c → InC a c
  | condR {x : Operand} {a b c : Code} : InC (.cond x a b) c → InC b c
  | block {i : Nat} {a c : Code} : InC (.block i a) c → InC a c
  | loop {a c : Code} : InC (.loop a) c → InC a c
  | scope {a c : Code} : InC (.scope a) c → InC a c

/-- A part of a function's body. -/
def Within (P : Program) (f : FuncId) (c : Code) : Prop := ∃ fn b, P.funcs[f]? = some fn ∧ fn.body = some b ∧ InC c b

theorem Within.to {P : Program} {f : FuncId} {c d : Code} (h : Within P f c) (hd : ∀ {b}, InC c b → InC d b) : Within P f d := by
  obtain ⟨fn, b, h1, h2, h3⟩ := h
  exact ⟨fn, b, h1, h2, hd h3⟩

/-- What is told of a block is right. -/
def LTSound (P : Program) (Λ : LTab) : Prop :=
  ∀ f id lt, Λ.lt f id = some lt → ∀ c sz K tm h, Within P f (.block id c) → lt c sz K tm h → ∀ dfs ρ a w, ARel dfs ρ tm sz h.nx a → HRel ρ h w → (Code.block id c).wp P (GoesX dfs ρ h sz K) a w

def resM (tmps : Array Value) : ResultVar → Sem Value
  | .tmp t => pure (tmps.getD t undef)
  | .cell x t => do loadVar t (← asAddr (tmps.getD x undef))

theorem results_eq (fn : Func) (tmps : Array Value) : results fn tmps = (do
    let vs ← fn.results.mapM (resM tmps)
    pure (if h : vs.size = 1 then vs[0] else .tuple vs)) := by
  unfold results
  congr 1

theorem resV_run {P : Program} {tm : T SV} {h : HS} {ρ : Nat → Loc} {sz : Nat} {a : Act} {w : World} (A : ARel dfs ρ tm sz h.nx a) (H : HRel ρ h w) : ∀ (rs : List ResultVar) (vs : List SV), resV P tm h rs = some vs →
    (rs.mapM (resM a.tmps)).run P w = .ok (vs.map (SV.den ρ)) w ∧ ∀ v ∈ vs, v.lt ρ h.nx := by
  intro rs
  induction rs with
  | nil => intro vs h; simp only [resV, Option.some.injEq] at h; subst h; exact ⟨rfl, fun _ h => by cases h⟩
  | cons r rs ih =>
    intro vs hv
    simp only [resV] at hv
    split at hv
    · rename_i v vs' h1 h2
      injection hv with hv; subst hv
      obtain ⟨k1, k2⟩ := ih vs' h2
      cases r with
      | tmp t =>
        obtain ⟨g1, g2⟩ := A.at_ t v h1
        refine ⟨?_, fun y hy => ?_⟩
        · have hg : a.tmps.getD t undef = v.den ρ := by simp [g2]
          simp only [List.mapM_cons, resM, Sem.run_bind, Sem.run_pure, Result.andThen_ok, hg]
          rw [k1]; rfl
        · rcases List.mem_cons.1 hy with rfl | hy
          · exact g1
          · exact k2 y hy
      | cell x t =>
        simp only at h1
        split at h1
        · rename_i xv hx
          obtain ⟨g1, g2⟩ := A.at_ x xv hx
          obtain ⟨l1, l2⟩ := loadV_run h1 H
          have hg : a.tmps.getD x undef = xv.den ρ := by simp [g2]
          refine ⟨?_, fun y hy => ?_⟩
          · -- a load of a pointer
            have hp : ∃ ad, xv.den ρ = .pointer (some ad) := by
              unfold loadV at h1
              split at h1
              · cases h1
              · split at h1
                · exact ⟨_, rfl⟩
                · exact ⟨_, rfl⟩
                · cases h1
            obtain ⟨ad, had⟩ := hp
            rw [had] at l1 hg
            simp only [Instr.loadAt, Instr.sureAddr, Sem.run_bind, Sem.run_pure, Result.andThen_ok] at l1
            have hasA : (asAddr (.pointer (some ad))).run P w = .ok ad w := rfl
            simp only [List.mapM_cons, resM, Sem.run_bind, hg, hasA, Sem.run_pure, Result.andThen_ok, l1]
            rw [k1]; rfl
          · rcases List.mem_cons.1 hy with rfl | hy
            · exact l2
            · exact k2 y hy
        · cases h1
    · cases hv

theorem runFn_sound {P : Program} {mg : FuncId → Bool} {C : FuncId → Option CT} (hC : CTSound P C) {code : FuncId → Nat → Code → KT → T SV → HS → Bool}
    (hcode : ∀ f sz c K tm h, Within P f c → code f sz c K tm h → ∀ dfs ρ a w, ARel dfs ρ tm sz h.nx a → HRel ρ h w → c.wp P (GoesX dfs ρ h sz K) a w) : CallSound P (runFn P mg code C) := by
  intro f args h K E hk ρ w H hargs
  unfold runFn at hk
  split at hk
  · rename_i ct hct
    exact (hC f ct hct args h K hk ρ w H hargs).mono (fun _ _ h => h) fun _ _ h => h.elim
  · split at hk
    · exact absurd hk Bool.false_ne_true
    · rename_i fn hfn
      split at hk
      · exact absurd hk Bool.false_ne_true
      · rename_i c hb
        have hf := fn_of hfn
        unfold runBody at hk
        cases hname : fn.name == "runtime.NumGoroutine" with
        | true => rw [hname] at hk; exact absurd hk Bool.false_ne_true
        | false =>
          rw [hname] at hk
          simp only [cond_false] at hk
          refine .inl ⟨fn, hf, ⟨hname, by rw [hb]; rfl⟩, calls_of_wp hf hb ?_⟩
          have A : ARel [] ρ (T.ofList args) (args.length + (fn.ntmps - args.length)) h.nx { tmps := (args.map (SV.den ρ)).toArray ++ Array.replicate (fn.ntmps - (args.map (SV.den ρ)).toArray.size) undef, defers := [] } := by
            refine ⟨by simp, fun i x hi => ?_, rfl⟩
            have hx := T.get_ofList hi
            refine ⟨hargs x (List.mem_of_getElem? hx), ?_⟩
            have hlt := (List.getElem?_eq_some_iff.1 hx).1
            rw [Array.getElem?_append_left (by simpa using hlt)]
            simp [hx]
          refine wp_mono (hcode _ _ _ _ _ _ ⟨fn, c, hf, hb, .refl c⟩ hk [] ρ _ w A H) fun e a' w' g => ?_
          have fin : ∀ a' w', Goes [] ρ h (args.length + (fn.ntmps - args.length)) (retK P (mg f) h.nx fn.results.toList K E .nrm) a' w' →
              a'.defers = [] ∧ ∃ v, (results fn a'.tmps).run P w' = .ok v w' ∧ ((∃ v', Ending.returned v = .returned v' ∧ Post ρ h K v' w') ∨ ∃ v', Ending.returned v = .panicked (pnc v') ∧ Post ρ h E v' w') := by
            intro a' w' ⟨tm', h', ρ', hk', A', H', hx, hnx, hm⟩
            refine ⟨A'.defers, ?_⟩
            simp only [retK] at hk'
            split at hk'
            · rename_i vs hvs
              obtain ⟨r1, r2⟩ := resV_run A' H' _ _ hvs
              have hres : (results fn a'.tmps).run P w' = .ok ((oneOf vs).den ρ') w' := by
                rw [results_eq, Array.mapM_eq_mapM_toList]
                simp only [Sem.run_bind, Sem.run_map]
                rw [r1]
                simp only [Result.andThen_ok, Sem.run_pure]
                congr 1
                match vs with
                | [] => simp [oneOf, SV.den, SV.dens]
                | [v] => simp [oneOf]
                | v :: u :: vs => simp [oneOf, SV.den, SV.dens, dens_eq]
              have hv : (oneOf vs).lt ρ' h'.nx := by
                match vs with
                | [] => trivial
                | [v] => exact r2 v (by simp)
                | v :: u :: vs => exact lts_iff.2 r2
              refine ⟨_, hres, .inl ⟨_, rfl, ?_⟩⟩
              cases hmg : mg f with
              | true => rw [hmg] at hk'; exact canonK_post hk' hv H' hx hm
              | false => rw [hmg] at hk'; exact ⟨oneOf vs, h', ρ', hk', rfl, hv, H', hx, hnx, hm⟩
            · exact absurd hk' Bool.false_ne_true
          cases e with
          | normal => exact fin a' w' g
          | ret => exact fin a' w' g
          | exit i => obtain ⟨_, _, _, hk', _⟩ := g; exact absurd hk' Bool.false_ne_true
          | goto l => exact g.elim
          | panic c =>
            obtain ⟨x, tm', h', ρ', hc, hl, hk', A', H', hx, hnx, hm⟩ := g
            have hk' : E x h' = true := hk'
            exact ⟨A'.defers, .inr ⟨_, by rw [hc], x, h', ρ', hk', rfl, hl, H', hx, hnx, hm⟩⟩
          | outgrown => exact g.elim

theorem rounds_mono {P : Program} {c : Code} {Q Q' : Exit → Act → World → Prop} (hq : ∀ e a w, Q e a w → Q' e a w) : ∀ (n : Nat) (a : Act) (w : World), Code.rounds P c Q n a w → Code.rounds P c Q' n a w := by
  intro n
  induction n with
  | zero => intro a w h; exact h
  | succ n ih =>
    intro a w h
    exact wp_mono h fun e a w g => by cases e <;> first | exact ih _ _ g | exact hq _ _ _ g

theorem sxCode_wp {P : Program} (hm : P.follows .mixedOrders = true) {C : FuncId → Option CT} (hC : CTSound P C) {Λ : LTab} (hΛ : LTSound P Λ) : ∀ (n : Nat),
    (∀ f sz c K tm h, Within P f c → sxCode P C Λ n f sz c K tm h → ∀ dfs ρ a w, ARel dfs ρ tm sz h.nx a → HRel ρ h w → c.wp P (GoesX dfs ρ h sz K) a w) ∧
    (∀ f sz c K tm h, Within P f (.loop c) → sxCode P C Λ n f sz (.loop c) K tm h → ∀ dfs ρ a w, ARel dfs ρ tm sz h.nx a → HRel ρ h w → Code.rounds P c (GoesX dfs ρ h sz K) n a w) := by
  intro n
  induction n with
  | zero => exact ⟨fun _ _ _ _ _ _ _ h => absurd h Bool.false_ne_true, fun _ _ _ _ _ _ _ h => absurd h Bool.false_ne_true⟩
  | succ n ih =>
    obtain ⟨ih1, ih2⟩ := ih
    have loops : ∀ f sz c K tm h, Within P f (.loop c) → sxCode P C Λ (n + 1) f sz (.loop c) K tm h → ∀ dfs ρ a w, ARel dfs ρ tm sz h.nx a → HRel ρ h w → Code.rounds P c (GoesX dfs ρ h sz K) (n + 1) a w := by
      intro f sz c K tm h hW hk dfs ρ a w A H
      rw [sxCode_succ] at hk
      simp only [sxStep] at hk
      rw [rounds_succ]
      refine wp_mono (ih1 _ _ _ _ _ _ (hW.to .loop) hk dfs ρ a w A H) fun e a' w' g => ?_
      cases e with
      | normal =>
        obtain ⟨tm', h', ρ', hk', A', H', hx, hnx, hm'⟩ := g
        simp only [seqK] at hk'
        exact rounds_mono (fun e a w g => g.trans hx hnx hm') _ _ _ (ih2 _ _ _ _ _ _ hW hk' dfs ρ' a' w' A' H')
      | exit i => exact g
      | ret => exact g
      | goto l => exact g
      | panic c => exact g
      | outgrown => exact g
    refine ⟨?_, loops⟩
    intro f sz c K tm h hW hk0 dfs ρ a w A H
    have here : ∀ {K' : T SV → HS → Bool}, K' tm h → Goes dfs ρ h sz K' a w := fun hk => ⟨tm, h, ρ, hk, A, H, Ext.refl _ _, Nat.le_refl _, Mem.le_refl _⟩
    have hk := hk0
    rw [sxCode_succ] at hk
    cases c with
    | skip => exact wp_skip (here hk)
    | label l => exact wp_label (here hk)
    | ret => exact wp_ret (here hk)
    | exit id => exact wp_exit (here hk)
    | seq x y =>
      simp only [sxStep] at hk
      refine wp_seq (wp_mono (ih1 _ _ _ _ _ _ (hW.to .seqL) hk dfs ρ a w A H) fun e a' w' g => ?_)
      cases e with
      | normal =>
        obtain ⟨tm', h', ρ', hk', A', H', hx, hnx, hm'⟩ := g
        simp only [seqK] at hk'
        exact wp_mono (ih1 _ _ _ _ _ _ (hW.to .seqR) hk' dfs ρ' a' w' A' H') fun e a w g => g.trans hx hnx hm'
      | exit i => exact g
      | ret => exact g
      | goto l => exact g
      | panic c => exact g
      | outgrown => exact g
    | cond x y z =>
      simp only [sxStep, sxCond] at hk
      split at hk
      · rename_i t ht
        obtain ⟨h1, _⟩ := opd_den A ht
        refine wp_cond (t := t) h1 ?_
        cases t with
        | true => exact ih1 _ _ _ _ _ _ (hW.to .condL) hk dfs ρ a w A H
        | false => exact ih1 _ _ _ _ _ _ (hW.to .condR) hk dfs ρ a w A H
      · exact absurd hk Bool.false_ne_true
    | block id x =>
      simp only [sxStep, sxBlock] at hk
      split at hk
      · rename_i lt hlt
        exact hΛ f id lt hlt x sz K tm h hW hk dfs ρ a w A H
      have go : ∀ tm h, sxCode P C Λ n f sz x (blkK id K) tm h = true → ARel dfs ρ tm sz h.nx a → HRel ρ h w → (Code.block id x).wp P (GoesX dfs ρ h sz K) a w := by
        intro tm h hk A H
        refine wp_block (wp_mono (ih1 _ _ _ _ _ _ (hW.to .block) hk dfs ρ a w A H) fun e a' w' g => ?_)
        cases e with
        | normal => exact g
        | exit i =>
          obtain ⟨tm', h', ρ', hk', A', H', hx, hnx, hm'⟩ := g
          simp only [blkK] at hk'
          cases hb : Nat.beq i id with
          | true =>
            rw [hb] at hk'
            have := Nat.eq_of_beq_eq_true hb
            subst this
            simp only [Exit.inBlock, if_true]
            exact ⟨tm', h', ρ', hk', A', H', hx, hnx, hm'⟩
          | false =>
            rw [hb] at hk'
            have hne : i ≠ id := fun e => by rw [e, Nat.beq_refl] at hb; cases hb
            simp only [Exit.inBlock, hne, if_false]
            exact ⟨tm', h', ρ', hk', A', H', hx, hnx, hm'⟩
        | ret => exact g
        | goto l => exact g
        | panic c => exact g
        | outgrown => exact g
      split at hk
      · obtain ⟨tm', H', hk', s1, s2⟩ := gcK_sub hk
        exact wp_mono (go tm' ⟨H', h.nx, h.M⟩ hk' ⟨A.size, fun i y hi => A.at_ i y (s1 i y hi), A.defers⟩ (H.less s2)) fun e a' w' g => g.trans (Ext.refl _ _) (Nat.le_refl _) (Mem.le_refl _)
      · exact go tm h hk A H
    | scope x =>
      simp only [sxStep] at hk
      refine wp_scope_straight (wp_mono (ih1 _ _ _ _ _ _ (hW.to .scope) hk dfs ρ a w A H) fun e a' w' g => ?_)
      cases e <;> exact g
    | loop x => exact wp_loop_rounds (n + 1) (loops f sz x K tm h hW hk0 dfs ρ a w A H)
    | region id ops draw =>
      have CS := runFn_sound (mg := Λ.mg) hC ih1
      have go : ∀ tm h, sxRegion P (runFn P Λ.mg (sxCode P C Λ n) C) sz ops draw K tm h = true → ARel dfs ρ tm sz h.nx a → HRel ρ h w → (Code.region id ops draw).wp P (GoesX dfs ρ h sz K) a w := by
        intro tm h hk A H
        simp only [sxRegion] at hk
        have hQ : ∀ (j : Nat) (o : Oper), ops[j]? = some o → ∀ v c a w, GoesR dfs ops ρ h sz K (.panic c) (a.put o.dst v) w → GoesR dfs ops ρ h sz K (.panic c) a w := by
          intro j o ho v c a w ⟨x, tm', h', ρ', e, l, k, s, A', R'⟩
          refine ⟨x, tm', h', ρ', e, l, k, s, ⟨?_, fun i y hi => ?_, ?_⟩, R'⟩
          · rw [← A'.size]; exact (put_size a o.dst v).symm
          · obtain ⟨l1, l2⟩ := A'.at_ i y hi
            refine ⟨l1, ?_⟩
            rw [← l2]
            refine (put_other a ?_ v).symm
            exact s i y hi o (by simpa using Array.mem_of_getElem? ho)
          · rw [← A'.defers]; exact (put_defers a o.dst v).symm
        have hE : ∀ c a' w', GoesE dfs ρ h sz (regE ops K) c a' w' → GoesR dfs ops ρ h sz K (.panic c) a' w' := by
          intro c a' w' ⟨x, tm', h', ρ', e, l, k, A', R'⟩
          exact ⟨x, strike ops.toList tm', h', ρ', e, l, k, fun i y hi => (strike_get hi).2, ⟨A'.size, fun i y hi => A'.at_ i y (strike_get hi).1, A'.defers⟩, R'⟩
        have out : ∀ {e : Exit} {a : Act} {w : World}, GoesR dfs ops ρ h sz K e a w → GoesX dfs ρ h sz K e a w := by
          intro e a w g
          cases e with
          | panic c =>
            obtain ⟨x, tm', h', ρ', e, l, k, _, A', R'⟩ := g
            exact ⟨x, tm', h', ρ', e, l, k, A', R'⟩
          | _ => exact g
        cases draw with
        | true =>
          simp only [cond_true] at hk
          split at hk
          · rename_i pl hpl
            obtain ⟨k1, k3⟩ := planOf_ok hpl
            have down : Down .any ops (Array.replicate ops.size false) := by
              intro k ok hk' hl
              exfalso
              rw [Array.getD_eq_getD_getElem?, Array.getElem?_replicate] at hl
              split at hl <;> simp at hl
            refine wp_mono (Q := GoesR dfs ops ρ h sz K) ?_ fun e a w g => out g
            cases h1 : (h.M.X.op || oneWay pl) with
            | true =>
              rw [h1] at hk
              exact wp_region_any hm (wpAnyL_any _ [] _ _ _ (sxPlan_wp CS k3 hQ _ pl _ 0 [] k1 (by simp) hk [] A (H.drawn _) down (by simp) (fun a' w' g => g) hE))
            | false =>
              rw [h1] at hk
              refine wp_region_any hm (wpAnyL_any _ [] _ _ _ (sxPlan_wp CS k3 hQ _ pl _ 0 [] k1 (by simp) hk [] A (H.drawn _) down (by simp) (fun a' w' g => ?_) hE))
              obtain ⟨tm', h', ρ', hk', A', R', hx, _, hm'⟩ := g
              exact canonT_goes (h0 := h) hk' A' R' hx hm'
          · exact absurd hk Bool.false_ne_true
        | false =>
          simp only [cond_false] at hk
          refine wp_mono (Q := GoesR dfs ops ρ h sz K) ?_ fun e a w g => out g
          refine wp_region (fxOps_wp CS (List.range ops.size) ops.toList ?_ hk A H (fun a' w' g => g) hE)
          apply List.ext_getElem?
          intro i
          simp only [List.getElem?_map]
          by_cases hi : i < ops.size
          · rw [List.getElem?_range hi]
            simp [hi]
          · rw [List.getElem?_eq_none (by simpa using hi), List.getElem?_eq_none (by simpa using hi)]
            rfl
      simp only [sxStep, sxReg] at hk
      split at hk
      · obtain ⟨tm', H', hk', s1, s2⟩ := gcK_sub hk
        exact wp_mono (go tm' ⟨H', h.nx, h.M⟩ hk' ⟨A.size, fun i y hi => A.at_ i y (s1 i y hi), A.defers⟩ (H.less s2)) fun e a' w' g => g.trans (Ext.refl _ _) (Nat.le_refl _) (Mem.le_refl _)
      · exact go tm h hk A H
    | rangeFunc f ps x y => exact absurd hk Bool.false_ne_true
    | goto l => exact absurd hk Bool.false_ne_true
    | refuse s => exact absurd hk Bool.false_ne_true

/-- **A CALL, BY THE EXECUTOR.** -/
def sxCallE (P : Program) (C : FuncId → Option CT) (Λ : LTab) (n : Nat) : CallT := runFn P Λ.mg (sxCode P C Λ n) C

/-- A call that does not panic. -/
def sxCall (P : Program) (C : FuncId → Option CT) (Λ : LTab) (n : Nat) (f : FuncId) (args : List SV) (h : HS) (K : SV → HS → Bool) : Bool := sxCallE P C Λ n f args h K fun _ _ => false

theorem sxCallE_sound {P : Program} (hm : P.follows .mixedOrders = true) {C : FuncId → Option CT} (hC : CTSound P C) {Λ : LTab} (hΛ : LTSound P Λ) (n : Nat) : CallSound P (sxCallE P C Λ n) := runFn_sound hC (sxCode_wp hm hC hΛ n).1

theorem sxCall_sound {P : Program} (hm : P.follows .mixedOrders = true) {C : FuncId → Option CT} (hC : CTSound P C) {Λ : LTab} (hΛ : LTSound P Λ) (n : Nat) : ∀ f args h K, sxCall P C Λ n f args h K → ∀ ρ w, HRel ρ h w → (∀ x ∈ args, x.lt ρ h.nx) → CallGoes P f (args.map (SV.den ρ)).toArray w (Post ρ h K) fun _ _ => False :=
  fun f args h K hk ρ w H ha => (sxCallE_sound hm hC hΛ n f args h K _ hk ρ w H ha).mono (fun _ _ h => h) fun _ _ h => not_post_false h

def noC : FuncId → Option CT := fun _ => none
def noL : LTab := ⟨fun _ _ => none, fun _ => false, fun _ _ => none⟩

/-- No blocks told; one form behind these functions. -/
def mgL (l : List Nat) : LTab := ⟨fun _ _ => none, fun f => memN f l, fun _ _ => none⟩

/-- The same, and ahead of some blocks (function, block, slots) what is wanted no more is forgotten. -/
def gcOf (f id : Nat) : List (Nat × Nat × List Nat) → Option (List Nat)
  | [] => none
  | x :: xs => bif Nat.beq x.1 f && Nat.beq x.2.1 id then some x.2.2 else gcOf f id xs

def gcL (l : List Nat) (g : List (Nat × Nat × List Nat)) : LTab := ⟨fun _ _ => none, fun f => memN f l, fun f id => gcOf f id g⟩

theorem noC_sound (P : Program) : CTSound P noC := fun _ _ h => by cases h
theorem noL_sound (P : Program) : LTSound P noL := fun _ _ _ h => by cases h
theorem mgL_sound (P : Program) (l : List Nat) : LTSound P (mgL l) := fun _ _ _ h => by cases h
theorem gcL_sound (P : Program) (l : List Nat) (g : List (Nat × Nat × List Nat)) : LTSound P (gcL l g) := fun _ _ _ h => by cases h

/-! ### Loops with an invariant -/

/-- What one state says, the other says too. -/
def SubT (tm tm' : T SV) : Prop := ∀ k x, tm.get k = some x → tm'.get k = some x

structure SubH (h h' : HS) : Prop where
  nx : h.nx = h'.nx
  blk : ∀ b B, h.H.get b = some B → h'.H.get b = some B
  mem : h.M.le h'.M

theorem ARel.sub {ρ : Nat → Loc} {tm tm' : T SV} {sz nx : Nat} {a : Act} (A : ARel dfs ρ tm' sz nx a) (h : SubT tm tm') : ARel dfs ρ tm sz nx a := ⟨A.size, fun i x hi => A.at_ i x (h i x hi), A.defers⟩

end
end Go.Sx

namespace Go.Sx
noncomputable section
open Go.RowKit

theorem HRel.below {ρ : Nat → Loc} {h : HS} {w w' : World} (H : HRel ρ h w) (hb : Below w.heap.size w w') : HRel ρ h w' where
  os := hb.os.trans H.os
  out := hb.output.trans H.out
  tape := hb.tape.trans H.tape
  mem := fun k o hk => by
    have h1 := H.mem k o hk
    rw [hb.block k (Array.getElem?_eq_some_iff.1 h1).1]; exact h1
  blk := fun b B hB => by
    obtain ⟨h1, h2, h3⟩ := H.blk b B hB
    exact ⟨h1, h2, h3.of (Ext.refl ρ h.nx) h2 (hb.block _ h3.size)⟩
  inj := H.inj
  apart := H.apart
  are := fun k o hk => by
    have h1 := H.are k o hk
    rw [hb.block k (Array.getElem?_eq_some_iff.1 h1).1]; exact h1
  aprA := H.aprA
  disj := H.disj

/-- A call that hands back a value which names no memory, and leaves all that lay. -/
theorem goes_of_below {P : Program} {f : FuncId} {fn : Func} (hf : P.funcs[f]? = some fn) (hn : (fn.name == "runtime.NumGoroutine") = false) (hb : fn.body.isNone = false)
    {args : Array Value} {w : World} {x : Value} (hc : Calls P f args w fun e w' => e = .returned x ∧ Below w.heap.size w w')
    {ρ : Nat → Loc} {h : HS} (H : HRel ρ h w) {K : SV → HS → Bool} {z : SV} (hk : K z h) (hz : z.den ρ = x) (hl : z.lt ρ h.nx) {Ψ : Value → World → Prop} : CallGoes P f args w (Post ρ h K) Ψ :=
  .inl ⟨fn, hf, ⟨hn, hb⟩, hc.mono fun _ _ ⟨he, hw⟩ => .inl ⟨x, he, z, h, ρ, hk, hz.symm, hl, H.below hw, Ext.refl _ _, Nat.le_refl _, Mem.le_refl _⟩⟩

/-- An entry of the model's that gives a value at once. -/
theorem goes_of_entry {P : Program} {f : FuncId} {args : Array Value} {w : World} {x : Value} (hc : (callFunc f args).run P w = .ok (.value x) w)
    {ρ : Nat → Loc} {h : HS} (H : HRel ρ h w) {K : SV → HS → Bool} {z : SV} (hk : K z h) (hz : z.den ρ = x) (hl : z.lt ρ h.nx) {Ψ : Value → World → Prop} : CallGoes P f args w (Post ρ h K) Ψ :=
  .inr ⟨x, w, hc, z, h, ρ, hk, hz.symm, hl, H, Ext.refl _ _, Nat.le_refl _, Mem.le_refl _⟩

/-- What a call shows, out of the executor. -/
theorem calls_of_goes {P : Program} {f : FuncId} {args : Array Value} {w : World} {Φ : Value → World → Prop} (h : CallGoes P f args w Φ fun _ _ => False) {fn : Func} (hf : P.funcs[f]? = some fn)
    (hn : (fn.name == "runtime.NumGoroutine") = false) (hb : fn.body.isSome = true) : Calls P f args w fun e w' => ∃ v, e = .returned v ∧ Φ v w' := by
  rcases h with ⟨_, _, _, h⟩ | ⟨v, w', hv, h⟩
  · exact h.mono fun e w' hor => by
      rcases hor with h | ⟨_, _, h⟩
      · exact h
      · exact h.elim
  · have h1 : fn.name ≠ "runtime.NumGoroutine" := by simpa using hn
    obtain ⟨c, hc⟩ := Option.isSome_iff_exists.1 hb
    have e : (callFunc f args).run P w = .ok (.enter f args) w := by simp [callFunc, hf, h1, hc, mark]
    rw [e] at hv
    cases hv

/-- The heap as it came in, all of it to stay. -/
def memOf (w : World) : Mem := { blk := fun k => w.heap[k]?, os := w.os, out := w.output, tape := w.tape, gl := [], glok := fun _ _ h => (by cases h), X := .none }

/-- The same, with what is known of some blocks. -/
def memG (w : World) (gl : List (Nat × List Value)) (hg : ∀ g cs, (g, cs) ∈ gl → ∃ c t fz, w.heap[g]? = some (.cells c t fz) ∧ ∀ (i : Nat) v, cs[i]? = some v → c[i]? = some v) : Mem :=
  { blk := fun k => w.heap[k]?, os := w.os, out := w.output, tape := w.tape, gl := gl, glok := hg, X := .none }

/-- Memory as it came in. -/
structure Came (w : World) (M : Mem) : Prop where
  blk : M.blk = fun k => w.heap[k]?
  os : M.os = w.os
  out : M.out = w.output
  tape : M.tape = w.tape
  are : M.A.blk = fun _ => none

theorem came_of (w : World) : Came w (memOf w) := ⟨rfl, rfl, rfl, rfl, rfl⟩
theorem came_g (w : World) (gl : List (Nat × List Value)) (hg : ∀ g cs, (g, cs) ∈ gl → ∃ c t fz, w.heap[g]? = some (.cells c t fz) ∧ ∀ (i : Nat) v, cs[i]? = some v → c[i]? = some v) : Came w (memG w gl hg) := ⟨rfl, rfl, rfl, rfl, rfl⟩

theorem hrel_came {w : World} {M : Mem} (h : Came w M) : HRel (fun _ => ⟨0, 0, 0⟩) ⟨.e, 0, M⟩ w where
  os := h.os.symm
  out := h.out.symm
  tape := h.tape.symm
  mem := fun k o hk => by
    have hk : M.blk k = some o := hk
    rw [h.blk] at hk; exact hk
  blk := fun b B h => by rw [T.get_e] at h; cases h
  inj := fun b b' B B' h => by rw [T.get_e] at h; cases h
  apart := fun b B h => by rw [T.get_e] at h; cases h
  are := fun k o hk => by
    have hk : M.A.blk k = some o := hk
    rw [h.are] at hk; cases hk
  aprA := fun b B h => by rw [T.get_e] at h; cases h
  disj := fun k o hk => by
    have hk : M.A.blk k = some o := hk
    rw [h.are] at hk; cases hk

theorem hrel_start (w : World) : HRel (fun _ => ⟨0, 0, 0⟩) ⟨.e, 0, memOf w⟩ w where
  os := rfl
  out := rfl
  tape := rfl
  mem := fun _ _ h => h
  blk := fun b B h => by rw [T.get_e] at h; cases h
  inj := fun b b' B B' h => by rw [T.get_e] at h; cases h
  apart := fun b B h => by rw [T.get_e] at h; cases h
  are := fun k o hk => by cases hk
  aprA := fun b B h => by rw [T.get_e] at h; cases h
  disj := fun k o hk => by cases hk

end
end Go.Sx

namespace Go.Sx
noncomputable section
open Go.RowKit Go.ChangeShapes Go.WideShapes

/-- What lay lies as it lay. -/
theorem stays_of_post {ρ : Nat → Loc} {w w' : World} {nx : Nat} {H : T SBlk} {K : SV → HS → Bool} {v : Value} {M : Mem} (hM : Came w M) (h : Post ρ ⟨H, nx, M⟩ K v w') : Below w.heap.size w w' := by
  obtain ⟨z, h', ρ', _, _, _, R, _, _, hm⟩ := h
  have hb : ∀ k, k < w.heap.size → w'.heap[k]? = w.heap[k]? := fun k hk => by
    have h0 : w.heap[k]? = some w.heap[k] := Array.getElem?_eq_getElem hk
    have h1 : M.blk k = some w.heap[k] := by rw [hM.blk]; exact h0
    rw [R.mem k _ (hm.1 k _ h1)]
    exact h0.symm
  refine ⟨R.os.trans (hm.2.1.trans hM.os), R.tape.trans (hm.2.2.2.trans hM.tape), R.out.trans (hm.2.2.1.trans hM.out), ?_, hb⟩
  rcases Nat.eq_zero_or_pos w.heap.size with h0 | h0
  · omega
  · have h1 := hb (w.heap.size - 1) (by omega)
    have h2 : (w.heap[w.heap.size - 1]?) = some w.heap[w.heap.size - 1] := Array.getElem?_eq_getElem (by omega)
    rw [h2] at h1
    have := (Array.getElem?_eq_some_iff.1 h1).1
    omega

/-- Is it true? -/
def isT (r : SV) : Bool := match r with
  | .v (.bool b) => b
  | _ => false

theorem isT_eq {r : SV} (h : isT r = true) : r = .v (.bool true) := by
  unfold isT at h
  split at h
  · subst h; rfl
  · cases h

/-- A call that gives true, whatever lay. -/
theorem true_of_goes {P : Program} {f : FuncId} {fn : Func} (hf : P.funcs[f]? = some fn) (hn : (fn.name == "runtime.NumGoroutine") = false) (hb : fn.body.isSome = true)
    {args : Array Value} {w : World} {ρ : Nat → Loc} {nx : Nat} {H : T SBlk} {M : Mem} (hM : Came w M) (h : CallGoes P f args w (Post ρ ⟨H, nx, M⟩ fun r _ => isT r) fun _ _ => False) :
    Calls P f args w fun e w' => e = .returned (.bool true) ∧ Below w.heap.size w w' := by
  refine (calls_of_goes h hf hn hb).mono fun e w' ⟨v, he, hp⟩ => ?_
  have hs := stays_of_post hM hp
  obtain ⟨z, h', ρ', hk, hv, _⟩ := hp
  have hk := isT_eq hk
  subst hk
  exact ⟨by rw [he, hv]; rfl, hs⟩

theorem lt_vals (ρ : Nat → Loc) (n : Nat) (l : List Value) : ∀ x ∈ l.map SV.v, x.lt ρ n := by
  intro x hx
  obtain ⟨y, _, rfl⟩ := List.mem_map.1 hx
  exact True.intro

/-- The same, out of the executor. -/
theorem true_of_sx {P : Program} (hm : P.follows .mixedOrders = true) {C : FuncId → Option CT} (hC : CTSound P C) {Λ : LTab} (hΛ : LTSound P Λ) {n : Nat} {f : FuncId} {fn : Func} (hf : P.funcs[f]? = some fn) (hn : (fn.name == "runtime.NumGoroutine") = false) (hb : fn.body.isSome = true)
    (args : List SV) (w : World) {M : Mem} (hM : Came w M) (hl : ∀ x ∈ args, x.lt (fun _ => ⟨0, 0, 0⟩) 0) (hk : sxCall P C Λ n f args ⟨.e, 0, M⟩ (fun r _ => isT r)) :
    Calls P f (args.map (SV.den fun _ => ⟨0, 0, 0⟩)).toArray w fun e w' => e = .returned (.bool true) ∧ Below w.heap.size w w' :=
  true_of_goes hf hn hb hM (sxCall_sound hm hC hΛ n f args _ _ hk _ w (hrel_came hM) hl)

section
variable {H : Type} {enc : TypeId × Value → H} {P : Program}

/-- The row's step where what lay lies as it lay (new blocks may be of whatever kind). -/
theorem post_of_stays {f : Func} {s : ChangeSpec} {apart fresh handsOn again : Bool} {W W' : World} {args : Array Value} {v : Value} {ds gs : List (DataW H)} {before pa pv : List MemPlace}
    (hW : DataW.Whole enc P f.params.toList s.vars apart W args.toList ds gs before)
    (hres : ∀ (b : Nat) (sp : Nat → Bool) (hd : Bool), DataW.TrodAll enc P W' b sp hd f.resultTypes.toList (v.resultList f.resultTypes.size) (s.fn H (ds ++ gs)).results [])
    (hargs : ∀ sp : Nat → Bool, (∀ p ∈ before, sp p.block = true) → DataW.TrodAll enc P W' 0 sp true f.params.toList args.toList (s.fn H (ds ++ gs)).args pa)
    (hvars : ∀ sp : Nat → Bool, (∀ p ∈ before, sp p.block = true) → DataW.TrodVars enc P W' sp s.vars (s.fn H (ds ++ gs)).vars pv)
    (hps : before = pa ++ pv) (hk : Below W.heap.size W W')
    (hok : ∀ (j : Nat) (t : TypeId) (r : Value), f.resultTypes[j]? = some t → (v.resultList f.resultTypes.size)[j]? = some r → Value.okWide P W' .any 0 t r) :
    s.post enc P f apart fresh handsOn again W args v W' := by
  have hlt : ∀ p ∈ before, p.block < W.heap.size := fun p hp => hW.lt p hp
  have hold : ∀ p ∈ before, (fun b => decide (b < W.heap.size)) p.block = true := fun p hp => by simpa using hlt p hp
  refine ⟨ds, gs, before, [], pa, pv, hW, hres _ _ _, hargs _ hold, hvars _ hold, World.keptBut_mono (fun p hp => ⟨hp, ?_⟩) (hk.frame (· ∈ before)), fun _ => ?_⟩
  · rw [hps, List.mem_append] at hp
    exact Or.inr hp
  · obtain ⟨_, _, _, _, _, hz, hn⟩ := hW
    refine ⟨hok, _, _, ([] ++ pa) ++ pv, ⟨[] ++ pa, pv, trodAll_append (hargs _ (fun _ _ => rfl)) (hres _ _ _), hvars _ (fun _ _ => rfl), rfl, ?_, ?_⟩, ?_⟩
    · intro b off hp
      have hp' : MemPlace.cell b off ∈ before := by rw [hps]; simpa using hp
      rw [hk.frozen (hlt _ hp')]
      exact hz b off hp'
    · intro ha
      have := hn ha
      rw [hps] at this
      simpa using this
    · intro p hp _
      rw [hps]
      simpa using hp

end

end
end Go.Sx

namespace Go.Sx
noncomputable section
variable {dfs : List Deferred}

/-! ### Contracts -/

/-- What a function asks of its arguments and the arena, and what it leaves. -/
structure FSpec where
  γ : Type
  pre : γ → List Value → Arena → Prop
  post : γ → List Value → Arena → Value → Arena → Prop

/-- What is no tuple. -/
def plain1 : SV → Option Value
  | .v x => some x
  | .str l => some (.string ⟨l.toArray⟩)
  | .agg cs => match plains cs with
    | some vs => some (.agg vs.toArray)
    | none => none
  | _ => none

theorem plain1_den {x : SV} {v : Value} (h : plain1 x = some v) (ρ : Nat → Loc) : x.den ρ = v := by
  unfold plain1 at h
  split at h
  · injection h
  · injection h
  · rename_i cs
    split at h
    · rename_i vs hvs
      injection h with h
      rw [← h, SV.den, dens_eq, plains_den ρ cs vs hvs]
    · cases h
  · cases h

def plain1s : List SV → Option (List Value)
  | [] => some []
  | x :: xs => match plain1 x with
    | some v => match plain1s xs with
      | some vs => some (v :: vs)
      | none => none
    | none => none

theorem plain1s_den (ρ : Nat → Loc) : ∀ (l : List SV) (vs : List Value), plain1s l = some vs → l.map (SV.den ρ) = vs
  | [], vs, h => by injection h
  | x :: xs, vs, h => by
    simp only [plain1s] at h
    split at h
    · rename_i v hv
      split at h
      · rename_i us hus
        injection h with h; subst h
        rw [List.map_cons, plain1_den hv ρ, plain1s_den ρ xs us hus]
      · cases h
    · cases h

def plainV : SV → Option Value
  | .tup cs => match plain1s cs with
    | some vs => some (.tuple vs.toArray)
    | none => none
  | .v x => some x
  | .fn f [] => some (.func (.func f) #[] #[])
  | x => plain1 x

theorem plainV_den {x : SV} {v : Value} (h : plainV x = some v) (ρ : Nat → Loc) : x.den ρ = v := by
  unfold plainV at h
  split at h
  · rename_i cs
    split at h
    · rename_i vs hvs
      injection h with h
      rw [← h, SV.den, dens_eq, plain1s_den ρ cs vs hvs]
    · cases h
  · injection h
  · injection h
  · exact plain1_den h ρ

def plainVs : List SV → Option (List Value)
  | [] => some []
  | x :: xs => match plainV x with
    | some v => match plainVs xs with
      | some vs => some (v :: vs)
      | none => none
    | none => none

theorem plainVs_den (ρ : Nat → Loc) : ∀ (l : List SV) (vs : List Value), plainVs l = some vs → l.map (SV.den ρ) = vs
  | [], vs, h => by injection h
  | x :: xs, vs, h => by
    simp only [plainVs] at h
    split at h
    · rename_i v hv
      split at h
      · rename_i us hus
        injection h with h; subst h
        rw [List.map_cons, plainV_den hv ρ, plainVs_den ρ xs us hus]
      · cases h
    · cases h

/-- The contract, as a transformer. -/
def ctS (S : FSpec) : CT := fun args h K => match plainVs args with
  | some vs => h.M.D (∃ g, S.pre g vs h.M.A ∧ ∀ v A', S.post g vs h.M.A v A' → K (.v v) (h.put A') = true)
  | none => false

/-- What may change of a world: what lies in the arena, and new blocks. -/
structure Moves (A A' : Arena) (w w' : World) : Prop where
  os : w'.os = w.os
  out : w'.output = w.output
  tape : w'.tape = w.tape
  same : ∀ k, A.blk k = none → k < w.heap.size → w'.heap[k]? = w.heap[k]?
  sub : ∀ k o, A'.blk k = some o → w'.heap[k]? = some o
  dom : ∀ k o, A'.blk k = some o → (∃ o', A.blk k = some o') ∨ w.heap.size ≤ k

/-- The function keeps the contract. -/
def FOk (P : Program) (f : FuncId) (S : FSpec) : Prop :=
  ∀ g vs A w, (∀ k o, A.blk k = some o → w.heap[k]? = some o) → S.pre g vs A → CallGoes P f vs.toArray w (fun v w' => ∃ A', S.post g vs A v A' ∧ Moves A A' w w') fun _ _ => False

theorem ctS_goes {P : Program} {f : FuncId} {S : FSpec} (hS : FOk P f S) {args : List SV} {h : HS} {K : SV → HS → Bool} (hk : ctS S args h K = true) {ρ : Nat → Loc} {w : World} (R : HRel ρ h w) :
    CallGoes P f (args.map (SV.den ρ)).toArray w (Post ρ h K) fun _ _ => False := by
  unfold ctS at hk
  split at hk
  · rename_i vs hvs
    obtain ⟨g, hp, hk⟩ := (h.M.X.hD _).1 hk
    rw [plainVs_den ρ args vs hvs]
    refine (hS g vs h.M.A w R.are hp).mono (fun v w' ⟨A', k1, k2⟩ => ?_) fun _ _ h => h
    exact ⟨.v v, h.put A', ρ, hk v A' k1, rfl, trivial, R.arena k2.os k2.out k2.tape k2.same k2.sub k2.dom, Ext.refl _ _, Nat.le_refl _, Mem.put_le _ _⟩
  · exact absurd hk Bool.false_ne_true

/-! ### A contract out of the executor -/

/-- Memory all of whose known addresses lie in the arena. -/
abbrev opMem (blk : Nat → Option Obj) (os : Os) (out : Array (Nat × ByteArray)) (tape : Nat → Question → Nat) (A : Arena) (D : Prop → Bool) (hD : ∀ p, D p = true ↔ p) (al : TypeId → Bool := fun _ => false) : Mem :=
  ⟨blk, os, out, tape, [], fun _ _ h => (by cases h), ⟨A, D, hD, true, al⟩⟩

/-- The end of a run: the contract's promise, where the result names no new block. -/
def endP (S : FSpec) (g : S.γ) (vs : List Value) (A : Arena) : SV → HS → Bool := fun z h => match plainV z with
  | some v => h.M.D (S.post g vs A v h.M.A)
  | none => false

/-- The same, where it may name new blocks. -/
def endK (S : FSpec) (g : S.γ) (vs : List Value) (A : Arena) : SV → HS → Bool := fun z h =>
  h.M.D (∀ ρ w, HRel ρ h w → z.lt ρ h.nx → ∃ A', S.post g vs A (z.den ρ) A' ∧ (∀ k o, A'.blk k = some o → w.heap[k]? = some o) ∧ ∀ k o, A'.blk k = some o → (∃ o', h.M.A.blk k = some o') ∨ ∃ b B, h.H.get b = some B ∧ (ρ b).blk = k)

theorem endP_end {S : FSpec} {g : S.γ} {vs : List Value} {A : Arena} {z : SV} {h : HS} (hk : endP S g vs A z h = true) : endK S g vs A z h = true := by
  unfold endP at hk
  split at hk
  · rename_i v hv
    have hk := (h.M.X.hD _).1 hk
    refine (h.M.X.hD _).2 fun ρ w R _ => ⟨h.M.A, by rw [plainV_den hv ρ]; exact hk, R.are, fun k o ho => .inl ⟨o, ho⟩⟩
  · exact absurd hk Bool.false_ne_true

/-- A run of a function's own text, whatever contract is known of it. -/
def sxTop (P : Program) (C : FuncId → Option CT) (Λ : LTab) (n : Nat) (f : FuncId) (args : List SV) (h : HS) (K : SV → HS → Bool) : Bool := runFn P Λ.mg (sxCode P C Λ n) noC f args h K fun _ _ => false

theorem sxTop_sound {P : Program} (hm : P.follows .mixedOrders = true) {C : FuncId → Option CT} (hC : CTSound P C) {Λ : LTab} (hΛ : LTSound P Λ) (n : Nat) : ∀ f args h K, sxTop P C Λ n f args h K → ∀ ρ w, HRel ρ h w → (∀ x ∈ args, x.lt ρ h.nx) → CallGoes P f (args.map (SV.den ρ)).toArray w (Post ρ h K) fun _ _ => False :=
  fun f args h K hk ρ w H ha => (runFn_sound (noC_sound P) (sxCode_wp hm hC hΛ n).1 f args h K _ hk ρ w H ha).mono (fun _ _ h => h) fun _ _ h => not_post_false h

/-- The run's question. -/
abbrev Run (P : Program) (C : FuncId → Option CT) (Λ : LTab) (n : Nat) (f : FuncId) (args : List SV) (A : Arena) (E : SV → HS → Bool) (al : TypeId → Bool := fun _ => false) : Prop :=
  ∀ blk os out tape D hD, sxTop P C Λ n f args ⟨.e, 0, opMem blk os out tape A D hD al⟩ E = true

theorem fok_of_end {P : Program} (hm : P.follows .mixedOrders = true) {f : FuncId} {S : FSpec} {E : (g : S.γ) → List Value → Arena → SV → HS → Bool} (hE : ∀ g vs A z h, E g vs A z h = true → endK S g vs A z h = true) (al : TypeId → Bool)
    (hr : ∀ g vs A, S.pre g vs A → ∃ C Λ n args, CTSound P C ∧ LTSound P Λ ∧ plainVs args = some vs ∧ (∀ ρ, ∀ x ∈ args, x.lt ρ 0) ∧ Run P C Λ n f args A (E g vs A) al) : FOk P f S := by
  classical
  intro gh vs A w hA hp
  obtain ⟨C, Λ, n, args, hC, hΛ, h1, h2, h3⟩ := hr gh vs A hp
  have R : HRel (fun _ => ⟨0, 0, 0⟩) ⟨.e, 0, opMem (fun k => if A.blk k = none then w.heap[k]? else none) w.os w.output w.tape A (fun p => decide p) (fun p => by simp) al⟩ w := by
    refine ⟨rfl, rfl, rfl, fun k o hk => ?_, fun b B hb => ?_, fun b b' B B' hb => ?_, fun b B hb => ?_, hA, fun b B hb => ?_, fun k o hk => ?_⟩
    · have hk : (if A.blk k = none then w.heap[k]? else none) = some o := hk
      split at hk
      · exact hk
      · cases hk
    · rw [T.get_e] at hb; cases hb
    · rw [T.get_e] at hb; cases hb
    · rw [T.get_e] at hb; cases hb
    · rw [T.get_e] at hb; cases hb
    · have hk : A.blk k = some o := hk
      show (if A.blk k = none then w.heap[k]? else none) = none
      rw [if_neg (by rw [hk]; simp)]
  have g := sxTop_sound hm hC hΛ n f args _ _ (h3 _ _ _ _ _ _) _ w R (fun x hx => h2 _ x hx)
  rw [plainVs_den _ args vs h1] at g
  refine g.mono (fun v w' ⟨z, h', ρ', hz, hv, hl, R', _, _, hle⟩ => ?_) fun _ _ h => h
  obtain ⟨A', k1, k2, k3⟩ := (h'.M.X.hD _).1 (hE _ _ _ _ _ hz) ρ' w' R' hl
  have old : ∀ k, A.blk k = none → k < w.heap.size → h'.M.blk k = w.heap[k]? := fun k hk hlt => by
    have h0 : w.heap[k]? = some w.heap[k] := Array.getElem?_eq_getElem hlt
    have := hle.1 k w.heap[k] (by show (if A.blk k = none then w.heap[k]? else none) = _; rw [if_pos hk]; exact h0)
    rw [this, h0]
  refine ⟨A', by rw [hv]; exact k1, R'.os.trans hle.2.1, R'.out.trans hle.2.2.1, R'.tape.trans hle.2.2.2, fun k hk hlt => ?_, k2, fun k o ho => ?_⟩
  · have h0 : w.heap[k]? = some w.heap[k] := Array.getElem?_eq_getElem hlt
    rw [R'.mem k w.heap[k] (by rw [old k hk hlt]; exact h0), h0]
  · cases hA0 : A.blk k with
    | some o' => exact .inl ⟨o', rfl⟩
    | none =>
      refine .inr (Nat.le_of_not_lt fun hlt => ?_)
      have h0 := old k hA0 hlt
      have h00 : w.heap[k]? = some w.heap[k] := Array.getElem?_eq_getElem hlt
      rcases k3 k o ho with ⟨o', h4⟩ | ⟨b, B, h4, h5⟩
      · rw [R'.disj k o' h4, h00] at h0; cases h0
      · have := R'.apart b B h4
        rw [h5, h0, h00] at this; cases this

theorem fok_of_run {P : Program} (hm : P.follows .mixedOrders = true) {f : FuncId} {S : FSpec}
    (hr : ∀ g vs A, S.pre g vs A → ∃ C Λ n args, CTSound P C ∧ LTSound P Λ ∧ plainVs args = some vs ∧ (∀ ρ, ∀ x ∈ args, x.lt ρ 0) ∧ Run P C Λ n f args A (endP S g vs A)) : FOk P f S :=
  fok_of_end hm (fun _ _ _ _ _ h => endP_end h) (fun _ => false) hr

/-! ### Loops -/

mutual
/-- All ids in it are below n. -/
def SV.bel (n : Nat) : SV → Prop
  | .v _ => True
  | .str _ => True
  | .ptr b _ => b < n
  | .slc b _ _ c => b < n ∧ c.lt n
  | .mp b => b < n
  | .agg cs => SV.bels n cs
  | .tup cs => SV.bels n cs
  | .ifc _ x => x.bel n
  | .fn _ cs => SV.bels n cs
def SV.bels (n : Nat) : List SV → Prop
  | [] => True
  | x :: xs => x.bel n ∧ SV.bels n xs
end

mutual
theorem SV.bel_lt {ρ : Nat → Loc} {n m : Nat} : ∀ (x : SV), x.bel n → x.lt ρ m → x.lt ρ n
  | .v _, _, _ => trivial
  | .str _, _, _ => trivial
  | .ptr _ _, h, _ => h
  | .slc _ _ _ _, h, k => ⟨h.1, h.2, k.2.2⟩
  | .mp _, h, _ => h
  | .agg cs, h, k => SV.bels_lt cs h k
  | .tup cs, h, k => SV.bels_lt cs h k
  | .ifc _ x, h, k => SV.bel_lt x h k
  | .fn _ cs, h, k => SV.bels_lt cs h k
theorem SV.bels_lt {ρ : Nat → Loc} {n m : Nat} : ∀ (l : List SV), SV.bels n l → SV.lts ρ m l → SV.lts ρ n l
  | [], _, _ => trivial
  | x :: xs, h, k => ⟨SV.bel_lt x h.1 k.1, SV.bels_lt xs h.2 k.2⟩
end

def entsBel (n : Nat) : List (SV × SV × Nat) → Prop
  | [] => True
  | e :: es => e.1.bel n ∧ e.2.1.bel n ∧ entsBel n es

def SBlk.bel (n : Nat) : SBlk → Prop
  | .cells cs _ _ => SV.bels n cs
  | .map es _ => entsBel n es
  | .siter _ _ => True
  | .miter m _ _ _ => m < n

theorem bels_mem {n : Nat} : ∀ {l : List SV}, SV.bels n l → ∀ x ∈ l, x.bel n
  | [], _, _, h => by cases h
  | y :: ys, h, x, hx => by
    rcases List.mem_cons.1 hx with rfl | hx
    · exact h.1
    · exact bels_mem h.2 x hx

theorem entsBel_mem {n : Nat} : ∀ {l : List (SV × SV × Nat)}, entsBel n l → ∀ e ∈ l, e.1.bel n ∧ e.2.1.bel n
  | [], _, _, h => by cases h
  | y :: ys, h, x, hx => by
    rcases List.mem_cons.1 hx with rfl | hx
    · exact ⟨h.1, h.2.1⟩
    · exact entsBel_mem h.2.2 x hx

theorem SBlk.bel_lt {ρ : Nat → Loc} {n m : Nat} {B : SBlk} (h : B.bel n) (k : B.lt ρ m) : B.lt ρ n := by
  cases B with
  | cells cs es τ => exact fun x hx => SV.bel_lt x (bels_mem h x hx) (k x hx)
  | map es clock => exact fun e he => ⟨SV.bel_lt _ (entsBel_mem h e he).1 (k e he).1, SV.bel_lt _ (entsBel_mem h e he).2 (k e he).2⟩
  | siter s pos => trivial
  | miter m' since seen last => exact h

/-- What holds at a loop's head: slots that stay, blocks that stay, and what goes by a state. -/
structure LInv where
  γ : Type
  G : γ → Prop
  keepS : List Nat
  keepB : List Nat
  sl : γ → List (Nat × SV)
  bl : γ → List (Nat × SBlk)
  ar : γ → Arena
  mu : γ → Nat

def takeT {α : Type} (t : T α) : List Nat → T α → T α
  | [], acc => acc
  | i :: is, acc => match t.get i with
    | some x => takeT t is (acc.set i x)
    | none => takeT t is acc

theorem takeT_get {α : Type} {t : T α} : ∀ {is : List Nat} {acc : T α} {i : Nat} {x : α}, (takeT t is acc).get i = some x → (i ∈ is ∧ t.get i = some x) ∨ acc.get i = some x
  | [], _, _, _, h => .inr h
  | j :: js, acc, i, x, h => by
    simp only [takeT] at h
    split at h
    · rename_i y hy
      rcases takeT_get h with ⟨h1, h2⟩ | h
      · exact .inl ⟨List.mem_cons_of_mem _ h1, h2⟩
      · rcases T.get_set h with ⟨h1, h2⟩ | ⟨_, h⟩
        · subst h1; subst h2; exact .inl ⟨List.mem_cons_self, hy⟩
        · exact .inr h
    · rcases takeT_get h with ⟨h1, h2⟩ | h
      · exact .inl ⟨List.mem_cons_of_mem _ h1, h2⟩
      · exact .inr h

def putT {α : Type} : List (Nat × α) → T α → T α
  | [], t => t
  | s :: ss, t => putT ss (t.set s.1 s.2)

theorem putT_get {α : Type} : ∀ {l : List (Nat × α)} {t : T α} {i : Nat} {x : α}, (putT l t).get i = some x → (i, x) ∈ l ∨ t.get i = some x
  | [], _, _, _, h => .inr h
  | s :: ss, t, i, x, h => by
    rcases putT_get (l := ss) h with h | h
    · exact .inl (List.mem_cons_of_mem _ h)
    · rcases T.get_set h with ⟨h1, h2⟩ | ⟨_, h⟩
      · subst h1; subst h2; exact .inl (by simp)
      · exact .inr h

def sameP {α : Type} (t t' : T α) : List Nat → Prop
  | [] => True
  | i :: is => t'.get i = t.get i ∧ sameP t t' is

theorem sameP_mem {α : Type} {t t' : T α} : ∀ {is : List Nat}, sameP t t' is → ∀ i ∈ is, t'.get i = t.get i
  | [], _, _, h => by cases h
  | j :: js, h, i, hi => by
    rcases List.mem_cons.1 hi with rfl | hi
    · exact h.1
    · exact sameP_mem h.2 i hi

/-- A slot that stays: each side is reckoned alone (Meta's unifier would else hold the two tables against each other: half a minute a round). -/
theorem same1 {α : Type} {t t' : T α} {i : Nat} {x : α} (h1 : t'.get i = some x) (h2 : t.get i = some x) : t'.get i = t.get i := h1.trans h2.symm

/-- These entries stand there. -/
def atP {α : Type} (t : T α) : List (Nat × α) → Prop
  | [] => True
  | s :: ss => t.get s.1 = some s.2 ∧ atP t ss

theorem atP_mem {α : Type} {t : T α} : ∀ {l : List (Nat × α)}, atP t l → ∀ s ∈ l, t.get s.1 = some s.2
  | [], _, _, h => by cases h
  | x :: xs, h, s, hs => by
    rcases List.mem_cons.1 hs with rfl | hs
    · exact h.1
    · exact atP_mem h.2 s hs

def belS (n : Nat) : List (Nat × SV) → Prop
  | [] => True
  | s :: ss => s.2.bel n ∧ belS n ss

def belB (n : Nat) : List (Nat × SBlk) → Prop
  | [] => True
  | s :: ss => s.1 < n ∧ s.2.bel n ∧ belB n ss

theorem belS_mem {n : Nat} : ∀ {l : List (Nat × SV)}, belS n l → ∀ s ∈ l, s.2.bel n
  | [], _, _, h => by cases h
  | x :: xs, h, s, hs => by
    rcases List.mem_cons.1 hs with rfl | hs
    · exact h.1
    · exact belS_mem h.2 s hs

theorem belB_mem {n : Nat} : ∀ {l : List (Nat × SBlk)}, belB n l → ∀ s ∈ l, s.1 < n ∧ s.2.bel n
  | [], _, _, h => by cases h
  | x :: xs, h, s, hs => by
    rcases List.mem_cons.1 hs with rfl | hs
    · exact ⟨h.1, h.2.1⟩
    · exact belB_mem h.2.2 s hs

/-- A state of the loop's head. -/
def LInv.At (S : LInv) (g : S.γ) (tm : T SV) (h : HS) : Prop := S.G g ∧ atP tm (S.sl g) ∧ atP h.H (S.bl g) ∧ h.M.A = S.ar g

/-- A round's end. -/
def loopK (S : LInv) (id : Nat) (K : KT) (tm0 : T SV) (H0 : T SBlk) (m : Nat) : KT := fun e tm h => match e with
  | .nrm => h.M.D (∃ g, S.At g tm h ∧ S.mu g < m ∧ sameP tm0 tm S.keepS ∧ sameP H0 h.H S.keepB)
  | .ext i => bif Nat.beq i id then K .nrm tm h else K (.ext i) tm h
  | e => K e tm h

/-- A loop with an invariant. -/
def loopLT (P : Program) (C : FuncId → Option CT) (Λ : LTab) (n : Nat) (f : FuncId) (id : Nat) : LT := fun c sz K tm h => match c with
  | .loop b => h.M.D (∃ S : LInv, (∃ g, S.At g tm h) ∧ ∀ g, S.G g → belS h.nx (S.sl g) ∧ belB h.nx (S.bl g) ∧
      shutH ⟨putT (S.bl g) (takeT h.H S.keepB .e), h.nx, h.M.put (S.ar g)⟩ (fun h1 => sxCode P C Λ n f sz b (loopK S id K tm h.H (S.mu g)) (putT (S.sl g) (takeT tm S.keepS .e)) h1) = true)
  | _ => false

theorem loopLT_sound {P : Program} (hm : P.follows .mixedOrders = true) {C : FuncId → Option CT} (hC : CTSound P C) {Λ : LTab} (hΛ : LTSound P Λ) (n : Nat) (f : FuncId) (id : Nat)
    {c : Code} {sz : Nat} {K : KT} {tm : T SV} {h : HS} (hW : Within P f (.block id c)) (hk : loopLT P C Λ n f id c sz K tm h = true) {ρ : Nat → Loc} {a : Act} {w : World} (A : ARel dfs ρ tm sz h.nx a) (R : HRel ρ h w) :
    (Code.block id c).wp P (GoesX dfs ρ h sz K) a w := by
  unfold loopLT at hk
  split at hk
  · rename_i b
    obtain ⟨S, ⟨g0, h0⟩, hk⟩ := (h.M.X.hD _).1 hk
    -- a state, as the round sees it
    have state : ∀ (g : S.γ) (tm' : T SV) (h' : HS) (ρ' : Nat → Loc) (a' : Act) (w' : World), S.At g tm' h' → sameP tm tm' S.keepS → sameP h.H h'.H S.keepB → ARel dfs ρ' tm' sz h'.nx a' → HRel ρ' h' w' → Ext ρ ρ' h.nx → h.M.le h'.M →
        ARel dfs ρ' (putT (S.sl g) (takeT tm S.keepS .e)) sz h.nx a' ∧ HRel ρ' ⟨putT (S.bl g) (takeT h.H S.keepB .e), h.nx, h.M.put (S.ar g)⟩ w' := by
      intro g tm' h' ρ' a' w' ⟨hG, h1, h2, h3⟩ hs1 hs2 A' R' hx hle
      obtain ⟨hb1, hb2, _⟩ := hk g hG
      have slot : ∀ i x, (putT (S.sl g) (takeT tm S.keepS .e)).get i = some x → tm'.get i = some x ∧ x.lt ρ' h.nx := fun i x hi => by
        rcases putT_get hi with hi | hi
        · have h4 := atP_mem h1 _ hi
          exact ⟨h4, SV.bel_lt x (belS_mem hb1 _ hi) (A'.at_ i x h4).1⟩
        · rcases takeT_get hi with ⟨h4, h5⟩ | h4
          · refine ⟨by rw [sameP_mem hs1 i h4]; exact h5, ?_⟩
            exact SV.lt_ext hx (Nat.le_refl _) x (A.at_ i x h5).1
          · rw [T.get_e] at h4; cases h4
      have blk : ∀ i B, (putT (S.bl g) (takeT h.H S.keepB .e)).get i = some B → h'.H.get i = some B ∧ i < h.nx ∧ B.lt ρ' h.nx := fun i B hi => by
        rcases putT_get hi with hi | hi
        · have h4 := atP_mem h2 _ hi
          have h5 := belB_mem hb2 _ hi
          exact ⟨h4, h5.1, SBlk.bel_lt h5.2 (R'.blk i B h4).2.1⟩
        · rcases takeT_get hi with ⟨h4, h5⟩ | h4
          · refine ⟨by rw [sameP_mem hs2 i h4]; exact h5, (R.blk i B h5).1, ?_⟩
            exact SBlk.lt_ext hx (Nat.le_refl _) (R.blk i B h5).2.1
          · rw [T.get_e] at h4; cases h4
      refine ⟨⟨A'.size, fun i x hi => ⟨(slot i x hi).2, (A'.at_ i x (slot i x hi).1).2⟩, A'.defers⟩, R'.os.trans hle.2.1, R'.out.trans hle.2.2.1, R'.tape.trans hle.2.2.2, fun k o hk => R'.mem k o (hle.1 k o hk), fun i B hi => ?_, fun i i' B B' hi hi' he => R'.inj i i' B B' (blk i B hi).1 (blk i' B' hi').1 he, fun i B hi => ?_, fun k o hk => ?_, fun i B hi => ?_, fun k o hk => ?_⟩
      · exact ⟨(blk i B hi).2.1, (blk i B hi).2.2, (R'.blk i B (blk i B hi).1).2.2⟩
      · have := R'.apart i B (blk i B hi).1
        show h.M.blk (ρ' i).blk = none
        cases hb : h.M.blk (ρ' i).blk with
        | none => rfl
        | some o => rw [hle.1 _ o hb] at this; cases this
      · have hk : (S.ar g).blk k = some o := hk
        rw [← h3] at hk
        exact R'.are k o hk
      · show (S.ar g).blk (ρ' i).blk = none
        rw [← h3]; exact R'.aprA i B (blk i B hi).1
      · have hk : (S.ar g).blk k = some o := hk
        rw [← h3] at hk
        have := R'.disj k o hk
        show h.M.blk k = none
        cases hb : h.M.blk k with
        | none => rfl
        | some o' => rw [hle.1 _ o' hb] at this; cases this
    have key : ∀ (m : Nat) (g : S.γ) (ρ1 : Nat → Loc) (a1 : Act) (w1 : World), S.mu g < m → S.G g → Ext ρ ρ1 h.nx → ARel dfs ρ1 (putT (S.sl g) (takeT tm S.keepS .e)) sz h.nx a1 → HRel ρ1 ⟨putT (S.bl g) (takeT h.H S.keepB .e), h.nx, h.M.put (S.ar g)⟩ w1 →
        Code.rounds P b (Exit.inBlock id (GoesX dfs ρ h sz K)) m a1 w1 := by
      intro m
      induction m with
      | zero => intro g ρ1 a1 w1 hm; omega
      | succ m ih =>
        intro g ρ1 a1 w1 hlt hG hx1 A1 R1
        obtain ⟨_, _, hrun⟩ := hk g hG
        rw [shutH_eq] at hrun
        rw [rounds_succ]
        refine wp_mono ((sxCode_wp hm hC hΛ n).1 f sz b _ _ _ (hW.to .block |>.to .loop) hrun dfs ρ1 a1 w1 A1 R1) fun e a' w' gx => ?_
        have fin : ∀ {tm' : T SV} {h' : HS} {ρ' : Nat → Loc}, Ext ρ1 ρ' h.nx → h.nx ≤ h'.nx → (h.M.put (S.ar g)).le h'.M → Ext ρ ρ' h.nx ∧ h.nx ≤ h'.nx ∧ h.M.le h'.M := fun hx hn hle => ⟨hx1.trans hx (Nat.le_refl _), hn, hle⟩
        cases e with
        | normal =>
          obtain ⟨tm', h', ρ', hk', A', R', hx, hn, hle⟩ := gx
          obtain ⟨g', hAt, hmu, hs1, hs2⟩ := (h'.M.X.hD _).1 hk'
          obtain ⟨A2, R2⟩ := state g' tm' h' ρ' a' w' hAt hs1 hs2 A' R' (hx1.trans hx (Nat.le_refl _)) hle
          exact ih g' ρ' a' w' (by omega) hAt.1 (hx1.trans hx (Nat.le_refl _)) A2 R2
        | exit i =>
          obtain ⟨tm', h', ρ', hk', A', R', hx, hn, hle⟩ := gx
          have hk2 : (bif Nat.beq i id then K .nrm tm' h' else K (.ext i) tm' h') = true := hk'
          show Exit.inBlock id (GoesX dfs ρ h sz K) (.exit i) a' w'
          cases hb : Nat.beq i id with
          | true =>
            rw [hb] at hk2
            have := Nat.eq_of_beq_eq_true hb
            subst this
            simp only [Exit.inBlock, if_true]
            exact ⟨tm', h', ρ', hk2, A', R', hx1.trans hx (Nat.le_refl _), hn, hle⟩
          | false =>
            rw [hb] at hk2
            have hne : i ≠ id := fun e => by rw [e, Nat.beq_refl] at hb; cases hb
            simp only [Exit.inBlock, hne, if_false]
            exact ⟨tm', h', ρ', hk2, A', R', hx1.trans hx (Nat.le_refl _), hn, hle⟩
        | ret =>
          obtain ⟨tm', h', ρ', hk', A', R', hx, hn, hle⟩ := gx
          exact ⟨tm', h', ρ', hk', A', R', hx1.trans hx (Nat.le_refl _), hn, hle⟩
        | goto l => exact gx.elim
        | panic c =>
          obtain ⟨x, tm', h', ρ', e, l, hk', A', R', hx, hn, hle⟩ := gx
          exact ⟨x, tm', h', ρ', e, l, hk', A', R', hx1.trans hx (Nat.le_refl _), hn, hle⟩
        | outgrown => exact gx.elim
    obtain ⟨A0, R0⟩ := state g0 tm h ρ a w h0 (by
      generalize S.keepS = l
      induction l with
      | nil => trivial
      | cons i is ih => exact ⟨rfl, ih⟩) (by
      generalize S.keepB = l
      induction l with
      | nil => trivial
      | cons i is ih => exact ⟨rfl, ih⟩) A R (Ext.refl _ _) (Mem.le_refl _)
    refine wp_block (wp_loop_rounds (S.mu g0 + 1) (key (S.mu g0 + 1) g0 ρ a w (Nat.lt_succ_self _) h0.1 (Ext.refl _ _) A0 R0))
  · exact absurd hk Bool.false_ne_true

/-- A table of told blocks, one behind the other. -/
structure LEnt where
  f : FuncId
  id : Nat
  lt : LT

def lookL (l : List LEnt) (f : FuncId) (id : Nat) : Option LT := match l with
  | [] => none
  | x :: xs => bif Nat.beq f x.f && Nat.beq id x.id then some x.lt else lookL xs f id

def LEnt.Ok (P : Program) (x : LEnt) : Prop := ∀ c sz K tm h, Within P x.f (.block x.id c) → x.lt c sz K tm h → ∀ dfs ρ a w, ARel dfs ρ tm sz h.nx a → HRel ρ h w → (Code.block x.id c).wp P (GoesX dfs ρ h sz K) a w

def tabL (l : List LEnt) : LTab := ⟨lookL l, fun _ => false, fun _ _ => none⟩

theorem tabL_sound {P : Program} {l : List LEnt} (h : ∀ x ∈ l, x.Ok P) : LTSound P (tabL l) := by
  intro f id lt hl
  change lookL l f id = some lt at hl
  revert hl
  induction l with
  | nil => intro hl; cases hl
  | cons x xs ih =>
    intro hl
    simp only [lookL] at hl
    cases hb : Nat.beq f x.f && Nat.beq id x.id with
    | false => rw [hb] at hl; exact ih (fun y hy => h y (List.mem_cons_of_mem _ hy)) hl
    | true =>
      rw [hb] at hl
      simp only [Bool.and_eq_true] at hb
      simp only [cond_true, Option.some.injEq] at hl
      subst hl
      have e1 := Nat.eq_of_beq_eq_true hb.1
      have e2 := Nat.eq_of_beq_eq_true hb.2
      subst e1; subst e2
      exact h x List.mem_cons_self

def loopE (P : Program) (C : FuncId → Option CT) (Λ : LTab) (n : Nat) (f : FuncId) (id : Nat) : LEnt := ⟨f, id, loopLT P C Λ n f id⟩

theorem loopE_ok {P : Program} (hm : P.follows .mixedOrders = true) {C : FuncId → Option CT} (hC : CTSound P C) {Λ : LTab} (hΛ : LTSound P Λ) (n : Nat) (f : FuncId) (id : Nat) : (loopE P C Λ n f id).Ok P :=
  fun _ _ _ _ _ hW hk _ _ _ _ A R => loopLT_sound hm hC hΛ n f id hW hk A R

/-- A table of loops, with those within. -/
def tabO (P : Program) (C : FuncId → Option CT) (Λ : LTab) (n : Nat) (l : List (FuncId × Nat)) : LTab := tabL (l.map fun x => loopE P C Λ n x.1 x.2)

theorem tabO_sound {P : Program} (hm : P.follows .mixedOrders = true) {C : FuncId → Option CT} (hC : CTSound P C) {Λ : LTab} (hΛ : LTSound P Λ) (n : Nat) (l : List (FuncId × Nat)) : LTSound P (tabO P C Λ n l) :=
  tabL_sound fun x hx => by
    obtain ⟨y, _, rfl⟩ := List.mem_map.1 hx
    exact loopE_ok hm hC hΛ n y.1 y.2

/-- A table of contracts. -/
structure CEnt where
  f : FuncId
  ct : CT

def lookC (l : List CEnt) (C : FuncId → Option CT) : FuncId → Option CT := fun f => match l with
  | [] => C f
  | x :: xs => bif Nat.beq f x.f then some x.ct else lookC xs C f

def CEnt.Ok (P : Program) (x : CEnt) : Prop := ∀ args h K, x.ct args h K → ∀ ρ w, HRel ρ h w → (∀ x ∈ args, x.lt ρ h.nx) → CallGoes P x.f (args.map (SV.den ρ)).toArray w (Post ρ h K) fun _ _ => False

theorem lookC_sound {P : Program} {C : FuncId → Option CT} (hC : CTSound P C) : ∀ {l : List CEnt}, (∀ x ∈ l, x.Ok P) → CTSound P (lookC l C)
  | [], _ => hC
  | x :: xs, h => by
    intro f ct hf
    simp only [lookC] at hf
    cases hb : Nat.beq f x.f with
    | false => rw [hb] at hf; exact lookC_sound hC (fun y hy => h y (List.mem_cons_of_mem _ hy)) f ct hf
    | true =>
      rw [hb] at hf
      simp only [cond_true, Option.some.injEq] at hf
      subst hf
      have e1 := Nat.eq_of_beq_eq_true hb
      subst e1
      exact h x List.mem_cons_self

def specE (f : FuncId) (S : FSpec) : CEnt := ⟨f, ctS S⟩

theorem specE_ok {P : Program} {f : FuncId} {S : FSpec} (h : FOk P f S) : (specE f S).Ok P := fun _ _ _ hk _ _ R _ => ctS_goes h hk R

/-! ### Steps of a proof: what a run is stuck at -/

theorem split_b {t : Bool} {A B : Bool} (h1 : t = true → A = true) (h2 : t = false → B = true) : (bif t then A else B) = true := by
  cases t
  · exact h2 rfl
  · exact h1 rfl

theorem split_dec {p : Prop} {i : Decidable p} {A B : Bool} (h1 : p → A = true) (h2 : ¬ p → B = true) : (bif decide p then A else B) = true := by
  by_cases h : p
  · rw [decide_eq_true h]; exact h1 h
  · rw [decide_eq_false h]; exact h2 h

theorem split_in {n : Int} {l : Nat} {A B : Bool} (h1 : 0 ≤ n → n < l → A = true) (h2 : ¬ (0 ≤ n ∧ n < l) → B = true) : (bif inRange n l then A else B) = true := by
  by_cases h : 0 ≤ n ∧ n < l
  · rw [inRange_iff.2 h]; exact h1 h.1 h.2
  · have : inRange n l = false := by
      cases hb : inRange n l with
      | false => rfl
      | true => exact absurd (inRange_iff.1 hb) h
    rw [this]; exact h2 h

theorem go_b {t : Bool} {A B : Bool} (h : t = true) (h1 : A = true) : (bif t then A else B) = true := by rw [h]; exact h1

theorem go_dec {p : Prop} {i : Decidable p} {A B : Bool} (h : p) (h1 : A = true) : (bif decide p then A else B) = true := by rw [decide_eq_true h]; exact h1

theorem no_dec {p : Prop} {i : Decidable p} {A B : Bool} (h : ¬ p) (h1 : B = true) : (bif decide p then A else B) = true := by rw [decide_eq_false h]; exact h1

theorem go_in {n : Int} {l : Nat} {A B : Bool} (h : 0 ≤ n ∧ n < l) (h1 : A = true) : (bif inRange n l then A else B) = true := by rw [inRange_iff.2 h]; exact h1

theorem go_D {D : Prop → Bool} (hD : ∀ p, D p = true ↔ p) {p : Prop} {A B : Bool} (hp : p) (h1 : A = true) : (bif D p then A else B) = true := by rw [(hD p).2 hp]; exact h1

theorem go_ct {r : Option Nat} {n : Nat} {F : Nat → Bool} (h : r = some n) (h1 : F n = true) : ctK r F = true := by rw [h]; exact h1

theorem go_lk {r : Option (Option Value)} {v : Option Value} {F : Option Value → Bool} (h : r = some v) (h1 : F v = true) : lkK r F = true := by rw [h]; exact h1

theorem go_en {r : Option Value} {v : Value} {F : SV → Bool} (h : r = some v) (h1 : F (.v v) = true) : enK r F = true := by rw [h]; exact h1

theorem go_by {r : Option (List UInt8)} {l : List UInt8} {F : List UInt8 → Bool} (h : r = some l) (h1 : F l = true) : byK r F = true := by rw [h]; exact h1

theorem bytesVs_u8 : ∀ (l : List UInt8), bytesVs (l.map fun b => Value.int .u8 b.toNat) = some l
  | [] => rfl
  | b :: l => by
    simp only [List.map_cons, bytesVs, bytesVs_u8 l, Int.toNat_natCast]
    rw [UInt8.ofNat_toNat]

theorem go_rd {r : Option (List Value)} {vs : List Value} {F : List Value → Bool} (h : r = some vs) (h1 : F vs = true) : rdK r F = true := by rw [h]; exact h1

end
end Go.Sx
