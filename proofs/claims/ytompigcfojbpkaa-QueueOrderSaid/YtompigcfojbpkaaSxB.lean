/-
  The symbolic executor: operations that only reckon with what the slots hold.
-/
import Derived.Test.YtompigcfojbpkaaSxA
import Derived.Laws.Entries
import Derived.Laws.Strings
namespace Go.Sx
noncomputable section
variable {dfs : List Deferred}

/-! ### The program's tables -/

structure STy where
  und : TypeDesc
  size : Nat
  bytes : Nat
  zero : Value

/-! Lists looked up by number: in strides of sixteen. -/

def nth {α : Type} (l : List α) : Nat → Option α :=
  List.rec (motive := fun _ => Nat → Option α) (fun _ => none) (fun x _ ih n => Nat.rec (motive := fun _ => Option α) (some x) (fun m _ => ih m) n) l

theorem nth_eq {α : Type} : ∀ (l : List α) (n : Nat), nth l n = l[n]?
  | [], _ => rfl
  | _ :: _, 0 => rfl
  | _ :: xs, n + 1 => nth_eq xs n

def dropN {α : Type} (n : Nat) : List α → List α :=
  Nat.rec (motive := fun _ => List α → List α) (fun l => l) (fun _ ih l => List.rec (motive := fun _ => List α) [] (fun _ xs _ => ih xs) l) n

theorem dropN_eq {α : Type} : ∀ (n : Nat) (l : List α), dropN n l = l.drop n
  | 0, _ => rfl
  | _ + 1, [] => rfl
  | n + 1, _ :: xs => dropN_eq n xs

def stride {α : Type} (n : Nat) : List α → List α :=
  Nat.rec (motive := fun _ => List α → List α) (fun l => l) (fun _ ih l => dropN 16 (ih l)) n

theorem stride_eq {α : Type} (l : List α) : ∀ (n : Nat), stride n l = l.drop (16 * n)
  | 0 => rfl
  | n + 1 => by
    show dropN 16 (stride n l) = _
    rw [dropN_eq, stride_eq l n, List.drop_drop]
    congr 1

def far {α : Type} (l : List α) (i : Nat) : Option α := nth (stride (Nat.div i 16) l) (Nat.mod i 16)

theorem far_eq {α : Type} (l : List α) (i : Nat) : far l i = l[i]? := by
  unfold far
  rw [nth_eq, stride_eq, List.getElem?_drop]
  congr 1
  exact Nat.div_add_mod i 16

def tyI (P : Program) (t : TypeId) : Option TypeInfo := match far P.types.toList t with
  | some i => some i
  | none => P.info? t

theorem tyI_eq (P : Program) (t : TypeId) : tyI P t = P.info? t := by
  unfold tyI
  split
  · rename_i i h
    rw [far_eq, Array.getElem?_toList] at h
    unfold Tables.info?
    have := (Array.getElem?_eq_some_iff.1 h).1
    rw [if_pos this, h]
  · rfl

def ty (P : Program) (t : TypeId) : Option STy :=
  match tyI P t with
  | none => none
  | some i => match i.zero with
    | none => none
    | some z => match i.desc with
      | .named _ u => match tyI P u with
        | some j => some ⟨j.desc, i.size, i.bytes, z⟩
        | none => none
      | d => some ⟨d, i.size, i.bytes, z⟩

def fnOf (P : Program) (f : FuncId) : Option Func := far P.funcs.toList f

theorem fn_of {P : Program} {f : FuncId} {fn : Func} (h : fnOf P f = some fn) : P.funcs[f]? = some fn := by
  unfold fnOf at h
  rw [far_eq] at h
  simpa using h

structure TyFacts (P : Program) (t : TypeId) (s : STy) : Prop where
  und : P.underlying t = some s.und
  info : ∃ i, P.info? t = some i ∧ i.size = s.size ∧ i.bytes = s.bytes ∧ i.zero = some s.zero

theorem ty_facts {P : Program} {t : TypeId} {s : STy} (h : ty P t = some s) : TyFacts P t s := by
  unfold ty at h
  simp only [tyI_eq] at h
  split at h
  · cases h
  · rename_i i hi
    split at h
    · cases h
    · rename_i z hz
      split at h
      · rename_i n u hd
        split at h
        · rename_i j hj
          injection h with h; subst h
          refine ⟨?_, i, hi, rfl, rfl, hz⟩
          unfold Program.underlying
          rw [hi]
          obtain ⟨d⟩ := i
          simp only at hd
          subst hd
          simp [hj]
        · cases h
      · rename_i hd
        injection h with h; subst h
        refine ⟨?_, i, hi, rfl, rfl, hz⟩
        unfold Program.underlying
        rw [hi]
        split
        · rename_i n u _ _ _ _ _ _ _ _ he
          injection he with he
          subst he
          exact absurd rfl (hd _ _)
        · rename_i he
          injection he with he; subst he; rfl
        · rename_i he; cases he

section
variable {P : Program} {t : TypeId} {s : STy} (w : World)

theorem r_underlying (h : ty P t = some s) : (underlying t).run P w = .ok s.und w := run_underlying (ty_facts h).und w
theorem r_typeInfo (h : ty P t = some s) : ∃ i, (typeInfo t).run P w = .ok i w ∧ i.size = s.size ∧ i.bytes = s.bytes ∧ i.zero = some s.zero := by
  obtain ⟨i, hi, h1, h2, h3⟩ := (ty_facts h).info
  exact ⟨i, by simp [typeInfo, hi], h1, h2, h3⟩
theorem r_sizeOf (h : ty P t = some s) : (sizeOf t).run P w = .ok s.size w := by
  obtain ⟨i, hi, h1, _⟩ := r_typeInfo w h
  simp [sizeOf, hi, h1]
theorem r_zeroValue (h : ty P t = some s) : (zeroValue t).run P w = .ok s.zero w := by
  obtain ⟨i, hi, _, _, h3⟩ := r_typeInfo w h
  simp [zeroValue, hi, h3]

def TypeDesc.isAgg : TypeDesc → Bool
  | .struct _ | .array _ _ => true
  | _ => false

theorem r_isAgg (h : ty P t = some s) : (isAgg t).run P w = .ok (TypeDesc.isAgg s.und) w := by
  simp only [isAgg, Sem.run_bind, r_underlying w h, Result.andThen_ok]
  cases s.und <;> rfl
end

/-! ### Operands -/

def opd (tm : T SV) : Operand → Option SV
  | .tmp t => tm.get t
  | .const v => some (.v v)
  | .global g => some (.v (.pointer (some ⟨g, 0, none⟩)))
  | .func f => some (.fn f [])

theorem opd_den {ρ : Nat → Loc} {tm : T SV} {sz nx : Nat} {a : Act} (A : ARel dfs ρ tm sz nx a) {x : Operand} {v : SV} (h : opd tm x = some v) : a.eval x = v.den ρ ∧ v.lt ρ nx := by
  cases x with
  | tmp t =>
    obtain ⟨h1, h2⟩ := A.at_ t v h
    exact ⟨by simp [Act.eval, h2], h1⟩
  | const c => injection h with h; subst h; exact ⟨rfl, trivial⟩
  | global g => injection h with h; subst h; exact ⟨rfl, trivial⟩
  | func f => injection h with h; subst h; exact ⟨rfl, trivial⟩

def opds (tm : T SV) : List Operand → Option (List SV)
  | [] => some []
  | x :: xs => match opd tm x with
    | none => none
    | some v => match opds tm xs with
      | none => none
      | some vs => some (v :: vs)

theorem opds_den {ρ : Nat → Loc} {tm : T SV} {sz nx : Nat} {a : Act} (A : ARel dfs ρ tm sz nx a) : ∀ (l : List Operand) (vs : List SV), opds tm l = some vs →
    l.map a.eval = vs.map (SV.den ρ) ∧ ∀ v ∈ vs, v.lt ρ nx := by
  intro l
  induction l with
  | nil => intro vs h; injection h with h; subst h; exact ⟨rfl, fun _ h => by cases h⟩
  | cons x xs ih =>
    intro vs h
    unfold opds at h
    split at h
    · cases h
    · rename_i v hv
      split at h
      · cases h
      · rename_i us hus
        injection h with h; subst h
        obtain ⟨h1, h2⟩ := opd_den A hv
        obtain ⟨h3, h4⟩ := ih us hus
        exact ⟨by simp [h1, h3], fun y hy => (by
          rcases List.mem_cons.1 hy with rfl | hy
          · exact h2
          · exact h4 y hy)⟩

/-! ### What shapes values have -/

def SV.str? : SV → Option (List UInt8)
  | .str l => some l
  | .v (.string s) => some s.data.toList
  | _ => none

theorem SV.str?_den {ρ : Nat → Loc} {x : SV} {l : List UInt8} (h : x.str? = some l) : x.den ρ = .string ⟨l.toArray⟩ := by
  unfold SV.str? at h
  split at h
  · injection h with h; subst h; rfl
  · injection h with h; subst h; rfl
  · cases h

def SV.int? : SV → Option (IntKind × Int)
  | .v (.int k n) => some (k, n)
  | _ => none

theorem SV.int?_den {ρ : Nat → Loc} {x : SV} {k : IntKind} {n : Int} (h : x.int? = some (k, n)) : x.den ρ = .int k n := by
  unfold SV.int? at h
  split at h
  · injection h with h; injection h with h1 h2; subst h1; subst h2; rfl
  · cases h

def beqL : List UInt8 → List UInt8 → Bool
  | [], [] => true
  | a :: l, b :: m => bif Nat.beq a.toNat b.toNat then beqL l m else false
  | _, _ => false

theorem beqL_eq : ∀ (l m : List UInt8), beqL l m = (l == m)
  | [], [] => rfl
  | [], _ :: _ => rfl
  | _ :: _, [] => rfl
  | a :: l, b :: m => by
    have ih := beqL_eq l m
    simp only [beqL, ih]
    by_cases h : a = b
    · subst h; simp [Nat.beq_refl]
    · have : Nat.beq a.toNat b.toNat = false := by
        cases hb : Nat.beq a.toNat b.toNat with
        | false => rfl
        | true => exact absurd (UInt8.toNat_inj.1 (Nat.eq_of_beq_eq_true hb)) h
      simp [this, h]

def ltL : List UInt8 → List UInt8 → Bool
  | _, [] => false
  | [], _ :: _ => true
  | a :: l, b :: m => bif Nat.blt a.toNat b.toNat then true else (bif Nat.beq a.toNat b.toNat then ltL l m else false)

theorem ltL_eq : ∀ (l m : List UInt8), ltL l m = Op.bytesLess l m
  | [], [] => rfl
  | _ :: _, [] => rfl
  | [], _ :: _ => rfl
  | a :: l, b :: m => by
    have ih := ltL_eq l m
    simp only [ltL, Op.bytesLess, ih]
    have h1 : Nat.blt a.toNat b.toNat = decide (a < b) := by
      by_cases hlt : a < b
      · have h' : a.toNat < b.toNat := UInt8.lt_iff_toNat_lt.1 hlt
        rw [decide_eq_true hlt]
        exact Nat.ble_eq.mpr h'
      · have h' : ¬ a.toNat < b.toNat := fun h => hlt (UInt8.lt_iff_toNat_lt.2 h)
        rw [decide_eq_false hlt]
        cases hb : Nat.blt a.toNat b.toNat with
        | false => rfl
        | true => exact absurd (Nat.le_of_ble_eq_true hb) h'
    have h2 : Nat.beq a.toNat b.toNat = (a == b) := by
      by_cases h : a = b
      · subst h; simp [Nat.beq_refl]
      · have : Nat.beq a.toNat b.toNat = false := by
          cases hb : Nat.beq a.toNat b.toNat with
          | false => rfl
          | true => exact absurd (UInt8.toNat_inj.1 (Nat.eq_of_beq_eq_true hb)) h
        simp [this, h]
    rw [h1, h2]
    cases decide (a < b) <;> cases (a == b) <;> simp

/-! ### Numbers -/

def bitsOf (op : BinOp) (k : IntKind) (a b : Int) : Int :=
  let x := BitVec.ofInt k.bits a
  let y := BitVec.ofInt k.bits b
  match op with
  | .and => k.wrap (x &&& y).toNat
  | .or => k.wrap (x ||| y).toNat
  | .xor => k.wrap (x ^^^ y).toNat
  | _ => k.wrap (x &&& ~~~y).toNat

def kEq : IntKind → IntKind → Bool
  | .i8, .i8 | .i16, .i16 | .i32, .i32 | .i64, .i64 | .u8, .u8 | .u16, .u16 | .u32, .u32 | .u64, .u64 => true
  | _, _ => false

theorem kEq_iff {k k' : IntKind} : kEq k k' = true ↔ k = k' := by cases k <;> cases k' <;> decide

/-- An integer operation: what it asks, and what it gives. -/
def intBin (op : BinOp) (k k' : IntKind) (a b : Int) : Option (Bool × SV) :=
  match op with
  | .shl => some (decide (0 ≤ b), .v (.int k (k.wrap (a * 2 ^ (min b.toNat k.bits)))))
  | .shr => some (decide (0 ≤ b), .v (.int k (a.fdiv (2 ^ (min b.toNat k.bits)))))
  | .add => some (kEq k k', .v (.int k (k.wrap (a + b))))
  | .sub => some (kEq k k', .v (.int k (k.wrap (a - b))))
  | .mul => some (kEq k k', .v (.int k (k.wrap (a * b))))
  | .quo => some (kEq k k' && !decide (b = 0), .v (.int k (k.wrap (a.tdiv b))))
  | .rem => some (kEq k k' && !decide (b = 0), .v (.int k (a.tmod b)))
  | .and => some (kEq k k', .v (.int k (bitsOf .and k a b)))
  | .or => some (kEq k k', .v (.int k (bitsOf .or k a b)))
  | .xor => some (kEq k k', .v (.int k (bitsOf .xor k a b)))
  | .andNot => some (kEq k k', .v (.int k (bitsOf .andNot k a b)))
  | .eql => some (kEq k k', .v (.bool (decide (a = b))))
  | .neq => some (kEq k k', .v (.bool (!decide (a = b))))
  | .lss => some (kEq k k', .v (.bool (decide (a < b))))
  | .leq => some (kEq k k', .v (.bool (decide (a ≤ b))))
  | .gtr => some (kEq k k', .v (.bool (decide (b < a))))
  | .geq => some (kEq k k', .v (.bool (decide (b ≤ a))))

theorem intBin_run {P : Program} {op : BinOp} {k k' : IntKind} {a b : Int} {r : Bool} {x : SV} (h : intBin op k k' a b = some (r, x)) (hr : r = true) (t : TypeId) (ρ : Nat → Loc) (w : World) :
    (binOp op t (.int k a) (.int k' b)).run P w = .ok (x.den ρ) w := by
  subst hr
  cases op <;> simp only [intBin, Option.some.injEq, Prod.mk.injEq, Bool.and_eq_true, kEq_iff, Bool.not_eq_true', decide_eq_true_eq, decide_eq_false_iff_not] at h <;> obtain ⟨h, rfl⟩ := h
  case shl => simp [binOp, Op.shift, SV.den, show ¬ b < 0 by omega]
  case shr => simp [binOp, Op.shift, SV.den, show ¬ b < 0 by omega]
  case quo => obtain ⟨rfl, h⟩ := h; simp [binOp, Op.intDiv, h, SV.den]
  case rem => obtain ⟨rfl, h⟩ := h; simp [binOp, Op.intDiv, h, SV.den]
  all_goals (subst h; simp [binOp, Op.intArith, Op.intBits, Op.intCmp, bitsOf, SV.den])
  all_goals (by_cases hab : a = b <;> simp [hab])

theorem intBin_lt {op : BinOp} {k k' : IntKind} {a b : Int} {r : Bool} {x : SV} (h : intBin op k k' a b = some (r, x)) (ρ : Nat → Loc) (n : Nat) : x.lt ρ n := by
  cases op <;> simp only [intBin, Option.some.injEq, Prod.mk.injEq] at h <;> obtain ⟨_, rfl⟩ := h <;> trivial

/-! ### Strings -/

def strBin (op : BinOp) (l m : List UInt8) : Option (Bool × SV) :=
  match op with
  | .add => some (Nat.ble (l.length + m.length) 9223372036854775807, .str (l ++ m))
  | .eql => some (true, .v (.bool (beqL l m)))
  | .neq => some (true, .v (.bool (!beqL l m)))
  | .lss => some (true, .v (.bool (ltL l m)))
  | .leq => some (true, .v (.bool (ltL l m || beqL l m)))
  | .gtr => some (true, .v (.bool (!(ltL l m || beqL l m))))
  | .geq => some (true, .v (.bool (!ltL l m)))
  | _ => none

theorem strBin_run {P : Program} {op : BinOp} {l m : List UInt8} {r : Bool} {x : SV} (h : strBin op l m = some (r, x)) (hr : r = true) (t : TypeId) (ρ : Nat → Loc) (w : World) :
    (binOp op t (.string ⟨l.toArray⟩) (.string ⟨m.toArray⟩)).run P w = .ok (x.den ρ) w := by
  subst hr
  have e1 : (⟨l.toArray⟩ : ByteArray).toList = l := by rw [ByteArray.toList_eq]
  have e2 : (⟨m.toArray⟩ : ByteArray).toList = m := by rw [ByteArray.toList_eq]
  cases op <;> simp only [strBin, Option.some.injEq, Prod.mk.injEq, reduceCtorEq] at h <;> obtain ⟨h, rfl⟩ := h
  case add =>
    have h := Nat.le_of_ble_eq_true h
    have hs : ¬ ((((⟨l.toArray⟩ : ByteArray).size + (⟨m.toArray⟩ : ByteArray).size : Nat) : Int) > IntKind.i64.max) := by
      show ¬ (((l.toArray.size + m.toArray.size : Nat) : Int) > 9223372036854775807)
      simp only [List.size_toArray]; omega
    have hap : (⟨l.toArray⟩ : ByteArray) ++ ⟨m.toArray⟩ = ⟨(l ++ m).toArray⟩ := by
      apply ByteArray.ext
      simp
    simp only [binOp, Op.stringOp, if_neg hs, hap, SV.den]
    rfl
  all_goals simp only [binOp, Op.stringOp, e1, e2, SV.den, beqL_eq, ltL_eq]
  all_goals rfl

theorem strBin_lt {op : BinOp} {l m : List UInt8} {r : Bool} {x : SV} (h : strBin op l m = some (r, x)) (ρ : Nat → Loc) (n : Nat) : x.lt ρ n := by
  cases op <;> simp only [strBin, Option.some.injEq, Prod.mk.injEq, reduceCtorEq] at h <;> obtain ⟨_, rfl⟩ := h <;> trivial

end
end Go.Sx
