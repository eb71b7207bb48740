/-
  The symbolic executor: regions, code, calls.
-/
import Derived.Test.YtompigcfojbpkaaSxL
import Derived.LoopN
import Derived.Scope
namespace Go.Sx
noncomputable section
variable {dfs : List Deferred}

/-! ### Are two values spelled alike? -/

def cEq : SCap → SCap → Bool
  | .lit a, .lit b => decide (a = b)
  | .sub a d, .sub b e => decide (a = b) && decide (d = e)
  | _, _ => false

mutual
def svEq : SV → SV → Bool
  | .v (.int k a), .v (.int k' b) => kEq k k' && decide (a = b)
  | .v (.bool a), .v (.bool b) => decide (a = b)
  | .v (.string a), .v (.string b) => decide (a.data.toList = b.data.toList)
  | .v (.pointer a), .v (.pointer b) => decide (a = b)
  | .v (.slice a l c), .v (.slice b m d) => decide (a = b) && decide (l = m) && decide (c = d)
  | .v (.map a), .v (.map b) => decide (a = b)
  | .v .nilFunc, .v .nilFunc => true
  | .v .nilIface, .v .nilIface => true
  | .str l, .str m => decide (l = m)
  | .ptr b o, .ptr b' o' => decide (b = b') && decide (o = o')
  | .slc b o l c, .slc b' o' l' c' => decide (b = b') && decide (o = o') && decide (l = l') && cEq c c'
  | .mp b, .mp b' => decide (b = b')
  | .agg xs, .agg ys => svEqs xs ys
  | .tup xs, .tup ys => svEqs xs ys
  | .ifc t x, .ifc u y => decide (t = u) && svEq x y
  | .fn f xs, .fn g ys => decide (f = g) && svEqs xs ys
  | _, _ => false
def svEqs : List SV → List SV → Bool
  | [], [] => true
  | x :: xs, y :: ys => svEq x y && svEqs xs ys
  | _, _ => false
end

theorem cEq_eq {a b : SCap} (h : cEq a b = true) : a = b := by
  cases a <;> cases b <;> simp [cEq] at h
  · rw [h]
  · rw [h.1, h.2]

mutual
theorem svEq_eq : ∀ (x y : SV), svEq x y = true → x = y
  | .v x, .v y, h => by
    cases x <;> cases y <;> simp [svEq, kEq_iff] at h <;> first
      | rfl
      | (rw [h]; done)
      | (rw [h.1, h.2]; done)
      | (obtain ⟨⟨h1, h2⟩, h3⟩ := h; rw [h1, h2, h3]; done)
      | (congr 2; exact ByteArray.ext (Array.toList_inj.1 h))
      | (congr 2; exact ByteArray.ext h)
  | .str _, .str _, h => by simp only [svEq, decide_eq_true_eq] at h; rw [h]
  | .ptr _ _, .ptr _ _, h => by simp only [svEq, Bool.and_eq_true, decide_eq_true_eq] at h; rw [h.1, h.2]
  | .slc _ _ _ _, .slc _ _ _ _, h => by
    simp only [svEq, Bool.and_eq_true, decide_eq_true_eq] at h
    obtain ⟨⟨⟨h1, h2⟩, h3⟩, h4⟩ := h
    rw [h1, h2, h3, cEq_eq h4]
  | .mp _, .mp _, h => by simp only [svEq, decide_eq_true_eq] at h; rw [h]
  | .agg xs, .agg ys, h => by simp only [svEq] at h; rw [svEqs_eq xs ys h]
  | .tup xs, .tup ys, h => by simp only [svEq] at h; rw [svEqs_eq xs ys h]
  | .ifc _ x, .ifc _ y, h => by simp only [svEq, Bool.and_eq_true, decide_eq_true_eq] at h; rw [h.1, svEq_eq x y h.2]
  | .fn _ xs, .fn _ ys, h => by simp only [svEq, Bool.and_eq_true, decide_eq_true_eq] at h; rw [h.1, svEqs_eq xs ys h.2]
  | .v _, .str _, h | .v _, .ptr _ _, h | .v _, .slc _ _ _ _, h | .v _, .mp _, h | .v _, .agg _, h | .v _, .tup _, h | .v _, .ifc _ _, h | .v _, .fn _ _, h => by simp [svEq] at h
  | .str _, .v _, h | .str _, .ptr _ _, h | .str _, .slc _ _ _ _, h | .str _, .mp _, h | .str _, .agg _, h | .str _, .tup _, h | .str _, .ifc _ _, h | .str _, .fn _ _, h => by simp [svEq] at h
  | .ptr _ _, .v _, h | .ptr _ _, .str _, h | .ptr _ _, .slc _ _ _ _, h | .ptr _ _, .mp _, h | .ptr _ _, .agg _, h | .ptr _ _, .tup _, h | .ptr _ _, .ifc _ _, h | .ptr _ _, .fn _ _, h => by simp [svEq] at h
  | .slc _ _ _ _, .v _, h | .slc _ _ _ _, .str _, h | .slc _ _ _ _, .ptr _ _, h | .slc _ _ _ _, .mp _, h | .slc _ _ _ _, .agg _, h | .slc _ _ _ _, .tup _, h | .slc _ _ _ _, .ifc _ _, h | .slc _ _ _ _, .fn _ _, h => by simp [svEq] at h
  | .mp _, .v _, h | .mp _, .str _, h | .mp _, .ptr _ _, h | .mp _, .slc _ _ _ _, h | .mp _, .agg _, h | .mp _, .tup _, h | .mp _, .ifc _ _, h | .mp _, .fn _ _, h => by simp [svEq] at h
  | .agg _, .v _, h | .agg _, .str _, h | .agg _, .ptr _ _, h | .agg _, .slc _ _ _ _, h | .agg _, .mp _, h | .agg _, .tup _, h | .agg _, .ifc _ _, h | .agg _, .fn _ _, h => by simp [svEq] at h
  | .tup _, .v _, h | .tup _, .str _, h | .tup _, .ptr _ _, h | .tup _, .slc _ _ _ _, h | .tup _, .mp _, h | .tup _, .agg _, h | .tup _, .ifc _ _, h | .tup _, .fn _ _, h => by simp [svEq] at h
  | .ifc _ _, .v _, h | .ifc _ _, .str _, h | .ifc _ _, .ptr _ _, h | .ifc _ _, .slc _ _ _ _, h | .ifc _ _, .mp _, h | .ifc _ _, .agg _, h | .ifc _ _, .tup _, h | .ifc _ _, .fn _ _, h => by simp [svEq] at h
  | .fn _ _, .v _, h | .fn _ _, .str _, h | .fn _ _, .ptr _ _, h | .fn _ _, .slc _ _ _ _, h | .fn _ _, .mp _, h | .fn _ _, .agg _, h | .fn _ _, .tup _, h | .fn _ _, .ifc _ _, h => by simp [svEq] at h
theorem svEqs_eq : ∀ (l m : List SV), svEqs l m = true → l = m
  | [], [], _ => rfl
  | x :: xs, y :: ys, h => by simp only [svEqs, Bool.and_eq_true] at h; rw [svEq_eq x y h.1, svEqs_eq xs ys h.2]
  | [], _ :: _, h => by simp [svEqs] at h
  | _ :: _, [], h => by simp [svEqs] at h
end

/-! ### Slots and guards -/

def natK (n : Nat) (k : Nat → Bool) : Bool := Nat.rec (motive := fun _ => Bool) (k 0) (fun m _ => k (Nat.succ m)) n
theorem natK_eq (n : Nat) (k : Nat → Bool) : natK n k = k n := by cases n <;> rfl

def shutC (c : SCap) (k : SCap → Bool) : Bool := match c with
  | .lit c => natK c fun c => k (.lit c)
  | .sub b d => natK b fun b => natK d fun d => k (.sub b d)

/-- A value whose numbers are laid out. -/
def shutV (x : SV) (k : SV → Bool) : Bool := match x with
  | .ptr b o => natK b fun b => natK o fun o => k (.ptr b o)
  | .slc b o l c => natK b fun b => natK o fun o => natK l fun l => shutC c fun c => k (.slc b o l c)
  | .mp b => natK b fun b => k (.mp b)
  | x => k x

theorem shutV_eq (x : SV) (k : SV → Bool) : shutV x k = k x := by
  cases x with
  | ptr b o => simp only [shutV, natK_eq]
  | slc b o l c => cases c <;> simp only [shutV, shutC, natK_eq]
  | mp b => simp only [shutV, natK_eq]
  | _ => rfl

def shutH (h : HS) (k : HS → Bool) : Bool := match h with
  | ⟨H, nx, M⟩ => natK nx fun nx => k ⟨H, nx, M⟩

theorem shutH_eq (h : HS) (k : HS → Bool) : shutH h k = k h := by
  cases h; simp only [shutH, natK_eq]

def setDst (sz : Nat) (dst : Option Tmp) (v : SV) (F : T SV → Bool) (tm : T SV) : Bool :=
  match dst with
  | none => F tm
  | some d => bif Nat.blt d sz then shutV v (fun v => F (tm.set d v)) else false

theorem setDst_rel {sz : Nat} {dst : Option Tmp} {v : SV} {F : T SV → Bool} {tm : T SV} (h : setDst sz dst v F tm) {ρ : Nat → Loc} {nx : Nat} {a : Act} (A : ARel dfs ρ tm sz nx a) (hv : v.lt ρ nx) :
    ∃ tm', F tm' ∧ ARel dfs ρ tm' sz nx (a.put dst (v.den ρ)) := by
  unfold setDst at h
  split at h
  · exact ⟨tm, h, A⟩
  · rename_i d
    cases hb : Nat.blt d sz with
    | false => rw [hb] at h; exact absurd h Bool.false_ne_true
    | true => rw [hb] at h; rw [cond_true, shutV_eq] at h; exact ⟨_, h, A.put hv (Nat.le_of_ble_eq_true hb)⟩

def svUndef : SV := .v (.tuple #[])

/-- What is left of a state: K holds of it, and it goes on from where one was. -/
def Goes (dfs : List Deferred) (ρ : Nat → Loc) (h : HS) (sz : Nat) (K : T SV → HS → Bool) (a' : Act) (w' : World) : Prop :=
  ∃ tm' h' ρ', K tm' h' ∧ ARel dfs ρ' tm' sz h'.nx a' ∧ HRel ρ' h' w' ∧ Ext ρ ρ' h.nx ∧ h.nx ≤ h'.nx ∧ h.M.le h'.M

theorem Goes.trans {ρ ρ' : Nat → Loc} {h h' : HS} {sz : Nat} {K : T SV → HS → Bool} {a : Act} {w : World} (g : Goes dfs ρ' h' sz K a w) (hx : Ext ρ ρ' h.nx) (hn : h.nx ≤ h'.nx) (hm : h.M.le h'.M) : Goes dfs ρ h sz K a w := by
  obtain ⟨tm2, h2, ρ2, k, A, H, x, n, m⟩ := g
  exact ⟨tm2, h2, ρ2, k, A, H, hx.trans x hn, Nat.le_trans hn n, Mem.le_trans hm m⟩

/-! ### Operations in whatever order -/

/-- What is left of a state where something panics. -/
def GoesE (dfs : List Deferred) (ρ : Nat → Loc) (h : HS) (sz : Nat) (E : SV → T SV → HS → Bool) (c : List PanicEntry) (a' : Act) (w' : World) : Prop :=
  ∃ x tm' h' ρ', c = pnc (x.den ρ') ∧ x.lt ρ' h'.nx ∧ E x tm' h' ∧ ARel dfs ρ' tm' sz h'.nx a' ∧ HRel ρ' h' w' ∧ Ext ρ ρ' h.nx ∧ h.nx ≤ h'.nx ∧ h.M.le h'.M

theorem GoesE.trans {ρ ρ' : Nat → Loc} {h h' : HS} {sz : Nat} {E : SV → T SV → HS → Bool} {c : List PanicEntry} {a : Act} {w : World} (g : GoesE dfs ρ' h' sz E c a w) (hx : Ext ρ ρ' h.nx) (hn : h.nx ≤ h'.nx) (hm : h.M.le h'.M) : GoesE dfs ρ h sz E c a w := by
  obtain ⟨x, tm2, h2, ρ2, e, l, k, A, H, x', n, m⟩ := g
  exact ⟨x, tm2, h2, ρ2, e, l, k, A, H, hx.trans x' hn, Nat.le_trans hn n, Mem.le_trans hm m⟩

structure PendS where
  i : Nat
  o : Oper
  v : SV

def recheck (P : Program) (tm : T SV) (h : HS) : List PendS → Bool → Bool
  | [], X => X
  | p :: L, X => match readV P tm h p.o.op with
    | some v => bif svEq v p.v then recheck P tm h L X else false
    | none => false

theorem recheck_spec {P : Program} {tm : T SV} {h : HS} : ∀ {L : List PendS} {X : Bool}, recheck P tm h L X = true → X ∧ ∀ p ∈ L, readV P tm h p.o.op = some p.v := by
  intro L
  induction L with
  | nil => intro X h; exact ⟨h, fun _ h => by cases h⟩
  | cons p L ih =>
    intro X hx
    simp only [recheck] at hx
    split at hx
    · rename_i v hv
      cases he : svEq v p.v with
      | false => rw [he] at hx; exact absurd hx Bool.false_ne_true
      | true =>
        rw [he] at hx
        have := svEq_eq _ _ he
        subst this
        obtain ⟨h1, h2⟩ := ih hx
        exact ⟨h1, fun q hq => by
          rcases List.mem_cons.1 hq with rfl | hq
          · exact hv
          · exact h2 q hq⟩
    · exact absurd hx Bool.false_ne_true

def behind (cl : List Nat) (i j : Nat) : Bool := (cl.getD j 0).testBit i

def noClash (ops : Array Oper) (L : List PendS) (o : Oper) : Bool :=
  match o.dst with
  | none => true
  | some d => L.all fun p => !(p.o.looksAt ops).contains d

def HeldOf (P : Program) (cl : List Nat) (p : PendS) (ε : Operand → Value) (u : Value) : Held := ⟨behind cl p.i, fun w => (execOp ε p.o).run P w = .ok (.value u) w⟩

structure Fits (P : Program) (cl : List Nat) (ρ : Nat → Loc) (n : Nat) (a : Act) (p : PendS) (D : Held) (ε : Operand → Value) (u : Value) : Prop where
  eq : D = HeldOf P cl p ε u
  same : execOp a.eval p.o = execOp ε p.o
  val : u = p.v.den ρ
  lt : p.v.lt ρ n
  sel : ∀ cs b, p.o.op ≠ .select cs b

theorem noClash_same {ops : Array Oper} {L : List PendS} {o : Oper} (h : noClash ops L o = true) {p : PendS} (hp : p ∈ L) (hs : ∀ cs b, p.o.op ≠ .select cs b) (a : Act) (v : Value) : execOp (a.put o.dst v).eval p.o = execOp a.eval p.o := by
  refine execOp_put (ops := ops) p.o hs a o.dst v fun d hd => ?_
  unfold noClash at h
  rw [hd] at h
  have := List.all_eq_true.1 h p hp
  simpa using this

theorem readV_noSelect {P : Program} {tm : T SV} {h : HS} {op : Op} {v : SV} (hr : readV P tm h op = some v) : ∀ cs b, op ≠ .select cs b := by
  intro cs b e; subst e; simp [readV] at hr

end
end Go.Sx
