/-
  The symbolic executor: the same operations, cut so that the kernel looks at little text for each.
-/
import Derived.Test.YtkiglchagnbpaaaDoorSxM
namespace Go.Sx
noncomputable section

/-! ### Operations that look at the slots alone -/

def pfOne (f : SV → Option (Bool × SV)) (x : Option SV) : Option (Bool × SV) := match x with
  | some x => f x
  | none => none

def pfTwo (f : SV → SV → Option (Bool × SV)) (x y : Option SV) : Option (Bool × SV) := match x with
  | some x => match y with
    | some y => f x y
    | none => none
  | none => none

def pfPick (c a b : Option SV) : Option (Bool × SV) := match c, a, b with
  | some c, some a, some b => optT (pickV c a b)
  | some (.v (.bool true)), some a, none => some (true, a)
  | some (.v (.bool false)), none, some b => some (true, b)
  | _, _, _ => none

def pfBuild (P : Program) (tm : T SV) (t : TypeId) (parts : List (Nat × Operand)) : Option (Bool × SV) := match opds tm (parts.map (·.2)) with
  | some xs => optT (buildV P t ((parts.map (·.1)).zip xs))
  | none => none

def pfFunc (tm : T SV) (fn : Fn) (first captured : Array Operand) : Option (Bool × SV) := match fn with
  | .func f => bif first.isEmpty then (match opds tm captured.toList with
    | some xs => some (true, .fn f xs)
    | none => none) else none
  | _ => none

def pfSlice (P : Program) (tm : T SV) (t : TypeId) (x : Operand) (lo hi mx : Option Operand) : Option (Bool × SV) := match opd tm x, optOpd tm lo, optOpd tm hi, optOpd tm mx with
  | some x, some lo, some hi, some mx => sliceV P t x lo hi mx
  | _, _, _, _ => none

def pfUn (op : UnOp) (x : SV) : Option (Bool × SV) := optT (unV op x)
def pfConv (P : Program) (s d : TypeId) (x : SV) : Option (Bool × SV) := optT (convV P s d x)
def pfIfc (P : Program) (t : TypeId) (x : SV) : Option (Bool × SV) := optT (ifcV P t x)
def pfFieldAddr (P : Program) (t : TypeId) (i : Nat) (x : SV) : Option (Bool × SV) := optT (fieldAddrV P t x i)
def pfField (P : Program) (t : TypeId) (i : Nat) (x : SV) : Option (Bool × SV) := optT (fieldV P t x i)
def pfExtract (i : Nat) (x : SV) : Option (Bool × SV) := optT (extractV x i)

def pureF (P : Program) (tm : T SV) (op : Op) : Option (Bool × SV) := match op with
  | .move x => optT (opd tm x)
  | .assign x => optT (opd tm x)
  | .pick c a b => pfPick (opd tm c) (opd tm a) (opd tm b)
  | .build t parts => pfBuild P tm t parts.toList
  | .nilCheck x => pfOne nilV (opd tm x)
  | .binOp op t x y _ => pfTwo (binV P op t (isCst y)) (opd tm x) (opd tm y)
  | .unOp op _ x => pfOne (pfUn op) (opd tm x)
  | .convert s d x => pfOne (pfConv P s d) (opd tm x)
  | .makeInterface t x => pfOne (pfIfc P t) (opd tm x)
  | .makeFunc fn first caps => pfFunc tm fn first caps
  | .slice t x lo hi mx => pfSlice P tm t x lo hi mx
  | .fieldAddr t x i => pfOne (pfFieldAddr P t i) (opd tm x)
  | .field t x i => pfOne (pfField P t i) (opd tm x)
  | .indexAddr t x i => pfTwo (indexAddrV P t) (opd tm x) (opd tm i)
  | .index t x i => pfTwo (indexV P t) (opd tm x) (opd tm i)
  | .extract x i => pfOne (pfExtract i) (opd tm x)
  | .call c => pureCall P tm c
  | _ => none

theorem pfTwo_eq (f : SV → SV → Option (Bool × SV)) (x y : Option SV) : pfTwo f x y = (match x, y with | some x, some y => f x y | _, _ => none) := by cases x <;> cases y <;> rfl

theorem pureF_eq (P : Program) (tm : T SV) (op : Op) : pureF P tm op = pureV P tm op := by
  cases op with
  | binOp op t x y u => exact pfTwo_eq _ _ _
  | indexAddr t x i => exact pfTwo_eq _ _ _
  | index t x i => exact pfTwo_eq _ _ _
  | makeFunc fn first caps => cases fn <;> rfl
  | _ => rfl

/-! ### Readings -/

def rfLoad (P : Program) (h : HS) (t : TypeId) (x : Option SV) : Option SV := match x with
  | some x => loadV P h t x
  | none => none

def rfLook (P : Program) (h : HS) (t : TypeId) (ok : Bool) (x k : Option SV) : Option SV := match x with
  | some x => match k with
    | some k => lookV P h t x k ok
    | none => none
  | none => none

def rfConv (P : Program) (h : HS) (s d : TypeId) (x : Option SV) : Option SV := match x with
  | some x => strOfV P h s d x
  | none => none

def rfEntry (h : HS) (x : Option SV) : Option SV := match x with
  | some x => entryV h x
  | none => none

def readF (P : Program) (tm : T SV) (h : HS) (op : Op) : Option SV := match op with
  | .load t x => rfLoad P h t (opd tm x)
  | .lookup t x k ok => rfLook P h t ok (opd tm x) (opd tm k)
  | .convert s d x => rfConv P h s d (opd tm x)
  | .entry x => rfEntry h (opd tm x)
  | .call c => readV P tm h (.call c)
  | _ => none

theorem rfLook_eq (P : Program) (h : HS) (t : TypeId) (ok : Bool) (x k : Option SV) : rfLook P h t ok x k = (match x, k with | some x, some k => lookV P h t x k ok | _, _ => none) := by cases x <;> cases k <;> rfl

theorem readF_eq (P : Program) (tm : T SV) (h : HS) (op : Op) : readF P tm h op = readV P tm h op := by
  cases op with
  | lookup t x k ok => exact rfLook_eq _ _ _ _ _ _
  | _ => rfl

/-! ### Effects -/

def efBox (h : HS) (K : SV → HS → Prop) (x : Option SV) : Prop := match x with
  | some x => boxV h x K
  | none => False

def efStore (P : Program) (h : HS) (t : TypeId) (K : SV → HS → Prop) (a x : Option SV) : Prop := match a, x with
  | some a, some x => storeV P h t a x K
  | _, _ => False

def efMake (P : Program) (h : HS) (t : TypeId) (K : SV → HS → Prop) (l c : Option SV) : Prop := match l, c with
  | some l, some c => makeV P h t l c K
  | _, _ => False

def efPut (P : Program) (h : HS) (t : TypeId) (K : SV → HS → Prop) (m k v : Option SV) : Prop := match m, k, v with
  | some m, some k, some v => putV P h t m k v K
  | _, _, _ => False

def efRange (P : Program) (h : HS) (t : TypeId) (K : SV → HS → Prop) (x : Option SV) : Prop := match x with
  | some x => rangeV P h t x K
  | none => False

def efNext (h : HS) (i : Bool) (K : SV → HS → Prop) (x : Option SV) : Prop := match x with
  | some x => nextV h x i K
  | none => False

def efVal (call : CallT) (h : HS) (K : SV → HS → Prop) (f : Option SV) (args : Option (List SV)) : Prop := match f with
  | some fv => match asFn fv, args with
    | some (f, caps), some xs => call f (xs ++ caps) h K
    | _, _ => False
  | none => False

def efConv (P : Program) (h : HS) (s d : TypeId) (K : SV → HS → Prop) (x : Option SV) : Prop := match x with
  | some x => convE P h s d x K
  | none => False

def efCall (P : Program) (call : CallT) (tm : T SV) (h : HS) (c : Call) (K : SV → HS → Prop) : Prop := match c.callee with
  | .value f => efVal call h K (opd tm f) (opds tm c.args.toList)
  | _ => callV P call tm h c K

def effF (P : Program) (call : CallT) (tm : T SV) (h : HS) (op : Op) (K : SV → HS → Prop) : Prop := match op with
  | .alloc t => allocV P h t K
  | .box _ x => efBox h K (opd tm x)
  | .store t a x => efStore P h t K (opd tm a) (opd tm x)
  | .makeSlice t l c => efMake P h t K (opd tm l) (opd tm c)
  | .mapUpdate t m k v => efPut P h t K (opd tm m) (opd tm k) (opd tm v)
  | .insert t m k v => efPut P h t K (opd tm m) (opd tm k) (opd tm v)
  | .range t x => efRange P h t K (opd tm x)
  | .next x i => efNext h i K (opd tm x)
  | .call c => efCall P call tm h c K
  | .convert s d x => efConv P h s d K (opd tm x)
  | op => effV P call tm h op K

theorem efCall_eq (P : Program) (call : CallT) (tm : T SV) (h : HS) (c : Call) (K : SV → HS → Prop) : efCall P call tm h c K = callV P call tm h c K := by
  unfold efCall
  split
  · rename_i f hf
    unfold callV
    rw [hf]
    rfl
  · rfl

theorem effF_eq (P : Program) (call : CallT) (tm : T SV) (h : HS) (op : Op) (K : SV → HS → Prop) : effF P call tm h op K = effV P call tm h op K := by
  cases op with
  | call c => exact efCall_eq _ _ _ _ _ _
  | _ => rfl

end
end Go.Sx
