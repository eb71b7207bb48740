/-
  The symbolic executor: the same operations, cut so that the kernel looks at little text for each.
-/
import Derived.Test.YtompigcfojbpkaaSxM
namespace Go.Sx
noncomputable section
variable {dfs : List Deferred}

/-! ### Operations that look at the slots alone -/

def pfOne (f : SV → Option (Bool × SV)) (x : Option SV) : Option (Bool × SV) := match x with
  | some x => f x
  | none => none

def pfTwo (f : SV → SV → Option (Bool × SV)) (x y : Option SV) : Option (Bool × SV) := match x with
  | some x => match y with
    | some y => f x y
    | none => none
  | none => none

def pfPick (c a b : Option SV) : Option (Bool × SV) := match c, a, b with
  | some c, some a, some b => optT (pickV c a b)
  | some (.v (.bool true)), some a, none => some (true, a)
  | some (.v (.bool false)), none, some b => some (true, b)
  | _, _, _ => none

def pfBuild (P : Program) (tm : T SV) (t : TypeId) (parts : List (Nat × Operand)) : Option (Bool × SV) := match opds tm (parts.map (·.2)) with
  | some xs => optT (buildV P t ((parts.map (·.1)).zip xs))
  | none => none

def pfFunc (tm : T SV) (fn : Fn) (first captured : Array Operand) : Option (Bool × SV) := match fn with
  | .func f => bif first.isEmpty then (match opds tm captured.toList with
    | some xs => some (true, .fn f xs)
    | none => none) else none
  | _ => none

def pfSlice (P : Program) (tm : T SV) (t : TypeId) (x : Operand) (lo hi mx : Option Operand) : Option (Bool × SV) := match opd tm x, optOpd tm lo, optOpd tm hi, optOpd tm mx with
  | some x, some lo, some hi, some mx => sliceV P t x lo hi mx
  | _, _, _, _ => none

def pfUn (op : UnOp) (x : SV) : Option (Bool × SV) := optT (unV op x)
def pfConv (P : Program) (s d : TypeId) (x : SV) : Option (Bool × SV) := optT (convV P s d x)
def pfIfc (P : Program) (t : TypeId) (x : SV) : Option (Bool × SV) := optT (ifcV P t x)
def pfFieldAddr (P : Program) (t : TypeId) (i : Nat) (x : SV) : Option (Bool × SV) := optT (fieldAddrV P t x i)
def pfField (P : Program) (t : TypeId) (i : Nat) (x : SV) : Option (Bool × SV) := optT (fieldV P t x i)
def pfExtract (i : Nat) (x : SV) : Option (Bool × SV) := optT (extractV x i)

def pfAssert (P : Program) (t : TypeId) (ok : Bool) (x : SV) : Option (Bool × SV) := optT (assertV P t ok x)

def pureF (P : Program) (tm : T SV) (op : Op) : Option (Bool × SV) := match op with
  | .move x => optT (opd tm x)
  | .assign x => optT (opd tm x)
  | .pick c a b => pfPick (opd tm c) (opd tm a) (opd tm b)
  | .build t parts => pfBuild P tm t parts.toList
  | .nilCheck x => pfOne nilV (opd tm x)
  | .binOp op t x y _ => pfTwo (binV P op t (isCst y)) (opd tm x) (opd tm y)
  | .unOp op _ x => pfOne (pfUn op) (opd tm x)
  | .convert s d x => pfOne (pfConv P s d) (opd tm x)
  | .makeInterface t x => pfOne (pfIfc P t) (opd tm x)
  | .makeFunc fn first caps => pfFunc tm fn first caps
  | .slice t x lo hi mx => pfSlice P tm t x lo hi mx
  | .fieldAddr t x i => pfOne (pfFieldAddr P t i) (opd tm x)
  | .field t x i => pfOne (pfField P t i) (opd tm x)
  | .indexAddr t x i => pfTwo (indexAddrV P t) (opd tm x) (opd tm i)
  | .index t x i => pfTwo (indexV P t) (opd tm x) (opd tm i)
  | .extract x i => pfOne (pfExtract i) (opd tm x)
  | .typeAssert x _ t ok => pfOne (pfAssert P t ok) (opd tm x)
  | .call c => pureCall P tm c
  | _ => none

theorem pfTwo_eq (f : SV → SV → Option (Bool × SV)) (x y : Option SV) : pfTwo f x y = (match x, y with | some x, some y => f x y | _, _ => none) := by cases x <;> cases y <;> rfl

theorem pureF_eq (P : Program) (tm : T SV) (op : Op) : pureF P tm op = pureV P tm op := by
  cases op with
  | binOp op t x y u => exact pfTwo_eq _ _ _
  | indexAddr t x i => exact pfTwo_eq _ _ _
  | index t x i => exact pfTwo_eq _ _ _
  | makeFunc fn first caps => cases fn <;> rfl
  | _ => rfl

/-! ### Readings -/

def rfLoad (P : Program) (h : HS) (t : TypeId) (x : Option SV) : Option SV := match x with
  | some x => loadV P h t x
  | none => none

def rfLook (P : Program) (h : HS) (t : TypeId) (ok : Bool) (x k : Option SV) : Option SV := match x with
  | some x => match k with
    | some k => lookV P h t x k ok
    | none => none
  | none => none

def rfConv (P : Program) (h : HS) (s d : TypeId) (x : Option SV) : Option SV := match x with
  | some x => cvV P h s d x
  | none => none

def rfEntry (h : HS) (x : Option SV) : Option SV := match x with
  | some x => entryV h x
  | none => none

def readF (P : Program) (tm : T SV) (h : HS) (op : Op) : Option SV := match op with
  | .load t x => rfLoad P h t (opd tm x)
  | .lookup t x k ok => rfLook P h t ok (opd tm x) (opd tm k)
  | .convert s d x => rfConv P h s d (opd tm x)
  | .entry x => rfEntry h (opd tm x)
  | .call c => readV P tm h (.call c)
  | _ => none

theorem rfLook_eq (P : Program) (h : HS) (t : TypeId) (ok : Bool) (x k : Option SV) : rfLook P h t ok x k = (match x, k with | some x, some k => lookV P h t x k ok | _, _ => none) := by cases x <;> cases k <;> rfl

theorem readF_eq (P : Program) (tm : T SV) (h : HS) (op : Op) : readF P tm h op = readV P tm h op := by
  cases op with
  | lookup t x k ok => exact rfLook_eq _ _ _ _ _ _
  | _ => rfl

/-! ### The same, with what goes on: so that a load of the arena stands ahead of all else -/

def rdK (r : Option (List Value)) (F : List Value → Bool) : Bool := match r with
  | some vs => F vs
  | none => false

def oneK (vs : List Value) (F : SV → Bool) : Bool := match vs with
  | [v] => F (.v v)
  | _ => false

def optC (r : Option SV) (F : SV → Bool) : Bool := match r with
  | some v => F v
  | none => false

def loadC (P : Program) (h : HS) (t : TypeId) (x : SV) (F : SV → Bool) : Bool := match x with
  | .v (.pointer (some ⟨g, o, none⟩)) => bif h.M.X.op then (match ty P t with
      | some s => rdK (h.M.A.rd g o s.size) fun vs => bif TypeDesc.isAgg s.und then F (.v (.agg vs.toArray)) else oneK vs F
      | none => false) else optC (loadV P h t x) F
  | x => optC (loadV P h t x) F

theorem loadC_eq (P : Program) (h : HS) (t : TypeId) (x : SV) (F : SV → Bool) : loadC P h t x F = optC (loadV P h t x) F := by
  unfold loadC
  split
  · rename_i g o
    cases hop : h.M.X.op with
    | false => rfl
    | true =>
      simp only [cond_true]
      unfold loadV
      cases ht : ty P t with
      | none => rfl
      | some s =>
        simp only [hop, cond_true]
        unfold loadA rdK
        cases h.M.A.rd g o s.size with
        | none => rfl
        | some vs =>
          simp only
          cases TypeDesc.isAgg s.und with
          | true => rfl
          | false =>
            simp only [cond_false]
            match vs with
            | [] => rfl
            | [v] => rfl
            | _ :: _ :: _ => rfl
  · rfl

def readC (P : Program) (tm : T SV) (h : HS) (op : Op) (F : SV → Bool) : Bool := match op with
  | .load t x => (match opd tm x with
      | some x => loadC P h t x F
      | none => false)
  | op => optC (readF P tm h op) F

theorem readC_eq (P : Program) (tm : T SV) (h : HS) (op : Op) (F : SV → Bool) : readC P tm h op F = (match readV P tm h op with
  | some v => F v
  | none => false) := by
  unfold readC
  split
  · rename_i t x
    simp only [readV]
    cases opd tm x with
    | none => rfl
    | some x =>
      simp only [loadC_eq]
      rfl
  · rw [readF_eq]; rfl

/-! ### Effects -/

def efBox (h : HS) (t : TypeId) (K : SV → HS → Bool) (x : Option SV) : Bool := match x with
  | some x => boxV h t x K
  | none => false

def efStore (P : Program) (h : HS) (t : TypeId) (K : SV → HS → Bool) (a x : Option SV) : Bool := match a, x with
  | some a, some x => storeV P h t a x K
  | _, _ => false

def efMake (P : Program) (h : HS) (t : TypeId) (K : SV → HS → Bool) (l c : Option SV) : Bool := match l, c with
  | some l, some c => makeV P h t l c K
  | _, _ => false

def efPut (P : Program) (h : HS) (t : TypeId) (K : SV → HS → Bool) (m k v : Option SV) : Bool := match m, k, v with
  | some m, some k, some v => putV P h t m k v K
  | _, _, _ => false

def efRange (P : Program) (h : HS) (t : TypeId) (K : SV → HS → Bool) (x : Option SV) : Bool := match x with
  | some x => rangeV P h t x K
  | none => false

def efNext (h : HS) (i : Bool) (K : SV → HS → Bool) (x : Option SV) : Bool := match x with
  | some x => nextV h x i K
  | none => false

def efVal (call : CallT) (h : HS) (K E : SV → HS → Bool) (f : Option SV) (args : Option (List SV)) : Bool := match f with
  | some fv => match asFn fv, args with
    | some (f, caps), some xs => call f (xs ++ caps) h K E
    | _, _ => false
  | none => false

def efConv (P : Program) (h : HS) (s d : TypeId) (K : SV → HS → Bool) (x : Option SV) : Bool := match x with
  | some x => convE P h s d x K
  | none => false

def efCall (P : Program) (call : CallT) (tm : T SV) (h : HS) (c : Call) (K E : SV → HS → Bool) : Bool := match c.callee with
  | .value f => efVal call h K E (opd tm f) (opds tm c.args.toList)
  | _ => callV P call tm h c K E

def effF (P : Program) (call : CallT) (tm : T SV) (h : HS) (op : Op) (K E : SV → HS → Bool) : Bool := match op with
  | .alloc t => allocV P h t K
  | .box t x => efBox h t K (opd tm x)
  | .store t a x => efStore P h t K (opd tm a) (opd tm x)
  | .makeSlice t l c => efMake P h t K (opd tm l) (opd tm c)
  | .mapUpdate t m k v => efPut P h t K (opd tm m) (opd tm k) (opd tm v)
  | .insert t m k v => efPut P h t K (opd tm m) (opd tm k) (opd tm v)
  | .range t x => efRange P h t K (opd tm x)
  | .next x i => efNext h i K (opd tm x)
  | .call c => efCall P call tm h c K E
  | .convert s d x => efConv P h s d K (opd tm x)
  | op => effV P call tm h op K E

theorem efCall_eq (P : Program) (call : CallT) (tm : T SV) (h : HS) (c : Call) (K E : SV → HS → Bool) : efCall P call tm h c K E = callV P call tm h c K E := by
  unfold efCall
  split
  · rename_i f hf
    unfold callV
    rw [hf]
    rfl
  · rfl

theorem effF_eq (P : Program) (call : CallT) (tm : T SV) (h : HS) (op : Op) (K E : SV → HS → Bool) : effF P call tm h op K E = effV P call tm h op K E := by
  cases op with
  | call c => exact efCall_eq _ _ _ _ _ _ _
  | _ => rfl

/-! ### A slice of nothing at the end of a row whose capacity is open: two ways -/

def sliceA (P : Program) (t : TypeId) (x : SV) (lo hi : Option SV) : Option (SV × SV) :=
  match ty P t with
  | none => none
  | some s => match s.und with
    | .slice e => match ty P e with
      | none => none
      | some se => match x with
        | .slc b o len (.sub b' d) => match bounds len len lo hi none with
          | some (r, l, h, _) => bif r && Nat.beq l h then some (.slc b o 0 (.lit 0), .slc b (o + l * se.size) 0 (.sub b' (d + l))) else none
          | none => none
        | _ => none
    | _ => none

theorem sliceA_run {P : Program} {t : TypeId} {x A B : SV} {lo hi : Option SV} (h : sliceA P t x lo hi = some (A, B)) {ρ : Nat → Loc} {n : Nat} (hx : x.lt ρ n) :
    ∃ z, (z = A ∨ z = B) ∧ z.lt ρ n ∧ ∀ w, (Instr.sliceAt t (x.den ρ) (lo.map (SV.den ρ)) (hi.map (SV.den ρ)) none).run P w = .ok (z.den ρ) w := by
  unfold sliceA at h
  split at h
  · cases h
  · rename_i s hs
    split at h
    · rename_i e hd
      split at h
      · cases h
      · rename_i se hse
        split at h
        · rename_i b o len b' d
          have hlen : len ≤ (ρ b').cap - d := hx.2.2
          split at h
          · rename_i r l h' m hb
            cases hc : r && Nat.beq l h' with
            | false => rw [hc] at h; cases h
            | true =>
              rw [hc] at h
              simp only [cond_true, Option.some.injEq, Prod.mk.injEq] at h
              obtain ⟨rfl, rfl⟩ := h
              simp only [Bool.and_eq_true] at hc
              obtain ⟨h1, hz⟩ := hc
              have hz := Nat.eq_of_beq_eq_true hz
              subst hz
              have hb' : bounds len ((ρ b').cap - d) lo hi none = some (true, l, l, (ρ b').cap - d) := by
                unfold bounds at hb ⊢
                simp only at hb ⊢
                split at hb
                · rename_i li hv hl hh
                  injection hb with hb; injection hb with k1 hb; injection hb with k2 hb; injection hb with k3 k4
                  rw [h1] at k1
                  simp only [k2, k3]
                  simp only [Bool.and_eq_true, decide_eq_true_eq, Bool.or_eq_true] at k1
                  have : (decide (0 ≤ li) && decide (li ≤ hv) && (hi.isNone || decide (hv ≤ (((ρ b').cap - d : Nat) : Int)))) = true := by
                    simp only [Bool.and_eq_true, decide_eq_true_eq, Bool.or_eq_true]
                    exact ⟨k1.1, k1.2.imp id (fun _ => by omega)⟩
                  rw [this]
                · cases hb
              have hle : l ≤ len := by
                obtain ⟨_, _, g5, g6, _, g8⟩ := bounds_run (P := P) hb h1 ρ default true
                cases hi with
                | none => have := g8 rfl; omega
                | some _ => have := g5 rfl; have := g6 rfl; omega
              have hrun : ∀ w : World, (Instr.sliceAt t ((SV.slc b o len (.sub b' d)).den ρ) (lo.map (SV.den ρ)) (hi.map (SV.den ρ)) none).run P w =
                  .ok (.slice (if (ρ b').cap - d - l = 0 then some ⟨(ρ b).blk, (ρ b).off + o, none⟩ else some (Addr.add ⟨(ρ b).blk, (ρ b).off + o, none⟩ (l * se.size))) (l - l) ((ρ b').cap - d - l)) w := by
                intro w
                obtain ⟨h3, _⟩ := bounds_run (P := P) hb' rfl ρ w true
                simp only [Option.map_none] at h3
                have hu := r_underlying w hs
                simp only [Instr.sliceAt, Sem.run_bind, hu, hd, Result.andThen_ok, Instr.slice, SV.den, SCap.den]
                simp only [h3, r_sizeOf w hse, Result.andThen_ok, Sem.run_pure]
                congr 2
                by_cases h0 : (ρ b').cap - d - l = 0
                · rw [if_pos h0, if_pos (by omega)]
                · rw [if_neg h0, if_neg (by omega)]; rfl
              by_cases h0 : (ρ b').cap - d - l = 0
              · refine ⟨.slc b o 0 (.lit 0), .inl rfl, ⟨hx.1, trivial, Nat.zero_le _⟩, fun w => ?_⟩
                rw [hrun w, if_pos h0, h0]
                simp [SV.den, SCap.den]
              · refine ⟨.slc b (o + l * se.size) 0 (.sub b' (d + l)), .inr rfl, ⟨hx.1, hx.2.1, Nat.zero_le _⟩, fun w => ?_⟩
                rw [hrun w, if_neg h0]
                simp [SV.den, SCap.den, add_none, Nat.add_assoc, Nat.sub_add_eq]
          · cases h
        · cases h
    · cases h

def altF (P : Program) (tm : T SV) (op : Op) : Option (SV × SV) := match op with
  | .slice t x lo hi mx => match mx with
    | none => match opd tm x, optOpd tm lo, optOpd tm hi with
      | some x, some lo, some hi => sliceA P t x lo hi
      | _, _, _ => none
    | some _ => none
  | _ => none

theorem altF_run {P : Program} {tm : T SV} {op : Op} {A B : SV} (h : altF P tm op = some (A, B)) {ρ : Nat → Loc} {sz nx : Nat} {a : Act} (R : ARel dfs ρ tm sz nx a) (o : Oper) (ho : o.op = op) :
    ∃ z, (z = A ∨ z = B) ∧ z.lt ρ nx ∧ ∀ w, (execOp a.eval o).run P w = .ok (.value (z.den ρ)) w := by
  unfold altF at h
  split at h
  · split at h
    · split at h
      · rename_i x lo hi hx hlo hhi
        obtain ⟨h1, h2⟩ := opd_den R hx
        obtain ⟨z, k1, k2, k3⟩ := sliceA_run h h2
        refine ⟨z, k1, k2, fun w => ?_⟩
        unfold execOp
        rw [ho]
        have k3 := k3 w
        simp only [Sem.run_bind, h1, optOpd_den R hlo, optOpd_den R hhi, Option.map_none, k3, Result.andThen_ok, Sem.run_pure]
      · cases h
    · cases h
  · cases h

/-- Both ways. -/
def bothW (x : Option (SV × SV)) (F : SV → Bool) : Bool := match x with
  | some (a, b) => bif F a then F b else false
  | none => false

theorem bothW_of {x : Option (SV × SV)} {F : SV → Bool} (h : bothW x F = true) : ∃ a b, x = some (a, b) ∧ F a = true ∧ F b = true := by
  unfold bothW at h
  split at h
  · rename_i a b
    cases ha : F a with
    | false => rw [ha] at h; exact absurd h Bool.false_ne_true
    | true => rw [ha] at h; exact ⟨a, b, rfl, ha, h⟩
  · exact absurd h Bool.false_ne_true

end
end Go.Sx
