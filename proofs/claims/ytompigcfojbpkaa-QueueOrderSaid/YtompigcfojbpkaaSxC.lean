/-
  The symbolic executor: all operations that look at the slots alone.
-/
import Derived.Test.YtompigcfojbpkaaSxB
import Derived.LaidEql
import Derived.Laws.StructEq
import Derived.Laws.Slices
import Derived.Lib.IndexBytes
namespace Go.Sx
noncomputable section

/-! ### Equality -/

/-- Flat structs: each field one cell that holds a number, a bool or a string. -/
def eqCells : List Field → List SV → List SV → Nat → (Nat → Option STy) → Option Bool
  | [], _, _, _, _ => some true
  | f :: fs, x :: xs, y :: ys, i, tys =>
    bif !(Nat.beq f.offset i) || (f.name == "_") then none else
    match tys f.type with
    | none => none
    | some s =>
      match s.und, x, y with
      | .bool, .v (.bool a), .v (.bool b) => (eqCells fs xs ys (i + 1) tys).map fun r => (a == b) && r
      | .int _, .v (.int k a), .v (.int k' b) => bif kEq k k' then (eqCells fs xs ys (i + 1) tys).map fun r => decide (a = b) && r else none
      | .string, x, y => match x.str?, y.str? with
        | some l, some m => (eqCells fs xs ys (i + 1) tys).map fun r => beqL l m && r
        | _, _ => none
      | _, _, _ => none
  | _ :: _, _, _, _, _ => none

def plainEq (P : Program) (t : TypeId) : Bool := !P.eqGuardType P.depth t && !P.stoodInHeld t

def isPtr : TypeDesc → Bool | .pointer _ => true | _ => false
def isSlc : TypeDesc → Bool | .slice _ => true | _ => false
def isMp : TypeDesc → Bool | .map _ _ => true | _ => false
def isFn : TypeDesc → Bool | .func _ _ _ => true | _ => false
def isIfc : TypeDesc → Bool | .interface _ => true | _ => false
def isBl : TypeDesc → Bool | .bool => true | _ => false

def SV.aggs? : SV → Option (List SV)
  | .agg cs => some cs
  | .v (.agg cs) => some (cs.toList.map .v)
  | _ => none

theorem SV.aggs?_den {ρ : Nat → Loc} {x : SV} {cs : List SV} (h : x.aggs? = some cs) : x.den ρ = .agg (cs.map (SV.den ρ)).toArray := by
  unfold SV.aggs? at h
  split at h
  · injection h with h; subst h; simp [SV.den, dens_eq]
  · injection h with h; subst h; simp [SV.den, Function.comp_def]
  · cases h

theorem SV.aggs?_lt {ρ : Nat → Loc} {n : Nat} {x : SV} {cs : List SV} (h : x.aggs? = some cs) (hx : x.lt ρ n) : ∀ y ∈ cs, y.lt ρ n := by
  unfold SV.aggs? at h
  split at h
  · injection h with h; subst h; exact lts_iff.1 hx
  · injection h with h; subst h; intro y hy; obtain ⟨z, _, rfl⟩ := List.mem_map.1 hy; trivial
  · cases h

/-- May values of a type be compared? -/
def cmpT (P : Program) (t : TypeId) : Bool := match P.info? t with
  | some i => i.comparable
  | none => false

theorem cmpT_some {P : Program} {t : TypeId} (h : cmpT P t = true) : ∃ i, P.info? t = some i ∧ i.comparable = true := by
  unfold cmpT at h
  split at h
  · rename_i i hi; exact ⟨i, hi, h⟩
  · cases h

/-- Two interface values: of two types, or of one type of numbers. -/
def eqI (P : Program) (u u' : TypeId) (a b : SV) : Option Bool := bif Nat.beq u u' then (match ty P u with
    | some su => match su.und, a.int?, b.int? with
      | .int _, some (ka, m), some (kb, n) => bif cmpT P u && kEq ka kb then some (decide (m = n)) else none
      | _, _, _ => none
    | none => none)
  else some false

/-- Two pointers that are one. -/
def eqP (P : Program) (d : TypeDesc) (b o b' o' : Nat) : Option Bool := match d with
  | .pointer e => bif (P.info? e).isSome && Nat.beq b b' && Nat.beq o o' then some true else none
  | _ => none

/-- What '==' gives, of two values that are neither numbers nor strings; yc: is the second one a constant of the text? -/
def eqB (P : Program) (t : TypeId) (yc : Bool) (x y : SV) : Option Bool :=
  match ty P t with
  | none => none
  | some s =>
    match x, y with
    | .v (.bool a), .v (.bool b) => bif isBl s.und then some (a == b) else none
    | .ptr _ _, .v (.pointer none) => bif isPtr s.und then some false else none
    | .v (.pointer none), .ptr _ _ => bif isPtr s.und then some false else none
    | .v (.pointer a), .v (.pointer none) => bif isPtr s.und then some a.isNone else none
    | .slc _ _ _ _, .v (.slice none _ _) => bif isSlc s.und then some false else none
    | .v (.slice a _ _), .v (.slice none _ _) => bif isSlc s.und then some a.isNone else none
    | .mp _, .v (.map none) => bif isMp s.und then some false else none
    | .v (.map a), .v (.map none) => bif isMp s.und then some a.isNone else none
    | .fn _ _, .v .nilFunc => bif isFn s.und then some false else none
    | .v .nilFunc, .v .nilFunc => bif isFn s.und then some true else none
    | .ifc _ _, .v .nilIface => bif isIfc s.und then some false else none
    | .v .nilIface, .v .nilIface => bif isIfc s.und && yc then some true else none
    | .ifc u a, .ifc u' b => bif isIfc s.und then eqI P u u' a b else none
    | .ptr b o, .ptr b' o' => eqP P s.und b o b' o'
    | x, y =>
      match s.und, x.aggs?, y.aggs? with
      | .struct fs, some xs, some ys => bif plainEq P t then eqCells fs.toList xs ys 0 (ty P) else none
      | _, _, _ => none

theorem part_one {P : Program} {t : TypeId} {s : STy} (h : ty P t = some s) (hd : TypeDesc.isAgg s.und = false) {cs : Array Value} {i : Nat} {v : Value} (hv : cs[i]? = some v) (w : World) : (part t cs i).run P w = .ok v w := by
  simp only [part, Sem.run_bind, r_isAgg w h, Result.andThen_ok, hd, Bool.false_eq_true, if_false, hv, Sem.run_pure]

theorem part_agg {P : Program} {t : TypeId} {s : STy} (h : ty P t = some s) (hd : TypeDesc.isAgg s.und = true) (cs : Array Value) (i : Nat) (w : World) : (part t cs i).run P w = .ok (.agg (cs.extract i (i + s.size))) w := by
  simp only [part, Sem.run_bind, r_isAgg w h, Result.andThen_ok, hd, if_true, r_sizeOf w h, Sem.run_pure]

theorem eqCells_run {P : Program} {ρ : Nat → Loc} (d : Nat) (w : World) : ∀ (fs : List Field) (xs ys px py : List SV) (r : Bool),
    eqCells fs xs ys px.length (ty P) = some r → px.length = py.length →
    (Op.eqFields (d + 1) ((px ++ xs).map (SV.den ρ)).toArray ((py ++ ys).map (SV.den ρ)).toArray fs).run P w = .ok r w := by
  intro fs
  induction fs with
  | nil => intro xs ys px py r h _; simp only [eqCells] at h; injection h with h; subst h; rfl
  | cons f fs ih =>
    intro xs ys px py r h hp
    cases xs with
    | nil => simp [eqCells] at h
    | cons x xs =>
      cases ys with
      | nil => simp [eqCells] at h
      | cons y ys =>
        simp only [eqCells] at h
        cases hb : (!(Nat.beq f.offset px.length) || (f.name == "_")) with
        | true => rw [hb] at h; simp at h
        | false =>
          rw [hb] at h
          simp only [cond_false] at h
          have hoff : f.offset = px.length := by
            cases ho : Nat.beq f.offset px.length with
            | true => exact Nat.eq_of_beq_eq_true ho
            | false => rw [ho] at hb; simp at hb
          have hname : f.name ≠ "_" := by
            intro e
            rw [e] at hb; simp at hb
          split at h
          · cases h
          · rename_i s hs
            have hx : (((px ++ x :: xs).map (SV.den ρ)).toArray)[f.offset]? = some (x.den ρ) := by simp [hoff]
            have hy : (((py ++ y :: ys).map (SV.den ρ)).toArray)[f.offset]? = some (y.den ρ) := by simp [hoff, hp]
            have next : ∀ r', eqCells fs xs ys (px.length + 1) (ty P) = some r' →
                (Op.eqFields (d + 1) ((px ++ x :: xs).map (SV.den ρ)).toArray ((py ++ y :: ys).map (SV.den ρ)).toArray fs).run P w = .ok r' w := fun r' h' => by
              have := ih xs ys (px ++ [x]) (py ++ [y]) r' (by simpa using h') (by simp [hp])
              simpa [List.append_assoc] using this
            have fin : ∀ (e : Bool) (r' : Bool), TypeDesc.isAgg s.und = false → (Op.equalIn (d + 1) f.type (x.den ρ) (y.den ρ)).run P w = .ok e w →
                eqCells fs xs ys (px.length + 1) (ty P) = some r' → r = (e && r') →
                (Op.eqFields (d + 1) ((px ++ x :: xs).map (SV.den ρ)).toArray ((py ++ y :: ys).map (SV.den ρ)).toArray (f :: fs)).run P w = .ok r w := fun e r' ha he h' hr => by
              subst hr
              simp only [Op.eqFields, ne_eq, hname, not_false_eq_true, if_true, Sem.run_bind, part_one hs ha hx, part_one hs ha hy, Result.andThen_ok, he]
              cases e
              · simp
              · simp only [Bool.not_true, Bool.false_eq_true, if_false, Bool.true_and]; exact next r' h'
            have hu := (ty_facts hs).und
            split at h
            · rename_i a b hd
              cases hr : eqCells fs xs ys (px.length + 1) (ty P) with
              | none => rw [hr] at h; cases h
              | some r' =>
                rw [hr] at h
                injection h with h
                exact fin (a == b) r' (by rw [hd]; rfl) (run_equalIn_bool' w d f.type a b (by rw [hu, hd])) hr h.symm
            · rename_i k0 k a k' b hd
              cases hk : kEq k k' with
              | false => rw [hk] at h; cases h
              | true =>
                rw [hk] at h
                have hk := kEq_iff.1 hk
                subst hk
                cases hr : eqCells fs xs ys (px.length + 1) (ty P) with
                | none => rw [hr] at h; cases h
                | some r' =>
                  rw [hr] at h
                  injection h with h
                  refine fin (decide (a = b)) r' (by rw [hd]; rfl) ?_ hr h.symm
                  have := run_equalIn_int w d f.type k k0 a b (by rw [hu, hd])
                  rw [show (a == b) = decide (a = b) from rfl] at this
                  exact this
            · rename_i hd
              split at h
              · rename_i l m hl hm
                cases hr : eqCells fs xs ys (px.length + 1) (ty P) with
                | none => rw [hr] at h; cases h
                | some r' =>
                  rw [hr] at h
                  injection h with h
                  refine fin (beqL l m) r' (by rw [hd]; rfl) ?_ hr h.symm
                  rw [SV.str?_den hl, SV.str?_den hm]
                  have := run_equalIn_string w d f.type ⟨l.toArray⟩ ⟨m.toArray⟩ (by rw [hu, hd])
                  rw [this, ByteArray.toList_eq, ByteArray.toList_eq, beqL_eq]
              · cases h
            · cases h

theorem guard_run {P : Program} {t : TypeId} (w : World) {X Y : Value} (h1 : ∀ a b, ¬ (X = .agg a ∧ Y = .agg b)) (h2 : ¬ (X = .nilIface ∧ Y = .nilIface)) (op : BinOp) (xo yo : Operand) :
    (eqGuard op t xo yo X Y).run P w = .ok () w := by
  unfold eqGuard
  cases op <;> first
    | rfl
    | (cases X <;> first
        | rfl
        | (cases Y <;> first | rfl | exact absurd ⟨rfl, rfl⟩ h2 | exact absurd ⟨rfl, rfl⟩ (h1 _ _)))

theorem eqIn_run {P : Program} {t : TypeId} {yc : Bool} {x y : SV} {r : Bool} (h : eqB P t yc x y = some r) (ρ : Nat → Loc) (w : World) (d : Nat) :
    (Op.equalIn (d + 2) t (x.den ρ) (y.den ρ)).run P w = .ok r w := by
  unfold eqB at h
  split at h
  · cases h
  · rename_i s hs
    have hu := (ty_facts hs).und
    split at h
    case h_1 =>
      cases hd : s.und <;> rw [hd] at h <;> simp [isBl] at h
      subst h
      rw [hd] at hu
      exact run_equalIn_bool' w _ t _ _ hu
    case h_15 =>
      split at h
      · rename_i fs xs ys hd hx hy
        cases hp : plainEq P t with
        | false => rw [hp] at h; cases h
        | true =>
          rw [hp] at h
          simp only [cond_true] at h
          simp only [plainEq, Bool.and_eq_true, Bool.not_eq_true'] at hp
          rw [hd] at hu
          have hf : P.fieldsOf t = fs := by simp [Program.fieldsOf, hu]
          rw [SV.aggs?_den hx, SV.aggs?_den hy]
          have := run_equalIn_struct (P := P) w (d + 1) t (xs.map (SV.den ρ)).toArray (ys.map (SV.den ρ)).toArray (by rw [hf]; exact hu) hp.2
          rw [hf] at this
          rw [this]
          exact eqCells_run d w fs.toList xs ys [] [] r h rfl
      · cases h
    case h_14 =>
      rename_i b o b' o'
      unfold eqP at h
      split at h
      · rename_i e hd
        rw [hd] at hu
        cases hc : (P.info? e).isSome && Nat.beq b b' && Nat.beq o o' with
        | false => rw [hc] at h; cases h
        | true =>
          rw [hc] at h
          simp only [cond_true, Option.some.injEq] at h
          subst h
          simp only [Bool.and_eq_true] at hc
          obtain ⟨j, hj⟩ := Option.isSome_iff_exists.1 hc.1.1
          have h1 := Nat.eq_of_beq_eq_true hc.1.2
          have h2 := Nat.eq_of_beq_eq_true hc.2
          subst h1; subst h2
          show (Op.equalIn ((d + 1) + 1) t _ _).run P w = _
          simp [Op.equalIn, run_underlying hu, SV.den, sizeOf, typeInfo, hj, run_sameAddr_same]
      · cases h
    case h_13 =>
      rename_i u a u' b
      cases hd : s.und <;> rw [hd] at h <;> simp only [isIfc, cond_true, cond_false] at h <;> first | (cases h; done) | skip
      rw [hd] at hu
      unfold eqI at h
      show (Op.equalIn ((d + 1) + 1) t _ _).run P w = _
      cases hb : Nat.beq u u' with
      | false =>
        rw [hb] at h
        have hne : u ≠ u' := fun e => by rw [e, Nat.beq_refl] at hb; cases hb
        simp only [cond_false, Option.some.injEq] at h
        subst h
        generalize d + 1 = e
        simp [Op.equalIn, run_underlying hu, SV.den, hne]
      | true =>
        rw [hb] at h
        have := Nat.eq_of_beq_eq_true hb
        subst this
        simp only [cond_true] at h
        split at h
        · rename_i su hsu
          split at h
          · rename_i k ka m kb n hdu ha hb'
            cases hc : cmpT P u && kEq ka kb with
            | false => rw [hc] at h; cases h
            | true =>
              rw [hc] at h
              simp only [cond_true, Option.some.injEq] at h
              subst h
              simp only [Bool.and_eq_true] at hc
              obtain ⟨i, hinfo, hcomp⟩ := cmpT_some hc.1
              have hk := kEq_iff.1 hc.2
              subst hk
              have hu2 := (ty_facts hsu).und
              rw [hdu] at hu2
              have key := run_equalIn_int (P := P) w d u ka k m n hu2
              rw [show (m == n) = decide (m = n) from rfl] at key
              rw [SV.den, SV.den, SV.int?_den ha, SV.int?_den hb']
              revert key
              generalize d + 1 = e
              intro key
              simp [Op.equalIn, run_underlying hu, typeInfo, hinfo, hcomp, key]
          · cases h
        · cases h
    case h_4 => rename_i a; cases a <;> (cases hd : s.und <;> rw [hd] at h <;> simp [isPtr] at h; rw [hd] at hu; subst h; show (Op.equalIn ((d + 1) + 1) t _ _).run P w = _; generalize d + 1 = e; simp only [Op.equalIn, Sem.run_bind, run_underlying hu, Result.andThen_ok, SV.den, Sem.run_pure]; try rfl)
    case h_6 => rename_i a _ _ _ _; cases a <;> (cases hd : s.und <;> rw [hd] at h <;> simp [isSlc] at h; rw [hd] at hu; subst h; show (Op.equalIn ((d + 1) + 1) t _ _).run P w = _; generalize d + 1 = e; simp only [Op.equalIn, Sem.run_bind, run_underlying hu, Result.andThen_ok, SV.den, Sem.run_pure]; try rfl)
    case h_8 => rename_i a; cases a <;> (cases hd : s.und <;> rw [hd] at h <;> simp [isMp] at h; rw [hd] at hu; subst h; show (Op.equalIn ((d + 1) + 1) t _ _).run P w = _; generalize d + 1 = e; simp only [Op.equalIn, Sem.run_bind, run_underlying hu, Result.andThen_ok, SV.den, Sem.run_pure]; try rfl)
    all_goals
      (cases hd : s.und <;> rw [hd] at h <;> simp [isPtr, isSlc, isMp, isFn, isIfc] at h)
    all_goals
      rw [hd] at hu
      show (Op.equalIn ((d + 1) + 1) t _ _).run P w = _
      generalize d + 1 = e
      simp only [Op.equalIn, Sem.run_bind, run_underlying hu, Result.andThen_ok, SV.den, Sem.run_pure]
    all_goals first
      | (subst h; rfl)
      | (cases yc with
         | true => simp at h; subst h; rfl
         | false => simp at h)

theorem eqB_run {P : Program} {t : TypeId} {yc : Bool} {x y : SV} {r : Bool} (h : eqB P t yc x y = some r) (ρ : Nat → Loc) (w : World) :
    (Op.equal t (x.den ρ) (y.den ρ)).run P w = .ok r w ∧
    ∀ (op : BinOp) (xo yo : Operand), (yc = true → ∃ c, yo = .const c) → (eqGuard op t xo yo (x.den ρ) (y.den ρ)).run P w = .ok () w := by
  refine ⟨eqIn_run h ρ w 9998, ?_⟩
  unfold eqB at h
  split at h
  · cases h
  · rename_i s hs
    have hu := (ty_facts hs).und
    split at h
    case h_12 =>
      cases hd : s.und <;> rw [hd] at h <;> simp [isIfc] at h
      intro op xo yo hc
      obtain ⟨c, rfl⟩ := hc (by cases yc with | true => rfl | false => cases h)
      cases op <;> simp [eqGuard, SV.den]
    case h_15 =>
      split at h
      · rename_i fs xs ys hd hx hy
        cases hp : plainEq P t with
        | false => rw [hp] at h; cases h
        | true =>
          simp only [plainEq, Bool.and_eq_true, Bool.not_eq_true'] at hp
          rw [SV.aggs?_den hx, SV.aggs?_den hy]
          exact fun op xo yo _ => run_eqGuard_agg w op t xo yo _ _ hp.1
      · cases h
    all_goals exact fun op xo yo _ => guard_run w (by simp [SV.den]) (by simp [SV.den]) op xo yo

/-! ### Binary operations -/

/-- The same without a look at the type; and that look. -/
def eqN (P : Program) (t : TypeId) (yc : Bool) (x y : SV) : Option Bool :=
  match ty P t with
  | none => none
  | some s =>
    match s.und with
    | .struct fs => match x.aggs?, y.aggs? with
      | some xs, some ys => eqCells fs.toList xs ys 0 (ty P)
      | _, _ => none
    | _ => eqB P t yc x y

def sideE (P : Program) (t : TypeId) : Bool := match ty P t with
  | none => true
  | some s => match s.und with
    | .struct _ => plainEq P t
    | _ => true

theorem eqN_eqB {P : Program} {t : TypeId} {yc : Bool} {x y : SV} {e : Bool} (h : eqN P t yc x y = some e) (hs : sideE P t = true) : eqB P t yc x y = some e := by
  unfold eqN at h
  unfold sideE at hs
  split at h
  · cases h
  · rename_i s hty
    rw [hty] at hs
    simp only at hs
    split at h
    · rename_i fs hd
      rw [hd] at hs
      simp only at hs
      split at h
      · rename_i xs ys hx hy
        unfold eqB
        rw [hty]
        have hx' := hx
        have hy' := hy
        unfold SV.aggs? at hx hy
        split at hx
        · split at hy
          · simp only [hd, SV.aggs?] at hx' hy' ⊢
            injection hx' with hx'; injection hy' with hy'; subst hx'; subst hy'
            rw [hs]; exact h
          · simp only [hd, SV.aggs?] at hx' hy' ⊢
            injection hx' with hx'; injection hy' with hy'; subst hx'; subst hy'
            rw [hs]; exact h
          · cases hy
        · split at hy
          · simp only [hd, SV.aggs?] at hx' hy' ⊢
            injection hx' with hx'; injection hy' with hy'; subst hx'; subst hy'
            rw [hs]; exact h
          · simp only [hd, SV.aggs?] at hx' hy' ⊢
            injection hx' with hx'; injection hy' with hy'; subst hx'; subst hy'
            rw [hs]; exact h
          · cases hy
        · cases hx
      · cases h
    · exact h

def isCst : Operand → Bool
  | .const _ => true
  | _ => false

def binV (P : Program) (op : BinOp) (t : TypeId) (yc : Bool) (x y : SV) : Option (Bool × SV) :=
  match x.int?, y.int? with
  | some (k, a), some (k', b) => intBin op k k' a b
  | _, _ => match x.str?, y.str? with
    | some l, some m => strBin op l m
    | _, _ => match op with
      | .eql => match eqN P t yc x y with
        | some e => some (sideE P t, .v (.bool e))
        | none => none
      | .neq => match eqN P t yc x y with
        | some e => some (sideE P t, .v (.bool (!e)))
        | none => none
      | _ => none

theorem binV_lt {P : Program} {op : BinOp} {t : TypeId} {yc : Bool} {x y z : SV} {r : Bool} (h : binV P op t yc x y = some (r, z)) (ρ : Nat → Loc) (n : Nat) : z.lt ρ n := by
  unfold binV at h
  split at h
  · exact intBin_lt h ρ n
  · split at h
    · exact strBin_lt h ρ n
    · split at h
      · split at h
        · injection h with h; injection h with _ h; subst h; trivial
        · cases h
      · split at h
        · injection h with h; injection h with _ h; subst h; trivial
        · cases h
      · cases h

theorem binOp_eql {P : Program} {t : TypeId} {X Y : Value} {w : World} {e : Bool} (h : (Op.equal t X Y).run P w = .ok e w) (h1 : ∀ k a k' b, ¬ (X = .int k a ∧ Y = .int k' b)) (h2 : ∀ a b, ¬ (X = .string a ∧ Y = .string b))
    (h3 : ∀ k a k' b, ¬ (X = .float k a ∧ Y = .float k' b)) (h4 : ∀ k a b k' c d, ¬ (X = .complex k a b ∧ Y = .complex k' c d)) : (binOp .eql t X Y).run P w = .ok (.bool e) w := by
  have : binOp .eql t X Y = (do pure (.bool (← Op.equal t X Y)) : Sem Value) := by
    unfold binOp
    cases X <;> first
      | rfl
      | (cases Y <;> first | rfl | exact absurd ⟨rfl, rfl⟩ (h1 _ _ _ _) | exact absurd ⟨rfl, rfl⟩ (h2 _ _) | exact absurd ⟨rfl, rfl⟩ (h3 _ _ _ _) | exact absurd ⟨rfl, rfl⟩ (h4 _ _ _ _ _ _))
  rw [this]
  simp only [Sem.run_bind, h, Result.andThen_ok, Sem.run_pure]

theorem binOp_neq {P : Program} {t : TypeId} {X Y : Value} {w : World} {e : Bool} (h : (Op.equal t X Y).run P w = .ok e w) (h1 : ∀ k a k' b, ¬ (X = .int k a ∧ Y = .int k' b)) (h2 : ∀ a b, ¬ (X = .string a ∧ Y = .string b))
    (h3 : ∀ k a k' b, ¬ (X = .float k a ∧ Y = .float k' b)) (h4 : ∀ k a b k' c d, ¬ (X = .complex k a b ∧ Y = .complex k' c d)) : (binOp .neq t X Y).run P w = .ok (.bool (!e)) w := by
  have : binOp .neq t X Y = (do pure (.bool (!(← Op.equal t X Y))) : Sem Value) := by
    unfold binOp
    cases X <;> first
      | rfl
      | (cases Y <;> first | rfl | exact absurd ⟨rfl, rfl⟩ (h1 _ _ _ _) | exact absurd ⟨rfl, rfl⟩ (h2 _ _) | exact absurd ⟨rfl, rfl⟩ (h3 _ _ _ _) | exact absurd ⟨rfl, rfl⟩ (h4 _ _ _ _ _ _))
  rw [this]
  simp only [Sem.run_bind, h, Result.andThen_ok, Sem.run_pure]

/-- What an equality speaks of is neither two numbers nor two strings. -/
theorem eqB_shape {P : Program} {t : TypeId} {yc : Bool} {x y : SV} {e : Bool} (h : eqB P t yc x y = some e) (ρ : Nat → Loc) :
    (∀ k a k' b, ¬ (x.den ρ = .int k a ∧ y.den ρ = .int k' b)) ∧ (∀ a b, ¬ (x.den ρ = .string a ∧ y.den ρ = .string b)) ∧
    (∀ k a k' b, ¬ (x.den ρ = .float k a ∧ y.den ρ = .float k' b)) ∧ (∀ k a b k' c d, ¬ (x.den ρ = .complex k a b ∧ y.den ρ = .complex k' c d)) := by
  unfold eqB at h
  split at h
  · cases h
  · split at h
    case h_15 =>
      split at h
      · rename_i fs xs ys hd hx hy
        rw [SV.aggs?_den hx, SV.aggs?_den hy]
        simp
      · cases h
    all_goals simp [SV.den]

theorem binV_run {P : Program} {op : BinOp} {t : TypeId} {yc : Bool} {x y z : SV} {r : Bool} (h : binV P op t yc x y = some (r, z)) (hr : r = true) (ρ : Nat → Loc) (w : World) (xo yo : Operand) (hc : yc = true → ∃ c, yo = .const c) :
    (do eqGuard op t xo yo (x.den ρ) (y.den ρ); binOp op t (x.den ρ) (y.den ρ) : Sem Value).run P w = .ok (z.den ρ) w := by
  unfold binV at h
  split at h
  · rename_i k a k' b h1 h2
    rw [SV.int?_den h1, SV.int?_den h2]
    simp only [Sem.run_bind, guard_run w (X := .int k a) (Y := .int k' b) (by simp) (by simp), Result.andThen_ok]
    exact intBin_run h hr t ρ w
  · split at h
    · rename_i l m h1 h2
      rw [SV.str?_den h1, SV.str?_den h2]
      simp only [Sem.run_bind, guard_run w (X := .string ⟨l.toArray⟩) (Y := .string ⟨m.toArray⟩) (by simp) (by simp), Result.andThen_ok]
      exact strBin_run h hr t ρ w
    · split at h
      · split at h
        · rename_i e he
          injection h with h; injection h with hside h; subst h
          have he := eqN_eqB he (hside.trans hr)
          obtain ⟨h1, h2⟩ := eqB_run he ρ w
          obtain ⟨k1, k2, k3, k4⟩ := eqB_shape he ρ
          simp only [Sem.run_bind, h2 .eql xo yo hc, Result.andThen_ok]
          exact binOp_eql h1 k1 k2 k3 k4
        · cases h
      · split at h
        · rename_i e he
          injection h with h; injection h with hside h; subst h
          have he := eqN_eqB he (hside.trans hr)
          obtain ⟨h1, h2⟩ := eqB_run he ρ w
          obtain ⟨k1, k2, k3, k4⟩ := eqB_shape he ρ
          simp only [Sem.run_bind, h2 .neq xo yo hc, Result.andThen_ok]
          exact binOp_neq h1 k1 k2 k3 k4
        · cases h
      · cases h

end
end Go.Sx
