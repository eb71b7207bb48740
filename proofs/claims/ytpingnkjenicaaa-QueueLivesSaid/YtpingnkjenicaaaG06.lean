/-
  The symbolic executor: code, functions, and what they show of the model's calls.
  The symbolic executor: contracts out of the kit's words: a call that leaves all that lay; an entry.
  From the executor to a row: what lay when the call began lies as it lay; the row's step over that.
  The symbolic executor over arenas: contracts of functions at plain arguments, used in any heap; loops with an invariant.
  Arenas: what lies in one lies in a greater one; what a store, a new row leave; slices that are read.
  What all contracts of this program want; loops over the places of a row.
  Rows that a loop makes by append.
  Rows that are made by append: many elements at once.
  Contracts: what is lent: rows in blocks of their own, with marks behind their ends; bytes.
  Members as plain data.
  Calls as plain data: members, calls; what it means that cells of an arena read as one.
  Calls that are lent: each list in a block of its own, with marks behind its end.
-/
import Derived.Test.YtpingnkjenicaaaG05
import Derived.ChangeSame
import Derived.Test.YtpingnkjenicaaaProg
namespace Go.Sx
noncomputable section
variable {dfs : List Deferred}

inductive SX where
  | nrm
  | ext (id : Nat)
  | ret
  | pnc (x : SV)

abbrev KT := SX → T SV → HS → Bool

/-- A contract of a function, as a transformer. -/
abbrev CT := List SV → HS → (SV → HS → Bool) → Bool

def resV (P : Program) (tm : T SV) (h : HS) : List ResultVar → Option (List SV)
  | [] => some []
  | r :: rs => match (match r with
      | .tmp t => tm.get t
      | .cell x t => match tm.get x with
        | some x => loadV P h t x
        | none => none), resV P tm h rs with
    | some v, some vs => some (v :: vs)
    | _, _ => none

def oneOf : List SV → SV
  | [v] => v
  | vs => .tup vs

/-- What a block's code does, told beforehand. -/
abbrev LT := Code → Nat → KT → T SV → HS → Bool

/-- Blocks that are told beforehand; functions behind which a state is laid out in its one form. -/
structure LTab where
  lt : FuncId → Nat → Option LT
  mg : FuncId → Bool
  gc : FuncId → Nat → Option (List Nat)      -- ahead of these blocks: the slots that are wanted still

/-- A function's way out. -/
def retK (P : Program) (mg : Bool) (n0 : Nat) (rs : List ResultVar) (K E : SV → HS → Bool) (e : SX) (tm : T SV) (h : HS) : Bool :=
  match e with
  | .ext _ => false
  | .pnc x => E x h
  | _ => match resV P tm h rs with
    | some vs => bif mg then canonK n0 (oneOf vs) h K else K (oneOf vs) h
    | none => false

def runBody (P : Program) (mg : FuncId → Bool) (code : FuncId → Nat → Code → KT → T SV → HS → Bool) (f : FuncId) (args : List SV) (h : HS) (K E : SV → HS → Bool) (fn : Func) (c : Code) : Bool :=
  bif fn.name == "runtime.NumGoroutine" then false else
    code f (args.length + (fn.ntmps - args.length)) c (retK P (mg f) h.nx fn.results.toList K E) (T.ofList args) h

/-- A function's body, with its results. -/
def runFn (P : Program) (mg : FuncId → Bool) (code : FuncId → Nat → Code → KT → T SV → HS → Bool) (C : FuncId → Option CT) : CallT := fun f args h K E =>
  match C f with
  | some ct => ct args h K
  | none => match fnOf P f with
    | none => false
    | some fn => match fn.body with
      | none => false
      | some c => runBody P mg code f args h K E fn c

abbrev CodeT := FuncId → Nat → Code → KT → T SV → HS → Bool

def seqK (ih : CodeT) (f : FuncId) (sz : Nat) (b : Code) (K : KT) (e : SX) (tm : T SV) (h : HS) : Bool := match e with
  | .nrm => ih f sz b K tm h
  | e => K e tm h

def blkK (id : Nat) (K : KT) (e : SX) (tm : T SV) (h : HS) : Bool := match e with
  | .ext i => bif Nat.beq i id then K .nrm tm h else K (.ext i) tm h
  | e => K e tm h

def sxCond (ih : CodeT) (f : FuncId) (sz : Nat) (x : Option SV) (a b : Code) (K : KT) (tm : T SV) (h : HS) : Bool := match x with
  | some (.v (.bool t)) => bif t then ih f sz a K tm h else ih f sz b K tm h
  | _ => false

def sxBlock (Λ : LTab) (ih : CodeT) (f : FuncId) (sz : Nat) (id : Nat) (a : Code) (K : KT) (tm : T SV) (h : HS) : Bool := match Λ.lt f id with
  | some lt => lt a sz K tm h
  | none => match Λ.gc f id with
    | some live => gcK live tm h (fun tm h => ih f sz a (blkK id K) tm h)
    | none => ih f sz a (blkK id K) tm h

/-- The slots that a region writes, forgotten. -/
def strike : List Oper → T SV → T SV
  | [], tm => tm
  | o :: os, tm => match o.dst with
    | none => strike os tm
    | some d => strike os (tm.del d)

theorem strike_get : ∀ {os : List Oper} {tm : T SV} {i : Nat} {x : SV}, (strike os tm).get i = some x → tm.get i = some x ∧ ∀ o ∈ os, o.dst ≠ some i
  | [], _, _, _, h => ⟨h, fun _ ho => by cases ho⟩
  | o :: os, tm, i, x, h => by
    simp only [strike] at h
    cases hd : o.dst with
    | none =>
      rw [hd] at h
      obtain ⟨h1, h2⟩ := strike_get h
      exact ⟨h1, fun o' ho' => by
        rcases List.mem_cons.1 ho' with rfl | ho'
        · rw [hd]; exact fun e => by cases e
        · exact h2 o' ho'⟩
    | some d =>
      rw [hd] at h
      obtain ⟨h1, h2⟩ := strike_get h
      obtain ⟨h3, h4⟩ := T.get_del h1
      exact ⟨h4, fun o' ho' => by
        rcases List.mem_cons.1 ho' with rfl | ho'
        · rw [hd]; exact fun e => h3 (by injection e with e; exact e.symm)
        · exact h2 o' ho'⟩

/-- A panic out of a region. -/
def regE (ops : Array Oper) (K : KT) (x : SV) (tm : T SV) (h : HS) : Bool := K (.pnc x) (strike ops.toList tm) h

def sxRegion (P : Program) (call : CallT) (sz : Nat) (ops : Array Oper) (draw : Bool) (K : KT) (tm : T SV) (h : HS) : Bool :=
  bif draw then
    match planOf P ops with
    | some pl => bif h.M.X.op || oneWay pl then sxPlan P call sz (K .nrm) (regE ops K) pl [] tm h else sxPlan P call sz (fun tm' h' => canonT h.nx sz tm' h' (K .nrm)) (regE ops K) pl [] tm h
    | none => false
  else fxOps P call sz (regE ops K) ops.toList (K .nrm) ops.toList tm h

/-- A region, ahead of which some slots may be forgotten (its number, from a million on). -/
def sxReg (P : Program) (call : CallT) (Λ : LTab) (f : FuncId) (sz : Nat) (id : Nat) (ops : Array Oper) (draw : Bool) (K : KT) (tm : T SV) (h : HS) : Bool := match Λ.gc f (Nat.add 1000000 id) with
  | some live => gcK live tm h (fun tm h => sxRegion P call sz ops draw K tm h)
  | none => sxRegion P call sz ops draw K tm h

def sxStep (P : Program) (C : FuncId → Option CT) (Λ : LTab) (ih : CodeT) (f : FuncId) (sz : Nat) (c : Code) (K : KT) (tm : T SV) (h : HS) : Bool :=
  match c with
  | .skip => K .nrm tm h
  | .label _ => K .nrm tm h
  | .ret => K .ret tm h
  | .exit id => K (.ext id) tm h
  | .seq a b => ih f sz a (seqK ih f sz b K) tm h
  | .cond x a b => sxCond ih f sz (opd tm x) a b K tm h
  | .block id a => sxBlock Λ ih f sz id a K tm h
  | .scope a => ih f sz a K tm h
  | .loop a => ih f sz a (seqK ih f sz (.loop a) K) tm h
  | .region id ops draw => sxReg P (runFn P Λ.mg ih C) Λ f sz id ops draw K tm h
  | _ => false

def sxCode (P : Program) (C : FuncId → Option CT) (Λ : LTab) (n : Nat) : CodeT :=
  Nat.rec (motive := fun _ => CodeT) (fun _ _ _ _ _ _ => false) (fun _ ih f sz c K tm h => sxStep P C Λ ih f sz c K tm h) n

theorem sxCode_succ (P : Program) (C : FuncId → Option CT) (Λ : LTab) (n : Nat) (f : FuncId) (sz : Nat) (c : Code) (K : KT) (tm : T SV) (h : HS) :
    sxCode P C Λ (n + 1) f sz c K tm h = sxStep P C Λ (sxCode P C Λ n) f sz c K tm h := rfl

/-! ### Soundness -/

/-- What is left, by the way out. -/
def GoesX (dfs : List Deferred) (ρ : Nat → Loc) (h : HS) (sz : Nat) (K : KT) : Exit → Act → World → Prop
  | .normal, a, w => Goes dfs ρ h sz (K .nrm) a w
  | .exit i, a, w => Goes dfs ρ h sz (K (.ext i)) a w
  | .ret, a, w => Goes dfs ρ h sz (K .ret) a w
  | .panic c, a, w => GoesE dfs ρ h sz (fun x => K (.pnc x)) c a w
  | _, _, _ => False

theorem GoesX.trans {ρ ρ' : Nat → Loc} {h h' : HS} {sz : Nat} {K : KT} {e : Exit} {a : Act} {w : World} (g : GoesX dfs ρ' h' sz K e a w) (hx : Ext ρ ρ' h.nx) (hn : h.nx ≤ h'.nx) (hm : h.M.le h'.M) : GoesX dfs ρ h sz K e a w := by
  cases e <;> first | exact Goes.trans g hx hn hm | exact GoesE.trans g hx hn hm | exact g

/-- A contract is right. -/
def CTSound (P : Program) (C : FuncId → Option CT) : Prop :=
  ∀ f ct, C f = some ct → ∀ args h K, ct args h K → ∀ ρ w, HRel ρ h w → (∀ x ∈ args, x.lt ρ h.nx) → CallGoes P f (args.map (SV.den ρ)).toArray w (Post ρ h K) fun _ _ => False

theorem CallGoes.mono {P : Program} {f : FuncId} {args : Array Value} {w : World} {Φ Φ' Ψ Ψ' : Value → World → Prop} (g : CallGoes P f args w Φ Ψ) (h1 : ∀ v w', Φ v w' → Φ' v w') (h2 : ∀ v w', Ψ v w' → Ψ' v w') : CallGoes P f args w Φ' Ψ' := by
  rcases g with ⟨fn, a, b, c⟩ | ⟨v, w', a, b⟩
  · exact .inl ⟨fn, a, b, c.mono fun e w' hor => by
      rcases hor with ⟨v, he, hq⟩ | ⟨v, he, hq⟩
      · exact .inl ⟨v, he, h1 _ _ hq⟩
      · exact .inr ⟨v, he, h2 _ _ hq⟩⟩
  · exact .inr ⟨v, w', a, h1 _ _ b⟩

theorem not_post_false {ρ : Nat → Loc} {h : HS} {v : Value} {w : World} : ¬ Post ρ h (fun _ _ => false) v w := fun ⟨_, _, _, hk, _⟩ => absurd hk Bool.false_ne_true

/-- The same, for a region: what is told of a panic does not speak of the slots that it writes. -/
def GoesR (dfs : List Deferred) (ops : Array Oper) (ρ : Nat → Loc) (h : HS) (sz : Nat) (K : KT) : Exit → Act → World → Prop
  | .panic c, a, w => ∃ x tm' h' ρ', c = pnc (x.den ρ') ∧ x.lt ρ' h'.nx ∧ K (.pnc x) tm' h' ∧ (∀ i y, tm'.get i = some y → ∀ o ∈ ops.toList, o.dst ≠ some i) ∧
      ARel dfs ρ' tm' sz h'.nx a ∧ HRel ρ' h' w ∧ Ext ρ ρ' h.nx ∧ h.nx ≤ h'.nx ∧ h.M.le h'.M
  | e, a, w => GoesX dfs ρ h sz K e a w

theorem put_size (a : Act) (d : Option Tmp) (v : Value) : (a.put d v).tmps.size = a.tmps.size := by
  cases d <;> simp [Act.put]

theorem put_other (a : Act) {d : Option Tmp} {i : Nat} (h : d ≠ some i) (v : Value) : (a.put d v).tmps[i]? = a.tmps[i]? := by
  cases d with
  | none => rfl
  | some d =>
    have : d ≠ i := fun e => h (by rw [e])
    simp [Act.put, this]

theorem put_defers (a : Act) (d : Option Tmp) (v : Value) : (a.put d v).defers = a.defers := by
  cases d <;> rfl

/-- A part of a code. -/
inductive InC : Code → Code → Prop
  | refl (c : Code) : InC c c
  | seqL {a b c : Code} : InC (.seq a b) c → InC a c
  | seqR {a b c : Code} : InC (.seq a b) c → InC b c
  | condL {x : Operand} {a b c : Code} : InC (.cond x a b) c → InC a c
  | condR {x : Operand} {a b c : Code} : InC (.cond x a b) c → InC b c
  | block {i : Nat} {a c : Code} : InC (.block i a) c → InC a c
  | loop {a c : Code} : InC (.loop a) c → InC a c
  | scope {a c : Code} : InC (.scope a) c → InC a c

/-- A part of a function's body. -/
def Within (P : Program) (f : FuncId) (c : Code) : Prop := ∃ fn b, P.funcs[f]? = some fn ∧ fn.body = some b ∧ InC c b

theorem Within.to {P : Program} {f : FuncId} {c d : Code} (h : Within P f c) (hd : ∀ {b}, InC c b → InC d b) : Within P f d := by
  obtain ⟨fn, b, h1, h2, h3⟩ := h
  exact ⟨fn, b, h1, h2, hd h3⟩

/-- What is told of a block is right. -/
def LTSound (P : Program) (Λ : LTab) : Prop :=
  ∀ f id lt, Λ.lt f id = some lt → ∀ c sz K tm h, Within P f (.block id c) → lt c sz K tm h → ∀ dfs ρ a w, ARel dfs ρ tm sz h.nx a → HRel ρ h w → (Code.block id c).wp P (GoesX dfs ρ h sz K) a w

def resM (tmps : Array Value) : ResultVar → Sem Value
  | .tmp t => pure (tmps.getD t undef)
  | .cell x t => do loadVar t (← asAddr (tmps.getD x undef))

theorem results_eq (fn : Func) (tmps : Array Value) : results fn tmps = (do
    let vs ← fn.results.mapM (resM tmps)
    pure (if h : vs.size = 1 then vs[0] else .tuple vs)) := by
  unfold results
  congr 1

theorem resV_run {P : Program} {tm : T SV} {h : HS} {ρ : Nat → Loc} {sz : Nat} {a : Act} {w : World} (A : ARel dfs ρ tm sz h.nx a) (H : HRel ρ h w) : ∀ (rs : List ResultVar) (vs : List SV), resV P tm h rs = some vs →
    (rs.mapM (resM a.tmps)).run P w = .ok (vs.map (SV.den ρ)) w ∧ ∀ v ∈ vs, v.lt ρ h.nx := by
  intro rs
  induction rs with
  | nil => intro vs h; simp only [resV, Option.some.injEq] at h; subst h; exact ⟨rfl, fun _ h => by cases h⟩
  | cons r rs ih =>
    intro vs hv
    simp only [resV] at hv
    split at hv
    · rename_i v vs' h1 h2
      injection hv with hv; subst hv
      obtain ⟨k1, k2⟩ := ih vs' h2
      cases r with
      | tmp t =>
        obtain ⟨g1, g2⟩ := A.at_ t v h1
        refine ⟨?_, fun y hy => ?_⟩
        · have hg : a.tmps.getD t undef = v.den ρ := by simp [g2]
          simp only [List.mapM_cons, resM, Sem.run_bind, Sem.run_pure, Result.andThen_ok, hg]
          rw [k1]; rfl
        · rcases List.mem_cons.1 hy with rfl | hy
          · exact g1
          · exact k2 y hy
      | cell x t =>
        simp only at h1
        split at h1
        · rename_i xv hx
          obtain ⟨g1, g2⟩ := A.at_ x xv hx
          obtain ⟨l1, l2⟩ := loadV_run h1 H
          have hg : a.tmps.getD x undef = xv.den ρ := by simp [g2]
          refine ⟨?_, fun y hy => ?_⟩
          · -- a load of a pointer
            have hp : ∃ ad, xv.den ρ = .pointer (some ad) := by
              unfold loadV at h1
              split at h1
              · cases h1
              · split at h1
                · exact ⟨_, rfl⟩
                · exact ⟨_, rfl⟩
                · cases h1
            obtain ⟨ad, had⟩ := hp
            rw [had] at l1 hg
            simp only [Instr.loadAt, Instr.sureAddr, Sem.run_bind, Sem.run_pure, Result.andThen_ok] at l1
            have hasA : (asAddr (.pointer (some ad))).run P w = .ok ad w := rfl
            simp only [List.mapM_cons, resM, Sem.run_bind, hg, hasA, Sem.run_pure, Result.andThen_ok, l1]
            rw [k1]; rfl
          · rcases List.mem_cons.1 hy with rfl | hy
            · exact l2
            · exact k2 y hy
        · cases h1
    · cases hv

theorem runFn_sound {P : Program} {mg : FuncId → Bool} {C : FuncId → Option CT} (hC : CTSound P C) {code : FuncId → Nat → Code → KT → T SV → HS → Bool}
    (hcode : ∀ f sz c K tm h, Within P f c → code f sz c K tm h → ∀ dfs ρ a w, ARel dfs ρ tm sz h.nx a → HRel ρ h w → c.wp P (GoesX dfs ρ h sz K) a w) : CallSound P (runFn P mg code C) := by
  intro f args h K E hk ρ w H hargs
  unfold runFn at hk
  split at hk
  · rename_i ct hct
    exact (hC f ct hct args h K hk ρ w H hargs).mono (fun _ _ h => h) fun _ _ h => h.elim
  · split at hk
    · exact absurd hk Bool.false_ne_true
    · rename_i fn hfn
      split at hk
      · exact absurd hk Bool.false_ne_true
      · rename_i c hb
        have hf := fn_of hfn
        unfold runBody at hk
        cases hname : fn.name == "runtime.NumGoroutine" with
        | true => rw [hname] at hk; exact absurd hk Bool.false_ne_true
        | false =>
          rw [hname] at hk
          simp only [cond_false] at hk
          refine .inl ⟨fn, hf, ⟨hname, by rw [hb]; rfl⟩, calls_of_wp hf hb ?_⟩
          have A : ARel [] ρ (T.ofList args) (args.length + (fn.ntmps - args.length)) h.nx { tmps := (args.map (SV.den ρ)).toArray ++ Array.replicate (fn.ntmps - (args.map (SV.den ρ)).toArray.size) undef, defers := [] } := by
            refine ⟨by simp, fun i x hi => ?_, rfl⟩
            have hx := T.get_ofList hi
            refine ⟨hargs x (List.mem_of_getElem? hx), ?_⟩
            have hlt := (List.getElem?_eq_some_iff.1 hx).1
            rw [Array.getElem?_append_left (by simpa using hlt)]
            simp [hx]
          refine wp_mono (hcode _ _ _ _ _ _ ⟨fn, c, hf, hb, .refl c⟩ hk [] ρ _ w A H) fun e a' w' g => ?_
          have fin : ∀ a' w', Goes [] ρ h (args.length + (fn.ntmps - args.length)) (retK P (mg f) h.nx fn.results.toList K E .nrm) a' w' →
              a'.defers = [] ∧ ∃ v, (results fn a'.tmps).run P w' = .ok v w' ∧ ((∃ v', Ending.returned v = .returned v' ∧ Post ρ h K v' w') ∨ ∃ v', Ending.returned v = .panicked (pnc v') ∧ Post ρ h E v' w') := by
            intro a' w' ⟨tm', h', ρ', hk', A', H', hx, hnx, hm⟩
            refine ⟨A'.defers, ?_⟩
            simp only [retK] at hk'
            split at hk'
            · rename_i vs hvs
              obtain ⟨r1, r2⟩ := resV_run A' H' _ _ hvs
              have hres : (results fn a'.tmps).run P w' = .ok ((oneOf vs).den ρ') w' := by
                rw [results_eq, Array.mapM_eq_mapM_toList]
                simp only [Sem.run_bind, Sem.run_map]
                rw [r1]
                simp only [Result.andThen_ok, Sem.run_pure]
                congr 1
                match vs with
                | [] => simp [oneOf, SV.den, SV.dens]
                | [v] => simp [oneOf]
                | v :: u :: vs => simp [oneOf, SV.den, SV.dens, dens_eq]
              have hv : (oneOf vs).lt ρ' h'.nx := by
                match vs with
                | [] => trivial
                | [v] => exact r2 v (by simp)
                | v :: u :: vs => exact lts_iff.2 r2
              refine ⟨_, hres, .inl ⟨_, rfl, ?_⟩⟩
              cases hmg : mg f with
              | true => rw [hmg] at hk'; exact canonK_post hk' hv H' hx hm
              | false => rw [hmg] at hk'; exact ⟨oneOf vs, h', ρ', hk', rfl, hv, H', hx, hnx, hm⟩
            · exact absurd hk' Bool.false_ne_true
          cases e with
          | normal => exact fin a' w' g
          | ret => exact fin a' w' g
          | exit i => obtain ⟨_, _, _, hk', _⟩ := g; exact absurd hk' Bool.false_ne_true
          | goto l => exact g.elim
          | panic c =>
            obtain ⟨x, tm', h', ρ', hc, hl, hk', A', H', hx, hnx, hm⟩ := g
            have hk' : E x h' = true := hk'
            exact ⟨A'.defers, .inr ⟨_, by rw [hc], x, h', ρ', hk', rfl, hl, H', hx, hnx, hm⟩⟩
          | outgrown => exact g.elim

theorem rounds_mono {P : Program} {c : Code} {Q Q' : Exit → Act → World → Prop} (hq : ∀ e a w, Q e a w → Q' e a w) : ∀ (n : Nat) (a : Act) (w : World), Code.rounds P c Q n a w → Code.rounds P c Q' n a w := by
  intro n
  induction n with
  | zero => intro a w h; exact h
  | succ n ih =>
    intro a w h
    exact wp_mono h fun e a w g => by cases e <;> first | exact ih _ _ g | exact hq _ _ _ g

theorem sxCode_wp {P : Program} (hm : P.follows .mixedOrders = true) {C : FuncId → Option CT} (hC : CTSound P C) {Λ : LTab} (hΛ : LTSound P Λ) : ∀ (n : Nat),
    (∀ f sz c K tm h, Within P f c → sxCode P C Λ n f sz c K tm h → ∀ dfs ρ a w, ARel dfs ρ tm sz h.nx a → HRel ρ h w → c.wp P (GoesX dfs ρ h sz K) a w) ∧
    (∀ f sz c K tm h, Within P f (.loop c) → sxCode P C Λ n f sz (.loop c) K tm h → ∀ dfs ρ a w, ARel dfs ρ tm sz h.nx a → HRel ρ h w → Code.rounds P c (GoesX dfs ρ h sz K) n a w) := by
  intro n
  induction n with
  | zero => exact ⟨fun _ _ _ _ _ _ _ h => absurd h Bool.false_ne_true, fun _ _ _ _ _ _ _ h => absurd h Bool.false_ne_true⟩
  | succ n ih =>
    obtain ⟨ih1, ih2⟩ := ih
    have loops : ∀ f sz c K tm h, Within P f (.loop c) → sxCode P C Λ (n + 1) f sz (.loop c) K tm h → ∀ dfs ρ a w, ARel dfs ρ tm sz h.nx a → HRel ρ h w → Code.rounds P c (GoesX dfs ρ h sz K) (n + 1) a w := by
      intro f sz c K tm h hW hk dfs ρ a w A H
      rw [sxCode_succ] at hk
      simp only [sxStep] at hk
      rw [rounds_succ]
      refine wp_mono (ih1 _ _ _ _ _ _ (hW.to .loop) hk dfs ρ a w A H) fun e a' w' g => ?_
      cases e with
      | normal =>
        obtain ⟨tm', h', ρ', hk', A', H', hx, hnx, hm'⟩ := g
        simp only [seqK] at hk'
        exact rounds_mono (fun e a w g => g.trans hx hnx hm') _ _ _ (ih2 _ _ _ _ _ _ hW hk' dfs ρ' a' w' A' H')
      | exit i => exact g
      | ret => exact g
      | goto l => exact g
      | panic c => exact g
      | outgrown => exact g
    refine ⟨?_, loops⟩
    intro f sz c K tm h hW hk0 dfs ρ a w A H
    have here : ∀ {K' : T SV → HS → Bool}, K' tm h → Goes dfs ρ h sz K' a w := fun hk => ⟨tm, h, ρ, hk, A, H, Ext.refl _ _, Nat.le_refl _, Mem.le_refl _⟩
    have hk := hk0
    rw [sxCode_succ] at hk
    cases c with
    | skip => exact wp_skip (here hk)
    | label l => exact wp_label (here hk)
    | ret => exact wp_ret (here hk)
    | exit id => exact wp_exit (here hk)
    | seq x y =>
      simp only [sxStep] at hk
      refine wp_seq (wp_mono (ih1 _ _ _ _ _ _ (hW.to .seqL) hk dfs ρ a w A H) fun e a' w' g => ?_)
      cases e with
      | normal =>
        obtain ⟨tm', h', ρ', hk', A', H', hx, hnx, hm'⟩ := g
        simp only [seqK] at hk'
        exact wp_mono (ih1 _ _ _ _ _ _ (hW.to .seqR) hk' dfs ρ' a' w' A' H') fun e a w g => g.trans hx hnx hm'
      | exit i => exact g
      | ret => exact g
      | goto l => exact g
      | panic c => exact g
      | outgrown => exact g
    | cond x y z =>
      simp only [sxStep, sxCond] at hk
      split at hk
      · rename_i t ht
        obtain ⟨h1, _⟩ := opd_den A ht
        refine wp_cond (t := t) h1 ?_
        cases t with
        | true => exact ih1 _ _ _ _ _ _ (hW.to .condL) hk dfs ρ a w A H
        | false => exact ih1 _ _ _ _ _ _ (hW.to .condR) hk dfs ρ a w A H
      · exact absurd hk Bool.false_ne_true
    | block id x =>
      simp only [sxStep, sxBlock] at hk
      split at hk
      · rename_i lt hlt
        exact hΛ f id lt hlt x sz K tm h hW hk dfs ρ a w A H
      have go : ∀ tm h, sxCode P C Λ n f sz x (blkK id K) tm h = true → ARel dfs ρ tm sz h.nx a → HRel ρ h w → (Code.block id x).wp P (GoesX dfs ρ h sz K) a w := by
        intro tm h hk A H
        refine wp_block (wp_mono (ih1 _ _ _ _ _ _ (hW.to .block) hk dfs ρ a w A H) fun e a' w' g => ?_)
        cases e with
        | normal => exact g
        | exit i =>
          obtain ⟨tm', h', ρ', hk', A', H', hx, hnx, hm'⟩ := g
          simp only [blkK] at hk'
          cases hb : Nat.beq i id with
          | true =>
            rw [hb] at hk'
            have := Nat.eq_of_beq_eq_true hb
            subst this
            simp only [Exit.inBlock, if_true]
            exact ⟨tm', h', ρ', hk', A', H', hx, hnx, hm'⟩
          | false =>
            rw [hb] at hk'
            have hne : i ≠ id := fun e => by rw [e, Nat.beq_refl] at hb; cases hb
            simp only [Exit.inBlock, hne, if_false]
            exact ⟨tm', h', ρ', hk', A', H', hx, hnx, hm'⟩
        | ret => exact g
        | goto l => exact g
        | panic c => exact g
        | outgrown => exact g
      split at hk
      · obtain ⟨tm', H', hk', s1, s2⟩ := gcK_sub hk
        exact wp_mono (go tm' ⟨H', h.nx, h.M⟩ hk' ⟨A.size, fun i y hi => A.at_ i y (s1 i y hi), A.defers⟩ (H.less s2)) fun e a' w' g => g.trans (Ext.refl _ _) (Nat.le_refl _) (Mem.le_refl _)
      · exact go tm h hk A H
    | scope x =>
      simp only [sxStep] at hk
      refine wp_scope_straight (wp_mono (ih1 _ _ _ _ _ _ (hW.to .scope) hk dfs ρ a w A H) fun e a' w' g => ?_)
      cases e <;> exact g
    | loop x => exact wp_loop_rounds (n + 1) (loops f sz x K tm h hW hk0 dfs ρ a w A H)
    | region id ops draw =>
      have CS := runFn_sound (mg := Λ.mg) hC ih1
      have go : ∀ tm h, sxRegion P (runFn P Λ.mg (sxCode P C Λ n) C) sz ops draw K tm h = true → ARel dfs ρ tm sz h.nx a → HRel ρ h w → (Code.region id ops draw).wp P (GoesX dfs ρ h sz K) a w := by
        intro tm h hk A H
        simp only [sxRegion] at hk
        have hQ : ∀ (j : Nat) (o : Oper), ops[j]? = some o → ∀ v c a w, GoesR dfs ops ρ h sz K (.panic c) (a.put o.dst v) w → GoesR dfs ops ρ h sz K (.panic c) a w := by
          intro j o ho v c a w ⟨x, tm', h', ρ', e, l, k, s, A', R'⟩
          refine ⟨x, tm', h', ρ', e, l, k, s, ⟨?_, fun i y hi => ?_, ?_⟩, R'⟩
          · rw [← A'.size]; exact (put_size a o.dst v).symm
          · obtain ⟨l1, l2⟩ := A'.at_ i y hi
            refine ⟨l1, ?_⟩
            rw [← l2]
            refine (put_other a ?_ v).symm
            exact s i y hi o (by simpa using Array.mem_of_getElem? ho)
          · rw [← A'.defers]; exact (put_defers a o.dst v).symm
        have hE : ∀ c a' w', GoesE dfs ρ h sz (regE ops K) c a' w' → GoesR dfs ops ρ h sz K (.panic c) a' w' := by
          intro c a' w' ⟨x, tm', h', ρ', e, l, k, A', R'⟩
          exact ⟨x, strike ops.toList tm', h', ρ', e, l, k, fun i y hi => (strike_get hi).2, ⟨A'.size, fun i y hi => A'.at_ i y (strike_get hi).1, A'.defers⟩, R'⟩
        have out : ∀ {e : Exit} {a : Act} {w : World}, GoesR dfs ops ρ h sz K e a w → GoesX dfs ρ h sz K e a w := by
          intro e a w g
          cases e with
          | panic c =>
            obtain ⟨x, tm', h', ρ', e, l, k, _, A', R'⟩ := g
            exact ⟨x, tm', h', ρ', e, l, k, A', R'⟩
          | _ => exact g
        cases draw with
        | true =>
          simp only [cond_true] at hk
          split at hk
          · rename_i pl hpl
            obtain ⟨k1, k3⟩ := planOf_ok hpl
            have down : Down .any ops (Array.replicate ops.size false) := by
              intro k ok hk' hl
              exfalso
              rw [Array.getD_eq_getD_getElem?, Array.getElem?_replicate] at hl
              split at hl <;> simp at hl
            refine wp_mono (Q := GoesR dfs ops ρ h sz K) ?_ fun e a w g => out g
            cases h1 : (h.M.X.op || oneWay pl) with
            | true =>
              rw [h1] at hk
              exact wp_region_any hm (wpAnyL_any _ [] _ _ _ (sxPlan_wp CS k3 hQ _ pl _ 0 [] k1 (by simp) hk [] A (H.drawn _) down (by simp) (fun a' w' g => g) hE))
            | false =>
              rw [h1] at hk
              refine wp_region_any hm (wpAnyL_any _ [] _ _ _ (sxPlan_wp CS k3 hQ _ pl _ 0 [] k1 (by simp) hk [] A (H.drawn _) down (by simp) (fun a' w' g => ?_) hE))
              obtain ⟨tm', h', ρ', hk', A', R', hx, _, hm'⟩ := g
              exact canonT_goes (h0 := h) hk' A' R' hx hm'
          · exact absurd hk Bool.false_ne_true
        | false =>
          simp only [cond_false] at hk
          refine wp_mono (Q := GoesR dfs ops ρ h sz K) ?_ fun e a w g => out g
          refine wp_region (fxOps_wp CS (List.range ops.size) ops.toList ?_ hk A H (fun a' w' g => g) hE)
          apply List.ext_getElem?
          intro i
          simp only [List.getElem?_map]
          by_cases hi : i < ops.size
          · rw [List.getElem?_range hi]
            simp [hi]
          · rw [List.getElem?_eq_none (by simpa using hi), List.getElem?_eq_none (by simpa using hi)]
            rfl
      simp only [sxStep, sxReg] at hk
      split at hk
      · obtain ⟨tm', H', hk', s1, s2⟩ := gcK_sub hk
        exact wp_mono (go tm' ⟨H', h.nx, h.M⟩ hk' ⟨A.size, fun i y hi => A.at_ i y (s1 i y hi), A.defers⟩ (H.less s2)) fun e a' w' g => g.trans (Ext.refl _ _) (Nat.le_refl _) (Mem.le_refl _)
      · exact go tm h hk A H
    | rangeFunc f ps x y => exact absurd hk Bool.false_ne_true
    | goto l => exact absurd hk Bool.false_ne_true
    | refuse s => exact absurd hk Bool.false_ne_true

/-- **A CALL, BY THE EXECUTOR.** -/
def sxCallE (P : Program) (C : FuncId → Option CT) (Λ : LTab) (n : Nat) : CallT := runFn P Λ.mg (sxCode P C Λ n) C

/-- A call that does not panic. -/
def sxCall (P : Program) (C : FuncId → Option CT) (Λ : LTab) (n : Nat) (f : FuncId) (args : List SV) (h : HS) (K : SV → HS → Bool) : Bool := sxCallE P C Λ n f args h K fun _ _ => false

theorem sxCallE_sound {P : Program} (hm : P.follows .mixedOrders = true) {C : FuncId → Option CT} (hC : CTSound P C) {Λ : LTab} (hΛ : LTSound P Λ) (n : Nat) : CallSound P (sxCallE P C Λ n) := runFn_sound hC (sxCode_wp hm hC hΛ n).1

theorem sxCall_sound {P : Program} (hm : P.follows .mixedOrders = true) {C : FuncId → Option CT} (hC : CTSound P C) {Λ : LTab} (hΛ : LTSound P Λ) (n : Nat) : ∀ f args h K, sxCall P C Λ n f args h K → ∀ ρ w, HRel ρ h w → (∀ x ∈ args, x.lt ρ h.nx) → CallGoes P f (args.map (SV.den ρ)).toArray w (Post ρ h K) fun _ _ => False :=
  fun f args h K hk ρ w H ha => (sxCallE_sound hm hC hΛ n f args h K _ hk ρ w H ha).mono (fun _ _ h => h) fun _ _ h => not_post_false h

def noC : FuncId → Option CT := fun _ => none
def noL : LTab := ⟨fun _ _ => none, fun _ => false, fun _ _ => none⟩

/-- No blocks told; one form behind these functions. -/
def mgL (l : List Nat) : LTab := ⟨fun _ _ => none, fun f => memN f l, fun _ _ => none⟩

/-- The same, and ahead of some blocks (function, block, slots) what is wanted no more is forgotten. -/
def gcOf (f id : Nat) : List (Nat × Nat × List Nat) → Option (List Nat)
  | [] => none
  | x :: xs => bif Nat.beq x.1 f && Nat.beq x.2.1 id then some x.2.2 else gcOf f id xs

def gcL (l : List Nat) (g : List (Nat × Nat × List Nat)) : LTab := ⟨fun _ _ => none, fun f => memN f l, fun f id => gcOf f id g⟩

theorem noC_sound (P : Program) : CTSound P noC := fun _ _ h => by cases h
theorem noL_sound (P : Program) : LTSound P noL := fun _ _ _ h => by cases h
theorem mgL_sound (P : Program) (l : List Nat) : LTSound P (mgL l) := fun _ _ _ h => by cases h
theorem gcL_sound (P : Program) (l : List Nat) (g : List (Nat × Nat × List Nat)) : LTSound P (gcL l g) := fun _ _ _ h => by cases h

/-! ### Loops with an invariant -/

/-- What one state says, the other says too. -/
def SubT (tm tm' : T SV) : Prop := ∀ k x, tm.get k = some x → tm'.get k = some x

structure SubH (h h' : HS) : Prop where
  nx : h.nx = h'.nx
  blk : ∀ b B, h.H.get b = some B → h'.H.get b = some B
  mem : h.M.le h'.M

theorem ARel.sub {ρ : Nat → Loc} {tm tm' : T SV} {sz nx : Nat} {a : Act} (A : ARel dfs ρ tm' sz nx a) (h : SubT tm tm') : ARel dfs ρ tm sz nx a := ⟨A.size, fun i x hi => A.at_ i x (h i x hi), A.defers⟩

end
end Go.Sx

namespace Go.Sx
noncomputable section
open Go.RowKit

theorem HRel.below {ρ : Nat → Loc} {h : HS} {w w' : World} (H : HRel ρ h w) (hb : Below w.heap.size w w') : HRel ρ h w' where
  os := hb.os.trans H.os
  out := hb.output.trans H.out
  tape := hb.tape.trans H.tape
  mem := fun k o hk => by
    have h1 := H.mem k o hk
    rw [hb.block k (Array.getElem?_eq_some_iff.1 h1).1]; exact h1
  blk := fun b B hB => by
    obtain ⟨h1, h2, h3⟩ := H.blk b B hB
    exact ⟨h1, h2, h3.of (Ext.refl ρ h.nx) h2 (hb.block _ h3.size)⟩
  inj := H.inj
  apart := H.apart
  are := fun k o hk => by
    have h1 := H.are k o hk
    rw [hb.block k (Array.getElem?_eq_some_iff.1 h1).1]; exact h1
  aprA := H.aprA
  disj := H.disj

/-- A call that hands back a value which names no memory, and leaves all that lay. -/
theorem goes_of_below {P : Program} {f : FuncId} {fn : Func} (hf : P.funcs[f]? = some fn) (hn : (fn.name == "runtime.NumGoroutine") = false) (hb : fn.body.isNone = false)
    {args : Array Value} {w : World} {x : Value} (hc : Calls P f args w fun e w' => e = .returned x ∧ Below w.heap.size w w')
    {ρ : Nat → Loc} {h : HS} (H : HRel ρ h w) {K : SV → HS → Bool} {z : SV} (hk : K z h) (hz : z.den ρ = x) (hl : z.lt ρ h.nx) {Ψ : Value → World → Prop} : CallGoes P f args w (Post ρ h K) Ψ :=
  .inl ⟨fn, hf, ⟨hn, hb⟩, hc.mono fun _ _ ⟨he, hw⟩ => .inl ⟨x, he, z, h, ρ, hk, hz.symm, hl, H.below hw, Ext.refl _ _, Nat.le_refl _, Mem.le_refl _⟩⟩

/-- An entry of the model's that gives a value at once. -/
theorem goes_of_entry {P : Program} {f : FuncId} {args : Array Value} {w : World} {x : Value} (hc : (callFunc f args).run P w = .ok (.value x) w)
    {ρ : Nat → Loc} {h : HS} (H : HRel ρ h w) {K : SV → HS → Bool} {z : SV} (hk : K z h) (hz : z.den ρ = x) (hl : z.lt ρ h.nx) {Ψ : Value → World → Prop} : CallGoes P f args w (Post ρ h K) Ψ :=
  .inr ⟨x, w, hc, z, h, ρ, hk, hz.symm, hl, H, Ext.refl _ _, Nat.le_refl _, Mem.le_refl _⟩

/-- What a call shows, out of the executor. -/
theorem calls_of_goes {P : Program} {f : FuncId} {args : Array Value} {w : World} {Φ : Value → World → Prop} (h : CallGoes P f args w Φ fun _ _ => False) {fn : Func} (hf : P.funcs[f]? = some fn)
    (hn : (fn.name == "runtime.NumGoroutine") = false) (hb : fn.body.isSome = true) : Calls P f args w fun e w' => ∃ v, e = .returned v ∧ Φ v w' := by
  rcases h with ⟨_, _, _, h⟩ | ⟨v, w', hv, h⟩
  · exact h.mono fun e w' hor => by
      rcases hor with h | ⟨_, _, h⟩
      · exact h
      · exact h.elim
  · have h1 : fn.name ≠ "runtime.NumGoroutine" := by simpa using hn
    obtain ⟨c, hc⟩ := Option.isSome_iff_exists.1 hb
    have e : (callFunc f args).run P w = .ok (.enter f args) w := by simp [callFunc, hf, h1, hc, mark]
    rw [e] at hv
    cases hv

/-- The heap as it came in, all of it to stay. -/
def memOf (w : World) : Mem := { blk := fun k => w.heap[k]?, os := w.os, out := w.output, tape := w.tape, gl := [], glok := fun _ _ h => (by cases h), X := .none }

/-- The same, with what is known of some blocks. -/
def memG (w : World) (gl : List (Nat × List Value)) (hg : ∀ g cs, (g, cs) ∈ gl → ∃ c t fz, w.heap[g]? = some (.cells c t fz) ∧ ∀ (i : Nat) v, cs[i]? = some v → c[i]? = some v) : Mem :=
  { blk := fun k => w.heap[k]?, os := w.os, out := w.output, tape := w.tape, gl := gl, glok := hg, X := .none }

/-- Memory as it came in. -/
structure Came (w : World) (M : Mem) : Prop where
  blk : M.blk = fun k => w.heap[k]?
  os : M.os = w.os
  out : M.out = w.output
  tape : M.tape = w.tape
  are : M.A.blk = fun _ => none

theorem came_of (w : World) : Came w (memOf w) := ⟨rfl, rfl, rfl, rfl, rfl⟩
theorem came_g (w : World) (gl : List (Nat × List Value)) (hg : ∀ g cs, (g, cs) ∈ gl → ∃ c t fz, w.heap[g]? = some (.cells c t fz) ∧ ∀ (i : Nat) v, cs[i]? = some v → c[i]? = some v) : Came w (memG w gl hg) := ⟨rfl, rfl, rfl, rfl, rfl⟩

theorem hrel_came {w : World} {M : Mem} (h : Came w M) : HRel (fun _ => ⟨0, 0, 0⟩) ⟨.e, 0, M⟩ w where
  os := h.os.symm
  out := h.out.symm
  tape := h.tape.symm
  mem := fun k o hk => by
    have hk : M.blk k = some o := hk
    rw [h.blk] at hk; exact hk
  blk := fun b B h => by rw [T.get_e] at h; cases h
  inj := fun b b' B B' h => by rw [T.get_e] at h; cases h
  apart := fun b B h => by rw [T.get_e] at h; cases h
  are := fun k o hk => by
    have hk : M.A.blk k = some o := hk
    rw [h.are] at hk; cases hk
  aprA := fun b B h => by rw [T.get_e] at h; cases h
  disj := fun k o hk => by
    have hk : M.A.blk k = some o := hk
    rw [h.are] at hk; cases hk

theorem hrel_start (w : World) : HRel (fun _ => ⟨0, 0, 0⟩) ⟨.e, 0, memOf w⟩ w where
  os := rfl
  out := rfl
  tape := rfl
  mem := fun _ _ h => h
  blk := fun b B h => by rw [T.get_e] at h; cases h
  inj := fun b b' B B' h => by rw [T.get_e] at h; cases h
  apart := fun b B h => by rw [T.get_e] at h; cases h
  are := fun k o hk => by cases hk
  aprA := fun b B h => by rw [T.get_e] at h; cases h
  disj := fun k o hk => by cases hk

end
end Go.Sx

namespace Go.Sx
noncomputable section
open Go.RowKit Go.ChangeShapes Go.WideShapes

/-- What lay lies as it lay. -/
theorem stays_of_post {ρ : Nat → Loc} {w w' : World} {nx : Nat} {H : T SBlk} {K : SV → HS → Bool} {v : Value} {M : Mem} (hM : Came w M) (h : Post ρ ⟨H, nx, M⟩ K v w') : Below w.heap.size w w' := by
  obtain ⟨z, h', ρ', _, _, _, R, _, _, hm⟩ := h
  have hb : ∀ k, k < w.heap.size → w'.heap[k]? = w.heap[k]? := fun k hk => by
    have h0 : w.heap[k]? = some w.heap[k] := Array.getElem?_eq_getElem hk
    have h1 : M.blk k = some w.heap[k] := by rw [hM.blk]; exact h0
    rw [R.mem k _ (hm.1 k _ h1)]
    exact h0.symm
  refine ⟨R.os.trans (hm.2.1.trans hM.os), R.tape.trans (hm.2.2.2.trans hM.tape), R.out.trans (hm.2.2.1.trans hM.out), ?_, hb⟩
  rcases Nat.eq_zero_or_pos w.heap.size with h0 | h0
  · omega
  · have h1 := hb (w.heap.size - 1) (by omega)
    have h2 : (w.heap[w.heap.size - 1]?) = some w.heap[w.heap.size - 1] := Array.getElem?_eq_getElem (by omega)
    rw [h2] at h1
    have := (Array.getElem?_eq_some_iff.1 h1).1
    omega

/-- Is it true? -/
def isT (r : SV) : Bool := match r with
  | .v (.bool b) => b
  | _ => false

theorem isT_eq {r : SV} (h : isT r = true) : r = .v (.bool true) := by
  unfold isT at h
  split at h
  · subst h; rfl
  · cases h

/-- A call that gives true, whatever lay. -/
theorem true_of_goes {P : Program} {f : FuncId} {fn : Func} (hf : P.funcs[f]? = some fn) (hn : (fn.name == "runtime.NumGoroutine") = false) (hb : fn.body.isSome = true)
    {args : Array Value} {w : World} {ρ : Nat → Loc} {nx : Nat} {H : T SBlk} {M : Mem} (hM : Came w M) (h : CallGoes P f args w (Post ρ ⟨H, nx, M⟩ fun r _ => isT r) fun _ _ => False) :
    Calls P f args w fun e w' => e = .returned (.bool true) ∧ Below w.heap.size w w' := by
  refine (calls_of_goes h hf hn hb).mono fun e w' ⟨v, he, hp⟩ => ?_
  have hs := stays_of_post hM hp
  obtain ⟨z, h', ρ', hk, hv, _⟩ := hp
  have hk := isT_eq hk
  subst hk
  exact ⟨by rw [he, hv]; rfl, hs⟩

theorem lt_vals (ρ : Nat → Loc) (n : Nat) (l : List Value) : ∀ x ∈ l.map SV.v, x.lt ρ n := by
  intro x hx
  obtain ⟨y, _, rfl⟩ := List.mem_map.1 hx
  exact True.intro

/-- The same, out of the executor. -/
theorem true_of_sx {P : Program} (hm : P.follows .mixedOrders = true) {C : FuncId → Option CT} (hC : CTSound P C) {Λ : LTab} (hΛ : LTSound P Λ) {n : Nat} {f : FuncId} {fn : Func} (hf : P.funcs[f]? = some fn) (hn : (fn.name == "runtime.NumGoroutine") = false) (hb : fn.body.isSome = true)
    (args : List SV) (w : World) {M : Mem} (hM : Came w M) (hl : ∀ x ∈ args, x.lt (fun _ => ⟨0, 0, 0⟩) 0) (hk : sxCall P C Λ n f args ⟨.e, 0, M⟩ (fun r _ => isT r)) :
    Calls P f (args.map (SV.den fun _ => ⟨0, 0, 0⟩)).toArray w fun e w' => e = .returned (.bool true) ∧ Below w.heap.size w w' :=
  true_of_goes hf hn hb hM (sxCall_sound hm hC hΛ n f args _ _ hk _ w (hrel_came hM) hl)

section
variable {H : Type} {enc : TypeId × Value → H} {P : Program}

/-- The row's step where what lay lies as it lay (new blocks may be of whatever kind). -/
theorem post_of_stays {f : Func} {s : ChangeSpec} {apart fresh handsOn again : Bool} {W W' : World} {args : Array Value} {v : Value} {ds gs : List (DataW H)} {before pa pv : List MemPlace}
    (hW : DataW.Whole enc P f.params.toList s.vars apart W args.toList ds gs before)
    (hres : ∀ (b : Nat) (sp : Nat → Bool) (hd : Bool), DataW.TrodAll enc P W' b sp hd f.resultTypes.toList (v.resultList f.resultTypes.size) (s.fn H (ds ++ gs)).results [])
    (hargs : ∀ sp : Nat → Bool, (∀ p ∈ before, sp p.block = true) → DataW.TrodAll enc P W' 0 sp true f.params.toList args.toList (s.fn H (ds ++ gs)).args pa)
    (hvars : ∀ sp : Nat → Bool, (∀ p ∈ before, sp p.block = true) → DataW.TrodVars enc P W' sp s.vars (s.fn H (ds ++ gs)).vars pv)
    (hps : before = pa ++ pv) (hk : Below W.heap.size W W')
    (hok : ∀ (j : Nat) (t : TypeId) (r : Value), f.resultTypes[j]? = some t → (v.resultList f.resultTypes.size)[j]? = some r → Value.okWide P W' .any 0 t r) :
    s.post enc P f apart fresh handsOn again W args v W' := by
  have hlt : ∀ p ∈ before, p.block < W.heap.size := fun p hp => hW.lt p hp
  have hold : ∀ p ∈ before, (fun b => decide (b < W.heap.size)) p.block = true := fun p hp => by simpa using hlt p hp
  refine ⟨ds, gs, before, [], pa, pv, hW, hres _ _ _, hargs _ hold, hvars _ hold, World.keptBut_mono (fun p hp => ⟨hp, ?_⟩) (hk.frame (· ∈ before)), fun _ => ?_⟩
  · rw [hps, List.mem_append] at hp
    exact Or.inr hp
  · obtain ⟨_, _, _, _, _, hz, hn⟩ := hW
    refine ⟨hok, _, _, ([] ++ pa) ++ pv, ⟨[] ++ pa, pv, trodAll_append (hargs _ (fun _ _ => rfl)) (hres _ _ _), hvars _ (fun _ _ => rfl), rfl, ?_, ?_⟩, ?_⟩
    · intro b off hp
      have hp' : MemPlace.cell b off ∈ before := by rw [hps]; simpa using hp
      rw [hk.frozen (hlt _ hp')]
      exact hz b off hp'
    · intro ha
      have := hn ha
      rw [hps] at this
      simpa using this
    · intro p hp _
      rw [hps]
      simpa using hp

end

end
end Go.Sx

namespace Go.Sx
noncomputable section
variable {dfs : List Deferred}

/-! ### Contracts -/

/-- What a function asks of its arguments and the arena, and what it leaves. -/
structure FSpec where
  γ : Type
  pre : γ → List Value → Arena → Prop
  post : γ → List Value → Arena → Value → Arena → Prop

/-- What is no tuple. -/
def plain1 : SV → Option Value
  | .v x => some x
  | .str l => some (.string ⟨l.toArray⟩)
  | .agg cs => match plains cs with
    | some vs => some (.agg vs.toArray)
    | none => none
  | _ => none

theorem plain1_den {x : SV} {v : Value} (h : plain1 x = some v) (ρ : Nat → Loc) : x.den ρ = v := by
  unfold plain1 at h
  split at h
  · injection h
  · injection h
  · rename_i cs
    split at h
    · rename_i vs hvs
      injection h with h
      rw [← h, SV.den, dens_eq, plains_den ρ cs vs hvs]
    · cases h
  · cases h

def plain1s : List SV → Option (List Value)
  | [] => some []
  | x :: xs => match plain1 x with
    | some v => match plain1s xs with
      | some vs => some (v :: vs)
      | none => none
    | none => none

theorem plain1s_den (ρ : Nat → Loc) : ∀ (l : List SV) (vs : List Value), plain1s l = some vs → l.map (SV.den ρ) = vs
  | [], vs, h => by injection h
  | x :: xs, vs, h => by
    simp only [plain1s] at h
    split at h
    · rename_i v hv
      split at h
      · rename_i us hus
        injection h with h; subst h
        rw [List.map_cons, plain1_den hv ρ, plain1s_den ρ xs us hus]
      · cases h
    · cases h

def plainV : SV → Option Value
  | .tup cs => match plain1s cs with
    | some vs => some (.tuple vs.toArray)
    | none => none
  | .v x => some x
  | .fn f [] => some (.func (.func f) #[] #[])
  | x => plain1 x

theorem plainV_den {x : SV} {v : Value} (h : plainV x = some v) (ρ : Nat → Loc) : x.den ρ = v := by
  unfold plainV at h
  split at h
  · rename_i cs
    split at h
    · rename_i vs hvs
      injection h with h
      rw [← h, SV.den, dens_eq, plain1s_den ρ cs vs hvs]
    · cases h
  · injection h
  · injection h
  · exact plain1_den h ρ

def plainVs : List SV → Option (List Value)
  | [] => some []
  | x :: xs => match plainV x with
    | some v => match plainVs xs with
      | some vs => some (v :: vs)
      | none => none
    | none => none

theorem plainVs_den (ρ : Nat → Loc) : ∀ (l : List SV) (vs : List Value), plainVs l = some vs → l.map (SV.den ρ) = vs
  | [], vs, h => by injection h
  | x :: xs, vs, h => by
    simp only [plainVs] at h
    split at h
    · rename_i v hv
      split at h
      · rename_i us hus
        injection h with h; subst h
        rw [List.map_cons, plainV_den hv ρ, plainVs_den ρ xs us hus]
      · cases h
    · cases h

/-- The contract, as a transformer. -/
def ctS (S : FSpec) : CT := fun args h K => match plainVs args with
  | some vs => h.M.D (∃ g, S.pre g vs h.M.A ∧ ∀ v A', S.post g vs h.M.A v A' → K (.v v) (h.put A') = true)
  | none => false

/-- What may change of a world: what lies in the arena, and new blocks. -/
structure Moves (A A' : Arena) (w w' : World) : Prop where
  os : w'.os = w.os
  out : w'.output = w.output
  tape : w'.tape = w.tape
  same : ∀ k, A.blk k = none → k < w.heap.size → w'.heap[k]? = w.heap[k]?
  sub : ∀ k o, A'.blk k = some o → w'.heap[k]? = some o
  dom : ∀ k o, A'.blk k = some o → (∃ o', A.blk k = some o') ∨ w.heap.size ≤ k

/-- The function keeps the contract. -/
def FOk (P : Program) (f : FuncId) (S : FSpec) : Prop :=
  ∀ g vs A w, (∀ k o, A.blk k = some o → w.heap[k]? = some o) → S.pre g vs A → CallGoes P f vs.toArray w (fun v w' => ∃ A', S.post g vs A v A' ∧ Moves A A' w w') fun _ _ => False

theorem ctS_goes {P : Program} {f : FuncId} {S : FSpec} (hS : FOk P f S) {args : List SV} {h : HS} {K : SV → HS → Bool} (hk : ctS S args h K = true) {ρ : Nat → Loc} {w : World} (R : HRel ρ h w) :
    CallGoes P f (args.map (SV.den ρ)).toArray w (Post ρ h K) fun _ _ => False := by
  unfold ctS at hk
  split at hk
  · rename_i vs hvs
    obtain ⟨g, hp, hk⟩ := (h.M.X.hD _).1 hk
    rw [plainVs_den ρ args vs hvs]
    refine (hS g vs h.M.A w R.are hp).mono (fun v w' ⟨A', k1, k2⟩ => ?_) fun _ _ h => h
    exact ⟨.v v, h.put A', ρ, hk v A' k1, rfl, trivial, R.arena k2.os k2.out k2.tape k2.same k2.sub k2.dom, Ext.refl _ _, Nat.le_refl _, Mem.put_le _ _⟩
  · exact absurd hk Bool.false_ne_true

/-! ### A contract out of the executor -/

/-- Memory all of whose known addresses lie in the arena. -/
abbrev opMem (blk : Nat → Option Obj) (os : Os) (out : Array (Nat × ByteArray)) (tape : Nat → Question → Nat) (A : Arena) (D : Prop → Bool) (hD : ∀ p, D p = true ↔ p) (al : TypeId → Bool := fun _ => false) : Mem :=
  ⟨blk, os, out, tape, [], fun _ _ h => (by cases h), ⟨A, D, hD, true, al⟩⟩

/-- The end of a run: the contract's promise, where the result names no new block. -/
def endP (S : FSpec) (g : S.γ) (vs : List Value) (A : Arena) : SV → HS → Bool := fun z h => match plainV z with
  | some v => h.M.D (S.post g vs A v h.M.A)
  | none => false

/-- The same, where it may name new blocks. -/
def endK (S : FSpec) (g : S.γ) (vs : List Value) (A : Arena) : SV → HS → Bool := fun z h =>
  h.M.D (∀ ρ w, HRel ρ h w → z.lt ρ h.nx → ∃ A', S.post g vs A (z.den ρ) A' ∧ (∀ k o, A'.blk k = some o → w.heap[k]? = some o) ∧ ∀ k o, A'.blk k = some o → (∃ o', h.M.A.blk k = some o') ∨ ∃ b B, h.H.get b = some B ∧ (ρ b).blk = k)

theorem endP_end {S : FSpec} {g : S.γ} {vs : List Value} {A : Arena} {z : SV} {h : HS} (hk : endP S g vs A z h = true) : endK S g vs A z h = true := by
  unfold endP at hk
  split at hk
  · rename_i v hv
    have hk := (h.M.X.hD _).1 hk
    refine (h.M.X.hD _).2 fun ρ w R _ => ⟨h.M.A, by rw [plainV_den hv ρ]; exact hk, R.are, fun k o ho => .inl ⟨o, ho⟩⟩
  · exact absurd hk Bool.false_ne_true

/-- A run of a function's own text, whatever contract is known of it. -/
def sxTop (P : Program) (C : FuncId → Option CT) (Λ : LTab) (n : Nat) (f : FuncId) (args : List SV) (h : HS) (K : SV → HS → Bool) : Bool := runFn P Λ.mg (sxCode P C Λ n) noC f args h K fun _ _ => false

theorem sxTop_sound {P : Program} (hm : P.follows .mixedOrders = true) {C : FuncId → Option CT} (hC : CTSound P C) {Λ : LTab} (hΛ : LTSound P Λ) (n : Nat) : ∀ f args h K, sxTop P C Λ n f args h K → ∀ ρ w, HRel ρ h w → (∀ x ∈ args, x.lt ρ h.nx) → CallGoes P f (args.map (SV.den ρ)).toArray w (Post ρ h K) fun _ _ => False :=
  fun f args h K hk ρ w H ha => (runFn_sound (noC_sound P) (sxCode_wp hm hC hΛ n).1 f args h K _ hk ρ w H ha).mono (fun _ _ h => h) fun _ _ h => not_post_false h

/-- The run's question. -/
abbrev Run (P : Program) (C : FuncId → Option CT) (Λ : LTab) (n : Nat) (f : FuncId) (args : List SV) (A : Arena) (E : SV → HS → Bool) (al : TypeId → Bool := fun _ => false) : Prop :=
  ∀ blk os out tape D hD, sxTop P C Λ n f args ⟨.e, 0, opMem blk os out tape A D hD al⟩ E = true

theorem fok_of_end {P : Program} (hm : P.follows .mixedOrders = true) {f : FuncId} {S : FSpec} {E : (g : S.γ) → List Value → Arena → SV → HS → Bool} (hE : ∀ g vs A z h, E g vs A z h = true → endK S g vs A z h = true) (al : TypeId → Bool)
    (hr : ∀ g vs A, S.pre g vs A → ∃ C Λ n args, CTSound P C ∧ LTSound P Λ ∧ plainVs args = some vs ∧ (∀ ρ, ∀ x ∈ args, x.lt ρ 0) ∧ Run P C Λ n f args A (E g vs A) al) : FOk P f S := by
  classical
  intro gh vs A w hA hp
  obtain ⟨C, Λ, n, args, hC, hΛ, h1, h2, h3⟩ := hr gh vs A hp
  have R : HRel (fun _ => ⟨0, 0, 0⟩) ⟨.e, 0, opMem (fun k => if A.blk k = none then w.heap[k]? else none) w.os w.output w.tape A (fun p => decide p) (fun p => by simp) al⟩ w := by
    refine ⟨rfl, rfl, rfl, fun k o hk => ?_, fun b B hb => ?_, fun b b' B B' hb => ?_, fun b B hb => ?_, hA, fun b B hb => ?_, fun k o hk => ?_⟩
    · have hk : (if A.blk k = none then w.heap[k]? else none) = some o := hk
      split at hk
      · exact hk
      · cases hk
    · rw [T.get_e] at hb; cases hb
    · rw [T.get_e] at hb; cases hb
    · rw [T.get_e] at hb; cases hb
    · rw [T.get_e] at hb; cases hb
    · have hk : A.blk k = some o := hk
      show (if A.blk k = none then w.heap[k]? else none) = none
      rw [if_neg (by rw [hk]; simp)]
  have g := sxTop_sound hm hC hΛ n f args _ _ (h3 _ _ _ _ _ _) _ w R (fun x hx => h2 _ x hx)
  rw [plainVs_den _ args vs h1] at g
  refine g.mono (fun v w' ⟨z, h', ρ', hz, hv, hl, R', _, _, hle⟩ => ?_) fun _ _ h => h
  obtain ⟨A', k1, k2, k3⟩ := (h'.M.X.hD _).1 (hE _ _ _ _ _ hz) ρ' w' R' hl
  have old : ∀ k, A.blk k = none → k < w.heap.size → h'.M.blk k = w.heap[k]? := fun k hk hlt => by
    have h0 : w.heap[k]? = some w.heap[k] := Array.getElem?_eq_getElem hlt
    have := hle.1 k w.heap[k] (by show (if A.blk k = none then w.heap[k]? else none) = _; rw [if_pos hk]; exact h0)
    rw [this, h0]
  refine ⟨A', by rw [hv]; exact k1, R'.os.trans hle.2.1, R'.out.trans hle.2.2.1, R'.tape.trans hle.2.2.2, fun k hk hlt => ?_, k2, fun k o ho => ?_⟩
  · have h0 : w.heap[k]? = some w.heap[k] := Array.getElem?_eq_getElem hlt
    rw [R'.mem k w.heap[k] (by rw [old k hk hlt]; exact h0), h0]
  · cases hA0 : A.blk k with
    | some o' => exact .inl ⟨o', rfl⟩
    | none =>
      refine .inr (Nat.le_of_not_lt fun hlt => ?_)
      have h0 := old k hA0 hlt
      have h00 : w.heap[k]? = some w.heap[k] := Array.getElem?_eq_getElem hlt
      rcases k3 k o ho with ⟨o', h4⟩ | ⟨b, B, h4, h5⟩
      · rw [R'.disj k o' h4, h00] at h0; cases h0
      · have := R'.apart b B h4
        rw [h5, h0, h00] at this; cases this

theorem fok_of_run {P : Program} (hm : P.follows .mixedOrders = true) {f : FuncId} {S : FSpec}
    (hr : ∀ g vs A, S.pre g vs A → ∃ C Λ n args, CTSound P C ∧ LTSound P Λ ∧ plainVs args = some vs ∧ (∀ ρ, ∀ x ∈ args, x.lt ρ 0) ∧ Run P C Λ n f args A (endP S g vs A)) : FOk P f S :=
  fok_of_end hm (fun _ _ _ _ _ h => endP_end h) (fun _ => false) hr

/-! ### Loops -/

mutual
/-- All ids in it are below n. -/
def SV.bel (n : Nat) : SV → Prop
  | .v _ => True
  | .str _ => True
  | .ptr b _ => b < n
  | .slc b _ _ c => b < n ∧ c.lt n
  | .mp b => b < n
  | .agg cs => SV.bels n cs
  | .tup cs => SV.bels n cs
  | .ifc _ x => x.bel n
  | .fn _ cs => SV.bels n cs
def SV.bels (n : Nat) : List SV → Prop
  | [] => True
  | x :: xs => x.bel n ∧ SV.bels n xs
end

mutual
theorem SV.bel_lt {ρ : Nat → Loc} {n m : Nat} : ∀ (x : SV), x.bel n → x.lt ρ m → x.lt ρ n
  | .v _, _, _ => trivial
  | .str _, _, _ => trivial
  | .ptr _ _, h, _ => h
  | .slc _ _ _ _, h, k => ⟨h.1, h.2, k.2.2⟩
  | .mp _, h, _ => h
  | .agg cs, h, k => SV.bels_lt cs h k
  | .tup cs, h, k => SV.bels_lt cs h k
  | .ifc _ x, h, k => SV.bel_lt x h k
  | .fn _ cs, h, k => SV.bels_lt cs h k
theorem SV.bels_lt {ρ : Nat → Loc} {n m : Nat} : ∀ (l : List SV), SV.bels n l → SV.lts ρ m l → SV.lts ρ n l
  | [], _, _ => trivial
  | x :: xs, h, k => ⟨SV.bel_lt x h.1 k.1, SV.bels_lt xs h.2 k.2⟩
end

def entsBel (n : Nat) : List (SV × SV × Nat) → Prop
  | [] => True
  | e :: es => e.1.bel n ∧ e.2.1.bel n ∧ entsBel n es

def SBlk.bel (n : Nat) : SBlk → Prop
  | .cells cs _ _ => SV.bels n cs
  | .map es _ => entsBel n es
  | .siter _ _ => True
  | .miter m _ _ _ => m < n

theorem bels_mem {n : Nat} : ∀ {l : List SV}, SV.bels n l → ∀ x ∈ l, x.bel n
  | [], _, _, h => by cases h
  | y :: ys, h, x, hx => by
    rcases List.mem_cons.1 hx with rfl | hx
    · exact h.1
    · exact bels_mem h.2 x hx

theorem entsBel_mem {n : Nat} : ∀ {l : List (SV × SV × Nat)}, entsBel n l → ∀ e ∈ l, e.1.bel n ∧ e.2.1.bel n
  | [], _, _, h => by cases h
  | y :: ys, h, x, hx => by
    rcases List.mem_cons.1 hx with rfl | hx
    · exact ⟨h.1, h.2.1⟩
    · exact entsBel_mem h.2.2 x hx

theorem SBlk.bel_lt {ρ : Nat → Loc} {n m : Nat} {B : SBlk} (h : B.bel n) (k : B.lt ρ m) : B.lt ρ n := by
  cases B with
  | cells cs es τ => exact fun x hx => SV.bel_lt x (bels_mem h x hx) (k x hx)
  | map es clock => exact fun e he => ⟨SV.bel_lt _ (entsBel_mem h e he).1 (k e he).1, SV.bel_lt _ (entsBel_mem h e he).2 (k e he).2⟩
  | siter s pos => trivial
  | miter m' since seen last => exact h

/-- What holds at a loop's head: slots that stay, blocks that stay, and what goes by a state. -/
structure LInv where
  γ : Type
  G : γ → Prop
  keepS : List Nat
  keepB : List Nat
  sl : γ → List (Nat × SV)
  bl : γ → List (Nat × SBlk)
  ar : γ → Arena
  mu : γ → Nat

def takeT {α : Type} (t : T α) : List Nat → T α → T α
  | [], acc => acc
  | i :: is, acc => match t.get i with
    | some x => takeT t is (acc.set i x)
    | none => takeT t is acc

theorem takeT_get {α : Type} {t : T α} : ∀ {is : List Nat} {acc : T α} {i : Nat} {x : α}, (takeT t is acc).get i = some x → (i ∈ is ∧ t.get i = some x) ∨ acc.get i = some x
  | [], _, _, _, h => .inr h
  | j :: js, acc, i, x, h => by
    simp only [takeT] at h
    split at h
    · rename_i y hy
      rcases takeT_get h with ⟨h1, h2⟩ | h
      · exact .inl ⟨List.mem_cons_of_mem _ h1, h2⟩
      · rcases T.get_set h with ⟨h1, h2⟩ | ⟨_, h⟩
        · subst h1; subst h2; exact .inl ⟨List.mem_cons_self, hy⟩
        · exact .inr h
    · rcases takeT_get h with ⟨h1, h2⟩ | h
      · exact .inl ⟨List.mem_cons_of_mem _ h1, h2⟩
      · exact .inr h

def putT {α : Type} : List (Nat × α) → T α → T α
  | [], t => t
  | s :: ss, t => putT ss (t.set s.1 s.2)

theorem putT_get {α : Type} : ∀ {l : List (Nat × α)} {t : T α} {i : Nat} {x : α}, (putT l t).get i = some x → (i, x) ∈ l ∨ t.get i = some x
  | [], _, _, _, h => .inr h
  | s :: ss, t, i, x, h => by
    rcases putT_get (l := ss) h with h | h
    · exact .inl (List.mem_cons_of_mem _ h)
    · rcases T.get_set h with ⟨h1, h2⟩ | ⟨_, h⟩
      · subst h1; subst h2; exact .inl (by simp)
      · exact .inr h

def sameP {α : Type} (t t' : T α) : List Nat → Prop
  | [] => True
  | i :: is => t'.get i = t.get i ∧ sameP t t' is

theorem sameP_mem {α : Type} {t t' : T α} : ∀ {is : List Nat}, sameP t t' is → ∀ i ∈ is, t'.get i = t.get i
  | [], _, _, h => by cases h
  | j :: js, h, i, hi => by
    rcases List.mem_cons.1 hi with rfl | hi
    · exact h.1
    · exact sameP_mem h.2 i hi

/-- A slot that stays: each side is reckoned alone (Meta's unifier would else hold the two tables against each other: half a minute a round). -/
theorem same1 {α : Type} {t t' : T α} {i : Nat} {x : α} (h1 : t'.get i = some x) (h2 : t.get i = some x) : t'.get i = t.get i := h1.trans h2.symm

/-- These entries stand there. -/
def atP {α : Type} (t : T α) : List (Nat × α) → Prop
  | [] => True
  | s :: ss => t.get s.1 = some s.2 ∧ atP t ss

theorem atP_mem {α : Type} {t : T α} : ∀ {l : List (Nat × α)}, atP t l → ∀ s ∈ l, t.get s.1 = some s.2
  | [], _, _, h => by cases h
  | x :: xs, h, s, hs => by
    rcases List.mem_cons.1 hs with rfl | hs
    · exact h.1
    · exact atP_mem h.2 s hs

def belS (n : Nat) : List (Nat × SV) → Prop
  | [] => True
  | s :: ss => s.2.bel n ∧ belS n ss

def belB (n : Nat) : List (Nat × SBlk) → Prop
  | [] => True
  | s :: ss => s.1 < n ∧ s.2.bel n ∧ belB n ss

theorem belS_mem {n : Nat} : ∀ {l : List (Nat × SV)}, belS n l → ∀ s ∈ l, s.2.bel n
  | [], _, _, h => by cases h
  | x :: xs, h, s, hs => by
    rcases List.mem_cons.1 hs with rfl | hs
    · exact h.1
    · exact belS_mem h.2 s hs

theorem belB_mem {n : Nat} : ∀ {l : List (Nat × SBlk)}, belB n l → ∀ s ∈ l, s.1 < n ∧ s.2.bel n
  | [], _, _, h => by cases h
  | x :: xs, h, s, hs => by
    rcases List.mem_cons.1 hs with rfl | hs
    · exact ⟨h.1, h.2.1⟩
    · exact belB_mem h.2.2 s hs

/-- A state of the loop's head. -/
def LInv.At (S : LInv) (g : S.γ) (tm : T SV) (h : HS) : Prop := S.G g ∧ atP tm (S.sl g) ∧ atP h.H (S.bl g) ∧ h.M.A = S.ar g

/-- A round's end. -/
def loopK (S : LInv) (id : Nat) (K : KT) (tm0 : T SV) (H0 : T SBlk) (m : Nat) : KT := fun e tm h => match e with
  | .nrm => h.M.D (∃ g, S.At g tm h ∧ S.mu g < m ∧ sameP tm0 tm S.keepS ∧ sameP H0 h.H S.keepB)
  | .ext i => bif Nat.beq i id then K .nrm tm h else K (.ext i) tm h
  | e => K e tm h

/-- A loop with an invariant. -/
def loopLT (P : Program) (C : FuncId → Option CT) (Λ : LTab) (n : Nat) (f : FuncId) (id : Nat) : LT := fun c sz K tm h => match c with
  | .loop b => h.M.D (∃ S : LInv, (∃ g, S.At g tm h) ∧ ∀ g, S.G g → belS h.nx (S.sl g) ∧ belB h.nx (S.bl g) ∧
      shutH ⟨putT (S.bl g) (takeT h.H S.keepB .e), h.nx, h.M.put (S.ar g)⟩ (fun h1 => sxCode P C Λ n f sz b (loopK S id K tm h.H (S.mu g)) (putT (S.sl g) (takeT tm S.keepS .e)) h1) = true)
  | _ => false

theorem loopLT_sound {P : Program} (hm : P.follows .mixedOrders = true) {C : FuncId → Option CT} (hC : CTSound P C) {Λ : LTab} (hΛ : LTSound P Λ) (n : Nat) (f : FuncId) (id : Nat)
    {c : Code} {sz : Nat} {K : KT} {tm : T SV} {h : HS} (hW : Within P f (.block id c)) (hk : loopLT P C Λ n f id c sz K tm h = true) {ρ : Nat → Loc} {a : Act} {w : World} (A : ARel dfs ρ tm sz h.nx a) (R : HRel ρ h w) :
    (Code.block id c).wp P (GoesX dfs ρ h sz K) a w := by
  unfold loopLT at hk
  split at hk
  · rename_i b
    obtain ⟨S, ⟨g0, h0⟩, hk⟩ := (h.M.X.hD _).1 hk
    -- a state, as the round sees it
    have state : ∀ (g : S.γ) (tm' : T SV) (h' : HS) (ρ' : Nat → Loc) (a' : Act) (w' : World), S.At g tm' h' → sameP tm tm' S.keepS → sameP h.H h'.H S.keepB → ARel dfs ρ' tm' sz h'.nx a' → HRel ρ' h' w' → Ext ρ ρ' h.nx → h.M.le h'.M →
        ARel dfs ρ' (putT (S.sl g) (takeT tm S.keepS .e)) sz h.nx a' ∧ HRel ρ' ⟨putT (S.bl g) (takeT h.H S.keepB .e), h.nx, h.M.put (S.ar g)⟩ w' := by
      intro g tm' h' ρ' a' w' ⟨hG, h1, h2, h3⟩ hs1 hs2 A' R' hx hle
      obtain ⟨hb1, hb2, _⟩ := hk g hG
      have slot : ∀ i x, (putT (S.sl g) (takeT tm S.keepS .e)).get i = some x → tm'.get i = some x ∧ x.lt ρ' h.nx := fun i x hi => by
        rcases putT_get hi with hi | hi
        · have h4 := atP_mem h1 _ hi
          exact ⟨h4, SV.bel_lt x (belS_mem hb1 _ hi) (A'.at_ i x h4).1⟩
        · rcases takeT_get hi with ⟨h4, h5⟩ | h4
          · refine ⟨by rw [sameP_mem hs1 i h4]; exact h5, ?_⟩
            exact SV.lt_ext hx (Nat.le_refl _) x (A.at_ i x h5).1
          · rw [T.get_e] at h4; cases h4
      have blk : ∀ i B, (putT (S.bl g) (takeT h.H S.keepB .e)).get i = some B → h'.H.get i = some B ∧ i < h.nx ∧ B.lt ρ' h.nx := fun i B hi => by
        rcases putT_get hi with hi | hi
        · have h4 := atP_mem h2 _ hi
          have h5 := belB_mem hb2 _ hi
          exact ⟨h4, h5.1, SBlk.bel_lt h5.2 (R'.blk i B h4).2.1⟩
        · rcases takeT_get hi with ⟨h4, h5⟩ | h4
          · refine ⟨by rw [sameP_mem hs2 i h4]; exact h5, (R.blk i B h5).1, ?_⟩
            exact SBlk.lt_ext hx (Nat.le_refl _) (R.blk i B h5).2.1
          · rw [T.get_e] at h4; cases h4
      refine ⟨⟨A'.size, fun i x hi => ⟨(slot i x hi).2, (A'.at_ i x (slot i x hi).1).2⟩, A'.defers⟩, R'.os.trans hle.2.1, R'.out.trans hle.2.2.1, R'.tape.trans hle.2.2.2, fun k o hk => R'.mem k o (hle.1 k o hk), fun i B hi => ?_, fun i i' B B' hi hi' he => R'.inj i i' B B' (blk i B hi).1 (blk i' B' hi').1 he, fun i B hi => ?_, fun k o hk => ?_, fun i B hi => ?_, fun k o hk => ?_⟩
      · exact ⟨(blk i B hi).2.1, (blk i B hi).2.2, (R'.blk i B (blk i B hi).1).2.2⟩
      · have := R'.apart i B (blk i B hi).1
        show h.M.blk (ρ' i).blk = none
        cases hb : h.M.blk (ρ' i).blk with
        | none => rfl
        | some o => rw [hle.1 _ o hb] at this; cases this
      · have hk : (S.ar g).blk k = some o := hk
        rw [← h3] at hk
        exact R'.are k o hk
      · show (S.ar g).blk (ρ' i).blk = none
        rw [← h3]; exact R'.aprA i B (blk i B hi).1
      · have hk : (S.ar g).blk k = some o := hk
        rw [← h3] at hk
        have := R'.disj k o hk
        show h.M.blk k = none
        cases hb : h.M.blk k with
        | none => rfl
        | some o' => rw [hle.1 _ o' hb] at this; cases this
    have key : ∀ (m : Nat) (g : S.γ) (ρ1 : Nat → Loc) (a1 : Act) (w1 : World), S.mu g < m → S.G g → Ext ρ ρ1 h.nx → ARel dfs ρ1 (putT (S.sl g) (takeT tm S.keepS .e)) sz h.nx a1 → HRel ρ1 ⟨putT (S.bl g) (takeT h.H S.keepB .e), h.nx, h.M.put (S.ar g)⟩ w1 →
        Code.rounds P b (Exit.inBlock id (GoesX dfs ρ h sz K)) m a1 w1 := by
      intro m
      induction m with
      | zero => intro g ρ1 a1 w1 hm; omega
      | succ m ih =>
        intro g ρ1 a1 w1 hlt hG hx1 A1 R1
        obtain ⟨_, _, hrun⟩ := hk g hG
        rw [shutH_eq] at hrun
        rw [rounds_succ]
        refine wp_mono ((sxCode_wp hm hC hΛ n).1 f sz b _ _ _ (hW.to .block |>.to .loop) hrun dfs ρ1 a1 w1 A1 R1) fun e a' w' gx => ?_
        have fin : ∀ {tm' : T SV} {h' : HS} {ρ' : Nat → Loc}, Ext ρ1 ρ' h.nx → h.nx ≤ h'.nx → (h.M.put (S.ar g)).le h'.M → Ext ρ ρ' h.nx ∧ h.nx ≤ h'.nx ∧ h.M.le h'.M := fun hx hn hle => ⟨hx1.trans hx (Nat.le_refl _), hn, hle⟩
        cases e with
        | normal =>
          obtain ⟨tm', h', ρ', hk', A', R', hx, hn, hle⟩ := gx
          obtain ⟨g', hAt, hmu, hs1, hs2⟩ := (h'.M.X.hD _).1 hk'
          obtain ⟨A2, R2⟩ := state g' tm' h' ρ' a' w' hAt hs1 hs2 A' R' (hx1.trans hx (Nat.le_refl _)) hle
          exact ih g' ρ' a' w' (by omega) hAt.1 (hx1.trans hx (Nat.le_refl _)) A2 R2
        | exit i =>
          obtain ⟨tm', h', ρ', hk', A', R', hx, hn, hle⟩ := gx
          have hk2 : (bif Nat.beq i id then K .nrm tm' h' else K (.ext i) tm' h') = true := hk'
          show Exit.inBlock id (GoesX dfs ρ h sz K) (.exit i) a' w'
          cases hb : Nat.beq i id with
          | true =>
            rw [hb] at hk2
            have := Nat.eq_of_beq_eq_true hb
            subst this
            simp only [Exit.inBlock, if_true]
            exact ⟨tm', h', ρ', hk2, A', R', hx1.trans hx (Nat.le_refl _), hn, hle⟩
          | false =>
            rw [hb] at hk2
            have hne : i ≠ id := fun e => by rw [e, Nat.beq_refl] at hb; cases hb
            simp only [Exit.inBlock, hne, if_false]
            exact ⟨tm', h', ρ', hk2, A', R', hx1.trans hx (Nat.le_refl _), hn, hle⟩
        | ret =>
          obtain ⟨tm', h', ρ', hk', A', R', hx, hn, hle⟩ := gx
          exact ⟨tm', h', ρ', hk', A', R', hx1.trans hx (Nat.le_refl _), hn, hle⟩
        | goto l => exact gx.elim
        | panic c =>
          obtain ⟨x, tm', h', ρ', e, l, hk', A', R', hx, hn, hle⟩ := gx
          exact ⟨x, tm', h', ρ', e, l, hk', A', R', hx1.trans hx (Nat.le_refl _), hn, hle⟩
        | outgrown => exact gx.elim
    obtain ⟨A0, R0⟩ := state g0 tm h ρ a w h0 (by
      generalize S.keepS = l
      induction l with
      | nil => trivial
      | cons i is ih => exact ⟨rfl, ih⟩) (by
      generalize S.keepB = l
      induction l with
      | nil => trivial
      | cons i is ih => exact ⟨rfl, ih⟩) A R (Ext.refl _ _) (Mem.le_refl _)
    refine wp_block (wp_loop_rounds (S.mu g0 + 1) (key (S.mu g0 + 1) g0 ρ a w (Nat.lt_succ_self _) h0.1 (Ext.refl _ _) A0 R0))
  · exact absurd hk Bool.false_ne_true

/-- A table of told blocks, one behind the other. -/
structure LEnt where
  f : FuncId
  id : Nat
  lt : LT

def lookL (l : List LEnt) (f : FuncId) (id : Nat) : Option LT := match l with
  | [] => none
  | x :: xs => bif Nat.beq f x.f && Nat.beq id x.id then some x.lt else lookL xs f id

def LEnt.Ok (P : Program) (x : LEnt) : Prop := ∀ c sz K tm h, Within P x.f (.block x.id c) → x.lt c sz K tm h → ∀ dfs ρ a w, ARel dfs ρ tm sz h.nx a → HRel ρ h w → (Code.block x.id c).wp P (GoesX dfs ρ h sz K) a w

def tabL (l : List LEnt) : LTab := ⟨lookL l, fun _ => false, fun _ _ => none⟩

theorem tabL_sound {P : Program} {l : List LEnt} (h : ∀ x ∈ l, x.Ok P) : LTSound P (tabL l) := by
  intro f id lt hl
  change lookL l f id = some lt at hl
  revert hl
  induction l with
  | nil => intro hl; cases hl
  | cons x xs ih =>
    intro hl
    simp only [lookL] at hl
    cases hb : Nat.beq f x.f && Nat.beq id x.id with
    | false => rw [hb] at hl; exact ih (fun y hy => h y (List.mem_cons_of_mem _ hy)) hl
    | true =>
      rw [hb] at hl
      simp only [Bool.and_eq_true] at hb
      simp only [cond_true, Option.some.injEq] at hl
      subst hl
      have e1 := Nat.eq_of_beq_eq_true hb.1
      have e2 := Nat.eq_of_beq_eq_true hb.2
      subst e1; subst e2
      exact h x List.mem_cons_self

def loopE (P : Program) (C : FuncId → Option CT) (Λ : LTab) (n : Nat) (f : FuncId) (id : Nat) : LEnt := ⟨f, id, loopLT P C Λ n f id⟩

theorem loopE_ok {P : Program} (hm : P.follows .mixedOrders = true) {C : FuncId → Option CT} (hC : CTSound P C) {Λ : LTab} (hΛ : LTSound P Λ) (n : Nat) (f : FuncId) (id : Nat) : (loopE P C Λ n f id).Ok P :=
  fun _ _ _ _ _ hW hk _ _ _ _ A R => loopLT_sound hm hC hΛ n f id hW hk A R

/-- A table of loops, with those within. -/
def tabO (P : Program) (C : FuncId → Option CT) (Λ : LTab) (n : Nat) (l : List (FuncId × Nat)) : LTab := tabL (l.map fun x => loopE P C Λ n x.1 x.2)

theorem tabO_sound {P : Program} (hm : P.follows .mixedOrders = true) {C : FuncId → Option CT} (hC : CTSound P C) {Λ : LTab} (hΛ : LTSound P Λ) (n : Nat) (l : List (FuncId × Nat)) : LTSound P (tabO P C Λ n l) :=
  tabL_sound fun x hx => by
    obtain ⟨y, _, rfl⟩ := List.mem_map.1 hx
    exact loopE_ok hm hC hΛ n y.1 y.2

/-- A table of contracts. -/
structure CEnt where
  f : FuncId
  ct : CT

def lookC (l : List CEnt) (C : FuncId → Option CT) : FuncId → Option CT := fun f => match l with
  | [] => C f
  | x :: xs => bif Nat.beq f x.f then some x.ct else lookC xs C f

def CEnt.Ok (P : Program) (x : CEnt) : Prop := ∀ args h K, x.ct args h K → ∀ ρ w, HRel ρ h w → (∀ x ∈ args, x.lt ρ h.nx) → CallGoes P x.f (args.map (SV.den ρ)).toArray w (Post ρ h K) fun _ _ => False

theorem lookC_sound {P : Program} {C : FuncId → Option CT} (hC : CTSound P C) : ∀ {l : List CEnt}, (∀ x ∈ l, x.Ok P) → CTSound P (lookC l C)
  | [], _ => hC
  | x :: xs, h => by
    intro f ct hf
    simp only [lookC] at hf
    cases hb : Nat.beq f x.f with
    | false => rw [hb] at hf; exact lookC_sound hC (fun y hy => h y (List.mem_cons_of_mem _ hy)) f ct hf
    | true =>
      rw [hb] at hf
      simp only [cond_true, Option.some.injEq] at hf
      subst hf
      have e1 := Nat.eq_of_beq_eq_true hb
      subst e1
      exact h x List.mem_cons_self

def specE (f : FuncId) (S : FSpec) : CEnt := ⟨f, ctS S⟩

theorem specE_ok {P : Program} {f : FuncId} {S : FSpec} (h : FOk P f S) : (specE f S).Ok P := fun _ _ _ hk _ _ R _ => ctS_goes h hk R

/-! ### Steps of a proof: what a run is stuck at -/

theorem split_b {t : Bool} {A B : Bool} (h1 : t = true → A = true) (h2 : t = false → B = true) : (bif t then A else B) = true := by
  cases t
  · exact h2 rfl
  · exact h1 rfl

theorem split_dec {p : Prop} {i : Decidable p} {A B : Bool} (h1 : p → A = true) (h2 : ¬ p → B = true) : (bif decide p then A else B) = true := by
  by_cases h : p
  · rw [decide_eq_true h]; exact h1 h
  · rw [decide_eq_false h]; exact h2 h

theorem split_in {n : Int} {l : Nat} {A B : Bool} (h1 : 0 ≤ n → n < l → A = true) (h2 : ¬ (0 ≤ n ∧ n < l) → B = true) : (bif inRange n l then A else B) = true := by
  by_cases h : 0 ≤ n ∧ n < l
  · rw [inRange_iff.2 h]; exact h1 h.1 h.2
  · have : inRange n l = false := by
      cases hb : inRange n l with
      | false => rfl
      | true => exact absurd (inRange_iff.1 hb) h
    rw [this]; exact h2 h

theorem go_b {t : Bool} {A B : Bool} (h : t = true) (h1 : A = true) : (bif t then A else B) = true := by rw [h]; exact h1

theorem go_dec {p : Prop} {i : Decidable p} {A B : Bool} (h : p) (h1 : A = true) : (bif decide p then A else B) = true := by rw [decide_eq_true h]; exact h1

theorem no_dec {p : Prop} {i : Decidable p} {A B : Bool} (h : ¬ p) (h1 : B = true) : (bif decide p then A else B) = true := by rw [decide_eq_false h]; exact h1

theorem go_in {n : Int} {l : Nat} {A B : Bool} (h : 0 ≤ n ∧ n < l) (h1 : A = true) : (bif inRange n l then A else B) = true := by rw [inRange_iff.2 h]; exact h1

theorem go_D {D : Prop → Bool} (hD : ∀ p, D p = true ↔ p) {p : Prop} {A B : Bool} (hp : p) (h1 : A = true) : (bif D p then A else B) = true := by rw [(hD p).2 hp]; exact h1

theorem go_lk {r : Option (Option Value)} {v : Option Value} {F : Option Value → Bool} (h : r = some v) (h1 : F v = true) : lkK r F = true := by rw [h]; exact h1

theorem go_en {r : Option Value} {v : Value} {F : SV → Bool} (h : r = some v) (h1 : F (.v v) = true) : enK r F = true := by rw [h]; exact h1

theorem go_rd {r : Option (List Value)} {vs : List Value} {F : List Value → Bool} (h : r = some vs) (h1 : F vs = true) : rdK r F = true := by rw [h]; exact h1

end
end Go.Sx

namespace Go.Sx
noncomputable section

/-! ### One arena in another -/

def Arena.Sub (B A : Arena) : Prop := ∀ k o, B.blk k = some o → A.blk k = some o

theorem Arena.Sub.refl (A : Arena) : A.Sub A := fun _ _ h => h
theorem Arena.Sub.trans {A B C : Arena} (h : A.Sub B) (k : B.Sub C) : A.Sub C := fun i o ho => k i o (h i o ho)

theorem rd_mk {A : Arena} {g o n : Nat} {c : Array Value} {t : TypeId} {fz : Nat × Nat} (h : A.blk g = some (.cells c t fz)) (hle : o + n ≤ c.size) : A.rd g o n = some ((c.toList.drop o).take n) := by
  rw [A.rdeq]
  unfold rdOf
  rw [h]
  simp only
  rw [if_pos hle]

theorem rd_sub {A B : Arena} (h : B.Sub A) {g o n : Nat} {vs : List Value} (hr : B.rd g o n = some vs) : A.rd g o n = some vs := by
  obtain ⟨c, t, fz, hb, hle, rfl⟩ := rd_some hr
  exact rd_mk (h _ _ hb) hle

theorem rd_at {A : Arena} {g o N i m : Nat} {cs : List Value} (h : A.rd g o N = some cs) (hi : i + m ≤ N) : A.rd g (o + i) m = some ((cs.drop i).take m) := by
  obtain ⟨c, t, fz, hb, hle, rfl⟩ := rd_some h
  rw [rd_mk hb (by omega)]
  congr 1
  rw [List.drop_take, List.take_take, List.drop_drop]
  congr 1
  omega

theorem rd_dom {A : Arena} {g o n : Nat} {vs : List Value} (h : A.rd g o n = some vs) : ∃ ob, A.blk g = some ob := by
  obtain ⟨c, t, fz, hb, _⟩ := rd_some h
  exact ⟨_, hb⟩

/-- What is new in A'. -/
def Arena.minus (A' A : Arena) : Arena := Arena.of fun k => match A.blk k with
  | none => A'.blk k
  | some _ => none

theorem minus_blk {A A' : Arena} {k : Nat} {o : Obj} (h : (A'.minus A).blk k = some o) : A.blk k = none ∧ A'.blk k = some o := by
  have h : (match A.blk k with
    | none => A'.blk k
    | some _ => none) = some o := h
  split at h
  · exact ⟨by assumption, h⟩
  · cases h

theorem minus_mk {A A' : Arena} {k : Nat} {o : Obj} (h1 : A.blk k = none) (h2 : A'.blk k = some o) : (A'.minus A).blk k = some o := by
  show (match A.blk k with
    | none => A'.blk k
    | some _ => none) = some o
  rw [h1]; exact h2

theorem minus_sub (A A' : Arena) : (A'.minus A).Sub A' := fun _ _ h => (minus_blk h).2

theorem minus_none {A : Arena} {k : Nat} {o : Obj} (A' : Arena) (h : A.blk k = some o) : (A'.minus A).blk k = none := by
  show (match A.blk k with
    | none => A'.blk k
    | some _ => none) = none
  rw [h]

theorem rd_minus {A A' : Arena} {g o n : Nat} {vs : List Value} (h : A'.rd g o n = some vs) (hg : A.blk g = none) : (A'.minus A).rd g o n = some vs := by
  obtain ⟨c, t, fz, hb, hle, rfl⟩ := rd_some h
  exact rd_mk (minus_mk hg hb) hle

/-- What was new is new. -/
theorem minus_up {A A1 A2 : Arena} (h : A1.Sub A2) : (A1.minus A).Sub (A2.minus A) := fun k o hk => by
  obtain ⟨h1, h2⟩ := minus_blk hk
  exact minus_mk h1 (h _ _ h2)

theorem minus_later {A A1 A2 : Arena} (h : A.Sub A1) : (A2.minus A1).Sub (A2.minus A) := fun k o hk => by
  obtain ⟨h1, h2⟩ := minus_blk hk
  refine minus_mk ?_ h2
  cases hA : A.blk k with
  | none => rfl
  | some o' => rw [h _ _ hA] at h1; cases h1

/-! ### A new row, a store -/

theorem Arena.New.sub {A A' : Arena} {g : Nat} {c : Array Value} {t : TypeId} (h : A.New A' g c t) : A.Sub A' := fun k o hk => by
  rw [h.other k (fun e => by subst e; rw [h.none_] at hk; cases hk)]; exact hk

theorem Arena.New.rd {A A' : Arena} {g : Nat} {c : Array Value} {t : TypeId} (h : A.New A' g c t) {o n : Nat} (hle : o + n ≤ c.size) : A'.rd g o n = some ((c.toList.drop o).take n) := rd_mk h.at_ hle

theorem Arena.Put.sub {A A' B : Arena} {g o : Nat} {vs : List Value} (h : A.Put A' g o vs) (hB : B.Sub A) (hg : B.blk g = none) : B.Sub A' := fun k ob hk => by
  rw [h.other k (fun e => by subst e; rw [hg] at hk; cases hk)]; exact hB k ob hk

theorem Arena.Put.dom {A A' : Arena} {g o : Nat} {vs : List Value} (h : A.Put A' g o vs) (k : Nat) : A'.blk k = none ↔ A.blk k = none := by
  by_cases e : k = g
  · subst e
    obtain ⟨c, t, fz, c', h1, h2, _⟩ := h.at_
    rw [h1, h2]; simp
  · rw [h.other k e]

/-! ### Slices -/

/-- A slice of n elements with these cells. -/
def Sl (A : Arena) (es n : Nat) (v : Value) (cs : List Value) : Prop :=
  ∃ ao c, v = .slice ao n c ∧ n ≤ c ∧ cs.length = n * es ∧ (ao = none → c = 0) ∧ (∀ a, ao = some a → 0 < c → a.spot = none) ∧ (0 < n → ∀ a, ao = some a → A.rd a.block a.off (n * es) = some cs)

theorem Sl.at_ {A : Arena} {es n c : Nat} {ao : Option Addr} {cs : List Value} (h0 : n ≤ c) (h1 : ao = none → c = 0) (h2 : ∀ a, ao = some a → 0 < c → a.spot = none) (h3 : 0 < n → ∀ a, ao = some a → A.rd a.block a.off (n * es) = some cs) (hn : 0 < n) :
    ∃ g o, ao = some ⟨g, o, none⟩ ∧ A.rd g o (n * es) = some cs := by
  cases ao with
  | none => have := h1 rfl; omega
  | some a =>
    obtain ⟨g, o, t⟩ := a
    have h4 := h2 _ rfl (by omega)
    simp only at h4
    subst h4
    exact ⟨g, o, rfl, h3 hn _ rfl⟩

theorem Sl.sub {A B : Arena} (h : B.Sub A) {es n : Nat} {v : Value} {cs : List Value} (hs : Sl B es n v cs) : Sl A es n v cs := by
  obtain ⟨ao, c, h1, h2, h3, h4, h5, h6⟩ := hs
  exact ⟨ao, c, h1, h2, h3, h4, h5, fun hn a ha => rd_sub h (h6 hn a ha)⟩

theorem Sl.nil (A : Arena) (es : Nat) : Sl A es 0 (.slice none 0 0) [] :=
  ⟨none, 0, rfl, Nat.le_refl _, (by simp), fun _ => rfl, fun a h => (by cases h), fun h => (by omega)⟩

/-- Of zero elements: wherever it points. -/
theorem Sl.zero (A : Arena) (es : Nat) {ao : Option Addr} {c : Nat} (h1 : ao = none → c = 0) (h2 : ∀ a, ao = some a → 0 < c → a.spot = none) : Sl A es 0 (.slice ao 0 c) [] :=
  ⟨ao, c, rfl, Nat.zero_le _, (by simp), h1, h2, fun h => (by omega)⟩

theorem Sl.row {A : Arena} {es n g o c : Nat} {cs : List Value} (hc : n ≤ c) (h : A.rd g o (n * es) = some cs) : Sl A es n (.slice (some ⟨g, o, none⟩) n c) cs :=
  ⟨_, c, rfl, hc, rd_len h, fun h => (by cases h), fun a h _ => (by injection h with h; subst h; rfl), fun _ a ha => (by injection ha with ha; subst ha; exact h)⟩

theorem Sl.form {A : Arena} {es n : Nat} {v : Value} {cs : List Value} (h : Sl A es n v cs) : ∃ ao c, v = .slice ao n c := by
  obtain ⟨ao, c, h, _⟩ := h
  exact ⟨ao, c, h⟩

/-- Bytes. -/
def bv (b : UInt8) : Value := .int .u8 b.toNat

def SlB (A : Arena) (v : Value) (bs : List UInt8) : Prop := Sl A 1 bs.length v (bs.map bv) ∧ bs.length ≤ 140737488351232

theorem SlB.sub {A B : Arena} (h : B.Sub A) {v : Value} {bs : List UInt8} (hs : SlB B v bs) : SlB A v bs := ⟨hs.1.sub h, hs.2⟩

theorem byte_at {A : Arena} {g o n : Nat} {bs : List UInt8} (h : A.rd g o (n * 1) = some (bs.map bv)) (k : Nat) (hk : k < bs.length) (hn : n = bs.length) : A.rd g (o + k * 1) 1 = some [bv bs[k]] := by
  have := rd_at (i := k) (m := 1) h (by omega)
  rw [Nat.mul_one, this]
  congr 1
  rw [List.drop_eq_getElem_cons (by simpa using hk)]
  simp [bv]

/-- A row of rows. -/
theorem rows_at {A : Arena} {g o n es : Nat} {rows : List (List Value)} (h : A.rd g o (n * es) = some rows.flatten) (hes : ∀ r ∈ rows, r.length = es) (k : Nat) (hk : k < rows.length) (hn : n = rows.length) : A.rd g (o + k * es) es = some rows[k] := by
  subst hn
  have hle : k * es + es ≤ rows.length * es := by
    have := Nat.mul_le_mul_right es hk
    rwa [Nat.succ_mul] at this
  rw [rd_at h hle]
  congr 1
  have key : ∀ (l : List (List Value)) (k : Nat) (hk : k < l.length), (∀ r ∈ l, r.length = es) → (l.flatten.drop (k * es)).take es = l[k] := by
    intro l
    induction l with
    | nil => intro k hk; simp at hk
    | cons r l ih =>
      intro k hk hes
      have hr := hes r (by simp)
      cases k with
      | zero => simp [← hr]
      | succ k =>
        rw [List.flatten_cons, List.drop_append, List.drop_eq_nil_of_le (by rw [hr, Nat.succ_mul]; omega), List.nil_append]
        rw [show (k + 1) * es - r.length = k * es by rw [hr, Nat.succ_mul]; omega]
        simpa using ih k (by simpa using hk) (fun r' h' => hes r' (List.mem_cons_of_mem _ h'))
  exact key rows k hk hes

/-- A clone: something appended to nothing. -/
theorem clone_end {A A1 A2 : Arena} {base : Option (Nat × Nat)} {es n : Nat} {e : TypeId} {ys : List Value} {v : Value} (h1 : A.Sub A1) (ha : Appended A1 base 0 0 es e [] ys n v A2) (hl : ys.length = n * es) : A.Sub A2 ∧ Sl (A2.minus A) es n v ys := by
  rcases ha with ⟨h0, rfl, h3⟩ | ⟨h0, g, nc, cs, zs, rfl, hn, hcs, _, hN⟩
  · have hn : n = 0 := by omega
    subst hn
    have : ys = [] := List.length_eq_zero_iff.1 (by rw [hl]; simp)
    subst this
    refine ⟨?_, ?_⟩
    · rcases h3 with ⟨_, rfl⟩ | ⟨g, o, hb, hP⟩
      · exact h1
      · intro k o' hk
        by_cases e : k = g
        · subst e
          obtain ⟨c, t, fz, c', k1, k2, k3⟩ := hP.at_
          have hcc : c' = c := Array.toList_inj.1 (by rw [k3]; simp)
          have := h1 _ _ hk
          rw [k1] at this
          rw [k2, hcc]; exact this
        · rw [hP.other k e]; exact h1 _ _ hk
    · exact Sl.zero _ _ (fun _ => rfl) (fun a ha _ => by
        cases base with
        | none => cases ha
        | some go => injection ha with ha; subst ha; rfl)
  · have hs := h1.trans hN.sub
    refine ⟨hs, ?_⟩
    have hg : A.blk g = none := by
      cases hA : A.blk g with
      | none => rfl
      | some o => have := h1 _ _ hA; rw [hN.none_] at this; cases this
    rw [Nat.zero_add] at hn ⊢
    refine Sl.row hn ?_
    have hsz : cs.size = ys.length + zs.length := by rw [← Array.length_toList, hcs]; simp
    refine rd_minus ?_ hg
    rw [hN.rd (by omega), hcs]
    simp [hl]

/-- The same, with the row itself. -/
theorem clone_row {A A1 A2 : Arena} {base : Option (Nat × Nat)} {es n : Nat} {e : TypeId} {ys : List Value} {v : Value} (h1 : A.Sub A1) (ha : Appended A1 base 0 0 es e [] ys n v A2) (hl : ys.length = n * es) (hn : 0 < n) :
    ∃ g nc c t, v = .slice (some ⟨g, 0, none⟩) n nc ∧ n ≤ nc ∧ A.blk g = none ∧ A2.blk g = some (.cells c t (0, 0)) ∧ n * es ≤ c.size := by
  rcases ha with ⟨h0, _⟩ | ⟨h0, g, nc, cs, zs, rfl, hnc, hcs, _, hN⟩
  · omega
  · have hg : A.blk g = none := by
      cases hA : A.blk g with
      | none => rfl
      | some o => have := h1 _ _ hA; rw [hN.none_] at this; cases this
    rw [Nat.zero_add] at hnc ⊢
    refine ⟨g, nc, cs, e, rfl, hnc, hg, hN.at_, ?_⟩
    rw [← Array.length_toList, hcs]
    simp; omega

theorem plain_v (v : Value) : plainV (.v v) = some v := rfl

theorem plainVs_v : ∀ (vs : List Value), plainVs (vs.map SV.v) = some vs
  | [] => rfl
  | v :: vs => by simp only [List.map_cons, plainVs, plain_v, plainVs_v vs]

/-- A contract out of a run, at plain arguments. -/
theorem fok_v {P : Program} (hm : P.follows .mixedOrders = true) {f : FuncId} {S : FSpec}
    (hr : ∀ g vs A, S.pre g vs A → ∃ C Λ n, CTSound P C ∧ LTSound P Λ ∧ Run P C Λ n f (vs.map SV.v) A (endP S g vs A)) : FOk P f S :=
  fok_of_run hm fun g vs A hp => by
    obtain ⟨C, Λ, n, h1, h2, h3⟩ := hr g vs A hp
    exact ⟨C, Λ, n, _, h1, h2, plainVs_v vs, fun ρ x hx => by obtain ⟨v, _, rfl⟩ := List.mem_map.1 hx; trivial, h3⟩

theorem fok_k {P : Program} (hm : P.follows .mixedOrders = true) {f : FuncId} {S : FSpec}
    (hr : ∀ g vs A, S.pre g vs A → ∃ C Λ n, CTSound P C ∧ LTSound P Λ ∧ Run P C Λ n f (vs.map SV.v) A (endK S g vs A)) : FOk P f S :=
  fok_of_end hm (fun _ _ _ _ _ h => h) (fun _ => false) fun g vs A hp => by
    obtain ⟨C, Λ, n, h1, h2, h3⟩ := hr g vs A hp
    exact ⟨C, Λ, n, _, h1, h2, plainVs_v vs, fun ρ x hx => by obtain ⟨v, _, rfl⟩ := List.mem_map.1 hx; trivial, h3⟩

/-- The same, where variables of some types are laid in the arena. -/
theorem fok_a {P : Program} (hm : P.follows .mixedOrders = true) {f : FuncId} {S : FSpec} (al : TypeId → Bool)
    (hr : ∀ g vs A, S.pre g vs A → ∃ C Λ n, CTSound P C ∧ LTSound P Λ ∧ Run P C Λ n f (vs.map SV.v) A (endP S g vs A) al) : FOk P f S :=
  fok_of_end hm (fun _ _ _ _ _ h => endP_end h) al fun g vs A hp => by
    obtain ⟨C, Λ, n, h1, h2, h3⟩ := hr g vs A hp
    exact ⟨C, Λ, n, _, h1, h2, plainVs_v vs, fun ρ x hx => by obtain ⟨v, _, rfl⟩ := List.mem_map.1 hx; trivial, h3⟩

theorem lt1 (x : SV) (h : ∀ ρ n, x.lt ρ n) : ∀ (ρ : Nat → Loc), ∀ z ∈ [x], z.lt ρ 0 := fun _ z hz => by
  simp only [List.mem_singleton] at hz
  subst hz; exact h _ _

theorem lt_plain {l : List SV} (h : ∀ x ∈ l, ∀ ρ n, x.lt ρ n) : ∀ (ρ : Nat → Loc), ∀ z ∈ l, z.lt ρ 0 := fun _ z hz => h z hz _ _

theorem lts_v (ρ : Nat → Loc) (n : Nat) (vs : List Value) : SV.lts ρ n (vs.map SV.v) := lts_iff.2 fun x hx => by
  obtain ⟨v, _, rfl⟩ := List.mem_map.1 hx
  trivial

/-- A new block of known type joins the arena. -/
theorem HRel.grow {ρ : Nat → Loc} {h : HS} {w : World} (R : HRel ρ h w) {b : Nat} {cs : List SV} {τ : Nat} (hb : h.H.get b = some (.cells cs 0 (τ + 1))) :
    ∃ A' c t fz, (ρ b).off = 0 ∧ h.M.A.Sub A' ∧ h.M.A.blk (ρ b).blk = none ∧ A'.blk (ρ b).blk = some (.cells c t fz) ∧ Fz c.size fz ∧ c.toList = cs.map (SV.den ρ) ∧
      (∀ k o, A'.blk k = some o → w.heap[k]? = some o) ∧ ∀ k o, A'.blk k = some o → (∃ o', h.M.A.blk k = some o') ∨ ∃ b B, h.H.get b = some B ∧ (ρ b).blk = k := by
  obtain ⟨c, t, fz, h1, h2, _, _, h5, h6⟩ := (R.blk b _ hb).2.2
  have hA := R.aprA b _ hb
  rcases h6 with h6 | ⟨_, h7, h8⟩
  · omega
  · have h9 := h8 rfl
    refine ⟨Arena.of fun k => if k = (ρ b).blk then some (.cells c t fz) else h.M.A.blk k, c, t, fz, h7, fun k o hk => ?_, hA, ?_, h5, ?_, fun k o hk => ?_, fun k o hk => ?_⟩
    · show (if k = (ρ b).blk then some (.cells c t fz) else h.M.A.blk k) = some o
      rw [if_neg (fun e => by rw [e, hA] at hk; cases hk)]; exact hk
    · show (if (ρ b).blk = (ρ b).blk then some (.cells c t fz) else h.M.A.blk _) = _
      rw [if_pos rfl]
    · refine List.ext_getElem? fun i => ?_
      by_cases hi : i < cs.length
      · have := h2 i cs[i] (List.getElem?_eq_getElem hi)
        rw [h7, Nat.zero_add] at this
        rw [List.getElem?_map, List.getElem?_eq_getElem hi, Array.getElem?_toList, this]; rfl
      · rw [List.getElem?_eq_none (by rw [Array.length_toList]; omega), List.getElem?_eq_none (by rw [List.length_map]; omega)]
    · have hk' : (if k = (ρ b).blk then some (.cells c t fz) else h.M.A.blk k) = some o := hk
      split at hk'
      · rename_i e
        subst e
        rw [h1]; exact hk'
      · exact R.are k o hk'
    · have hk' : (if k = (ρ b).blk then some (.cells c t fz) else h.M.A.blk k) = some o := hk
      split at hk'
      · rename_i e
        exact .inr ⟨b, _, hb, e.symm⟩
      · exact .inl ⟨o, hk'⟩

end
end Go.Sx

namespace Go.Proofs.Ytpingnkjenicaaa
open Go.Sx Go.RowKit
noncomputable section
open Classical

theorem wrapI {n : Int} (h0 : -9223372036854775808 ≤ n) (h1 : n ≤ 9223372036854775807) : IntKind.i64.wrap n = n := by
  simp only [IntKind.wrap, IntKind.bits, IntKind.signed]
  simp
  omega

theorem split_nd {p : Prop} {i : Decidable p} {A B : Bool} (h1 : p → B = true) (h2 : ¬ p → A = true) : (bif !(decide p) then A else B) = true := by
  by_cases h : p
  · rw [decide_eq_true h]; exact h1 h
  · rw [decide_eq_false h]; exact h2 h

theorem mixed : Try.prog.follows .mixedOrders = true := by kernel_rfl

/-- A loop over the places of a row, that reads only: slot s counts. -/
def cnt (A : Arena) (s : Nat) (keep keepB : List Nat) (n : Nat) (p : Nat → Prop) : LInv := { γ := Nat, G := fun k => k ≤ n ∧ p k, keepS := keep, keepB := keepB, sl := fun k => [(s, .v (.int .i64 k))], bl := fun _ => [], ar := fun _ => A, mu := fun k => n - k }

theorem inc_slot {k : Nat} (h : k < 9223372036854775807) : some (SV.v (.int .i64 (IntKind.i64.wrap ((k : Int) + 1)))) = some (SV.v (.int .i64 ((k + 1 : Nat) : Int))) := by
  rw [Sx.wrap_i64 (by omega) (by omega)]; rfl

theorem beqL_iff {l m : List UInt8} : beqL l m = true ↔ l = m := by rw [beqL_eq]; simp

theorem beqL_ff {l m : List UInt8} : beqL l m = false ↔ ¬ l = m := by rw [← beqL_iff]; simp

end
end Go.Proofs.Ytpingnkjenicaaa

namespace Go.Sx
noncomputable section

/-- A row that is made by appending: none yet, or one in a block that A1 does not know. -/
def GrowR (A1 A : Arena) (es : Nat) (e : TypeId) (n : Nat) (v : Value) (cs : List Value) : Prop :=
  cs.length = n * es ∧ ((n = 0 ∧ v = .slice none 0 0) ∨
    ∃ g nc c, v = .slice (some ⟨g, 0, none⟩) n nc ∧ n ≤ nc ∧ 0 < nc ∧ A1.blk g = none ∧ A.blk g = some (.cells c e (0, 0)) ∧ c.size = nc * es ∧ c.toList.take (n * es) = cs)

theorem GrowR.nil (A1 A : Arena) (es : Nat) (e : TypeId) : GrowR A1 A es e 0 (.slice none 0 0) [] := ⟨by simp, .inl ⟨rfl, rfl⟩⟩

theorem GrowR.keep {A1 A A' : Arena} {es : Nat} {e : TypeId} {n : Nat} {v : Value} {cs : List Value} (h : GrowR A1 A es e n v cs) (hk : ∀ k, A1.blk k = none → A'.blk k = A.blk k) : GrowR A1 A' es e n v cs := by
  obtain ⟨h1, h2 | ⟨g, nc, c, h3, h4, h4', h5, h6, h7, h8⟩⟩ := h
  · exact ⟨h1, .inl h2⟩
  · exact ⟨h1, .inr ⟨g, nc, c, h3, h4, h4', h5, by rw [hk g h5]; exact h6, h7, h8⟩⟩

theorem GrowR.sub {A1 A A' : Arena} {es : Nat} {e : TypeId} {n : Nat} {v : Value} {cs : List Value} (h : GrowR A1 A es e n v cs) (hk : A.Sub A') : GrowR A1 A' es e n v cs := by
  obtain ⟨h1, h2 | ⟨g, nc, c, h3, h4, h4', h5, h6, h7, h8⟩⟩ := h
  · exact ⟨h1, .inl h2⟩
  · exact ⟨h1, .inr ⟨g, nc, c, h3, h4, h4', h5, hk g _ h6, h7, h8⟩⟩

/-- What an append to it asks. -/
structure GrowP (A : Arena) (base : Option (Nat × Nat)) (n c es bytes : Nat) (cs : List Value) : Prop where
  rd : baseRd A base (n * es) = some cs
  cap : c < n + 1 → Builtin.nextslicecap (n + 1) c * bytes ≤ 281474976710656
  none_ : base = none → n = 0 ∧ c = 0
  room : ∀ (m : Nat), m = es → ∀ g o, base = some (g, o) → n + 1 ≤ c → A.Room g (o + n * es) m

theorem GrowR.form {A1 A : Arena} {es : Nat} {e : TypeId} {n : Nat} {v : Value} {cs : List Value} (h : GrowR A1 A es e n v cs) :
    ∃ base c, v = .slice (addrA base) n c ∧ (base = none ∨ ∃ g, base = some (g, 0)) ∧ (∀ bytes, bytes ≤ 65536 → n ≤ 1000000000 → GrowP A base n c es bytes cs) ∧
    ∀ ys v' A', ys.length = es → (∀ k, A.blk k = none → A1.blk k = none) → Appended A base n c es e cs ys 1 v' A' → GrowR A1 A' es e (n + 1) v' (cs ++ ys) ∧ ∀ k o, A1.blk k = some o → A'.blk k = A.blk k := by
  obtain ⟨hl, ⟨rfl, rfl⟩ | ⟨g, nc, c, rfl, hn, hpos, hg, hb, hsz, ht⟩⟩ := h
  · have hcs : cs = [] := List.length_eq_zero_iff.1 (by rw [hl]; simp)
    subst hcs
    refine ⟨none, 0, rfl, .inl rfl, fun bytes hby hn => ⟨by simp [baseRd], fun h => ?_, fun _ => ⟨rfl, rfl⟩, fun _ _ _ _ h => (by cases h)⟩, fun ys v' A' hy hd ha => ?_⟩
    · have := nextcap_le h
      calc _ ≤ (2 * (0 + 1) + 768) * 65536 := Nat.mul_le_mul this hby
        _ ≤ _ := by omega
    · rcases ha with ⟨h0, _⟩ | ⟨_, g, nc, c, zs, rfl, hnc, hc, hz, hN⟩
      · omega
      · refine ⟨⟨by simp [hy], .inr ⟨g, nc, c, rfl, hnc, by omega, hd g hN.none_, hN.at_, ?_, ?_⟩⟩, fun k o hk => hN.other k fun e => (by subst e; rw [hd _ hN.none_] at hk; cases hk)⟩
        · rw [← Array.length_toList, hc]
          simp only [List.nil_append, List.length_append, hy, hz, Nat.zero_add]
          have : nc = (nc - 1) + 1 := by omega
          rw [show nc * es = ((nc - 1) + 1) * es by rw [← this], Nat.succ_mul]; omega
        · rw [hc]; simp [hy]
  · have hle : n * es ≤ nc * es := Nat.mul_le_mul_right _ hn
    refine ⟨some (g, 0), nc, rfl, .inr ⟨g, rfl⟩, fun bytes hby hnb => ⟨?_, fun h => ?_, fun h => (by cases h), fun m hm g' o' h hlt => ?_⟩, fun ys v' A' hy hd ha => ?_⟩
    · show (if n * es = 0 then some [] else A.rd g 0 (n * es)) = some cs
      by_cases h0 : n * es = 0
      · rw [if_pos h0]
        rw [h0] at hl; rw [List.length_eq_zero_iff.1 hl]
      · rw [if_neg h0, rd_mk hb (by omega)]; simp [ht]
    · have := nextcap_le h
      calc _ ≤ (2 * (n + 1) + 768) * 65536 := Nat.mul_le_mul this hby
        _ ≤ _ := by omega
    · injection h with h; injection h with h1 h2; subst h1; subst h2; subst hm
      refine ⟨c, e, (0, 0), hb, ?_, .inl rfl⟩
      have := Nat.mul_le_mul_right m hlt
      rw [Nat.succ_mul] at this; omega
    · rcases ha with ⟨h0, rfl, h3⟩ | ⟨h0, g', nc', c', zs, rfl, hnc, hc, hz, hN⟩
      · obtain ⟨c', k1, k2, k3⟩ : ∃ c', A'.blk g = some (.cells c' e (0, 0)) ∧ (∀ k, k ≠ g → A'.blk k = A.blk k) ∧ c'.toList = c.toList.take (n * es) ++ ys ++ c.toList.drop (n * es + ys.length) := by
          rcases h3 with ⟨rfl, rfl⟩ | ⟨g', o', h, hP⟩
          · exact ⟨c, hb, fun _ _ => rfl, by simp⟩
          · injection h with h; injection h with h1 h2; subst h1; subst h2
            obtain ⟨c0, t0, fz0, c', k1, k2, k3⟩ := hP.at_
            rw [hb] at k1
            injection k1 with k1; injection k1 with k1 k1' k1''
            subst k1; subst k1'; subst k1''
            exact ⟨c', k2, hP.other, by rw [k3]; simp⟩
        have hlen : n * es + es ≤ nc * es := by rw [← Nat.succ_mul]; exact Nat.mul_le_mul_right _ h0
        refine ⟨⟨by simp [hl, hy, Nat.succ_mul], .inr ⟨g, nc, c', rfl, h0, hpos, hg, k1, ?_, ?_⟩⟩, fun k o hk => k2 k fun e => (by subst e; rw [hg] at hk; cases hk)⟩
        · rw [← Array.length_toList, k3]
          simp only [List.length_append, List.length_take, List.length_drop, Array.length_toList, hsz, hy]
          omega
        · rw [k3, ht]
          rw [List.take_append_of_le_length (by simp [hl, hy, Nat.succ_mul])]
          rw [List.take_of_length_le (by simp [hl, hy, Nat.succ_mul])]
      · refine ⟨⟨by simp [hl, hy, Nat.succ_mul], .inr ⟨g', nc', c', rfl, hnc, by omega, hd g' hN.none_, hN.at_, ?_, ?_⟩⟩, fun k o hk => hN.other k fun e => (by subst e; rw [hd _ hN.none_] at hk; cases hk)⟩
        · rw [← Array.length_toList, hc]
          simp only [List.length_append, hl, hy, hz]
          obtain ⟨d, rfl⟩ : ∃ d, nc' = (n + 1) + d := ⟨nc' - (n + 1), by omega⟩
          rw [Nat.add_sub_cancel_left, Nat.add_mul, Nat.add_mul]; omega
        · rw [hc]
          rw [List.take_append_of_le_length (by simp [hl, hy, Nat.succ_mul])]
          rw [List.take_of_length_le (by simp [hl, hy, Nat.succ_mul])]

end
end Go.Sx

namespace Go.Sx
noncomputable section

/-- What an append of m elements to it asks. -/
structure GrowM (A : Arena) (base : Option (Nat × Nat)) (n m c es bytes : Nat) (cs : List Value) : Prop where
  rd : baseRd A base (n * es) = some cs
  cap : c < n + m → Builtin.nextslicecap (n + m) c * bytes ≤ 281474976710656
  none_ : base = none → n = 0 ∧ c = 0
  room : ∀ (k : Nat), k = m * es → ∀ g o, base = some (g, o) → n + m ≤ c → A.Room g (o + n * es) k

theorem GrowR.formN {A1 A : Arena} {es : Nat} {e : TypeId} {n : Nat} {v : Value} {cs : List Value} (h : GrowR A1 A es e n v cs) :
    ∃ base c, v = .slice (addrA base) n c ∧ (base = none ∨ ∃ g, base = some (g, 0)) ∧ (∀ m bytes, bytes ≤ 65536 → n + m ≤ 1000000000 → GrowM A base n m c es bytes cs) ∧
    ∀ m ys v' A', ys.length = m * es → (∀ k, A.blk k = none → A1.blk k = none) → Appended A base n c es e cs ys m v' A' → GrowR A1 A' es e (n + m) v' (cs ++ ys) ∧ ∀ k o, A1.blk k = some o → A'.blk k = A.blk k := by
  obtain ⟨hl, ⟨rfl, rfl⟩ | ⟨g, nc, c, rfl, hn, hpos, hg, hb, hsz, ht⟩⟩ := h
  · have hcs : cs = [] := List.length_eq_zero_iff.1 (by rw [hl]; simp)
    subst hcs
    refine ⟨none, 0, rfl, .inl rfl, fun m bytes hby hn => ⟨by simp [baseRd], fun h => ?_, fun _ => ⟨rfl, rfl⟩, fun _ _ _ _ h => (by cases h)⟩, fun m ys v' A' hy hd ha => ?_⟩
    · have := nextcap_le h
      calc _ ≤ (2 * (0 + m) + 768) * 65536 := Nat.mul_le_mul this hby
        _ ≤ _ := by omega
    · rcases ha with ⟨h0, rfl, h3⟩ | ⟨hlt, g, nc, c, zs, rfl, hnc, hc, hz, hN⟩
      · have hm : m = 0 := by omega
        subst hm
        have hys : ys = [] := List.length_eq_zero_iff.1 (by rw [hy]; simp)
        subst hys
        rcases h3 with ⟨_, rfl⟩ | ⟨g, o, h, _⟩
        · exact ⟨GrowR.nil _ _ _ _, fun _ _ _ => rfl⟩
        · cases h
      · refine ⟨⟨by simp [hy], .inr ⟨g, nc, c, rfl, hnc, by omega, hd g hN.none_, hN.at_, ?_, ?_⟩⟩, fun k o hk => hN.other k fun e => (by subst e; rw [hd _ hN.none_] at hk; cases hk)⟩
        · rw [← Array.length_toList, hc]
          simp only [List.nil_append, List.length_append, hy, hz, Nat.zero_add]
          rw [← Nat.add_mul]; congr 1; omega
        · rw [hc, Nat.zero_add, List.nil_append, List.take_append_of_le_length (by omega), List.take_of_length_le (by omega)]
  · have hle : n * es ≤ nc * es := Nat.mul_le_mul_right _ hn
    refine ⟨some (g, 0), nc, rfl, .inr ⟨g, rfl⟩, fun m bytes hby hnb => ⟨?_, fun h => ?_, fun h => (by cases h), fun k hk g' o' h hlt => ?_⟩, fun m ys v' A' hy hd ha => ?_⟩
    · show (if n * es = 0 then some [] else A.rd g 0 (n * es)) = some cs
      by_cases h0 : n * es = 0
      · rw [if_pos h0]
        rw [h0] at hl; rw [List.length_eq_zero_iff.1 hl]
      · rw [if_neg h0, rd_mk hb (by omega)]; simp [ht]
    · have := nextcap_le h
      calc _ ≤ (2 * (n + m) + 768) * 65536 := Nat.mul_le_mul this hby
        _ ≤ _ := by omega
    · injection h with h; injection h with h1 h2; subst h1; subst h2; subst hk
      refine ⟨c, e, (0, 0), hb, ?_, .inl rfl⟩
      have := Nat.mul_le_mul_right es hlt
      rw [Nat.add_mul] at this; omega
    · rcases ha with ⟨h0, rfl, h3⟩ | ⟨h0, g', nc', c', zs, rfl, hnc, hc, hz, hN⟩
      · obtain ⟨c', k1, k2, k3⟩ : ∃ c', A'.blk g = some (.cells c' e (0, 0)) ∧ (∀ k, k ≠ g → A'.blk k = A.blk k) ∧ c'.toList = c.toList.take (n * es) ++ ys ++ c.toList.drop (n * es + ys.length) := by
          rcases h3 with ⟨rfl, rfl⟩ | ⟨g', o', h, hP⟩
          · exact ⟨c, hb, fun _ _ => rfl, by simp⟩
          · injection h with h; injection h with h1 h2; subst h1; subst h2
            obtain ⟨c0, t0, fz0, c', k1, k2, k3⟩ := hP.at_
            rw [hb] at k1
            injection k1 with k1; injection k1 with k1 k1' k1''
            subst k1; subst k1'; subst k1''
            exact ⟨c', k2, hP.other, by rw [k3]; simp⟩
        have hlen : n * es + m * es ≤ nc * es := by rw [← Nat.add_mul]; exact Nat.mul_le_mul_right _ h0
        have hcl : (cs ++ ys).length = (n + m) * es := by rw [List.length_append, hl, hy, Nat.add_mul]
        refine ⟨⟨hcl, .inr ⟨g, nc, c', rfl, h0, hpos, hg, k1, ?_, ?_⟩⟩, fun k o hk => k2 k fun e => (by subst e; rw [hg] at hk; cases hk)⟩
        · rw [← Array.length_toList, k3]
          simp only [List.length_append, List.length_take, List.length_drop, Array.length_toList, hsz, hy]
          omega
        · rw [k3, ht, List.take_append_of_le_length (by omega), List.take_of_length_le (by omega)]
      · have hcl : (cs ++ ys).length = (n + m) * es := by rw [List.length_append, hl, hy, Nat.add_mul]
        refine ⟨⟨hcl, .inr ⟨g', nc', c', rfl, hnc, by omega, hd g' hN.none_, hN.at_, ?_, ?_⟩⟩, fun k o hk => hN.other k fun e => (by subst e; rw [hd _ hN.none_] at hk; cases hk)⟩
        · rw [← Array.length_toList, hc]
          simp only [List.length_append, hl, hy, hz]
          rw [← Nat.add_mul, ← Nat.add_mul]; congr 1; omega
        · rw [hc, List.take_append_of_le_length (by omega), List.take_of_length_le (by omega)]

theorem addrA_inj {b b' : Option (Nat × Nat)} (h : addrA b = addrA b') : b = b' := by
  cases b with
  | none => cases b' with
    | none => rfl
    | some y => cases h
  | some x => cases b' with
    | none => cases h
    | some y =>
      obtain ⟨g, o⟩ := x
      obtain ⟨g', o'⟩ := y
      injection h with h
      injection h with h1 h2
      rw [h1, h2]

/-- The same, where the slice is spelled out. -/
theorem GrowR.formB {A1 A : Arena} {es : Nat} {e : TypeId} {n c : Nat} {base : Option (Nat × Nat)} {cs : List Value} (h : GrowR A1 A es e n (.slice (addrA base) n c) cs) :
    (∀ m bytes, bytes ≤ 65536 → n + m ≤ 1000000000 → GrowM A base n m c es bytes cs) ∧
    ∀ m ys v' A', ys.length = m * es → (∀ k, A.blk k = none → A1.blk k = none) → Appended A base n c es e cs ys m v' A' → GrowR A1 A' es e (n + m) v' (cs ++ ys) ∧ ∀ k o, A1.blk k = some o → A'.blk k = A.blk k := by
  obtain ⟨b', c', hv, _, h1, h2⟩ := h.formN
  injection hv with hv1 hv2 hv3
  have e := addrA_inj hv1
  subst e; subst hv3
  exact ⟨h1, h2⟩

theorem GrowR.cap_le {A1 A : Arena} {es : Nat} {e : TypeId} {n m c : Nat} {ao : Option Addr} {cs : List Value} (h : GrowR A1 A es e n (.slice ao m c) cs) : n ≤ c := by
  obtain ⟨_, ⟨rfl, h⟩ | ⟨g, nc, _, h, hn, _⟩⟩ := h
  · omega
  · injection h with h1 h2 h3
    omega

/-- What lies at the front of a row. -/
theorem src_take {A : Arena} {g o n q : Nat} {α : Type} {f : α → Value} {l : List α} (h : A.rd g 0 (n * 1) = some (l.map f)) (hq : q ≤ n) (ho : o = 0) : (if q = 0 then some [] else A.rd g o (q * 1)) = some ((l.take q).map f) := by
  subst ho
  by_cases h0 : q = 0
  · rw [if_pos h0, h0, List.take_zero]; rfl
  · rw [if_neg h0]
    have := rd_at h (i := 0) (m := q * 1) (by omega)
    rw [Nat.add_zero, List.drop_zero, Nat.mul_one, ← List.map_take] at this
    rw [Nat.mul_one]
    exact this

/-- What lies behind. -/
theorem src_drop {A : Arena} {g o n q : Nat} {α : Type} {f : α → Value} {l : List α} (h : A.rd g 0 (n * 1) = some (l.map f)) (hn : n = l.length) (ho : q < n → o = q) : (if n - q = 0 then some [] else A.rd g o ((n - q) * 1)) = some ((l.drop q).map f) := by
  by_cases h0 : n - q = 0
  · rw [if_pos h0, List.drop_eq_nil_of_le (by omega)]; rfl
  · rw [if_neg h0, ho (by omega)]
    have := rd_at h (i := q) (m := (n - q) * 1) (by omega)
    rw [Nat.zero_add] at this
    rw [this, ← List.map_drop, List.take_of_length_le (by rw [List.length_map, List.length_drop]; omega)]

/-- A row made by append, as a slice. -/
theorem GrowR.sl {A1 A : Arena} {es : Nat} {e : TypeId} {n : Nat} {v : Value} {cs : List Value} (h : GrowR A1 A es e n v cs) : Sl A es n v cs := by
  obtain ⟨h1, ⟨rfl, rfl⟩ | ⟨g, nc, c, rfl, h4, h4', h5, h6, h7, h8⟩⟩ := h
  · have hc : cs = [] := List.length_eq_zero_iff.1 (by rw [h1]; simp)
    subst hc
    exact Sl.nil _ _
  · have hle : n * es ≤ nc * es := Nat.mul_le_mul_right _ h4
    refine Sl.row h4 ?_
    rw [rd_mk h6 (by omega), List.drop_zero, h8]

end
end Go.Sx

namespace Go.Proofs.Ytpingnkjenicaaa
open Go.Sx Go.RowKit
noncomputable section
open Classical

/-- A row in a block of its own, with room. -/
structure LRow (A : Arena) (g es : Nat) (e : TypeId) (n c : Nat) (cs : List Value) : Prop where
  at_ : ∃ cc, A.blk g = some (.cells cc e (0, 0)) ∧ cc.size = c * es ∧ cc.toList.take (n * es) = cs
  le : n ≤ c
  len : cs.length = n * es

theorem LRow.sub {A A' : Arena} {g es : Nat} {e : TypeId} {n c : Nat} {cs : List Value} (h : LRow A g es e n c cs) (hs : A.Sub A') : LRow A' g es e n c cs := by
  obtain ⟨⟨cc, h1, h2, h3⟩, h4, h5⟩ := h
  exact ⟨⟨cc, hs _ _ h1, h2, h3⟩, h4, h5⟩

theorem LRow.keep {A A' : Arena} {g es : Nat} {e : TypeId} {n c : Nat} {cs : List Value} (h : LRow A g es e n c cs) (hs : A'.blk g = A.blk g) : LRow A' g es e n c cs := by
  obtain ⟨⟨cc, h1, h2, h3⟩, h4, h5⟩ := h
  exact ⟨⟨cc, by rw [hs]; exact h1, h2, h3⟩, h4, h5⟩

theorem LRow.rd {A : Arena} {g es : Nat} {e : TypeId} {n c : Nat} {cs : List Value} (h : LRow A g es e n c cs) : A.rd g 0 (n * es) = some cs := by
  obtain ⟨⟨cc, h1, h2, h3⟩, h4, h5⟩ := h
  have := Nat.mul_le_mul_right es h4
  rw [rd_mk h1 (by omega), List.drop_zero, h3]

theorem LRow.base {A : Arena} {g es : Nat} {e : TypeId} {n c : Nat} {cs : List Value} (h : LRow A g es e n c cs) : baseRd A (some (g, 0)) (n * es) = some cs := by
  show (if n * es = 0 then some [] else A.rd g 0 (n * es)) = some cs
  by_cases h0 : n * es = 0
  · rw [if_pos h0]
    have := h.len
    rw [h0] at this
    rw [List.length_eq_zero_iff.1 this]
  · rw [if_neg h0, h.rd]

theorem LRow.room {A : Arena} {g es : Nat} {e : TypeId} {n c : Nat} {cs : List Value} (h : LRow A g es e n c cs) {o k : Nat} (hk : o + k ≤ c * es) : A.Room g o k := by
  obtain ⟨⟨cc, h1, h2, h3⟩, h4, h5⟩ := h
  exact ⟨cc, e, (0, 0), h1, by omega, .inl rfl⟩

/-- Something is put behind it, in its room. -/
theorem LRow.add {A A2 : Arena} {g es : Nat} {e : TypeId} {n c m : Nat} {cs ys : List Value} {v : Value} (h : LRow A g es e n c cs) (hm : n + m ≤ c) (hy : ys.length = m * es) (ha : Appended A (some (g, 0)) n c es e cs ys m v A2) :
    v = .slice (some ⟨g, 0, none⟩) (n + m) c ∧ LRow A2 g es e (n + m) c (cs ++ ys) ∧ ∀ k, k ≠ g → A2.blk k = A.blk k := by
  obtain ⟨⟨cc, h1, h2, h3⟩, h4, h5⟩ := h
  rcases ha with ⟨_, rfl, h6⟩ | ⟨h6, _⟩
  · refine ⟨rfl, ?_⟩
    have hlen : (cs ++ ys).length = (n + m) * es := by rw [List.length_append, h5, hy, Nat.add_mul]
    rcases h6 with ⟨rfl, rfl⟩ | ⟨g', o', e1, hP⟩
    · refine ⟨⟨⟨cc, h1, h2, ?_⟩, hm, hlen⟩, fun _ _ => rfl⟩
      have : m * es = 0 := by rw [← hy]; rfl
      rw [Nat.add_mul, this, Nat.add_zero, h3, List.append_nil]
    · injection e1 with e1
      injection e1 with e1 e2
      subst e1; subst e2
      obtain ⟨c0, t0, fz0, c', k1, k2, k3⟩ := hP.at_
      rw [h1] at k1
      injection k1 with k1
      injection k1 with k1 k1' k1''
      subst k1; subst k1'; subst k1''
      have hle := Nat.mul_le_mul_right es hm
      rw [Nat.add_mul] at hle
      refine ⟨⟨⟨c', k2, ?_, ?_⟩, hm, hlen⟩, hP.other⟩
      · rw [← Array.length_toList, k3]
        simp only [List.length_append, List.length_take, List.length_drop, Array.length_toList, h2, hy]
        omega
      · rw [k3, Nat.zero_add, h3, List.take_append_of_le_length (by omega), List.take_of_length_le (by omega)]
  · omega

/-- A cell row of it is stored over. -/
theorem LRow.over {A A2 : Arena} {g es : Nat} {e : TypeId} {c : Nat} {cs ys : List Value} {n o : Nat} (h : LRow A g es e n c cs) (hP : A.Put A2 g o ys) (hle : o + ys.length ≤ c * es) : (∃ cc, A2.blk g = some (.cells cc e (0, 0)) ∧ cc.size = c * es) ∧ ∀ k, k ≠ g → A2.blk k = A.blk k := by
  obtain ⟨⟨cc, h1, h2, h3⟩, h4, h5⟩ := h
  obtain ⟨c0, t0, fz0, c', k1, k2, k3⟩ := hP.at_
  rw [h1] at k1
  injection k1 with k1
  injection k1 with k1 k1' k1''
  subst k1; subst k1'; subst k1''
  refine ⟨⟨c', k2, ?_⟩, hP.other⟩
  rw [← Array.length_toList, k3]
  simp only [List.length_append, List.length_take, List.length_drop, Array.length_toList, h2]
  omega

end
end Go.Proofs.Ytpingnkjenicaaa

namespace Go.Sx
noncomputable section

structure MemD where
  id : Int
  role : Int
  weight : Int
  group : Int

def MemD.cells (m : MemD) : List Value := [.int .i64 m.id, .int .u8 m.role, .int .i64 m.weight, .int .i64 m.group]

def memCells (l : List MemD) : List Value := (l.map MemD.cells).flatten

theorem memCells_rows (l : List MemD) : ∀ r ∈ l.map MemD.cells, r.length = 4 := fun r hr => by
  obtain ⟨m, _, rfl⟩ := List.mem_map.1 hr; rfl

/-- Members. -/
def MemR (B : Arena) (v : Value) (l : List MemD) : Prop := Sl B 4 l.length v (memCells l) ∧ l.length * 32 ≤ 140737488351232

theorem MemR.sub {A B : Arena} (h : B.Sub A) {v : Value} {l : List MemD} (hs : MemR B v l) : MemR A v l := ⟨hs.1.sub h, hs.2⟩

end
end Go.Sx

namespace Go.Sx
noncomputable section

inductive AskD where
  | mk (kind xid ses turn : Int) (path : ByteArray) (data : List UInt8) (flags ver : Int) (watch : Bool) (sort last tmo frm : Int) (mem : List MemD) (parts : List AskD)

mutual
/-- These cells are a call. -/
def AskR (B : Arena) : AskD → List Value → Prop
  | .mk kind xid ses turn path data flags ver watch sort last tmo frm mem parts, cs => ∃ vd vm vp rows,
      cs = [.int .u8 kind, .int .i64 xid, .int .i64 ses, .int .i64 turn, .string path, vd, .int .i64 flags, .int .i64 ver, .bool watch, .int .u8 sort, .int .i64 last, .int .i64 tmo, .int .i64 frm, vm, vp] ∧
      SlB B vd data ∧ MemR B vm mem ∧ Sl B 15 parts.length vp rows.flatten ∧ parts.length * 168 ≤ 140737488351232 ∧ AsksR B parts rows
def AsksR (B : Arena) : List AskD → List (List Value) → Prop
  | [], rows => rows = []
  | d :: ds, rows => ∃ r rs, rows = r :: rs ∧ AskR B d r ∧ AsksR B ds rs
end

/-- A slice of calls. -/
def AsksS (B : Arena) (v : Value) (ds : List AskD) : Prop := ∃ rows, Sl B 15 ds.length v rows.flatten ∧ ds.length * 168 ≤ 140737488351232 ∧ AsksR B ds rows

theorem AskR.len {B : Arena} {d : AskD} {cs : List Value} (h : AskR B d cs) : cs.length = 15 := by
  cases d
  obtain ⟨vd, vm, vp, rows, rfl, _⟩ := h
  rfl

/-- The shapes of a call's cells. -/
theorem AskR.form {B : Arena} {d : AskD} {cs : List Value} (h : AskR B d cs) : ∃ (c0 c1 c2 c3 : Int) (c4 : ByteArray) (a5 : Option Addr) (l5 k5 : Nat) (c6 c7 : Int) (c8 : Bool) (c9 c10 c11 c12 : Int) (a13 : Option Addr) (l13 k13 : Nat) (a14 : Option Addr) (l14 k14 : Nat),
    cs = [.int .u8 c0, .int .i64 c1, .int .i64 c2, .int .i64 c3, .string c4, .slice a5 l5 k5, .int .i64 c6, .int .i64 c7, .bool c8, .int .u8 c9, .int .i64 c10, .int .i64 c11, .int .i64 c12, .slice a13 l13 k13, .slice a14 l14 k14] := by
  cases d
  obtain ⟨vd, vm, vp, rows, rfl, ⟨h1, _⟩, ⟨h2, _⟩, h3, _⟩ := h
  obtain ⟨a5, k5, rfl⟩ := h1.form
  obtain ⟨a13, k13, rfl⟩ := h2.form
  obtain ⟨a14, k14, rfl⟩ := h3.form
  exact ⟨_, _, _, _, _, _, _, _, _, _, _, _, _, _, _, _, _, _, _, _, _, rfl⟩

theorem AsksR.length {B : Arena} : ∀ {ds : List AskD} {rows : List (List Value)}, AsksR B ds rows → rows.length = ds.length
  | [], _, h => by simp [AsksR] at h; subst h; rfl
  | d :: ds, rows, h => by
    obtain ⟨r, rs, rfl, _, h⟩ := h
    simp [AsksR.length h]

theorem AsksR.lens {B : Arena} : ∀ {ds : List AskD} {rows : List (List Value)}, AsksR B ds rows → ∀ r ∈ rows, r.length = 15
  | [], _, h => by simp [AsksR] at h; subst h; simp
  | d :: ds, rows, h => by
    obtain ⟨r, rs, rfl, h1, h2⟩ := h
    intro x hx
    rcases List.mem_cons.1 hx with rfl | hx
    · exact h1.len
    · exact AsksR.lens h2 x hx

theorem AsksR.at_ {B : Arena} : ∀ {ds : List AskD} {rows : List (List Value)}, AsksR B ds rows → ∀ (k : Nat) (h1 : k < ds.length) (h2 : k < rows.length), AskR B ds[k] rows[k]
  | [], _, _, k, h1, _ => by simp at h1
  | d :: ds, rows, h, k, h1, h2 => by
    obtain ⟨r, rs, rfl, h3, h4⟩ := h
    cases k with
    | zero => exact h3
    | succ k => exact AsksR.at_ h4 k (by simpa using h1) (by simpa using h2)

mutual
theorem AskR.sub {A B : Arena} (h : B.Sub A) : ∀ (d : AskD) (cs : List Value), AskR B d cs → AskR A d cs
  | .mk _ _ _ _ _ _ _ _ _ _ _ _ _ _ parts, cs, hr => by
    obtain ⟨vd, vm, vp, rows, h1, h2, h3, h4, h5, h6⟩ := hr
    exact ⟨vd, vm, vp, rows, h1, h2.sub h, h3.sub h, h4.sub h, h5, AsksR.sub h parts rows h6⟩
theorem AsksR.sub {A B : Arena} (h : B.Sub A) : ∀ (ds : List AskD) (rows : List (List Value)), AsksR B ds rows → AsksR A ds rows
  | [], _, hr => hr
  | d :: ds, rows, hr => by
    obtain ⟨r, rs, h1, h2, h3⟩ := hr
    exact ⟨r, rs, h1, AskR.sub h d r h2, AsksR.sub h ds rs h3⟩
end

theorem AsksS.sub {A B : Arena} (h : B.Sub A) {v : Value} {ds : List AskD} (hr : AsksS B v ds) : AsksS A v ds := by
  obtain ⟨rows, h1, h2, h3⟩ := hr
  exact ⟨rows, h1.sub h, h2, AsksR.sub h ds rows h3⟩

mutual
def AskD.sz : AskD → Nat
  | .mk _ _ _ _ _ _ _ _ _ _ _ _ _ _ parts => AskD.szs parts + 1
def AskD.szs : List AskD → Nat
  | [] => 0
  | d :: ds => d.sz + AskD.szs ds
end

theorem sz_at : ∀ {ds : List AskD} {k : Nat} (h : k < ds.length), ds[k].sz ≤ AskD.szs ds
  | d :: ds, 0, _ => by simp [AskD.szs]
  | d :: ds, k + 1, h => by
    have := sz_at (ds := ds) (k := k) (by simpa using h)
    simp only [List.getElem_cons_succ, AskD.szs]; omega

/-- The call as a value. -/
def askV (cs : List Value) : Value := .agg cs.toArray

end
end Go.Sx

namespace Go.Proofs.Ytpingnkjenicaaa
open Go.Sx Go.RowKit
noncomputable section
open Classical

/-- The marks behind the ends. -/
def mkI (k i : Int) : Int := IntKind.i64.wrap (IntKind.i64.wrap (1000003 * IntKind.i64.wrap (k + 7)) + i)
def mkB (k i : Int) : Int := IntKind.u8.wrap ((IntKind.u64.wrap (IntKind.u64.wrap (mkI k i) * 11400714819323198485)).fdiv (2 ^ min (Int.toNat 56) IntKind.u64.bits))

def markB (k : Nat) (i : Nat) : Value := .int .u8 (mkB k i)
def markM (k : Nat) (i : Nat) : List Value := [.int .i64 (mkI k i), .int .u8 0, .int .i64 0, .int .i64 0]
def markA (k : Nat) (i : Nat) : List Value := [.int .u8 0, .int .i64 (mkI k i), .int .i64 0, .int .i64 0, .string ⟨#[]⟩, .slice none 0 0, .int .i64 0, .int .i64 0, .bool false, .int .u8 0, .int .i64 0, .int .i64 0, .int .i64 0, .slice none 0 0, .slice none 0 0]

def marksB (n : Nat) : List Value := (List.range n).map (markB 1)
def marksM (n : Nat) : List Value := (List.range n).flatMap (markM 1)
def marksA (n : Nat) : List Value := (List.range n).flatMap (markA 1)

mutual
/-- These cells are a call that is lent; its lists lie in the blocks of L. -/
def LentR (A : Arena) : AskD → List Value → List Nat → Prop
  | .mk kind xid ses turn path data flags ver watch sort last tmo frm mem parts, cs, L => ∃ gd gm gp cd cm cp rows Lp,
      cs = [.int .u8 kind, .int .i64 xid, .int .i64 ses, .int .i64 turn, .string path, .slice (some ⟨gd, 0, none⟩) data.length cd, .int .i64 flags, .int .i64 ver, .bool watch, .int .u8 sort, .int .i64 last, .int .i64 tmo, .int .i64 frm, .slice (some ⟨gm, 0, none⟩) mem.length cm, .slice (some ⟨gp, 0, none⟩) parts.length cp] ∧
      LRow A gd 1 5 (data.length + 12) cd (data.map bv ++ marksB 12) ∧ LRow A gm 4 102 (mem.length + 12) cm (memCells mem ++ marksM 12) ∧ LRow A gp 15 34 (parts.length + 12) cp (rows.flatten ++ marksA 12) ∧
      data.length ≤ 140737488351232 ∧ mem.length * 32 ≤ 140737488351232 ∧ parts.length * 168 ≤ 140737488351232 ∧
      LentsR A parts rows Lp ∧ L = gd :: gm :: gp :: Lp ∧ L.Nodup
def LentsR (A : Arena) : List AskD → List (List Value) → List Nat → Prop
  | [], rows, L => rows = [] ∧ L = []
  | d :: ds, rows, L => ∃ r rs L1 L2, rows = r :: rs ∧ LentR A d r L1 ∧ LentsR A ds rs L2 ∧ L = L1 ++ L2
end

theorem LentR.len {A : Arena} {d : AskD} {cs : List Value} {L : List Nat} (h : LentR A d cs L) : cs.length = 15 := by
  cases d
  rw [LentR] at h
  obtain ⟨gd, gm, gp, cd, cm, cp, rows, Lp, rfl, _⟩ := h
  rfl

theorem LentsR.length {A : Arena} : ∀ {ds : List AskD} {rows : List (List Value)} {L : List Nat}, LentsR A ds rows L → rows.length = ds.length
  | [], _, _, h => by rw [LentsR] at h; rw [h.1]; rfl
  | d :: ds, rows, L, h => by
    rw [LentsR] at h
    obtain ⟨r, rs, L1, L2, rfl, _, h, _⟩ := h
    rw [List.length_cons, List.length_cons, LentsR.length h]

theorem LentsR.lens {A : Arena} : ∀ {ds : List AskD} {rows : List (List Value)} {L : List Nat}, LentsR A ds rows L → ∀ r ∈ rows, r.length = 15
  | [], _, _, h => by rw [LentsR] at h; rw [h.1]; simp
  | d :: ds, rows, L, h => by
    rw [LentsR] at h
    obtain ⟨r, rs, L1, L2, rfl, h1, h2, _⟩ := h
    intro x hx
    rcases List.mem_cons.1 hx with rfl | hx
    · exact h1.len
    · exact LentsR.lens h2 x hx

mutual
/-- Its blocks stay: it stays. -/
theorem LentR.keep {A A' : Arena} : ∀ {d : AskD} {cs : List Value} {L : List Nat}, LentR A d cs L → (∀ k ∈ L, A'.blk k = A.blk k) → LentR A' d cs L
  | .mk _ _ _ _ _ _ _ _ _ _ _ _ _ _ parts, cs, L, h, hk => by
    rw [LentR] at h ⊢
    obtain ⟨gd, gm, gp, cd, cm, cp, rows, Lp, h1, h2, h3, h4, b1, b2, b3, h5, h6, h7⟩ := h
    subst h6
    exact ⟨gd, gm, gp, cd, cm, cp, rows, Lp, h1, h2.keep (hk _ (by simp)), h3.keep (hk _ (by simp)), h4.keep (hk _ (by simp)), b1, b2, b3, LentsR.keep h5 fun k hm => hk k (by simp [hm]), rfl, h7⟩
theorem LentsR.keep {A A' : Arena} : ∀ {ds : List AskD} {rows : List (List Value)} {L : List Nat}, LentsR A ds rows L → (∀ k ∈ L, A'.blk k = A.blk k) → LentsR A' ds rows L
  | [], _, _, h, _ => by rw [LentsR] at h ⊢; exact h
  | d :: ds, rows, L, h, hk => by
    rw [LentsR] at h ⊢
    obtain ⟨r, rs, L1, L2, h1, h2, h3, h4⟩ := h
    subst h4
    exact ⟨r, rs, L1, L2, h1, LentR.keep h2 fun k hm => hk k (List.mem_append_left _ hm), LentsR.keep h3 fun k hm => hk k (List.mem_append_right _ hm), rfl⟩
end

theorem LRow.sl {A : Arena} {g es : Nat} {e : TypeId} {n m c : Nat} {cs ys : List Value} (h : LRow A g es e (n + m) c (cs ++ ys)) (hc : cs.length = n * es) : Sl A es n (.slice (some ⟨g, 0, none⟩) n c) cs := by
  refine Sl.row (Nat.le_trans (Nat.le_add_right n m) h.le) ?_
  have h1 := h.rd
  have h2 := rd_at h1 (i := 0) (m := n * es) (by rw [Nat.add_mul]; omega)
  rw [Nat.add_zero, List.drop_zero, ← hc, List.take_left] at h2
  rw [← hc]
  exact h2

theorem memCells_len (l : List MemD) : (memCells l).length = l.length * 4 := by
  unfold memCells
  induction l with
  | nil => rfl
  | cons m l ih => rw [List.map_cons, List.flatten_cons, List.length_append, ih, List.length_cons]; show 4 + _ = _; omega

mutual
theorem LentR.ask {A : Arena} : ∀ {d : AskD} {cs : List Value} {L : List Nat}, LentR A d cs L → AskR A d cs
  | .mk _ _ _ _ _ data _ _ _ _ _ _ _ mem parts, cs, L, h => by
    rw [LentR] at h
    rw [AskR]
    obtain ⟨gd, gm, gp, cd, cm, cp, rows, Lp, h1, h2, h3, h4, b1, b2, b3, h5, h6, h7⟩ := h
    have hrl := h5.length
    have hfl : rows.flatten.length = parts.length * 15 := by
      have key : ∀ rows : List (List Value), (∀ r ∈ rows, r.length = 15) → rows.flatten.length = rows.length * 15 := fun rows => by
        induction rows with
        | nil => intro _; rfl
        | cons r rows ih =>
          intro h
          rw [List.flatten_cons, List.length_append, h r (by simp), ih fun x hx => h x (List.mem_cons_of_mem _ hx), List.length_cons]
          omega
      rw [key rows h5.lens, hrl]
    exact ⟨_, _, _, rows, h1, ⟨h2.sl (by simp), b1⟩, ⟨h3.sl (memCells_len mem), b2⟩, h4.sl hfl, b3, LentsR.asks h5⟩
theorem LentsR.asks {A : Arena} : ∀ {ds : List AskD} {rows : List (List Value)} {L : List Nat}, LentsR A ds rows L → AsksR A ds rows
  | [], _, _, h => by rw [LentsR] at h; rw [AsksR]; exact h.1
  | d :: ds, rows, L, h => by
    rw [LentsR] at h
    rw [AsksR]
    obtain ⟨r, rs, L1, L2, h1, h2, h3, h4⟩ := h
    exact ⟨r, rs, h1, LentR.ask h2, LentsR.asks h3⟩
end

mutual
/-- Its blocks are there. -/
theorem LentR.live {A : Arena} : ∀ {d : AskD} {cs : List Value} {L : List Nat}, LentR A d cs L → ∀ k ∈ L, ∃ o, A.blk k = some o
  | .mk _ _ _ _ _ _ _ _ _ _ _ _ _ _ parts, cs, L, h, k, hk => by
    rw [LentR] at h
    obtain ⟨gd, gm, gp, cd, cm, cp, rows, Lp, h1, ⟨⟨c2, h2, _⟩, _⟩, ⟨⟨c3, h3, _⟩, _⟩, ⟨⟨c4, h4, _⟩, _⟩, b1, b2, b3, h5, h6, h7⟩ := h
    subst h6
    simp only [List.mem_cons] at hk
    rcases hk with rfl | rfl | rfl | hk
    · exact ⟨_, h2⟩
    · exact ⟨_, h3⟩
    · exact ⟨_, h4⟩
    · exact LentsR.live h5 k hk
theorem LentsR.live {A : Arena} : ∀ {ds : List AskD} {rows : List (List Value)} {L : List Nat}, LentsR A ds rows L → ∀ k ∈ L, ∃ o, A.blk k = some o
  | [], _, _, h, k, hk => by
    rw [LentsR] at h
    rw [h.2] at hk
    cases hk
  | d :: ds, rows, L, h, k, hk => by
    rw [LentsR] at h
    obtain ⟨r, rs, L1, L2, h1, h2, h3, h4⟩ := h
    subst h4
    rcases List.mem_append.1 hk with hk | hk
    · exact LentR.live h2 k hk
    · exact LentsR.live h3 k hk
end

theorem LentsR.snoc {A : Arena} : ∀ {ds : List AskD} {rows : List (List Value)} {L : List Nat} {d : AskD} {cs : List Value} {L' : List Nat}, LentsR A ds rows L → LentR A d cs L' → LentsR A (ds ++ [d]) (rows ++ [cs]) (L ++ L')
  | [], rows, L, d, cs, L', h, h' => by
    rw [LentsR] at h
    obtain ⟨rfl, rfl⟩ := h
    show LentsR A [d] [cs] L'
    rw [LentsR]
    exact ⟨cs, [], L', [], rfl, h', by rw [LentsR]; exact ⟨rfl, rfl⟩, by simp⟩
  | e :: ds, rows, L, d, cs, L', h, h' => by
    rw [LentsR] at h
    obtain ⟨r, rs, L1, L2, rfl, h2, h3, rfl⟩ := h
    show LentsR A (e :: (ds ++ [d])) (r :: (rs ++ [cs])) _
    rw [LentsR]
    exact ⟨r, rs ++ [cs], L1, L2 ++ L', rfl, h2, LentsR.snoc h3 h', by rw [List.append_assoc]⟩

theorem LentsR.head {A : Arena} {d : AskD} {ds : List AskD} {rows : List (List Value)} {L : List Nat} (h : LentsR A (d :: ds) rows L) : ∃ r rs L1 L2, rows = r :: rs ∧ LentR A d r L1 ∧ LentsR A ds rs L2 ∧ L = L1 ++ L2 := by
  rw [LentsR] at h
  exact h

theorem LentR.one {A : Arena} {d : AskD} {cs : List Value} {L : List Nat} (h : LentR A d cs L) : ∀ v ∈ cs, v.oneCell' = true := by
  cases d
  rw [LentR] at h
  obtain ⟨gd, gm, gp, cd, cm, cp, rows, Lp, rfl, _⟩ := h
  intro v hv
  simp only [List.mem_cons, List.not_mem_nil, or_false] at hv
  rcases hv with rfl | rfl | rfl | rfl | rfl | rfl | rfl | rfl | rfl | rfl | rfl | rfl | rfl | rfl | rfl <;> rfl

end
end Go.Proofs.Ytpingnkjenicaaa
