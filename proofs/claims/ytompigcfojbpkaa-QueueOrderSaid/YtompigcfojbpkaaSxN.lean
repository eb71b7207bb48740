/-
  The symbolic executor: code, functions, and what they show of the model's calls.
-/
import Derived.Test.YtompigcfojbpkaaSxT
namespace Go.Sx
noncomputable section
variable {dfs : List Deferred}

inductive SX where
  | nrm
  | ext (id : Nat)
  | ret
  | pnc (x : SV)

abbrev KT := SX → T SV → HS → Bool

/-- A contract of a function, as a transformer. -/
abbrev CT := List SV → HS → (SV → HS → Bool) → Bool

def resV (P : Program) (tm : T SV) (h : HS) : List ResultVar → Option (List SV)
  | [] => some []
  | r :: rs => match (match r with
      | .tmp t => tm.get t
      | .cell x t => match tm.get x with
        | some x => loadV P h t x
        | none => none), resV P tm h rs with
    | some v, some vs => some (v :: vs)
    | _, _ => none

def oneOf : List SV → SV
  | [v] => v
  | vs => .tup vs

/-- What a block's code does, told beforehand. -/
abbrev LT := Code → Nat → KT → T SV → HS → Bool

/-- Blocks that are told beforehand; functions behind which a state is laid out in its one form. -/
structure LTab where
  lt : FuncId → Nat → Option LT
  mg : FuncId → Bool
  gc : FuncId → Nat → Option (List Nat)      -- ahead of these blocks: the slots that are wanted still

/-- A function's way out. -/
def retK (P : Program) (mg : Bool) (n0 : Nat) (rs : List ResultVar) (K E : SV → HS → Bool) (e : SX) (tm : T SV) (h : HS) : Bool :=
  match e with
  | .ext _ => false
  | .pnc x => E x h
  | _ => match resV P tm h rs with
    | some vs => bif mg then canonK n0 (oneOf vs) h K else K (oneOf vs) h
    | none => false

def runBody (P : Program) (mg : FuncId → Bool) (code : FuncId → Nat → Code → KT → T SV → HS → Bool) (f : FuncId) (args : List SV) (h : HS) (K E : SV → HS → Bool) (fn : Func) (c : Code) : Bool :=
  bif fn.name == "runtime.NumGoroutine" then false else
    code f (args.length + (fn.ntmps - args.length)) c (retK P (mg f) h.nx fn.results.toList K E) (T.ofList args) h

/-- A function's body, with its results. -/
def runFn (P : Program) (mg : FuncId → Bool) (code : FuncId → Nat → Code → KT → T SV → HS → Bool) (C : FuncId → Option CT) : CallT := fun f args h K E =>
  match C f with
  | some ct => ct args h K
  | none => match fnOf P f with
    | none => false
    | some fn => match fn.body with
      | none => false
      | some c => runBody P mg code f args h K E fn c

abbrev CodeT := FuncId → Nat → Code → KT → T SV → HS → Bool

def seqK (ih : CodeT) (f : FuncId) (sz : Nat) (b : Code) (K : KT) (e : SX) (tm : T SV) (h : HS) : Bool := match e with
  | .nrm => ih f sz b K tm h
  | e => K e tm h

def blkK (id : Nat) (K : KT) (e : SX) (tm : T SV) (h : HS) : Bool := match e with
  | .ext i => bif Nat.beq i id then K .nrm tm h else K (.ext i) tm h
  | e => K e tm h

def sxCond (ih : CodeT) (f : FuncId) (sz : Nat) (x : Option SV) (a b : Code) (K : KT) (tm : T SV) (h : HS) : Bool := match x with
  | some (.v (.bool t)) => bif t then ih f sz a K tm h else ih f sz b K tm h
  | _ => false

def sxBlock (Λ : LTab) (ih : CodeT) (f : FuncId) (sz : Nat) (id : Nat) (a : Code) (K : KT) (tm : T SV) (h : HS) : Bool := match Λ.lt f id with
  | some lt => lt a sz K tm h
  | none => match Λ.gc f id with
    | some live => gcK live tm h (fun tm h => ih f sz a (blkK id K) tm h)
    | none => ih f sz a (blkK id K) tm h

/-- The slots that a region writes, forgotten. -/
def strike : List Oper → T SV → T SV
  | [], tm => tm
  | o :: os, tm => match o.dst with
    | none => strike os tm
    | some d => strike os (tm.del d)

theorem strike_get : ∀ {os : List Oper} {tm : T SV} {i : Nat} {x : SV}, (strike os tm).get i = some x → tm.get i = some x ∧ ∀ o ∈ os, o.dst ≠ some i
  | [], _, _, _, h => ⟨h, fun _ ho => by cases ho⟩
  | o :: os, tm, i, x, h => by
    simp only [strike] at h
    cases hd : o.dst with
    | none =>
      rw [hd] at h
      obtain ⟨h1, h2⟩ := strike_get h
      exact ⟨h1, fun o' ho' => by
        rcases List.mem_cons.1 ho' with rfl | ho'
        · rw [hd]; exact fun e => by cases e
        · exact h2 o' ho'⟩
    | some d =>
      rw [hd] at h
      obtain ⟨h1, h2⟩ := strike_get h
      obtain ⟨h3, h4⟩ := T.get_del h1
      exact ⟨h4, fun o' ho' => by
        rcases List.mem_cons.1 ho' with rfl | ho'
        · rw [hd]; exact fun e => h3 (by injection e with e; exact e.symm)
        · exact h2 o' ho'⟩

/-- A panic out of a region. -/
def regE (ops : Array Oper) (K : KT) (x : SV) (tm : T SV) (h : HS) : Bool := K (.pnc x) (strike ops.toList tm) h

def sxRegion (P : Program) (call : CallT) (sz : Nat) (ops : Array Oper) (draw : Bool) (K : KT) (tm : T SV) (h : HS) : Bool :=
  bif draw then
    match planOf P ops with
    | some pl => bif oneWay pl then sxPlan P call sz (K .nrm) (regE ops K) pl [] tm h else sxPlan P call sz (fun tm' h' => canonT h.nx sz tm' h' (K .nrm)) (regE ops K) pl [] tm h
    | none => false
  else fxOps P call sz (regE ops K) ops.toList (K .nrm) ops.toList tm h

/-- A region, ahead of which some slots may be forgotten (its number, from a million on). -/
def sxReg (P : Program) (call : CallT) (Λ : LTab) (f : FuncId) (sz : Nat) (id : Nat) (ops : Array Oper) (draw : Bool) (K : KT) (tm : T SV) (h : HS) : Bool := match Λ.gc f (Nat.add 1000000 id) with
  | some live => gcK live tm h (fun tm h => sxRegion P call sz ops draw K tm h)
  | none => sxRegion P call sz ops draw K tm h

def sxStep (P : Program) (C : FuncId → Option CT) (Λ : LTab) (ih : CodeT) (f : FuncId) (sz : Nat) (c : Code) (K : KT) (tm : T SV) (h : HS) : Bool :=
  match c with
  | .skip => K .nrm tm h
  | .label _ => K .nrm tm h
  | .ret => K .ret tm h
  | .exit id => K (.ext id) tm h
  | .seq a b => ih f sz a (seqK ih f sz b K) tm h
  | .cond x a b => sxCond ih f sz (opd tm x) a b K tm h
  | .block id a => sxBlock Λ ih f sz id a K tm h
  | .scope a => ih f sz a K tm h
  | .loop a => ih f sz a (seqK ih f sz (.loop a) K) tm h
  | .region id ops draw => sxReg P (runFn P Λ.mg ih C) Λ f sz id ops draw K tm h
  | _ => false

def sxCode (P : Program) (C : FuncId → Option CT) (Λ : LTab) (n : Nat) : CodeT :=
  Nat.rec (motive := fun _ => CodeT) (fun _ _ _ _ _ _ => false) (fun _ ih f sz c K tm h => sxStep P C Λ ih f sz c K tm h) n

theorem sxCode_succ (P : Program) (C : FuncId → Option CT) (Λ : LTab) (n : Nat) (f : FuncId) (sz : Nat) (c : Code) (K : KT) (tm : T SV) (h : HS) :
    sxCode P C Λ (n + 1) f sz c K tm h = sxStep P C Λ (sxCode P C Λ n) f sz c K tm h := rfl

/-! ### Soundness -/

/-- What is left, by the way out. -/
def GoesX (dfs : List Deferred) (ρ : Nat → Loc) (h : HS) (sz : Nat) (K : KT) : Exit → Act → World → Prop
  | .normal, a, w => Goes dfs ρ h sz (K .nrm) a w
  | .exit i, a, w => Goes dfs ρ h sz (K (.ext i)) a w
  | .ret, a, w => Goes dfs ρ h sz (K .ret) a w
  | .panic c, a, w => GoesE dfs ρ h sz (fun x => K (.pnc x)) c a w
  | _, _, _ => False

theorem GoesX.trans {ρ ρ' : Nat → Loc} {h h' : HS} {sz : Nat} {K : KT} {e : Exit} {a : Act} {w : World} (g : GoesX dfs ρ' h' sz K e a w) (hx : Ext ρ ρ' h.nx) (hn : h.nx ≤ h'.nx) (hm : h.M.le h'.M) : GoesX dfs ρ h sz K e a w := by
  cases e <;> first | exact Goes.trans g hx hn hm | exact GoesE.trans g hx hn hm | exact g

/-- A contract is right. -/
def CTSound (P : Program) (C : FuncId → Option CT) : Prop :=
  ∀ f ct, C f = some ct → ∀ args h K, ct args h K → ∀ ρ w, HRel ρ h w → (∀ x ∈ args, x.lt ρ h.nx) → CallGoes P f (args.map (SV.den ρ)).toArray w (Post ρ h K) fun _ _ => False

theorem CallGoes.mono {P : Program} {f : FuncId} {args : Array Value} {w : World} {Φ Φ' Ψ Ψ' : Value → World → Prop} (g : CallGoes P f args w Φ Ψ) (h1 : ∀ v w', Φ v w' → Φ' v w') (h2 : ∀ v w', Ψ v w' → Ψ' v w') : CallGoes P f args w Φ' Ψ' := by
  rcases g with ⟨fn, a, b, c⟩ | ⟨v, w', a, b⟩
  · exact .inl ⟨fn, a, b, c.mono fun e w' hor => by
      rcases hor with ⟨v, he, hq⟩ | ⟨v, he, hq⟩
      · exact .inl ⟨v, he, h1 _ _ hq⟩
      · exact .inr ⟨v, he, h2 _ _ hq⟩⟩
  · exact .inr ⟨v, w', a, h1 _ _ b⟩

theorem not_post_false {ρ : Nat → Loc} {h : HS} {v : Value} {w : World} : ¬ Post ρ h (fun _ _ => false) v w := fun ⟨_, _, _, hk, _⟩ => absurd hk Bool.false_ne_true

/-- The same, for a region: what is told of a panic does not speak of the slots that it writes. -/
def GoesR (dfs : List Deferred) (ops : Array Oper) (ρ : Nat → Loc) (h : HS) (sz : Nat) (K : KT) : Exit → Act → World → Prop
  | .panic c, a, w => ∃ x tm' h' ρ', c = pnc (x.den ρ') ∧ x.lt ρ' h'.nx ∧ K (.pnc x) tm' h' ∧ (∀ i y, tm'.get i = some y → ∀ o ∈ ops.toList, o.dst ≠ some i) ∧
      ARel dfs ρ' tm' sz h'.nx a ∧ HRel ρ' h' w ∧ Ext ρ ρ' h.nx ∧ h.nx ≤ h'.nx ∧ h.M.le h'.M
  | e, a, w => GoesX dfs ρ h sz K e a w

theorem put_size (a : Act) (d : Option Tmp) (v : Value) : (a.put d v).tmps.size = a.tmps.size := by
  cases d <;> simp [Act.put]

theorem put_other (a : Act) {d : Option Tmp} {i : Nat} (h : d ≠ some i) (v : Value) : (a.put d v).tmps[i]? = a.tmps[i]? := by
  cases d with
  | none => rfl
  | some d =>
    have : d ≠ i := fun e => h (by rw [e])
    simp [Act.put, this]

theorem put_defers (a : Act) (d : Option Tmp) (v : Value) : (a.put d v).defers = a.defers := by
  cases d <;> rfl

/-- A part of a code. -/
inductive InC : Code → Code → Prop
  | refl (c : Code) : InC c c
  | seqL {a b c : Code} : InC (.seq a b) c → InC a c
  | seqR {a b c : Code} : InC (.seq a b) c → InC b c
  | condL {x : Operand} {a b c : Code} : InC (.cond x a b) c → InC a c
  | condR {x : Operand} {a b c : Code} : InC (.cond x a b) c → InC b c
  | block {i : Nat} {a c : Code} : InC (.block i a) c → InC a c
  | loop {a c : Code} : InC (.loop a) c → InC a c
  | scope {a c : Code} : InC (.scope a) c → InC a c

/-- A part of a function's body. -/
def Within (P : Program) (f : FuncId) (c : Code) : Prop := ∃ fn b, P.funcs[f]? = some fn ∧ fn.body = some b ∧ InC c b

theorem Within.to {P : Program} {f : FuncId} {c d : Code} (h : Within P f c) (hd : ∀ {b}, InC c b → InC d b) : Within P f d := by
  obtain ⟨fn, b, h1, h2, h3⟩ := h
  exact ⟨fn, b, h1, h2, hd h3⟩

/-- What is told of a block is right. -/
def LTSound (P : Program) (Λ : LTab) : Prop :=
  ∀ f id lt, Λ.lt f id = some lt → ∀ c sz K tm h, Within P f (.block id c) → lt c sz K tm h → ∀ dfs ρ a w, ARel dfs ρ tm sz h.nx a → HRel ρ h w → (Code.block id c).wp P (GoesX dfs ρ h sz K) a w

def resM (tmps : Array Value) : ResultVar → Sem Value
  | .tmp t => pure (tmps.getD t undef)
  | .cell x t => do loadVar t (← asAddr (tmps.getD x undef))

theorem results_eq (fn : Func) (tmps : Array Value) : results fn tmps = (do
    let vs ← fn.results.mapM (resM tmps)
    pure (if h : vs.size = 1 then vs[0] else .tuple vs)) := by
  unfold results
  congr 1

theorem resV_run {P : Program} {tm : T SV} {h : HS} {ρ : Nat → Loc} {sz : Nat} {a : Act} {w : World} (A : ARel dfs ρ tm sz h.nx a) (H : HRel ρ h w) : ∀ (rs : List ResultVar) (vs : List SV), resV P tm h rs = some vs →
    (rs.mapM (resM a.tmps)).run P w = .ok (vs.map (SV.den ρ)) w ∧ ∀ v ∈ vs, v.lt ρ h.nx := by
  intro rs
  induction rs with
  | nil => intro vs h; simp only [resV, Option.some.injEq] at h; subst h; exact ⟨rfl, fun _ h => by cases h⟩
  | cons r rs ih =>
    intro vs hv
    simp only [resV] at hv
    split at hv
    · rename_i v vs' h1 h2
      injection hv with hv; subst hv
      obtain ⟨k1, k2⟩ := ih vs' h2
      cases r with
      | tmp t =>
        obtain ⟨g1, g2⟩ := A.at_ t v h1
        refine ⟨?_, fun y hy => ?_⟩
        · have hg : a.tmps.getD t undef = v.den ρ := by simp [g2]
          simp only [List.mapM_cons, resM, Sem.run_bind, Sem.run_pure, Result.andThen_ok, hg]
          rw [k1]; rfl
        · rcases List.mem_cons.1 hy with rfl | hy
          · exact g1
          · exact k2 y hy
      | cell x t =>
        simp only at h1
        split at h1
        · rename_i xv hx
          obtain ⟨g1, g2⟩ := A.at_ x xv hx
          obtain ⟨l1, l2⟩ := loadV_run h1 H
          have hg : a.tmps.getD x undef = xv.den ρ := by simp [g2]
          refine ⟨?_, fun y hy => ?_⟩
          · -- a load of a pointer
            have hp : ∃ ad, xv.den ρ = .pointer (some ad) := by
              unfold loadV at h1
              split at h1
              · cases h1
              · split at h1
                · exact ⟨_, rfl⟩
                · exact ⟨_, rfl⟩
                · cases h1
            obtain ⟨ad, had⟩ := hp
            rw [had] at l1 hg
            simp only [Instr.loadAt, Instr.sureAddr, Sem.run_bind, Sem.run_pure, Result.andThen_ok] at l1
            have hasA : (asAddr (.pointer (some ad))).run P w = .ok ad w := rfl
            simp only [List.mapM_cons, resM, Sem.run_bind, hg, hasA, Sem.run_pure, Result.andThen_ok, l1]
            rw [k1]; rfl
          · rcases List.mem_cons.1 hy with rfl | hy
            · exact l2
            · exact k2 y hy
        · cases h1
    · cases hv

theorem runFn_sound {P : Program} {mg : FuncId → Bool} {C : FuncId → Option CT} (hC : CTSound P C) {code : FuncId → Nat → Code → KT → T SV → HS → Bool}
    (hcode : ∀ f sz c K tm h, Within P f c → code f sz c K tm h → ∀ dfs ρ a w, ARel dfs ρ tm sz h.nx a → HRel ρ h w → c.wp P (GoesX dfs ρ h sz K) a w) : CallSound P (runFn P mg code C) := by
  intro f args h K E hk ρ w H hargs
  unfold runFn at hk
  split at hk
  · rename_i ct hct
    exact (hC f ct hct args h K hk ρ w H hargs).mono (fun _ _ h => h) fun _ _ h => h.elim
  · split at hk
    · exact absurd hk Bool.false_ne_true
    · rename_i fn hfn
      split at hk
      · exact absurd hk Bool.false_ne_true
      · rename_i c hb
        have hf := fn_of hfn
        unfold runBody at hk
        cases hname : fn.name == "runtime.NumGoroutine" with
        | true => rw [hname] at hk; exact absurd hk Bool.false_ne_true
        | false =>
          rw [hname] at hk
          simp only [cond_false] at hk
          refine .inl ⟨fn, hf, ⟨hname, by rw [hb]; rfl⟩, calls_of_wp hf hb ?_⟩
          have A : ARel [] ρ (T.ofList args) (args.length + (fn.ntmps - args.length)) h.nx { tmps := (args.map (SV.den ρ)).toArray ++ Array.replicate (fn.ntmps - (args.map (SV.den ρ)).toArray.size) undef, defers := [] } := by
            refine ⟨by simp, fun i x hi => ?_, rfl⟩
            have hx := T.get_ofList hi
            refine ⟨hargs x (List.mem_of_getElem? hx), ?_⟩
            have hlt := (List.getElem?_eq_some_iff.1 hx).1
            rw [Array.getElem?_append_left (by simpa using hlt)]
            simp [hx]
          refine wp_mono (hcode _ _ _ _ _ _ ⟨fn, c, hf, hb, .refl c⟩ hk [] ρ _ w A H) fun e a' w' g => ?_
          have fin : ∀ a' w', Goes [] ρ h (args.length + (fn.ntmps - args.length)) (retK P (mg f) h.nx fn.results.toList K E .nrm) a' w' →
              a'.defers = [] ∧ ∃ v, (results fn a'.tmps).run P w' = .ok v w' ∧ ((∃ v', Ending.returned v = .returned v' ∧ Post ρ h K v' w') ∨ ∃ v', Ending.returned v = .panicked (pnc v') ∧ Post ρ h E v' w') := by
            intro a' w' ⟨tm', h', ρ', hk', A', H', hx, hnx, hm⟩
            refine ⟨A'.defers, ?_⟩
            simp only [retK] at hk'
            split at hk'
            · rename_i vs hvs
              obtain ⟨r1, r2⟩ := resV_run A' H' _ _ hvs
              have hres : (results fn a'.tmps).run P w' = .ok ((oneOf vs).den ρ') w' := by
                rw [results_eq, Array.mapM_eq_mapM_toList]
                simp only [Sem.run_bind, Sem.run_map]
                rw [r1]
                simp only [Result.andThen_ok, Sem.run_pure]
                congr 1
                match vs with
                | [] => simp [oneOf, SV.den, SV.dens]
                | [v] => simp [oneOf]
                | v :: u :: vs => simp [oneOf, SV.den, SV.dens, dens_eq]
              have hv : (oneOf vs).lt ρ' h'.nx := by
                match vs with
                | [] => trivial
                | [v] => exact r2 v (by simp)
                | v :: u :: vs => exact lts_iff.2 r2
              refine ⟨_, hres, .inl ⟨_, rfl, ?_⟩⟩
              cases hmg : mg f with
              | true => rw [hmg] at hk'; exact canonK_post hk' hv H' hx hm
              | false => rw [hmg] at hk'; exact ⟨oneOf vs, h', ρ', hk', rfl, hv, H', hx, hnx, hm⟩
            · exact absurd hk' Bool.false_ne_true
          cases e with
          | normal => exact fin a' w' g
          | ret => exact fin a' w' g
          | exit i => obtain ⟨_, _, _, hk', _⟩ := g; exact absurd hk' Bool.false_ne_true
          | goto l => exact g.elim
          | panic c =>
            obtain ⟨x, tm', h', ρ', hc, hl, hk', A', H', hx, hnx, hm⟩ := g
            have hk' : E x h' = true := hk'
            exact ⟨A'.defers, .inr ⟨_, by rw [hc], x, h', ρ', hk', rfl, hl, H', hx, hnx, hm⟩⟩
          | outgrown => exact g.elim

theorem rounds_mono {P : Program} {c : Code} {Q Q' : Exit → Act → World → Prop} (hq : ∀ e a w, Q e a w → Q' e a w) : ∀ (n : Nat) (a : Act) (w : World), Code.rounds P c Q n a w → Code.rounds P c Q' n a w := by
  intro n
  induction n with
  | zero => intro a w h; exact h
  | succ n ih =>
    intro a w h
    exact wp_mono h fun e a w g => by cases e <;> first | exact ih _ _ g | exact hq _ _ _ g

theorem sxCode_wp {P : Program} (hm : P.follows .mixedOrders = true) {C : FuncId → Option CT} (hC : CTSound P C) {Λ : LTab} (hΛ : LTSound P Λ) : ∀ (n : Nat),
    (∀ f sz c K tm h, Within P f c → sxCode P C Λ n f sz c K tm h → ∀ dfs ρ a w, ARel dfs ρ tm sz h.nx a → HRel ρ h w → c.wp P (GoesX dfs ρ h sz K) a w) ∧
    (∀ f sz c K tm h, Within P f (.loop c) → sxCode P C Λ n f sz (.loop c) K tm h → ∀ dfs ρ a w, ARel dfs ρ tm sz h.nx a → HRel ρ h w → Code.rounds P c (GoesX dfs ρ h sz K) n a w) := by
  intro n
  induction n with
  | zero => exact ⟨fun _ _ _ _ _ _ _ h => absurd h Bool.false_ne_true, fun _ _ _ _ _ _ _ h => absurd h Bool.false_ne_true⟩
  | succ n ih =>
    obtain ⟨ih1, ih2⟩ := ih
    have loops : ∀ f sz c K tm h, Within P f (.loop c) → sxCode P C Λ (n + 1) f sz (.loop c) K tm h → ∀ dfs ρ a w, ARel dfs ρ tm sz h.nx a → HRel ρ h w → Code.rounds P c (GoesX dfs ρ h sz K) (n + 1) a w := by
      intro f sz c K tm h hW hk dfs ρ a w A H
      rw [sxCode_succ] at hk
      simp only [sxStep] at hk
      rw [rounds_succ]
      refine wp_mono (ih1 _ _ _ _ _ _ (hW.to .loop) hk dfs ρ a w A H) fun e a' w' g => ?_
      cases e with
      | normal =>
        obtain ⟨tm', h', ρ', hk', A', H', hx, hnx, hm'⟩ := g
        simp only [seqK] at hk'
        exact rounds_mono (fun e a w g => g.trans hx hnx hm') _ _ _ (ih2 _ _ _ _ _ _ hW hk' dfs ρ' a' w' A' H')
      | exit i => exact g
      | ret => exact g
      | goto l => exact g
      | panic c => exact g
      | outgrown => exact g
    refine ⟨?_, loops⟩
    intro f sz c K tm h hW hk0 dfs ρ a w A H
    have here : ∀ {K' : T SV → HS → Bool}, K' tm h → Goes dfs ρ h sz K' a w := fun hk => ⟨tm, h, ρ, hk, A, H, Ext.refl _ _, Nat.le_refl _, Mem.le_refl _⟩
    have hk := hk0
    rw [sxCode_succ] at hk
    cases c with
    | skip => exact wp_skip (here hk)
    | label l => exact wp_label (here hk)
    | ret => exact wp_ret (here hk)
    | exit id => exact wp_exit (here hk)
    | seq x y =>
      simp only [sxStep] at hk
      refine wp_seq (wp_mono (ih1 _ _ _ _ _ _ (hW.to .seqL) hk dfs ρ a w A H) fun e a' w' g => ?_)
      cases e with
      | normal =>
        obtain ⟨tm', h', ρ', hk', A', H', hx, hnx, hm'⟩ := g
        simp only [seqK] at hk'
        exact wp_mono (ih1 _ _ _ _ _ _ (hW.to .seqR) hk' dfs ρ' a' w' A' H') fun e a w g => g.trans hx hnx hm'
      | exit i => exact g
      | ret => exact g
      | goto l => exact g
      | panic c => exact g
      | outgrown => exact g
    | cond x y z =>
      simp only [sxStep, sxCond] at hk
      split at hk
      · rename_i t ht
        obtain ⟨h1, _⟩ := opd_den A ht
        refine wp_cond (t := t) h1 ?_
        cases t with
        | true => exact ih1 _ _ _ _ _ _ (hW.to .condL) hk dfs ρ a w A H
        | false => exact ih1 _ _ _ _ _ _ (hW.to .condR) hk dfs ρ a w A H
      · exact absurd hk Bool.false_ne_true
    | block id x =>
      simp only [sxStep, sxBlock] at hk
      split at hk
      · rename_i lt hlt
        exact hΛ f id lt hlt x sz K tm h hW hk dfs ρ a w A H
      have go : ∀ tm h, sxCode P C Λ n f sz x (blkK id K) tm h = true → ARel dfs ρ tm sz h.nx a → HRel ρ h w → (Code.block id x).wp P (GoesX dfs ρ h sz K) a w := by
        intro tm h hk A H
        refine wp_block (wp_mono (ih1 _ _ _ _ _ _ (hW.to .block) hk dfs ρ a w A H) fun e a' w' g => ?_)
        cases e with
        | normal => exact g
        | exit i =>
          obtain ⟨tm', h', ρ', hk', A', H', hx, hnx, hm'⟩ := g
          simp only [blkK] at hk'
          cases hb : Nat.beq i id with
          | true =>
            rw [hb] at hk'
            have := Nat.eq_of_beq_eq_true hb
            subst this
            simp only [Exit.inBlock, if_true]
            exact ⟨tm', h', ρ', hk', A', H', hx, hnx, hm'⟩
          | false =>
            rw [hb] at hk'
            have hne : i ≠ id := fun e => by rw [e, Nat.beq_refl] at hb; cases hb
            simp only [Exit.inBlock, hne, if_false]
            exact ⟨tm', h', ρ', hk', A', H', hx, hnx, hm'⟩
        | ret => exact g
        | goto l => exact g
        | panic c => exact g
        | outgrown => exact g
      split at hk
      · obtain ⟨tm', H', hk', s1, s2⟩ := gcK_sub hk
        exact wp_mono (go tm' ⟨H', h.nx, h.M⟩ hk' ⟨A.size, fun i y hi => A.at_ i y (s1 i y hi), A.defers⟩ (H.less s2)) fun e a' w' g => g.trans (Ext.refl _ _) (Nat.le_refl _) (Mem.le_refl _)
      · exact go tm h hk A H
    | scope x =>
      simp only [sxStep] at hk
      refine wp_scope_straight (wp_mono (ih1 _ _ _ _ _ _ (hW.to .scope) hk dfs ρ a w A H) fun e a' w' g => ?_)
      cases e <;> exact g
    | loop x => exact wp_loop_rounds (n + 1) (loops f sz x K tm h hW hk0 dfs ρ a w A H)
    | region id ops draw =>
      have CS := runFn_sound (mg := Λ.mg) hC ih1
      have go : ∀ tm h, sxRegion P (runFn P Λ.mg (sxCode P C Λ n) C) sz ops draw K tm h = true → ARel dfs ρ tm sz h.nx a → HRel ρ h w → (Code.region id ops draw).wp P (GoesX dfs ρ h sz K) a w := by
        intro tm h hk A H
        simp only [sxRegion] at hk
        have hQ : ∀ (j : Nat) (o : Oper), ops[j]? = some o → ∀ v c a w, GoesR dfs ops ρ h sz K (.panic c) (a.put o.dst v) w → GoesR dfs ops ρ h sz K (.panic c) a w := by
          intro j o ho v c a w ⟨x, tm', h', ρ', e, l, k, s, A', R'⟩
          refine ⟨x, tm', h', ρ', e, l, k, s, ⟨?_, fun i y hi => ?_, ?_⟩, R'⟩
          · rw [← A'.size]; exact (put_size a o.dst v).symm
          · obtain ⟨l1, l2⟩ := A'.at_ i y hi
            refine ⟨l1, ?_⟩
            rw [← l2]
            refine (put_other a ?_ v).symm
            exact s i y hi o (by simpa using Array.mem_of_getElem? ho)
          · rw [← A'.defers]; exact (put_defers a o.dst v).symm
        have hE : ∀ c a' w', GoesE dfs ρ h sz (regE ops K) c a' w' → GoesR dfs ops ρ h sz K (.panic c) a' w' := by
          intro c a' w' ⟨x, tm', h', ρ', e, l, k, A', R'⟩
          exact ⟨x, strike ops.toList tm', h', ρ', e, l, k, fun i y hi => (strike_get hi).2, ⟨A'.size, fun i y hi => A'.at_ i y (strike_get hi).1, A'.defers⟩, R'⟩
        have out : ∀ {e : Exit} {a : Act} {w : World}, GoesR dfs ops ρ h sz K e a w → GoesX dfs ρ h sz K e a w := by
          intro e a w g
          cases e with
          | panic c =>
            obtain ⟨x, tm', h', ρ', e, l, k, _, A', R'⟩ := g
            exact ⟨x, tm', h', ρ', e, l, k, A', R'⟩
          | _ => exact g
        cases draw with
        | true =>
          simp only [cond_true] at hk
          split at hk
          · rename_i pl hpl
            obtain ⟨k1, k3⟩ := planOf_ok hpl
            have down : Down .any ops (Array.replicate ops.size false) := by
              intro k ok hk' hl
              exfalso
              rw [Array.getD_eq_getD_getElem?, Array.getElem?_replicate] at hl
              split at hl <;> simp at hl
            refine wp_mono (Q := GoesR dfs ops ρ h sz K) ?_ fun e a w g => out g
            cases h1 : oneWay pl with
            | true =>
              rw [h1] at hk
              exact wp_region_any hm (wpAnyL_any _ [] _ _ _ (sxPlan_wp CS k3 hQ _ pl _ 0 [] k1 (by simp) hk [] A (H.drawn _) down (by simp) (fun a' w' g => g) hE))
            | false =>
              rw [h1] at hk
              refine wp_region_any hm (wpAnyL_any _ [] _ _ _ (sxPlan_wp CS k3 hQ _ pl _ 0 [] k1 (by simp) hk [] A (H.drawn _) down (by simp) (fun a' w' g => ?_) hE))
              obtain ⟨tm', h', ρ', hk', A', R', hx, _, hm'⟩ := g
              exact canonT_goes (h0 := h) hk' A' R' hx hm'
          · exact absurd hk Bool.false_ne_true
        | false =>
          simp only [cond_false] at hk
          refine wp_mono (Q := GoesR dfs ops ρ h sz K) ?_ fun e a w g => out g
          refine wp_region (fxOps_wp CS (List.range ops.size) ops.toList ?_ hk A H (fun a' w' g => g) hE)
          apply List.ext_getElem?
          intro i
          simp only [List.getElem?_map]
          by_cases hi : i < ops.size
          · rw [List.getElem?_range hi]
            simp [hi]
          · rw [List.getElem?_eq_none (by simpa using hi), List.getElem?_eq_none (by simpa using hi)]
            rfl
      simp only [sxStep, sxReg] at hk
      split at hk
      · obtain ⟨tm', H', hk', s1, s2⟩ := gcK_sub hk
        exact wp_mono (go tm' ⟨H', h.nx, h.M⟩ hk' ⟨A.size, fun i y hi => A.at_ i y (s1 i y hi), A.defers⟩ (H.less s2)) fun e a' w' g => g.trans (Ext.refl _ _) (Nat.le_refl _) (Mem.le_refl _)
      · exact go tm h hk A H
    | rangeFunc f ps x y => exact absurd hk Bool.false_ne_true
    | goto l => exact absurd hk Bool.false_ne_true
    | refuse s => exact absurd hk Bool.false_ne_true

/-- **A CALL, BY THE EXECUTOR.** -/
def sxCallE (P : Program) (C : FuncId → Option CT) (Λ : LTab) (n : Nat) : CallT := runFn P Λ.mg (sxCode P C Λ n) C

/-- A call that does not panic. -/
def sxCall (P : Program) (C : FuncId → Option CT) (Λ : LTab) (n : Nat) (f : FuncId) (args : List SV) (h : HS) (K : SV → HS → Bool) : Bool := sxCallE P C Λ n f args h K fun _ _ => false

theorem sxCallE_sound {P : Program} (hm : P.follows .mixedOrders = true) {C : FuncId → Option CT} (hC : CTSound P C) {Λ : LTab} (hΛ : LTSound P Λ) (n : Nat) : CallSound P (sxCallE P C Λ n) := runFn_sound hC (sxCode_wp hm hC hΛ n).1

theorem sxCall_sound {P : Program} (hm : P.follows .mixedOrders = true) {C : FuncId → Option CT} (hC : CTSound P C) {Λ : LTab} (hΛ : LTSound P Λ) (n : Nat) : ∀ f args h K, sxCall P C Λ n f args h K → ∀ ρ w, HRel ρ h w → (∀ x ∈ args, x.lt ρ h.nx) → CallGoes P f (args.map (SV.den ρ)).toArray w (Post ρ h K) fun _ _ => False :=
  fun f args h K hk ρ w H ha => (sxCallE_sound hm hC hΛ n f args h K _ hk ρ w H ha).mono (fun _ _ h => h) fun _ _ h => not_post_false h

def noC : FuncId → Option CT := fun _ => none
def noL : LTab := ⟨fun _ _ => none, fun _ => false, fun _ _ => none⟩

/-- No blocks told; one form behind these functions. -/
def mgL (l : List Nat) : LTab := ⟨fun _ _ => none, fun f => memN f l, fun _ _ => none⟩

/-- The same, and ahead of some blocks (function, block, slots) what is wanted no more is forgotten. -/
def gcOf (f id : Nat) : List (Nat × Nat × List Nat) → Option (List Nat)
  | [] => none
  | x :: xs => bif Nat.beq x.1 f && Nat.beq x.2.1 id then some x.2.2 else gcOf f id xs

def gcL (l : List Nat) (g : List (Nat × Nat × List Nat)) : LTab := ⟨fun _ _ => none, fun f => memN f l, fun f id => gcOf f id g⟩

theorem noC_sound (P : Program) : CTSound P noC := fun _ _ h => by cases h
theorem noL_sound (P : Program) : LTSound P noL := fun _ _ _ h => by cases h
theorem mgL_sound (P : Program) (l : List Nat) : LTSound P (mgL l) := fun _ _ _ h => by cases h
theorem gcL_sound (P : Program) (l : List Nat) (g : List (Nat × Nat × List Nat)) : LTSound P (gcL l g) := fun _ _ _ h => by cases h

/-! ### Loops with an invariant -/

/-- What one state says, the other says too. -/
def SubT (tm tm' : T SV) : Prop := ∀ k x, tm.get k = some x → tm'.get k = some x

structure SubH (h h' : HS) : Prop where
  nx : h.nx = h'.nx
  blk : ∀ b B, h.H.get b = some B → h'.H.get b = some B
  mem : h.M.le h'.M

theorem ARel.sub {ρ : Nat → Loc} {tm tm' : T SV} {sz nx : Nat} {a : Act} (A : ARel dfs ρ tm' sz nx a) (h : SubT tm tm') : ARel dfs ρ tm sz nx a := ⟨A.size, fun i x hi => A.at_ i x (h i x hi), A.defers⟩

end
end Go.Sx
