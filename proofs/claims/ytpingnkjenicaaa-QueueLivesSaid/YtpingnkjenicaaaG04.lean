/-
  The symbolic executor: one operation; operations in the text's order.
  Regions that draw their order: readings that are taken ahead of effects which leave what they read.
  The symbolic executor: regions, code, calls.
  The symbolic executor: the same operations, cut so that the kernel looks at little text for each.
-/
import Derived.Test.YtpingnkjenicaaaG03
import Derived.Orders
import Derived.LoopN
import Derived.Scope
namespace Go.Sx
noncomputable section
variable {dfs : List Deferred}

/-- What a call asks, and what it leaves: of a value that is handed back, of one that it panics with. -/
abbrev CallT := FuncId → List SV → HS → (SV → HS → Bool) → (SV → HS → Bool) → Bool

/-- A panic by itself. -/
def pnc (v : Value) : List PanicEntry := [{ v, recovered := false }]

/-- A call of function f goes on in Φ: it is entered and hands back a value, or it is one of the model's entries, which gives one at once. -/
def CallGoes (P : Program) (f : FuncId) (args : Array Value) (w : World) (Φ Ψ : Value → World → Prop) : Prop :=
  (∃ fn, P.funcs[f]? = some fn ∧ ((fn.name == "runtime.NumGoroutine") = false ∧ fn.body.isNone = false) ∧ Calls P f args w fun e w' => (∃ v, e = .returned v ∧ Φ v w') ∨ ∃ v, e = .panicked (pnc v) ∧ Ψ v w') ∨
  (∃ v w', (callFunc f args).run P w = .ok (.value v) w' ∧ Φ v w')

def CallSound (P : Program) (call : CallT) : Prop :=
  ∀ f args h K E, call f args h K E → ∀ ρ w, HRel ρ h w → (∀ x ∈ args, x.lt ρ h.nx) → CallGoes P f (args.map (SV.den ρ)).toArray w (Post ρ h K) (Post ρ h E)

/-! ### Readings -/

def readV (P : Program) (tm : T SV) (h : HS) : Op → Option SV
  | .load t x => match opd tm x with
    | some x => loadV P h t x
    | none => none
  | .lookup t x k ok => match opd tm x, opd tm k with
    | some x, some k => lookV P h t x k ok
    | _, _ => none
  | .convert s d x => match opd tm x with
    | some x => cvV P h s d x
    | none => none
  | .entry x => match opd tm x with
    | some x => entryV h x
    | none => none
  | .call c => match c.callee with
    | .builtin .len => match c.argTypes.toList, opds tm c.args.toList with
      | [t], some [.mp b] => match ty P t, h.H.get b with
        | some s, some (.map es _) => bif isMp s.und then some (.v (.int .i64 es.length)) else none
        | _, _ => none
      | _, _ => none
    | .builtin .unsafeSliceData => match opds tm c.args.toList with
      | some [x] => sdV x
      | _ => none
    | _ => none
  | _ => none

theorem readV_run {P : Program} {tm : T SV} {h : HS} {op : Op} {z : SV} (hz : readV P tm h op = some z) {ρ : Nat → Loc} {sz : Nat} {a : Act} {w : World} (A : ARel dfs ρ tm sz h.nx a) (H : HRel ρ h w)
    (o : Oper) (ho : o.op = op) : (execOp a.eval o).run P w = .ok (.value (z.den ρ)) w ∧ z.lt ρ h.nx := by
  unfold readV at hz
  unfold execOp
  rw [ho]
  split at hz
  · split at hz
    · rename_i x hx
      obtain ⟨h1, _⟩ := opd_den A hx
      obtain ⟨k1, k2⟩ := loadV_run hz H
      exact ⟨by simp only [Sem.run_bind, h1, k1, Result.andThen_ok, Sem.run_pure], k2⟩
    · cases hz
  · split at hz
    · rename_i x k hx hk
      obtain ⟨h1, _⟩ := opd_den A hx
      obtain ⟨h2, _⟩ := opd_den A hk
      obtain ⟨k1, k2⟩ := lookV_run hz H
      exact ⟨by simp only [Sem.run_bind, h1, h2, k1, Result.andThen_ok, Sem.run_pure], k2⟩
    · cases hz
  · split at hz
    · rename_i x hx
      obtain ⟨h1, _⟩ := opd_den A hx
      obtain ⟨k1, k2⟩ := cvV_run hz H
      exact ⟨by simp only [Sem.run_bind, h1, k1, Result.andThen_ok, Sem.run_pure], k2⟩
    · cases hz
  · split at hz
    · rename_i x hx
      obtain ⟨h1, _⟩ := opd_den A hx
      obtain ⟨k1, k2⟩ := entryV_run (P := P) hz H
      exact ⟨by simp only [Sem.run_bind, h1, k1, Result.andThen_ok, Sem.run_pure], k2⟩
    · cases hz
  · rename_i c
    split at hz
    · rename_i hc
      split at hz
      · rename_i t b ht hxs
        split at hz
        · rename_i s es clock hs hb
          cases hd : s.und with
          | map k e =>
            rw [hd] at hz
            simp only [isMp, cond_true, Option.some.injEq] at hz
            subst hz
            refine ⟨?_, trivial⟩
            obtain ⟨h1, _⟩ := opds_den A _ _ hxs
            obtain ⟨_, _, h3⟩ := H.blk b _ hb
            have h3 : w.heap[(ρ b).blk]? = some (.map (es.map (entDen ρ)).toArray clock) := h3
            have hget : (getObj (ρ b).blk).run P w = .ok (.map (es.map (entDen ρ)).toArray clock) w := by simp [getObj, Sem.run, h3]
            have hargs : c.args.map a.eval = #[.map (some (ρ b).blk)] := by
              apply Array.toList_inj.1
              rw [Array.toList_map, h1]; rfl
            have hts : c.argTypes = #[t] := Array.toList_inj.1 ht
            simp only [resolve, hc, hargs, hts, Sem.run_bind, Sem.run_pure, Result.andThen_ok, invoke, builtin, Builtin.len_, List.getElem?_toArray, List.getElem?_cons_zero, r_underlying w hs, hd, hget, SV.den]
            simp [goInt]
          | _ => rw [hd] at hz; simp [isMp] at hz
        · cases hz
      · cases hz
    · rename_i hc
      split at hz
      · rename_i x hxs
        obtain ⟨h1, h2⟩ := opds_den A _ _ hxs
        obtain ⟨k1, k2⟩ := sdV_run (P := P) hz (h2 x (by simp)) w c.argTypes o.type
        refine ⟨?_, k2⟩
        have hargs : c.args.map a.eval = #[x.den ρ] := by
          apply Array.toList_inj.1
          rw [Array.toList_map, h1]; rfl
        simp only [resolve, hc, hargs, Sem.run_bind, Sem.run_pure, Result.andThen_ok, invoke, builtin, k1]
      · cases hz
    · cases hz
  · cases hz

/-! ### Effects -/

def asFn (x : SV) : Option (FuncId × List SV) :=
  match x with
  | .fn f caps => some (f, caps)
  | .v (.func (.func f) first caps) => bif first.isEmpty then some (f, caps.toList.map .v) else none
  | _ => none

theorem asFn_den {x : SV} {f : FuncId} {caps : List SV} (h : asFn x = some (f, caps)) (ρ : Nat → Loc) {n : Nat} (hx : x.lt ρ n) : x.den ρ = .func (.func f) #[] (caps.map (SV.den ρ)).toArray ∧ ∀ y ∈ caps, y.lt ρ n := by
  unfold asFn at h
  split at h
  · injection h with h; injection h with h1 h2; subst h1; subst h2
    exact ⟨by simp [SV.den, dens_eq], lts_iff.1 hx⟩
  · rename_i f' first caps'
    cases hf : first.isEmpty with
    | false => rw [hf] at h; cases h
    | true =>
      rw [hf] at h
      injection h with h; injection h with h1 h2; subst h1; subst h2
      have : first = #[] := Array.isEmpty_iff.1 hf
      subst this
      exact ⟨by simp [SV.den, Function.comp_def], fun y hy => by obtain ⟨z, _, rfl⟩ := List.mem_map.1 hy; trivial⟩
  · cases h

def callV (P : Program) (call : CallT) (tm : T SV) (h : HS) (c : Call) (K E : SV → HS → Bool) : Bool :=
  match c.callee with
  | .value f => match opd tm f with
    | some fv => match asFn fv, opds tm c.args.toList with
      | some (f, caps), some xs => call f (xs ++ caps) h K E
      | _, _ => false
    | none => false
  | .builtin .append => match opds tm c.args.toList with
    | some [s, x] => bif h.M.X.op then appendA P h c.argTypes.toList s x K else match lenS s, lenS x with
      | some l, some n => bif Nat.ble (l + n) 9223372036854775807 then appendV P h c.argTypes.toList s x K else false
      | _, _ => false
    | _ => false
  | .builtin .copy => match opds tm c.args.toList with
    | some [d, x] => copyV P h c.argTypes.toList d x K
    | _ => false
  | .builtin .delete => match opds tm c.args.toList with
    | some [m, k] => delV P h c.argTypes.toList m k K
    | _ => false
  | .builtin .unsafeString => match c.argTypes.toList, opds tm c.args.toList with
    | [pt, _], some [p, n] => usV P h pt p n K
    | _, _ => false
  | _ => false

/-- A value that a panic may carry. -/
def isIf (x : SV) : Bool := match x with
  | .ifc _ _ => true
  | .v (.iface _ _) => true
  | _ => false

theorem isIf_den {x : SV} (h : isIf x = true) (ρ : Nat → Loc) : ∃ t v, x.den ρ = .iface t v := by
  unfold isIf at h
  split at h
  · rename_i t y
    exact ⟨t, y.den ρ, by simp only [SV.den]⟩
  · rename_i t y
    exact ⟨t, y, by simp only [SV.den]⟩
  · cases h

/-- A row that is spelled out: in the arena, where it names no new block. -/
def buildA (h : HS) (e : TypeId) (cs : List SV) (K : SV → HS → Bool) (len : Nat) (X : Bool) : Bool := bif h.M.X.op then (match plains cs with
  | some vs => h.M.D (∀ g A', h.M.A.New A' g vs.toArray e → K (.v (.slice (some ⟨g, 0, none⟩) len len)) (h.put A') = true)
  | none => X) else X

def effV (P : Program) (call : CallT) (tm : T SV) (h : HS) (op : Op) (K E : SV → HS → Bool) : Bool :=
  match op with
  | .alloc t => allocV P h t K
  | .box t x => match opd tm x with
    | some x => boxV h t x K
    | none => false
  | .store t a x => match opd tm a, opd tm x with
    | some a, some x => storeV P h t a x K
    | _, _ => false
  | .makeSlice t l c => match opd tm l, opd tm c with
    | some l, some c => makeV P h t l c K
    | _, _ => false
  | .makeMap _ none => bif h.M.X.op then mapA h K else K (.mp h.nx) (h.new (.map [] 0))
  | .buildSlice t len parts => match opds tm (parts.toList.map (·.2)) with
    | some xs => match ty P t with
      | some s => match s.und with
        | .slice e => match ty P e with
          | some se => bif Nat.ble (len * se.size) 16777216 && Nat.beq se.zero.cells.size se.size then
              (match fillV (fun i => some (i * se.size, se.size)) (repCells (se.zero.cells.toList.map .v) len) ((parts.toList.map (·.1)).zip xs) with
              | some cs => buildA h e cs K len (K (.slc h.nx 0 len (.lit len)) (h.new (.cells cs 0 (e + 1))))
              | none => false)
            else false
          | none => false
        | _ => false
      | none => false
    | none => false
  | .mapUpdate t m k v => match opd tm m, opd tm k, opd tm v with
    | some m, some k, some v => putV P h t m k v K
    | _, _, _ => false
  | .insert t m k v => match opd tm m, opd tm k, opd tm v with
    | some m, some k, some v => putV P h t m k v K
    | _, _, _ => false
  | .range t x => match opd tm x with
    | some x => rangeV P h t x K
    | none => false
  | .next x i => match opd tm x with
    | some x => nextV h x i K
    | none => false
  | .call c => callV P call tm h c K E
  | .convert s d x => match opd tm x with
    | some x => convE P h s d x K
    | none => false
  | .panic x => match opd tm x with
    | some x => bif isIf x then E x h else false
    | none => false
  | _ => false

theorem buildSlice_run {P : Program} {t e : TypeId} {s se : STy} {len : Nat} {parts : List (Nat × SV)} {cs : List SV} (hs : ty P t = some s) (hd : s.und = .slice e) (hse : ty P e = some se) (hlen : len * se.size ≤ 16777216) (hz : se.zero.cells.size = se.size)
    (hf : fillV (fun i => some (i * se.size, se.size)) (repCells (se.zero.cells.toList.map .v) len) parts = some cs) (ρ : Nat → Loc) (w : World) :
    (Instr.buildSlice t len (parts.map fun (i, x) => (i, x.den ρ)).toArray).run P w = .ok (.slice (some ⟨w.heap.size, 0, none⟩) len len) { w with heap := w.heap.push (.cells (cs.map (SV.den ρ)).toArray e) } := by
  obtain ⟨k1, _⟩ := fill_den (ρ := ρ) (n := 0) parts _ cs hf
  have hcells : ((Array.range (len * se.size)).map ((if len * se.size = 0 then #[] else se.zero.cells)[· % (if len * se.size = 0 then #[] else se.zero.cells).size]!)) = ((repCells (se.zero.cells.toList.map .v) len).map (SV.den ρ)).toArray := by
    apply Array.toList_inj.1
    rw [repCells_den, ← rangeMap_rep, hz]
    by_cases h0 : len * se.size = 0
    · simp [h0]
    · rw [if_neg h0]; simp [hz]
  have h24 : ¬ (len * se.size > 2 ^ 24) := by
    have : (2 ^ 24 : Nat) = 16777216 := by decide
    omega
  simp only [Instr.buildSlice, Sem.run_bind, r_underlying w hs, hd, Result.andThen_ok, r_sizeOf w hse, h24, if_false]
  by_cases h0 : len * se.size = 0
  · simp only [h0, if_true] at hcells
    simp only [h0, if_true, Sem.run_bind, Sem.run_pure, Result.andThen_ok, hcells, k1, newRow, run_newObj]
  · simp only [h0, if_false] at hcells
    simp only [h0, if_false, Sem.run_bind, Sem.run_pure, Result.andThen_ok, r_zeroValue w hse, hcells, k1, newRow, run_newObj]

theorem call_wp {P : Program} {call : CallT} (CS : CallSound P call) {tm : T SV} {h : HS} {c : Call} {K E : SV → HS → Bool} (hk : callV P call tm h c K E) {ρ : Nat → Loc} {sz : Nat} {a : Act} {w : World} (A : ARel dfs ρ tm sz h.nx a) (H : HRel ρ h w)
    (o : Oper) (ho : o.op = .call c) {next : Act → World → Prop} {Q : Exit → Act → World → Prop} (hn : ∀ v w', Post ρ h K v w' → next (a.put o.dst v) w') (hp : ∀ v w', Post ρ h E v w' → Q (.panic (pnc v)) a w') : o.wp P a w next Q := by
  unfold Oper.wp execOp
  rw [ho]
  unfold callV at hk
  split at hk
  · rename_i f hc
    split at hk
    · rename_i fv hfv
      split at hk
      · rename_i f' caps xs hfn hxs
        obtain ⟨h1, h2⟩ := opd_den A hfv
        obtain ⟨h3, h4⟩ := asFn_den hfn ρ h2
        obtain ⟨h5, h6⟩ := opds_den A _ _ hxs
        have hgo := CS f' (xs ++ caps) h K E hk ρ w H (fun y hy => by
          rcases List.mem_append.1 hy with hy | hy
          · exact h6 y hy
          · exact h4 y hy)
        have hargs : c.args.map a.eval = (xs.map (SV.den ρ)).toArray := by
          apply Array.toList_inj.1
          rw [Array.toList_map, h5]
        have hrun : (do let d ← resolve a.eval c o.type; invoke d.target d.args : Sem Next).run P w = (callFunc f' ((xs ++ caps).map (SV.den ρ)).toArray).run P w := by
          simp only [resolve, hc, hargs, h1, h3, Deferred.ofValue, Sem.run_bind, Sem.run_pure, Result.andThen_ok, invoke]
          simp
        dsimp only
        rw [hrun]
        rcases hgo with ⟨fn, hf, ⟨hname, hbody⟩, hcalls⟩ | ⟨v, w', hval, hq⟩
        · have henter : (callFunc f' ((xs ++ caps).map (SV.den ρ)).toArray).run P w = .ok (.enter f' ((xs ++ caps).map (SV.den ρ)).toArray) w := by
            simp only [callFunc, Sem.run_bind, Result.andThen_ok, run_program, hf, hname, hbody, Bool.false_eq_true, if_false, Sem.run_pure]
          rw [henter, Oper.upon_enter]
          exact hcalls.mono fun e w' hor => by
            rcases hor with ⟨v, he, hq⟩ | ⟨v, he, hq⟩
            · subst he; exact hn v w' hq
            · subst he; exact hp v w' hq
        · rw [hval, Oper.upon_value]
          exact hn v w' hq
      · exact absurd hk Bool.false_ne_true
    · exact absurd hk Bool.false_ne_true
  · rename_i hc
    split at hk
    · rename_i s x hxs
      cases hop : h.M.X.op with
      | true =>
        rw [hop] at hk
        simp only [cond_true] at hk
        obtain ⟨h5, h6⟩ := opds_den A _ _ hxs
        have hargs : c.args.map a.eval = #[s.den ρ, x.den ρ] := by
          apply Array.toList_inj.1
          rw [Array.toList_map, h5]; rfl
        obtain ⟨v, w', k1, k2⟩ := appendA_run hk H o.type
        have : c.argTypes.toList.toArray = c.argTypes := rfl
        rw [this] at k1
        have hrun : (do let d ← resolve a.eval c o.type; invoke d.target d.args : Sem Next).run P w = .ok (.value v) w' := by
          simp only [resolve, hc, hargs, Sem.run_bind, Sem.run_pure, Result.andThen_ok, invoke, builtin, k1]
        dsimp only
        rw [hrun, Oper.upon_value]
        exact hn v w' k2
      | false =>
      rw [hop] at hk
      simp only [cond_false] at hk
      split at hk
      · rename_i l n hl hn'
        cases hb : Nat.ble (l + n) 9223372036854775807 with
        | false => rw [hb] at hk; exact absurd hk Bool.false_ne_true
        | true =>
          rw [hb] at hk
          simp only [cond_true] at hk
          obtain ⟨h5, h6⟩ := opds_den A _ _ hxs
          have hargs : c.args.map a.eval = #[s.den ρ, x.den ρ] := by
            apply Array.toList_inj.1
            rw [Array.toList_map, h5]; rfl
          obtain ⟨v, w', k1, k2⟩ := appendV_run hk (fun l' n' h1 h2 => by rw [hl] at h1; rw [hn'] at h2; injection h1 with h1; injection h2 with h2; subst h1; subst h2; exact Nat.le_of_ble_eq_true hb) H (h6 s (by simp)) o.type
          have : c.argTypes.toList.toArray = c.argTypes := rfl
          rw [this] at k1
          have hrun : (do let d ← resolve a.eval c o.type; invoke d.target d.args : Sem Next).run P w = .ok (.value v) w' := by
            simp only [resolve, hc, hargs, Sem.run_bind, Sem.run_pure, Result.andThen_ok, invoke, builtin, k1]
          dsimp only
          rw [hrun, Oper.upon_value]
          exact hn v w' k2
      · exact absurd hk Bool.false_ne_true
    · exact absurd hk Bool.false_ne_true
  · rename_i hc
    split at hk
    · rename_i d x hxs
      obtain ⟨h5, h6⟩ := opds_den A _ _ hxs
      have hargs : c.args.map a.eval = #[d.den ρ, x.den ρ] := by
        apply Array.toList_inj.1
        rw [Array.toList_map, h5]; rfl
      obtain ⟨v, w', k1, k2⟩ := copyV_run hk H o.type
      have : c.argTypes.toList.toArray = c.argTypes := rfl
      rw [this] at k1
      have hrun : (do let d ← resolve a.eval c o.type; invoke d.target d.args : Sem Next).run P w = .ok (.value v) w' := by
        simp only [resolve, hc, hargs, Sem.run_bind, Sem.run_pure, Result.andThen_ok, invoke, builtin, k1]
      dsimp only
      rw [hrun, Oper.upon_value]
      exact hn v w' k2
    · exact absurd hk Bool.false_ne_true
  · rename_i hc
    split at hk
    · rename_i m k hxs
      obtain ⟨h5, h6⟩ := opds_den A _ _ hxs
      have hargs : c.args.map a.eval = #[m.den ρ, k.den ρ] := by
        apply Array.toList_inj.1
        rw [Array.toList_map, h5]; rfl
      obtain ⟨v, w', k1, k2⟩ := delV_run hk H o.type
      have : c.argTypes.toList.toArray = c.argTypes := rfl
      rw [this] at k1
      have hrun : (do let d ← resolve a.eval c o.type; invoke d.target d.args : Sem Next).run P w = .ok (.value v) w' := by
        simp only [resolve, hc, hargs, Sem.run_bind, Sem.run_pure, Result.andThen_ok, invoke, builtin, k1]
      dsimp only
      rw [hrun, Oper.upon_value]
      exact hn v w' k2
    · exact absurd hk Bool.false_ne_true
  · rename_i hc
    split at hk
    · rename_i pt it p n hts hxs
      obtain ⟨h5, h6⟩ := opds_den A _ _ hxs
      have hargs : c.args.map a.eval = #[p.den ρ, n.den ρ] := by
        apply Array.toList_inj.1
        rw [Array.toList_map, h5]; rfl
      have hts : c.argTypes = #[pt, it] := Array.toList_inj.1 hts
      obtain ⟨v, w', k1, k2⟩ := usV_run (it := it) (u := o.type) hk H
      have hrun : (do let d ← resolve a.eval c o.type; invoke d.target d.args : Sem Next).run P w = .ok (.value v) w' := by
        simp only [resolve, hc, hargs, hts, Sem.run_bind, Sem.run_pure, Result.andThen_ok, invoke, builtin, k1]
      dsimp only
      rw [hrun, Oper.upon_value]
      exact hn v w' k2
    · exact absurd hk Bool.false_ne_true
  · exact absurd hk Bool.false_ne_true

theorem effV_wp {P : Program} {call : CallT} (CS : CallSound P call) {tm : T SV} {h : HS} {op : Op} {K E : SV → HS → Bool} (hk : effV P call tm h op K E) {ρ : Nat → Loc} {sz : Nat} {a : Act} {w : World} (A : ARel dfs ρ tm sz h.nx a) (H : HRel ρ h w)
    (o : Oper) (ho : o.op = op) {next : Act → World → Prop} {Q : Exit → Act → World → Prop} (hn : ∀ v w', Post ρ h K v w' → next (a.put o.dst v) w') (hp : ∀ v w', Post ρ h E v w' → Q (.panic (pnc v)) a w') : o.wp P a w next Q := by
  have val : ∀ {s : Sem Value} {v : Value} {w' : World}, s.run P w = .ok v w' → (do pure (.value (← s)) : Sem Next).run P w = .ok (.value v) w' := fun h => by
    simp only [Sem.run_bind, h, Result.andThen_ok, Sem.run_pure]
  have skp : ∀ {s : Sem Unit} {w' : World}, s.run P w = .ok () w' → (do s; pure .skip : Sem Next).run P w = .ok .skip w' := fun h => by
    simp only [Sem.run_bind, h, Result.andThen_ok, Sem.run_pure]
  unfold effV at hk
  split at hk
  · obtain ⟨v, w', k1, k2⟩ := allocV_run hk H
    unfold Oper.wp execOp; rw [ho]; dsimp only
    rw [val k1, Oper.upon_value]; exact hn v w' k2
  · rename_i t0 x0
    split at hk
    · rename_i x hx
      obtain ⟨h1, h2⟩ := opd_den A hx
      obtain ⟨v, w', k1, k2⟩ := boxV_run (P := P) (t := t0) hk H h2
      unfold Oper.wp execOp; rw [ho]; dsimp only
      rw [h1, val k1, Oper.upon_value]; exact hn v w' k2
    · exact absurd hk Bool.false_ne_true
  · split at hk
    · rename_i x v hx hv
      obtain ⟨h1, _⟩ := opd_den A hx
      obtain ⟨h2, h3⟩ := opd_den A hv
      obtain ⟨w', k1, k2⟩ := storeV_run hk H h3
      unfold Oper.wp execOp; rw [ho]; dsimp only
      rw [h1, h2, skp k1, Oper.upon_skip]; exact hn _ w' k2
    · exact absurd hk Bool.false_ne_true
  · split at hk
    · rename_i l c hl hc
      obtain ⟨h1, _⟩ := opd_den A hl
      obtain ⟨h2, _⟩ := opd_den A hc
      obtain ⟨v, w', k1, k2⟩ := makeV_run hk H
      unfold Oper.wp execOp; rw [ho]; dsimp only
      rw [h1, h2, val k1, Oper.upon_value]; exact hn v w' k2
    · exact absurd hk Bool.false_ne_true
  · rename_i t
    cases hop : h.M.X.op with
    | true =>
      rw [hop] at hk
      obtain ⟨v, w', k1, k2⟩ := mapA_run (P := P) (t := t) hk H
      unfold Oper.wp execOp; rw [ho]; dsimp only
      rw [Option.map_none, val k1, Oper.upon_value]; exact hn v w' k2
    | false =>
    rw [hop] at hk
    simp only [cond_false] at hk
    have k1 : (Instr.makeMap t none).run P w = .ok (.map (some w.heap.size)) { w with heap := w.heap.push (.map #[] 0) } := by simp [Instr.makeMap]
    unfold Oper.wp execOp; rw [ho]; dsimp only
    rw [Option.map_none, val k1, Oper.upon_value]
    refine hn _ _ ⟨_, _, extend ρ h.nx ⟨w.heap.size, 0, 0⟩, hk, by simp [SV.den, extend_same], Nat.lt_succ_self _, ?_, extend_ext _ _ _, Nat.le_succ _, Mem.le_refl _⟩
    exact H.alloc (o := .map #[] 0) (B := .map [] 0) (L := ⟨w.heap.size, 0, 0⟩) rfl (fun e he => by cases he) fun w' hw' => hw'
  · rename_i t len parts
    split at hk
    · rename_i xs hxs
      split at hk
      · rename_i s hs
        split at hk
        · rename_i e hd
          split at hk
          · rename_i se hse
            cases hb : Nat.ble (len * se.size) 16777216 && Nat.beq se.zero.cells.size se.size with
            | false => rw [hb] at hk; exact absurd hk Bool.false_ne_true
            | true =>
              rw [hb] at hk
              simp only [Bool.and_eq_true] at hb
              simp only [cond_true] at hk
              split at hk
              · rename_i cs hf
                have hz := Nat.eq_of_beq_eq_true hb.2
                obtain ⟨h1, h2⟩ := opds_den A _ _ hxs
                have hp : (parts.map fun (i, x) => (i, a.eval x)) = (((parts.toList.map (·.1)).zip xs).map fun (i, x) => (i, x.den ρ)).toArray := by
                  apply Array.toList_inj.1
                  rw [Array.toList_map]
                  show _ = ((parts.toList.map (·.1)).zip xs).map fun (i, x) => (i, x.den ρ)
                  have : (((parts.toList.map (·.1)).zip xs).map fun (i, x) => (i, SV.den ρ x)) = (parts.toList.map (·.1)).zip (xs.map (SV.den ρ)) := by
                    rw [List.zip_map_right]; rfl
                  rw [this, ← h1, List.map_map, List.zip_map']
                  rfl
                have k1 := buildSlice_run hs hd hse (Nat.le_of_ble_eq_true hb.1) hz hf ρ w
                have hlt : ∀ y ∈ cs, y.lt ρ h.nx := (fill_den (ρ := ρ) (n := h.nx) _ _ cs hf).2 (repCells_lt _ _) (fun p hp => h2 p.2 (List.of_mem_zip hp).2)
                unfold Oper.wp execOp; rw [ho]; dsimp only
                rw [hp, val k1, Oper.upon_value]
                have old : K (.slc h.nx 0 len (.lit len)) (h.new (.cells cs 0 (e + 1))) = true → next (a.put o.dst (.slice (some ⟨w.heap.size, 0, none⟩) len len)) { w with heap := w.heap.push (.cells (cs.map (SV.den ρ)).toArray e) } := fun hk =>
                  hn _ _ ⟨_, _, extend ρ h.nx ⟨w.heap.size, 0, 0⟩, hk, by simp [SV.den, extend_same, SCap.den], ⟨Nat.lt_succ_self _, trivial, Nat.le_refl _⟩, new_cells H hlt _ rfl e, extend_ext _ _ _, Nat.le_succ _, Mem.le_refl _⟩
                unfold buildA at hk
                cases hop : h.M.X.op with
                | false => rw [hop] at hk; exact old hk
                | true =>
                  rw [hop] at hk
                  simp only [cond_true] at hk
                  split at hk
                  · rename_i vs hvs
                    obtain ⟨A', k2, k3⟩ := arena_new H vs.toArray e w.drawn
                    rw [plains_den ρ cs vs hvs]
                    exact hn _ _ ⟨_, _, ρ, (h.M.X.hD _).1 hk _ A' k2, rfl, trivial, k3, Ext.refl _ _, Nat.le_refl _, Mem.put_le _ _⟩
                  · exact old hk
              · exact absurd hk Bool.false_ne_true
          · exact absurd hk Bool.false_ne_true
        · exact absurd hk Bool.false_ne_true
      · exact absurd hk Bool.false_ne_true
    · exact absurd hk Bool.false_ne_true
  · split at hk
    · rename_i m k v hm hkk hv
      obtain ⟨h1, _⟩ := opd_den A hm
      obtain ⟨h2, h3⟩ := opd_den A hkk
      obtain ⟨h4, h5⟩ := opd_den A hv
      obtain ⟨w', k1, k2⟩ := putV_run hk H h3 h5
      unfold Oper.wp execOp; rw [ho]; dsimp only
      rw [h1, h2, h4, skp k1, Oper.upon_skip]; exact hn _ w' k2
    · exact absurd hk Bool.false_ne_true
  · split at hk
    · rename_i m k v hm hkk hv
      obtain ⟨h1, _⟩ := opd_den A hm
      obtain ⟨h2, h3⟩ := opd_den A hkk
      obtain ⟨h4, h5⟩ := opd_den A hv
      obtain ⟨w', k1, k2⟩ := putV_run hk H h3 h5
      unfold Oper.wp execOp; rw [ho]; dsimp only
      rw [h1, h2, h4, skp k1, Oper.upon_skip]; exact hn _ w' k2
    · exact absurd hk Bool.false_ne_true
  · split at hk
    · rename_i x hx
      obtain ⟨h1, _⟩ := opd_den A hx
      obtain ⟨v, w', k1, k2⟩ := rangeV_run hk H
      unfold Oper.wp execOp; rw [ho]; dsimp only
      rw [h1, val k1, Oper.upon_value]; exact hn v w' k2
    · exact absurd hk Bool.false_ne_true
  · split at hk
    · rename_i x hx
      obtain ⟨h1, _⟩ := opd_den A hx
      obtain ⟨v, w', k1, k2⟩ := nextV_run hk H o.type
      unfold Oper.wp execOp; rw [ho]; dsimp only
      rw [h1, val k1, Oper.upon_value]; exact hn v w' k2
    · exact absurd hk Bool.false_ne_true
  · exact call_wp CS hk A H o ho hn hp
  · split at hk
    · rename_i x hx
      obtain ⟨h1, h2⟩ := opd_den A hx
      obtain ⟨v, w', k1, k2⟩ := convE_run hk H h2
      unfold Oper.wp execOp; rw [ho]; dsimp only
      rw [h1, val k1, Oper.upon_value]; exact hn v w' k2
    · exact absurd hk Bool.false_ne_true
  · split at hk
    · rename_i x hx
      obtain ⟨h1, h2⟩ := opd_den A hx
      cases hi : isIf x with
      | false => rw [hi] at hk; exact absurd hk Bool.false_ne_true
      | true =>
        rw [hi] at hk
        have hk : E x h = true := hk
        obtain ⟨t, v, hd⟩ := isIf_den hi ρ
        unfold Oper.wp execOp; rw [ho]; dsimp only
        have : (do pure (.value (← Instr.panic (x.den ρ))) : Sem Next).run P w = .halt (.panic (x.den ρ)) w := by
          rw [hd]; rfl
        rw [h1, this, Oper.upon_panic]
        exact hp _ w ⟨x, h, ρ, hk, rfl, h2, H, Ext.refl _ _, Nat.le_refl _, Mem.le_refl _⟩
    · exact absurd hk Bool.false_ne_true
  · exact absurd hk Bool.false_ne_true

end
end Go.Sx

namespace Go.Sx
noncomputable section

section
variable {P : Program} {ops : Array Oper} {Q : Exit → Act → World → Prop} {md : Region.Mode}

/-- A fact that must hold of the world till one of some operations has been carried out. -/
structure Held where
  dep : Nat → Bool
  inv : World → Prop

def wpAnyL (P : Program) (md : Region.Mode) (ops : Array Oper) (Q : Exit → Act → World → Prop) : Nat → List Held → Array Bool → Act → World → Prop
  | 0, L, listed, a, w => (∀ p ∈ L, p.inv w) ∧ Region.ready md ops listed = [] ∧ Q .normal a w
  | fuel + 1, L, listed, a, w =>
    (∀ p ∈ L, p.inv w) ∧ (Region.ready md ops listed = [] → Q .normal a w) ∧
    ∀ i ∈ Region.ready md ops listed, wpOp P ops Q i (wpAnyL P md ops Q fuel (L.filter fun p => !p.dep i) (listed.setIfInBounds i true)) a w

theorem wpAnyL_any : ∀ (fuel : Nat) (L : List Held) (listed : Array Bool) (a : Act) (w : World), wpAnyL P md ops Q fuel L listed a w → wpAny P md ops Q fuel listed a w := by
  intro fuel
  induction fuel with
  | zero => intro L listed a w h; exact h.2
  | succ fuel ih => intro L listed a w h; exact ⟨h.2.1, fun i hi => wpOp_mono (fun a w h => ih _ _ a w h) (h.2.2 i hi)⟩

/-- An operation that gives v wherever the fact I holds. -/
def YieldsI (P : Program) (ops : Array Oper) (I : World → Prop) (o : Oper) (v : Value) (a : Act) : Prop :=
  (Region.wanted o (yielded ops a.tmps) = true ∧ ∀ w, I w → (execOp a.eval o).run P w = .ok (.value v) w) ∨
  (Region.wanted o (yielded ops a.tmps) = false ∧ v = undef)

theorem YieldsI.wpOp {I : World → Prop} {i : Nat} {o : Oper} {v : Value} {a : Act} (hi : ops[i]? = some o) (hy : YieldsI P ops I o v a)
    {K : Act → World → Prop} {w : World} (hI : I w) (h : K (a.put o.dst v) w) : wpOp P ops Q i K a w := by
  unfold Go.wpOp
  simp only [hi]
  rcases hy with ⟨hw, hv⟩ | ⟨hw, rfl⟩
  · simp only [hw, if_true, Oper.wp, hv w hI, Oper.upon]; exact .inl h
  · simp only [hw, Bool.false_eq_true, if_false]; exact h

theorem YieldsI.of_same {I : World → Prop} {o : Oper} {v : Value} {a a' : Act} (hy : YieldsI P ops I o v a) (he : execOp a'.eval o = execOp a.eval o)
    (hw : Region.wanted o (yielded ops a'.tmps) = Region.wanted o (yielded ops a.tmps)) : YieldsI P ops I o v a' := by
  unfold YieldsI at *
  rw [he, hw]
  exact hy

theorem wpOp_putI {I : World → Prop} {j : Nat} {oi oj : Oper} {v : Value} (hj : ops[j]? = some oj) (hap : oi.apart ops oj = true)
    (hsi : ∀ cs b, oi.op ≠ .select cs b) (hsj : ∀ cs b, oj.op ≠ .select cs b)
    (hQ : ∀ c a w, Q (.panic c) (a.put oi.dst v) w → Q (.panic c) a w) {K : Act → World → Prop} {a : Act} {w : World}
    (hy : YieldsI P ops I oi v a) (h : wpOp P ops Q j K (a.put oi.dst v) w) :
    wpOp P ops Q j (fun a' w' => YieldsI P ops I oi v a' ∧ K (a'.put oi.dst v) w') a w := by
  obtain ⟨h1, h2, h3⟩ := Oper.apart_spec hap
  have keep : ∀ (a : Act), YieldsI P ops I oi v a → ∀ u, YieldsI P ops I oi v (a.put oj.dst u) := fun a hy u =>
    hy.of_same (execOp_put oi hsi a oj.dst u h3) (wanted_put oi a oj.dst u h3)
  have keepD : ∀ d, YieldsI P ops I oi v { a with defers := d :: a.defers } := fun d => hy.of_same rfl rfl
  unfold wpOp at *
  simp only [hj] at *
  rw [wanted_put oj a oi.dst v h1] at h
  split
  · rename_i hw
    simp only [hw, if_true] at h
    rcases h with h | ⟨hasks, hlets⟩
    case inr => exact .inr ⟨by unfold Oper.asks at *; rw [execOp_put oj hsj a oi.dst v h1] at hasks; exact hasks, hlets⟩
    refine .inl ?_
    unfold Oper.wp at *
    rw [execOp_put oj hsj a oi.dst v h1] at h
    generalize (execOp a.eval oj).run P w = r at *
    cases r with
    | ok n w' =>
      cases n <;> simp only [Oper.upon] at h ⊢
      case value u => exact ⟨keep a hy u, by rw [← Act.put_comm a v u h2]; exact h⟩
      case skip => exact ⟨keep a hy _, by rw [← Act.put_comm a v undef h2]; exact h⟩
      case defer d =>
        refine ⟨keep _ (keepD d) _, ?_⟩
        rw [← Act.put_comm _ v undef h2, ← Act.put_defers]
        exact h
      case enter f args =>
        refine Calls.mono h fun e w'' he => ?_
        cases e with
        | returned u => exact ⟨keep a hy u, by rw [← Act.put_comm a v u h2]; exact he⟩
        | panicked c => exact hQ _ _ _ he
        | outgrown => exact he
      case row row args => exact Rows.mono h fun u w'' he => ⟨keep a hy u, by rw [← Act.put_comm a v u h2]; exact he⟩
    | halt x w' =>
      cases x <;> simp only [Oper.upon] at h ⊢
      case panic u => exact hQ _ _ _ h
  · rename_i hw
    simp only [hw] at h
    exact ⟨keep a hy _, by rw [← Act.put_comm a v undef h2]; exact h⟩

/-- Fewer facts to be held. -/
theorem wpAnyL_drop : ∀ (fuel : Nat) (L L' : List Held) (listed : Array Bool) (a : Act) (w : World), (∀ p ∈ L', p ∈ L) → wpAnyL P md ops Q fuel L listed a w → wpAnyL P md ops Q fuel L' listed a w := by
  intro fuel
  induction fuel with
  | zero => intro L L' listed a w hs h; exact ⟨fun p hp => h.1 p (hs p hp), h.2⟩
  | succ fuel ih =>
    intro L L' listed a w hs h
    refine ⟨fun p hp => h.1 p (hs p hp), h.2.1, fun k hk => wpOp_mono (fun a w h' => ih _ _ _ a w (fun p hp => ?_) h') (h.2.2 k hk)⟩
    rw [List.mem_filter] at hp ⊢
    exact ⟨hs p hp.1, hp.2⟩

/-- What is listed has all that it waits for listed. -/
def Down (md : Region.Mode) (ops : Array Oper) (listed : Array Bool) : Prop :=
  ∀ k ok, ops[k]? = some ok → listed.getD k false = true → ∀ e ∈ ok.after, Region.binds md e = true → listed.getD e.on false = true

theorem Down.step {listed : Array Bool} (h : Down md ops listed) {i : Nat} (hi : i ∈ Region.ready md ops listed) : Down md ops (listed.setIfInBounds i true) := by
  intro k ok hk hl e he hb
  obtain ⟨_, oi, hoi, hall⟩ := mem_ready.1 hi
  by_cases hki : k = i
  · subst hki
    rw [hoi] at hk; injection hk with hk; subst hk
    exact getD_set_true (hall e he hb)
  · rw [getD_set_ne false (Ne.symm hki)] at hl
    exact getD_set_true (h k ok hk hl e he hb)

theorem wpAnyL_first {D : Held} {i : Nat} {oi : Oper} {v : Value} (hi : ops[i]? = some oi) (hsel : ∀ (j : Nat) (o : Oper) cs b, ops[j]? = some o → o.op ≠ .select cs b)
    (hQ : ∀ c a w, Q (.panic c) (a.put oi.dst v) w → Q (.panic c) a w)
    (hdep : ∀ (listed : Array Bool) (j : Nat), Down md ops listed → j ∈ Region.ready md ops listed → listed.getD i true = false → D.dep j = false) :
    ∀ (fuel : Nat) (L : List Held) (listed : Array Bool) (a : Act) (w : World), Down md ops listed →
      (∀ j oj, ops[j]? = some oj → j ≠ i → listed.getD j true = false → (∀ e ∈ oj.after, Region.binds md e = true → e.on ≠ i) → oi.apart ops oj = true) →
      i ∈ Region.ready md ops listed → YieldsI P ops D.inv oi v a →
      wpAnyL P md ops Q fuel (D :: L) (listed.setIfInBounds i true) (a.put oi.dst v) w → wpAnyL P md ops Q (fuel + 1) L listed a w := by
  intro fuel
  have held : ∀ (fuel : Nat) (L : List Held) (listed : Array Bool) (a : Act) (w : World), wpAnyL P md ops Q fuel L listed a w → ∀ p ∈ L, p.inv w := by
    intro fuel; cases fuel <;> exact fun _ _ _ _ h => h.1
  induction fuel with
  | zero =>
    intro L listed a w _ _ hr hy H
    refine ⟨fun p hp => H.1 p (List.mem_cons_of_mem _ hp), fun h => (by rw [h] at hr; cases hr), fun j hj => ?_⟩
    by_cases hji : j = i
    · subst hji
      exact hy.wpOp hi (H.1 D List.mem_cons_self) ⟨fun p hp => H.1 p (List.mem_cons_of_mem _ (List.mem_filter.1 hp).1), H.2⟩
    · have := ready_mono hj hji
      rw [H.2.1] at this
      cases this
  | succ fuel ih =>
    intro L listed a w hdown hfree hr hy H
    refine ⟨fun p hp => H.1 p (List.mem_cons_of_mem _ hp), fun h => (by rw [h] at hr; cases hr), fun j hj => ?_⟩
    by_cases hji : j = i
    · subst hji
      exact hy.wpOp hi (H.1 D List.mem_cons_self) (wpAnyL_drop _ _ _ _ _ _ (fun p hp => List.mem_cons_of_mem _ (List.mem_filter.1 hp).1) H)
    · have h1 := H.2.2 j (ready_mono hj hji)
      obtain ⟨hjun, oj, hoj, hall⟩ := mem_ready.1 hj
      have hiun := (mem_ready.1 hr).1
      have hnot : ∀ e ∈ oj.after, Region.binds md e = true → e.on ≠ i := fun e he hb heq => by
        have h1 := hall e he hb
        have h0 := hiun
        rw [heq] at h1
        rcases Nat.lt_or_ge i listed.size with h' | h'
        · simp [h'] at h0 h1; rw [h0] at h1; cases h1
        · simp [Array.getElem?_eq_none h'] at h1
      have hap := hfree j oj hoj hji hjun hnot
      have hd := hdep listed j hdown hj hiun
      have h2 := wpOp_putI hoj hap (fun cs b => hsel i oi cs b hi) (fun cs b => hsel j oj cs b hoj) hQ hy h1
      have hfree' : ∀ k ok, ops[k]? = some ok → k ≠ i → (listed.setIfInBounds j true).getD k true = false →
          (∀ e ∈ ok.after, Region.binds md e = true → e.on ≠ i) → oi.apart ops ok = true := fun k ok hk hki hun hno => by
        refine hfree k ok hk hki ?_ hno
        by_cases hjk : j = k
        · subst hjk; exact hjun
        · rw [getD_set_ne true hjk] at hun; exact hun
      refine wpOp_mono (fun a' w' h3 => ?_) h2
      have h4 := h3.2
      rw [List.filter_cons_of_pos (by simp [hd]), Array.setIfInBounds_comm _ _ (Ne.symm hji)] at h4
      exact ih (L.filter fun p => !p.dep j) (listed.setIfInBounds j true) a' w' (hdown.step hj) hfree' (ready_mono hr (Ne.symm hji)) h3.1 h4

/-! ### Which operations come behind which -/

def edgeBits (md : Region.Mode) (acc : List Nat) : List Edge → Nat
  | [] => 0
  | e :: es => bif Region.binds md e then (1 <<< e.on) ||| (acc.getD e.on 0 ||| edgeBits md acc es) else edgeBits md acc es

def closF (md : Region.Mode) : List Oper → List Nat → List Nat
  | [], acc => acc
  | o :: os, acc => closF md os (acc ++ [edgeBits md acc o.after.toList])

def clos (md : Region.Mode) (ops : Array Oper) : List Nat := closF md ops.toList []

theorem edgeBits_spec {acc : List Nat} {i : Nat} : ∀ (es : List Edge), (edgeBits md acc es).testBit i = true → ∃ e ∈ es, Region.binds md e = true ∧ (i = e.on ∨ (acc.getD e.on 0).testBit i = true) := by
  intro es
  induction es with
  | nil => intro h; simp [edgeBits] at h
  | cons e es ih =>
    intro h
    simp only [edgeBits] at h
    cases hb : Region.binds md e with
    | false =>
      rw [hb] at h
      obtain ⟨e', he', h'⟩ := ih h
      exact ⟨e', List.mem_cons_of_mem _ he', h'⟩
    | true =>
      rw [hb] at h
      simp only [cond_true, Nat.testBit_or, Bool.or_eq_true] at h
      rcases h with h | h | h
      · refine ⟨e, List.mem_cons_self, hb, .inl ?_⟩
        rw [Nat.one_shiftLeft, Nat.testBit_two_pow] at h
        simpa using (of_decide_eq_true h).symm
      · exact ⟨e, List.mem_cons_self, hb, .inr h⟩
      · obtain ⟨e', he', h'⟩ := ih h
        exact ⟨e', List.mem_cons_of_mem _ he', h'⟩

theorem closF_prefix : ∀ (os : List Oper) (acc : List Nat) (k : Nat), k < acc.length → (closF md os acc)[k]? = acc[k]? := by
  intro os
  induction os with
  | nil => intro acc k _; rfl
  | cons o os ih =>
    intro acc k hk
    rw [closF, ih _ _ (by simp; omega), List.getElem?_append_left hk]

theorem closF_at : ∀ (os : List Oper) (acc : List Nat) (m : Nat) (o : Oper), os[m]? = some o →
    ∃ acc', (closF md os acc)[acc.length + m]? = some (edgeBits md acc' o.after.toList) ∧ acc'.length = acc.length + m ∧ ∀ k, k < acc'.length → (closF md os acc)[k]? = acc'[k]? := by
  intro os
  induction os with
  | nil => intro acc m o h; simp at h
  | cons o' os ih =>
    intro acc m o h
    cases m with
    | zero =>
      simp only [List.getElem?_cons_zero, Option.some.injEq] at h
      subst h
      refine ⟨acc, ?_, by simp, fun k hk => closF_prefix _ _ _ hk⟩
      rw [closF, closF_prefix _ _ _ (by simp)]
      simp
    | succ m =>
      simp only [List.getElem?_cons_succ] at h
      obtain ⟨acc', h1, h2, h3⟩ := ih (acc ++ [edgeBits md acc o'.after.toList]) m o h
      refine ⟨acc', ?_, ?_, h3⟩
      · rw [closF]
        simp only [List.length_append, List.length_cons, List.length_nil] at h1
        rw [show acc.length + (m + 1) = acc.length + (0 + 1) + m by omega]; exact h1
      · simp only [List.length_append, List.length_cons, List.length_nil] at h2
        omega

/-- Nothing that is listed, or ready, comes behind what is not listed. -/
theorem clos_listed {listed : Array Bool} (hd : Down md ops listed) {i : Nat} (hi : listed.getD i true = false) : ∀ (n k : Nat) (ok : Oper), k < n → ops[k]? = some ok →
    (∀ e ∈ ok.after, Region.binds md e = true → listed.getD e.on false = true) → ((clos md ops).getD k 0).testBit i = false := by
  intro n
  induction n with
  | zero => intro k ok hk; exact absurd hk (Nat.not_lt_zero _)
  | succ n ih =>
    intro k ok hk hok hall
    cases hb : ((clos md ops).getD k 0).testBit i with
    | false => rfl
    | true =>
      exfalso
      obtain ⟨acc', h1, h2, h3⟩ := closF_at (md := md) ops.toList [] k ok (by simpa using hok)
      simp only [List.length_nil, Nat.zero_add] at h1 h2
      have hk0 : (clos md ops).getD k 0 = edgeBits md acc' ok.after.toList := by
        rw [List.getD_eq_getElem?_getD]; unfold clos; rw [h1]; rfl
      rw [hk0] at hb
      obtain ⟨e, he, hbind, hor⟩ := edgeBits_spec _ hb
      have hel := hall e (by simpa using he) hbind
      rcases hor with rfl | hbit
      · rcases Nat.lt_or_ge e.on listed.size with h' | h'
        · simp [h'] at hi hel; rw [hi] at hel; cases hel
        · simp [Array.getElem?_eq_none h'] at hel
      · have hlt : e.on < k := by
          rcases Nat.lt_or_ge e.on k with h' | h'
          · exact h'
          · rw [List.getD_eq_getElem?_getD, List.getElem?_eq_none (by omega)] at hbit
            simp at hbit
        have hsame : acc'.getD e.on 0 = (clos md ops).getD e.on 0 := by
          rw [List.getD_eq_getElem?_getD, List.getD_eq_getElem?_getD, ← h3 e.on (by omega)]; rfl
        rw [hsame] at hbit
        have hop : e.on < ops.size := Nat.lt_trans hlt (Array.getElem?_eq_some_iff.1 hok).1
        have := ih e.on ops[e.on] (by omega) (Array.getElem?_eq_getElem hop) (fun e' he' hb' => hd e.on _ (Array.getElem?_eq_getElem hop) hel e' he' hb')
        rw [this] at hbit; cases hbit

theorem clos_ready {listed : Array Bool} (hd : Down md ops listed) {i j : Nat} (hi : listed.getD i true = false) (hj : j ∈ Region.ready md ops listed) : ((clos md ops).getD j 0).testBit i = false := by
  obtain ⟨_, oj, hoj, hall⟩ := mem_ready.1 hj
  exact clos_listed hd hi (j + 1) j oj (Nat.lt_succ_self _) hoj hall

end
end
end Go.Sx

namespace Go.Sx
noncomputable section
variable {dfs : List Deferred}

/-! ### Are two values spelled alike? -/

def cEq : SCap → SCap → Bool
  | .lit a, .lit b => decide (a = b)
  | .sub a d, .sub b e => decide (a = b) && decide (d = e)
  | _, _ => false

mutual
def svEq : SV → SV → Bool
  | .v (.int k a), .v (.int k' b) => kEq k k' && decide (a = b)
  | .v (.bool a), .v (.bool b) => decide (a = b)
  | .v (.string a), .v (.string b) => decide (a.data.toList = b.data.toList)
  | .v (.pointer a), .v (.pointer b) => decide (a = b)
  | .v (.slice a l c), .v (.slice b m d) => decide (a = b) && decide (l = m) && decide (c = d)
  | .v (.map a), .v (.map b) => decide (a = b)
  | .v .nilFunc, .v .nilFunc => true
  | .v .nilIface, .v .nilIface => true
  | .str l, .str m => decide (l = m)
  | .ptr b o, .ptr b' o' => decide (b = b') && decide (o = o')
  | .slc b o l c, .slc b' o' l' c' => decide (b = b') && decide (o = o') && decide (l = l') && cEq c c'
  | .mp b, .mp b' => decide (b = b')
  | .agg xs, .agg ys => svEqs xs ys
  | .tup xs, .tup ys => svEqs xs ys
  | .ifc t x, .ifc u y => decide (t = u) && svEq x y
  | .fn f xs, .fn g ys => decide (f = g) && svEqs xs ys
  | _, _ => false
def svEqs : List SV → List SV → Bool
  | [], [] => true
  | x :: xs, y :: ys => svEq x y && svEqs xs ys
  | _, _ => false
end

theorem cEq_eq {a b : SCap} (h : cEq a b = true) : a = b := by
  cases a <;> cases b <;> simp [cEq] at h
  · rw [h]
  · rw [h.1, h.2]

mutual
theorem svEq_eq : ∀ (x y : SV), svEq x y = true → x = y
  | .v x, .v y, h => by
    cases x <;> cases y <;> simp [svEq, kEq_iff] at h <;> first
      | rfl
      | (rw [h]; done)
      | (rw [h.1, h.2]; done)
      | (obtain ⟨⟨h1, h2⟩, h3⟩ := h; rw [h1, h2, h3]; done)
      | (congr 2; exact ByteArray.ext (Array.toList_inj.1 h))
      | (congr 2; exact ByteArray.ext h)
  | .str _, .str _, h => by simp only [svEq, decide_eq_true_eq] at h; rw [h]
  | .ptr _ _, .ptr _ _, h => by simp only [svEq, Bool.and_eq_true, decide_eq_true_eq] at h; rw [h.1, h.2]
  | .slc _ _ _ _, .slc _ _ _ _, h => by
    simp only [svEq, Bool.and_eq_true, decide_eq_true_eq] at h
    obtain ⟨⟨⟨h1, h2⟩, h3⟩, h4⟩ := h
    rw [h1, h2, h3, cEq_eq h4]
  | .mp _, .mp _, h => by simp only [svEq, decide_eq_true_eq] at h; rw [h]
  | .agg xs, .agg ys, h => by simp only [svEq] at h; rw [svEqs_eq xs ys h]
  | .tup xs, .tup ys, h => by simp only [svEq] at h; rw [svEqs_eq xs ys h]
  | .ifc _ x, .ifc _ y, h => by simp only [svEq, Bool.and_eq_true, decide_eq_true_eq] at h; rw [h.1, svEq_eq x y h.2]
  | .fn _ xs, .fn _ ys, h => by simp only [svEq, Bool.and_eq_true, decide_eq_true_eq] at h; rw [h.1, svEqs_eq xs ys h.2]
  | .v _, .str _, h | .v _, .ptr _ _, h | .v _, .slc _ _ _ _, h | .v _, .mp _, h | .v _, .agg _, h | .v _, .tup _, h | .v _, .ifc _ _, h | .v _, .fn _ _, h => by simp [svEq] at h
  | .str _, .v _, h | .str _, .ptr _ _, h | .str _, .slc _ _ _ _, h | .str _, .mp _, h | .str _, .agg _, h | .str _, .tup _, h | .str _, .ifc _ _, h | .str _, .fn _ _, h => by simp [svEq] at h
  | .ptr _ _, .v _, h | .ptr _ _, .str _, h | .ptr _ _, .slc _ _ _ _, h | .ptr _ _, .mp _, h | .ptr _ _, .agg _, h | .ptr _ _, .tup _, h | .ptr _ _, .ifc _ _, h | .ptr _ _, .fn _ _, h => by simp [svEq] at h
  | .slc _ _ _ _, .v _, h | .slc _ _ _ _, .str _, h | .slc _ _ _ _, .ptr _ _, h | .slc _ _ _ _, .mp _, h | .slc _ _ _ _, .agg _, h | .slc _ _ _ _, .tup _, h | .slc _ _ _ _, .ifc _ _, h | .slc _ _ _ _, .fn _ _, h => by simp [svEq] at h
  | .mp _, .v _, h | .mp _, .str _, h | .mp _, .ptr _ _, h | .mp _, .slc _ _ _ _, h | .mp _, .agg _, h | .mp _, .tup _, h | .mp _, .ifc _ _, h | .mp _, .fn _ _, h => by simp [svEq] at h
  | .agg _, .v _, h | .agg _, .str _, h | .agg _, .ptr _ _, h | .agg _, .slc _ _ _ _, h | .agg _, .mp _, h | .agg _, .tup _, h | .agg _, .ifc _ _, h | .agg _, .fn _ _, h => by simp [svEq] at h
  | .tup _, .v _, h | .tup _, .str _, h | .tup _, .ptr _ _, h | .tup _, .slc _ _ _ _, h | .tup _, .mp _, h | .tup _, .agg _, h | .tup _, .ifc _ _, h | .tup _, .fn _ _, h => by simp [svEq] at h
  | .ifc _ _, .v _, h | .ifc _ _, .str _, h | .ifc _ _, .ptr _ _, h | .ifc _ _, .slc _ _ _ _, h | .ifc _ _, .mp _, h | .ifc _ _, .agg _, h | .ifc _ _, .tup _, h | .ifc _ _, .fn _ _, h => by simp [svEq] at h
  | .fn _ _, .v _, h | .fn _ _, .str _, h | .fn _ _, .ptr _ _, h | .fn _ _, .slc _ _ _ _, h | .fn _ _, .mp _, h | .fn _ _, .agg _, h | .fn _ _, .tup _, h | .fn _ _, .ifc _ _, h => by simp [svEq] at h
theorem svEqs_eq : ∀ (l m : List SV), svEqs l m = true → l = m
  | [], [], _ => rfl
  | x :: xs, y :: ys, h => by simp only [svEqs, Bool.and_eq_true] at h; rw [svEq_eq x y h.1, svEqs_eq xs ys h.2]
  | [], _ :: _, h => by simp [svEqs] at h
  | _ :: _, [], h => by simp [svEqs] at h
end

/-! ### Slots and guards -/

def natK (n : Nat) (k : Nat → Bool) : Bool := Nat.rec (motive := fun _ => Bool) (k 0) (fun m _ => k (Nat.succ m)) n
theorem natK_eq (n : Nat) (k : Nat → Bool) : natK n k = k n := by cases n <;> rfl

def shutC (c : SCap) (k : SCap → Bool) : Bool := match c with
  | .lit c => natK c fun c => k (.lit c)
  | .sub b d => natK b fun b => natK d fun d => k (.sub b d)

/-- A value whose numbers are laid out. -/
def shutV (x : SV) (k : SV → Bool) : Bool := match x with
  | .ptr b o => natK b fun b => natK o fun o => k (.ptr b o)
  | .slc b o l c => natK b fun b => natK o fun o => natK l fun l => shutC c fun c => k (.slc b o l c)
  | .mp b => natK b fun b => k (.mp b)
  | x => k x

theorem shutV_eq (x : SV) (k : SV → Bool) : shutV x k = k x := by
  cases x with
  | ptr b o => simp only [shutV, natK_eq]
  | slc b o l c => cases c <;> simp only [shutV, shutC, natK_eq]
  | mp b => simp only [shutV, natK_eq]
  | _ => rfl

def shutH (h : HS) (k : HS → Bool) : Bool := match h with
  | ⟨H, nx, M⟩ => natK nx fun nx => k ⟨H, nx, M⟩

theorem shutH_eq (h : HS) (k : HS → Bool) : shutH h k = k h := by
  cases h; simp only [shutH, natK_eq]

def setDst (sz : Nat) (dst : Option Tmp) (v : SV) (F : T SV → Bool) (tm : T SV) : Bool :=
  match dst with
  | none => F tm
  | some d => bif Nat.blt d sz then shutV v (fun v => F (tm.set d v)) else false

theorem setDst_rel {sz : Nat} {dst : Option Tmp} {v : SV} {F : T SV → Bool} {tm : T SV} (h : setDst sz dst v F tm) {ρ : Nat → Loc} {nx : Nat} {a : Act} (A : ARel dfs ρ tm sz nx a) (hv : v.lt ρ nx) :
    ∃ tm', F tm' ∧ ARel dfs ρ tm' sz nx (a.put dst (v.den ρ)) := by
  unfold setDst at h
  split at h
  · exact ⟨tm, h, A⟩
  · rename_i d
    cases hb : Nat.blt d sz with
    | false => rw [hb] at h; exact absurd h Bool.false_ne_true
    | true => rw [hb] at h; rw [cond_true, shutV_eq] at h; exact ⟨_, h, A.put hv (Nat.le_of_ble_eq_true hb)⟩

def svUndef : SV := .v (.tuple #[])

/-- What is left of a state: K holds of it, and it goes on from where one was. -/
def Goes (dfs : List Deferred) (ρ : Nat → Loc) (h : HS) (sz : Nat) (K : T SV → HS → Bool) (a' : Act) (w' : World) : Prop :=
  ∃ tm' h' ρ', K tm' h' ∧ ARel dfs ρ' tm' sz h'.nx a' ∧ HRel ρ' h' w' ∧ Ext ρ ρ' h.nx ∧ h.nx ≤ h'.nx ∧ h.M.le h'.M

theorem Goes.trans {ρ ρ' : Nat → Loc} {h h' : HS} {sz : Nat} {K : T SV → HS → Bool} {a : Act} {w : World} (g : Goes dfs ρ' h' sz K a w) (hx : Ext ρ ρ' h.nx) (hn : h.nx ≤ h'.nx) (hm : h.M.le h'.M) : Goes dfs ρ h sz K a w := by
  obtain ⟨tm2, h2, ρ2, k, A, H, x, n, m⟩ := g
  exact ⟨tm2, h2, ρ2, k, A, H, hx.trans x hn, Nat.le_trans hn n, Mem.le_trans hm m⟩

/-! ### Operations in whatever order -/

/-- What is left of a state where something panics. -/
def GoesE (dfs : List Deferred) (ρ : Nat → Loc) (h : HS) (sz : Nat) (E : SV → T SV → HS → Bool) (c : List PanicEntry) (a' : Act) (w' : World) : Prop :=
  ∃ x tm' h' ρ', c = pnc (x.den ρ') ∧ x.lt ρ' h'.nx ∧ E x tm' h' ∧ ARel dfs ρ' tm' sz h'.nx a' ∧ HRel ρ' h' w' ∧ Ext ρ ρ' h.nx ∧ h.nx ≤ h'.nx ∧ h.M.le h'.M

theorem GoesE.trans {ρ ρ' : Nat → Loc} {h h' : HS} {sz : Nat} {E : SV → T SV → HS → Bool} {c : List PanicEntry} {a : Act} {w : World} (g : GoesE dfs ρ' h' sz E c a w) (hx : Ext ρ ρ' h.nx) (hn : h.nx ≤ h'.nx) (hm : h.M.le h'.M) : GoesE dfs ρ h sz E c a w := by
  obtain ⟨x, tm2, h2, ρ2, e, l, k, A, H, x', n, m⟩ := g
  exact ⟨x, tm2, h2, ρ2, e, l, k, A, H, hx.trans x' hn, Nat.le_trans hn n, Mem.le_trans hm m⟩

structure PendS where
  i : Nat
  o : Oper
  v : SV

def recheck (P : Program) (tm : T SV) (h : HS) : List PendS → Bool → Bool
  | [], X => X
  | p :: L, X => match readV P tm h p.o.op with
    | some v => bif svEq v p.v then recheck P tm h L X else false
    | none => false

theorem recheck_spec {P : Program} {tm : T SV} {h : HS} : ∀ {L : List PendS} {X : Bool}, recheck P tm h L X = true → X ∧ ∀ p ∈ L, readV P tm h p.o.op = some p.v := by
  intro L
  induction L with
  | nil => intro X h; exact ⟨h, fun _ h => by cases h⟩
  | cons p L ih =>
    intro X hx
    simp only [recheck] at hx
    split at hx
    · rename_i v hv
      cases he : svEq v p.v with
      | false => rw [he] at hx; exact absurd hx Bool.false_ne_true
      | true =>
        rw [he] at hx
        have := svEq_eq _ _ he
        subst this
        obtain ⟨h1, h2⟩ := ih hx
        exact ⟨h1, fun q hq => by
          rcases List.mem_cons.1 hq with rfl | hq
          · exact hv
          · exact h2 q hq⟩
    · exact absurd hx Bool.false_ne_true

def behind (cl : List Nat) (i j : Nat) : Bool := (cl.getD j 0).testBit i

def noClash (ops : Array Oper) (L : List PendS) (o : Oper) : Bool :=
  match o.dst with
  | none => true
  | some d => L.all fun p => !(p.o.looksAt ops).contains d

def HeldOf (P : Program) (cl : List Nat) (p : PendS) (ε : Operand → Value) (u : Value) : Held := ⟨behind cl p.i, fun w => (execOp ε p.o).run P w = .ok (.value u) w⟩

structure Fits (P : Program) (cl : List Nat) (ρ : Nat → Loc) (n : Nat) (a : Act) (p : PendS) (D : Held) (ε : Operand → Value) (u : Value) : Prop where
  eq : D = HeldOf P cl p ε u
  same : execOp a.eval p.o = execOp ε p.o
  val : u = p.v.den ρ
  lt : p.v.lt ρ n
  sel : ∀ cs b, p.o.op ≠ .select cs b

theorem noClash_same {ops : Array Oper} {L : List PendS} {o : Oper} (h : noClash ops L o = true) {p : PendS} (hp : p ∈ L) (hs : ∀ cs b, p.o.op ≠ .select cs b) (a : Act) (v : Value) : execOp (a.put o.dst v).eval p.o = execOp a.eval p.o := by
  refine execOp_put (ops := ops) p.o hs a o.dst v fun d hd => ?_
  unfold noClash at h
  rw [hd] at h
  have := List.all_eq_true.1 h p hp
  simpa using this

theorem readV_noSelect {P : Program} {tm : T SV} {h : HS} {op : Op} {v : SV} (hr : readV P tm h op = some v) : ∀ cs b, op ≠ .select cs b := by
  intro cs b e; subst e; simp [readV] at hr

end
end Go.Sx

namespace Go.Sx
noncomputable section
variable {dfs : List Deferred}

/-! ### Operations that look at the slots alone -/

def pfOne (f : SV → Option (Bool × SV)) (x : Option SV) : Option (Bool × SV) := match x with
  | some x => f x
  | none => none

def pfTwo (f : SV → SV → Option (Bool × SV)) (x y : Option SV) : Option (Bool × SV) := match x with
  | some x => match y with
    | some y => f x y
    | none => none
  | none => none

def pfPick (c a b : Option SV) : Option (Bool × SV) := match c, a, b with
  | some c, some a, some b => optT (pickV c a b)
  | some (.v (.bool true)), some a, none => some (true, a)
  | some (.v (.bool false)), none, some b => some (true, b)
  | _, _, _ => none

def pfBuild (P : Program) (tm : T SV) (t : TypeId) (parts : List (Nat × Operand)) : Option (Bool × SV) := match opds tm (parts.map (·.2)) with
  | some xs => optT (buildV P t ((parts.map (·.1)).zip xs))
  | none => none

def pfFunc (tm : T SV) (fn : Fn) (first captured : Array Operand) : Option (Bool × SV) := match fn with
  | .func f => bif first.isEmpty then (match opds tm captured.toList with
    | some xs => some (true, .fn f xs)
    | none => none) else none
  | _ => none

def pfSlice (P : Program) (tm : T SV) (t : TypeId) (x : Operand) (lo hi mx : Option Operand) : Option (Bool × SV) := match opd tm x, optOpd tm lo, optOpd tm hi, optOpd tm mx with
  | some x, some lo, some hi, some mx => sliceV P t x lo hi mx
  | _, _, _, _ => none

def pfUn (op : UnOp) (x : SV) : Option (Bool × SV) := optT (unV op x)
def pfConv (P : Program) (s d : TypeId) (x : SV) : Option (Bool × SV) := optT (convV P s d x)
def pfIfc (P : Program) (t : TypeId) (x : SV) : Option (Bool × SV) := optT (ifcV P t x)
def pfFieldAddr (P : Program) (t : TypeId) (i : Nat) (x : SV) : Option (Bool × SV) := optT (fieldAddrV P t x i)
def pfField (P : Program) (t : TypeId) (i : Nat) (x : SV) : Option (Bool × SV) := optT (fieldV P t x i)
def pfExtract (i : Nat) (x : SV) : Option (Bool × SV) := optT (extractV x i)

def pfAssert (P : Program) (t : TypeId) (ok : Bool) (x : SV) : Option (Bool × SV) := optT (assertV P t ok x)

def pureF (P : Program) (tm : T SV) (op : Op) : Option (Bool × SV) := match op with
  | .move x => optT (opd tm x)
  | .assign x => optT (opd tm x)
  | .pick c a b => pfPick (opd tm c) (opd tm a) (opd tm b)
  | .build t parts => pfBuild P tm t parts.toList
  | .nilCheck x => pfOne nilV (opd tm x)
  | .binOp op t x y _ => pfTwo (binV P op t (isCst y)) (opd tm x) (opd tm y)
  | .unOp op _ x => pfOne (pfUn op) (opd tm x)
  | .convert s d x => pfOne (pfConv P s d) (opd tm x)
  | .makeInterface t x => pfOne (pfIfc P t) (opd tm x)
  | .makeFunc fn first caps => pfFunc tm fn first caps
  | .slice t x lo hi mx => pfSlice P tm t x lo hi mx
  | .fieldAddr t x i => pfOne (pfFieldAddr P t i) (opd tm x)
  | .field t x i => pfOne (pfField P t i) (opd tm x)
  | .indexAddr t x i => pfTwo (indexAddrV P t) (opd tm x) (opd tm i)
  | .index t x i => pfTwo (indexV P t) (opd tm x) (opd tm i)
  | .extract x i => pfOne (pfExtract i) (opd tm x)
  | .typeAssert x _ t ok => pfOne (pfAssert P t ok) (opd tm x)
  | .call c => pureCall P tm c
  | _ => none

theorem pfTwo_eq (f : SV → SV → Option (Bool × SV)) (x y : Option SV) : pfTwo f x y = (match x, y with | some x, some y => f x y | _, _ => none) := by cases x <;> cases y <;> rfl

theorem pureF_eq (P : Program) (tm : T SV) (op : Op) : pureF P tm op = pureV P tm op := by
  cases op with
  | binOp op t x y u => exact pfTwo_eq _ _ _
  | indexAddr t x i => exact pfTwo_eq _ _ _
  | index t x i => exact pfTwo_eq _ _ _
  | makeFunc fn first caps => cases fn <;> rfl
  | _ => rfl

/-! ### Readings -/

def rfLoad (P : Program) (h : HS) (t : TypeId) (x : Option SV) : Option SV := match x with
  | some x => loadV P h t x
  | none => none

def rfLook (P : Program) (h : HS) (t : TypeId) (ok : Bool) (x k : Option SV) : Option SV := match x with
  | some x => match k with
    | some k => lookV P h t x k ok
    | none => none
  | none => none

def rfConv (P : Program) (h : HS) (s d : TypeId) (x : Option SV) : Option SV := match x with
  | some x => cvV P h s d x
  | none => none

def rfEntry (h : HS) (x : Option SV) : Option SV := match x with
  | some x => entryV h x
  | none => none

def readF (P : Program) (tm : T SV) (h : HS) (op : Op) : Option SV := match op with
  | .load t x => rfLoad P h t (opd tm x)
  | .lookup t x k ok => rfLook P h t ok (opd tm x) (opd tm k)
  | .convert s d x => rfConv P h s d (opd tm x)
  | .entry x => rfEntry h (opd tm x)
  | .call c => readV P tm h (.call c)
  | _ => none

theorem rfLook_eq (P : Program) (h : HS) (t : TypeId) (ok : Bool) (x k : Option SV) : rfLook P h t ok x k = (match x, k with | some x, some k => lookV P h t x k ok | _, _ => none) := by cases x <;> cases k <;> rfl

theorem readF_eq (P : Program) (tm : T SV) (h : HS) (op : Op) : readF P tm h op = readV P tm h op := by
  cases op with
  | lookup t x k ok => exact rfLook_eq _ _ _ _ _ _
  | _ => rfl

/-! ### The same, with what goes on: so that a load of the arena stands ahead of all else -/

def rdK (r : Option (List Value)) (F : List Value → Bool) : Bool := match r with
  | some vs => F vs
  | none => false

def oneK (vs : List Value) (F : SV → Bool) : Bool := match vs with
  | [v] => F (.v v)
  | _ => false

def optC (r : Option SV) (F : SV → Bool) : Bool := match r with
  | some v => F v
  | none => false

def loadC (P : Program) (h : HS) (t : TypeId) (x : SV) (F : SV → Bool) : Bool := match x with
  | .v (.pointer (some ⟨g, o, none⟩)) => bif h.M.X.op then (match ty P t with
      | some s => rdK (h.M.A.rd g o s.size) fun vs => bif TypeDesc.isAgg s.und then F (.v (.agg vs.toArray)) else oneK vs F
      | none => false) else optC (loadV P h t x) F
  | x => optC (loadV P h t x) F

theorem loadC_eq (P : Program) (h : HS) (t : TypeId) (x : SV) (F : SV → Bool) : loadC P h t x F = optC (loadV P h t x) F := by
  unfold loadC
  split
  · rename_i g o
    cases hop : h.M.X.op with
    | false => rfl
    | true =>
      simp only [cond_true]
      unfold loadV
      cases ht : ty P t with
      | none => rfl
      | some s =>
        simp only [hop, cond_true]
        unfold loadA rdK
        cases h.M.A.rd g o s.size with
        | none => rfl
        | some vs =>
          simp only
          cases TypeDesc.isAgg s.und with
          | true => rfl
          | false =>
            simp only [cond_false]
            match vs with
            | [] => rfl
            | [v] => rfl
            | _ :: _ :: _ => rfl
  · rfl

/-- What stands at a key stands ahead. -/
def lkK (r : Option (Option Value)) (F : Option Value → Bool) : Bool := match r with
  | some r => F r
  | none => false

def enK (r : Option Value) (F : SV → Bool) : Bool := match r with
  | some v => F (.v v)
  | none => false

def lukC (P : Program) (h : HS) (t : TypeId) (ok : Bool) (x k : SV) (F : SV → Bool) : Bool := match x with
  | .v (.map (some g)) => bif h.M.X.op then (match ty P t with
      | none => false
      | some s => match s.und with
        | .map kt et => match ty P kt, ty P et with
          | some sk, some se => match keyV sk.und k with
            | some kv => lkK (h.M.A.look g kv) fun r => F (lkOut ok se.zero r)
            | none => false
          | _, _ => false
        | _ => false) else false
  | x => optC (lookV P h t x k ok) F

theorem lukC_eq (P : Program) (h : HS) (t : TypeId) (ok : Bool) (x k : SV) (F : SV → Bool) : lukC P h t ok x k F = optC (lookV P h t x k ok) F := by
  unfold lukC
  split
  · rename_i g
    cases hop : h.M.X.op with
    | false => simp only [lookV, hop, cond_false]; rfl
    | true =>
      simp only [cond_true, lookV, hop]
      unfold lookA
      cases ty P t with
      | none => rfl
      | some s =>
        simp only
        cases s.und with
        | map kt et =>
          simp only
          cases ty P kt with
          | none => rfl
          | some sk =>
            cases ty P et with
            | none => rfl
            | some se =>
              simp only
              cases keyV sk.und k with
              | none => rfl
              | some kv =>
                simp only
                cases h.M.A.look g kv with
                | none => rfl
                | some r => rfl
        | _ => rfl
  · rfl

def entC (h : HS) (x : SV) (F : SV → Bool) : Bool := match x with
  | .v (.pointer (some ⟨i, 0, none⟩)) => bif h.M.X.op then enK (h.M.A.ent i) F else false
  | x => optC (entryV h x) F

theorem entC_eq (h : HS) (x : SV) (F : SV → Bool) : entC h x F = optC (entryV h x) F := by
  unfold entC
  split
  · rename_i i
    cases hop : h.M.X.op with
    | false => simp only [entryV, hop, cond_false]; rfl
    | true =>
      simp only [cond_true, entryV, hop]
      cases h.M.A.ent i with
      | none => rfl
      | some r => rfl
  · rfl

def readC (P : Program) (tm : T SV) (h : HS) (op : Op) (F : SV → Bool) : Bool := match op with
  | .load t x => (match opd tm x with
      | some x => loadC P h t x F
      | none => false)
  | .lookup t x k ok => (match opd tm x with
      | some x => (match opd tm k with
        | some k => lukC P h t ok x k F
        | none => false)
      | none => false)
  | .entry x => (match opd tm x with
      | some x => entC h x F
      | none => false)
  | op => optC (readF P tm h op) F

theorem readC_eq (P : Program) (tm : T SV) (h : HS) (op : Op) (F : SV → Bool) : readC P tm h op F = (match readV P tm h op with
  | some v => F v
  | none => false) := by
  unfold readC
  split
  · rename_i t x
    simp only [readV]
    cases opd tm x with
    | none => rfl
    | some x =>
      simp only [loadC_eq]
      rfl
  · rename_i t x k ok
    simp only [readV]
    cases opd tm x with
    | none => rfl
    | some x =>
      cases opd tm k with
      | none => rfl
      | some k =>
        simp only [lukC_eq]
        rfl
  · rename_i x
    simp only [readV]
    cases opd tm x with
    | none => rfl
    | some x =>
      simp only [entC_eq]
      rfl
  · rw [readF_eq]; rfl

/-! ### Effects -/

def efBox (h : HS) (t : TypeId) (K : SV → HS → Bool) (x : Option SV) : Bool := match x with
  | some x => boxV h t x K
  | none => false

def efStore (P : Program) (h : HS) (t : TypeId) (K : SV → HS → Bool) (a x : Option SV) : Bool := match a, x with
  | some a, some x => storeV P h t a x K
  | _, _ => false

def efMake (P : Program) (h : HS) (t : TypeId) (K : SV → HS → Bool) (l c : Option SV) : Bool := match l, c with
  | some l, some c => makeV P h t l c K
  | _, _ => false

def efPut (P : Program) (h : HS) (t : TypeId) (K : SV → HS → Bool) (m k v : Option SV) : Bool := match m, k, v with
  | some m, some k, some v => putV P h t m k v K
  | _, _, _ => false

def efRange (P : Program) (h : HS) (t : TypeId) (K : SV → HS → Bool) (x : Option SV) : Bool := match x with
  | some x => rangeV P h t x K
  | none => false

def efNext (h : HS) (i : Bool) (K : SV → HS → Bool) (x : Option SV) : Bool := match x with
  | some x => nextV h x i K
  | none => false

def efVal (call : CallT) (h : HS) (K E : SV → HS → Bool) (f : Option SV) (args : Option (List SV)) : Bool := match f with
  | some fv => match asFn fv, args with
    | some (f, caps), some xs => call f (xs ++ caps) h K E
    | _, _ => false
  | none => false

def efConv (P : Program) (h : HS) (s d : TypeId) (K : SV → HS → Bool) (x : Option SV) : Bool := match x with
  | some x => convE P h s d x K
  | none => false

def efCall (P : Program) (call : CallT) (tm : T SV) (h : HS) (c : Call) (K E : SV → HS → Bool) : Bool := match c.callee with
  | .value f => efVal call h K E (opd tm f) (opds tm c.args.toList)
  | _ => callV P call tm h c K E

def effF (P : Program) (call : CallT) (tm : T SV) (h : HS) (op : Op) (K E : SV → HS → Bool) : Bool := match op with
  | .alloc t => allocV P h t K
  | .box t x => efBox h t K (opd tm x)
  | .store t a x => efStore P h t K (opd tm a) (opd tm x)
  | .makeSlice t l c => efMake P h t K (opd tm l) (opd tm c)
  | .mapUpdate t m k v => efPut P h t K (opd tm m) (opd tm k) (opd tm v)
  | .insert t m k v => efPut P h t K (opd tm m) (opd tm k) (opd tm v)
  | .range t x => efRange P h t K (opd tm x)
  | .next x i => efNext h i K (opd tm x)
  | .call c => efCall P call tm h c K E
  | .convert s d x => efConv P h s d K (opd tm x)
  | op => effV P call tm h op K E

theorem efCall_eq (P : Program) (call : CallT) (tm : T SV) (h : HS) (c : Call) (K E : SV → HS → Bool) : efCall P call tm h c K E = callV P call tm h c K E := by
  unfold efCall
  split
  · rename_i f hf
    unfold callV
    rw [hf]
    rfl
  · rfl

theorem effF_eq (P : Program) (call : CallT) (tm : T SV) (h : HS) (op : Op) (K E : SV → HS → Bool) : effF P call tm h op K E = effV P call tm h op K E := by
  cases op with
  | call c => exact efCall_eq _ _ _ _ _ _ _
  | _ => rfl

/-! ### A slice of nothing at the end of a row whose capacity is open: two ways -/

def sliceA (P : Program) (t : TypeId) (x : SV) (lo hi : Option SV) : Option (SV × SV) :=
  match ty P t with
  | none => none
  | some s => match s.und with
    | .slice e => match ty P e with
      | none => none
      | some se => match x with
        | .slc b o len (.sub b' d) => match bounds len len lo hi none with
          | some (r, l, h, _) => bif r && Nat.beq l h then some (.slc b o 0 (.lit 0), .slc b (o + l * se.size) 0 (.sub b' (d + l))) else none
          | none => none
        | _ => none
    | _ => none

theorem sliceA_run {P : Program} {t : TypeId} {x A B : SV} {lo hi : Option SV} (h : sliceA P t x lo hi = some (A, B)) {ρ : Nat → Loc} {n : Nat} (hx : x.lt ρ n) :
    ∃ z, (z = A ∨ z = B) ∧ z.lt ρ n ∧ ∀ w, (Instr.sliceAt t (x.den ρ) (lo.map (SV.den ρ)) (hi.map (SV.den ρ)) none).run P w = .ok (z.den ρ) w := by
  unfold sliceA at h
  split at h
  · cases h
  · rename_i s hs
    split at h
    · rename_i e hd
      split at h
      · cases h
      · rename_i se hse
        split at h
        · rename_i b o len b' d
          have hlen : len ≤ (ρ b').cap - d := hx.2.2
          split at h
          · rename_i r l h' m hb
            cases hc : r && Nat.beq l h' with
            | false => rw [hc] at h; cases h
            | true =>
              rw [hc] at h
              simp only [cond_true, Option.some.injEq, Prod.mk.injEq] at h
              obtain ⟨rfl, rfl⟩ := h
              simp only [Bool.and_eq_true] at hc
              obtain ⟨h1, hz⟩ := hc
              have hz := Nat.eq_of_beq_eq_true hz
              subst hz
              have hb' : bounds len ((ρ b').cap - d) lo hi none = some (true, l, l, (ρ b').cap - d) := by
                unfold bounds at hb ⊢
                simp only at hb ⊢
                split at hb
                · rename_i li hv hl hh
                  injection hb with hb; injection hb with k1 hb; injection hb with k2 hb; injection hb with k3 k4
                  rw [h1] at k1
                  simp only [k2, k3]
                  simp only [Bool.and_eq_true, decide_eq_true_eq, Bool.or_eq_true] at k1
                  have : (decide (0 ≤ li) && decide (li ≤ hv) && (hi.isNone || decide (hv ≤ (((ρ b').cap - d : Nat) : Int)))) = true := by
                    simp only [Bool.and_eq_true, decide_eq_true_eq, Bool.or_eq_true]
                    exact ⟨k1.1, k1.2.imp id (fun _ => by omega)⟩
                  rw [this]
                · cases hb
              have hle : l ≤ len := by
                obtain ⟨_, _, g5, g6, _, g8⟩ := bounds_run (P := P) hb h1 ρ default true
                cases hi with
                | none => have := g8 rfl; omega
                | some _ => have := g5 rfl; have := g6 rfl; omega
              have hrun : ∀ w : World, (Instr.sliceAt t ((SV.slc b o len (.sub b' d)).den ρ) (lo.map (SV.den ρ)) (hi.map (SV.den ρ)) none).run P w =
                  .ok (.slice (if (ρ b').cap - d - l = 0 then some ⟨(ρ b).blk, (ρ b).off + o, none⟩ else some (Addr.add ⟨(ρ b).blk, (ρ b).off + o, none⟩ (l * se.size))) (l - l) ((ρ b').cap - d - l)) w := by
                intro w
                obtain ⟨h3, _⟩ := bounds_run (P := P) hb' rfl ρ w true
                simp only [Option.map_none] at h3
                have hu := r_underlying w hs
                simp only [Instr.sliceAt, Sem.run_bind, hu, hd, Result.andThen_ok, Instr.slice, SV.den, SCap.den]
                simp only [h3, r_sizeOf w hse, Result.andThen_ok, Sem.run_pure]
                congr 2
                by_cases h0 : (ρ b').cap - d - l = 0
                · rw [if_pos h0, if_pos (by omega)]
                · rw [if_neg h0, if_neg (by omega)]; rfl
              by_cases h0 : (ρ b').cap - d - l = 0
              · refine ⟨.slc b o 0 (.lit 0), .inl rfl, ⟨hx.1, trivial, Nat.zero_le _⟩, fun w => ?_⟩
                rw [hrun w, if_pos h0, h0]
                simp [SV.den, SCap.den]
              · refine ⟨.slc b (o + l * se.size) 0 (.sub b' (d + l)), .inr rfl, ⟨hx.1, hx.2.1, Nat.zero_le _⟩, fun w => ?_⟩
                rw [hrun w, if_neg h0]
                simp [SV.den, SCap.den, add_none, Nat.add_assoc, Nat.sub_add_eq]
          · cases h
        · cases h
    · cases h

def altF (P : Program) (tm : T SV) (op : Op) : Option (SV × SV) := match op with
  | .slice t x lo hi mx => match mx with
    | none => match opd tm x, optOpd tm lo, optOpd tm hi with
      | some x, some lo, some hi => sliceA P t x lo hi
      | _, _, _ => none
    | some _ => none
  | _ => none

theorem altF_run {P : Program} {tm : T SV} {op : Op} {A B : SV} (h : altF P tm op = some (A, B)) {ρ : Nat → Loc} {sz nx : Nat} {a : Act} (R : ARel dfs ρ tm sz nx a) (o : Oper) (ho : o.op = op) :
    ∃ z, (z = A ∨ z = B) ∧ z.lt ρ nx ∧ ∀ w, (execOp a.eval o).run P w = .ok (.value (z.den ρ)) w := by
  unfold altF at h
  split at h
  · split at h
    · split at h
      · rename_i x lo hi hx hlo hhi
        obtain ⟨h1, h2⟩ := opd_den R hx
        obtain ⟨z, k1, k2, k3⟩ := sliceA_run h h2
        refine ⟨z, k1, k2, fun w => ?_⟩
        unfold execOp
        rw [ho]
        have k3 := k3 w
        simp only [Sem.run_bind, h1, optOpd_den R hlo, optOpd_den R hhi, Option.map_none, k3, Result.andThen_ok, Sem.run_pure]
      · cases h
    · cases h
  · cases h

/-- Both ways. -/
def bothW (x : Option (SV × SV)) (F : SV → Bool) : Bool := match x with
  | some (a, b) => bif F a then F b else false
  | none => false

theorem bothW_of {x : Option (SV × SV)} {F : SV → Bool} (h : bothW x F = true) : ∃ a b, x = some (a, b) ∧ F a = true ∧ F b = true := by
  unfold bothW at h
  split at h
  · rename_i a b
    cases ha : F a with
    | false => rw [ha] at h; exact absurd h Bool.false_ne_true
    | true => rw [ha] at h; exact ⟨a, b, rfl, ha, h⟩
  · exact absurd h Bool.false_ne_true

end
end Go.Sx
