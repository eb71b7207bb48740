/-
  The symbolic executor: one operation; operations in the text's order.
-/
import Derived.Test.YtompigcfojbpkaaSxS
import Derived.Orders
namespace Go.Sx
noncomputable section
variable {dfs : List Deferred}

/-- What a call asks, and what it leaves: of a value that is handed back, of one that it panics with. -/
abbrev CallT := FuncId → List SV → HS → (SV → HS → Bool) → (SV → HS → Bool) → Bool

/-- A panic by itself. -/
def pnc (v : Value) : List PanicEntry := [{ v, recovered := false }]

/-- A call of function f goes on in Φ: it is entered and hands back a value, or it is one of the model's entries, which gives one at once. -/
def CallGoes (P : Program) (f : FuncId) (args : Array Value) (w : World) (Φ Ψ : Value → World → Prop) : Prop :=
  (∃ fn, P.funcs[f]? = some fn ∧ ((fn.name == "runtime.NumGoroutine") = false ∧ fn.body.isNone = false) ∧ Calls P f args w fun e w' => (∃ v, e = .returned v ∧ Φ v w') ∨ ∃ v, e = .panicked (pnc v) ∧ Ψ v w') ∨
  (∃ v w', (callFunc f args).run P w = .ok (.value v) w' ∧ Φ v w')

def CallSound (P : Program) (call : CallT) : Prop :=
  ∀ f args h K E, call f args h K E → ∀ ρ w, HRel ρ h w → (∀ x ∈ args, x.lt ρ h.nx) → CallGoes P f (args.map (SV.den ρ)).toArray w (Post ρ h K) (Post ρ h E)

/-! ### Readings -/

def readV (P : Program) (tm : T SV) (h : HS) : Op → Option SV
  | .load t x => match opd tm x with
    | some x => loadV P h t x
    | none => none
  | .lookup t x k ok => match opd tm x, opd tm k with
    | some x, some k => lookV P h t x k ok
    | _, _ => none
  | .convert s d x => match opd tm x with
    | some x => cvV P h s d x
    | none => none
  | .entry x => match opd tm x with
    | some x => entryV h x
    | none => none
  | .call c => match c.callee with
    | .builtin .len => match c.argTypes.toList, opds tm c.args.toList with
      | [t], some [.mp b] => match ty P t, h.H.get b with
        | some s, some (.map es _) => bif isMp s.und then some (.v (.int .i64 es.length)) else none
        | _, _ => none
      | _, _ => none
    | .builtin .unsafeSliceData => match opds tm c.args.toList with
      | some [x] => sdV x
      | _ => none
    | _ => none
  | _ => none

theorem readV_run {P : Program} {tm : T SV} {h : HS} {op : Op} {z : SV} (hz : readV P tm h op = some z) {ρ : Nat → Loc} {sz : Nat} {a : Act} {w : World} (A : ARel dfs ρ tm sz h.nx a) (H : HRel ρ h w)
    (o : Oper) (ho : o.op = op) : (execOp a.eval o).run P w = .ok (.value (z.den ρ)) w ∧ z.lt ρ h.nx := by
  unfold readV at hz
  unfold execOp
  rw [ho]
  split at hz
  · split at hz
    · rename_i x hx
      obtain ⟨h1, _⟩ := opd_den A hx
      obtain ⟨k1, k2⟩ := loadV_run hz H
      exact ⟨by simp only [Sem.run_bind, h1, k1, Result.andThen_ok, Sem.run_pure], k2⟩
    · cases hz
  · split at hz
    · rename_i x k hx hk
      obtain ⟨h1, _⟩ := opd_den A hx
      obtain ⟨h2, _⟩ := opd_den A hk
      obtain ⟨k1, k2⟩ := lookV_run hz H
      exact ⟨by simp only [Sem.run_bind, h1, h2, k1, Result.andThen_ok, Sem.run_pure], k2⟩
    · cases hz
  · split at hz
    · rename_i x hx
      obtain ⟨h1, _⟩ := opd_den A hx
      obtain ⟨k1, k2⟩ := cvV_run hz H
      exact ⟨by simp only [Sem.run_bind, h1, k1, Result.andThen_ok, Sem.run_pure], k2⟩
    · cases hz
  · split at hz
    · rename_i x hx
      obtain ⟨h1, _⟩ := opd_den A hx
      obtain ⟨k1, k2⟩ := entryV_run (P := P) hz H
      exact ⟨by simp only [Sem.run_bind, h1, k1, Result.andThen_ok, Sem.run_pure], k2⟩
    · cases hz
  · rename_i c
    split at hz
    · rename_i hc
      split at hz
      · rename_i t b ht hxs
        split at hz
        · rename_i s es clock hs hb
          cases hd : s.und with
          | map k e =>
            rw [hd] at hz
            simp only [isMp, cond_true, Option.some.injEq] at hz
            subst hz
            refine ⟨?_, trivial⟩
            obtain ⟨h1, _⟩ := opds_den A _ _ hxs
            obtain ⟨_, _, h3⟩ := H.blk b _ hb
            have h3 : w.heap[(ρ b).blk]? = some (.map (es.map (entDen ρ)).toArray clock) := h3
            have hget : (getObj (ρ b).blk).run P w = .ok (.map (es.map (entDen ρ)).toArray clock) w := by simp [getObj, Sem.run, h3]
            have hargs : c.args.map a.eval = #[.map (some (ρ b).blk)] := by
              apply Array.toList_inj.1
              rw [Array.toList_map, h1]; rfl
            have hts : c.argTypes = #[t] := Array.toList_inj.1 ht
            simp only [resolve, hc, hargs, hts, Sem.run_bind, Sem.run_pure, Result.andThen_ok, invoke, builtin, Builtin.len_, List.getElem?_toArray, List.getElem?_cons_zero, r_underlying w hs, hd, hget, SV.den]
            simp [goInt]
          | _ => rw [hd] at hz; simp [isMp] at hz
        · cases hz
      · cases hz
    · rename_i hc
      split at hz
      · rename_i x hxs
        obtain ⟨h1, h2⟩ := opds_den A _ _ hxs
        obtain ⟨k1, k2⟩ := sdV_run (P := P) hz (h2 x (by simp)) w c.argTypes o.type
        refine ⟨?_, k2⟩
        have hargs : c.args.map a.eval = #[x.den ρ] := by
          apply Array.toList_inj.1
          rw [Array.toList_map, h1]; rfl
        simp only [resolve, hc, hargs, Sem.run_bind, Sem.run_pure, Result.andThen_ok, invoke, builtin, k1]
      · cases hz
    · cases hz
  · cases hz

/-! ### Effects -/

def asFn (x : SV) : Option (FuncId × List SV) :=
  match x with
  | .fn f caps => some (f, caps)
  | .v (.func (.func f) first caps) => bif first.isEmpty then some (f, caps.toList.map .v) else none
  | _ => none

theorem asFn_den {x : SV} {f : FuncId} {caps : List SV} (h : asFn x = some (f, caps)) (ρ : Nat → Loc) {n : Nat} (hx : x.lt ρ n) : x.den ρ = .func (.func f) #[] (caps.map (SV.den ρ)).toArray ∧ ∀ y ∈ caps, y.lt ρ n := by
  unfold asFn at h
  split at h
  · injection h with h; injection h with h1 h2; subst h1; subst h2
    exact ⟨by simp [SV.den, dens_eq], lts_iff.1 hx⟩
  · rename_i f' first caps'
    cases hf : first.isEmpty with
    | false => rw [hf] at h; cases h
    | true =>
      rw [hf] at h
      injection h with h; injection h with h1 h2; subst h1; subst h2
      have : first = #[] := Array.isEmpty_iff.1 hf
      subst this
      exact ⟨by simp [SV.den, Function.comp_def], fun y hy => by obtain ⟨z, _, rfl⟩ := List.mem_map.1 hy; trivial⟩
  · cases h

def callV (P : Program) (call : CallT) (tm : T SV) (h : HS) (c : Call) (K E : SV → HS → Bool) : Bool :=
  match c.callee with
  | .value f => match opd tm f with
    | some fv => match asFn fv, opds tm c.args.toList with
      | some (f, caps), some xs => call f (xs ++ caps) h K E
      | _, _ => false
    | none => false
  | .builtin .append => match opds tm c.args.toList with
    | some [s, x] => bif h.M.X.op then appendA P h c.argTypes.toList s x K else match lenS s, lenS x with
      | some l, some n => bif Nat.ble (l + n) 9223372036854775807 then appendV P h c.argTypes.toList s x K else false
      | _, _ => false
    | _ => false
  | .builtin .copy => match opds tm c.args.toList with
    | some [d, x] => copyV P h c.argTypes.toList d x K
    | _ => false
  | .builtin .delete => match opds tm c.args.toList with
    | some [m, k] => delV P h c.argTypes.toList m k K
    | _ => false
  | .builtin .unsafeString => match c.argTypes.toList, opds tm c.args.toList with
    | [pt, _], some [p, n] => usV P h pt p n K
    | _, _ => false
  | _ => false

/-- A value that a panic may carry. -/
def isIf (x : SV) : Bool := match x with
  | .ifc _ _ => true
  | .v (.iface _ _) => true
  | _ => false

theorem isIf_den {x : SV} (h : isIf x = true) (ρ : Nat → Loc) : ∃ t v, x.den ρ = .iface t v := by
  unfold isIf at h
  split at h
  · rename_i t y
    exact ⟨t, y.den ρ, by simp only [SV.den]⟩
  · rename_i t y
    exact ⟨t, y, by simp only [SV.den]⟩
  · cases h

/-- A row that is spelled out: in the arena, where it names no new block. -/
def buildA (h : HS) (e : TypeId) (cs : List SV) (K : SV → HS → Bool) (len : Nat) (X : Bool) : Bool := bif h.M.X.op then (match plains cs with
  | some vs => h.M.D (∀ g A', h.M.A.New A' g vs.toArray e → K (.v (.slice (some ⟨g, 0, none⟩) len len)) (h.put A') = true)
  | none => X) else X

def effV (P : Program) (call : CallT) (tm : T SV) (h : HS) (op : Op) (K E : SV → HS → Bool) : Bool :=
  match op with
  | .alloc t => allocV P h t K
  | .box t x => match opd tm x with
    | some x => boxV h t x K
    | none => false
  | .store t a x => match opd tm a, opd tm x with
    | some a, some x => storeV P h t a x K
    | _, _ => false
  | .makeSlice t l c => match opd tm l, opd tm c with
    | some l, some c => makeV P h t l c K
    | _, _ => false
  | .makeMap _ none => K (.mp h.nx) (h.new (.map [] 0))
  | .buildSlice t len parts => match opds tm (parts.toList.map (·.2)) with
    | some xs => match ty P t with
      | some s => match s.und with
        | .slice e => match ty P e with
          | some se => bif Nat.ble (len * se.size) 16777216 && Nat.beq se.zero.cells.size se.size then
              (match fillV (fun i => some (i * se.size, se.size)) (repCells (se.zero.cells.toList.map .v) len) ((parts.toList.map (·.1)).zip xs) with
              | some cs => buildA h e cs K len (K (.slc h.nx 0 len (.lit len)) (h.new (.cells cs 0 (e + 1))))
              | none => false)
            else false
          | none => false
        | _ => false
      | none => false
    | none => false
  | .mapUpdate t m k v => match opd tm m, opd tm k, opd tm v with
    | some m, some k, some v => putV P h t m k v K
    | _, _, _ => false
  | .insert t m k v => match opd tm m, opd tm k, opd tm v with
    | some m, some k, some v => putV P h t m k v K
    | _, _, _ => false
  | .range t x => match opd tm x with
    | some x => rangeV P h t x K
    | none => false
  | .next x i => match opd tm x with
    | some x => nextV h x i K
    | none => false
  | .call c => callV P call tm h c K E
  | .convert s d x => match opd tm x with
    | some x => convE P h s d x K
    | none => false
  | .panic x => match opd tm x with
    | some x => bif isIf x then E x h else false
    | none => false
  | _ => false

theorem buildSlice_run {P : Program} {t e : TypeId} {s se : STy} {len : Nat} {parts : List (Nat × SV)} {cs : List SV} (hs : ty P t = some s) (hd : s.und = .slice e) (hse : ty P e = some se) (hlen : len * se.size ≤ 16777216) (hz : se.zero.cells.size = se.size)
    (hf : fillV (fun i => some (i * se.size, se.size)) (repCells (se.zero.cells.toList.map .v) len) parts = some cs) (ρ : Nat → Loc) (w : World) :
    (Instr.buildSlice t len (parts.map fun (i, x) => (i, x.den ρ)).toArray).run P w = .ok (.slice (some ⟨w.heap.size, 0, none⟩) len len) { w with heap := w.heap.push (.cells (cs.map (SV.den ρ)).toArray e) } := by
  obtain ⟨k1, _⟩ := fill_den (ρ := ρ) (n := 0) parts _ cs hf
  have hcells : ((Array.range (len * se.size)).map ((if len * se.size = 0 then #[] else se.zero.cells)[· % (if len * se.size = 0 then #[] else se.zero.cells).size]!)) = ((repCells (se.zero.cells.toList.map .v) len).map (SV.den ρ)).toArray := by
    apply Array.toList_inj.1
    rw [repCells_den, ← rangeMap_rep, hz]
    by_cases h0 : len * se.size = 0
    · simp [h0]
    · rw [if_neg h0]; simp [hz]
  have h24 : ¬ (len * se.size > 2 ^ 24) := by
    have : (2 ^ 24 : Nat) = 16777216 := by decide
    omega
  simp only [Instr.buildSlice, Sem.run_bind, r_underlying w hs, hd, Result.andThen_ok, r_sizeOf w hse, h24, if_false]
  by_cases h0 : len * se.size = 0
  · simp only [h0, if_true] at hcells
    simp only [h0, if_true, Sem.run_bind, Sem.run_pure, Result.andThen_ok, hcells, k1, newRow, run_newObj]
  · simp only [h0, if_false] at hcells
    simp only [h0, if_false, Sem.run_bind, Sem.run_pure, Result.andThen_ok, r_zeroValue w hse, hcells, k1, newRow, run_newObj]

theorem call_wp {P : Program} {call : CallT} (CS : CallSound P call) {tm : T SV} {h : HS} {c : Call} {K E : SV → HS → Bool} (hk : callV P call tm h c K E) {ρ : Nat → Loc} {sz : Nat} {a : Act} {w : World} (A : ARel dfs ρ tm sz h.nx a) (H : HRel ρ h w)
    (o : Oper) (ho : o.op = .call c) {next : Act → World → Prop} {Q : Exit → Act → World → Prop} (hn : ∀ v w', Post ρ h K v w' → next (a.put o.dst v) w') (hp : ∀ v w', Post ρ h E v w' → Q (.panic (pnc v)) a w') : o.wp P a w next Q := by
  unfold Oper.wp execOp
  rw [ho]
  unfold callV at hk
  split at hk
  · rename_i f hc
    split at hk
    · rename_i fv hfv
      split at hk
      · rename_i f' caps xs hfn hxs
        obtain ⟨h1, h2⟩ := opd_den A hfv
        obtain ⟨h3, h4⟩ := asFn_den hfn ρ h2
        obtain ⟨h5, h6⟩ := opds_den A _ _ hxs
        have hgo := CS f' (xs ++ caps) h K E hk ρ w H (fun y hy => by
          rcases List.mem_append.1 hy with hy | hy
          · exact h6 y hy
          · exact h4 y hy)
        have hargs : c.args.map a.eval = (xs.map (SV.den ρ)).toArray := by
          apply Array.toList_inj.1
          rw [Array.toList_map, h5]
        have hrun : (do let d ← resolve a.eval c o.type; invoke d.target d.args : Sem Next).run P w = (callFunc f' ((xs ++ caps).map (SV.den ρ)).toArray).run P w := by
          simp only [resolve, hc, hargs, h1, h3, Deferred.ofValue, Sem.run_bind, Sem.run_pure, Result.andThen_ok, invoke]
          simp
        dsimp only
        rw [hrun]
        rcases hgo with ⟨fn, hf, ⟨hname, hbody⟩, hcalls⟩ | ⟨v, w', hval, hq⟩
        · have henter : (callFunc f' ((xs ++ caps).map (SV.den ρ)).toArray).run P w = .ok (.enter f' ((xs ++ caps).map (SV.den ρ)).toArray) w := by
            simp only [callFunc, Sem.run_bind, Result.andThen_ok, run_program, hf, hname, hbody, Bool.false_eq_true, if_false, Sem.run_pure]
          rw [henter, Oper.upon_enter]
          exact hcalls.mono fun e w' hor => by
            rcases hor with ⟨v, he, hq⟩ | ⟨v, he, hq⟩
            · subst he; exact hn v w' hq
            · subst he; exact hp v w' hq
        · rw [hval, Oper.upon_value]
          exact hn v w' hq
      · exact absurd hk Bool.false_ne_true
    · exact absurd hk Bool.false_ne_true
  · rename_i hc
    split at hk
    · rename_i s x hxs
      cases hop : h.M.X.op with
      | true =>
        rw [hop] at hk
        simp only [cond_true] at hk
        obtain ⟨h5, h6⟩ := opds_den A _ _ hxs
        have hargs : c.args.map a.eval = #[s.den ρ, x.den ρ] := by
          apply Array.toList_inj.1
          rw [Array.toList_map, h5]; rfl
        obtain ⟨v, w', k1, k2⟩ := appendA_run hk H o.type
        have : c.argTypes.toList.toArray = c.argTypes := rfl
        rw [this] at k1
        have hrun : (do let d ← resolve a.eval c o.type; invoke d.target d.args : Sem Next).run P w = .ok (.value v) w' := by
          simp only [resolve, hc, hargs, Sem.run_bind, Sem.run_pure, Result.andThen_ok, invoke, builtin, k1]
        dsimp only
        rw [hrun, Oper.upon_value]
        exact hn v w' k2
      | false =>
      rw [hop] at hk
      simp only [cond_false] at hk
      split at hk
      · rename_i l n hl hn'
        cases hb : Nat.ble (l + n) 9223372036854775807 with
        | false => rw [hb] at hk; exact absurd hk Bool.false_ne_true
        | true =>
          rw [hb] at hk
          simp only [cond_true] at hk
          obtain ⟨h5, h6⟩ := opds_den A _ _ hxs
          have hargs : c.args.map a.eval = #[s.den ρ, x.den ρ] := by
            apply Array.toList_inj.1
            rw [Array.toList_map, h5]; rfl
          obtain ⟨v, w', k1, k2⟩ := appendV_run hk (fun l' n' h1 h2 => by rw [hl] at h1; rw [hn'] at h2; injection h1 with h1; injection h2 with h2; subst h1; subst h2; exact Nat.le_of_ble_eq_true hb) H (h6 s (by simp)) o.type
          have : c.argTypes.toList.toArray = c.argTypes := rfl
          rw [this] at k1
          have hrun : (do let d ← resolve a.eval c o.type; invoke d.target d.args : Sem Next).run P w = .ok (.value v) w' := by
            simp only [resolve, hc, hargs, Sem.run_bind, Sem.run_pure, Result.andThen_ok, invoke, builtin, k1]
          dsimp only
          rw [hrun, Oper.upon_value]
          exact hn v w' k2
      · exact absurd hk Bool.false_ne_true
    · exact absurd hk Bool.false_ne_true
  · rename_i hc
    split at hk
    · rename_i d x hxs
      obtain ⟨h5, h6⟩ := opds_den A _ _ hxs
      have hargs : c.args.map a.eval = #[d.den ρ, x.den ρ] := by
        apply Array.toList_inj.1
        rw [Array.toList_map, h5]; rfl
      obtain ⟨v, w', k1, k2⟩ := copyV_run hk H o.type
      have : c.argTypes.toList.toArray = c.argTypes := rfl
      rw [this] at k1
      have hrun : (do let d ← resolve a.eval c o.type; invoke d.target d.args : Sem Next).run P w = .ok (.value v) w' := by
        simp only [resolve, hc, hargs, Sem.run_bind, Sem.run_pure, Result.andThen_ok, invoke, builtin, k1]
      dsimp only
      rw [hrun, Oper.upon_value]
      exact hn v w' k2
    · exact absurd hk Bool.false_ne_true
  · rename_i hc
    split at hk
    · rename_i m k hxs
      obtain ⟨h5, h6⟩ := opds_den A _ _ hxs
      have hargs : c.args.map a.eval = #[m.den ρ, k.den ρ] := by
        apply Array.toList_inj.1
        rw [Array.toList_map, h5]; rfl
      obtain ⟨v, w', k1, k2⟩ := delV_run hk H o.type
      have : c.argTypes.toList.toArray = c.argTypes := rfl
      rw [this] at k1
      have hrun : (do let d ← resolve a.eval c o.type; invoke d.target d.args : Sem Next).run P w = .ok (.value v) w' := by
        simp only [resolve, hc, hargs, Sem.run_bind, Sem.run_pure, Result.andThen_ok, invoke, builtin, k1]
      dsimp only
      rw [hrun, Oper.upon_value]
      exact hn v w' k2
    · exact absurd hk Bool.false_ne_true
  · rename_i hc
    split at hk
    · rename_i pt it p n hts hxs
      obtain ⟨h5, h6⟩ := opds_den A _ _ hxs
      have hargs : c.args.map a.eval = #[p.den ρ, n.den ρ] := by
        apply Array.toList_inj.1
        rw [Array.toList_map, h5]; rfl
      have hts : c.argTypes = #[pt, it] := Array.toList_inj.1 hts
      obtain ⟨v, w', k1, k2⟩ := usV_run (it := it) (u := o.type) hk H
      have hrun : (do let d ← resolve a.eval c o.type; invoke d.target d.args : Sem Next).run P w = .ok (.value v) w' := by
        simp only [resolve, hc, hargs, hts, Sem.run_bind, Sem.run_pure, Result.andThen_ok, invoke, builtin, k1]
      dsimp only
      rw [hrun, Oper.upon_value]
      exact hn v w' k2
    · exact absurd hk Bool.false_ne_true
  · exact absurd hk Bool.false_ne_true

theorem effV_wp {P : Program} {call : CallT} (CS : CallSound P call) {tm : T SV} {h : HS} {op : Op} {K E : SV → HS → Bool} (hk : effV P call tm h op K E) {ρ : Nat → Loc} {sz : Nat} {a : Act} {w : World} (A : ARel dfs ρ tm sz h.nx a) (H : HRel ρ h w)
    (o : Oper) (ho : o.op = op) {next : Act → World → Prop} {Q : Exit → Act → World → Prop} (hn : ∀ v w', Post ρ h K v w' → next (a.put o.dst v) w') (hp : ∀ v w', Post ρ h E v w' → Q (.panic (pnc v)) a w') : o.wp P a w next Q := by
  have val : ∀ {s : Sem Value} {v : Value} {w' : World}, s.run P w = .ok v w' → (do pure (.value (← s)) : Sem Next).run P w = .ok (.value v) w' := fun h => by
    simp only [Sem.run_bind, h, Result.andThen_ok, Sem.run_pure]
  have skp : ∀ {s : Sem Unit} {w' : World}, s.run P w = .ok () w' → (do s; pure .skip : Sem Next).run P w = .ok .skip w' := fun h => by
    simp only [Sem.run_bind, h, Result.andThen_ok, Sem.run_pure]
  unfold effV at hk
  split at hk
  · obtain ⟨v, w', k1, k2⟩ := allocV_run hk H
    unfold Oper.wp execOp; rw [ho]; dsimp only
    rw [val k1, Oper.upon_value]; exact hn v w' k2
  · rename_i t0 x0
    split at hk
    · rename_i x hx
      obtain ⟨h1, h2⟩ := opd_den A hx
      obtain ⟨v, w', k1, k2⟩ := boxV_run (P := P) (t := t0) hk H h2
      unfold Oper.wp execOp; rw [ho]; dsimp only
      rw [h1, val k1, Oper.upon_value]; exact hn v w' k2
    · exact absurd hk Bool.false_ne_true
  · split at hk
    · rename_i x v hx hv
      obtain ⟨h1, _⟩ := opd_den A hx
      obtain ⟨h2, h3⟩ := opd_den A hv
      obtain ⟨w', k1, k2⟩ := storeV_run hk H h3
      unfold Oper.wp execOp; rw [ho]; dsimp only
      rw [h1, h2, skp k1, Oper.upon_skip]; exact hn _ w' k2
    · exact absurd hk Bool.false_ne_true
  · split at hk
    · rename_i l c hl hc
      obtain ⟨h1, _⟩ := opd_den A hl
      obtain ⟨h2, _⟩ := opd_den A hc
      obtain ⟨v, w', k1, k2⟩ := makeV_run hk H
      unfold Oper.wp execOp; rw [ho]; dsimp only
      rw [h1, h2, val k1, Oper.upon_value]; exact hn v w' k2
    · exact absurd hk Bool.false_ne_true
  · rename_i t
    have k1 : (Instr.makeMap t none).run P w = .ok (.map (some w.heap.size)) { w with heap := w.heap.push (.map #[] 0) } := by simp [Instr.makeMap]
    unfold Oper.wp execOp; rw [ho]; dsimp only
    rw [Option.map_none, val k1, Oper.upon_value]
    refine hn _ _ ⟨_, _, extend ρ h.nx ⟨w.heap.size, 0, 0⟩, hk, by simp [SV.den, extend_same], Nat.lt_succ_self _, ?_, extend_ext _ _ _, Nat.le_succ _, Mem.le_refl _⟩
    exact H.alloc (o := .map #[] 0) (B := .map [] 0) (L := ⟨w.heap.size, 0, 0⟩) rfl (fun e he => by cases he) fun w' hw' => hw'
  · rename_i t len parts
    split at hk
    · rename_i xs hxs
      split at hk
      · rename_i s hs
        split at hk
        · rename_i e hd
          split at hk
          · rename_i se hse
            cases hb : Nat.ble (len * se.size) 16777216 && Nat.beq se.zero.cells.size se.size with
            | false => rw [hb] at hk; exact absurd hk Bool.false_ne_true
            | true =>
              rw [hb] at hk
              simp only [Bool.and_eq_true] at hb
              simp only [cond_true] at hk
              split at hk
              · rename_i cs hf
                have hz := Nat.eq_of_beq_eq_true hb.2
                obtain ⟨h1, h2⟩ := opds_den A _ _ hxs
                have hp : (parts.map fun (i, x) => (i, a.eval x)) = (((parts.toList.map (·.1)).zip xs).map fun (i, x) => (i, x.den ρ)).toArray := by
                  apply Array.toList_inj.1
                  rw [Array.toList_map]
                  show _ = ((parts.toList.map (·.1)).zip xs).map fun (i, x) => (i, x.den ρ)
                  have : (((parts.toList.map (·.1)).zip xs).map fun (i, x) => (i, SV.den ρ x)) = (parts.toList.map (·.1)).zip (xs.map (SV.den ρ)) := by
                    rw [List.zip_map_right]; rfl
                  rw [this, ← h1, List.map_map, List.zip_map']
                  rfl
                have k1 := buildSlice_run hs hd hse (Nat.le_of_ble_eq_true hb.1) hz hf ρ w
                have hlt : ∀ y ∈ cs, y.lt ρ h.nx := (fill_den (ρ := ρ) (n := h.nx) _ _ cs hf).2 (repCells_lt _ _) (fun p hp => h2 p.2 (List.of_mem_zip hp).2)
                unfold Oper.wp execOp; rw [ho]; dsimp only
                rw [hp, val k1, Oper.upon_value]
                have old : K (.slc h.nx 0 len (.lit len)) (h.new (.cells cs 0 (e + 1))) = true → next (a.put o.dst (.slice (some ⟨w.heap.size, 0, none⟩) len len)) { w with heap := w.heap.push (.cells (cs.map (SV.den ρ)).toArray e) } := fun hk =>
                  hn _ _ ⟨_, _, extend ρ h.nx ⟨w.heap.size, 0, 0⟩, hk, by simp [SV.den, extend_same, SCap.den], ⟨Nat.lt_succ_self _, trivial, Nat.le_refl _⟩, new_cells H hlt _ rfl e, extend_ext _ _ _, Nat.le_succ _, Mem.le_refl _⟩
                unfold buildA at hk
                cases hop : h.M.X.op with
                | false => rw [hop] at hk; exact old hk
                | true =>
                  rw [hop] at hk
                  simp only [cond_true] at hk
                  split at hk
                  · rename_i vs hvs
                    obtain ⟨A', k2, k3⟩ := arena_new H vs.toArray e w.drawn
                    rw [plains_den ρ cs vs hvs]
                    exact hn _ _ ⟨_, _, ρ, (h.M.X.hD _).1 hk _ A' k2, rfl, trivial, k3, Ext.refl _ _, Nat.le_refl _, Mem.put_le _ _⟩
                  · exact old hk
              · exact absurd hk Bool.false_ne_true
          · exact absurd hk Bool.false_ne_true
        · exact absurd hk Bool.false_ne_true
      · exact absurd hk Bool.false_ne_true
    · exact absurd hk Bool.false_ne_true
  · split at hk
    · rename_i m k v hm hkk hv
      obtain ⟨h1, _⟩ := opd_den A hm
      obtain ⟨h2, h3⟩ := opd_den A hkk
      obtain ⟨h4, h5⟩ := opd_den A hv
      obtain ⟨w', k1, k2⟩ := putV_run hk H h3 h5
      unfold Oper.wp execOp; rw [ho]; dsimp only
      rw [h1, h2, h4, skp k1, Oper.upon_skip]; exact hn _ w' k2
    · exact absurd hk Bool.false_ne_true
  · split at hk
    · rename_i m k v hm hkk hv
      obtain ⟨h1, _⟩ := opd_den A hm
      obtain ⟨h2, h3⟩ := opd_den A hkk
      obtain ⟨h4, h5⟩ := opd_den A hv
      obtain ⟨w', k1, k2⟩ := putV_run hk H h3 h5
      unfold Oper.wp execOp; rw [ho]; dsimp only
      rw [h1, h2, h4, skp k1, Oper.upon_skip]; exact hn _ w' k2
    · exact absurd hk Bool.false_ne_true
  · split at hk
    · rename_i x hx
      obtain ⟨h1, _⟩ := opd_den A hx
      obtain ⟨v, w', k1, k2⟩ := rangeV_run hk H
      unfold Oper.wp execOp; rw [ho]; dsimp only
      rw [h1, val k1, Oper.upon_value]; exact hn v w' k2
    · exact absurd hk Bool.false_ne_true
  · split at hk
    · rename_i x hx
      obtain ⟨h1, _⟩ := opd_den A hx
      obtain ⟨v, w', k1, k2⟩ := nextV_run hk H o.type
      unfold Oper.wp execOp; rw [ho]; dsimp only
      rw [h1, val k1, Oper.upon_value]; exact hn v w' k2
    · exact absurd hk Bool.false_ne_true
  · exact call_wp CS hk A H o ho hn hp
  · split at hk
    · rename_i x hx
      obtain ⟨h1, h2⟩ := opd_den A hx
      obtain ⟨v, w', k1, k2⟩ := convE_run hk H h2
      unfold Oper.wp execOp; rw [ho]; dsimp only
      rw [h1, val k1, Oper.upon_value]; exact hn v w' k2
    · exact absurd hk Bool.false_ne_true
  · split at hk
    · rename_i x hx
      obtain ⟨h1, h2⟩ := opd_den A hx
      cases hi : isIf x with
      | false => rw [hi] at hk; exact absurd hk Bool.false_ne_true
      | true =>
        rw [hi] at hk
        have hk : E x h = true := hk
        obtain ⟨t, v, hd⟩ := isIf_den hi ρ
        unfold Oper.wp execOp; rw [ho]; dsimp only
        have : (do pure (.value (← Instr.panic (x.den ρ))) : Sem Next).run P w = .halt (.panic (x.den ρ)) w := by
          rw [hd]; rfl
        rw [h1, this, Oper.upon_panic]
        exact hp _ w ⟨x, h, ρ, hk, rfl, h2, H, Ext.refl _ _, Nat.le_refl _, Mem.le_refl _⟩
    · exact absurd hk Bool.false_ne_true
  · exact absurd hk Bool.false_ne_true

end
end Go.Sx
