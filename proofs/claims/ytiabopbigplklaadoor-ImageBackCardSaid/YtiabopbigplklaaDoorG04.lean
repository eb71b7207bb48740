/-
  The symbolic executor: copies, maps, ranges over strings; all effects but calls of Go functions.
  The symbolic executor: bytes of strings, strings of bytes.
  The symbolic executor: one operation; operations in the text's order.
-/
import Derived.Test.YtiabopbigplklaaDoorG03
import Derived.Lib.Builder
import Derived.Lib.UnsafeStr
import Derived.Laws.BytesArg
import Derived.Laws.IdiomStrings
import Derived.Orders
namespace Go.Sx
noncomputable section

/-! ### copy -/

def copyV (P : Program) (h : HS) (ts : List TypeId) (d x : SV) (K : SV → HS → Bool) : Bool :=
  match ts with
  | dt :: _ => match ty P dt with
    | some sd => match sd.und with
      | .slice e => match ty P e, lenS x with
        | some se, some m => match d with
          | .slc b o l _ => match srcCells h se.size (Nat.min m l) x, h.H.get b with
            | some nc, some (.cells cs es τ) => bif nc.all SV.one then (match overlayB cs o nc with
              | some cs' => K (.v (.int .i64 (Nat.min m l))) { h with H := h.H.set b (.cells cs' es τ) }
              | none => false) else false
            | _, _ => false
          | .v (.slice none 0 0) => K (.v (.int .i64 0)) h
          | .v (.slice (some ⟨g, o, none⟩) l _) => h.M.D (∃ ys : List Value, srcA h se.size (Nat.min m l) x = some ys ∧ (∀ v ∈ ys, v.oneCell' = true) ∧ h.M.A.Room g o ys.length ∧ ∀ A', h.M.A.Put A' g o ys → K (.v (.int .i64 (Nat.min m l))) (h.put A') = true)
          | _ => false
        | _, _ => false
      | _ => false
    | none => false
  | [] => false

theorem copyV_run {P : Program} {h : HS} {ts : List TypeId} {d x : SV} {K : SV → HS → Bool} (hk : copyV P h ts d x K) {ρ : Nat → Loc} {w : World} (H : HRel ρ h w) (u : TypeId) :
    ∃ v w', (Builtin.copy_ ts.toArray u #[d.den ρ, x.den ρ]).run P w = .ok v w' ∧ Post ρ h K v w' := by
  unfold copyV at hk
  split at hk
  · rename_i dt ts'
    split at hk
    · rename_i sd hsd
      split at hk
      · rename_i e hd
        split at hk
        · rename_i se m hse hm
          have hlx := lenS_run (P := P) hm ρ w
          have h0 : (dt :: ts').toArray[0]? = some dt := by simp
          split at hk
          · rename_i b o l c
            split at hk
            · rename_i nc cs es τ hnc hb
              cases hone : nc.all SV.one with
              | false => rw [hone] at hk; exact absurd hk Bool.false_ne_true
              | true =>
                rw [hone] at hk
                simp only [cond_true] at hk
                split at hk
                · rename_i cs' hov
                  unfold overlayB at hov
                  cases hble : Nat.ble (o + nc.length) cs.length with
                  | false => rw [hble] at hov; cases hov
                  | true =>
                    rw [hble] at hov
                    injection hov with hov; subst hov
                    obtain ⟨w', k1, k2⟩ := write_cells (P := P) H hb (Nat.le_of_ble_eq_true hble) (List.all_eq_true.1 hone) (srcCells_lt hnc H)
                    have hfc : (Builtin.firstCells se.size (Nat.min m l) (x.den ρ)).run P w = .ok (nc.map (SV.den ρ)).toArray w := by
                      rcases srcCells_run (P := P) hnc H with ⟨h, _⟩ | ⟨_, _, _, _, h⟩ <;> exact h
                    refine ⟨goInt (Nat.min m l), w', ?_, _, _, ρ, hk, rfl, trivial, k2, Ext.refl _ _, Nat.le_refl _, Mem.le_refl _⟩
                    simp only [Builtin.copy_, h0, List.getElem?_toArray, List.getElem?_cons_zero, List.getElem?_cons_succ, Sem.run_bind, r_underlying w hsd, hd, Result.andThen_ok, hlx, r_sizeOf w hse, SV.den, hfc, k1, Sem.run_pure]
                · exact absurd hk Bool.false_ne_true
            · exact absurd hk Bool.false_ne_true
          · refine ⟨goInt 0, w, ?_, _, _, ρ, hk, rfl, trivial, H, Ext.refl _ _, Nat.le_refl _, Mem.le_refl _⟩
            have hz : ∃ c, (Builtin.firstCells se.size 0 (x.den ρ)).run P w = .ok c w := by
              unfold lenS at hm
              split at hm
              · exact ⟨_, by simp only [Builtin.firstCells, SV.den, Nat.zero_mul, loadCells, loadCellsFrom]; rfl⟩
              · rename_i a l' c'
                cases a with
                | none => exact ⟨_, rfl⟩
                | some a => exact ⟨_, by simp only [Builtin.firstCells, SV.den, Nat.zero_mul, loadCells, loadCellsFrom]; rfl⟩
              · simp only [Option.map_eq_some_iff] at hm
                obtain ⟨l', hl', _⟩ := hm
                rw [SV.str?_den hl']
                exact ⟨_, rfl⟩
            obtain ⟨c, hc⟩ := hz
            simp only [Builtin.copy_, h0, List.getElem?_toArray, List.getElem?_cons_zero, List.getElem?_cons_succ, Sem.run_bind, r_underlying w hsd, hd, Result.andThen_ok, hlx, r_sizeOf w hse, SV.den, Nat.min_zero, hc, Sem.run_pure]
            rfl
          · rename_i g o l c
            obtain ⟨ys, hys, hone, hroom, hk⟩ := (h.M.X.hD _).1 hk
            have hfc : (Builtin.firstCells se.size (Nat.min m l) (x.den ρ)).run P w = .ok ys.toArray w := srcA_run (P := P) hys H w.drawn
            obtain ⟨w', A', k1, k2, k3⟩ := arena_put (P := P) H hroom hone
            refine ⟨goInt (Nat.min m l), w', ?_, _, _, ρ, hk A' k2, rfl, trivial, k3, Ext.refl _ _, Nat.le_refl _, Mem.put_le _ _⟩
            simp only [Builtin.copy_, h0, List.getElem?_toArray, List.getElem?_cons_zero, List.getElem?_cons_succ, Sem.run_bind, r_underlying w hsd, hd, Result.andThen_ok, hlx, r_sizeOf w hse, SV.den, hfc, k1, Sem.run_pure]
          · exact absurd hk Bool.false_ne_true
        · exact absurd hk Bool.false_ne_true
      · exact absurd hk Bool.false_ne_true
    · exact absurd hk Bool.false_ne_true
  · exact absurd hk Bool.false_ne_true

/-! ### Maps, with keys that are numbers, strings or bools -/

def keyEq (d : TypeDesc) (x y : SV) : Option Bool :=
  match d with
  | .int _ => match x.int?, y.int? with
    | some (k, a), some (k', b) => bif kEq k k' then some (decide (a = b)) else none
    | _, _ => none
  | .string => match x.str?, y.str? with
    | some l, some m => some (beqL l m)
    | _, _ => none
  | .bool => match x, y with
    | .v (.bool a), .v (.bool b) => some (a == b)
    | _, _ => none
  | _ => none

theorem keyEq_run {d : TypeDesc} {x y : SV} {r : Bool} (h : keyEq d x y = some r) (ρ : Nat → Loc) : Instr.sameNow d (x.den ρ) (y.den ρ) = some r := by
  unfold keyEq at h
  split at h
  · split at h
    · rename_i k a k' b hx hy
      cases hk : kEq k k' with
      | false => rw [hk] at h; cases h
      | true =>
        rw [hk] at h
        injection h with h; subst h
        have := kEq_iff.1 hk
        subst this
        rw [SV.int?_den hx, SV.int?_den hy]
        simp only [Instr.sameNow, if_true]
        rfl
    · cases h
  · split at h
    · rename_i l m hl hm
      injection h with h; subst h
      rw [SV.str?_den hl, SV.str?_den hm]
      simp only [Instr.sameNow, beqL_eq]
      rw [beq_toListBytes, ByteArray.toList_eq, ByteArray.toList_eq]
    · cases h
  · split at h
    · injection h with h; subst h; rfl
    · cases h
  · cases h

def findV (d : TypeDesc) (k : SV) : List (SV × SV × Nat) → Nat → Option (Option (Nat × SV))
  | [], _ => some none
  | e :: es, i => match keyEq d k e.1 with
    | some true => some (some (i, e.2.1))
    | some false => findV d k es (i + 1)
    | none => none

theorem findV_run {d : TypeDesc} {k : SV} {ρ : Nat → Loc} : ∀ (es : List (SV × SV × Nat)) (i : Nat) (r : Option (Nat × SV)), findV d k es i = some r →
    Instr.findNow d (k.den ρ) (es.map (entDen ρ)) i = some (r.map fun (j, x) => (j, x.den ρ)) ∧ (∀ j x, r = some (j, x) → i ≤ j ∧ ∃ e, es[j - i]? = some e ∧ e.2.1 = x ∧ keyEq d k e.1 = some true) := by
  intro es
  induction es with
  | nil => intro i r h; simp only [findV, Option.some.injEq] at h; subst h; exact ⟨rfl, fun _ _ h => by cases h⟩
  | cons e es ih =>
    intro i r h
    simp only [findV] at h
    split at h
    · rename_i he
      injection h with h; subst h
      refine ⟨by simp [Instr.findNow, entDen, keyEq_run he ρ], fun j x hj => ?_⟩
      injection hj with hj; injection hj with h1 h2; subst h1; subst h2
      exact ⟨Nat.le_refl _, e, by simp, rfl, he⟩
    · rename_i he
      obtain ⟨k1, k2⟩ := ih _ _ h
      refine ⟨by simp only [List.map_cons, Instr.findNow]; rw [show (entDen ρ e).key = e.1.den ρ from rfl, keyEq_run he ρ]; exact k1, fun j x hj => ?_⟩
      obtain ⟨h1, e', h2, h3, h4⟩ := k2 j x hj
      refine ⟨by omega, e', ?_, h3, h4⟩
      rw [show j - i = (j - (i + 1)) + 1 by omega]
      simpa using h2
    · cases h

theorem findKey_run {P : Program} {t : TypeId} {s : STy} (hs : ty P t = some s) {k : SV} {es : List (SV × SV × Nat)} {r : Option (Nat × SV)} (h : findV s.und k es 0 = some r) (ρ : Nat → Loc) (w : World) :
    (Instr.findKey t (k.den ρ) (es.map (entDen ρ))).run P w = .ok (r.map fun (j, x) => (j, x.den ρ)) w := by
  simp only [Instr.findKey, Sem.run_bind, r_underlying w hs, Result.andThen_ok, (findV_run (ρ := ρ) es 0 r h).1, Sem.run_pure]

def lookV0 (P : Program) (h : HS) (t : TypeId) (x k : SV) (ok : Bool) : Option SV :=
  match ty P t with
  | none => none
  | some s => match s.und with
    | .map kt et => match ty P kt, ty P et with
      | some sk, some se => bif !(plainKey sk.und) then none else
        let out (r : SV × Bool) : SV := bif ok then .tup [r.1, .v (.bool r.2)] else r.1
        match x with
        | .v (.map none) => some (out (svOf se.zero, false))
        | .mp b => match h.H.get b with
          | some (.map es _) => match findV sk.und k es 0 with
            | some (some (_, v)) => some (out (v, true))
            | some none => some (out (svOf se.zero, false))
            | none => none
          | _ => none
        | _ => none
      | _, _ => none
    | _ => none

theorem lookV0_run {P : Program} {h : HS} {t : TypeId} {x k z : SV} {ok : Bool} (hz : lookV0 P h t x k ok = some z) {ρ : Nat → Loc} {w : World} (H : HRel ρ h w) :
    (Instr.lookup t (x.den ρ) (k.den ρ) ok).run P w = .ok (z.den ρ) w ∧ z.lt ρ h.nx := by
  unfold lookV0 at hz
  split at hz
  · cases hz
  · rename_i s hs
    split at hz
    · rename_i kt et hd
      split at hz
      · rename_i sk se hsk hse
        cases hp : plainKey sk.und with
        | false => rw [hp] at hz; simp at hz
        | true =>
          rw [hp] at hz
          simp only [Bool.not_true, cond_false] at hz
          have hcheck : ∀ b v, (Instr.checkKey b 10000 kt v).run P w = .ok () w := fun b v => checkKey_run hsk hp b 9999 v w
          split at hz
          · injection hz with hz; subst hz
            simp only [Instr.lookup, Sem.run_bind, r_underlying w hs, hd, Result.andThen_ok, SV.den, Sem.run_pure, hcheck]
            have := findKey_run (P := P) hsk (k := k) (es := []) (r := none) rfl ρ w
            simp only [List.map_nil, Option.map_none] at this
            rw [this]
            simp only [Result.andThen_ok, Sem.run_bind, r_zeroValue w hse, Sem.run_pure]
            cases ok
            · exact ⟨by simp [svOf_den], svOf_lt _ _ _⟩
            · exact ⟨by simp [SV.den, SV.dens, svOf_den], svOf_lt _ _ _, trivial, trivial⟩
          · rename_i b
            split at hz
            · rename_i es clock hb
              obtain ⟨_, h2, h3⟩ := H.blk b _ hb
              have h3 : w.heap[(ρ b).blk]? = some (.map (es.map (entDen ρ)).toArray clock) := h3
              have hget : (getObj (ρ b).blk).run P w = .ok (.map (es.map (entDen ρ)).toArray clock) w := by simp [getObj, Sem.run, h3]
              split at hz
              · rename_i j v hf
                injection hz with hz; subst hz
                simp only [Instr.lookup, Sem.run_bind, r_underlying w hs, hd, Result.andThen_ok, SV.den, hget, Sem.run_pure, hcheck]
                rw [findKey_run (P := P) hsk hf ρ w]
                have hv : v.lt ρ h.nx := by
                  obtain ⟨_, e, he, hev, _⟩ := (findV_run (ρ := ρ) es 0 _ hf).2 j v rfl
                  rw [← hev]; exact (h2 e (List.mem_of_getElem? he)).2
                cases ok
                · exact ⟨by simp, hv⟩
                · exact ⟨by simp [SV.den, SV.dens], hv, trivial, trivial⟩
              · rename_i hf
                injection hz with hz; subst hz
                simp only [Instr.lookup, Sem.run_bind, r_underlying w hs, hd, Result.andThen_ok, SV.den, hget, Sem.run_pure, hcheck]
                rw [findKey_run (P := P) hsk hf ρ w]
                simp only [Option.map_none, Result.andThen_ok, Sem.run_bind, r_zeroValue w hse, Sem.run_pure]
                cases ok
                · exact ⟨by simp [svOf_den], svOf_lt _ _ _⟩
                · exact ⟨by simp [SV.den, SV.dens, svOf_den], svOf_lt _ _ _, trivial, trivial⟩
              · cases hz
            · cases hz
          · cases hz
      · cases hz
    · cases hz

def lookV (P : Program) (h : HS) (t : TypeId) (x k : SV) (ok : Bool) : Option SV := match x with
  | .v (.map (some g)) => bif h.M.X.op then lookA P h t g k ok else none
  | x => lookV0 P h t x k ok

theorem lookV_run {P : Program} {h : HS} {t : TypeId} {x k z : SV} {ok : Bool} (hz : lookV P h t x k ok = some z) {ρ : Nat → Loc} {w : World} (H : HRel ρ h w) :
    (Instr.lookup t (x.den ρ) (k.den ρ) ok).run P w = .ok (z.den ρ) w ∧ z.lt ρ h.nx := by
  unfold lookV at hz
  split at hz
  · cases hop : h.M.X.op with
    | true =>
      rw [hop] at hz
      exact lookA_run hz H
    | false => rw [hop] at hz; cases hz
  · exact lookV0_run hz H

/-- A map's block that is written. -/
theorem write_map {P : Program} {ρ : Nat → Loc} {h : HS} {w : World} (H : HRel ρ h w) {b clock clock' : Nat} {es es' : List (SV × SV × Nat)} (hb : h.H.get b = some (.map es clock)) (hlt : ∀ e ∈ es', e.1.lt ρ h.nx ∧ e.2.1.lt ρ h.nx) :
    ∃ w', (setObj (ρ b).blk (.map (es'.map (entDen ρ)).toArray clock')).run P w = .ok () w' ∧ HRel ρ { h with H := h.H.set b (.map es' clock') } w' := by
  obtain ⟨_, h2, h3⟩ := H.blk b _ hb
  have h3 : w.heap[(ρ b).blk]? = some (.map (es.map (entDen ρ)).toArray clock) := h3
  refine ⟨{ w with heap := w.heap.setIfInBounds (ρ b).blk (.map (es'.map (entDen ρ)).toArray clock') }, by simp [setObj, Sem.run, h3], H.write hb hlt ?_ (fun k hk => ?_) rfl rfl rfl⟩
  · show (w.heap.setIfInBounds (ρ b).blk _)[(ρ b).blk]? = _
    rw [Array.getElem?_setIfInBounds_self, if_pos (Array.getElem?_eq_some_iff.1 h3).1]
  · show (w.heap.setIfInBounds (ρ b).blk _)[k]? = _
    rw [Array.getElem?_setIfInBounds_ne (Ne.symm hk)]

theorem keyEq_same {d : TypeDesc} {x y : SV} (h : keyEq d x y = some true) (ρ : Nat → Loc) : x.den ρ = y.den ρ := by
  unfold keyEq at h
  split at h
  · split at h
    · rename_i k a k' b hx hy
      cases hk : kEq k k' with
      | false => rw [hk] at h; cases h
      | true =>
        rw [hk] at h
        injection h with h
        rw [SV.int?_den hx, SV.int?_den hy, kEq_iff.1 hk, of_decide_eq_true h]
    · cases h
  · split at h
    · rename_i l m hl hm
      injection h with h
      rw [beqL_eq] at h
      rw [SV.str?_den hl, SV.str?_den hm, eq_of_beq h]
    · cases h
  · split at h
    · injection h with h
      rw [eq_of_beq h]
    · cases h
  · cases h

def replAt (es : List (SV × SV × Nat)) (i : Nat) (k v : SV) : List (SV × SV × Nat) :=
  match es, i with
  | [], _ => []
  | e :: es, 0 => (k, v, e.2.2) :: es
  | e :: es, i + 1 => e :: replAt es i k v

theorem replAt_den (ρ : Nat → Loc) (k v : SV) : ∀ (es : List (SV × SV × Nat)) (i : Nat), (replAt es i k v).map (entDen ρ) = (es.map (entDen ρ)).modify i fun e => { e with key := k.den ρ, val := v.den ρ }
  | [], i => by cases i <;> rfl
  | e :: es, 0 => rfl
  | e :: es, i + 1 => by simp only [replAt, List.map_cons, List.modify_succ_cons, replAt_den ρ k v es i]

theorem replAt_lt {ρ : Nat → Loc} {n : Nat} {k v : SV} (hk : k.lt ρ n) (hv : v.lt ρ n) : ∀ (es : List (SV × SV × Nat)) (i : Nat), (∀ e ∈ es, e.1.lt ρ n ∧ e.2.1.lt ρ n) → ∀ e ∈ replAt es i k v, e.1.lt ρ n ∧ e.2.1.lt ρ n
  | [], _, _, e, he => by simp [replAt] at he
  | e0 :: es, 0, h, e, he => by
    simp only [replAt, List.mem_cons] at he
    rcases he with rfl | he
    · exact ⟨hk, hv⟩
    · exact h e (List.mem_cons_of_mem _ he)
  | e0 :: es, i + 1, h, e, he => by
    simp only [replAt, List.mem_cons] at he
    rcases he with rfl | he
    · exact h _ List.mem_cons_self
    · exact replAt_lt hk hv es i (fun e he => h e (List.mem_cons_of_mem _ he)) e he

def putV0 (P : Program) (h : HS) (t : TypeId) (m k v : SV) (K : SV → HS → Bool) : Bool :=
  match ty P t with
  | none => false
  | some s => match s.und, m with
    | .map kt _, .mp b => match ty P kt, h.H.get b with
      | some sk, some (.map es clock) => bif !(plainKey sk.und) then false else
        match findV sk.und k es 0 with
        | some (some (i, _)) => K (.v (.tuple #[])) { h with H := h.H.set b (.map (replAt es i k v) clock) }
        | some none => K (.v (.tuple #[])) { h with H := h.H.set b (.map (es ++ [(k, v, clock)]) (clock + 1)) }
        | none => false
      | _, _ => false
    | _, _ => false

theorem putV0_run {P : Program} {h : HS} {t : TypeId} {m k v : SV} {K : SV → HS → Bool} (hk : putV0 P h t m k v K) {ρ : Nat → Loc} {w : World} (H : HRel ρ h w) (hkl : k.lt ρ h.nx) (hvl : v.lt ρ h.nx) :
    ∃ w', (Instr.mapUpdate t (m.den ρ) (k.den ρ) (v.den ρ)).run P w = .ok () w' ∧ Post ρ h K (.tuple #[]) w' := by
  unfold putV0 at hk
  split at hk
  · exact absurd hk Bool.false_ne_true
  · rename_i s hs
    split at hk
    · rename_i kt et b hd
      split at hk
      · rename_i sk es clock hsk hb
        cases hp : plainKey sk.und with
        | false => rw [hp] at hk; exact absurd hk Bool.false_ne_true
        | true =>
          rw [hp] at hk
          simp only [Bool.not_true, cond_false] at hk
          have hcheck : ∀ b v, (Instr.checkKey b 10000 kt v).run P w = .ok () w := fun b v => checkKey_run hsk hp b 9999 v w
          obtain ⟨_, h2, h3⟩ := H.blk b _ hb
          have h3 : w.heap[(ρ b).blk]? = some (.map (es.map (entDen ρ)).toArray clock) := h3
          have hget : (getObj (ρ b).blk).run P w = .ok (.map (es.map (entDen ρ)).toArray clock) w := by simp [getObj, Sem.run, h3]
          split at hk
          · rename_i i x hf
            obtain ⟨_, e, he, hev, hke⟩ := (findV_run (ρ := ρ) es 0 _ hf).2 i x rfl
            obtain ⟨w', k1, k2⟩ := write_map (P := P) H hb (replAt_lt hkl hvl es i h2) (clock' := clock)
            refine ⟨w', ?_, _, _, ρ, hk, rfl, trivial, k2, Ext.refl _ _, Nat.le_refl _, Mem.le_refl _⟩
            have hfk := findKey_run (P := P) hsk hf ρ w
            have hi : ((es.map (entDen ρ)).toArray)[i]? = some (entDen ρ e) := by
              have : es[i]? = some e := by simpa using he
              simp [this]
            have hstay : ∀ x : Value, (∃ k n, x = .int k n) ∨ (∃ s, x = .string s) ∨ (∃ b, x = .bool b) → (Instr.keyThatStays x x).run P w = .ok x w := by
              intro x hx
              have : Instr.sameBits 10000 x x = true := by
                rcases hx with ⟨k, n, rfl⟩ | ⟨s, rfl⟩ | ⟨b, rfl⟩
                · simp [Instr.sameBits]
                · simp only [Instr.sameBits]; rw [beq_toListBytes]; simp
                · simp [Instr.sameBits]
              simp [Instr.keyThatStays, this]
            have hshape : (∃ k' n, k.den ρ = .int k' n) ∨ (∃ s, k.den ρ = .string s) ∨ (∃ b, k.den ρ = .bool b) := by
              unfold keyEq at hke
              split at hke
              · split at hke
                · rename_i k' a _ _ hx _; exact .inl ⟨_, _, SV.int?_den hx⟩
                · cases hke
              · split at hke
                · rename_i l _ hl _; exact .inr (.inl ⟨_, SV.str?_den hl⟩)
                · cases hke
              · split at hke
                · exact .inr (.inr ⟨_, rfl⟩)
                · cases hke
              · cases hke
            have hmod : (es.map (entDen ρ)).toArray.modify i (fun e => { e with key := k.den ρ, val := v.den ρ }) = ((replAt es i k v).map (entDen ρ)).toArray := by
              rw [replAt_den]; simp
            simp only [Instr.mapUpdate, Sem.run_bind, r_underlying w hs, hd, Result.andThen_ok, SV.den, hget, hcheck, hfk, Option.map_some, hi, Option.getD_some]
            rw [show (entDen ρ e).key = k.den ρ from (keyEq_same hke ρ).symm, hstay _ hshape]
            simp only [Result.andThen_ok, hmod]
            exact k1
          · rename_i hf
            obtain ⟨w', k1, k2⟩ := write_map (P := P) H hb (es' := es ++ [(k, v, clock)]) (clock' := clock + 1) (fun e he => by
              rcases List.mem_append.1 he with he | he
              · exact h2 e he
              · rw [List.mem_singleton] at he; subst he; exact ⟨hkl, hvl⟩)
            refine ⟨w', ?_, _, _, ρ, hk, rfl, trivial, k2, Ext.refl _ _, Nat.le_refl _, Mem.le_refl _⟩
            have hfk := findKey_run (P := P) hsk hf ρ w
            simp only [Instr.mapUpdate, Sem.run_bind, r_underlying w hs, hd, Result.andThen_ok, SV.den, hget, hcheck, hfk, Option.map_none]
            have : (es.map (entDen ρ)).toArray.push { key := k.den ρ, val := v.den ρ, born := clock } = ((es ++ [(k, v, clock)]).map (entDen ρ)).toArray := by simp [entDen]
            rw [this]; exact k1
          · exact absurd hk Bool.false_ne_true
      · exact absurd hk Bool.false_ne_true
    · exact absurd hk Bool.false_ne_true

def putV (P : Program) (h : HS) (t : TypeId) (m k v : SV) (K : SV → HS → Bool) : Bool := match m with
  | .v (.map (some g)) => bif h.M.X.op then putB P h t g k v K else false
  | m => putV0 P h t m k v K

theorem putV_run {P : Program} {h : HS} {t : TypeId} {m k v : SV} {K : SV → HS → Bool} (hk : putV P h t m k v K) {ρ : Nat → Loc} {w : World} (H : HRel ρ h w) (hkl : k.lt ρ h.nx) (hvl : v.lt ρ h.nx) :
    ∃ w', (Instr.mapUpdate t (m.den ρ) (k.den ρ) (v.den ρ)).run P w = .ok () w' ∧ Post ρ h K (.tuple #[]) w' := by
  unfold putV at hk
  split at hk
  · cases hop : h.M.X.op with
    | true =>
      rw [hop] at hk
      exact putB_run hk H
    | false => rw [hop] at hk; exact absurd hk Bool.false_ne_true
  · exact putV0_run hk H hkl hvl

/-- An entry whose key is a flat struct goes. -/
def delN (P : Program) (h : HS) (kt : TypeId) (m k : SV) (K : SV → HS → Bool) : Bool := match m with
  | .v (.map (some g)) => bif h.M.X.op then delB P h kt g k K else false
  | _ => false

def delV (P : Program) (h : HS) (ts : List TypeId) (m k : SV) (K : SV → HS → Bool) : Bool :=
  match ts with
  | t :: _ => match ty P t with
    | none => false
    | some s => match s.und with
      | .map kt _ => match ty P kt with
        | some sk => bif !(plainKey sk.und) then delN P h kt m k K else
          match m with
          | .v (.map none) => K (.v (.tuple #[])) h
          | .v (.map (some g)) => bif h.M.X.op then delB P h kt g k K else false
          | .mp b => match h.H.get b with
            | some (.map es clock) => match findV sk.und k es 0 with
              | some (some (i, _)) => K (.v (.tuple #[])) { h with H := h.H.set b (.map (es.eraseIdx i) clock) }
              | some none => K (.v (.tuple #[])) { h with H := h.H.set b (.map es clock) }
              | none => false
            | _ => false
          | _ => false
        | none => false
      | _ => false
  | [] => false

theorem delV_run {P : Program} {h : HS} {ts : List TypeId} {m k : SV} {K : SV → HS → Bool} (hk : delV P h ts m k K) {ρ : Nat → Loc} {w : World} (H : HRel ρ h w) (u : TypeId) :
    ∃ v w', (Builtin.delete_ ts.toArray u #[m.den ρ, k.den ρ]).run P w = .ok v w' ∧ Post ρ h K v w' := by
  unfold delV at hk
  split at hk
  · rename_i t ts'
    have h0 : (t :: ts').toArray[0]? = some t := by simp
    split at hk
    · exact absurd hk Bool.false_ne_true
    · rename_i s hs
      split at hk
      · rename_i kt et hd
        split at hk
        · rename_i sk hsk
          cases hp : plainKey sk.und with
          | false =>
            rw [hp] at hk
            have hk : delN P h kt m k K := hk
            unfold delN at hk
            split at hk
            · rename_i g
              cases hop : h.M.X.op with
              | true =>
                rw [hop] at hk
                exact delB_run hs hd hk H u
              | false => rw [hop] at hk; exact absurd hk Bool.false_ne_true
            · exact absurd hk Bool.false_ne_true
          | true =>
            rw [hp] at hk
            simp only [Bool.not_true, cond_false] at hk
            have hcheck : ∀ b v, (Instr.checkKey b 10000 kt v).run P w = .ok () w := fun b v => checkKey_run hsk hp b 9999 v w
            split at hk
            · refine ⟨.tuple #[], w, ?_, _, _, ρ, hk, rfl, trivial, H, Ext.refl _ _, Nat.le_refl _, Mem.le_refl _⟩
              simp only [Builtin.delete_, h0, List.getElem?_toArray, List.getElem?_cons_zero, List.getElem?_cons_succ, Sem.run_bind, r_underlying w hs, hd, Result.andThen_ok, SV.den, hcheck, Sem.run_pure]
            · rename_i g
              cases hop : h.M.X.op with
              | true =>
                rw [hop] at hk
                exact delB_run hs hd hk H u
              | false => rw [hop] at hk; exact absurd hk Bool.false_ne_true
            · rename_i b
              split at hk
              · rename_i es clock hb
                obtain ⟨_, h2, h3⟩ := H.blk b _ hb
                have h3 : w.heap[(ρ b).blk]? = some (.map (es.map (entDen ρ)).toArray clock) := h3
                have hget : (getObj (ρ b).blk).run P w = .ok (.map (es.map (entDen ρ)).toArray clock) w := by simp [getObj, Sem.run, h3]
                split at hk
                · rename_i i x hf
                  obtain ⟨w', k1, k2⟩ := write_map (P := P) H hb (es' := es.eraseIdx i) (clock' := clock) (fun e he => h2 e (List.mem_of_mem_eraseIdx he))
                  refine ⟨.tuple #[], w', ?_, _, _, ρ, hk, rfl, trivial, k2, Ext.refl _ _, Nat.le_refl _, Mem.le_refl _⟩
                  have hfk := findKey_run (P := P) hsk hf ρ w
                  simp only [Builtin.delete_, h0, List.getElem?_toArray, List.getElem?_cons_zero, List.getElem?_cons_succ, Sem.run_bind, r_underlying w hs, hd, Result.andThen_ok, SV.den, hget, hcheck, hfk, Option.map_some]
                  have : (es.map (entDen ρ)).toArray.eraseIdxIfInBounds i = ((es.eraseIdx i).map (entDen ρ)).toArray := by
                    apply Array.toList_inj.1
                    rw [map_eraseIdx]
                    simp
                  rw [this, k1]; rfl
                · rename_i hf
                  obtain ⟨w', k1, k2⟩ := write_map (P := P) H hb (es' := es) (clock' := clock) h2
                  refine ⟨.tuple #[], w', ?_, _, _, ρ, hk, rfl, trivial, k2, Ext.refl _ _, Nat.le_refl _, Mem.le_refl _⟩
                  have hfk := findKey_run (P := P) hsk hf ρ w
                  simp only [Builtin.delete_, h0, List.getElem?_toArray, List.getElem?_cons_zero, List.getElem?_cons_succ, Sem.run_bind, r_underlying w hs, hd, Result.andThen_ok, SV.den, hget, hcheck, hfk, Option.map_none]
                  rw [k1]; rfl
                · exact absurd hk Bool.false_ne_true
              · exact absurd hk Bool.false_ne_true
            · exact absurd hk Bool.false_ne_true
        · exact absurd hk Bool.false_ne_true
      · exact absurd hk Bool.false_ne_true
  · exact absurd hk Bool.false_ne_true

/-! ### Ranges over strings -/

def rangeV (P : Program) (h : HS) (t : TypeId) (x : SV) (K : SV → HS → Bool) : Bool :=
  match ty P t with
  | none => false
  | some s => match s.und with
    | .string => match x.str? with
      | some l => K (.ptr h.nx 0) (h.new (.siter l 0))
      | none => false
    | .map _ _ => match x with
      | .mp b => match h.H.get b with
        | some (.map _ clock) => K (.ptr h.nx 0) (h.new (.miter b clock [] clock))
        | _ => false
      | .v (.map (some g)) => bif h.M.X.op then rangeA h g K else false
      | .v (.map none) => bif h.M.X.op then rangeN h K else false
      | _ => false
    | _ => false

theorem rangeV_run {P : Program} {h : HS} {t : TypeId} {x : SV} {K : SV → HS → Bool} (hk : rangeV P h t x K) {ρ : Nat → Loc} {w : World} (H : HRel ρ h w) :
    ∃ v w', (Instr.range t (x.den ρ)).run P w = .ok v w' ∧ Post ρ h K v w' := by
  unfold rangeV at hk
  split at hk
  · exact absurd hk Bool.false_ne_true
  · rename_i s hs
    split at hk
    · rename_i hd
      split at hk
      · rename_i l hl
        refine ⟨.pointer (some ⟨w.heap.size, 0, none⟩), { w with heap := w.heap.push (.stringIter ⟨l.toArray⟩ 0) }, ?_, _, _, extend ρ h.nx ⟨w.heap.size, 0, 0⟩, hk, ?_, Nat.lt_succ_self _, ?_, extend_ext _ _ _, Nat.le_succ _, Mem.le_refl _⟩
        · rw [SV.str?_den hl]
          simp [Instr.range, r_underlying w hs, hd]
        · simp [SV.den, extend_same]
        · exact H.alloc (o := .stringIter ⟨l.toArray⟩ 0) (B := .siter l 0) (L := ⟨w.heap.size, 0, 0⟩) rfl trivial fun w' hw' => ⟨rfl, hw'⟩
      · exact absurd hk Bool.false_ne_true
    · rename_i kt et hd
      split at hk
      · rename_i b
        split at hk
        · rename_i es clock hb
          obtain ⟨hbn, h2, h3⟩ := H.blk b _ hb
          have h3 : w.heap[(ρ b).blk]? = some (.map (es.map (entDen ρ)).toArray clock) := h3
          have hget : (getObj (ρ b).blk).run P w = .ok (.map (es.map (entDen ρ)).toArray clock) w := by simp [getObj, Sem.run, h3]
          refine ⟨.pointer (some ⟨w.heap.size, 0, none⟩), { w with heap := w.heap.push (.mapIter (some (ρ b).blk) clock #[] clock) }, ?_, _, _, extend ρ h.nx ⟨w.heap.size, 0, 0⟩, hk, ?_, Nat.lt_succ_self _, ?_, extend_ext _ _ _, Nat.le_succ _, Mem.le_refl _⟩
          · simp [Instr.range, r_underlying w hs, hd, SV.den, hget]
          · simp [SV.den, extend_same]
          · exact H.alloc (o := .mapIter (some (ρ b).blk) clock #[] clock) (B := .miter b clock [] clock) (L := ⟨w.heap.size, 0, 0⟩) rfl hbn fun w' hw' => ⟨rfl, hw'⟩
        · exact absurd hk Bool.false_ne_true
      · rename_i g
        cases hop : h.M.X.op with
        | true =>
          rw [hop] at hk
          exact rangeA_run hs hd hk H
        | false => rw [hop] at hk; exact absurd hk Bool.false_ne_true
      · cases hop : h.M.X.op with
        | true =>
          rw [hop] at hk
          exact rangeN_run hs hd hk H
        | false => rw [hop] at hk; exact absurd hk Bool.false_ne_true
      · exact absurd hk Bool.false_ne_true
    · exact absurd hk Bool.false_ne_true

/-! Steps of a walk over a map: whichever entry comes next. -/

def memN (k : Nat) : List Nat → Bool
  | [] => false
  | x :: xs => bif Nat.beq x k then true else memN k xs

theorem memN_eq (k : Nat) (l : List Nat) : memN k l = l.contains k := by
  induction l with
  | nil => rfl
  | cons x xs ih =>
    simp only [memN, ih, List.contains_cons]
    have : Nat.beq x k = (k == x) := by
      cases hb : Nat.beq x k with
      | true => have := Nat.eq_of_beq_eq_true hb; subst this; simp
      | false =>
        have : k ≠ x := fun e => by subst e; rw [Nat.beq_refl] at hb; cases hb
        simp [this]
    rw [this]
    cases (k == x) <;> rfl

def leftV (seen : List Nat) (es : List (SV × SV × Nat)) : List (SV × SV × Nat) := es.filter fun e => !memN e.2.2 seen
def oldV (since : Nat) (es : List (SV × SV × Nat)) : List (SV × SV × Nat) := es.filter fun e => Nat.blt e.2.2 since
def newV (since : Nat) (es : List (SV × SV × Nat)) : List (SV × SV × Nat) := es.filter fun e => Nat.ble since e.2.2

def candV (since : Nat) (left : List (SV × SV × Nat)) : List (Option (SV × SV × Nat)) :=
  match oldV since left with
  | [] => none :: (newV since left).map some
  | e :: es => (e :: es ++ newV since left).map some

/-- All of them. -/
def allP {α : Type} (F : α → Bool) : List α → Bool
  | [] => true
  | x :: xs => match xs with
    | [] => F x
    | _ :: _ => bif F x then allP F xs else false

theorem allP_mem {α : Type} {F : α → Bool} : ∀ {l : List α}, allP F l → ∀ x ∈ l, F x := by
  intro l
  induction l with
  | nil => intro _ x hx; cases hx
  | cons y l ih =>
    intro h x hx
    cases l with
    | nil =>
      have : x = y := by simpa using hx
      subst this; exact h
    | cons z l =>
      have h : (bif F y then allP F (z :: l) else false) = true := h
      cases hy : F y with
      | false => rw [hy] at h; cases h
      | true =>
        rw [hy] at h
        rcases List.mem_cons.1 hx with rfl | hx
        · exact hy
        · exact ih h x hx

def goneV (seen : List Nat) (last : Nat) (es : List (SV × SV × Nat)) : Bool := !seen.isEmpty && !es.isEmpty && es.all fun e => Nat.ble last e.2.2

def stepM (h : HS) (b m since clock : Nat) (seen : List Nat) (K : SV → HS → Bool) : Option (SV × SV × Nat) → Bool
  | some e => K (.tup [.v (.bool true), e.1, e.2.1]) { h with H := h.H.set b (.miter m since (seen ++ [e.2.2]) clock) }
  | none => K (.v (.tuple #[.bool false])) h

def nextM (h : HS) (b m since last : Nat) (seen : List Nat) (K : SV → HS → Bool) : Bool :=
  match h.H.get m with
  | some (.map es clock) => bif goneV seen last es then false else allP (stepM h b m since clock seen K) (candV since (leftV seen es))
  | _ => false

theorem candV_den {ρ : Nat → Loc} {es : List (SV × SV × Nat)} {seen : List Nat} {since : Nat} :
    (((if (((es.map (entDen ρ)).toArray.filter fun e => !seen.toArray.contains e.born).filter (·.born < since)).isEmpty then #[none] else #[]) ++
      ((((es.map (entDen ρ)).toArray.filter fun e => !seen.toArray.contains e.born).filter (·.born < since)) ++
       (((es.map (entDen ρ)).toArray.filter fun e => !seen.toArray.contains e.born).filter (·.born ≥ since))).map some) : Array (Option MapEntry)) =
      ((candV since (leftV seen es)).map (Option.map (entDen ρ))).toArray := by
  have h1 : (es.map (entDen ρ)).toArray.filter (fun e => !seen.toArray.contains e.born) = ((leftV seen es).map (entDen ρ)).toArray := by
    rw [List.filter_toArray, leftV, List.filter_map]
    congr 2
    apply List.filter_congr
    intro e _
    rw [Bool.eq_iff_iff]
    simp [entDen, memN_eq]
    exact decide_eq_false_iff_not
  have h2 : ∀ l : List (SV × SV × Nat), (l.map (entDen ρ)).toArray.filter (fun e => decide (e.born < since)) = ((oldV since l).map (entDen ρ)).toArray := by
    intro l
    rw [List.filter_toArray, oldV, List.filter_map]
    congr 2
    apply List.filter_congr
    intro e _
    show decide (e.2.2 < since) = Nat.blt e.2.2 since
    cases hb : Nat.blt e.2.2 since with
    | true => exact decide_eq_true (Nat.le_of_ble_eq_true hb)
    | false => exact decide_eq_false fun h => by rw [show Nat.blt e.2.2 since = true from Nat.ble_eq.mpr h] at hb; cases hb
  have h3 : ∀ l : List (SV × SV × Nat), (l.map (entDen ρ)).toArray.filter (fun e => decide (e.born ≥ since)) = ((newV since l).map (entDen ρ)).toArray := by
    intro l
    rw [List.filter_toArray, newV, List.filter_map]
    congr 2
    apply List.filter_congr
    intro e _
    show decide (since ≤ e.2.2) = Nat.ble since e.2.2
    cases hb : Nat.ble since e.2.2 with
    | true => exact decide_eq_true (Nat.le_of_ble_eq_true hb)
    | false => exact decide_eq_false fun h => by rw [show Nat.ble since e.2.2 = true from Nat.ble_eq.mpr h] at hb; cases hb
  rw [h1, h2, h3]
  unfold candV
  cases oldV since (leftV seen es) with
  | nil => simp [Function.comp_def]
  | cons e l => simp [Function.comp_def]

theorem nextM_run {P : Program} {h : HS} {b m since last : Nat} {seen : List Nat} {K : SV → HS → Bool} (hb : h.H.get b = some (.miter m since seen last)) (hk : nextM h b m since last seen K) {ρ : Nat → Loc} {w : World} (H : HRel ρ h w) (u : TypeId) :
    ∃ v w', (Instr.next ((SV.ptr b 0).den ρ) false u).run P w = .ok v w' ∧ Post ρ h K v w' := by
  unfold nextM at hk
  split at hk
  · rename_i es clock hm
    obtain ⟨_, hmn, h0, h3⟩ := H.blk b _ hb
    obtain ⟨_, hes, hm3⟩ := H.blk m _ hm
    have hm3 : w.heap[(ρ m).blk]? = some (.map (es.map (entDen ρ)).toArray clock) := hm3
    have hget : (getObj (ρ b).blk).run P w = .ok (.mapIter (some (ρ m).blk) since seen.toArray last) w := by simp [getObj, Sem.run, h3]
    have hgetm : ∀ w' : World, w'.heap = w.heap → (getObj (ρ m).blk).run P w' = .ok (.map (es.map (entDen ρ)).toArray clock) w' := fun w' hw' => by simp [getObj, Sem.run, hw', hm3]
    have hden : (SV.ptr b 0).den ρ = .pointer (some ⟨(ρ b).blk, 0, none⟩) := by simp [SV.den, h0]
    rw [hden]
    cases hg : goneV seen last es with
    | true => rw [hg] at hk; exact absurd hk Bool.false_ne_true
    | false =>
      rw [hg] at hk
      simp only [cond_false] at hk
      have hgone : (!seen.toArray.isEmpty && !(es.map (entDen ρ)).toArray.isEmpty && (es.map (entDen ρ)).toArray.all fun e => decide (e.born ≥ last)) = false := by
        rw [← hg]
        unfold goneV
        congr 1
        · simp
        · rw [List.all_toArray, List.all_map]
          refine List.all_congr rfl fun e => ?_
          show decide (last ≤ e.2.2) = Nat.ble last e.2.2
          cases hb : Nat.ble last e.2.2 with
          | true => exact decide_eq_true (Nat.le_of_ble_eq_true hb)
          | false => exact decide_eq_false fun h => by rw [show Nat.ble last e.2.2 = true from Nat.ble_eq.mpr h] at hb; cases hb
      -- what is drawn
      generalize hq : Question.mapNext ((candV since (leftV seen es)).map (Option.map (entDen ρ))).toArray.size = q
      obtain ⟨i, w1, hdraw, hw1, hi⟩ : ∃ i w1, (choose q).run P w = .ok i w1 ∧ (w1 = w ∨ w1 = { w with drawn := w.drawn + 1 }) ∧ i < (candV since (leftV seen es)).length := by
        have hpos : 0 < (candV since (leftV seen es)).length := by
          unfold candV
          split <;> simp
        simp only [choose, Sem.run]
        subst hq
        by_cases hf : (Question.mapNext ((candV since (leftV seen es)).map (Option.map (entDen ρ))).toArray.size).forced = true
        · rw [if_pos hf]
          exact ⟨0, w, rfl, .inl rfl, hpos⟩
        · rw [if_neg hf]
          refine ⟨_, _, rfl, .inr rfl, ?_⟩
          simp only [Question.cut, List.size_toArray, List.length_map]
          exact Nat.mod_lt _ hpos
      have H1 : HRel ρ h w1 := by
        rcases hw1 with rfl | rfl
        · exact H
        · exact H.drawn _
      have hheap : w1.heap = w.heap := by rcases hw1 with rfl | rfl <;> rfl
      have hc := allP_mem hk ((candV since (leftV seen es))[i]) (List.getElem_mem hi)
      have hrun : ∀ X : Sem Value, (Instr.next (.pointer (some ⟨(ρ b).blk, 0, none⟩)) false u).run P w =
          ((match ((candV since (leftV seen es)).map (Option.map (entDen ρ))).toArray[i]? with
            | some (some e) => do
              setObj (ρ b).blk (.mapIter (some (ρ m).blk) since (seen.toArray.push e.born) clock)
              pure (.tuple #[.bool true, e.key, e.val])
            | some none => pure (.tuple #[.bool false])
            | none => stuck "Next: no such candidate" : Sem Value)).run P w1 := by
        intro _
        simp only [Instr.next, Sem.run_bind, hget, hgetm w rfl, Result.andThen_ok, hgone, Bool.false_eq_true, if_false, candV_den, hq, hdraw]
        generalize ((candV since (leftV seen es)).map (Option.map (entDen ρ))).toArray[i]? = c
        cases c with
        | none => rfl
        | some c => cases c <;> rfl
      rw [hrun (pure undef)]
      have hat : ((candV since (leftV seen es)).map (Option.map (entDen ρ))).toArray[i]? = some (((candV since (leftV seen es))[i]).map (entDen ρ)) := by
        rw [List.getElem?_toArray, List.getElem?_map, List.getElem?_eq_getElem hi]; rfl
      rw [hat]
      have hmem : ∀ e, (candV since (leftV seen es))[i] = some e → e ∈ es := by
        intro e he
        have h1 : some e ∈ candV since (leftV seen es) := he ▸ List.getElem_mem hi
        have h2 : e ∈ leftV seen es := by
          unfold candV at h1
          split at h1
          · simp only [List.mem_cons, reduceCtorEq, List.mem_map, Option.some.injEq, exists_eq_right, false_or] at h1
            exact (List.mem_filter.1 h1).1
          · rename_i e' l hl
            rw [← hl] at h1
            simp only [List.mem_map, List.mem_append, Option.some.injEq, exists_eq_right] at h1
            rcases h1 with h1 | h1 <;> exact (List.mem_filter.1 h1).1
        exact (List.mem_filter.1 h2).1
      cases hce : (candV since (leftV seen es))[i] with
      | none =>
        rw [hce] at hc
        exact ⟨_, w1, rfl, _, _, ρ, hc, rfl, trivial, H1, Ext.refl _ _, Nat.le_refl _, Mem.le_refl _⟩
      | some e =>
        rw [hce] at hc
        obtain ⟨k1, k2⟩ := hes e (hmem e hce)
        have h3' : w1.heap[(ρ b).blk]? = some (.mapIter (some (ρ m).blk) since seen.toArray last) := by rw [hheap]; exact h3
        refine ⟨.tuple #[.bool true, e.1.den ρ, e.2.1.den ρ], { w1 with heap := w1.heap.setIfInBounds (ρ b).blk (.mapIter (some (ρ m).blk) since (seen ++ [e.2.2]).toArray clock) }, ?_, _, _, ρ, hc, ?_, ⟨trivial, k1, k2, trivial⟩, ?_, Ext.refl _ _, Nat.le_refl _, Mem.le_refl _⟩
        · simp [entDen, setObj, Sem.run, h3']
        · simp [SV.den, SV.dens]
        · refine H1.write hb hmn ⟨h0, ?_⟩ (fun k hk => ?_) rfl rfl rfl
          · show (w1.heap.setIfInBounds (ρ b).blk _)[(ρ b).blk]? = _
            rw [Array.getElem?_setIfInBounds_self, if_pos (Array.getElem?_eq_some_iff.1 h3').1]
          · show (w1.heap.setIfInBounds (ρ b).blk _)[k]? = _
            rw [Array.getElem?_setIfInBounds_ne (Ne.symm hk)]
  · exact absurd hk Bool.false_ne_true

def nextS (h : HS) (b pos : Nat) (s : List UInt8) (K : SV → HS → Bool) : Bool :=
  bif Nat.blt pos s.length then
    (match Utf8.decode ⟨s.toArray⟩ pos with
    | (c, width) => K (.tup [.v (.bool true), .v (.int .i64 pos), .v (.int .i32 c)]) { h with H := h.H.set b (.siter s (pos + width)) })
  else K (.v (.tuple #[.bool false])) h

def nextV (h : HS) (x : SV) (isString : Bool) (K : SV → HS → Bool) : Bool :=
  match x with
  | .ptr b o => bif Nat.beq o 0 then (match h.H.get b with
    | some (.siter s pos) => bif isString then nextS h b pos s K else false
    | some (.miter m since seen last) => bif isString then false else nextM h b m since last seen K
    | _ => false) else false
  | .v (.pointer (some ⟨i, 0, none⟩)) => bif h.M.X.op then (bif isString then false else nextA h i K) else false
  | _ => false

theorem nextV_run {P : Program} {h : HS} {x : SV} {i : Bool} {K : SV → HS → Bool} (hk : nextV h x i K) {ρ : Nat → Loc} {w : World} (H : HRel ρ h w) (u : TypeId) :
    ∃ v w', (Instr.next (x.den ρ) i u).run P w = .ok v w' ∧ Post ρ h K v w' := by
  unfold nextV at hk
  split at hk
  · rename_i b o
    cases ho : Nat.beq o 0 with
    | false => rw [ho] at hk; exact absurd hk Bool.false_ne_true
    | true =>
    rw [ho] at hk
    have ho := Nat.eq_of_beq_eq_true ho
    subst ho
    simp only [cond_true] at hk
    split at hk
    · rename_i s pos hb
      cases i with
      | false => exact absurd hk Bool.false_ne_true
      | true =>
        simp only [cond_true, nextS] at hk
        obtain ⟨_, h2, h0, h3⟩ := H.blk b _ hb
        have hget : (getObj (ρ b).blk).run P w = .ok (.stringIter ⟨s.toArray⟩ pos) w := by simp [getObj, Sem.run, h3]
        have hsz : (⟨s.toArray⟩ : ByteArray).size = s.length := by show s.toArray.size = _; simp
        have hden : (SV.ptr b 0).den ρ = .pointer (some ⟨(ρ b).blk, 0, none⟩) := by simp [SV.den, h0]
        rw [hden]
        cases hlt : Nat.blt pos s.length with
        | true =>
          rw [hlt] at hk
          simp only [cond_true] at hk
          have hlt : pos < s.length := Nat.le_of_ble_eq_true hlt
          refine ⟨.tuple #[.bool true, goInt pos, .int .i32 (Utf8.decode ⟨s.toArray⟩ pos).1], { w with heap := w.heap.setIfInBounds (ρ b).blk (.stringIter ⟨s.toArray⟩ (pos + (Utf8.decode ⟨s.toArray⟩ pos).2)) }, ?_, _, _, ρ, hk, rfl, ⟨trivial, trivial, trivial, trivial⟩, ?_, Ext.refl _ _, Nat.le_refl _, Mem.le_refl _⟩
          · simp only [Instr.next, Sem.run_bind, hget, Result.andThen_ok, hsz, hlt, if_true]
            simp [setObj, Sem.run, h3]
          · refine H.write hb trivial ⟨h0, ?_⟩ (fun k hk => ?_) rfl rfl rfl
            · show (w.heap.setIfInBounds (ρ b).blk _)[(ρ b).blk]? = _
              rw [Array.getElem?_setIfInBounds_self, if_pos (Array.getElem?_eq_some_iff.1 h3).1]
            · show (w.heap.setIfInBounds (ρ b).blk _)[k]? = _
              rw [Array.getElem?_setIfInBounds_ne (Ne.symm hk)]
        | false =>
          rw [hlt] at hk
          simp only [cond_false] at hk
          have hge : ¬ pos < s.length := fun h => by rw [show Nat.blt pos s.length = true from Nat.ble_eq.mpr h] at hlt; cases hlt
          refine ⟨.tuple #[.bool false], w, ?_, _, _, ρ, hk, rfl, trivial, H, Ext.refl _ _, Nat.le_refl _, Mem.le_refl _⟩
          simp only [Instr.next, Sem.run_bind, hget, Result.andThen_ok, hsz, hge, if_false, Sem.run_pure]
    · rename_i m since seen last hb
      cases i with
      | true => exact absurd hk Bool.false_ne_true
      | false => exact nextM_run hb hk H u
    · exact absurd hk Bool.false_ne_true
  · cases hop : h.M.X.op with
    | true =>
      rw [hop] at hk
      cases i with
      | true => exact absurd hk Bool.false_ne_true
      | false => exact nextA_run hk H u
    | false => rw [hop] at hk; exact absurd hk Bool.false_ne_true
  · exact absurd hk Bool.false_ne_true

end
end Go.Sx

namespace Go.Sx
noncomputable section

def isU8 : TypeDesc → Bool
  | .int .u8 => true
  | _ => false

theorem isU8_eq {d : TypeDesc} (h : isU8 d = true) : d = .int .u8 := by
  unfold isU8 at h
  split at h
  · rfl
  · cases h

/-- A string turned into bytes of its own, in the arena. -/
def bytesA (h : HS) (e : TypeId) (l : List UInt8) (K : SV → HS → Bool) : Bool :=
  h.M.D (∀ (g cap : Nat) (A' : Arena) (c : Array Value) (zs : List Value), l.length ≤ cap → c.toList = l.map (fun b => Value.int .u8 b.toNat) ++ zs → zs.length = cap - l.length → h.M.A.blk g = none → A'.blk g = some (.cells c e (c.size, c.size + 1)) →
    (∀ k, k ≠ g → A'.blk k = h.M.A.blk k) → K (.v (.slice (some ⟨g, 0, none⟩) l.length cap)) (h.put A') = true)

/-- A string turned into bytes of its own. -/
def bytesV (P : Program) (h : HS) (src dst : TypeId) (x : SV) (K : SV → HS → Bool) : Bool :=
  match ty P src, ty P dst with
  | some s, some d => match s.und, d.und with
    | .string, .slice e => match ty P e, x.str? with
      | some se, some l => bif isU8 se.und then (bif h.M.X.op then bytesA h e l K else K (.slc h.nx 0 l.length (.sub h.nx 0)) (h.new (.cells (bytesSV l) 1 0))) else false
      | _, _ => false
    | _, _ => false
  | _, _ => false

theorem bytesV_run {P : Program} {h : HS} {src dst : TypeId} {x : SV} {K : SV → HS → Bool} (hk : bytesV P h src dst x K) {ρ : Nat → Loc} {w : World} (H : HRel ρ h w) :
    ∃ v w', (convert src dst (x.den ρ)).run P w = .ok v w' ∧ Post ρ h K v w' := by
  unfold bytesV at hk
  split at hk
  · rename_i s d hs hd
    split at hk
    · rename_i e hsu hdu
      split at hk
      · rename_i se l hse hl
        cases hb : isU8 se.und with
        | false => rw [hb] at hk; exact absurd hk Bool.false_ne_true
        | true =>
          rw [hb] at hk
          simp only [cond_true] at hk
          have h1 : P.underlying src = some .string := by rw [(ty_facts hs).und, hsu]
          have h2 : P.underlying dst = some (.slice e) := by rw [(ty_facts hd).und, hdu]
          have h3 : P.underlying e = some (.int .u8) := by rw [(ty_facts hse).und, isU8_eq hb]
          rw [SV.str?_den hl]
          have hrun := run_bytes_of_string (P := P) w src dst e ⟨l.toArray⟩ h1 h2 h3
          have hsz : (⟨l.toArray⟩ : ByteArray).size = l.length := by show l.toArray.size = _; simp
          have hge := grownCap_ge w (⟨l.toArray⟩ : ByteArray).size 0 e
          generalize grownCap w (⟨l.toArray⟩ : ByteArray).size 0 e = cap at hrun hge
          have hcs : (bytesRow ⟨l.toArray⟩ cap).size = cap := by
            unfold bytesRow
            have : (⟨l.toArray⟩ : ByteArray).data.size = (⟨l.toArray⟩ : ByteArray).size := rfl
            rw [Array.size_append, Array.size_map, Array.size_replicate, this]; omega
          cases hop : h.M.X.op with
          | true =>
            rw [hop] at hk
            simp only [cond_true] at hk
            have hk := (h.M.X.hD _).1 hk
            obtain ⟨A', k1, k2, k3, k4⟩ := arena_obj H (.cells (bytesRow ⟨l.toArray⟩ cap) e ((bytesRow ⟨l.toArray⟩ cap).size, (bytesRow ⟨l.toArray⟩ cap).size + 1)) (w.drawn + 1)
            refine ⟨_, _, hrun, _, _, ρ, hk w.heap.size cap A' _ (List.replicate (cap - l.length) (.int .u8 0)) (by omega) ?_ (by rw [List.length_replicate]) k1 k2 k3, ?_, trivial, k4, Ext.refl _ _, Nat.le_refl _, Mem.put_le _ _⟩
            · unfold bytesRow
              have h0 : (⟨l.toArray⟩ : ByteArray).data = l.toArray := rfl
              rw [Array.toList_append, Array.toList_map, h0, Array.toList_replicate, hsz]
            · rw [hsz]; rfl
          | false =>
          rw [hop] at hk
          simp only [cond_false] at hk
          refine ⟨_, _, hrun, _, _, extend ρ h.nx ⟨w.heap.size, 0, cap⟩, hk, ?_, ⟨Nat.lt_succ_self _, Nat.lt_succ_self _, ?_⟩, ?_, extend_ext _ _ _, Nat.le_succ _, Mem.le_refl _⟩
          · simp [SV.den, SCap.den, extend_same, hsz]
          · simp only [SCap.den, extend_same]; omega
          · refine (H.drawn (w.drawn + 1)).alloc (B := .cells (bytesSV l) 1 0) (L := ⟨w.heap.size, 0, cap⟩) rfl (fun y hy => ?_) fun w' hw' => ⟨_, _, _, hw', fun i y hi => ?_, ?_, .inr ?_, ⟨.inr (Nat.le_refl _), .inl rfl⟩⟩
            · obtain ⟨b, _, rfl⟩ := List.mem_map.1 hy; trivial
            · unfold bytesSV at hi
              rw [List.getElem?_map] at hi
              cases hli : l[i]? with
              | none => rw [hli] at hi; cases hi
              | some b =>
                rw [hli] at hi
                injection hi with hi; subst hi
                have hlt := (List.getElem?_eq_some_iff.1 hli).1
                show (bytesRow ⟨l.toArray⟩ cap)[0 + i]? = _
                unfold bytesRow
                rw [Nat.zero_add, Array.getElem?_append_left (by simpa using hlt)]
                simp [hli, SV.den]
            · show 0 + cap * 1 ≤ _
              rw [hcs]; omega
            · simp only [bytesSV, List.length_map]
              show l.length ≤ cap * 1
              omega
      · exact absurd hk Bool.false_ne_true
    · exact absurd hk Bool.false_ne_true
  · exact absurd hk Bool.false_ne_true

/-- Bytes of a literal: the row bears the run-time's mark behind its last cell. -/
def markV (P : Program) (h : HS) (src dst : TypeId) (x : SV) (K : SV → HS → Bool) : Bool :=
  match ty P src with
  | some s => match s.und with
    | .slice e => match ty P e, x with
      | some se, .slc b o l c => match h.H.get b with
        | some (.cells cs es τ) => bif isU8 se.und && Nat.beq src dst then K (.slc b o l c) { h with H := h.H.set b (.cells cs es τ) } else false
        | _ => false
      | _, _ => false
    | _ => false
  | none => false

theorem markV_run {P : Program} {h : HS} {src dst : TypeId} {x : SV} {K : SV → HS → Bool} (hk : markV P h src dst x K) {ρ : Nat → Loc} {w : World} (H : HRel ρ h w) (hx : x.lt ρ h.nx) :
    ∃ v w', (convert src dst (x.den ρ)).run P w = .ok v w' ∧ Post ρ h K v w' := by
  unfold markV at hk
  split at hk
  · rename_i s hs
    split at hk
    · rename_i e hsu
      split at hk
      · rename_i se b o l c hse
        split at hk
        · rename_i cs es τ hb
          cases hc : isU8 se.und && Nat.beq src dst with
          | false => rw [hc] at hk; exact absurd hk Bool.false_ne_true
          | true =>
            rw [hc] at hk
            simp only [Bool.and_eq_true] at hc
            simp only [cond_true] at hk
            have heq := Nat.eq_of_beq_eq_true hc.2
            subst heq
            obtain ⟨_, h2, C, t, fz, h3, h4, h5, h7, h6⟩ := H.blk b _ hb
            have hshape : w.shape? (ρ b).blk = some (t, C.size) := by unfold World.shape?; rw [h3]
            have hlt := (Array.getElem?_eq_some_iff.1 h3).1
            have hfz : (w.freeze ⟨(ρ b).blk, C.size, none⟩ 1).heap[(ρ b).blk]? = some (.cells C t (if fz.1 == fz.2 then (C.size, C.size + 1) else (min fz.1 C.size, max fz.2 (C.size + 1)))) := by
              unfold World.freeze
              rw [if_neg (by decide)]
              show (w.heap.modify (ρ b).blk _)[(ρ b).blk]? = _
              rw [Array.getElem?_modify, if_pos rfl, h3]
              rfl
            refine ⟨_, w.freeze ⟨(ρ b).blk, C.size, none⟩ 1, ?_, _, _, ρ, hk, rfl, hx, ?_, Ext.refl _ _, Nat.le_refl _, Mem.le_refl _⟩
            · simp [convert, r_underlying w hs, hsu, r_underlying w hse, isU8_eq hc.1, SV.den, markStringish, hshape]
            · refine H.write hb h2 ⟨C, t, _, hfz, h4, h5, h7, ?_⟩ (fun k hk => ?_) rfl rfl rfl
              · by_cases he : fz.1 = fz.2
                · rw [if_pos (by simpa using he)]; exact ⟨.inr (Nat.le_refl _), h6.2⟩
                · rw [if_neg (by simpa using he)]
                  have := h6.1.resolve_left he
                  exact ⟨.inr (by show C.size ≤ min fz.1 C.size; omega), h6.2⟩
              · show (World.freeze w ⟨(ρ b).blk, C.size, none⟩ 1).heap[k]? = _
                unfold World.freeze
                rw [if_neg (by decide)]
                show (w.heap.modify (ρ b).blk _)[k]? = _
                rw [Array.getElem?_modify, if_neg (Ne.symm hk)]
        · exact absurd hk Bool.false_ne_true
      · exact absurd hk Bool.false_ne_true
    · exact absurd hk Bool.false_ne_true
  · exact absurd hk Bool.false_ne_true

/-- Bytes of a literal that lies in the arena are marked. -/
def markA (P : Program) (h : HS) (src dst : TypeId) (a : Addr) (n c : Nat) (K : SV → HS → Bool) : Bool :=
  match ty P src with
  | some s => match s.und with
    | .slice e => match ty P e with
      | some se => bif isU8 se.und && Nat.beq src dst then
          h.M.D (∃ cs t, h.M.A.blk a.block = some (.cells cs t (0, 0)) ∧ ∀ A' : Arena, A'.blk a.block = some (.cells cs t (cs.size, cs.size + 1)) → (∀ k, k ≠ a.block → A'.blk k = h.M.A.blk k) → K (.v (.slice (some a) n c)) (h.put A') = true)
        else false
      | none => false
    | _ => false
  | none => false

theorem markA_run {P : Program} {h : HS} {src dst : TypeId} {a : Addr} {n c : Nat} {K : SV → HS → Bool} (hk : markA P h src dst a n c K) {ρ : Nat → Loc} {w : World} (H : HRel ρ h w) :
    ∃ v w', (convert src dst (.slice (some a) n c)).run P w = .ok v w' ∧ Post ρ h K v w' := by
  unfold markA at hk
  split at hk
  · rename_i s hs
    split at hk
    · rename_i e hsu
      split at hk
      · rename_i se hse
        cases hc : isU8 se.und && Nat.beq src dst with
        | false => rw [hc] at hk; exact absurd hk Bool.false_ne_true
        | true =>
          rw [hc] at hk
          simp only [Bool.and_eq_true] at hc
          simp only [cond_true] at hk
          have heq := Nat.eq_of_beq_eq_true hc.2
          subst heq
          obtain ⟨cs, t, hb, hk⟩ := (h.M.X.hD _).1 hk
          have h3 : w.heap[a.block]? = some (.cells cs t (0, 0)) := H.are _ _ hb
          have hshape : w.shape? a.block = some (t, cs.size) := by unfold World.shape?; rw [h3]
          have hother : ∀ k, k ≠ a.block → (w.freeze ⟨a.block, cs.size, none⟩ 1).heap[k]? = w.heap[k]? := fun k hk => by
            unfold World.freeze
            rw [if_neg (by decide)]
            show (w.heap.modify a.block _)[k]? = _
            rw [Array.getElem?_modify, if_neg (Ne.symm hk)]
          have hself : (w.freeze ⟨a.block, cs.size, none⟩ 1).heap[a.block]? = some (.cells cs t (cs.size, cs.size + 1)) := by
            unfold World.freeze
            rw [if_neg (by decide)]
            show (w.heap.modify a.block _)[a.block]? = _
            rw [Array.getElem?_modify, if_pos rfl, h3]
            rfl
          have hA1 : (Arena.of fun k => if k = a.block then some (.cells cs t (cs.size, cs.size + 1)) else h.M.A.blk k).blk a.block = some (.cells cs t (cs.size, cs.size + 1)) := by
            show (if a.block = a.block then _ else _) = _
            rw [if_pos rfl]
          have hA2 : ∀ k, k ≠ a.block → (Arena.of fun k => if k = a.block then some (.cells cs t (cs.size, cs.size + 1)) else h.M.A.blk k).blk k = h.M.A.blk k := fun k hk => by
            show (if k = a.block then _ else _) = _
            rw [if_neg hk]
          refine ⟨_, w.freeze ⟨a.block, cs.size, none⟩ 1, ?_, .v (.slice (some a) n c), _, ρ, hk _ hA1 hA2, rfl, trivial, H.arena rfl rfl rfl (fun k hn _ => ?_) (fun k o ho => ?_) (fun k o ho => ?_), Ext.refl _ _, Nat.le_refl _, Mem.put_le _ _⟩
          · simp [convert, r_underlying w hs, hsu, r_underlying w hse, isU8_eq hc.1, markStringish, hshape]
            rfl
          · exact hother k fun e => by rw [e, hb] at hn; cases hn
          · by_cases e : k = a.block
            · rw [e] at ho ⊢
              rw [hA1] at ho
              rw [hself]; exact ho
            · rw [hA2 k e] at ho
              rw [hother k e]; exact H.are _ _ ho
          · by_cases e : k = a.block
            · rw [e]; exact .inl ⟨_, hb⟩
            · rw [hA2 k e] at ho
              exact .inl ⟨o, ho⟩
      · exact absurd hk Bool.false_ne_true
    · exact absurd hk Bool.false_ne_true
  · exact absurd hk Bool.false_ne_true

/-- A conversion that makes memory, or marks it. -/
def convE (P : Program) (h : HS) (src dst : TypeId) (x : SV) (K : SV → HS → Bool) : Bool :=
  match x with
  | .slc b o l c => markV P h src dst (.slc b o l c) K
  | .v (.slice (some a) n c) => markA P h src dst a n c K
  | x => bytesV P h src dst x K

theorem convE_run {P : Program} {h : HS} {src dst : TypeId} {x : SV} {K : SV → HS → Bool} (hk : convE P h src dst x K) {ρ : Nat → Loc} {w : World} (H : HRel ρ h w) (hx : x.lt ρ h.nx) :
    ∃ v w', (convert src dst (x.den ρ)).run P w = .ok v w' ∧ Post ρ h K v w' := by
  unfold convE at hk
  split at hk
  · exact markV_run hk H hx
  · exact markA_run hk H
  · exact bytesV_run hk H

def bytesOf : List SV → Option (List UInt8)
  | [] => some []
  | x :: xs => match x with
    | .v (.int .u8 n) => match bytesOf xs with
      | some l => some (UInt8.ofNat n.toNat :: l)
      | none => none
    | _ => none

theorem bytesOf_some {ρ : Nat → Loc} : ∀ {xs : List SV} {l : List UInt8}, bytesOf xs = some l → ∃ ns : List Int, xs.map (SV.den ρ) = ns.map (Value.int .u8) ∧ l = ns.map fun n => UInt8.ofNat n.toNat := by
  intro xs
  induction xs with
  | nil => intro l h; injection h with h; subst h; exact ⟨[], rfl, rfl⟩
  | cons x xs ih =>
    intro l h
    simp only [bytesOf] at h
    split at h
    · rename_i n
      split at h
      · rename_i l' hl'
        injection h with h; subst h
        obtain ⟨ns, h1, h2⟩ := ih hl'
        exact ⟨n :: ns, by simp [h1, SV.den], by simp [h2]⟩
      · cases h
    · cases h

def bytesVs : List Value → Option (List UInt8)
  | [] => some []
  | v :: vs => match v with
    | .int .u8 n => match bytesVs vs with
      | some l => some (UInt8.ofNat n.toNat :: l)
      | none => none
    | _ => none

theorem bytesVs_some : ∀ {vs : List Value} {l : List UInt8}, bytesVs vs = some l → ∃ ns : List Int, vs = ns.map (Value.int .u8) ∧ l = ns.map fun n => UInt8.ofNat n.toNat := by
  intro vs
  induction vs with
  | nil => intro l h; injection h with h; subst h; exact ⟨[], rfl, rfl⟩
  | cons v vs ih =>
    intro l h
    simp only [bytesVs] at h
    split at h
    · rename_i n
      split at h
      · rename_i l' hl'
        injection h with h; subst h
        obtain ⟨ns, h1, h2⟩ := ih hl'
        exact ⟨n :: ns, by simp [h1], by simp [h2]⟩
      · cases h
    · cases h

/-- Bytes of the arena turned into a string. -/
def strA (h : HS) (a : Addr) (n : Nat) : Option SV := bif Nat.beq n 0 then some (.str []) else match a with
  | ⟨g, o, none⟩ => match h.M.A.rd g o n with
    | some vs => match bytesVs vs with
      | some bs => some (.v (.string ⟨bs.toArray⟩))
      | none => none
    | none => none
  | _ => none

/-- Bytes turned into a string. -/
def strOfV (P : Program) (h : HS) (src dst : TypeId) (x : SV) : Option SV :=
  match ty P src, ty P dst with
  | some s, some d => match s.und, d.und with
    | .slice e, .string => match ty P e with
      | some se => bif isU8 se.und then (match x with
        | .slc b o l _ => match h.H.get b with
          | some (.cells cs _ _) => match takeN l (cs.drop o) with
            | some r => match bytesOf r with
              | some bs => some (.str bs)
              | none => none
            | none => none
          | _ => none
        | .v (.slice none _ _) => some (.str [])
        | .v (.slice (some a) n _) => bif h.M.X.op then strA h a n else none
        | _ => none) else none
      | none => none
    | _, _ => none
  | _, _ => none

theorem strOfV_run {P : Program} {h : HS} {src dst : TypeId} {x z : SV} (hz : strOfV P h src dst x = some z) {ρ : Nat → Loc} {w : World} (H : HRel ρ h w) :
    (convert src dst (x.den ρ)).run P w = .ok (z.den ρ) w ∧ z.lt ρ h.nx := by
  unfold strOfV at hz
  split at hz
  · rename_i s d hs hd
    split at hz
    · rename_i e hsu hdu
      split at hz
      · rename_i se hse
        cases hb : isU8 se.und with
        | false => rw [hb] at hz; cases hz
        | true =>
          rw [hb] at hz
          simp only [cond_true] at hz
          have h1 : P.underlying src = some (.slice e) := by rw [(ty_facts hs).und, hsu]
          have h2 : P.underlying dst = some .string := by rw [(ty_facts hd).und, hdu]
          have h3 : P.underlying e = some (.int .u8) := by rw [(ty_facts hse).und, isU8_eq hb]
          split at hz
          · rename_i b o l c
            split at hz
            · rename_i cs es τ hbl
              split at hz
              · rename_i r hr
                split at hz
                · rename_i bs hbs
                  injection hz with hz; subst hz
                  refine ⟨?_, trivial⟩
                  obtain ⟨_, _, C, t, fz, h4, h5, _⟩ := H.blk b _ hbl
                  obtain ⟨k1, k2⟩ := takeN_some hr
                  obtain ⟨ns, g1, g2⟩ := bytesOf_some (ρ := ρ) hbs
                  have hlen : ns.length = l := by rw [← k1, ← List.length_map (f := SV.den ρ), g1, List.length_map]
                  have hload := loadCells_run (P := P) (o := (ρ b).off + o) h4 (r.map (SV.den ρ)) 0 #[] (fun j v hj => by
                    rw [List.getElem?_map] at hj
                    cases hx : r[j]? with
                    | none => rw [hx] at hj; cases hj
                    | some x =>
                      rw [hx] at hj
                      injection hj with hj; subst hj
                      have := k2 j x hx
                      rw [List.getElem?_drop] at this
                      rw [Nat.zero_add, Nat.add_assoc]
                      exact h5 (o + j) x this)
                  rw [List.length_map, k1, g1] at hload
                  simp only [SV.den]
                  rw [run_convert_bytes_string w src dst e _ l _ h1 h3 h2, run_bytesToString w _ l _ ns (by simpa [loadCells] using hload), foldl_push_bytes, ← g2]
                  simp [ByteArray.empty, ByteArray.emptyWithCapacity]
                  rfl
                · cases hz
              · cases hz
            · cases hz
          · injection hz with hz; subst hz
            refine ⟨?_, trivial⟩
            simp only [SV.den]
            rw [run_convert_bytes_nil w src e h1 h3 _ _ dst h2]
            rfl
          · rename_i a n c
            cases hop : h.M.X.op with
            | false => rw [hop] at hz; cases hz
            | true =>
              rw [hop] at hz
              simp only [cond_true] at hz
              simp only [SV.den]
              rw [run_convert_bytes_string w src dst e _ n _ h1 h3 h2]
              unfold strA at hz
              cases h0 : Nat.beq n 0 with
              | true =>
                rw [h0] at hz
                have h0 := Nat.eq_of_beq_eq_true h0
                subst h0
                simp only [cond_true, Option.some.injEq] at hz
                subst hz
                refine ⟨?_, trivial⟩
                rw [run_bytesToString w a 0 c [] (by simp [loadCells, loadCellsFrom])]
                rfl
              | false =>
                rw [h0] at hz
                simp only [cond_false] at hz
                split at hz
                · rename_i g o
                  split at hz
                  · rename_i vs hvs
                    split at hz
                    · rename_i bs hbs
                      injection hz with hz; subst hz
                      refine ⟨?_, trivial⟩
                      obtain ⟨ns, g1, g2⟩ := bytesVs_some hbs
                      have hload := rd_run (P := P) H hvs
                      rw [g1] at hload
                      rw [run_bytesToString w _ n c ns (by simpa [loadCells] using hload), foldl_push_bytes, ← g2]
                      simp [ByteArray.empty, ByteArray.emptyWithCapacity, SV.den]
                      rfl
                    · cases hz
                  · cases hz
                · cases hz
          · cases hz
      · cases hz
    · cases hz
  · cases hz

/-! ### The entry that a walk over a map stands at -/

def bornV (st : Nat) : List (SV × SV × Nat) → Option SV
  | [] => none
  | e :: es => bif Nat.beq e.2.2 st then some (.tup [e.1, e.2.1]) else bornV st es

def lastN : List Nat → Option Nat
  | [] => none
  | x :: xs => match xs with
    | [] => some x
    | _ :: _ => lastN xs

theorem lastN_eq : ∀ (l : List Nat), lastN l = l.getLast?
  | [] => rfl
  | [_] => rfl
  | _ :: y :: l => by
    show lastN (y :: l) = _
    rw [lastN_eq (y :: l)]; simp

def entryV (h : HS) (x : SV) : Option SV :=
  match x with
  | .ptr b o => bif Nat.beq o 0 then (match h.H.get b with
    | some (.miter m _ seen last) => match lastN seen, h.H.get m with
      | some st, some (.map es clock) => bif Nat.beq clock last then bornV st es else none
      | _, _ => none
    | _ => none) else none
  | .v (.pointer (some ⟨i, 0, none⟩)) => bif h.M.X.op then (match h.M.A.ent i with
    | some v => some (.v v)
    | none => none) else none
  | _ => none

theorem bornV_run {ρ : Nat → Loc} {n st : Nat} : ∀ {es : List (SV × SV × Nat)} {z : SV}, bornV st es = some z → (∀ e ∈ es, e.1.lt ρ n ∧ e.2.1.lt ρ n) →
    ∃ e, (es.map (entDen ρ)).find? (fun e => e.born == st) = some e ∧ z.den ρ = .tuple #[e.key, e.val] ∧ z.lt ρ n := by
  intro es
  induction es with
  | nil => intro z h; cases h
  | cons e es ih =>
    intro z h hl
    simp only [bornV] at h
    cases hb : Nat.beq e.2.2 st with
    | true =>
      rw [hb] at h
      injection h with h; subst h
      have := Nat.eq_of_beq_eq_true hb
      obtain ⟨l1, l2⟩ := hl e List.mem_cons_self
      exact ⟨entDen ρ e, by simp [entDen, this], by simp [SV.den, SV.dens, entDen], ⟨l1, l2, trivial⟩⟩
    | false =>
      rw [hb] at h
      obtain ⟨e', h1, h2⟩ := ih h fun e he => hl e (List.mem_cons_of_mem _ he)
      refine ⟨e', ?_, h2⟩
      have hne : (e.2.2 == st) = false := by
        cases hq : e.2.2 == st with
        | false => rfl
        | true =>
          have : e.2.2 = st := by simpa using hq
          rw [this, Nat.beq_refl] at hb; cases hb
      rw [List.map_cons, List.find?_cons]
      have : ((entDen ρ e).born == st) = false := hne
      rw [this]; exact h1

theorem entryV_run {P : Program} {h : HS} {x z : SV} (hz : entryV h x = some z) {ρ : Nat → Loc} {w : World} (H : HRel ρ h w) : (Instr.entry (x.den ρ)).run P w = .ok (z.den ρ) w ∧ z.lt ρ h.nx := by
  unfold entryV at hz
  split at hz
  · rename_i b o
    cases ho : Nat.beq o 0 with
    | false => rw [ho] at hz; cases hz
    | true =>
      rw [ho] at hz
      have ho := Nat.eq_of_beq_eq_true ho
      subst ho
      simp only [cond_true] at hz
      split at hz
      · rename_i m since seen last hb
        split at hz
        · rename_i st es clock hst hm
          cases hc : Nat.beq clock last with
          | false => rw [hc] at hz; cases hz
          | true =>
            rw [hc] at hz
            simp only [cond_true] at hz
            have hc := Nat.eq_of_beq_eq_true hc
            subst hc
            obtain ⟨_, _, h0, h3⟩ := H.blk b _ hb
            obtain ⟨_, hes, hm3⟩ := H.blk m _ hm
            have hm3 : w.heap[(ρ m).blk]? = some (.map (es.map (entDen ρ)).toArray clock) := hm3
            have hget : (getObj (ρ b).blk).run P w = .ok (.mapIter (some (ρ m).blk) since seen.toArray clock) w := by simp [getObj, Sem.run, h3]
            have hgetm : (getObj (ρ m).blk).run P w = .ok (.map (es.map (entDen ρ)).toArray clock) w := by simp [getObj, Sem.run, hm3]
            have hden : (SV.ptr b 0).den ρ = .pointer (some ⟨(ρ b).blk, 0, none⟩) := by simp [SV.den, h0]
            obtain ⟨e, k1, k2, k3⟩ := bornV_run hz hes
            refine ⟨?_, k3⟩
            rw [lastN_eq] at hst
            have hback : seen.toArray.back? = some st := by rw [List.back?_toArray]; exact hst
            rw [hden, k2]
            simp only [Instr.entry, Sem.run_bind, hget, Result.andThen_ok, hback, hgetm, bne_self_eq_false, Bool.false_eq_true, if_false]
            simp [k1]
        · cases hz
      · cases hz
  · rename_i i
    cases hop : h.M.X.op with
    | true =>
      rw [hop] at hz
      simp only [cond_true] at hz
      split at hz
      · rename_i v hv
        injection hz with hz; subst hz
        exact ⟨entA_run hv H, trivial⟩
      · cases hz
    | false => rw [hop] at hz; cases hz
  · cases hz

/-! ### Pointers as unsafe.Pointer, and back -/

def unsB (P : Program) (s d : TypeDesc) (cs : List SV) (es τ o : Nat) : Bool := match s, d with
  | .pointer t, .unsafePointer => (match P.info? t with
    | some j => bif Nat.beq j.size 0 then false else Nat.blt o cs.length
    | none => false)
  | .unsafePointer, .pointer u => (match P.info? u with
    | some _ => bif Nat.beq es 0 then (match τ with
      | 0 => false
      | e + 1 => liesAt P P.depth e (cs.length / P.cellsOf e) o u 1) else false
    | none => false)
  | _, _ => false

def unsV (P : Program) (h : HS) (src dst : TypeId) (x : SV) : Option SV := match x with
  | .ptr b o => match ty P src, ty P dst, h.H.get b with
    | some s, some d, some (.cells cs es τ) => bif unsB P s.und d.und cs es τ o then some (.ptr b o) else none
    | _, _, _ => none
  | _ => none

theorem unsV_run {P : Program} {h : HS} {src dst : TypeId} {x z : SV} (hz : unsV P h src dst x = some z) {ρ : Nat → Loc} {w : World} (H : HRel ρ h w) : (convert src dst (x.den ρ)).run P w = .ok (z.den ρ) w ∧ z.lt ρ h.nx := by
  unfold unsV at hz
  split at hz
  · rename_i b o
    split at hz
    · rename_i s d cs es τ hs hd hb
      cases hu : unsB P s.und d.und cs es τ o with
      | false => rw [hu] at hz; cases hz
      | true =>
        rw [hu] at hz
        simp only [cond_true, Option.some.injEq] at hz
        subst hz
        obtain ⟨hlt, _, c, t', fz, h3, h4, h5, h7, h6⟩ := H.blk b _ hb
        refine ⟨?_, hlt⟩
        have hus := (ty_facts hs).und
        have hud := (ty_facts hd).und
        have hsh : w.shape? (ρ b).blk = some (t', c.size) := by unfold World.shape?; rw [h3]
        unfold unsB at hu
        split at hu
        · rename_i t hst hdt
          split at hu
          · rename_i j hj
            cases h0 : Nat.beq j.size 0 with
            | true => rw [h0] at hu; exact absurd hu Bool.false_ne_true
            | false =>
              rw [h0] at hu
              have hol : o < cs.length := Nat.le_of_ble_eq_true hu
              have hcell := h4 o cs[o] (List.getElem?_eq_getElem hol)
              have hlt2 := (Array.getElem?_eq_some_iff.1 hcell).1
              have hj0 : j.size ≠ 0 := fun e => by rw [e] at h0; cases h0
              rw [hst] at hus; rw [hdt] at hud
              exact Lib.run_to_unsafe w (⟨(ρ b).blk, (ρ b).off + o, none⟩ : Addr) hus hud hj hj0 hsh hlt2
          · exact absurd hu Bool.false_ne_true
        · rename_i u hst hdt
          split at hu
          · rename_i j hj
            cases he : Nat.beq es 0 with
            | false => rw [he] at hu; exact absurd hu Bool.false_ne_true
            | true =>
              rw [he] at hu
              simp only [cond_true] at hu
              cases τ with
              | zero => exact absurd hu Bool.false_ne_true
              | succ e =>
                have he := Nat.eq_of_beq_eq_true he
                rcases h6.2 with h8 | ⟨h8, h9, h10⟩
                · cases h8
                · have : e = t' := by omega
                  subst this
                  rw [hst] at hus; rw [hdt] at hud
                  have hlies : liesAt P P.depth e (c.size / P.cellsOf e) ((ρ b).off + o) u 1 = true := by
                    rw [h9, Nat.zero_add, h10 he]; exact hu
                  exact Lib.run_from_unsafe w (⟨(ρ b).blk, (ρ b).off + o, none⟩ : Addr) hus hud hj hsh hlies
          · exact absurd hu Bool.false_ne_true
        · exact absurd hu Bool.false_ne_true
    · cases hz
  · cases hz

/-- A conversion that reads. -/
def cvV (P : Program) (h : HS) (s d : TypeId) (x : SV) : Option SV := match unsV P h s d x with
  | some v => some v
  | none => strOfV P h s d x

theorem cvV_run {P : Program} {h : HS} {src dst : TypeId} {x z : SV} (hz : cvV P h src dst x = some z) {ρ : Nat → Loc} {w : World} (H : HRel ρ h w) : (convert src dst (x.den ρ)).run P w = .ok (z.den ρ) w ∧ z.lt ρ h.nx := by
  unfold cvV at hz
  split at hz
  · rename_i v hv
    injection hz with hz; subst hz
    exact unsV_run hv H
  · exact strOfV_run hz H

/-! ### Strings over rows of bytes -/

/-- unsafe.SliceData of a slice that has elements, and of nil. -/
def sdV (x : SV) : Option SV := match x with
  | .slc b o l _ => bif Nat.beq l 0 then none else some (.ptr b o)
  | .v (.slice none _ _) => some (.v (.pointer none))
  | _ => none

theorem sdV_run {P : Program} {x z : SV} (hz : sdV x = some z) {ρ : Nat → Loc} {n : Nat} (hx : x.lt ρ n) (w : World) (ts : Array TypeId) (u : TypeId) : (Builtin.unsafeSliceData_ ts u #[x.den ρ]).run P w = .ok (z.den ρ) w ∧ z.lt ρ n := by
  unfold sdV at hz
  split at hz
  · rename_i b o l c
    cases hl : Nat.beq l 0 with
    | true => rw [hl] at hz; cases hz
    | false =>
      rw [hl] at hz
      simp only [cond_false, Option.some.injEq] at hz
      subst hz
      have hl0 : l ≠ 0 := fun e => by rw [e] at hl; cases hl
      have hle : l ≤ c.den ρ := hx.2.2
      refine ⟨?_, hx.1⟩
      have hc : c.den ρ ≠ 0 := by omega
      simp only [SV.den]
      have hdef : Builtin.unsafeSliceData_ ts u #[.slice (some ⟨(ρ b).blk, (ρ b).off + o, none⟩) l (c.den ρ)] =
          (do
            if c.den ρ ≠ 0 then pure (.pointer (some ⟨(ρ b).blk, (ρ b).off + o, none⟩))
            else if (← viewAt (ρ b).blk).isSome then pure (.pointer (some ⟨(ρ b).blk, (ρ b).off + o, none⟩))
            else pure (.pointer (some ⟨← newObj (.view ⟨(ρ b).blk, (ρ b).off + o, none⟩ (← elemOf u)), 0, none⟩))) := rfl
      rw [hdef, if_pos hc]
      rfl
  · simp only [Option.some.injEq] at hz
    subst hz
    exact ⟨rfl, trivial⟩
  · cases hz

theorem HRel.frozen {ρ : Nat → Loc} {h : HS} {w : World} (H : HRel ρ h w) {b : Nat} {B : SBlk} (hb : h.H.get b = some B) (n : Nat) : HRel ρ { h with H := h.H.del b } (w.freeze ⟨(ρ b).blk, 0, none⟩ n) := by
  have other : ∀ k, k ≠ (ρ b).blk → (w.freeze ⟨(ρ b).blk, 0, none⟩ n).heap[k]? = w.heap[k]? := fun k hk => by
    unfold World.freeze
    split
    · rfl
    · show (w.heap.modify (ρ b).blk _)[k]? = _
      rw [Array.getElem?_modify, if_neg (Ne.symm hk)]
  refine ⟨?_, ?_, ?_, fun k o hk => ?_, fun b' B' hb' => ?_, fun b1 b2 B1 B2 h1 h2 he => ?_, fun b' B' hb' => ?_, fun k o hk => ?_, fun b' B' hb' => ?_, H.disj⟩
  · rw [← H.os]; unfold World.freeze; split <;> rfl
  · rw [← H.out]; unfold World.freeze; split <;> rfl
  · rw [← H.tape]; unfold World.freeze; split <;> rfl
  · have hne : k ≠ (ρ b).blk := fun e => by
      have := H.apart b B hb
      rw [← e] at this
      have hk : h.M.blk k = some o := hk
      rw [hk] at this; cases this
    rw [other k hne]; exact H.mem k o hk
  · obtain ⟨hne, hg⟩ := T.get_del hb'
    obtain ⟨k1, k2, k3⟩ := H.blk b' B' hg
    refine ⟨k1, k2, k3.of (Ext.refl ρ h.nx) k2 (other _ fun e => hne (H.inj b' b B' B hg hb e))⟩
  · exact H.inj b1 b2 B1 B2 (T.get_del h1).2 (T.get_del h2).2 he
  · exact H.apart b' B' (T.get_del hb').2
  · have hne : k ≠ (ρ b).blk := fun e => by
      have := H.aprA b B hb
      rw [← e] at this
      have hk : h.M.A.blk k = some o := hk
      rw [hk] at this; cases this
    rw [other k hne]; exact H.are k o hk
  · exact H.aprA b' B' (T.get_del hb').2

def bytes8 : List SV → Option (List UInt8)
  | [] => some []
  | x :: xs => match x with
    | .v (.int .u8 k) => bif decide (0 ≤ k) && decide (k ≤ 255) then (match bytes8 xs with
      | some l => some (UInt8.ofNat k.toNat :: l)
      | none => none) else none
    | _ => none

theorem bytes8_some {ρ : Nat → Loc} : ∀ {xs : List SV} {l : List UInt8}, bytes8 xs = some l → l.length = xs.length ∧ ∀ (j : Nat) (x : UInt8), l[j]? = some x → ∃ y, xs[j]? = some y ∧ y.den ρ = .int .u8 x.toNat
  | [], l, h => by simp only [bytes8, Option.some.injEq] at h; subst h; exact ⟨rfl, fun j x hj => by simp at hj⟩
  | x :: xs, l, h => by
    simp only [bytes8] at h
    split at h
    · rename_i k
      cases hc : decide (0 ≤ k) && decide (k ≤ 255) with
      | false => rw [hc] at h; cases h
      | true =>
        rw [hc] at h
        simp only [cond_true] at h
        split at h
        · rename_i l' hl'
          injection h with h; subst h
          obtain ⟨h1, h2⟩ := bytes8_some (ρ := ρ) hl'
          simp only [Bool.and_eq_true, decide_eq_true_eq] at hc
          refine ⟨by simp [h1], fun j y hj => ?_⟩
          cases j with
          | zero =>
            simp only [List.getElem?_cons_zero, Option.some.injEq] at hj
            subst hj
            refine ⟨_, rfl, ?_⟩
            have : ((UInt8.ofNat k.toNat).toNat : Int) = k := by
              have h3 : k.toNat < 256 := by omega
              rw [UInt8.toNat_ofNat_of_lt' (by simpa using h3)]
              omega
            simp only [SV.den, this]
          | succ j => exact h2 j y (by simpa using hj)
        · cases h
    · cases h

/-- unsafe.String over the head of a row of bytes: the row is forgotten. -/
def usV (P : Program) (h : HS) (pt : TypeId) (p n : SV) (K : SV → HS → Bool) : Bool := match n with
  | .v (.int .i64 k) => bif decide (k = 0) then (match p with
      | .ptr _ _ => K (.str []) h
      | .v (.pointer none) => K (.str []) h
      | _ => false)
    else match p with
      | .ptr b o => match h.H.get b with
        | some (.cells cs _ τ) => match τ with
          | 0 => false
          | e + 1 => match takeN k.toNat cs with
            | some r => match bytes8 r with
              | some bs => match ty P pt with
                | some s => match s.und with
                  | .pointer e' => bif Nat.beq e' e && Nat.beq o 0 && Nat.beq (P.cellsOf e) 1 && decide (k = (bs.length : Int)) && decide (k ≤ 9223372036854775807) then K (.str bs) { h with H := h.H.del b } else false
                  | _ => false
                | none => false
              | none => false
            | none => false
        | _ => false
      | _ => false
  | _ => false

theorem usV_run {P : Program} {h : HS} {pt it u : TypeId} {p n : SV} {K : SV → HS → Bool} (hk : usV P h pt p n K = true) {ρ : Nat → Loc} {w : World} (H : HRel ρ h w) :
    ∃ v w', (Builtin.unsafeString_ #[pt, it] u #[p.den ρ, n.den ρ]).run P w = .ok v w' ∧ Post ρ h K v w' := by
  unfold usV at hk
  split at hk
  · rename_i k
    cases h0 : decide (k = 0) with
    | true =>
      rw [h0] at hk
      have h0 := of_decide_eq_true h0
      subst h0
      simp only [cond_true] at hk
      split at hk
      · exact ⟨_, w, Lib.run_unsafeString_none w pt it u _, .str [], h, ρ, hk, rfl, trivial, H, Ext.refl _ _, Nat.le_refl _, Mem.le_refl _⟩
      · exact ⟨_, w, Lib.run_unsafeString_none w pt it u _, .str [], h, ρ, hk, rfl, trivial, H, Ext.refl _ _, Nat.le_refl _, Mem.le_refl _⟩
      · exact absurd hk Bool.false_ne_true
    | false =>
      rw [h0] at hk
      have hk0 : k ≠ 0 := of_decide_eq_false h0
      simp only [cond_false] at hk
      split at hk
      · rename_i b o
        split at hk
        · rename_i cs es τ hb
          cases τ with
          | zero => exact absurd hk Bool.false_ne_true
          | succ e =>
            simp only at hk
            split at hk
            · rename_i r hr
              split at hk
              · rename_i bs hbs
                split at hk
                · rename_i s hs
                  split at hk
                  · rename_i e' hd
                    cases hc : Nat.beq e' e && Nat.beq o 0 && Nat.beq (P.cellsOf e) 1 && decide (k = (bs.length : Int)) && decide (k ≤ 9223372036854775807) with
                    | false => rw [hc] at hk; exact absurd hk Bool.false_ne_true
                    | true =>
                      rw [hc] at hk
                      simp only [cond_true] at hk
                      simp only [Bool.and_eq_true, decide_eq_true_eq] at hc
                      obtain ⟨⟨⟨⟨c1, c2⟩, c3⟩, c4⟩, c5⟩ := hc
                      have c1 := Nat.eq_of_beq_eq_true c1
                      have c2 := Nat.eq_of_beq_eq_true c2
                      have c3 := Nat.eq_of_beq_eq_true c3
                      subst c1; subst c2
                      obtain ⟨_, _, c, t', fz, h3, h4, h5, h7, h6⟩ := H.blk b _ hb
                      rcases h6.2 with h8 | ⟨h8, h9, _⟩
                      · cases h8
                      · have : e' = t' := Nat.succ.inj h8
                        subst this
                        obtain ⟨r1, r2⟩ := takeN_some hr
                        obtain ⟨b1, b2⟩ := bytes8_some (ρ := ρ) hbs
                        have hu := (ty_facts hs).und
                        rw [hd] at hu
                        have hsh : w.shape? (ρ b).blk = some (e', c.size) := by unfold World.shape?; rw [h3]
                        have hcell : ∀ j x, bs[j]? = some x → w.cell? ((⟨(ρ b).blk, 0, none⟩ : Addr).add j) = some (.int .u8 x.toNat) := fun j x hj => by
                          obtain ⟨y, hy, hd'⟩ := b2 j x hj
                          have := h4 j y (r2 j y hy)
                          rw [h9, Nat.zero_add] at this
                          rw [add_none, Nat.zero_add, cell_at h3, this, hd']
                        have hne : bs ≠ [] := fun e => by rw [e] at c4; exact hk0 (by simpa using c4)
                        have hle : bs.length ≤ c.size := by
                          have hpos : 0 < bs.length := List.length_pos_iff.2 hne
                          obtain ⟨y, hy, _⟩ := b2 (bs.length - 1) bs[bs.length - 1] (List.getElem?_eq_getElem (by omega))
                          have := h4 _ y (r2 _ y hy)
                          have := (Array.getElem?_eq_some_iff.1 this).1
                          omega
                        have key := Lib.run_unsafeString_row (P := P) w pt it u e' hu c3 (ρ b).blk c.size hsh bs hne hle (by omega) hcell
                        refine ⟨_, _, ?_, .str bs, _, ρ, hk, rfl, trivial, H.frozen hb bs.length, Ext.refl _ _, Nat.le_refl _, Mem.le_refl _⟩
                        have e1 : (SV.ptr b 0).den ρ = .pointer (some ⟨(ρ b).blk, 0, none⟩) := by simp [SV.den, h9]
                        have e2 : (SV.v (.int .i64 k)).den ρ = .int .i64 bs.length := by simp [SV.den, c4]
                        rw [e1, e2]
                        exact key
                  · exact absurd hk Bool.false_ne_true
                · exact absurd hk Bool.false_ne_true
              · exact absurd hk Bool.false_ne_true
            · exact absurd hk Bool.false_ne_true
        · exact absurd hk Bool.false_ne_true
      · exact absurd hk Bool.false_ne_true
  · exact absurd hk Bool.false_ne_true

end
end Go.Sx

namespace Go.Sx
noncomputable section
variable {dfs : List Deferred}

/-- What a call asks, and what it leaves: of a value that is handed back, of one that it panics with. -/
abbrev CallT := FuncId → List SV → HS → (SV → HS → Bool) → (SV → HS → Bool) → Bool

/-- A panic by itself. -/
def pnc (v : Value) : List PanicEntry := [{ v, recovered := false }]

/-- A call of function f goes on in Φ: it is entered and hands back a value, or it is one of the model's entries, which gives one at once. -/
def CallGoes (P : Program) (f : FuncId) (args : Array Value) (w : World) (Φ Ψ : Value → World → Prop) : Prop :=
  (∃ fn, P.funcs[f]? = some fn ∧ ((fn.name == "runtime.NumGoroutine") = false ∧ fn.body.isNone = false) ∧ Calls P f args w fun e w' => (∃ v, e = .returned v ∧ Φ v w') ∨ ∃ v, e = .panicked (pnc v) ∧ Ψ v w') ∨
  (∃ v w', (callFunc f args).run P w = .ok (.value v) w' ∧ Φ v w')

def CallSound (P : Program) (call : CallT) : Prop :=
  ∀ f args h K E, call f args h K E → ∀ ρ w, HRel ρ h w → (∀ x ∈ args, x.lt ρ h.nx) → CallGoes P f (args.map (SV.den ρ)).toArray w (Post ρ h K) (Post ρ h E)

/-! ### Readings -/

def readV (P : Program) (tm : T SV) (h : HS) : Op → Option SV
  | .load t x => match opd tm x with
    | some x => loadV P h t x
    | none => none
  | .lookup t x k ok => match opd tm x, opd tm k with
    | some x, some k => lookV P h t x k ok
    | _, _ => none
  | .convert s d x => match opd tm x with
    | some x => cvV P h s d x
    | none => none
  | .entry x => match opd tm x with
    | some x => entryV h x
    | none => none
  | .call c => match c.callee with
    | .builtin .len => match c.argTypes.toList, opds tm c.args.toList with
      | [t], some [.mp b] => match ty P t, h.H.get b with
        | some s, some (.map es _) => bif isMp s.und then some (.v (.int .i64 es.length)) else none
        | _, _ => none
      | [t], some [.v (.map (some g))] => bif h.M.X.op then (match ty P t with
        | some s => bif isMp s.und then (match h.M.A.cnt g with
          | some n => some (.v (.int .i64 n))
          | none => none) else none
        | none => none) else none
      | _, _ => none
    | .builtin .unsafeSliceData => match opds tm c.args.toList with
      | some [x] => sdV x
      | _ => none
    | _ => none
  | _ => none

theorem readV_run {P : Program} {tm : T SV} {h : HS} {op : Op} {z : SV} (hz : readV P tm h op = some z) {ρ : Nat → Loc} {sz : Nat} {a : Act} {w : World} (A : ARel dfs ρ tm sz h.nx a) (H : HRel ρ h w)
    (o : Oper) (ho : o.op = op) : (execOp a.eval o).run P w = .ok (.value (z.den ρ)) w ∧ z.lt ρ h.nx := by
  unfold readV at hz
  unfold execOp
  rw [ho]
  split at hz
  · split at hz
    · rename_i x hx
      obtain ⟨h1, _⟩ := opd_den A hx
      obtain ⟨k1, k2⟩ := loadV_run hz H
      exact ⟨by simp only [Sem.run_bind, h1, k1, Result.andThen_ok, Sem.run_pure], k2⟩
    · cases hz
  · split at hz
    · rename_i x k hx hk
      obtain ⟨h1, _⟩ := opd_den A hx
      obtain ⟨h2, _⟩ := opd_den A hk
      obtain ⟨k1, k2⟩ := lookV_run hz H
      exact ⟨by simp only [Sem.run_bind, h1, h2, k1, Result.andThen_ok, Sem.run_pure], k2⟩
    · cases hz
  · split at hz
    · rename_i x hx
      obtain ⟨h1, _⟩ := opd_den A hx
      obtain ⟨k1, k2⟩ := cvV_run hz H
      exact ⟨by simp only [Sem.run_bind, h1, k1, Result.andThen_ok, Sem.run_pure], k2⟩
    · cases hz
  · split at hz
    · rename_i x hx
      obtain ⟨h1, _⟩ := opd_den A hx
      obtain ⟨k1, k2⟩ := entryV_run (P := P) hz H
      exact ⟨by simp only [Sem.run_bind, h1, k1, Result.andThen_ok, Sem.run_pure], k2⟩
    · cases hz
  · rename_i c
    split at hz
    · rename_i hc
      split at hz
      · rename_i t b ht hxs
        split at hz
        · rename_i s es clock hs hb
          cases hd : s.und with
          | map k e =>
            rw [hd] at hz
            simp only [isMp, cond_true, Option.some.injEq] at hz
            subst hz
            refine ⟨?_, trivial⟩
            obtain ⟨h1, _⟩ := opds_den A _ _ hxs
            obtain ⟨_, _, h3⟩ := H.blk b _ hb
            have h3 : w.heap[(ρ b).blk]? = some (.map (es.map (entDen ρ)).toArray clock) := h3
            have hget : (getObj (ρ b).blk).run P w = .ok (.map (es.map (entDen ρ)).toArray clock) w := by simp [getObj, Sem.run, h3]
            have hargs : c.args.map a.eval = #[.map (some (ρ b).blk)] := by
              apply Array.toList_inj.1
              rw [Array.toList_map, h1]; rfl
            have hts : c.argTypes = #[t] := Array.toList_inj.1 ht
            simp only [resolve, hc, hargs, hts, Sem.run_bind, Sem.run_pure, Result.andThen_ok, invoke, builtin, Builtin.len_, List.getElem?_toArray, List.getElem?_cons_zero, r_underlying w hs, hd, hget, SV.den]
            simp [goInt]
          | _ => rw [hd] at hz; simp [isMp] at hz
        · cases hz
      · rename_i t g ht hxs
        cases hop : h.M.X.op with
        | false => rw [hop] at hz; cases hz
        | true =>
          rw [hop] at hz
          simp only [cond_true] at hz
          split at hz
          · rename_i s hs
            cases hd : s.und with
            | map k e =>
              rw [hd] at hz
              simp only [isMp, cond_true] at hz
              split at hz
              · rename_i n hn
                simp only [Option.some.injEq] at hz
                subst hz
                refine ⟨?_, trivial⟩
                obtain ⟨h1, _⟩ := opds_den A _ _ hxs
                obtain ⟨es, clock, hb, rfl⟩ := cnt_some hn
                have h3 := H.are g _ hb
                have hget : (getObj g).run P w = .ok (.map es clock) w := by simp [getObj, Sem.run, h3]
                have hargs : c.args.map a.eval = #[.map (some g)] := by
                  apply Array.toList_inj.1
                  rw [Array.toList_map, h1]; rfl
                have hts : c.argTypes = #[t] := Array.toList_inj.1 ht
                simp only [resolve, hc, hargs, hts, Sem.run_bind, Sem.run_pure, Result.andThen_ok, invoke, builtin, Builtin.len_, List.getElem?_toArray, List.getElem?_cons_zero, r_underlying w hs, hd, hget, SV.den]
                simp [goInt]
              · cases hz
            | _ => rw [hd] at hz; simp [isMp] at hz
          · cases hz
      · cases hz
    · rename_i hc
      split at hz
      · rename_i x hxs
        obtain ⟨h1, h2⟩ := opds_den A _ _ hxs
        obtain ⟨k1, k2⟩ := sdV_run (P := P) hz (h2 x (by simp)) w c.argTypes o.type
        refine ⟨?_, k2⟩
        have hargs : c.args.map a.eval = #[x.den ρ] := by
          apply Array.toList_inj.1
          rw [Array.toList_map, h1]; rfl
        simp only [resolve, hc, hargs, Sem.run_bind, Sem.run_pure, Result.andThen_ok, invoke, builtin, k1]
      · cases hz
    · cases hz
  · cases hz

/-! ### Effects -/

def asFn (x : SV) : Option (FuncId × List SV) :=
  match x with
  | .fn f caps => some (f, caps)
  | .v (.func (.func f) first caps) => bif first.isEmpty then some (f, caps.toList.map .v) else none
  | _ => none

theorem asFn_den {x : SV} {f : FuncId} {caps : List SV} (h : asFn x = some (f, caps)) (ρ : Nat → Loc) {n : Nat} (hx : x.lt ρ n) : x.den ρ = .func (.func f) #[] (caps.map (SV.den ρ)).toArray ∧ ∀ y ∈ caps, y.lt ρ n := by
  unfold asFn at h
  split at h
  · injection h with h; injection h with h1 h2; subst h1; subst h2
    exact ⟨by simp [SV.den, dens_eq], lts_iff.1 hx⟩
  · rename_i f' first caps'
    cases hf : first.isEmpty with
    | false => rw [hf] at h; cases h
    | true =>
      rw [hf] at h
      injection h with h; injection h with h1 h2; subst h1; subst h2
      have : first = #[] := Array.isEmpty_iff.1 hf
      subst this
      exact ⟨by simp [SV.den, Function.comp_def], fun y hy => by obtain ⟨z, _, rfl⟩ := List.mem_map.1 hy; trivial⟩
  · cases h

def callV (P : Program) (call : CallT) (tm : T SV) (h : HS) (c : Call) (K E : SV → HS → Bool) : Bool :=
  match c.callee with
  | .value f => match opd tm f with
    | some fv => match asFn fv, opds tm c.args.toList with
      | some (f, caps), some xs => call f (xs ++ caps) h K E
      | _, _ => false
    | none => false
  | .builtin .append => match opds tm c.args.toList with
    | some [s, x] => bif h.M.X.op then appendA P h c.argTypes.toList s x K else match lenS s, lenS x with
      | some l, some n => bif Nat.ble (l + n) 9223372036854775807 then appendV P h c.argTypes.toList s x K else false
      | _, _ => false
    | _ => false
  | .builtin .copy => match opds tm c.args.toList with
    | some [d, x] => copyV P h c.argTypes.toList d x K
    | _ => false
  | .builtin .delete => match opds tm c.args.toList with
    | some [m, k] => delV P h c.argTypes.toList m k K
    | _ => false
  | .builtin .unsafeString => match c.argTypes.toList, opds tm c.args.toList with
    | [pt, _], some [p, n] => usV P h pt p n K
    | _, _ => false
  | _ => false

/-- A value that a panic may carry. -/
def isIf (x : SV) : Bool := match x with
  | .ifc _ _ => true
  | .v (.iface _ _) => true
  | _ => false

theorem isIf_den {x : SV} (h : isIf x = true) (ρ : Nat → Loc) : ∃ t v, x.den ρ = .iface t v := by
  unfold isIf at h
  split at h
  · rename_i t y
    exact ⟨t, y.den ρ, by simp only [SV.den]⟩
  · rename_i t y
    exact ⟨t, y, by simp only [SV.den]⟩
  · cases h

/-- A row that is spelled out: in the arena, where it names no new block. -/
def buildA (h : HS) (e : TypeId) (cs : List SV) (K : SV → HS → Bool) (len : Nat) (X : Bool) : Bool := bif h.M.X.op then (match plains cs with
  | some vs => h.M.D (∀ g A', h.M.A.New A' g vs.toArray e → K (.v (.slice (some ⟨g, 0, none⟩) len len)) (h.put A') = true)
  | none => X) else X

def effV (P : Program) (call : CallT) (tm : T SV) (h : HS) (op : Op) (K E : SV → HS → Bool) : Bool :=
  match op with
  | .alloc t => allocV P h t K
  | .box t x => match opd tm x with
    | some x => boxV h t x K
    | none => false
  | .store t a x => match opd tm a, opd tm x with
    | some a, some x => storeV P h t a x K
    | _, _ => false
  | .makeSlice t l c => match opd tm l, opd tm c with
    | some l, some c => makeV P h t l c K
    | _, _ => false
  | .makeMap _ none => bif h.M.X.op then mapA h K else K (.mp h.nx) (h.new (.map [] 0))
  | .buildSlice t len parts => match opds tm (parts.toList.map (·.2)) with
    | some xs => match ty P t with
      | some s => match s.und with
        | .slice e => match ty P e with
          | some se => bif Nat.ble (len * se.size) 16777216 && Nat.beq se.zero.cells.size se.size then
              (match fillV (fun i => some (i * se.size, se.size)) (repCells (se.zero.cells.toList.map .v) len) ((parts.toList.map (·.1)).zip xs) with
              | some cs => buildA h e cs K len (K (.slc h.nx 0 len (.lit len)) (h.new (.cells cs 0 (e + 1))))
              | none => false)
            else false
          | none => false
        | _ => false
      | none => false
    | none => false
  | .mapUpdate t m k v => match opd tm m, opd tm k, opd tm v with
    | some m, some k, some v => putV P h t m k v K
    | _, _, _ => false
  | .insert t m k v => match opd tm m, opd tm k, opd tm v with
    | some m, some k, some v => putV P h t m k v K
    | _, _, _ => false
  | .range t x => match opd tm x with
    | some x => rangeV P h t x K
    | none => false
  | .next x i => match opd tm x with
    | some x => nextV h x i K
    | none => false
  | .call c => callV P call tm h c K E
  | .convert s d x => match opd tm x with
    | some x => convE P h s d x K
    | none => false
  | .panic x => match opd tm x with
    | some x => bif isIf x then E x h else false
    | none => false
  | _ => false

theorem buildSlice_run {P : Program} {t e : TypeId} {s se : STy} {len : Nat} {parts : List (Nat × SV)} {cs : List SV} (hs : ty P t = some s) (hd : s.und = .slice e) (hse : ty P e = some se) (hlen : len * se.size ≤ 16777216) (hz : se.zero.cells.size = se.size)
    (hf : fillV (fun i => some (i * se.size, se.size)) (repCells (se.zero.cells.toList.map .v) len) parts = some cs) (ρ : Nat → Loc) (w : World) :
    (Instr.buildSlice t len (parts.map fun (i, x) => (i, x.den ρ)).toArray).run P w = .ok (.slice (some ⟨w.heap.size, 0, none⟩) len len) { w with heap := w.heap.push (.cells (cs.map (SV.den ρ)).toArray e) } := by
  obtain ⟨k1, _⟩ := fill_den (ρ := ρ) (n := 0) parts _ cs hf
  have hcells : ((Array.range (len * se.size)).map ((if len * se.size = 0 then #[] else se.zero.cells)[· % (if len * se.size = 0 then #[] else se.zero.cells).size]!)) = ((repCells (se.zero.cells.toList.map .v) len).map (SV.den ρ)).toArray := by
    apply Array.toList_inj.1
    rw [repCells_den, ← rangeMap_rep, hz]
    by_cases h0 : len * se.size = 0
    · simp [h0]
    · rw [if_neg h0]; simp [hz]
  have h24 : ¬ (len * se.size > 2 ^ 24) := by
    have : (2 ^ 24 : Nat) = 16777216 := by decide
    omega
  simp only [Instr.buildSlice, Sem.run_bind, r_underlying w hs, hd, Result.andThen_ok, r_sizeOf w hse, h24, if_false]
  by_cases h0 : len * se.size = 0
  · simp only [h0, if_true] at hcells
    simp only [h0, if_true, Sem.run_bind, Sem.run_pure, Result.andThen_ok, hcells, k1, newRow, run_newObj]
  · simp only [h0, if_false] at hcells
    simp only [h0, if_false, Sem.run_bind, Sem.run_pure, Result.andThen_ok, r_zeroValue w hse, hcells, k1, newRow, run_newObj]

theorem call_wp {P : Program} {call : CallT} (CS : CallSound P call) {tm : T SV} {h : HS} {c : Call} {K E : SV → HS → Bool} (hk : callV P call tm h c K E) {ρ : Nat → Loc} {sz : Nat} {a : Act} {w : World} (A : ARel dfs ρ tm sz h.nx a) (H : HRel ρ h w)
    (o : Oper) (ho : o.op = .call c) {next : Act → World → Prop} {Q : Exit → Act → World → Prop} (hn : ∀ v w', Post ρ h K v w' → next (a.put o.dst v) w') (hp : ∀ v w', Post ρ h E v w' → Q (.panic (pnc v)) a w') : o.wp P a w next Q := by
  unfold Oper.wp execOp
  rw [ho]
  unfold callV at hk
  split at hk
  · rename_i f hc
    split at hk
    · rename_i fv hfv
      split at hk
      · rename_i f' caps xs hfn hxs
        obtain ⟨h1, h2⟩ := opd_den A hfv
        obtain ⟨h3, h4⟩ := asFn_den hfn ρ h2
        obtain ⟨h5, h6⟩ := opds_den A _ _ hxs
        have hgo := CS f' (xs ++ caps) h K E hk ρ w H (fun y hy => by
          rcases List.mem_append.1 hy with hy | hy
          · exact h6 y hy
          · exact h4 y hy)
        have hargs : c.args.map a.eval = (xs.map (SV.den ρ)).toArray := by
          apply Array.toList_inj.1
          rw [Array.toList_map, h5]
        have hrun : (do let d ← resolve a.eval c o.type; invoke d.target d.args : Sem Next).run P w = (callFunc f' ((xs ++ caps).map (SV.den ρ)).toArray).run P w := by
          simp only [resolve, hc, hargs, h1, h3, Deferred.ofValue, Sem.run_bind, Sem.run_pure, Result.andThen_ok, invoke]
          simp
        dsimp only
        rw [hrun]
        rcases hgo with ⟨fn, hf, ⟨hname, hbody⟩, hcalls⟩ | ⟨v, w', hval, hq⟩
        · have henter : (callFunc f' ((xs ++ caps).map (SV.den ρ)).toArray).run P w = .ok (.enter f' ((xs ++ caps).map (SV.den ρ)).toArray) w := by
            simp only [callFunc, Sem.run_bind, Result.andThen_ok, run_program, hf, hname, hbody, Bool.false_eq_true, if_false, Sem.run_pure]
          rw [henter, Oper.upon_enter]
          exact hcalls.mono fun e w' hor => by
            rcases hor with ⟨v, he, hq⟩ | ⟨v, he, hq⟩
            · subst he; exact hn v w' hq
            · subst he; exact hp v w' hq
        · rw [hval, Oper.upon_value]
          exact hn v w' hq
      · exact absurd hk Bool.false_ne_true
    · exact absurd hk Bool.false_ne_true
  · rename_i hc
    split at hk
    · rename_i s x hxs
      cases hop : h.M.X.op with
      | true =>
        rw [hop] at hk
        simp only [cond_true] at hk
        obtain ⟨h5, h6⟩ := opds_den A _ _ hxs
        have hargs : c.args.map a.eval = #[s.den ρ, x.den ρ] := by
          apply Array.toList_inj.1
          rw [Array.toList_map, h5]; rfl
        obtain ⟨v, w', k1, k2⟩ := appendA_run hk H o.type
        have : c.argTypes.toList.toArray = c.argTypes := rfl
        rw [this] at k1
        have hrun : (do let d ← resolve a.eval c o.type; invoke d.target d.args : Sem Next).run P w = .ok (.value v) w' := by
          simp only [resolve, hc, hargs, Sem.run_bind, Sem.run_pure, Result.andThen_ok, invoke, builtin, k1]
        dsimp only
        rw [hrun, Oper.upon_value]
        exact hn v w' k2
      | false =>
      rw [hop] at hk
      simp only [cond_false] at hk
      split at hk
      · rename_i l n hl hn'
        cases hb : Nat.ble (l + n) 9223372036854775807 with
        | false => rw [hb] at hk; exact absurd hk Bool.false_ne_true
        | true =>
          rw [hb] at hk
          simp only [cond_true] at hk
          obtain ⟨h5, h6⟩ := opds_den A _ _ hxs
          have hargs : c.args.map a.eval = #[s.den ρ, x.den ρ] := by
            apply Array.toList_inj.1
            rw [Array.toList_map, h5]; rfl
          obtain ⟨v, w', k1, k2⟩ := appendV_run hk (fun l' n' h1 h2 => by rw [hl] at h1; rw [hn'] at h2; injection h1 with h1; injection h2 with h2; subst h1; subst h2; exact Nat.le_of_ble_eq_true hb) H (h6 s (by simp)) o.type
          have : c.argTypes.toList.toArray = c.argTypes := rfl
          rw [this] at k1
          have hrun : (do let d ← resolve a.eval c o.type; invoke d.target d.args : Sem Next).run P w = .ok (.value v) w' := by
            simp only [resolve, hc, hargs, Sem.run_bind, Sem.run_pure, Result.andThen_ok, invoke, builtin, k1]
          dsimp only
          rw [hrun, Oper.upon_value]
          exact hn v w' k2
      · exact absurd hk Bool.false_ne_true
    · exact absurd hk Bool.false_ne_true
  · rename_i hc
    split at hk
    · rename_i d x hxs
      obtain ⟨h5, h6⟩ := opds_den A _ _ hxs
      have hargs : c.args.map a.eval = #[d.den ρ, x.den ρ] := by
        apply Array.toList_inj.1
        rw [Array.toList_map, h5]; rfl
      obtain ⟨v, w', k1, k2⟩ := copyV_run hk H o.type
      have : c.argTypes.toList.toArray = c.argTypes := rfl
      rw [this] at k1
      have hrun : (do let d ← resolve a.eval c o.type; invoke d.target d.args : Sem Next).run P w = .ok (.value v) w' := by
        simp only [resolve, hc, hargs, Sem.run_bind, Sem.run_pure, Result.andThen_ok, invoke, builtin, k1]
      dsimp only
      rw [hrun, Oper.upon_value]
      exact hn v w' k2
    · exact absurd hk Bool.false_ne_true
  · rename_i hc
    split at hk
    · rename_i m k hxs
      obtain ⟨h5, h6⟩ := opds_den A _ _ hxs
      have hargs : c.args.map a.eval = #[m.den ρ, k.den ρ] := by
        apply Array.toList_inj.1
        rw [Array.toList_map, h5]; rfl
      obtain ⟨v, w', k1, k2⟩ := delV_run hk H o.type
      have : c.argTypes.toList.toArray = c.argTypes := rfl
      rw [this] at k1
      have hrun : (do let d ← resolve a.eval c o.type; invoke d.target d.args : Sem Next).run P w = .ok (.value v) w' := by
        simp only [resolve, hc, hargs, Sem.run_bind, Sem.run_pure, Result.andThen_ok, invoke, builtin, k1]
      dsimp only
      rw [hrun, Oper.upon_value]
      exact hn v w' k2
    · exact absurd hk Bool.false_ne_true
  · rename_i hc
    split at hk
    · rename_i pt it p n hts hxs
      obtain ⟨h5, h6⟩ := opds_den A _ _ hxs
      have hargs : c.args.map a.eval = #[p.den ρ, n.den ρ] := by
        apply Array.toList_inj.1
        rw [Array.toList_map, h5]; rfl
      have hts : c.argTypes = #[pt, it] := Array.toList_inj.1 hts
      obtain ⟨v, w', k1, k2⟩ := usV_run (it := it) (u := o.type) hk H
      have hrun : (do let d ← resolve a.eval c o.type; invoke d.target d.args : Sem Next).run P w = .ok (.value v) w' := by
        simp only [resolve, hc, hargs, hts, Sem.run_bind, Sem.run_pure, Result.andThen_ok, invoke, builtin, k1]
      dsimp only
      rw [hrun, Oper.upon_value]
      exact hn v w' k2
    · exact absurd hk Bool.false_ne_true
  · exact absurd hk Bool.false_ne_true

theorem effV_wp {P : Program} {call : CallT} (CS : CallSound P call) {tm : T SV} {h : HS} {op : Op} {K E : SV → HS → Bool} (hk : effV P call tm h op K E) {ρ : Nat → Loc} {sz : Nat} {a : Act} {w : World} (A : ARel dfs ρ tm sz h.nx a) (H : HRel ρ h w)
    (o : Oper) (ho : o.op = op) {next : Act → World → Prop} {Q : Exit → Act → World → Prop} (hn : ∀ v w', Post ρ h K v w' → next (a.put o.dst v) w') (hp : ∀ v w', Post ρ h E v w' → Q (.panic (pnc v)) a w') : o.wp P a w next Q := by
  have val : ∀ {s : Sem Value} {v : Value} {w' : World}, s.run P w = .ok v w' → (do pure (.value (← s)) : Sem Next).run P w = .ok (.value v) w' := fun h => by
    simp only [Sem.run_bind, h, Result.andThen_ok, Sem.run_pure]
  have skp : ∀ {s : Sem Unit} {w' : World}, s.run P w = .ok () w' → (do s; pure .skip : Sem Next).run P w = .ok .skip w' := fun h => by
    simp only [Sem.run_bind, h, Result.andThen_ok, Sem.run_pure]
  unfold effV at hk
  split at hk
  · obtain ⟨v, w', k1, k2⟩ := allocV_run hk H
    unfold Oper.wp execOp; rw [ho]; dsimp only
    rw [val k1, Oper.upon_value]; exact hn v w' k2
  · rename_i t0 x0
    split at hk
    · rename_i x hx
      obtain ⟨h1, h2⟩ := opd_den A hx
      obtain ⟨v, w', k1, k2⟩ := boxV_run (P := P) (t := t0) hk H h2
      unfold Oper.wp execOp; rw [ho]; dsimp only
      rw [h1, val k1, Oper.upon_value]; exact hn v w' k2
    · exact absurd hk Bool.false_ne_true
  · split at hk
    · rename_i x v hx hv
      obtain ⟨h1, _⟩ := opd_den A hx
      obtain ⟨h2, h3⟩ := opd_den A hv
      obtain ⟨w', k1, k2⟩ := storeV_run hk H h3
      unfold Oper.wp execOp; rw [ho]; dsimp only
      rw [h1, h2, skp k1, Oper.upon_skip]; exact hn _ w' k2
    · exact absurd hk Bool.false_ne_true
  · split at hk
    · rename_i l c hl hc
      obtain ⟨h1, _⟩ := opd_den A hl
      obtain ⟨h2, _⟩ := opd_den A hc
      obtain ⟨v, w', k1, k2⟩ := makeV_run hk H
      unfold Oper.wp execOp; rw [ho]; dsimp only
      rw [h1, h2, val k1, Oper.upon_value]; exact hn v w' k2
    · exact absurd hk Bool.false_ne_true
  · rename_i t
    cases hop : h.M.X.op with
    | true =>
      rw [hop] at hk
      obtain ⟨v, w', k1, k2⟩ := mapA_run (P := P) (t := t) hk H
      unfold Oper.wp execOp; rw [ho]; dsimp only
      rw [Option.map_none, val k1, Oper.upon_value]; exact hn v w' k2
    | false =>
    rw [hop] at hk
    simp only [cond_false] at hk
    have k1 : (Instr.makeMap t none).run P w = .ok (.map (some w.heap.size)) { w with heap := w.heap.push (.map #[] 0) } := by simp [Instr.makeMap]
    unfold Oper.wp execOp; rw [ho]; dsimp only
    rw [Option.map_none, val k1, Oper.upon_value]
    refine hn _ _ ⟨_, _, extend ρ h.nx ⟨w.heap.size, 0, 0⟩, hk, by simp [SV.den, extend_same], Nat.lt_succ_self _, ?_, extend_ext _ _ _, Nat.le_succ _, Mem.le_refl _⟩
    exact H.alloc (o := .map #[] 0) (B := .map [] 0) (L := ⟨w.heap.size, 0, 0⟩) rfl (fun e he => by cases he) fun w' hw' => hw'
  · rename_i t len parts
    split at hk
    · rename_i xs hxs
      split at hk
      · rename_i s hs
        split at hk
        · rename_i e hd
          split at hk
          · rename_i se hse
            cases hb : Nat.ble (len * se.size) 16777216 && Nat.beq se.zero.cells.size se.size with
            | false => rw [hb] at hk; exact absurd hk Bool.false_ne_true
            | true =>
              rw [hb] at hk
              simp only [Bool.and_eq_true] at hb
              simp only [cond_true] at hk
              split at hk
              · rename_i cs hf
                have hz := Nat.eq_of_beq_eq_true hb.2
                obtain ⟨h1, h2⟩ := opds_den A _ _ hxs
                have hp : (parts.map fun (i, x) => (i, a.eval x)) = (((parts.toList.map (·.1)).zip xs).map fun (i, x) => (i, x.den ρ)).toArray := by
                  apply Array.toList_inj.1
                  rw [Array.toList_map]
                  show _ = ((parts.toList.map (·.1)).zip xs).map fun (i, x) => (i, x.den ρ)
                  have : (((parts.toList.map (·.1)).zip xs).map fun (i, x) => (i, SV.den ρ x)) = (parts.toList.map (·.1)).zip (xs.map (SV.den ρ)) := by
                    rw [List.zip_map_right]; rfl
                  rw [this, ← h1, List.map_map, List.zip_map']
                  rfl
                have k1 := buildSlice_run hs hd hse (Nat.le_of_ble_eq_true hb.1) hz hf ρ w
                have hlt : ∀ y ∈ cs, y.lt ρ h.nx := (fill_den (ρ := ρ) (n := h.nx) _ _ cs hf).2 (repCells_lt _ _) (fun p hp => h2 p.2 (List.of_mem_zip hp).2)
                unfold Oper.wp execOp; rw [ho]; dsimp only
                rw [hp, val k1, Oper.upon_value]
                have old : K (.slc h.nx 0 len (.lit len)) (h.new (.cells cs 0 (e + 1))) = true → next (a.put o.dst (.slice (some ⟨w.heap.size, 0, none⟩) len len)) { w with heap := w.heap.push (.cells (cs.map (SV.den ρ)).toArray e) } := fun hk =>
                  hn _ _ ⟨_, _, extend ρ h.nx ⟨w.heap.size, 0, 0⟩, hk, by simp [SV.den, extend_same, SCap.den], ⟨Nat.lt_succ_self _, trivial, Nat.le_refl _⟩, new_cells H hlt _ rfl e, extend_ext _ _ _, Nat.le_succ _, Mem.le_refl _⟩
                unfold buildA at hk
                cases hop : h.M.X.op with
                | false => rw [hop] at hk; exact old hk
                | true =>
                  rw [hop] at hk
                  simp only [cond_true] at hk
                  split at hk
                  · rename_i vs hvs
                    obtain ⟨A', k2, k3⟩ := arena_new H vs.toArray e w.drawn
                    rw [plains_den ρ cs vs hvs]
                    exact hn _ _ ⟨_, _, ρ, (h.M.X.hD _).1 hk _ A' k2, rfl, trivial, k3, Ext.refl _ _, Nat.le_refl _, Mem.put_le _ _⟩
                  · exact old hk
              · exact absurd hk Bool.false_ne_true
          · exact absurd hk Bool.false_ne_true
        · exact absurd hk Bool.false_ne_true
      · exact absurd hk Bool.false_ne_true
    · exact absurd hk Bool.false_ne_true
  · split at hk
    · rename_i m k v hm hkk hv
      obtain ⟨h1, _⟩ := opd_den A hm
      obtain ⟨h2, h3⟩ := opd_den A hkk
      obtain ⟨h4, h5⟩ := opd_den A hv
      obtain ⟨w', k1, k2⟩ := putV_run hk H h3 h5
      unfold Oper.wp execOp; rw [ho]; dsimp only
      rw [h1, h2, h4, skp k1, Oper.upon_skip]; exact hn _ w' k2
    · exact absurd hk Bool.false_ne_true
  · split at hk
    · rename_i m k v hm hkk hv
      obtain ⟨h1, _⟩ := opd_den A hm
      obtain ⟨h2, h3⟩ := opd_den A hkk
      obtain ⟨h4, h5⟩ := opd_den A hv
      obtain ⟨w', k1, k2⟩ := putV_run hk H h3 h5
      unfold Oper.wp execOp; rw [ho]; dsimp only
      rw [h1, h2, h4, skp k1, Oper.upon_skip]; exact hn _ w' k2
    · exact absurd hk Bool.false_ne_true
  · split at hk
    · rename_i x hx
      obtain ⟨h1, _⟩ := opd_den A hx
      obtain ⟨v, w', k1, k2⟩ := rangeV_run hk H
      unfold Oper.wp execOp; rw [ho]; dsimp only
      rw [h1, val k1, Oper.upon_value]; exact hn v w' k2
    · exact absurd hk Bool.false_ne_true
  · split at hk
    · rename_i x hx
      obtain ⟨h1, _⟩ := opd_den A hx
      obtain ⟨v, w', k1, k2⟩ := nextV_run hk H o.type
      unfold Oper.wp execOp; rw [ho]; dsimp only
      rw [h1, val k1, Oper.upon_value]; exact hn v w' k2
    · exact absurd hk Bool.false_ne_true
  · exact call_wp CS hk A H o ho hn hp
  · split at hk
    · rename_i x hx
      obtain ⟨h1, h2⟩ := opd_den A hx
      obtain ⟨v, w', k1, k2⟩ := convE_run hk H h2
      unfold Oper.wp execOp; rw [ho]; dsimp only
      rw [h1, val k1, Oper.upon_value]; exact hn v w' k2
    · exact absurd hk Bool.false_ne_true
  · split at hk
    · rename_i x hx
      obtain ⟨h1, h2⟩ := opd_den A hx
      cases hi : isIf x with
      | false => rw [hi] at hk; exact absurd hk Bool.false_ne_true
      | true =>
        rw [hi] at hk
        have hk : E x h = true := hk
        obtain ⟨t, v, hd⟩ := isIf_den hi ρ
        unfold Oper.wp execOp; rw [ho]; dsimp only
        have : (do pure (.value (← Instr.panic (x.den ρ))) : Sem Next).run P w = .halt (.panic (x.den ρ)) w := by
          rw [hd]; rfl
        rw [h1, this, Oper.upon_panic]
        exact hp _ w ⟨x, h, ρ, hk, rfl, h2, H, Ext.refl _ _, Nat.le_refl _, Mem.le_refl _⟩
    · exact absurd hk Bool.false_ne_true
  · exact absurd hk Bool.false_ne_true

end
end Go.Sx
