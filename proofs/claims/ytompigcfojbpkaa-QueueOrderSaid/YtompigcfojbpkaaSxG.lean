/-
  The symbolic executor: operations that read and write memory.
-/
import Derived.Test.YtompigcfojbpkaaSxF
namespace Go.Sx
noncomputable section

/-! ### Cells of a window -/

theorem cell_at {w : World} {blk o : Nat} {c : Array Value} {t : TypeId} {fz : Nat × Nat} (h : w.heap[blk]? = some (.cells c t fz)) : w.cell? ⟨blk, o, none⟩ = c[o]? := by
  simp [World.cell?, h]

theorem frozen_at {w : World} {blk o : Nat} {c : Array Value} {t : TypeId} {fz : Nat × Nat} (h : w.heap[blk]? = some (.cells c t fz)) (hf : ¬ (fz.1 ≤ o ∧ o < fz.2)) : w.frozen? ⟨blk, o, none⟩ = false := by
  obtain ⟨lo, hi⟩ := fz
  simp only [World.frozen?, h]
  simp only [not_and] at hf
  by_cases h1 : lo ≤ o
  · simp [h1, hf h1]
  · simp [h1]

theorem load_run {P : Program} {w : World} {blk o : Nat} {c : Array Value} {t : TypeId} {fz : Nat × Nat} {v : Value} (h : w.heap[blk]? = some (.cells c t fz)) (hv : c[o]? = some v) :
    (load ⟨blk, o, none⟩).run P w = .ok v w := by
  simp [cell_at h, hv]

theorem loadCells_run {P : Program} {w : World} {blk o : Nat} {c : Array Value} {t : TypeId} {fz : Nat × Nat} (h : w.heap[blk]? = some (.cells c t fz)) : ∀ (vs : List Value) (i : Nat) (acc : Array Value),
    (∀ j v, vs[j]? = some v → c[o + (i + j)]? = some v) → (loadCellsFrom ⟨blk, o, none⟩ i vs.length acc).run P w = .ok (acc ++ vs.toArray) w := by
  intro vs
  induction vs with
  | nil => intro i acc _; simp [loadCellsFrom]
  | cons v vs ih =>
    intro i acc hv
    simp only [List.length_cons, loadCellsFrom, Sem.run_bind, add_none]
    have h0 := hv 0 v rfl
    simp only [Nat.add_zero] at h0
    rw [load_run h h0]
    simp only [Result.andThen_ok]
    rw [ih (i + 1) (acc.push v) (fun j u hj => by have := hv (j + 1) u (by simpa using hj); rw [show i + 1 + j = i + (j + 1) by omega]; exact this)]
    congr 1
    apply Array.toList_inj.1
    simp

structure Same (blk : Nat) (w w' : World) : Prop where
  other : ∀ k, k ≠ blk → w'.heap[k]? = w.heap[k]?
  os : w'.os = w.os
  out : w'.output = w.output
  tape : w'.tape = w.tape

theorem setCell_block {w : World} {blk o : Nat} {c : Array Value} {t : TypeId} {fz : Nat × Nat} (h : w.heap[blk]? = some (.cells c t fz)) (v : Value) : (w.setCell ⟨blk, o, none⟩ v).heap[blk]? = some (.cells (c.setIfInBounds o v) t fz) := by
  simp only [World.setCell, Array.getElem?_modify, if_true, h, Option.map_some, Option.isSome_none, Bool.false_eq_true, if_false]

theorem setCell_other {w : World} {blk o k : Nat} (v : Value) (h : k ≠ blk) : (w.setCell ⟨blk, o, none⟩ v).heap[k]? = w.heap[k]? := by
  simp only [World.setCell, Array.getElem?_modify]
  rw [if_neg (fun e => h e.symm)]

theorem storeCells_run {P : Program} {blk o : Nat} {t : TypeId} {fz : Nat × Nat} : ∀ (vs : List Value) (i : Nat) (w : World) (c : Array Value), w.heap[blk]? = some (.cells c t fz) →
    o + i + vs.length ≤ c.size → (∀ k, k < c.size → ¬ (fz.1 ≤ k ∧ k < fz.2)) → (∀ v ∈ vs, v.oneCell' = true) →
    ∃ w' c', (storeCells ⟨blk, o, none⟩ vs i).run P w = .ok () w' ∧ w'.heap[blk]? = some (.cells c' t fz) ∧ c'.toList = c.toList.take (o + i) ++ vs ++ c.toList.drop (o + i + vs.length) ∧ Same blk w w' := by
  intro vs
  induction vs with
  | nil => intro i w c h _ _ _; exact ⟨w, c, rfl, h, by simp, ⟨fun _ _ => rfl, rfl, rfl, rfl⟩⟩
  | cons v vs ih =>
    intro i w c h hs hf ho
    simp only [List.length_cons] at hs
    have hlt : o + i < c.size := by omega
    have h1 := setCell_block (o := o + i) h v
    obtain ⟨w', c', k1, k2, k3, k4⟩ := ih (i + 1) (w.setCell ⟨blk, o + i, none⟩ v) (c.setIfInBounds (o + i) v) h1 (by simp; omega) (by simpa using hf) (fun u hu => ho u (List.mem_cons_of_mem _ hu))
    refine ⟨w', c', ?_, k2, ?_, ⟨fun k hk => (k4.other k hk).trans (setCell_other v hk), k4.os, k4.out, k4.tape⟩⟩
    · simp only [storeCells, Sem.run_bind, add_none]
      rw [run_store P w _ v _ (ho v List.mem_cons_self), cell_at h, Array.getElem?_eq_getElem hlt]
      simp only [frozen_at h (hf _ hlt), Bool.false_eq_true, if_false, Result.andThen_ok]
      exact k1
    · rw [k3]
      simp only [Array.toList_setIfInBounds, List.length_cons]
      have hlt' : o + i < c.toList.length := by simpa using hlt
      rw [show o + (i + 1) = (o + i) + 1 by omega, show (o + i) + 1 + vs.length = o + i + (vs.length + 1) by omega]
      rw [List.take_add_one, List.take_set_of_le (Nat.le_refl _), List.drop_set_of_lt (by omega), List.getElem?_set_self hlt']
      simp

/-! ### Loads -/

def takeN : Nat → List SV → Option (List SV)
  | 0, _ => some []
  | n + 1, x :: xs => match takeN n xs with
    | some l => some (x :: l)
    | none => none
  | _ + 1, [] => none

theorem takeN_some : ∀ {n : Nat} {l out : List SV}, takeN n l = some out → out.length = n ∧ ∀ (j : Nat) (x : SV), out[j]? = some x → l[j]? = some x := by
  intro n
  induction n with
  | zero => intro l out h; simp only [takeN, Option.some.injEq] at h; subst h; exact ⟨rfl, fun j x hj => by simp at hj⟩
  | succ n ih =>
    intro l out h
    cases l with
    | nil => simp [takeN] at h
    | cons y ys =>
      simp only [takeN] at h
      split at h
      · rename_i l' hl'
        injection h with h; subst h
        obtain ⟨h1, h2⟩ := ih hl'
        refine ⟨by simp [h1], fun j x hj => ?_⟩
        cases j with
        | zero => exact hj
        | succ j => exact h2 j x hj
      · cases h

/-- What is known of a block of old memory. -/
def globV (g : Nat) : List (Nat × List Value) → Option (List Value)
  | [] => none
  | x :: xs => bif Nat.beq x.1 g then some x.2 else globV g xs

theorem globV_mem {g : Nat} {cs : List Value} : ∀ {l : List (Nat × List Value)}, globV g l = some cs → (g, cs) ∈ l := by
  intro l
  induction l with
  | nil => intro h; cases h
  | cons x l ih =>
    intro h
    simp only [globV] at h
    cases hb : Nat.beq x.1 g with
    | true =>
      rw [hb] at h
      injection h with h
      have := Nat.eq_of_beq_eq_true hb
      subst this; subst h
      exact List.mem_cons_self
    | false =>
      rw [hb] at h
      exact List.mem_cons_of_mem _ (ih h)

def loadG (s : STy) (o : Nat) (cs : List Value) : Option SV :=
  bif TypeDesc.isAgg s.und then (takeN s.size ((cs.drop o).map .v)).map .agg else (nth cs o).map .v

/-- A load of the arena. -/
def loadA (s : STy) (r : Option (List Value)) : Option SV := match r with
  | some vs => bif TypeDesc.isAgg s.und then some (.v (.agg vs.toArray)) else (match vs with
    | [v] => some (.v v)
    | _ => none)
  | none => none

theorem rd_some {A : Arena} {g o n : Nat} {vs : List Value} (h : A.rd g o n = some vs) : ∃ c t fz, A.blk g = some (.cells c t fz) ∧ o + n ≤ c.size ∧ vs = (c.toList.drop o).take n := by
  rw [A.rdeq] at h
  unfold rdOf at h
  split at h
  · rename_i c t fz hb
    split at h
    · rename_i hle
      injection h with h
      exact ⟨c, t, fz, hb, hle, h.symm⟩
    · cases h
  · cases h

theorem rd_len {A : Arena} {g o n : Nat} {vs : List Value} (h : A.rd g o n = some vs) : vs.length = n := by
  obtain ⟨c, t, fz, _, h1, rfl⟩ := rd_some h
  simp; omega

def loadV (P : Program) (h : HS) (t : TypeId) (x : SV) : Option SV :=
  match ty P t with
  | none => none
  | some s => match x with
    | .ptr b o => match h.H.get b with
      | some (.cells cs _ _) => bif TypeDesc.isAgg s.und then (takeN s.size (cs.drop o)).map .agg else cs[o]?
      | _ => none
    | .v (.pointer (some ⟨g, o, none⟩)) => bif h.M.X.op then loadA s (h.M.A.rd g o s.size) else (match globV g h.M.gl with
      | some cs => loadG s o cs
      | none => none)
    | _ => none

theorem loadV_run {P : Program} {h : HS} {t : TypeId} {x z : SV} (hz : loadV P h t x = some z) {ρ : Nat → Loc} {w : World} (H : HRel ρ h w) : (Instr.loadAt t (x.den ρ)).run P w = .ok (z.den ρ) w ∧ z.lt ρ h.nx := by
  unfold loadV at hz
  split at hz
  · cases hz
  · rename_i s hs
    split at hz
    · rename_i b o
      split at hz
      · rename_i cs es τ hb
        obtain ⟨_, h2, c, t', fz, h3, h4, h5, h7, h6⟩ := H.blk b _ hb
        simp only [Instr.loadAt, SV.den, Instr.sureAddr, Sem.run_bind, Sem.run_pure, Result.andThen_ok, loadVar, r_isAgg w hs]
        cases ha : TypeDesc.isAgg s.und with
        | true =>
          rw [ha] at hz
          simp only [cond_true, Option.map_eq_some_iff] at hz
          obtain ⟨l, hl, rfl⟩ := hz
          obtain ⟨k1, k2⟩ := takeN_some hl
          simp only [if_true, Sem.run_bind, r_sizeOf w hs, Result.andThen_ok, loadCells]
          have := loadCells_run (P := P) (o := (ρ b).off + o) h3 (l.map (SV.den ρ)) 0 #[] (fun j v hj => by
            rw [List.getElem?_map] at hj
            cases hx : l[j]? with
            | none => rw [hx] at hj; cases hj
            | some x =>
              rw [hx] at hj
              injection hj with hj; subst hj
              have := k2 j x hx
              rw [List.getElem?_drop] at this
              rw [Nat.zero_add, Nat.add_assoc]
              exact h4 (o + j) x this)
          rw [List.length_map, k1] at this
          rw [this]
          refine ⟨by simp [SV.den, dens_eq], lts_iff.2 fun y hy => ?_⟩
          obtain ⟨j, hj⟩ := List.mem_iff_getElem?.1 hy
          have := k2 j y hj
          exact h2 y (List.mem_of_mem_drop (List.mem_of_getElem? this))
        | false =>
          rw [ha] at hz
          simp only [cond_false] at hz
          simp only [Bool.false_eq_true, if_false]
          exact ⟨load_run h3 (h4 o z hz), h2 z (List.mem_of_getElem? hz)⟩
      · cases hz
    · rename_i g o
      cases hop : h.M.X.op with
      | true =>
        rw [hop] at hz
        simp only [cond_true] at hz
        unfold loadA at hz
        split at hz
        · rename_i vs hvs
          obtain ⟨c, t', fz, hc, hle, hvs'⟩ := rd_some hvs
          have hlen := rd_len hvs
          have h3 := H.are g _ hc
          have key : ∀ j v, vs[j]? = some v → c[o + (0 + j)]? = some v := fun j v hj => by
            rw [hvs'] at hj
            have hj' : j < s.size := by
              have := (List.getElem?_eq_some_iff.1 hj).1
              simp at this; omega
            rw [List.getElem?_take_of_lt hj', List.getElem?_drop, Array.getElem?_toList] at hj
            rw [Nat.zero_add]; exact hj
          simp only [Instr.loadAt, SV.den, Instr.sureAddr, Sem.run_bind, Sem.run_pure, Result.andThen_ok, loadVar, r_isAgg w hs]
          cases ha : TypeDesc.isAgg s.und with
          | true =>
            rw [ha] at hz
            simp only [cond_true, Option.some.injEq] at hz
            subst hz
            simp only [if_true, Sem.run_bind, r_sizeOf w hs, Result.andThen_ok, loadCells]
            have := loadCells_run (P := P) (o := o) h3 vs 0 #[] key
            rw [hlen] at this
            rw [this]
            exact ⟨by simp [SV.den], trivial⟩
          | false =>
            rw [ha] at hz
            simp only [cond_false] at hz
            match vs, key, hz with
            | [v], key, hz =>
              injection hz with hz
              subst hz
              simp only [Bool.false_eq_true, if_false]
              exact ⟨load_run h3 (by have := key 0 v rfl; simpa [SV.den] using this), trivial⟩
        · cases hz
      | false =>
      rw [hop] at hz
      simp only [cond_false] at hz
      split at hz
      · rename_i cs hg
        obtain ⟨c, t', fz, hc, h4⟩ := h.M.glok g cs (globV_mem hg)
        have h3 := H.mem g _ hc
        unfold loadG at hz
        simp only [Instr.loadAt, SV.den, Instr.sureAddr, Sem.run_bind, Sem.run_pure, Result.andThen_ok, loadVar, r_isAgg w hs]
        cases ha : TypeDesc.isAgg s.und with
        | true =>
          rw [ha] at hz
          simp only [cond_true, Option.map_eq_some_iff] at hz
          obtain ⟨l, hl, rfl⟩ := hz
          obtain ⟨k1, k2⟩ := takeN_some hl
          have k3 : ∀ (j : Nat) (x : SV), l[j]? = some x → ∃ v, x = .v v ∧ cs[o + j]? = some v := fun j x hj => by
            have := k2 j x hj
            rw [List.getElem?_map, List.getElem?_drop] at this
            cases hv : cs[o + j]? with
            | none => rw [hv] at this; cases this
            | some v => rw [hv] at this; injection this with this; exact ⟨v, this.symm, rfl⟩
          simp only [if_true, Sem.run_bind, r_sizeOf w hs, Result.andThen_ok, loadCells]
          have := loadCells_run (P := P) (o := o) h3 (l.map (SV.den ρ)) 0 #[] (fun j v hj => by
            rw [List.getElem?_map] at hj
            cases hx : l[j]? with
            | none => rw [hx] at hj; cases hj
            | some x =>
              rw [hx] at hj
              injection hj with hj; subst hj
              obtain ⟨v, rfl, hv⟩ := k3 j x hx
              rw [Nat.zero_add]
              exact h4 (o + j) v hv)
          rw [List.length_map, k1] at this
          rw [this]
          refine ⟨by simp [SV.den, dens_eq], lts_iff.2 fun y hy => ?_⟩
          obtain ⟨j, hj⟩ := List.mem_iff_getElem?.1 hy
          obtain ⟨v, rfl, _⟩ := k3 j y hj
          trivial
        | false =>
          rw [ha] at hz
          simp only [cond_false, Option.map_eq_some_iff, nth_eq] at hz
          obtain ⟨v, hv, rfl⟩ := hz
          simp only [Bool.false_eq_true, if_false]
          exact ⟨load_run h3 (h4 o v hv), trivial⟩
      · cases hz
    · cases hz

/-! ### New blocks -/

def HS.new (h : HS) (B : SBlk) : HS := match h with
  | ⟨H, nx, M⟩ => ⟨H.set nx B, nx + 1, M⟩

theorem new_cells {ρ : Nat → Loc} {h : HS} {w : World} (H : HRel ρ h w) {cs : List SV} (hl : ∀ x ∈ cs, x.lt ρ h.nx) (c : Array Value) (hc : c = (cs.map (SV.den ρ)).toArray) (t : TypeId) :
    HRel (extend ρ h.nx ⟨w.heap.size, 0, 0⟩) (h.new (.cells cs 0 (t + 1))) { w with heap := w.heap.push (.cells c t) } := by
  refine H.alloc (o := .cells c t) (B := .cells cs 0 (t + 1)) (L := ⟨w.heap.size, 0, 0⟩) rfl hl fun w' hw' => ⟨c, t, (0, 0), hw', fun i x hi => ?_, by simp, .inl rfl, .inl rfl, .inr ⟨rfl, rfl, fun _ => by rw [hc]; simp⟩⟩
  subst hc
  simp [hi]

def allocV (P : Program) (h : HS) (t : TypeId) (K : SV → HS → Bool) : Bool :=
  match ty P t with
  | none => false
  | some s => K (.ptr h.nx 0) (h.new (.cells (s.zero.cells.toList.map .v) 0 (t + 1)))

def boxV (h : HS) (t : TypeId) (x : SV) (K : SV → HS → Bool) : Bool :=
  match x.cells with
  | none => false
  | some cs => K (.ptr h.nx 0) (h.new (.cells cs 0 (t + 1)))

/-- What an effect leaves: the value and the heap, as K has them. -/
def Post (ρ : Nat → Loc) (h : HS) (K : SV → HS → Bool) (v : Value) (w' : World) : Prop :=
  ∃ z h' ρ', K z h' ∧ v = z.den ρ' ∧ z.lt ρ' h'.nx ∧ HRel ρ' h' w' ∧ Ext ρ ρ' h.nx ∧ h.nx ≤ h'.nx ∧ h.M.le h'.M

theorem allocV_run {P : Program} {h : HS} {t : TypeId} {K : SV → HS → Bool} (hk : allocV P h t K) {ρ : Nat → Loc} {w : World} (H : HRel ρ h w) :
    ∃ v w', (Instr.alloc t true (.tuple #[])).run P w = .ok v w' ∧ Post ρ h K v w' := by
  unfold allocV at hk
  split at hk
  · exact absurd hk Bool.false_ne_true
  · rename_i s hs
    refine ⟨.pointer (some ⟨w.heap.size, 0, none⟩), { w with heap := w.heap.push (.cells s.zero.cells t) }, ?_, _, _, extend ρ h.nx ⟨w.heap.size, 0, 0⟩, hk, ?_, Nat.lt_succ_self _,
      new_cells H (fun x hx => by obtain ⟨y, _, rfl⟩ := List.mem_map.1 hx; trivial) _ (by simp [Function.comp_def, SV.den]) t, extend_ext _ _ _, Nat.le_succ _, Mem.le_refl _⟩
    · simp [Instr.alloc, r_zeroValue w hs, newVar, newRow]
    · simp [SV.den, extend_same]

theorem boxV_run {P : Program} {h : HS} {t : TypeId} {x : SV} {K : SV → HS → Bool} (hk : boxV h t x K) {ρ : Nat → Loc} {w : World} (H : HRel ρ h w) (hx : x.lt ρ h.nx) :
    ∃ v w', (Instr.box t (x.den ρ)).run P w = .ok v w' ∧ Post ρ h K v w' := by
  unfold boxV at hk
  split at hk
  · exact absurd hk Bool.false_ne_true
  · rename_i cs hcs
    have hc := SV.cells_den (ρ := ρ) hcs
    refine ⟨.pointer (some ⟨w.heap.size, 0, none⟩), { w with heap := w.heap.push (.cells (x.den ρ).cells t) }, ?_, _, _, extend ρ h.nx ⟨w.heap.size, 0, 0⟩, hk, ?_, Nat.lt_succ_self _,
      new_cells H (SV.cells_lt hcs hx) _ (Array.toList_inj.1 (by rw [hc])) t, extend_ext _ _ _, Nat.le_succ _, Mem.le_refl _⟩
    · simp [Instr.box, newVar, newRow]
    · simp [SV.den, extend_same]

/-! ### Stores -/

def overlayB (cs : List SV) (off : Nat) (vc : List SV) : Option (List SV) := bif Nat.ble (off + vc.length) cs.length then some (overlay cs off vc) else none

/-- Values without the address of a new block. -/
def plain? : SV → Option Value
  | .v x => some x
  | .str l => some (.string ⟨l.toArray⟩)
  | _ => none

def plains : List SV → Option (List Value)
  | [] => some []
  | x :: xs => match plain? x with
    | some v => match plains xs with
      | some vs => some (v :: vs)
      | none => none
    | none => none

theorem plain_den {x : SV} {v : Value} (h : plain? x = some v) (ρ : Nat → Loc) : x.den ρ = v := by
  unfold plain? at h
  split at h
  · injection h
  · injection h
  · cases h

theorem plains_den (ρ : Nat → Loc) : ∀ (l : List SV) (vs : List Value), plains l = some vs → l.map (SV.den ρ) = vs
  | [], vs, h => by injection h
  | x :: xs, vs, h => by
    simp only [plains] at h
    split at h
    · rename_i v hv
      split at h
      · rename_i us hus
        injection h with h; subst h
        rw [List.map_cons, plain_den hv ρ, plains_den ρ xs us hus]
      · cases h
    · cases h

/-- Some cells of a block of the arena are written. -/
structure Arena.Put (A A' : Arena) (g o : Nat) (vs : List Value) : Prop where
  at_ : ∃ c t fz c', A.blk g = some (.cells c t fz) ∧ A'.blk g = some (.cells c' t fz) ∧ c'.toList = c.toList.take o ++ vs ++ c.toList.drop (o + vs.length)
  other : ∀ k, k ≠ g → A'.blk k = A.blk k

/-- There is room for them. -/
def Arena.Room (A : Arena) (g o n : Nat) : Prop := ∃ c t fz, A.blk g = some (.cells c t fz) ∧ o + n ≤ c.size ∧ Fz c.size fz

theorem arena_put {P : Program} {ρ : Nat → Loc} {h : HS} {w : World} (H : HRel ρ h w) {g o : Nat} {vs : List Value} (hr : h.M.A.Room g o vs.length) (hone : ∀ v ∈ vs, v.oneCell' = true) :
    ∃ w' A', (storeCells ⟨g, o, none⟩ vs).run P w = .ok () w' ∧ h.M.A.Put A' g o vs ∧ HRel ρ (h.put A') w' := by
  obtain ⟨c, t, fz, hb, hle, hfz⟩ := hr
  have h3 := H.are g _ hb
  obtain ⟨w', c', k1, k2, k3, k4⟩ := storeCells_run (P := P) (o := o) vs 0 w c h3 (by omega) hfz.not hone
  simp only [Nat.add_zero] at k3
  refine ⟨w', Arena.of fun k => if k = g then some (.cells c' t fz) else h.M.A.blk k, k1, ⟨⟨c, t, fz, c', hb, by simp [Arena.of], k3⟩, fun k hk => by simp [Arena.of, hk]⟩, H.arena k4.os k4.out k4.tape (fun k hk _ => k4.other k fun e => by subst e; rw [hb] at hk; cases hk) (fun k o hk => ?_) fun k o hk => ?_⟩
  · simp only [Arena.of] at hk
    by_cases hkg : k = g
    · subst hkg; rw [if_pos rfl] at hk; rw [k2]; exact hk
    · rw [if_neg hkg] at hk; rw [k4.other k hkg]; exact H.are k o hk
  · simp only [Arena.of] at hk
    by_cases hkg : k = g
    · subst hkg; exact .inl ⟨_, hb⟩
    · rw [if_neg hkg] at hk; exact .inl ⟨_, hk⟩

/-- A store into the arena. -/
def storeA (s : STy) (h : HS) (g o : Nat) (vc : List SV) (K : SV → HS → Bool) : Bool := match plains vc with
  | some vs => bif Nat.beq vc.length s.size && vc.all SV.one then h.M.D (h.M.A.Room g o vs.length ∧ ∀ A', h.M.A.Put A' g o vs → K (.v (.tuple #[])) (h.put A') = true) else false
  | none => false

def storeV (P : Program) (h : HS) (t : TypeId) (x v : SV) (K : SV → HS → Bool) : Bool :=
  match ty P t, x, v.cells with
  | some s, .v (.pointer (some ⟨g, o, none⟩)), some vc => storeA s h g o vc K
  | some s, .ptr b o, some vc => match h.H.get b with
    | some (.cells cs es τ) => bif Nat.beq vc.length s.size && vc.all SV.one then (match overlayB cs o vc with
      | some cs' => K (.v (.tuple #[])) { h with H := h.H.set b (.cells cs' es τ) }
      | none => false) else false
    | _ => false
  | _, _, _ => false

theorem getElem?_overlay {cs vc : List SV} {off i : Nat} (h : off + vc.length ≤ cs.length) : (overlay cs off vc)[i]? = if i < off then cs[i]? else if i < off + vc.length then vc[i - off]? else cs[i]? := by
  unfold overlay
  by_cases h1 : i < off
  · rw [if_pos h1, List.append_assoc, List.getElem?_append_left (by simp; omega), List.getElem?_take_of_lt h1]
  · rw [if_neg h1]
    by_cases h2 : i < off + vc.length
    · rw [if_pos h2, List.append_assoc, List.getElem?_append_right (by simp; omega), List.getElem?_append_left (by simp; omega)]
      congr 1; simp; omega
    · rw [if_neg h2, List.getElem?_append_right (by simp; omega), List.getElem?_drop]
      congr 1; simp; omega

/-- Writing into a window, in the world and in the symbolic heap. -/
theorem write_cells {P : Program} {ρ : Nat → Loc} {h : HS} {w : World} (H : HRel ρ h w) {b o es τ : Nat} {cs vc : List SV} (hb : h.H.get b = some (.cells cs es τ)) (hlen : o + vc.length ≤ cs.length)
    (hone : ∀ x ∈ vc, x.one = true) (hlt : ∀ x ∈ vc, x.lt ρ h.nx) :
    ∃ w', (storeCells ⟨(ρ b).blk, (ρ b).off + o, none⟩ (vc.map (SV.den ρ))).run P w = .ok () w' ∧ HRel ρ { h with H := h.H.set b (.cells (overlay cs o vc) es τ) } w' := by
  obtain ⟨_, h2, c, t', fz, h3, h4, h5, h7, h6⟩ := H.blk b _ hb
  have hsz : cs = [] ∨ (ρ b).off + cs.length ≤ c.size := by
    cases hcs : cs.reverse with
    | nil => exact .inl (List.reverse_eq_nil_iff.1 hcs)
    | cons y ys =>
      have : cs[cs.length - 1]? = some y := by
        have : cs = (y :: ys).reverse := by rw [← hcs, List.reverse_reverse]
        rw [this]; simp
      have := (Array.getElem?_eq_some_iff.1 (h4 _ y this)).1
      have hne : cs.length ≠ 0 := fun e => by rw [List.length_eq_zero_iff.1 e] at hcs; cases hcs
      exact .inr (by omega)
  by_cases hv : vc = []
  · subst hv
    refine ⟨w, rfl, ?_⟩
    have : overlay cs o [] = cs := by simp [overlay]
    rw [this]
    exact H.write hb h2 ⟨c, t', fz, h3, h4, h5, h7, h6⟩ (fun _ _ => rfl) rfl rfl rfl
  · have hvl : 0 < vc.length := List.length_pos_iff.2 hv
    have hsz' : (ρ b).off + cs.length ≤ c.size := hsz.resolve_left (fun e => by rw [e] at hlen; simp only [List.length_nil] at hlen; omega)
    obtain ⟨w', c', k1, k2, k3, k4⟩ := storeCells_run (P := P) (o := (ρ b).off + o) (vc.map (SV.den ρ)) 0 w c h3 (by simp; omega) h6.1.not (fun v hv => by
      obtain ⟨x, hx, rfl⟩ := List.mem_map.1 hv; exact SV.one_den (hone x hx))
    refine ⟨w', k1, H.write hb (B' := .cells (overlay cs o vc) es τ) (fun x hx => ?_) ⟨c', t', fz, k2, fun i x hi => ?_, ?_, ?_, ?_⟩ k4.other k4.os k4.out k4.tape⟩
    · simp only [overlay, List.mem_append] at hx
      rcases hx with (hx | hx) | hx
      · exact h2 x (List.mem_of_mem_take hx)
      · exact hlt x hx
      · exact h2 x (List.mem_of_mem_drop hx)
    · rw [getElem?_overlay hlen] at hi
      rw [← Array.getElem?_toList, k3]
      simp only [Nat.add_zero, List.length_map]
      have hcl : c.toList.length = c.size := Array.length_toList
      by_cases h1 : i < o
      · rw [if_pos h1] at hi
        rw [List.append_assoc, List.getElem?_append_left (by simp; omega), List.getElem?_take_of_lt (by omega), Array.getElem?_toList]
        exact h4 i x hi
      · rw [if_neg h1] at hi
        by_cases h2 : i < o + vc.length
        · rw [if_pos h2] at hi
          rw [List.append_assoc, List.getElem?_append_right (by simp; omega), List.getElem?_append_left (by simp; omega), List.getElem?_map]
          have : (ρ b).off + i - (List.take ((ρ b).off + o) c.toList).length = i - o := by simp; omega
          rw [this, hi]; rfl
        · rw [if_neg h2] at hi
          rw [List.getElem?_append_right (by simp; omega), List.getElem?_drop, Array.getElem?_toList]
          have : (ρ b).off + o + vc.length + ((ρ b).off + i - (List.take ((ρ b).off + o) c.toList ++ List.map (SV.den ρ) vc).length) = (ρ b).off + i := by simp; omega
          rw [this]; exact h4 i x hi
    · have : c'.size = c.size := by
        rw [← Array.length_toList, k3]; simp; omega
      rw [this]; exact h5
    · have : (overlay cs o vc).length = cs.length := by simp [overlay]; omega
      rw [this]; exact h7
    · have : c'.size = c.size := by
        rw [← Array.length_toList, k3]; simp; omega
      have hov : (overlay cs o vc).length = cs.length := by simp [overlay]; omega
      rw [this, hov]; exact h6

theorem storeV_run {P : Program} {h : HS} {t : TypeId} {x v : SV} {K : SV → HS → Bool} (hk : storeV P h t x v K) {ρ : Nat → Loc} {w : World} (H : HRel ρ h w) (hv : v.lt ρ h.nx) :
    ∃ w', (Instr.storeAt t (x.den ρ) (v.den ρ)).run P w = .ok () w' ∧ Post ρ h K (.tuple #[]) w' := by
  unfold storeV at hk
  split at hk
  · rename_i s g o vc hs hvc
    unfold storeA at hk
    split at hk
    · rename_i vs hvs
      cases hc : Nat.beq vc.length s.size && vc.all SV.one with
      | false => rw [hc] at hk; exact absurd hk Bool.false_ne_true
      | true =>
        rw [hc] at hk
        simp only [Bool.and_eq_true, List.all_eq_true] at hc
        have hlen := Nat.eq_of_beq_eq_true hc.1
        simp only [cond_true] at hk
        obtain ⟨hroom, hk⟩ := (h.M.X.hD _).1 hk
        have hd := SV.cells_den (ρ := ρ) hvc
        have hp := plains_den ρ vc vs hvs
        obtain ⟨w', A', k1, k2, k3⟩ := arena_put (P := P) H hroom (fun u hu => by
          rw [← hp] at hu
          obtain ⟨y, hy, rfl⟩ := List.mem_map.1 hu; exact SV.one_den (hc.2 y hy))
        have hsz : (v.den ρ).cells.size = s.size := by rw [← Array.length_toList, hd, List.length_map, hlen]
        refine ⟨w', ?_, _, _, ρ, hk A' k2, rfl, trivial, k3, Ext.refl _ _, Nat.le_refl _, Mem.put_le _ _⟩
        simp only [Instr.storeAt, SV.den, Instr.sureAddr, Sem.run_bind, Sem.run_pure, Result.andThen_ok, storeVar, r_sizeOf w hs, hsz, ne_eq, not_true_eq_false, if_false, hd, hp]
        exact k1
    · exact absurd hk Bool.false_ne_true
  · rename_i s b o vc hs hvc
    split at hk
    · rename_i cs es τ hb
      cases hc : Nat.beq vc.length s.size && vc.all SV.one with
      | false => rw [hc] at hk; exact absurd hk Bool.false_ne_true
      | true =>
        rw [hc] at hk
        simp only [Bool.and_eq_true, List.all_eq_true] at hc
        have hlen := Nat.eq_of_beq_eq_true hc.1
        simp only [cond_true] at hk
        split at hk
        · rename_i cs' hov
          unfold overlayB at hov
          cases hble : Nat.ble (o + vc.length) cs.length with
          | false => rw [hble] at hov; cases hov
          | true =>
            rw [hble] at hov
            injection hov with hov; subst hov
            have hd := SV.cells_den (ρ := ρ) hvc
            obtain ⟨w', k1, k2⟩ := write_cells (P := P) H hb (Nat.le_of_ble_eq_true hble) hc.2 (SV.cells_lt hvc hv)
            have hsz : (v.den ρ).cells.size = s.size := by rw [← Array.length_toList, hd, List.length_map, hlen]
            refine ⟨w', ?_, _, _, ρ, hk, rfl, trivial, k2, Ext.refl _ _, Nat.le_refl _, Mem.le_refl _⟩
            simp only [Instr.storeAt, SV.den, Instr.sureAddr, Sem.run_bind, Sem.run_pure, Result.andThen_ok, storeVar, r_sizeOf w hs, hsz, ne_eq, not_true_eq_false, if_false, hd]
            exact k1
        · exact absurd hk Bool.false_ne_true
    · exact absurd hk Bool.false_ne_true
  · exact absurd hk Bool.false_ne_true

end
end Go.Sx
