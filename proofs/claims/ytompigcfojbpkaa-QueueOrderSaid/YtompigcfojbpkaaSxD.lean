/-
  The symbolic executor: the other operations that look at the slots alone.
-/
import Derived.Test.YtompigcfojbpkaaSxC
namespace Go.Sx
noncomputable section

/-! ### One operand -/

def unV (op : UnOp) (x : SV) : Option SV :=
  match op, x with
  | .not, .v (.bool b) => some (.v (.bool (!b)))
  | .neg, .v (.int k n) => some (.v (.int k (k.wrap (0 - n))))
  | .xor, .v (.int k n) => some (.v (.int k (bitsOf .xor k (if k.signed then -1 else k.max) n)))
  | _, _ => none

theorem unV_run {P : Program} {op : UnOp} {x z : SV} (h : unV op x = some z) (ρ : Nat → Loc) (w : World) : (Op.unary op (x.den ρ)).run P w = .ok (z.den ρ) w := by
  unfold unV at h
  split at h <;> first | (cases h; done) | (injection h with h; subst h)
  · rfl
  · rfl
  · rfl

theorem unV_lt {op : UnOp} {x z : SV} (h : unV op x = some z) (ρ : Nat → Loc) (n : Nat) : z.lt ρ n := by
  unfold unV at h
  split at h <;> first | (cases h; done) | (injection h with h; subst h; trivial)

def convV (P : Program) (src dst : TypeId) (x : SV) : Option SV :=
  match ty P src, ty P dst with
  | some s, some d =>
    match d.und, x.int? with
    | .int k, some (_, n) => some (.v (.int k (k.wrap n)))
    | .string, none => match s.und, x.str? with
      | .string, some _ => some x
      | _, _ => none
    | _, _ => none
  | _, _ => none

theorem convV_run {P : Program} {src dst : TypeId} {x z : SV} (h : convV P src dst x = some z) (ρ : Nat → Loc) (w : World) : (convert src dst (x.den ρ)).run P w = .ok (z.den ρ) w := by
  unfold convV at h
  split at h
  · rename_i s d hs hd
    split at h
    · rename_i k n0 n hk hx
      injection h with h; subst h
      rw [SV.int?_den hx]
      simp only [convert, Sem.run_bind, r_underlying w hs, r_underlying w hd, Result.andThen_ok, hk]
      rfl
    · rename_i hk hx
      split at h
      · rename_i l hsu hl
        injection h with h; subst h
        rw [SV.str?_den hl]
        simp only [convert, Sem.run_bind, r_underlying w hs, r_underlying w hd, Result.andThen_ok, hk, hsu]
        rfl
      · cases h
    · cases h
  · cases h

theorem convV_lt {P : Program} {src dst : TypeId} {x z : SV} (h : convV P src dst x = some z) {ρ : Nat → Loc} {n : Nat} (hx : x.lt ρ n) : z.lt ρ n := by
  unfold convV at h
  split at h
  · split at h
    · injection h with h; subst h; trivial
    · split at h
      · injection h with h; subst h; exact hx
      · cases h
    · cases h
  · cases h

def nilV (x : SV) : Option (Bool × SV) :=
  match x with
  | .ptr b o => some (true, .ptr b o)
  | .v (.pointer o) => some (o.isSome, .v (.pointer o))
  | .fn f cs => some (true, .fn f cs)
  | .ifc t y => some (true, .ifc t y)
  | _ => none

def ifcV (P : Program) (t : TypeId) (x : SV) : Option SV :=
  match ty P t with
  | some s => bif isIfc s.und then none else some (.ifc t x)
  | none => none

theorem ifcV_run {P : Program} {t : TypeId} {x z : SV} (h : ifcV P t x = some z) (ρ : Nat → Loc) (w : World) : (Instr.makeInterface t (x.den ρ)).run P w = .ok (z.den ρ) w := by
  unfold ifcV at h
  split at h
  · rename_i s hs
    cases hi : isIfc s.und with
    | true => rw [hi] at h; cases h
    | false =>
      rw [hi] at h
      injection h with h; subst h
      simp only [Instr.makeInterface, Sem.run_bind, r_underlying w hs, Result.andThen_ok]
      cases hd : s.und <;> rw [hd] at hi <;> first | (cases hi; done) | rfl
  · cases h

theorem ifcV_lt {P : Program} {t : TypeId} {x z : SV} (h : ifcV P t x = some z) {ρ : Nat → Loc} {n : Nat} (hx : x.lt ρ n) : z.lt ρ n := by
  unfold ifcV at h
  split at h
  · rename_i s hs
    cases hi : isIfc s.und with
    | true => rw [hi] at h; cases h
    | false => rw [hi] at h; injection h with h; subst h; exact hx
  · cases h

/-- An assertion that a value is of a concrete type, which it is. -/
def assertV (P : Program) (t : TypeId) (ok : Bool) (x : SV) : Option SV :=
  match ty P t with
  | some s => bif isIfc s.und then none else match x with
    | .ifc u y => bif Nat.beq u t then some (bif ok then .tup [y, .v (.bool true)] else y) else none
    | _ => none
  | none => none

theorem assertV_run {P : Program} {xt t : TypeId} {ok : Bool} {x z : SV} (h : assertV P t ok x = some z) (ρ : Nat → Loc) (w : World) : (Instr.typeAssert (x.den ρ) xt t ok).run P w = .ok (z.den ρ) w := by
  unfold assertV at h
  split at h
  · rename_i s hs
    cases hi : isIfc s.und with
    | true => rw [hi] at h; cases h
    | false =>
      rw [hi] at h
      simp only [cond_false] at h
      split at h
      · rename_i u y
        cases hu : Nat.beq u t with
        | false => rw [hu] at h; cases h
        | true =>
          rw [hu] at h
          have hu := Nat.eq_of_beq_eq_true hu
          subst hu
          simp only [cond_true, Option.some.injEq] at h
          subst h
          simp only [Instr.typeAssert, Sem.run_bind, r_underlying w hs, Result.andThen_ok]
          cases hd : s.und <;> rw [hd] at hi <;> first | (cases hi; done) | (cases ok <;> simp [SV.den, SV.dens])
      · cases h
  · cases h

theorem assertV_lt {P : Program} {t : TypeId} {ok : Bool} {x z : SV} (h : assertV P t ok x = some z) {ρ : Nat → Loc} {n : Nat} (hx : x.lt ρ n) : z.lt ρ n := by
  unfold assertV at h
  split at h
  · rename_i s hs
    cases hi : isIfc s.und with
    | true => rw [hi] at h; cases h
    | false =>
      rw [hi] at h
      simp only [cond_false] at h
      split at h
      · rename_i u y
        cases hu : Nat.beq u t with
        | false => rw [hu] at h; cases h
        | true =>
          rw [hu] at h
          simp only [cond_true, Option.some.injEq] at h
          subst h
          cases ok with
          | true => exact lts_iff.2 (fun v hv => by
              rcases List.mem_cons.1 hv with rfl | hv
              · exact hx
              · rcases List.mem_singleton.1 hv with rfl; trivial)
          | false => exact hx
      · cases h
  · cases h

/-! ### Addresses -/

theorem add_none (b o n : Nat) : (⟨b, o, none⟩ : Addr).add n = ⟨b, o + n, none⟩ := by
  unfold Addr.add; split
  · subst_vars; rfl
  · rfl

def structFields (P : Program) (t : TypeId) : Option (List Field) :=
  match ty P t with
  | some s => match s.und with
    | .struct fs => some fs.toList
    | _ => none
  | none => none

theorem structFields_und {P : Program} {t : TypeId} {fs : List Field} (h : structFields P t = some fs) : P.underlying t = some (.struct fs.toArray) := by
  unfold structFields at h
  split at h
  · rename_i s hs
    split at h
    · rename_i fs' hd
      injection h with h; subst h
      rw [(ty_facts hs).und, hd]
    · cases h
  · cases h

def fieldAddrV (P : Program) (t : TypeId) (x : SV) (i : Nat) : Option SV :=
  match structFields P t with
  | none => none
  | some fs => match fs[i]? with
    | none => none
    | some f => match ty P f.type with
      | none => none
      | some s => bif Nat.beq s.size 0 then none else
        match x with
        | .ptr b o => some (.ptr b (o + f.offset))
        | .v (.pointer (some ⟨b, o, none⟩)) => some (.v (.pointer (some ⟨b, o + f.offset, none⟩)))
        | _ => none

theorem fieldAddrV_run {P : Program} {t : TypeId} {x z : SV} {i : Nat} (h : fieldAddrV P t x i = some z) (ρ : Nat → Loc) (w : World) : (Instr.fieldAt t (x.den ρ) i).run P w = .ok (z.den ρ) w := by
  unfold fieldAddrV at h
  split at h
  · cases h
  · rename_i fs hfs
    split at h
    · cases h
    · rename_i f hf
      split at h
      · cases h
      · rename_i s hs
        cases h0 : Nat.beq s.size 0 with
        | true => rw [h0] at h; cases h
        | false =>
          rw [h0] at h
          have hne : s.size ≠ 0 := fun e => by rw [e] at h0; cases h0
          have hu := run_underlying (structFields_und hfs) w
          have hplace : ∀ a, (fieldPlace a f).run P w = .ok (a.add f.offset) w := fun a => by
            simp only [fieldPlace, Sem.run_bind, r_sizeOf w hs, Result.andThen_ok, hne, if_false, Sem.run_pure]
          have hf' : fs.toArray[i]? = some f := by simpa using hf
          simp only [cond_false] at h
          split at h
          · injection h with h; subst h
            simp only [Instr.fieldAt, Sem.run_bind, hu, Result.andThen_ok, hf', SV.den, Instr.sureAddr, Sem.run_pure, hplace, add_none, Nat.add_assoc]
          · injection h with h; subst h
            simp only [Instr.fieldAt, Sem.run_bind, hu, Result.andThen_ok, hf', SV.den, Instr.sureAddr, Sem.run_pure, hplace, add_none]
          · cases h

theorem fieldAddrV_lt {P : Program} {t : TypeId} {x z : SV} {i : Nat} (h : fieldAddrV P t x i = some z) {ρ : Nat → Loc} {n : Nat} (hx : x.lt ρ n) : z.lt ρ n := by
  unfold fieldAddrV at h
  split at h
  · cases h
  · split at h
    · cases h
    · split at h
      · cases h
      · rename_i s hs
        cases h0 : Nat.beq s.size 0 with
        | true => rw [h0] at h; cases h
        | false =>
          rw [h0] at h
          simp only [cond_false] at h
          split at h
          · injection h with h; subst h; exact hx
          · injection h with h; subst h; trivial
          · cases h

/-- A part of an aggregate. -/
def partV (P : Program) (t : TypeId) (cs : List SV) (o : Nat) : Option SV :=
  match ty P t with
  | none => none
  | some s => bif TypeDesc.isAgg s.und then some (.agg ((cs.drop o).take s.size)) else cs[o]?

theorem partV_run {P : Program} {t : TypeId} {cs : List SV} {o : Nat} {z : SV} (h : partV P t cs o = some z) (ρ : Nat → Loc) (w : World) : (part t (cs.map (SV.den ρ)).toArray o).run P w = .ok (z.den ρ) w := by
  unfold partV at h
  split at h
  · cases h
  · rename_i s hs
    cases ha : TypeDesc.isAgg s.und with
    | true =>
      rw [ha] at h
      injection h with h; subst h
      rw [part_agg hs ha]
      simp only [SV.den, dens_eq, List.map_take, List.map_drop]
      congr 3
      simp [List.extract_eq_take_drop]
    | false =>
      rw [ha] at h
      exact part_one hs ha (by simp [show cs[o]? = some z from h]) w

theorem partV_lt {P : Program} {t : TypeId} {cs : List SV} {o : Nat} {z : SV} (h : partV P t cs o = some z) {ρ : Nat → Loc} {n : Nat} (hx : ∀ y ∈ cs, y.lt ρ n) : z.lt ρ n := by
  unfold partV at h
  split at h
  · cases h
  · rename_i s hs
    cases ha : TypeDesc.isAgg s.und with
    | true =>
      rw [ha] at h
      injection h with h; subst h
      exact lts_iff.2 fun y hy => hx y (List.mem_of_mem_drop (List.mem_of_mem_take hy))
    | false => rw [ha] at h; exact hx z (List.mem_of_getElem? h)

def fieldV (P : Program) (t : TypeId) (x : SV) (i : Nat) : Option SV :=
  match structFields P t, x.aggs? with
  | some fs, some cs => match fs[i]? with
    | none => none
    | some f => partV P f.type cs f.offset
  | _, _ => none

theorem fieldV_run {P : Program} {t : TypeId} {x z : SV} {i : Nat} (h : fieldV P t x i = some z) (ρ : Nat → Loc) (w : World) : (Instr.field t (x.den ρ) i).run P w = .ok (z.den ρ) w := by
  unfold fieldV at h
  split at h
  · rename_i fs cs hfs hcs
    split at h
    · cases h
    · rename_i f hf
      have hf' : fs.toArray[i]? = some f := by simpa using hf
      rw [SV.aggs?_den hcs]
      simp only [Instr.field, Sem.run_bind, run_underlying (structFields_und hfs) w, Result.andThen_ok, hf', asAgg, Sem.run_pure]
      exact partV_run h ρ w
  · cases h

theorem fieldV_lt {P : Program} {t : TypeId} {x z : SV} {i : Nat} (h : fieldV P t x i = some z) {ρ : Nat → Loc} {n : Nat} (hx : x.lt ρ n) : z.lt ρ n := by
  unfold fieldV at h
  split at h
  · rename_i fs cs hfs hcs
    split at h
    · cases h
    · exact partV_lt h (SV.aggs?_lt hcs hx)
  · cases h

/-- An index that is asked for: is it in range? -/
def inRange (n : Int) (l : Nat) : Bool := decide (0 ≤ n) && decide (n < l)

theorem inRange_iff {n : Int} {l : Nat} : inRange n l = true ↔ 0 ≤ n ∧ n < l := by simp [inRange]

def indexAddrV (P : Program) (t : TypeId) (x i : SV) : Option (Bool × SV) :=
  match ty P t, i.int? with
  | some s, some (_, n) =>
    match s.und, x with
    | .array len e, .ptr b o => match ty P e with
      | some se => some (inRange n len, .ptr b (o + n.toNat * se.size))
      | none => none
    | .array len e, .v (.pointer (some ⟨b, o, none⟩)) => match ty P e with
      | some se => some (inRange n len, .v (.pointer (some ⟨b, o + n.toNat * se.size, none⟩)))
      | none => none
    | .slice e, .slc b o l _ => match ty P e with
      | some se => some (inRange n l, .ptr b (o + n.toNat * se.size))
      | none => none
    | .slice e, .v (.slice (some ⟨b, o, none⟩) l _) => match ty P e with
      | some se => some (inRange n l, .v (.pointer (some ⟨b, o + n.toNat * se.size, none⟩)))
      | none => none
    | _, _ => none
  | _, _ => none

theorem indexAddrV_run {P : Program} {t : TypeId} {x i z : SV} {r : Bool} (h : indexAddrV P t x i = some (r, z)) (hr : r = true) (ρ : Nat → Loc) (w : World) : (Instr.indexAt t (x.den ρ) (i.den ρ)).run P w = .ok (z.den ρ) w := by
  subst hr
  unfold indexAddrV at h
  split at h
  · rename_i s k n hs hi
    rw [SV.int?_den hi]
    have hu := r_underlying w hs
    split at h
    all_goals first
      | (cases h; done)
      | (rename_i hd
         split at h
         · rename_i se hse
           injection h with h; injection h with h1 h2; subst h2
           have hr := inRange_iff.1 h1
           simp only [Instr.indexAt, asIntOf, Sem.run_bind, hu, hd, Result.andThen_ok, SV.den, Instr.sureAddr, Sem.run_pure, hr, and_self, if_true, r_sizeOf w hse, add_none, Nat.add_assoc]
         · cases h)
  · cases h

theorem indexAddrV_lt {P : Program} {t : TypeId} {x i z : SV} {r : Bool} (h : indexAddrV P t x i = some (r, z)) {ρ : Nat → Loc} {n : Nat} (hx : x.lt ρ n) : z.lt ρ n := by
  unfold indexAddrV at h
  split at h
  · split at h
    all_goals first
      | (cases h; done)
      | (split at h
         · injection h with h; injection h with h1 h2; subst h2
           first
             | trivial
             | exact hx
             | exact hx.1
         · cases h)
  · cases h

def indexV (P : Program) (t : TypeId) (x i : SV) : Option (Bool × SV) :=
  match ty P t, i.int? with
  | some s, some (_, n) =>
    match s.und with
    | .array len e => match x.aggs?, ty P e with
      | some cs, some se => match partV P e cs (n.toNat * se.size) with
        | some z => some (inRange n len, z)
        | none => none
      | _, _ => none
    | .string => match x.str? with
      | some l => some (inRange n l.length, .v (.int .u8 (l.getD n.toNat 0).toNat))
      | none => none
    | _ => none
  | _, _ => none

theorem indexV_run {P : Program} {t : TypeId} {x i z : SV} {r : Bool} (h : indexV P t x i = some (r, z)) (hr : r = true) (ρ : Nat → Loc) (w : World) : (Instr.index t (x.den ρ) (i.den ρ)).run P w = .ok (z.den ρ) w := by
  subst hr
  unfold indexV at h
  split at h
  · rename_i s k n hs hi
    rw [SV.int?_den hi]
    have hu := r_underlying w hs
    split at h
    · rename_i len e hd
      split at h
      · rename_i cs se hcs hse
        split at h
        · rename_i z' hz
          injection h with h; injection h with h1 h2; subst h2
          have hr := inRange_iff.1 h1
          rw [SV.aggs?_den hcs]
          simp only [Instr.index, asIntOf, Sem.run_bind, hu, hd, Result.andThen_ok, Sem.run_pure, hr, and_self, if_true, r_sizeOf w hse]
          exact partV_run hz ρ w
        · cases h
      · cases h
    · rename_i hd
      split at h
      · rename_i l hl
        injection h with h; injection h with h1 h2; subst h2
        have hr := inRange_iff.1 h1
        rw [SV.str?_den hl]
        have hb : (⟨l.toArray⟩ : ByteArray)[n.toNat]? = some (l.getD n.toNat 0) := by
          have hlt : n.toNat < l.length := by omega
          have : (⟨l.toArray⟩ : ByteArray)[n.toNat]? = l[n.toNat]? := by
            rw [getElem?_def]
            split
            · rename_i hh
              rw [List.getElem?_eq_getElem (by omega)]
              rfl
            · rename_i hh
              exact absurd (show n.toNat < (⟨l.toArray⟩ : ByteArray).size by show n.toNat < l.toArray.size; simpa using hlt) hh
          rw [this, List.getElem?_eq_getElem hlt, List.getD_eq_getElem?_getD, List.getElem?_eq_getElem hlt]; rfl
        simp only [Instr.index, asIntOf, Sem.run_bind, hu, hd, Result.andThen_ok, Sem.run_pure, hr.1, if_true, hb, SV.den]
      · cases h
    · cases h
  · cases h

theorem indexV_lt {P : Program} {t : TypeId} {x i z : SV} {r : Bool} (h : indexV P t x i = some (r, z)) {ρ : Nat → Loc} {n : Nat} (hx : x.lt ρ n) : z.lt ρ n := by
  unfold indexV at h
  split at h
  · split at h
    · split at h
      · rename_i cs se hcs hse
        split at h
        · rename_i z' hz
          injection h with h; injection h with h1 h2; subst h2
          exact partV_lt hz (SV.aggs?_lt hcs hx)
        · cases h
      · cases h
    · split at h
      · injection h with h; injection h with h1 h2; subst h2; trivial
      · cases h
    · cases h
  · cases h

def extractV (x : SV) (i : Nat) : Option SV :=
  match x with
  | .tup vs => vs[i]?
  | .v (.tuple vs) => (vs.toList[i]?).map .v
  | _ => none

theorem extractV_run {P : Program} {x z : SV} {i : Nat} (h : extractV x i = some z) (ρ : Nat → Loc) (w : World) : (Instr.extract (x.den ρ) i).run P w = .ok (z.den ρ) w := by
  unfold extractV at h
  split at h
  · rename_i vs
    simp only [Instr.extract, SV.den, dens_eq, List.getElem?_toArray, List.getElem?_map, h, Option.map_some, Sem.run_pure]
  · rename_i vs
    cases hv : vs.toList[i]? with
    | none => rw [hv] at h; cases h
    | some v =>
      rw [hv] at h
      injection h with h; subst h
      have : vs[i]? = some v := by simpa using hv
      simp only [Instr.extract, SV.den, this, Sem.run_pure]
  · cases h

theorem extractV_lt {x z : SV} {i : Nat} (h : extractV x i = some z) {ρ : Nat → Loc} {n : Nat} (hx : x.lt ρ n) : z.lt ρ n := by
  unfold extractV at h
  split at h
  · exact lts_iff.1 hx z (List.mem_of_getElem? h)
  · rename_i vs
    cases hv : vs.toList[i]? with
    | none => rw [hv] at h; cases h
    | some v => rw [hv] at h; injection h with h; subst h; trivial
  · cases h

end
end Go.Sx
