/-
  The symbolic executor: all operations that look at the slots alone, in one function.
-/
import Derived.Test.YtompigcfojbpkaaSxE
namespace Go.Sx
noncomputable section
variable {dfs : List Deferred}

/-! ### Builtins -/

def lenV (P : Program) (t : TypeId) (x : SV) : Option SV :=
  match ty P t with
  | none => none
  | some s => match s.und with
    | .string => x.str?.map fun l => .v (.int .i64 l.length)
    | .slice _ => match x with
      | .slc _ _ l _ => some (.v (.int .i64 l))
      | .v (.slice _ l _) => some (.v (.int .i64 l))
      | _ => none
    | .array n _ => some (.v (.int .i64 n))
    | .pointer e => match ty P e with
      | some se => match se.und with
        | .array n _ => some (.v (.int .i64 n))
        | _ => none
      | none => none
    | .map _ _ => match x with
      | .v (.map none) => some (.v (.int .i64 0))
      | _ => none
    | _ => none

theorem lenV_run {P : Program} {t u : TypeId} {x z : SV} (h : lenV P t x = some z) (ρ : Nat → Loc) (w : World) : (Builtin.len_ #[t] u #[x.den ρ]).run P w = .ok (z.den ρ) w := by
  unfold lenV at h
  split at h
  · cases h
  · rename_i s hs
    have hu := r_underlying w hs
    split at h
    · rename_i hd
      simp only [Option.map_eq_some_iff] at h
      obtain ⟨l, hl, rfl⟩ := h
      rw [SV.str?_den hl]
      have hsz : (⟨l.toArray⟩ : ByteArray).size = l.length := by show l.toArray.size = _; simp
      simp only [Builtin.len_, List.getElem?_toArray, List.getElem?_cons_zero, Sem.run_bind, hu, hd, Result.andThen_ok, hsz]
      rfl
    · rename_i e hd
      split at h
      · injection h with h; subst h
        simp only [Builtin.len_, List.getElem?_toArray, List.getElem?_cons_zero, Sem.run_bind, hu, hd, Result.andThen_ok, SV.den]
        rfl
      · injection h with h; subst h
        simp only [Builtin.len_, List.getElem?_toArray, List.getElem?_cons_zero, Sem.run_bind, hu, hd, Result.andThen_ok, SV.den]
        rfl
      · cases h
    · rename_i n e hd
      injection h with h; subst h
      simp only [Builtin.len_, List.getElem?_toArray, List.getElem?_cons_zero, Sem.run_bind, hu, hd, Result.andThen_ok]
      rfl
    · rename_i e hd
      split at h
      · rename_i se hse
        split at h
        · rename_i n e' hd'
          injection h with h; subst h
          simp only [Builtin.len_, List.getElem?_toArray, List.getElem?_cons_zero, Sem.run_bind, hu, hd, Result.andThen_ok, r_underlying w hse, hd']
          rfl
        · cases h
      · cases h
    · rename_i k e hd
      split at h
      · injection h with h; subst h
        simp only [Builtin.len_, List.getElem?_toArray, List.getElem?_cons_zero, Sem.run_bind, hu, hd, Result.andThen_ok, SV.den]
        rfl
      · cases h
    · cases h

theorem lenV_lt {P : Program} {t : TypeId} {x z : SV} (h : lenV P t x = some z) (ρ : Nat → Loc) (n : Nat) : z.lt ρ n := by
  unfold lenV at h
  split at h
  · cases h
  · split at h
    · simp only [Option.map_eq_some_iff] at h
      obtain ⟨l, hl, rfl⟩ := h; trivial
    all_goals first
      | (injection h with h; subst h; trivial)
      | (split at h <;> first | (cases h; done) | (injection h with h; subst h; trivial) | (split at h <;> first | (cases h; done) | (injection h with h; subst h; trivial)))
      | (cases h; done)

def capV (P : Program) (t : TypeId) (x : SV) : Option SV :=
  match ty P t with
  | none => none
  | some s => match s.und, x with
    | .slice _, .slc _ _ _ (.lit c) => some (.v (.int .i64 c))
    | .slice _, .v (.slice _ _ c) => some (.v (.int .i64 c))
    | _, _ => none

theorem capV_run {P : Program} {t u : TypeId} {x z : SV} (h : capV P t x = some z) (ρ : Nat → Loc) (w : World) : (Builtin.cap_ #[t] u #[x.den ρ]).run P w = .ok (z.den ρ) w := by
  unfold capV at h
  split at h
  · cases h
  · rename_i s hs
    have hu := r_underlying w hs
    split at h
    · rename_i hd
      injection h with h; subst h
      simp only [Builtin.cap_, List.getElem?_toArray, List.getElem?_cons_zero, Sem.run_bind, hu, hd, Result.andThen_ok, SV.den]
      rfl
    · rename_i hd
      injection h with h; subst h
      simp only [Builtin.cap_, List.getElem?_toArray, List.getElem?_cons_zero, Sem.run_bind, hu, hd, Result.andThen_ok, SV.den]
      rfl
    · cases h

theorem capV_lt {P : Program} {t : TypeId} {x z : SV} (h : capV P t x = some z) (ρ : Nat → Loc) (n : Nat) : z.lt ρ n := by
  unfold capV at h
  split at h
  · cases h
  · split at h <;> first | (cases h; done) | (injection h with h; subst h; trivial)

/-- The least, or the greatest, of some numbers. -/
def foldM (mx : Bool) (k : IntKind) : Int → List SV → Option SV
  | a, [] => some (.v (.int k a))
  | a, y :: ys => match y.int? with
    | some (_, b) => foldM mx k (bif mx then (bif decide (a < b) then b else a) else (bif decide (b < a) then b else a)) ys
    | none => none

theorem foldM_min {P : Program} {ρ : Nat → Loc} {k : IntKind} (w : World) : ∀ (ys : List SV) (a : Int) (z : SV), foldM false k a ys = some z → ((ys.map (SV.den ρ)).foldlM Builtin.min2 (.int k a)).run P w = .ok (z.den ρ) w := by
  intro ys
  induction ys with
  | nil => intro a z h; injection h with h; subst h; rfl
  | cons y ys ih =>
    intro a z h
    simp only [foldM] at h
    split at h
    · rename_i k' b hy
      have := ih _ z h
      simp only [List.map_cons, List.foldlM_cons, SV.int?_den hy, Builtin.min2, Sem.run_bind, Sem.run_pure, Result.andThen_ok]
      by_cases hab : b < a <;> simp [hab] at this ⊢ <;> exact this
    · cases h

theorem foldM_max {P : Program} {ρ : Nat → Loc} {k : IntKind} (w : World) : ∀ (ys : List SV) (a : Int) (z : SV), foldM true k a ys = some z → ((ys.map (SV.den ρ)).foldlM Builtin.max2 (.int k a)).run P w = .ok (z.den ρ) w := by
  intro ys
  induction ys with
  | nil => intro a z h; injection h with h; subst h; rfl
  | cons y ys ih =>
    intro a z h
    simp only [foldM] at h
    split at h
    · rename_i k' b hy
      have := ih _ z h
      simp only [List.map_cons, List.foldlM_cons, SV.int?_den hy, Builtin.max2, Sem.run_bind, Sem.run_pure, Result.andThen_ok]
      by_cases hab : a < b
      · simp [hab] at this ⊢; exact this
      · simp [hab] at this ⊢; exact this
    · cases h

theorem foldM_lt {mx : Bool} {k : IntKind} (ρ : Nat → Loc) (n : Nat) : ∀ (ys : List SV) (a : Int) (z : SV), foldM mx k a ys = some z → z.lt ρ n := by
  intro ys
  induction ys with
  | nil => intro a z h; injection h with h; subst h; trivial
  | cons y ys ih =>
    intro a z h
    simp only [foldM] at h
    split at h
    · exact ih _ z h
    · cases h

def builtV (P : Program) (b : Builtin) (ts : List TypeId) (xs : List SV) : Option SV :=
  match b, ts, xs with
  | .len, [t], [x] => lenV P t x
  | .cap, [t], [x] => capV P t x
  | .min, _, x :: ys => match x.int? with
    | some (k, a) => foldM false k a ys
    | none => none
  | .max, _, x :: ys => match x.int? with
    | some (k, a) => foldM true k a ys
    | none => none
  | _, _, _ => none

theorem builtV_run {P : Program} {b : Builtin} {ts : List TypeId} {xs : List SV} {z : SV} (h : builtV P b ts xs = some z) (ρ : Nat → Loc) (w : World) (u : TypeId) (cs : Array Bool) :
    (builtin b ts.toArray u cs (xs.map (SV.den ρ)).toArray).run P w = .ok (.value (z.den ρ)) w := by
  unfold builtV at h
  split at h
  · have := lenV_run h ρ w (u := u)
    simp only [builtin, Sem.run_bind, List.map_cons, List.map_nil, this, Result.andThen_ok, Sem.run_pure]
  · have := capV_run h ρ w (u := u)
    simp only [builtin, Sem.run_bind, List.map_cons, List.map_nil, this, Result.andThen_ok, Sem.run_pure]
  · split at h
    · rename_i k a hx
      simp only [builtin, Builtin.min_, List.map_cons, SV.int?_den hx, Sem.run_bind, foldM_min w _ _ _ h, Result.andThen_ok, Sem.run_pure]
    · cases h
  · split at h
    · rename_i k a hx
      simp only [builtin, Builtin.max_, List.map_cons, SV.int?_den hx, Sem.run_bind, foldM_max w _ _ _ h, Result.andThen_ok, Sem.run_pure]
    · cases h
  · cases h

theorem builtV_lt {P : Program} {b : Builtin} {ts : List TypeId} {xs : List SV} {z : SV} (h : builtV P b ts xs = some z) (ρ : Nat → Loc) (n : Nat) : z.lt ρ n := by
  unfold builtV at h
  split at h
  · exact lenV_lt h ρ n
  · exact capV_lt h ρ n
  · split at h
    · exact foldM_lt ρ n _ _ _ h
    · cases h
  · split at h
    · exact foldM_lt ρ n _ _ _ h
    · cases h
  · cases h

/-! ### All of them -/

def optT (x : Option SV) : Option (Bool × SV) :=
  match x with
  | some v => some (true, v)
  | none => none

def optOpd (tm : T SV) : Option Operand → Option (Option SV)
  | none => some none
  | some x => match opd tm x with
    | some v => some (some v)
    | none => none

def pickV (c a b : SV) : Option SV :=
  match c with
  | .v (.bool t) => match a, b with
    | .v (.bool x), .v (.bool y) => some (.v (.bool (bif t then x else y)))
    | a, b => some (bif t then a else b)
  | _ => none

theorem pickV_run {c a b z : SV} (h : pickV c a b = some z) (ρ : Nat → Loc) : ∃ t, c = .v (.bool t) ∧ z.den ρ = if t then a.den ρ else b.den ρ := by
  unfold pickV at h
  split at h
  · rename_i t
    refine ⟨t, rfl, ?_⟩
    split at h <;> injection h with h <;> subst h <;> cases t <;> rfl
  · cases h

theorem pickV_lt {c a b z : SV} (h : pickV c a b = some z) {ρ : Nat → Loc} {n : Nat} (ha : a.lt ρ n) (hb : b.lt ρ n) : z.lt ρ n := by
  unfold pickV at h
  split at h
  · rename_i t
    split at h
    · injection h with h; subst h; trivial
    · injection h with h; subst h; cases t
      · exact hb
      · exact ha
  · cases h

def pureCall (P : Program) (tm : T SV) (c : Call) : Option (Bool × SV) :=
  match c.callee with
  | .builtin b => match opds tm c.args.toList with
    | some xs => optT (builtV P b c.argTypes.toList xs)
    | none => none
  | _ => none

/-- An operation that looks at the slots alone: what it asks, and what it gives. -/
def pureV (P : Program) (tm : T SV) : Op → Option (Bool × SV)
  | .move x => optT (opd tm x)
  | .assign x => optT (opd tm x)
  | .pick c a b => match opd tm c, opd tm a, opd tm b with
    | some c, some a, some b => optT (pickV c a b)
    | some (.v (.bool true)), some a, none => some (true, a)
    | some (.v (.bool false)), none, some b => some (true, b)
    | _, _, _ => none
  | .build t parts => match opds tm (parts.toList.map (·.2)) with
    | some xs => optT (buildV P t ((parts.toList.map (·.1)).zip xs))
    | none => none
  | .nilCheck x => match opd tm x with
    | some x => nilV x
    | none => none
  | .binOp op t x y _ => match opd tm x, opd tm y with
    | some a, some b => binV P op t (isCst y) a b
    | _, _ => none
  | .unOp op _ x => match opd tm x with
    | some x => optT (unV op x)
    | none => none
  | .convert s d x => match opd tm x with
    | some x => optT (convV P s d x)
    | none => none
  | .makeInterface t x => match opd tm x with
    | some x => optT (ifcV P t x)
    | none => none
  | .makeFunc (.func f) first caps => bif first.isEmpty then (match opds tm caps.toList with
      | some xs => some (true, .fn f xs)
      | none => none) else none
  | .slice t x lo hi mx => match opd tm x, optOpd tm lo, optOpd tm hi, optOpd tm mx with
    | some x, some lo, some hi, some mx => sliceV P t x lo hi mx
    | _, _, _, _ => none
  | .fieldAddr t x i => match opd tm x with
    | some x => optT (fieldAddrV P t x i)
    | none => none
  | .field t x i => match opd tm x with
    | some x => optT (fieldV P t x i)
    | none => none
  | .indexAddr t x i => match opd tm x, opd tm i with
    | some x, some i => indexAddrV P t x i
    | _, _ => none
  | .index t x i => match opd tm x, opd tm i with
    | some x, some i => indexV P t x i
    | _, _ => none
  | .extract x i => match opd tm x with
    | some x => optT (extractV x i)
    | none => none
  | .typeAssert x _ t ok => match opd tm x with
    | some x => optT (assertV P t ok x)
    | none => none
  | .call c => pureCall P tm c
  | _ => none

theorem optT_some {x : Option SV} {r : Bool} {z : SV} (h : optT x = some (r, z)) : x = some z := by
  unfold optT at h
  split at h
  · injection h with h; injection h with _ h; subst h; rfl
  · cases h

theorem optOpd_den {ρ : Nat → Loc} {tm : T SV} {sz nx : Nat} {a : Act} (A : ARel dfs ρ tm sz nx a) {x : Option Operand} {v : Option SV} (h : optOpd tm x = some v) : x.map a.eval = v.map (SV.den ρ) := by
  unfold optOpd at h
  split at h
  · injection h with h; subst h; rfl
  · split at h
    · rename_i hv
      injection h with h; subst h
      simp [(opd_den A hv).1]
    · cases h

theorem pureV_run {P : Program} {tm : T SV} {op : Op} {r : Bool} {z : SV} (h : pureV P tm op = some (r, z)) (hr : r = true) {ρ : Nat → Loc} {sz nx : Nat} {a : Act} (A : ARel dfs ρ tm sz nx a)
    (o : Oper) (ho : o.op = op) (w : World) : (execOp a.eval o).run P w = .ok (.value (z.den ρ)) w ∧ z.lt ρ nx := by
  subst hr
  unfold pureV at h
  unfold execOp
  rw [ho]
  split at h
  · have h := optT_some h
    obtain ⟨h1, h2⟩ := opd_den A h
    exact ⟨by simp [h1], h2⟩
  · have h := optT_some h
    obtain ⟨h1, h2⟩ := opd_den A h
    exact ⟨by simp [h1], h2⟩
  · split at h
    · rename_i c x y hc hx hy
      have h := optT_some h
      obtain ⟨c1, _⟩ := opd_den A hc
      obtain ⟨x1, x2⟩ := opd_den A hx
      obtain ⟨y1, y2⟩ := opd_den A hy
      obtain ⟨t, rfl, hz⟩ := pickV_run h ρ
      refine ⟨?_, pickV_lt h x2 y2⟩
      rw [hz]
      simp only [c1, x1, y1, SV.den, asBool, Sem.run_bind, Sem.run_pure, Result.andThen_ok]
    · rename_i x hc hx hy
      injection h with h; injection h with _ h; subst h
      obtain ⟨c1, _⟩ := opd_den A hc
      obtain ⟨x1, x2⟩ := opd_den A hx
      exact ⟨by simp only [c1, x1, SV.den, asBool, Sem.run_bind, Sem.run_pure, Result.andThen_ok, if_true], x2⟩
    · rename_i x hc hx hy
      injection h with h; injection h with _ h; subst h
      obtain ⟨c1, _⟩ := opd_den A hc
      obtain ⟨x1, x2⟩ := opd_den A hy
      exact ⟨by simp only [c1, x1, SV.den, asBool, Sem.run_bind, Sem.run_pure, Result.andThen_ok, Bool.false_eq_true, if_false], x2⟩
    · cases h
  · rename_i t parts
    split at h
    · rename_i xs hxs
      have h := optT_some h
      obtain ⟨h1, h2⟩ := opds_den A _ _ hxs
      have hp : (parts.map fun (i, x) => (i, a.eval x)) = (((parts.toList.map (·.1)).zip xs).map fun (i, x) => (i, x.den ρ)).toArray := by
        apply Array.toList_inj.1
        rw [Array.toList_map]
        show _ = ((parts.toList.map (·.1)).zip xs).map fun (i, x) => (i, x.den ρ)
        have : (((parts.toList.map (·.1)).zip xs).map fun (i, x) => (i, SV.den ρ x)) = (parts.toList.map (·.1)).zip (xs.map (SV.den ρ)) := by
          rw [List.zip_map_right]; rfl
        rw [this, ← h1, List.map_map, List.zip_map']
        rfl
      refine ⟨?_, buildV_lt h fun p hp => h2 p.2 (List.of_mem_zip hp).2⟩
      simp only [Sem.run_bind]
      rw [hp, buildV_run h ρ w]
      simp
    · cases h
  · split at h
    · rename_i x hx
      obtain ⟨h1, h2⟩ := opd_den A hx
      dsimp only
      rw [h1]
      unfold nilV at h
      split at h
      · injection h with h; injection h with _ h; subst h; exact ⟨rfl, h2⟩
      · rename_i o
        injection h with h; injection h with h3 h; subst h
        cases o with
        | none => cases h3
        | some a => exact ⟨rfl, trivial⟩
      · injection h with h; injection h with _ h; subst h; exact ⟨rfl, h2⟩
      · injection h with h; injection h with _ h; subst h; exact ⟨rfl, h2⟩
      · cases h
    · cases h
  · rename_i op t x y _
    split at h
    · rename_i u v hu hv
      obtain ⟨h1, _⟩ := opd_den A hu
      obtain ⟨h2, _⟩ := opd_den A hv
      refine ⟨?_, binV_lt h ρ nx⟩
      have := binV_run h rfl ρ w x y (fun hc => by cases y <;> first | exact ⟨_, rfl⟩ | cases hc)
      rw [← h1, ← h2] at this
      simp only [Sem.run_bind] at this ⊢
      rw [this]
      simp
    · cases h
  · split at h
    · rename_i x hx
      have h := optT_some h
      obtain ⟨h1, _⟩ := opd_den A hx
      refine ⟨?_, unV_lt h ρ nx⟩
      simp only [Sem.run_bind, h1, unV_run h ρ w, Result.andThen_ok, Sem.run_pure]
    · cases h
  · split at h
    · rename_i x hx
      have h := optT_some h
      obtain ⟨h1, h2⟩ := opd_den A hx
      refine ⟨?_, convV_lt h h2⟩
      simp only [Sem.run_bind, h1, convV_run h ρ w, Result.andThen_ok, Sem.run_pure]
    · cases h
  · split at h
    · rename_i x hx
      have h := optT_some h
      obtain ⟨h1, h2⟩ := opd_den A hx
      refine ⟨?_, ifcV_lt h h2⟩
      simp only [Sem.run_bind, h1, ifcV_run h ρ w, Result.andThen_ok, Sem.run_pure]
    · cases h
  · rename_i f first caps
    cases hf : first.isEmpty with
    | false => rw [hf] at h; cases h
    | true =>
      rw [hf] at h
      simp only [cond_true] at h
      split at h
      · rename_i xs hxs
        injection h with h; injection h with _ h; subst h
        obtain ⟨h1, h2⟩ := opds_den A _ _ hxs
        have hfe : first = #[] := Array.isEmpty_iff.1 hf
        subst hfe
        refine ⟨?_, lts_iff.2 h2⟩
        have hc : caps.map a.eval = (xs.map (SV.den ρ)).toArray := by
          apply Array.toList_inj.1
          rw [Array.toList_map, h1]
        simp only [Instr.makeFunc, hc, SV.den, dens_eq, Sem.run_bind, Sem.run_pure, Result.andThen_ok, Array.map_empty]
      · cases h
  · split at h
    · rename_i x lo hi mx hx hlo hhi hmx
      obtain ⟨h1, h2⟩ := opd_den A hx
      obtain ⟨k1, k2⟩ := sliceV_run h rfl h2 w
      refine ⟨?_, k2⟩
      simp only [Sem.run_bind, h1, optOpd_den A hlo, optOpd_den A hhi, optOpd_den A hmx, k1, Result.andThen_ok, Sem.run_pure]
    · cases h
  · split at h
    · rename_i x hx
      have h := optT_some h
      obtain ⟨h1, h2⟩ := opd_den A hx
      refine ⟨?_, fieldAddrV_lt h h2⟩
      simp only [Sem.run_bind, h1, fieldAddrV_run h ρ w, Result.andThen_ok, Sem.run_pure]
    · cases h
  · split at h
    · rename_i x hx
      have h := optT_some h
      obtain ⟨h1, h2⟩ := opd_den A hx
      refine ⟨?_, fieldV_lt h h2⟩
      simp only [Sem.run_bind, h1, fieldV_run h ρ w, Result.andThen_ok, Sem.run_pure]
    · cases h
  · split at h
    · rename_i x i hx hi
      obtain ⟨h1, h2⟩ := opd_den A hx
      obtain ⟨h3, _⟩ := opd_den A hi
      refine ⟨?_, indexAddrV_lt h h2⟩
      simp only [Sem.run_bind, h1, h3, indexAddrV_run h rfl ρ w, Result.andThen_ok, Sem.run_pure]
    · cases h
  · split at h
    · rename_i x i hx hi
      obtain ⟨h1, h2⟩ := opd_den A hx
      obtain ⟨h3, _⟩ := opd_den A hi
      refine ⟨?_, indexV_lt h h2⟩
      simp only [Sem.run_bind, h1, h3, indexV_run h rfl ρ w, Result.andThen_ok, Sem.run_pure]
    · cases h
  · split at h
    · rename_i x hx
      have h := optT_some h
      obtain ⟨h1, h2⟩ := opd_den A hx
      refine ⟨?_, extractV_lt h h2⟩
      simp only [Sem.run_bind, h1, extractV_run h ρ w, Result.andThen_ok, Sem.run_pure]
    · cases h
  · split at h
    · rename_i x hx
      have h := optT_some h
      obtain ⟨h1, h2⟩ := opd_den A hx
      refine ⟨?_, assertV_lt h h2⟩
      simp only [Sem.run_bind, h1, assertV_run h ρ w, Result.andThen_ok, Sem.run_pure]
    · cases h
  · rename_i c
    unfold pureCall at h
    split at h
    · rename_i b hb
      split at h
      · rename_i xs hxs
        have h := optT_some h
        obtain ⟨h1, _⟩ := opds_den A _ _ hxs
        refine ⟨?_, builtV_lt h ρ nx⟩
        have hc : c.args.map a.eval = (xs.map (SV.den ρ)).toArray := by
          apply Array.toList_inj.1
          rw [Array.toList_map, h1]
        have key : ∀ cs, (builtin b c.argTypes o.type cs (xs.map (SV.den ρ)).toArray).run P w = .ok (.value (z.den ρ)) w := fun cs => builtV_run h ρ w o.type cs
        simp only [resolve, hb, hc, Sem.run_bind, Sem.run_pure, Result.andThen_ok, invoke]
        exact key _
      · cases h
    · cases h
  · cases h

end
end Go.Sx
