/-
  What a listed variable of plain data (numbers, texts, structs and arrays of these) holds, cell by cell.
-/
import Derived.Stop.LaidErr
import Derived.OpenShut
import Derived.Lib.LaidTab
namespace Go.Sx
noncomputable section
variable {H : Type}

mutual
/-- Plain data, laid flat. -/
def flatD : DataW H → Option (List Value)
  | .lit (.bool b) => some [.bool b]
  | .lit (.int k n) => some [.int k n]
  | .lit (.string s) => some [.string ⟨s.toArray⟩]
  | .agg ps => flatDs ps
  | _ => none
def flatDs : List (DataW H) → Option (List Value)
  | [] => some []
  | d :: ds => match flatD d with
    | some x => match flatDs ds with
      | some y => some (x ++ y)
      | none => none
    | none => none
end

theorem flatDs_cons {d : DataW H} {ds : List (DataW H)} {vs : List Value} (h : flatDs (d :: ds) = some vs) : ∃ x y, flatD d = some x ∧ flatDs ds = some y ∧ vs = x ++ y := by
  simp only [flatDs] at h
  split at h
  · rename_i x hx
    split at h
    · rename_i y hy
      injection h with h
      exact ⟨x, y, hx, hy, h.symm⟩
    · cases h
  · cases h

mutual
/-- A type whose parts lie one behind the other without a gap. -/
def packed (P : Program) : Nat → TypeId → Bool
  | 0, _ => false
  | n + 1, t => match P.underlying t with
    | some (.struct fs) => packedFs P n fs.toList 0 (P.cellsOf t)
    | some (.array k e) => decide (P.cellsOf t = k * P.cellsOf e) && packed P n e
    | _ => true
def packedFs (P : Program) : Nat → List Field → Nat → Nat → Bool
  | _, [], off, all => decide (off = all)
  | 0, _, _, _ => false
  | n + 1, f :: fs, off, all => decide (f.offset = off) && (packed P n f.type && packedFs P n fs (off + P.cellsOf f.type) all)
end

theorem mapM_cons_some {α β : Type} {f : α → Option β} {a : α} {l : List α} {r : List β} (h : (a :: l).mapM f = some r) : ∃ x y, f a = some x ∧ l.mapM f = some y ∧ r = x :: y := by
  rw [List.mapM_cons] at h
  cases hx : f a with
  | none => rw [hx] at h; cases h
  | some x =>
    rw [hx] at h
    cases hy : l.mapM f with
    | none => rw [hy] at h; cases h
    | some y =>
      rw [hy] at h
      injection h with h
      exact ⟨x, y, rfl, rfl, h.symm⟩

theorem flat_fs {P : Program} {tr : TypeId → List Value → Option (DataW H × List MemPlace)} {cs : List Value}
    (ih : ∀ n t l d p vs, tr t l = some (d, p) → packed P n t = true → flatD d = some vs → l = vs) :
    ∀ (fs : List Field) (n off : Nat) (xs : List (DataW H × List MemPlace)) (vs : List Value), packedFs P n fs off cs.length = true →
      (fs.mapM fun f => tr f.type ((cs.drop f.offset).take (P.cellsOf f.type))) = some xs → flatDs (xs.map (·.1)) = some vs → cs.drop off = vs := by
  intro fs
  induction fs with
  | nil =>
    intro n off xs vs hp hm hf
    simp only [List.mapM_nil] at hm
    injection hm with hm
    subst hm
    injection hf with hf
    subst hf
    have : off = cs.length := by cases n <;> simpa [packedFs] using hp
    rw [this, List.drop_length]
  | cons f fs ihf =>
    intro n off xs vs hp hm hf
    cases n with
    | zero => simp [packedFs] at hp
    | succ n =>
      simp only [packedFs, Bool.and_eq_true, decide_eq_true_eq] at hp
      obtain ⟨h1, h2, h3⟩ := hp
      obtain ⟨x, y, hx, hy, rfl⟩ := mapM_cons_some hm
      simp only [List.map_cons] at hf
      obtain ⟨u, v, hu, hv, rfl⟩ := flatDs_cons hf
      have e1 := ih n _ _ _ _ _ (show tr f.type _ = some (x.1, x.2) from hx) h2 hu
      have e2 := ihf n _ _ _ h3 hy hv
      rw [← e1, ← e2, h1, ← List.drop_drop, List.take_append_drop]

theorem flat_arr {tr : List Value → Option (DataW H × List MemPlace)} {cs : List Value} {c : Nat}
    (ih : ∀ l d p vs, tr l = some (d, p) → flatD d = some vs → l = vs) :
    ∀ (k s : Nat) (xs : List (DataW H × List MemPlace)) (vs : List Value),
      ((List.range' s k).mapM fun i => tr ((cs.drop (i * c)).take c)) = some xs → flatDs (xs.map (·.1)) = some vs → (cs.drop (s * c)).take (k * c) = vs := by
  intro k
  induction k with
  | zero =>
    intro s xs vs hm hf
    simp only [List.range'_zero, List.mapM_nil] at hm
    injection hm with hm
    subst hm
    injection hf with hf
    subst hf
    simp
  | succ k ihk =>
    intro s xs vs hm hf
    rw [List.range'_succ] at hm
    obtain ⟨x, y, hx, hy, rfl⟩ := mapM_cons_some hm
    simp only [List.map_cons] at hf
    obtain ⟨u, v, hu, hv, rfl⟩ := flatDs_cons hf
    have e1 := ih _ _ _ _ (show tr _ = some (x.1, x.2) from hx) hu
    have e2 := ihk _ _ _ hy hv
    rw [← e1, ← e2, show (k + 1) * c = c + k * c by rw [Nat.add_mul, Nat.one_mul, Nat.add_comm], List.take_add, List.drop_drop, show (s + 1) * c = s * c + c by rw [Nat.add_mul, Nat.one_mul]]

theorem flat_of_trod {enc : TypeId × Value → H} {P : Program} {w : World} {base : Nat} {sp : Nat → Bool} {held : Bool} : ∀ (fuel n : Nat) (t : TypeId) (cs : List Value) (d : DataW H) (p : List MemPlace) (vs : List Value),
    DataW.trod enc P w base sp held fuel t cs = some (d, p) → packed P n t = true → flatD d = some vs → cs = vs := by
  intro fuel
  induction fuel with
  | zero => intro n t cs d p vs h; simp [DataW.trod] at h
  | succ fuel ih =>
    intro n t cs d p vs h hp hf
    cases n with
    | zero => simp [packed] at hp
    | succ n =>
      unfold DataW.trod at h
      split at h
      · injection h with h; injection h with h1 h2; subst h1; simp only [flatD] at hf; injection hf
      · split at h
        · rename_i hk
          injection h with h; injection h with h1 h2; subst h1; simp only [flatD] at hf; injection hf with hf
          rw [hk.1]; exact hf
        · cases h
      · split at h
        · injection h with h; injection h with h1 h2; subst h1; simp [flatD] at hf
        · cases h
      · split at h
        · injection h with h; injection h with h1 h2; subst h1; simp only [flatD] at hf; injection hf
        · cases h
      · injection h with h; injection h with h1 h2; subst h1; simp [flatD] at hf
      · rename_i e a _
        cases hb : (w.cells? base a (P.cellsOf e)).bind (DataW.trod enc P w base sp held fuel e) with
        | none => rw [hb] at h; cases h
        | some x => rw [hb] at h; injection h with h; injection h with h1 h2; subst h1; simp [flatD] at hf
      · injection h with h; injection h with h1 h2; subst h1; simp [flatD] at hf
      · simp only at h
        split at h
        · rw [Option.bind_eq_some_iff] at h
          obtain ⟨el, _, h⟩ := h
          rw [Option.map_eq_some_iff] at h
          obtain ⟨rest, _, h⟩ := h
          injection h with h1 h2; subst h1; simp [flatD] at hf
        · cases h
      · rename_i fs hfs
        split at h
        · rename_i hl
          rw [Option.map_eq_some_iff] at h
          obtain ⟨xs, hx, h⟩ := h
          injection h with h1 h2
          subst h1
          simp only [flatD] at hf
          unfold packed at hp
          rw [hfs] at hp
          simp only at hp
          rw [← hl] at hp
          exact flat_fs (P := P) (tr := fun t l => DataW.trod enc P w base sp held fuel t l) (fun n t l d p vs a b c => ih n t l d p vs a b c) fs.toList n 0 xs vs hp hx hf
        · cases h
      · rename_i k e hfs
        split at h
        · rename_i hl
          rw [Option.map_eq_some_iff] at h
          obtain ⟨xs, hx, h⟩ := h
          injection h with h1 h2
          subst h1
          simp only [flatD] at hf
          unfold packed at hp
          rw [hfs] at hp
          simp only [Bool.and_eq_true, decide_eq_true_eq] at hp
          rw [List.range_eq_range'] at hx
          have := flat_arr (c := P.cellsOf e) (tr := fun l => DataW.trod enc P w base sp held fuel e l) (fun l d p vs a c => ih n e l d p vs a hp.2 c) k 0 xs vs hx hf
          rw [← this, Nat.zero_mul, List.drop_zero, ← hp.1, ← hl, List.take_length]
        · cases h
      all_goals first
        | (cases h; done)
        | (injection h with h; injection h with h1 h2; subst h1; simp [flatD] at hf; done)
        | (repeat' split at h) <;> first
          | (cases h; done)
          | (injection h with h; injection h with h1 h2; subst h1; simp [flatD] at hf; done)
          | (rw [Option.map_eq_some_iff] at h; obtain ⟨x, _, h⟩ := h; injection h with h1 h2; subst h1; simp [flatD] at hf; done)
          | (rw [Option.bind_eq_some_iff] at h; obtain ⟨x, _, h⟩ := h; simp only at h; split at h <;> first | (cases h; done) | (injection h with h; injection h with h1 h2; subst h1; simp [flatD] at hf; done))

theorem laid_mem {P : Program} {w : World} : ∀ {l : List (String × DataW Unit)} {ps : List MemPlace}, DataW.LaidVars P w l ps → ∀ {n d}, (n, d) ∈ l →
    ∃ g t cs fuel p, P.globalNamed n = some g ∧ (P.globals[g]?).map (·.type) = some t ∧ w.var? P n = some cs ∧ DataW.trod (fun _ => ()) P w 0 (fun _ => true) false fuel t cs.toList = some (d, p)
  | [], _, _, _, _, hm => by cases hm
  | (n0, d0) :: r, _, h, n, d, hm => by
    obtain ⟨g, t, cs, fuel, p, q, h1, h2, h3, h4, h5, _⟩ := h
    rcases List.mem_cons.1 hm with e | hm
    · injection e with e1 e2
      subst e1; subst e2
      exact ⟨g, t, cs, fuel, p, h1, h2, h3, h4⟩
    · exact laid_mem h5 hm

/-- A listed variable of plain data holds just that. -/
theorem known_of_laid {P : Program} {w : World} {l : List (String × DataW Unit)} (h : laidMet P l w) {n : String} {d : DataW Unit} (hm : (n, d) ∈ l) {g : Nat} (hg : P.globalNamed n = some g) {t : TypeId} (ht : (P.globals[g]?).map (·.type) = some t)
    {k : Nat} (hp : packed P k t = true) {vs : List Value} (hf : flatD d = some vs) : ∃ c u fz, w.heap[g]? = some (.cells c u fz) ∧ ∀ (i : Nat) v, vs[i]? = some v → c[i]? = some v := by
  obtain ⟨ps, hv, _, _⟩ := h
  obtain ⟨g', t', cs, fuel, p, h1, h2, h3, h4⟩ := laid_mem hv hm
  obtain rfl := Option.some.inj (hg.symm.trans h1)
  obtain rfl := Option.some.inj (ht.symm.trans h2)
  have e := flat_of_trod fuel k _ _ _ _ _ h4 hp hf
  unfold World.var? at h3
  rw [hg] at h3
  simp only [Option.bind_some] at h3
  split at h3
  · rename_i c u fz hb
    injection h3 with h3
    subst h3
    refine ⟨c, u, fz, hb, fun i v hi => ?_⟩
    rw [← e] at hi
    simpa using hi
  · cases h3

/-- The same of a variable that holds one value. -/
theorem known_of_var {P : Program} {w : World} {n : String} {g : Nat} (hg : P.globalNamed n = some g) {x : Value} (h3 : w.var? P n = some #[x]) : ∃ c u fz, w.heap[g]? = some (.cells c u fz) ∧ ∀ (i : Nat) v, [x][i]? = some v → c[i]? = some v := by
  unfold World.var? at h3
  rw [hg] at h3
  simp only [Option.bind_some] at h3
  split at h3
  · rename_i c u fz hb
    injection h3 with h3
    subst h3
    exact ⟨_, u, fz, hb, fun i v hi => by simpa using hi⟩
  · cases h3

end
end Go.Sx
