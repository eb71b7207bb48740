/-
  Lifting: what a row's arguments are in memory, as plain data of an arena that holds all that lay.
  Members and deeds as plain data, out of what a row's arguments are.
-/
import Derived.Test.YtienbbhelhhfjaaGreatDoorG06
import Derived.ChangeArms
import Derived.DataReads
import Derived.SizedLaws
import Derived.Test.YtienbbhelhhfjaaGreatDoorG07
import Derived.Test.YtienbbhelhhfjaaGreatDoorG08
namespace Go.Sx
noncomputable section
open Go.RowKit Go.ChangeShapes Go.WideShapes

theorem list1 {α : Type} {l : List α} (h : l.length = 1) : ∃ v0, l = [v0] := by
  match l, h with
  | [v0], _ => exact ⟨v0, rfl⟩

theorem list2 {α : Type} {l : List α} (h : l.length = 2) : ∃ v0 v1, l = [v0, v1] := by
  match l, h with
  | [v0, v1], _ => exact ⟨v0, v1, rfl⟩

theorem list3 {α : Type} {l : List α} (h : l.length = 3) : ∃ v0 v1 v2, l = [v0, v1, v2] := by
  match l, h with
  | [v0, v1, v2], _ => exact ⟨v0, v1, v2, rfl⟩

theorem list4 {α : Type} {l : List α} (h : l.length = 4) : ∃ v0 v1 v2 v3, l = [v0, v1, v2, v3] := by
  match l, h with
  | [v0, v1, v2, v3], _ => exact ⟨v0, v1, v2, v3, rfl⟩

theorem list5 {α : Type} {l : List α} (h : l.length = 5) : ∃ v0 v1 v2 v3 v4, l = [v0, v1, v2, v3, v4] := by
  match l, h with
  | [v0, v1, v2, v3, v4], _ => exact ⟨v0, v1, v2, v3, v4, rfl⟩

theorem list6 {α : Type} {l : List α} (h : l.length = 6) : ∃ v0 v1 v2 v3 v4 v5, l = [v0, v1, v2, v3, v4, v5] := by
  match l, h with
  | [v0, v1, v2, v3, v4, v5], _ => exact ⟨v0, v1, v2, v3, v4, v5, rfl⟩

theorem list7 {α : Type} {l : List α} (h : l.length = 7) : ∃ v0 v1 v2 v3 v4 v5 v6, l = [v0, v1, v2, v3, v4, v5, v6] := by
  match l, h with
  | [v0, v1, v2, v3, v4, v5, v6], _ => exact ⟨v0, v1, v2, v3, v4, v5, v6, rfl⟩

theorem list8 {α : Type} {l : List α} (h : l.length = 8) : ∃ v0 v1 v2 v3 v4 v5 v6 v7, l = [v0, v1, v2, v3, v4, v5, v6, v7] := by
  match l, h with
  | [v0, v1, v2, v3, v4, v5, v6, v7], _ => exact ⟨v0, v1, v2, v3, v4, v5, v6, v7, rfl⟩

theorem list15 {α : Type} {l : List α} (h : l.length = 15) : ∃ v0 v1 v2 v3 v4 v5 v6 v7 v8 v9 v10 v11 v12 v13 v14, l = [v0, v1, v2, v3, v4, v5, v6, v7, v8, v9, v10, v11, v12, v13, v14] := by
  match l, h with
  | [v0, v1, v2, v3, v4, v5, v6, v7, v8, v9, v10, v11, v12, v13, v14], _ => exact ⟨v0, v1, v2, v3, v4, v5, v6, v7, v8, v9, v10, v11, v12, v13, v14, rfl⟩

theorem list16 {α : Type} {l : List α} (h : l.length = 16) : ∃ v0 v1 v2 v3 v4 v5 v6 v7 v8 v9 v10 v11 v12 v13 v14 v15, l = [v0, v1, v2, v3, v4, v5, v6, v7, v8, v9, v10, v11, v12, v13, v14, v15] := by
  match l, h with
  | [v0, v1, v2, v3, v4, v5, v6, v7, v8, v9, v10, v11, v12, v13, v14, v15], _ => exact ⟨v0, v1, v2, v3, v4, v5, v6, v7, v8, v9, v10, v11, v12, v13, v14, v15, rfl⟩

theorem list18 {α : Type} {l : List α} (h : l.length = 18) : ∃ v0 v1 v2 v3 v4 v5 v6 v7 v8 v9 v10 v11 v12 v13 v14 v15 v16 v17, l = [v0, v1, v2, v3, v4, v5, v6, v7, v8, v9, v10, v11, v12, v13, v14, v15, v16, v17] := by
  match l, h with
  | [v0, v1, v2, v3, v4, v5, v6, v7, v8, v9, v10, v11, v12, v13, v14, v15, v16, v17], _ => exact ⟨v0, v1, v2, v3, v4, v5, v6, v7, v8, v9, v10, v11, v12, v13, v14, v15, v16, v17, rfl⟩

/-- All memory that lay, as an arena. -/
def allOf (W : World) : Arena := Arena.of fun k => W.heap[k]?

theorem cells_spot {W : World} {a : Addr} {n : Nat} {cs : List Value} (h : W.cells? 0 a n = some cs) (hn : 0 < n) : a.spot = none := by
  unfold World.cells? at h
  rw [if_pos (Nat.zero_le _)] at h
  have h1 := mapM_some_get h 0 0 (by simp [hn])
  have hl := mapM_some_length h
  rw [List.length_range] at hl
  have h2 : cs[0]? = some cs[0] := List.getElem?_eq_getElem (by omega)
  rw [h2] at h1
  unfold World.cell? Addr.add at h1
  simp only [if_true] at h1
  split at h1
  · split at h1
    · cases h1
    · rename_i h3
      cases hs : a.spot with
      | none => rfl
      | some s => rw [hs] at h3; simp at h3
  · cases h1

theorem cells_rd {W : World} {g o : Nat} {n : Nat} {cs : List Value} (h : W.cells? 0 ⟨g, o, none⟩ n = some cs) (hn : 0 < n) : (allOf W).rd g o n = some cs := by
  unfold World.cells? at h
  rw [if_pos (Nat.zero_le _)] at h
  have hl := mapM_some_length h
  rw [List.length_range] at hl
  have key : ∀ i, i < n → ∃ c t fz, W.heap[g]? = some (.cells c t fz) ∧ c[o + i]? = cs[i]? := fun i hi => by
    have h1 := mapM_some_get h i i (by simp [hi])
    have h2 : cs[i]? = some cs[i] := List.getElem?_eq_getElem (by omega)
    rw [h2] at h1
    unfold World.cell? at h1
    rw [add_none] at h1
    simp only at h1
    split at h1
    · rename_i c t fz hb
      simp only [Option.isSome_none, Bool.false_eq_true, if_false] at h1
      exact ⟨c, t, fz, hb, by rw [h1, h2]⟩
    · cases h1
  obtain ⟨c, t, fz, hb, _⟩ := key 0 hn
  have hle : o + n ≤ c.size := by
    obtain ⟨c', t', fz', hb', h3⟩ := key (n - 1) (by omega)
    rw [hb] at hb'
    injection hb' with hb'
    injection hb' with e1 e2 e3
    subst e1
    have h4 : cs[n - 1]? = some cs[n - 1] := List.getElem?_eq_getElem (by omega)
    rw [h4] at h3
    have := (Array.getElem?_eq_some_iff.1 h3).1
    omega
  rw [rd_mk (A := allOf W) (c := c) (t := t) (fz := fz) hb hle]
  congr 1
  refine List.ext_getElem? fun i => ?_
  by_cases hi : i < n
  · obtain ⟨c', t', fz', hb', h3⟩ := key i hi
    rw [hb] at hb'
    injection hb' with hb'
    injection hb' with e1 e2 e3
    subst e1
    rw [List.getElem?_take_of_lt hi, List.getElem?_drop, Array.getElem?_toList, h3]
  · rw [List.getElem?_eq_none (by simp; omega), List.getElem?_eq_none (by omega)]

theorem rd_join {A : Arena} {g o n m : Nat} {xs ys : List Value} (h1 : A.rd g o n = some xs) (h2 : A.rd g (o + n) m = some ys) : A.rd g o (n + m) = some (xs ++ ys) := by
  obtain ⟨c, t, fz, hb, hle, rfl⟩ := rd_some h1
  obtain ⟨c', t', fz', hb', hle', rfl⟩ := rd_some h2
  rw [hb] at hb'
  injection hb' with hb'
  injection hb' with e1 e2 e3
  subst e1
  rw [rd_mk hb (by omega), List.take_add, List.drop_drop]

section
variable {H : Type} {enc : TypeId × Value → H} {P : Program} {W : World}

/-- How cells are read here. -/
abbrev trodA (enc : TypeId × Value → H) (P : Program) (W : World) (n : Nat) (t : TypeId) (cs : List Value) : Option (DataW H × List MemPlace) := DataW.trod enc P W 0 (fun _ => true) true n t cs

/-- No row in it is longer than what can be reached. -/
def RFits (P : Program) (t : TypeId) (d : DataW H) : Prop := ∀ z ∈ d.weights P t, z ≤ 140737488351232

theorem weightsAll_mem {e : TypeId} : ∀ {l : List (DataW H)} {d : DataW H}, d ∈ l → ∀ z ∈ d.weights P e, z ∈ DataW.weightsAll P e l
  | [], d, h => by cases h
  | x :: l, d, h => fun z hz => by
    simp only [DataW.weightsAll, List.mem_append]
    rcases List.mem_cons.1 h with rfl | h
    · exact .inl hz
    · exact .inr (weightsAll_mem h z hz)

theorem weightsEach_mem : ∀ {ts : List TypeId} {l : List (DataW H)} {i : Nat} {t : TypeId} {d : DataW H}, ts[i]? = some t → l[i]? = some d → ∀ z ∈ d.weights P t, z ∈ DataW.weightsEach P ts l
  | [], _, _, _, _, h1, _ => by simp at h1
  | _ :: _, [], _, _, _, _, h2 => by simp at h2
  | t' :: ts, d' :: l, 0, t, d, h1, h2 => fun z hz => by
    simp only [List.getElem?_cons_zero, Option.some.injEq] at h1 h2
    subst h1; subst h2
    simp only [DataW.weightsEach, List.mem_append]
    exact .inl hz
  | t' :: ts, d' :: l, i + 1, t, d, h1, h2 => fun z hz => by
    simp only [List.getElem?_cons_succ] at h1 h2
    simp only [DataW.weightsEach, List.mem_append]
    exact .inr (weightsEach_mem h1 h2 z hz)

theorem rfits_at {ts : List TypeId} {l : List (DataW H)} (h : (DataW.weightsEach P ts l).all (· ≤ reachBytes) = true) (i : Nat) {t : TypeId} {d : DataW H} (h1 : ts[i]? = some t) (h2 : l[i]? = some d) : RFits P t d := fun z hz => by
  have h3 := List.all_eq_true.1 h z (weightsEach_mem h1 h2 z hz)
  have h4 : z ≤ reachBytes := by simpa using h3
  exact h4

/-- A slice's cell. -/
theorem slice_cell {t e : TypeId} (ht : P.underlying t = some (.slice e)) {r : Reach} {b : Nat} {v : Value} (h : Value.okWide P W r b t v) : v.cells.toList = [v] := by
  unfold Value.okWide at h
  rw [ht] at h
  simp only [Cell.okWide, Cell.ok, ht] at h
  cases v with
  | slice a l c => rfl
  | _ => exact h.elim

/-- A slice: its row, and each of its elements. -/
theorem slice_up {t e : TypeId} {es B : Nat} (ht : P.underlying t = some (.slice e)) (hes : P.cellsOf e = es) (hes0 : 0 < es) (hB : P.bytesOf e = B) {n : Nat} {x : DataW H × List MemPlace} {v : Value} (h : trodA enc P W n t [v] = some x) (hw : RFits P t x.1) :
    ∃ rows : List (List Value), Sl (allOf W) es rows.length v rows.flatten ∧ rows.length * B ≤ 140737488351232 ∧ ∀ r ∈ rows, r.length = es ∧ ∃ m y, m < n ∧ trodA enc P W m e r = some y ∧ RFits P e y.1 := by
  rcases DataW.trod_slice ht h with ⟨hn, _⟩ | ⟨a, len, cap, elems, rest, m, hm, hn, hx, _, hle, _, hel, hrd, hsp, _⟩
  · obtain rfl : v = .slice none 0 0 := by simpa using hn
    exact ⟨[], Sl.nil _ _, by simp, by simp⟩
  · obtain rfl : v = .slice (some a) len cap := by simpa using hn
    obtain ⟨hr1, hr2⟩ := hsp rfl
    subst hes
    have hone : ∀ i, i < len → ∃ cs y, W.cells? 0 (a.add (i * P.cellsOf e)) (P.cellsOf e) = some cs ∧ trodA enc P W m e cs = some y ∧ elems[i]? = some y := fun i hi => by
      have h1 := hrd i hi
      have h2 : elems[i]? = some elems[i] := List.getElem?_eq_getElem (by omega)
      rw [h2, Option.bind_eq_some_iff] at h1
      obtain ⟨cs, h3, h4⟩ := h1
      exact ⟨cs, _, h3, h4, h2⟩
    have hspot : 0 < cap → a.spot = none := fun hc => by
      by_cases h0 : 0 < len
      · obtain ⟨cs, y, h1, _⟩ := hone 0 h0
        rw [Nat.zero_mul] at h1
        exact cells_spot (a := a) (by simpa [Addr.add] using h1) hes0
      · have h1 := hr2 0 (by omega)
        have h2 : rest[0]? = some rest[0] := List.getElem?_eq_getElem (by omega)
        rw [h2, Option.bind_eq_some_iff] at h1
        obtain ⟨cs, h3, _⟩ := h1
        have h0 : len = 0 := by omega
        subst h0
        exact cells_spot (a := a) (by simpa [Addr.add] using h3) hes0
    have hfit : ∀ y ∈ elems, RFits P e y.1 := fun y hy z hz => by
      refine hw z ?_
      rw [hx]
      simp only [DataW.weights, ht, List.mem_cons, List.mem_append]
      exact .inr (.inl (weightsAll_mem (List.mem_map.2 ⟨y, hy, rfl⟩) z hz))
    have hrows : ∀ k, k ≤ len → ∃ rows : List (List Value), rows.length = k ∧ (0 < k → (allOf W).rd a.block a.off (k * P.cellsOf e) = some rows.flatten) ∧ ∀ r ∈ rows, r.length = P.cellsOf e ∧ ∃ m y, m < n ∧ trodA enc P W m e r = some y ∧ RFits P e y.1 := fun k => by
      induction k with
      | zero => exact fun _ => ⟨[], rfl, fun h => (by omega), by simp⟩
      | succ k ih =>
        intro hk
        obtain ⟨rows, r1, r2, r3⟩ := ih (by omega)
        obtain ⟨cs, y, h1, h2, h3⟩ := hone k (by omega)
        obtain ⟨g, o, s⟩ := a
        have hs := hspot (by omega)
        simp only at hs
        subst hs
        rw [add_none] at h1
        have h4 := cells_rd h1 hes0
        refine ⟨rows ++ [cs], by simp [r1], fun _ => ?_, fun r hr => ?_⟩
        · rw [List.flatten_append, Nat.succ_mul]
          simp only [List.flatten_cons, List.flatten_nil, List.append_nil]
          by_cases h0 : 0 < k
          · exact rd_join (r2 h0) h4
          · have h0 : k = 0 := by omega
            subst h0
            have : rows = [] := List.length_eq_zero_iff.1 r1
            subst this
            simpa using h4
        · rcases List.mem_append.1 hr with hr | hr
          · exact r3 r hr
          · rw [List.mem_singleton] at hr
            subst hr
            exact ⟨rd_len h4, m, y, by omega, h2, hfit y (List.mem_of_getElem? h3)⟩
    obtain ⟨rows, r1, r2, r3⟩ := hrows len (Nat.le_refl _)
    refine ⟨rows, ⟨some a, cap, by rw [r1], by omega, ?_, fun h => (by cases h), fun b hb hc => (by injection hb with hb; subst hb; exact hspot hc), fun h0 b hb => (by injection hb with hb; subst hb; rw [r1]; exact r2 (by omega))⟩, ?_, r3⟩
    · clear r1 r2
      induction rows with
      | nil => simp
      | cons r rows ih =>
        rw [List.flatten_cons, List.length_append, ih (fun x hx => r3 x (List.mem_cons_of_mem _ hx)), (r3 r (by simp)).1, List.length_cons, Nat.succ_mul]; omega
    · have h1 : (elems.length + rest.length) * P.bytesOf e ≤ 140737488351232 := by
        refine hw _ ?_
        rw [hx]
        simp [DataW.weights, ht]
      rw [hB] at h1
      refine Nat.le_trans (Nat.mul_le_mul_right B ?_) h1
      omega

/-- A struct: each of its fields. -/
theorem fields_up {t : TypeId} {fs : Array Field} (ht : P.underlying t = some (.struct fs)) {n : Nat} {x : DataW H × List MemPlace} {cs : List Value} (h : trodA enc P W n t cs = some x) (hw : RFits P t x.1) :
    cs.length = P.cellsOf t ∧ ∃ m, m < n ∧ ∀ (i : Nat) (f : Field), fs[i]? = some f → ∃ y, trodA enc P W m f.type ((cs.drop f.offset).take (P.cellsOf f.type)) = some y ∧ RFits P f.type y.1 := by
  obtain ⟨xs, m, hm, hx, hl, hlen, hf⟩ := DataW.trod_struct ht h
  refine ⟨hl, m, by omega, fun i f hi => ?_⟩
  have hi' : i < fs.size := (Array.getElem?_eq_some_iff.1 hi).1
  have h2 : xs[i]? = some xs[i] := List.getElem?_eq_getElem (by omega)
  refine ⟨xs[i], (hf i f hi).trans h2, fun z hz => hw z ?_⟩
  rw [hx]
  simp only [DataW.weights, ht]
  exact weightsEach_mem (i := i) (t := f.type) (d := xs[i].1) (by simp [hi]) (by simp [h2]) z hz

variable {n : Nat} {t : TypeId} {v : Value} {l : List Value}

/-- A field of one cell. -/
theorem up_one (hc : P.cellsOf t = 1) (h : ∃ y, trodA enc P W n t ((v :: l).take (P.cellsOf t)) = some y ∧ RFits P t y.1) : ∃ y, trodA enc P W n t [v] = some y ∧ RFits P t y.1 := by
  rw [hc] at h
  exact h

theorem up_int {k : IntKind} (ht : P.underlying t = some (.int k)) (hc : P.cellsOf t = 1) (h : ∃ y, trodA enc P W n t ((v :: l).take (P.cellsOf t)) = some y ∧ RFits P t y.1) : ∃ x, v = .int k x ∧ (Lit.int k x).wf = true := by
  obtain ⟨y, h, _⟩ := up_one hc h
  obtain ⟨x, hx, _, hw⟩ := DataW.trod_int ht h
  exact ⟨x, by simpa using hx, hw⟩

theorem up_bool (ht : P.underlying t = some .bool) (hc : P.cellsOf t = 1) (h : ∃ y, trodA enc P W n t ((v :: l).take (P.cellsOf t)) = some y ∧ RFits P t y.1) : ∃ x, v = .bool x := by
  obtain ⟨y, h, _⟩ := up_one hc h
  obtain ⟨x, hx, _⟩ := DataW.trod_bool ht h
  exact ⟨x, by simpa using hx⟩

theorem up_string (ht : P.underlying t = some .string) (hc : P.cellsOf t = 1) (h : ∃ y, trodA enc P W n t ((v :: l).take (P.cellsOf t)) = some y ∧ RFits P t y.1) : ∃ x : ByteArray, v = .string x ∧ x.data.toList.length ≤ 140737488351232 := by
  obtain ⟨y, h, hf⟩ := up_one hc h
  obtain ⟨x, hx, hy, _⟩ := DataW.trod_string ht h
  refine ⟨x, by simpa using hx, hf _ ?_⟩
  rw [hy]
  simp [DataW.weights]

theorem up_bytes {e : TypeId} (ht : P.underlying t = some (.slice e)) (he : P.underlying e = some (.int .u8)) (hc : P.cellsOf e = 1) (hb : P.bytesOf e = 1) (ht1 : P.cellsOf t = 1) (h : ∃ y, trodA enc P W n t ((v :: l).take (P.cellsOf t)) = some y ∧ RFits P t y.1) : ∃ bs, SlB (allOf W) v bs := by
  obtain ⟨y, h, hf⟩ := up_one ht1 h
  obtain ⟨rows, h1, h2, h3⟩ := slice_up ht hc (by omega) hb h hf
  have key : ∀ rows : List (List Value), (∀ r ∈ rows, r.length = 1 ∧ ∃ m y, m < n ∧ trodA enc P W m e r = some y ∧ RFits P e y.1) → ∃ bs : List UInt8, rows.flatten = bs.map bv ∧ bs.length = rows.length := by
    intro rows
    induction rows with
    | nil => exact fun _ => ⟨[], rfl, rfl⟩
    | cons r rows ih =>
      intro h
      obtain ⟨bs, k1, k2⟩ := ih fun x hx => h x (List.mem_cons_of_mem _ hx)
      obtain ⟨_, m, y, _, h5, _⟩ := h r (by simp)
      obtain ⟨x, hx, _, hwf⟩ := DataW.trod_int he h5
      have hr : 0 ≤ x ∧ x < 256 := by
        simp only [Lit.wf, Bool.and_eq_true, decide_eq_true_eq] at hwf
        have h8 : IntKind.u8.min = 0 := rfl
        have h9 : IntKind.u8.max = 255 := rfl
        omega
      refine ⟨UInt8.ofNat x.toNat :: bs, ?_, by simp [k2]⟩
      rw [List.flatten_cons, k1, hx, List.map_cons]
      simp only [bv, List.cons_append, List.nil_append, List.cons.injEq, and_true]
      congr 1
      simp only [UInt8.toNat_ofNat']
      omega
  obtain ⟨bs, k1, k2⟩ := key rows h3
  refine ⟨bs, ?_, by omega⟩
  rw [k2, ← k1]
  exact h1

end

/-- A contract whose arena is all that lay: what lay lies as it lay. -/
theorem below_of_moves {A' : Arena} {w w' : World} (hs : (allOf w).Sub A') (hm : Moves (allOf w) A' w w') : Below w.heap.size w w' := by
  have hb : ∀ k, k < w.heap.size → w'.heap[k]? = w.heap[k]? := fun k hk => by
    have h0 : w.heap[k]? = some w.heap[k] := Array.getElem?_eq_getElem hk
    rw [hm.sub k _ (hs k _ h0)]
    exact h0.symm
  refine ⟨hm.os, hm.tape, hm.out, ?_, hb⟩
  rcases Nat.eq_zero_or_pos w.heap.size with h0 | h0
  · omega
  · have h1 := hb (w.heap.size - 1) (by omega)
    have h2 : (w.heap[w.heap.size - 1]?) = some w.heap[w.heap.size - 1] := Array.getElem?_eq_getElem (by omega)
    rw [h2] at h1
    have := (Array.getElem?_eq_some_iff.1 h1).1
    omega

/-- A contract, as what a call shows. -/
theorem calls_of_fok {P : Program} {f : FuncId} {S : FSpec} (h : FOk P f S) {fn : Func} (hf : P.funcs[f]? = some fn) (hn : (fn.name == "runtime.NumGoroutine") = false) (hb : fn.body.isSome = true) (g : S.γ) (vs : List Value) (w : World) (hp : S.pre g vs (allOf w))
    (hs : ∀ v A', S.post g vs (allOf w) v A' → (allOf w).Sub A') : Calls P f vs.toArray w fun e w' => ∃ v, e = .returned v ∧ (∃ A', S.post g vs (allOf w) v A') ∧ Below w.heap.size w w' :=
  (calls_of_goes (h g vs (allOf w) w (fun _ _ h => h) hp) hf hn hb).mono fun _ _ ⟨v, he, A', h1, h2⟩ => ⟨v, he, ⟨A', h1⟩, below_of_moves (hs v A' h1) h2⟩

end
end Go.Sx

namespace Go.Proofs.YtienbbhelhhfjaaGreatDoor
open Go.Sx Go.RowKit Go.ChangeShapes Go.WideShapes
noncomputable section

section
variable {H : Type} {enc : TypeId × Value → H} {W : World}

theorem member_up {n : Nat} {cs : List Value} (h : ∃ y, trodA enc Tryz.prog W n 110 cs = some y ∧ RFits Tryz.prog 110 y.1) : ∃ m : MemD, cs = m.cells := by
  obtain ⟨y, h, hf⟩ := h
  obtain ⟨hl, m, _, hx⟩ := fields_up (P := Tryz.prog) Tryz.underlying110 h hf
  have hl : cs.length = 4 := hl.trans (by kernel_rfl)
  obtain ⟨v0, v1, v2, v3, rfl⟩ := list4 hl
  obtain ⟨c0, rfl, _⟩ := up_int (v := v0) (l := [v1, v2, v3]) Tryz.underlying3 (by kernel_rfl) (hx 0 _ rfl)
  obtain ⟨c1, rfl, _⟩ := up_int (v := v1) (l := [v2, v3]) Tryz.underlying108 (by kernel_rfl) (hx 1 _ rfl)
  obtain ⟨c2, rfl, _⟩ := up_int (v := v2) (l := [v3]) Tryz.underlying3 (by kernel_rfl) (hx 2 _ rfl)
  obtain ⟨c3, rfl, _⟩ := up_int (v := v3) (l := []) Tryz.underlying3 (by kernel_rfl) (hx 3 _ rfl)
  exact ⟨⟨c0, c1, c2, c3⟩, rfl⟩

theorem members_up {n : Nat} {v : Value} {l : List Value} (h : ∃ y, trodA enc Tryz.prog W n 26 ((v :: l).take (Tryz.prog.cellsOf 26)) = some y ∧ RFits Tryz.prog 26 y.1) : ∃ ms, MemR (allOf W) v ms := by
  obtain ⟨y, h, hf⟩ := up_one (by kernel_rfl) h
  obtain ⟨rows, h1, h2, h3⟩ := slice_up (es := 4) (B := 32) Tryz.underlying26 (by kernel_rfl) (by decide) (by kernel_rfl) h hf
  have key : ∀ rows : List (List Value), (∀ r ∈ rows, r.length = 4 ∧ ∃ m y, m < n ∧ trodA enc Tryz.prog W m 110 r = some y ∧ RFits Tryz.prog 110 y.1) → ∃ ms : List MemD, rows = ms.map MemD.cells := by
    intro rows
    induction rows with
    | nil => exact fun _ => ⟨[], rfl⟩
    | cons r rows ih =>
      intro h
      obtain ⟨ms, rfl⟩ := ih fun x hx => h x (List.mem_cons_of_mem _ hx)
      obtain ⟨_, m, y, _, h5, h6⟩ := h r (by simp)
      obtain ⟨d, rfl⟩ := member_up ⟨y, h5, h6⟩
      exact ⟨d :: ms, rfl⟩
  obtain ⟨ms, rfl⟩ := key rows h3
  rw [List.length_map] at h1 h2
  exact ⟨ms, h1, h2⟩

theorem deeds_rows {n : Nat} (ih : ∀ m, m < n → ∀ cs, (∃ y, trodA enc Tryz.prog W m 31 cs = some y ∧ RFits Tryz.prog 31 y.1) → ∃ d, DeedR (allOf W) d cs) :
    ∀ rows : List (List Value), (∀ r ∈ rows, r.length = 16 ∧ ∃ m y, m < n ∧ trodA enc Tryz.prog W m 31 r = some y ∧ RFits Tryz.prog 31 y.1) → ∃ ds, DeedsR (allOf W) ds rows
  | [], _ => ⟨[], rfl⟩
  | r :: rows, h => by
    obtain ⟨ds, hd⟩ := deeds_rows ih rows fun x hx => h x (List.mem_cons_of_mem _ hx)
    obtain ⟨_, m, y, h4, h5, h6⟩ := h r (by simp)
    obtain ⟨d, hr⟩ := ih m h4 r ⟨y, h5, h6⟩
    exact ⟨d :: ds, r, rows, rfl, hr, hd⟩

theorem deed_up (n : Nat) : ∀ cs, (∃ y, trodA enc Tryz.prog W n 31 cs = some y ∧ RFits Tryz.prog 31 y.1) → ∃ d, DeedR (allOf W) d cs := by
  induction n using Nat.strongRecOn with
  | _ n ih =>
    intro cs ⟨y, h, hf⟩
    obtain ⟨hl, m, hm, hx⟩ := fields_up (P := Tryz.prog) Tryz.underlying31 h hf
    have hl : cs.length = 16 := hl.trans (by kernel_rfl)
    obtain ⟨v0, v1, v2, v3, v4, v5, v6, v7, v8, v9, v10, v11, v12, v13, v14, v15, rfl⟩ := list16 hl
    obtain ⟨c0, rfl, _⟩ := up_int (v := v0) (l := [v1, v2, v3, v4, v5, v6, v7, v8, v9, v10, v11, v12, v13, v14, v15]) Tryz.underlying22 (by kernel_rfl) (hx 0 _ rfl)
    obtain ⟨c1, rfl, _⟩ := up_int (v := v1) (l := [v2, v3, v4, v5, v6, v7, v8, v9, v10, v11, v12, v13, v14, v15]) Tryz.underlying23 (by kernel_rfl) (hx 1 _ rfl)
    obtain ⟨c2, rfl, _⟩ := up_int (v := v2) (l := [v3, v4, v5, v6, v7, v8, v9, v10, v11, v12, v13, v14, v15]) Tryz.underlying2 (by kernel_rfl) (hx 2 _ rfl)
    obtain ⟨c3, rfl, _⟩ := up_int (v := v3) (l := [v4, v5, v6, v7, v8, v9, v10, v11, v12, v13, v14, v15]) Tryz.underlying3 (by kernel_rfl) (hx 3 _ rfl)
    obtain ⟨c4, rfl, _⟩ := up_int (v := v4) (l := [v5, v6, v7, v8, v9, v10, v11, v12, v13, v14, v15]) Tryz.underlying3 (by kernel_rfl) (hx 4 _ rfl)
    obtain ⟨c5, rfl, _⟩ := up_int (v := v5) (l := [v6, v7, v8, v9, v10, v11, v12, v13, v14, v15]) Tryz.underlying2 (by kernel_rfl) (hx 5 _ rfl)
    obtain ⟨c6, rfl, hc6⟩ := up_string (v := v6) (l := [v7, v8, v9, v10, v11, v12, v13, v14, v15]) Tryz.underlying9 (by kernel_rfl) (hx 6 _ rfl)
    obtain ⟨bs, hbs⟩ := up_bytes (v := v7) (l := [v8, v9, v10, v11, v12, v13, v14, v15]) Tryz.underlying24 Tryz.underlying5 (by kernel_rfl) (by kernel_rfl) (by kernel_rfl) (hx 7 _ rfl)
    obtain ⟨c8, rfl, _⟩ := up_int (v := v8) (l := [v9, v10, v11, v12, v13, v14, v15]) Tryz.underlying2 (by kernel_rfl) (hx 8 _ rfl)
    obtain ⟨c9, rfl, _⟩ := up_int (v := v9) (l := [v10, v11, v12, v13, v14, v15]) Tryz.underlying3 (by kernel_rfl) (hx 9 _ rfl)
    obtain ⟨c10, rfl, _⟩ := up_int (v := v10) (l := [v11, v12, v13, v14, v15]) Tryz.underlying3 (by kernel_rfl) (hx 10 _ rfl)
    obtain ⟨c11, rfl, _⟩ := up_int (v := v11) (l := [v12, v13, v14, v15]) Tryz.underlying3 (by kernel_rfl) (hx 11 _ rfl)
    obtain ⟨c12, rfl, _⟩ := up_int (v := v12) (l := [v13, v14, v15]) Tryz.underlying25 (by kernel_rfl) (hx 12 _ rfl)
    have he : ∃ y, trodA enc Tryz.prog W m 28 ([v13, v14, v15].take (Tryz.prog.cellsOf 28)) = some y ∧ RFits Tryz.prog 28 y.1 := hx 13 _ rfl
    rw [show Tryz.prog.cellsOf 28 = 2 by kernel_rfl] at he
    obtain ⟨ye, he, hfe⟩ := he
    obtain ⟨_, me, _, hxe⟩ := fields_up (P := Tryz.prog) Tryz.underlying28 he hfe
    obtain ⟨c13, rfl, _⟩ := up_int (v := v13) (l := [v14]) Tryz.underlying22 (by kernel_rfl) (hxe 0 _ rfl)
    have h14 := hxe 1 _ rfl
    obtain ⟨ms, hms⟩ := members_up (v := v14) (l := []) h14
    obtain ⟨y, h, hf⟩ := up_one (P := Tryz.prog) (t := 29) (v := v15) (l := []) (by kernel_rfl) (hx 14 _ rfl)
    obtain ⟨rows, h1, h2, h3⟩ := slice_up (es := 16) (B := 184) Tryz.underlying29 (by kernel_rfl) (by decide) (by kernel_rfl) h hf
    obtain ⟨ds, hds⟩ := deeds_rows (n := m) (fun k hk => ih k (by omega)) rows h3
    have hlen := hds.length
    rw [hlen] at h1 h2
    exact ⟨.mk ⟨c0, c1, c2, c3, c4, c5, c6, bs, c8, c9, c10, c11, c12, c13, ms⟩ ds, v7, v14, v15, rows, rfl, hc6, hbs, hms, h1, h2, hds⟩

theorem deeds_up {v : Value} {d : DataW H} {ps : List MemPlace} (h : DataW.Trod enc Tryz.prog W 0 (fun _ => true) true 29 v d ps) (hf : RFits Tryz.prog 29 d) (hv : v.cells.toList = [v]) : ∃ ds, DeedsS (allOf W) v ds := by
  obtain ⟨n, h⟩ := h
  rw [hv] at h
  obtain ⟨rows, h1, h2, h3⟩ := slice_up (es := 16) (B := 184) Tryz.underlying29 (by kernel_rfl) (by decide) (by kernel_rfl) h hf
  obtain ⟨ds, hds⟩ := deeds_rows (n := n) (fun k _ => deed_up k) rows h3
  have hlen := hds.length
  rw [hlen] at h1 h2
  exact ⟨ds, rows, h1, h2, hds⟩

end

end
end Go.Proofs.YtienbbhelhhfjaaGreatDoor
