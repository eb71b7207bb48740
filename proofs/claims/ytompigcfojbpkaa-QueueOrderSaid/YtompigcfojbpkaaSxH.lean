/-
  The symbolic executor: slices that are made, appended to, copied.
-/
import Derived.Test.YtompigcfojbpkaaSxG
namespace Go.Sx
noncomputable section

/-! ### Rows of cells that a call makes -/

def repCells (zc : List SV) : Nat → List SV
  | 0 => []
  | n + 1 => zc ++ repCells zc n

theorem repCells_length (zc : List SV) : ∀ n, (repCells zc n).length = n * zc.length
  | 0 => by simp [repCells]
  | n + 1 => by simp [repCells, repCells_length zc n, Nat.add_mul]; omega

theorem rangeMap_rep {α : Type} [Inhabited α] (z : Array α) (n : Nat) : ((Array.range (n * z.size)).map (z[· % z.size]!)).toList = (List.replicate n z.toList).flatten := by
  apply List.ext_getElem?
  intro i
  simp only [Array.toList_map, Array.toList_range, List.getElem?_map]
  by_cases hi : i < n * z.size
  · have hz : 0 < z.size := by
      rcases Nat.eq_zero_or_pos z.size with h | h
      · rw [h] at hi; simp at hi
      · exact h
    rw [List.getElem?_range hi]
    have key : ∀ (n i : Nat), i < n * z.size → ((List.replicate n z.toList).flatten)[i]? = some (z[i % z.size]!) := by
      intro n
      induction n with
      | zero => intro i h; simp at h
      | succ n ih =>
        intro i h
        rw [List.replicate_succ, List.flatten_cons]
        by_cases hlt : i < z.size
        · rw [List.getElem?_append_left (by simpa using hlt), Nat.mod_eq_of_lt hlt]
          simp [hlt]
        · rw [List.getElem?_append_right (by simp; omega), Array.length_toList]
          have : i - z.size < n * z.size := by rw [Nat.add_mul] at h; omega
          rw [ih _ this]
          congr 2
          exact (Nat.mod_eq_sub_mod (by omega)).symm
    rw [key n i hi]; rfl
  · rw [List.getElem?_eq_none (by simpa using hi), List.getElem?_eq_none (by
      simp only [List.length_flatten, List.map_replicate, List.sum_replicate_nat, Array.length_toList]; omega)]
    rfl

theorem repCells_den (ρ : Nat → Loc) (z : Array Value) : ∀ n, (repCells (z.toList.map .v) n).map (SV.den ρ) = (List.replicate n z.toList).flatten
  | 0 => rfl
  | n + 1 => by
    rw [repCells, List.map_append, repCells_den ρ z n, List.replicate_succ, List.flatten_cons]
    simp [Function.comp_def, SV.den]

theorem repCells_lt {ρ : Nat → Loc} {m : Nat} (z : Array Value) : ∀ n, ∀ y ∈ repCells (z.toList.map .v) n, y.lt ρ m
  | 0, y, h => by simp [repCells] at h
  | n + 1, y, h => by
    simp only [repCells, List.mem_append] at h
    rcases h with h | h
    · obtain ⟨x, _, rfl⟩ := List.mem_map.1 h; trivial
    · exact repCells_lt z n y h

/-- A new block of the arena. -/
structure Arena.New (A A' : Arena) (g : Nat) (c : Array Value) (t : TypeId) : Prop where
  none_ : A.blk g = none
  at_ : A'.blk g = some (.cells c t (0, 0))
  other : ∀ k, k ≠ g → A'.blk k = A.blk k

theorem arena_new {ρ : Nat → Loc} {h : HS} {w : World} (H : HRel ρ h w) (c : Array Value) (t : TypeId) (d : Nat) :
    ∃ A', h.M.A.New A' w.heap.size c t ∧ HRel ρ (h.put A') { w with drawn := d, heap := w.heap.push (.cells c t) } := by
  have hno : h.M.A.blk w.heap.size = none := by
    cases hA : h.M.A.blk w.heap.size with
    | none => rfl
    | some o => have := (Array.getElem?_eq_some_iff.1 (H.are _ _ hA)).1; omega
  have hold : ∀ k, k ≠ w.heap.size → (w.heap.push (.cells c t))[k]? = w.heap[k]? := fun k hk => by
    rw [Array.getElem?_push, if_neg hk]
  refine ⟨Arena.of fun k => if k = w.heap.size then some (.cells c t) else h.M.A.blk k, ⟨hno, by simp [Arena.of], fun k hk => by simp [Arena.of, hk]⟩, H.arena (w' := { w with drawn := d, heap := w.heap.push (.cells c t) }) rfl rfl rfl (fun k _ hk => hold k (by omega)) (fun k o hk => ?_) fun k o hk => ?_⟩
  · simp only [Arena.of] at hk
    by_cases hkg : k = w.heap.size
    · subst hkg
      rw [if_pos rfl] at hk
      show (w.heap.push (.cells c t))[w.heap.size]? = some o
      rw [← hk]; simp
    · rw [if_neg hkg] at hk
      show (w.heap.push (.cells c t))[k]? = some o
      rw [hold k hkg]; exact H.are k o hk
  · simp only [Arena.of] at hk
    by_cases hkg : k = w.heap.size
    · exact .inr (by omega)
    · rw [if_neg hkg] at hk; exact .inl ⟨_, hk⟩

/-- A row that is made in the arena. -/
def makeA (h : HS) (e : TypeId) (se : STy) (li ci : Int) (K : SV → HS → Bool) : Bool :=
  h.M.D (0 ≤ li ∧ li ≤ ci ∧ ci ≤ 9223372036854775807 ∧ se.bytes * ci.toNat ≤ 281474976710656 ∧ se.zero.cells.size = se.size ∧
    ∀ (g : Nat) (A' : Arena) (c : Array Value), c.toList = (List.replicate ci.toNat se.zero.cells.toList).flatten → h.M.A.New A' g c e → K (.v (.slice (some ⟨g, 0, none⟩) li.toNat ci.toNat)) (h.put A') = true)

def makeV (P : Program) (h : HS) (t : TypeId) (l c : SV) (K : SV → HS → Bool) : Bool :=
  match ty P t, l.int?, c.int? with
  | some s, some (_, li), some (_, ci) => match s.und with
    | .slice e => match ty P e with
      | some se => bif h.M.X.op then makeA h e se li ci K else
        let n := ci.toNat
        bif decide (0 ≤ li) && decide (li ≤ ci) && decide (ci ≤ 9223372036854775807) && Nat.ble (se.bytes * n) 281474976710656 && Nat.beq se.zero.cells.size se.size then
          K (.slc h.nx 0 li.toNat (.lit n)) (h.new (.cells (repCells (se.zero.cells.toList.map .v) n) 0 (e + 1)))
        else false
      | none => false
    | _ => false
  | _, _, _ => false

theorem wrap_i64 {n : Int} (h0 : 0 ≤ n) (h1 : n ≤ 9223372036854775807) : IntKind.i64.wrap n = n := by
  simp only [IntKind.wrap, IntKind.bits, IntKind.signed]
  simp
  omega

theorem makeV_run {P : Program} {h : HS} {t : TypeId} {l c : SV} {K : SV → HS → Bool} (hk : makeV P h t l c K) {ρ : Nat → Loc} {w : World} (H : HRel ρ h w) :
    ∃ v w', (Instr.makeSlice t (l.den ρ) (c.den ρ)).run P w = .ok v w' ∧ Post ρ h K v w' := by
  unfold makeV at hk
  split at hk
  · rename_i s k li k' ci hs hl hc
    split at hk
    · rename_i e hd
      split at hk
      · rename_i se hse
        cases hop : h.M.X.op with
        | true =>
          rw [hop] at hk
          simp only [cond_true] at hk
          obtain ⟨h0, h1, h2, h3, h4, hk⟩ := (h.M.X.hD _).1 hk
          obtain ⟨i, hi, hi1, hi2, hi3⟩ := r_typeInfo w hse
          have hbytes : ¬ ((se.bytes : Int) * ci > 2 ^ 48) := by
            have : ((se.bytes * ci.toNat : Nat) : Int) = (se.bytes : Int) * ci := by
              rw [Int.natCast_mul, Int.toNat_of_nonneg (by omega)]
            have h5 : (2 ^ 48 : Int) = 281474976710656 := by decide
            rw [h5]; omega
          have hbytesl : ¬ ((se.bytes : Int) * li > 2 ^ 48) := by
            have : (se.bytes : Int) * li ≤ (se.bytes : Int) * ci := Int.mul_le_mul_of_nonneg_left h1 (Int.natCast_nonneg _)
            omega
          have hcells : ((Array.range (ci.toNat * se.size)).map ((if ci.toNat * se.size = 0 then #[] else se.zero.cells)[· % (if ci.toNat * se.size = 0 then #[] else se.zero.cells).size]!)).toList = (List.replicate ci.toNat se.zero.cells.toList).flatten := by
            rw [← rangeMap_rep, h4]
            by_cases hz : ci.toNat * se.size = 0
            · simp [hz]
            · rw [if_neg hz]; simp [h4]
          obtain ⟨A', k1, k2⟩ := arena_new H ((Array.range (ci.toNat * se.size)).map ((if ci.toNat * se.size = 0 then #[] else se.zero.cells)[· % (if ci.toNat * se.size = 0 then #[] else se.zero.cells).size]!)) e w.drawn
          refine ⟨.slice (some ⟨w.heap.size, 0, none⟩) li.toNat ci.toNat, _, ?_, _, _, ρ, hk _ A' _ hcells k1, rfl, trivial, k2, Ext.refl _ _, Nat.le_refl _, Mem.put_le _ _⟩
          simp only [Instr.makeSlice, Sem.run_bind, r_underlying w hs, Result.andThen_ok, hd, SV.int?_den hl, SV.int?_den hc, asInt, asIntOf, Sem.run_pure, hi, hi2, wrap_i64 h0 (by omega), wrap_i64 (show 0 ≤ ci by omega) h2]
          rw [if_neg (by
            simp only [Bool.or_eq_true, decide_eq_true_eq, not_or]
            refine ⟨⟨⟨by omega, by simpa using hbytes⟩, by omega⟩, by omega⟩)]
          simp only [Sem.run_bind, run_askRoom, Result.andThen_ok, r_sizeOf w hse]
          by_cases hz : ci.toNat * se.size = 0
          · simp only [hz, if_true, Sem.run_bind, Sem.run_pure, Result.andThen_ok, newRow, run_newObj]
          · simp only [hz, if_false, Sem.run_bind, Sem.run_pure, Result.andThen_ok, r_zeroValue w hse, newRow, run_newObj]
        | false =>
        rw [hop] at hk
        simp only [cond_false] at hk
        cases hb : decide (0 ≤ li) && decide (li ≤ ci) && decide (ci ≤ 9223372036854775807) && Nat.ble (se.bytes * ci.toNat) 281474976710656 && Nat.beq se.zero.cells.size se.size with
        | false => rw [hb] at hk; exact absurd hk Bool.false_ne_true
        | true =>
          rw [hb] at hk
          simp only [Bool.and_eq_true, decide_eq_true_eq] at hb
          obtain ⟨⟨⟨⟨h0, h1⟩, h2⟩, h3⟩, h4⟩ := hb
          have h3 := Nat.le_of_ble_eq_true h3
          have h4 := Nat.eq_of_beq_eq_true h4
          obtain ⟨i, hi, hi1, hi2, hi3⟩ := r_typeInfo w hse
          have hbytes : ¬ ((se.bytes : Int) * ci > 2 ^ 48) := by
            have : ((se.bytes * ci.toNat : Nat) : Int) = (se.bytes : Int) * ci := by
              rw [Int.natCast_mul, Int.toNat_of_nonneg (by omega)]
            have h5 : (2 ^ 48 : Int) = 281474976710656 := by decide
            rw [h5]; omega
          have hbytesl : ¬ ((se.bytes : Int) * li > 2 ^ 48) := by
            have : (se.bytes : Int) * li ≤ (se.bytes : Int) * ci := Int.mul_le_mul_of_nonneg_left h1 (Int.natCast_nonneg _)
            omega
          have hcells : ((Array.range (ci.toNat * se.size)).map ((if ci.toNat * se.size = 0 then #[] else se.zero.cells)[· % (if ci.toNat * se.size = 0 then #[] else se.zero.cells).size]!)) = ((repCells (se.zero.cells.toList.map .v) ci.toNat).map (SV.den ρ)).toArray := by
            apply Array.toList_inj.1
            rw [repCells_den, ← rangeMap_rep, h4]
            by_cases hz : ci.toNat * se.size = 0
            · simp [hz]
            · rw [if_neg hz]; simp [h4]
          refine ⟨.slice (some ⟨w.heap.size, 0, none⟩) li.toNat ci.toNat, { w with heap := w.heap.push (.cells ((repCells (se.zero.cells.toList.map .v) ci.toNat).map (SV.den ρ)).toArray e) }, ?_, _, _, extend ρ h.nx ⟨w.heap.size, 0, 0⟩, hk, ?_, ⟨Nat.lt_succ_self _, trivial, ?_⟩,
            new_cells H (repCells_lt _ _) _ rfl e, extend_ext _ _ _, Nat.le_succ _, Mem.le_refl _⟩
          · simp only [Instr.makeSlice, Sem.run_bind, r_underlying w hs, Result.andThen_ok, hd, SV.int?_den hl, SV.int?_den hc, asInt, asIntOf, Sem.run_pure, hi, hi2, wrap_i64 h0 (by omega), wrap_i64 (show 0 ≤ ci by omega) h2]
            rw [if_neg (by
              simp only [Bool.or_eq_true, decide_eq_true_eq, not_or]
              refine ⟨⟨⟨by omega, by simpa using hbytes⟩, by omega⟩, by omega⟩)]
            simp only [Sem.run_bind, run_askRoom, Result.andThen_ok, r_sizeOf w hse]
            by_cases hz : ci.toNat * se.size = 0
            · simp only [hz, if_true] at hcells
              simp only [hz, if_true, Sem.run_bind, Sem.run_pure, Result.andThen_ok, newRow, run_newObj, hcells]
            · simp only [hz, if_false] at hcells
              simp only [hz, if_false, Sem.run_bind, Sem.run_pure, Result.andThen_ok, r_zeroValue w hse, newRow, run_newObj, hcells]
          · simp [SV.den, extend_same, SCap.den]
          · simp only [SCap.den]; omega
      · exact absurd hk Bool.false_ne_true
    · exact absurd hk Bool.false_ne_true
  · exact absurd hk Bool.false_ne_true

/-! ### append -/

def bytesSV (l : List UInt8) : List SV := l.map fun b => .v (.int .u8 b.toNat)

/-- The cells that an append or a copy reads: of the first n elements of a source. -/
def srcCells (h : HS) (size n : Nat) (x : SV) : Option (List SV) :=
  match x with
  | .slc b o _ _ => match h.H.get b with
    | some (.cells cs _ _) => takeN (n * size) (cs.drop o)
    | _ => none
  | .v (.slice none _ _) => bif Nat.beq n 0 then some [] else none
  | x => match x.str? with
    | some l => bif Nat.beq size 1 then some (bytesSV (l.take n)) else none
    | none => none

def lenS (x : SV) : Option Nat :=
  match x with
  | .slc _ _ l _ => some l
  | .v (.slice _ l _) => some l
  | x => x.str?.map List.length

theorem lenS_run {P : Program} {x : SV} {n : Nat} (h : lenS x = some n) (ρ : Nat → Loc) (w : World) : (Builtin.lenOf (x.den ρ)).run P w = .ok n w := by
  unfold lenS at h
  split at h
  · injection h with h; subst h; rfl
  · injection h with h; subst h; rfl
  · simp only [Option.map_eq_some_iff] at h
    obtain ⟨l, hl, rfl⟩ := h
    rw [SV.str?_den hl]
    have hsz : (⟨l.toArray⟩ : ByteArray).size = l.length := by show l.toArray.size = _; simp
    simp [Builtin.lenOf, hsz]

theorem srcCells_run {P : Program} {h : HS} {size n : Nat} {x : SV} {cs : List SV} (hx : srcCells h size n x = some cs) {ρ : Nat → Loc} {w : World} (H : HRel ρ h w) :
    (Builtin.firstCells size n (x.den ρ)).run P w = .ok (cs.map (SV.den ρ)).toArray w ∧ cs.length = n * size ∨ (∃ l, x.str? = some l ∧ cs = bytesSV (l.take n) ∧ size = 1 ∧
      (Builtin.firstCells size n (x.den ρ)).run P w = .ok (cs.map (SV.den ρ)).toArray w) := by
  unfold srcCells at hx
  split at hx
  · rename_i b o l c
    left
    split at hx
    · rename_i cs0 es hb
      obtain ⟨_, h2, c', t', fz, h3, h4, h5, h7, h6⟩ := H.blk b _ hb
      obtain ⟨k1, k2⟩ := takeN_some hx
      refine ⟨?_, k1⟩
      have := loadCells_run (P := P) (o := (ρ b).off + o) h3 (cs.map (SV.den ρ)) 0 #[] (fun j v hj => by
        rw [List.getElem?_map] at hj
        cases hy : cs[j]? with
        | none => rw [hy] at hj; cases hj
        | some y =>
          rw [hy] at hj
          injection hj with hj; subst hj
          have := k2 j y hy
          rw [List.getElem?_drop] at this
          rw [Nat.zero_add, Nat.add_assoc]
          exact h4 (o + j) y this)
      rw [List.length_map, k1] at this
      simp only [Builtin.firstCells, SV.den, loadCells]
      rw [this]; simp
    · cases hx
  · rename_i l c
    left
    cases hn : Nat.beq n 0 with
    | false => rw [hn] at hx; cases hx
    | true =>
      rw [hn] at hx
      injection hx with hx; subst hx
      have := Nat.eq_of_beq_eq_true hn
      subst this
      exact ⟨rfl, by simp⟩
  · right
    split at hx
    · rename_i l hl
      cases h1 : Nat.beq size 1 with
      | false => rw [h1] at hx; cases hx
      | true =>
        rw [h1] at hx
        injection hx with hx; subst hx
        refine ⟨l, hl, rfl, Nat.eq_of_beq_eq_true h1, ?_⟩
        rw [SV.str?_den hl]
        simp only [Builtin.firstCells, extract_list, List.drop_zero, Nat.sub_zero, Sem.run_pure]
        congr 1
        apply Array.toList_inj.1
        simp [bytesSV, SV.den, Function.comp_def]
    · cases hx

theorem srcCells_lt {h : HS} {size n : Nat} {x : SV} {cs : List SV} (hx : srcCells h size n x = some cs) {ρ : Nat → Loc} {w : World} (H : HRel ρ h w) : ∀ y ∈ cs, y.lt ρ h.nx := by
  unfold srcCells at hx
  split at hx
  · split at hx
    · rename_i cs0 es hb
      obtain ⟨k1, k2⟩ := takeN_some hx
      intro y hy
      obtain ⟨j, hj⟩ := List.mem_iff_getElem?.1 hy
      exact (H.blk _ _ hb).2.1 y (List.mem_of_mem_drop (List.mem_of_getElem? (k2 j y hj)))
    · cases hx
  · cases hn : Nat.beq n 0 with
    | false => rw [hn] at hx; cases hx
    | true => rw [hn] at hx; injection hx with hx; subst hx; simp
  · split at hx
    · cases h1 : Nat.beq size 1 with
      | false => rw [h1] at hx; cases hx
      | true =>
        rw [h1] at hx
        injection hx with hx; subst hx
        intro y hy
        obtain ⟨b, _, rfl⟩ := List.mem_map.1 hy
        trivial
    · cases hx

theorem growBy_le (m : Nat) : ∀ (r c : Nat), c < m → Builtin.growBy m r c ≤ m + (m + 768) / 4 := by
  intro r
  induction r with
  | zero => intro c h; simp only [Builtin.growBy]; omega
  | succ r ih =>
    intro c h
    simp only [Builtin.growBy]
    rw [if_neg (by omega)]
    by_cases h2 : c + (c + 768) / 4 < m
    · exact ih _ h2
    · cases r with
      | zero => simp only [Builtin.growBy]; omega
      | succ r => simp only [Builtin.growBy]; rw [if_pos (by omega)]; omega

theorem nextcap_le {m c : Nat} (h : c < m) : Builtin.nextslicecap m c ≤ 2 * m + 768 := by
  unfold Builtin.nextslicecap
  split
  · omega
  · split
    · omega
    · have := growBy_le m 4 c h; omega

theorem nextcap_ge {m c : Nat} : Builtin.nextslicecap m c * 1 ≤ Builtin.nextslicecap m c := by omega

/-- The new row of an append that grows: the cells, and where they lie. -/
theorem grow_run {h : HS} {e : TypeId} {se : STy} {τ : Nat} (hτ : τ = 0 ∨ (τ = e + 1 ∧ se.size ≠ 0)) (hz : se.zero.cells.size = se.size) {ρ : Nat → Loc} {w : World} (H : HRel ρ h w) {cs : List SV} (hlt : ∀ x ∈ cs, x.lt ρ h.nx)
    {need newCap : Nat} (hcs : cs.length = need * se.size) (hcap : need ≤ newCap) :
    HRel (extend ρ h.nx ⟨w.heap.size, 0, newCap⟩) (h.new (.cells cs se.size τ)) { w with heap := w.heap.push (.cells ((cs.map (SV.den ρ)).toArray ++ Builtin.zeroCells se.zero.cells (newCap - need)) e) } := by
  refine H.alloc (o := .cells ((cs.map (SV.den ρ)).toArray ++ Builtin.zeroCells se.zero.cells (newCap - need)) e) (B := .cells cs se.size τ) (L := ⟨w.heap.size, 0, newCap⟩) rfl hlt fun w' hw' => ⟨_, e, (0, 0), hw', fun i x hi => ?_, ?_, .inr ?_, ⟨.inl rfl, hτ.imp id fun h => ⟨h.1, rfl, fun h0 => absurd h0 h.2⟩⟩⟩
  · have hlt' := (List.getElem?_eq_some_iff.1 hi).1
    rw [Nat.zero_add, Array.getElem?_append_left (by simpa using hlt')]
    simp [hi]
  · simp only [Array.size_append, Builtin.zeroCells, Array.size_map, Array.size_range, List.size_toArray, List.length_map, hcs, hz]
    rw [← Nat.add_mul]
    have : need + (newCap - need) = newCap := by omega
    rw [this]; omega
  · rw [hcs]; exact Nat.mul_le_mul_right _ hcap

/-- A new row's type. -/
def tyG (s e : Nat) : Nat := bif Nat.beq s 0 then 0 else e + 1

theorem tyG_own (s e : Nat) : tyG s e = 0 ∨ (tyG s e = e + 1 ∧ s ≠ 0) := by
  unfold tyG
  cases hb : Nat.beq s 0 with
  | true => exact .inl rfl
  | false => exact .inr ⟨rfl, fun e => by rw [e] at hb; cases hb⟩

/-- A row's type, where it is the one that is looked for, and the slice begins where the row does. -/
def tyOf (τ o s e : Nat) : Nat := bif Nat.beq τ (e + 1) && Nat.beq o 0 then tyG s e else 0

theorem tyOf_own (τ o s e : Nat) : tyOf τ o s e = 0 ∨ (tyOf τ o s e = e + 1 ∧ s ≠ 0) := by
  unfold tyOf
  cases Nat.beq τ (e + 1) && Nat.beq o 0 with
  | true => exact tyG_own s e
  | false => exact .inl rfl

theorem tyOf_old {τ o s e t off n len n' len' : Nat} (h : Whole τ s off n len t) : Whole (tyOf τ o s e) s (off + o) n' len' t := by
  unfold tyOf
  cases hb : Nat.beq τ (e + 1) && Nat.beq o 0 with
  | false => exact .inl rfl
  | true =>
    simp only [Bool.and_eq_true] at hb
    have h1 := Nat.eq_of_beq_eq_true hb.1
    have h2 := Nat.eq_of_beq_eq_true hb.2
    rcases h with h | ⟨h, h3, _⟩
    · omega
    · rcases tyG_own s e with h4 | ⟨h4, h5⟩
      · exact .inl h4
      · right
        refine ⟨?_, by omega, fun h0 => absurd h0 h5⟩
        show tyG s e = t + 1
        omega

def growV (h : HS) (τ : Nat) (se : STy) (cs : List SV) (need : Nat) (K : SV → HS → Bool) : Bool :=
  bif Nat.beq se.zero.cells.size se.size && Nat.beq cs.length (need * se.size) && Nat.ble ((2 * need + 768) * se.bytes) 281474976710656 then
    K (.slc h.nx 0 need (.sub h.nx 0)) (h.new (.cells cs se.size τ))
  else false

/-- 'append(s, x...)'. -/
def appendV (P : Program) (h : HS) (ts : List TypeId) (s x : SV) (K : SV → HS → Bool) : Bool :=
  match ts with
  | [st, xt] => match ty P st, ty P xt with
    | some ss, some sx => match ss.und, (match sx.und with | .int _ => true | _ => false) with
      | .slice e, false => match ty P e, lenS x with
        | some se, some n => match srcCells h se.size n x with
          | none => false
          | some nc => bif !(Nat.beq nc.length (n * se.size)) || !(nc.all SV.one) then false else
            match s with
            | .v (.slice none 0 0) => bif Nat.beq n 0 then K (.v (.slice none 0 0)) h else growV h (tyG se.size e) se nc n K
            | .slc b o l (.lit cap) =>
              bif Nat.ble (l + n) cap then
                (match h.H.get b with
                | some (.cells cs es τ) => match overlayB cs (o + l * se.size) nc with
                  | some cs' => K (.slc b o (l + n) (.lit cap)) { h with H := h.H.set b (.cells cs' es τ) }
                  | none => false
                | _ => false)
              else (match srcCells h se.size l s with
                | some old => growV h (tyG se.size e) se (old ++ nc) (l + n) K
                | none => false)
            | .slc b o l (.sub b' d) =>
              bif !(Nat.beq b b') || !(Nat.beq o (d * se.size)) || Nat.beq se.size 0 then false else
              bif Nat.beq n 0 then K (.slc b o l (.sub b' d)) h else
              match h.H.get b with
              | some (.cells cs es τ) =>
                bif !(Nat.beq es se.size) then false else
                bif Nat.ble ((d + l + n) * se.size) cs.length then
                  (match overlayB cs (o + l * se.size) nc with
                  | some cs' => K (.slc b o (l + n) (.sub b' d)) { h with H := h.H.set b (.cells cs' es τ) }
                  | none => false)
                else bif Nat.beq cs.length ((d + l) * se.size) then
                  growV { h with H := h.H.del b } (tyOf τ o se.size e) se (cs.drop o ++ nc) (l + n) K
                else false
              | _ => false
            | _ => false
        | _, _ => false
      | _, _ => false
    | _, _ => false
  | _ => false

end
end Go.Sx
