/-
  The symbolic executor: slices of slices, aggregates, builtins; all that looks at the slots alone, in one function.
  The symbolic executor: all operations that look at the slots alone, in one function.
  The symbolic executor: operations that read and write memory.
  The symbolic executor: slices that are made, appended to, copied.
-/
import Derived.Test.YtiabopbigplklaaDoorG01
namespace Go.Sx
noncomputable section

/-! ### Bounds of a slice expression -/

def bnd (dflt : Nat) : Option SV → Option Int
  | none => some dflt
  | some x => x.int?.map (·.2)

theorem sliceBound_run {P : Program} {k : IntKind} {n : Int} {y : Nat} (h0 : 0 ≤ n) (h1 : n ≤ y) (c : BoundsCode) (w : World) : (Instr.sliceBound (.int k n) y c).run P w = .ok n.toNat w := by
  simp [Instr.sliceBound, asIntOf, h0, h1]

/-- The bounds l, h, m of a slice expression. -/
def bounds (len cap : Nat) (lo hi mx : Option SV) : Option (Bool × Nat × Nat × Nat) :=
  match mx with
  | none => match bnd 0 lo, bnd len hi with
    | some l, some h => some (decide (0 ≤ l) && decide (l ≤ h) && (hi.isNone || decide (h ≤ cap)), l.toNat, h.toNat, cap)
    | _, _ => none
  | some m => match bnd 0 lo, hi, m.int? with
    | some l, some hv, some (_, m) => match hv.int? with
      | some (_, h) => some (decide (0 ≤ l) && decide (l ≤ h) && decide (h ≤ m) && decide (m ≤ cap), l.toNat, h.toNat, m.toNat)
      | none => none
    | _, _, _ => none

theorem bounds_run {P : Program} {len cap : Nat} {lo hi mx : Option SV} {r : Bool} {l h m : Nat} (hb : bounds len cap lo hi mx = some (r, l, h, m)) (hr : r = true) (ρ : Nat → Loc) (w : World) (b : Bool) :
    (Instr.sliceBounds b len cap (lo.map (SV.den ρ)) (hi.map (SV.den ρ)) (mx.map (SV.den ρ))).run P w = .ok (l, h, m) w ∧ l ≤ h ∧ (hi.isSome = true → h ≤ m) ∧ (mx = none → m = cap) ∧ (mx.isSome = true → m ≤ cap) ∧ (hi = none → h = len) := by
  subst hr
  unfold bounds at hb
  split at hb
  · split at hb
    · rename_i li hv hl hh
      injection hb with hb; injection hb with h1 hb; injection hb with h2 hb; injection hb with h3 h4
      subst h2; subst h3; subst h4
      simp only [Bool.and_eq_true, decide_eq_true_eq, Bool.or_eq_true, Option.isNone_iff_eq_none] at h1
      obtain ⟨⟨h0, hle⟩, hcap⟩ := h1
      refine ⟨?_, by omega, ?_, fun _ => rfl, by simp, ?_⟩
      · cases hi with
        | none =>
          simp only [bnd, Option.some.injEq] at hh
          subst hh
          cases lo with
          | none =>
            simp only [bnd, Option.some.injEq] at hl; subst hl
            rfl
          | some x =>
            simp only [bnd, Option.map_eq_some_iff] at hl
            obtain ⟨⟨k, n⟩, hx, rfl⟩ := hl
            simp only [Instr.sliceBounds, Option.map_none, Option.map_some, SV.int?_den hx, Sem.run_bind, Sem.run_pure, Result.andThen_ok, Option.isSome_none, Bool.false_eq_true, if_false]
            rw [sliceBound_run h0 hle]
            simp
        | some x =>
          simp only [bnd, Option.map_eq_some_iff] at hh
          obtain ⟨⟨k, n⟩, hx, rfl⟩ := hh
          have hcap' : n ≤ cap := hcap.resolve_left (by simp)
          have hle' : li ≤ n := hle
          cases lo with
          | none =>
            simp only [bnd, Option.some.injEq] at hl; subst hl
            simp only [Instr.sliceBounds, Option.map_some, Option.map_none, SV.int?_den hx, Sem.run_bind, Sem.run_pure, Result.andThen_ok]
            rw [sliceBound_run (by omega) hcap']
            rfl
          | some xl =>
            simp only [bnd, Option.map_eq_some_iff] at hl
            obtain ⟨⟨k', n'⟩, hxl, rfl⟩ := hl
            have h0' : 0 ≤ n' := h0
            have hle'' : n' ≤ n := hle
            simp only [Instr.sliceBounds, Option.map_some, Option.map_none, SV.int?_den hx, SV.int?_den hxl, Sem.run_bind, Sem.run_pure, Result.andThen_ok, Option.isSome_none, Bool.false_eq_true, if_false]
            rw [sliceBound_run (by omega) hcap']
            simp only [Result.andThen_ok]
            rw [sliceBound_run h0' (by omega)]
            rfl
      · intro hs
        have := hcap.resolve_left (fun e => by rw [e] at hs; cases hs)
        omega
      · intro e
        subst e
        simp only [bnd, Option.some.injEq] at hh
        subst hh; simp
    · cases hb
  · rename_i mv
    split at hb
    · rename_i li hv k m' hl hh
      split at hb
      · rename_i k2 hn hhv
        injection hb with hb; injection hb with h1 hb; injection hb with h2 hb; injection hb with h3 h4
        subst h2; subst h3; subst h4
        simp only [Bool.and_eq_true, decide_eq_true_eq] at h1
        obtain ⟨⟨⟨h0, hle⟩, hm⟩, hc⟩ := h1
        refine ⟨?_, by omega, fun _ => by omega, fun e => (by cases e), fun _ => by omega, fun e => (by cases e)⟩
        simp only [Instr.sliceBounds, Option.map_some, SV.int?_den hh, SV.int?_den hhv, Sem.run_bind]
        rw [sliceBound_run (by omega) hc]
        simp only [Result.andThen_ok]
        rw [sliceBound_run (by omega) (by omega)]
        simp only [Result.andThen_ok]
        cases lo with
        | none => simp only [bnd, Option.some.injEq] at hl; subst hl; rfl
        | some x =>
          simp only [bnd, Option.map_eq_some_iff] at hl
          obtain ⟨⟨k, n⟩, hx, rfl⟩ := hl
          have h0' : 0 ≤ n := h0
          have hle' : n ≤ hn := hle
          simp only [Option.map_some, SV.int?_den hx, Option.isSome_some, if_true, Sem.run_bind]
          rw [sliceBound_run h0' (by omega)]
          rfl
      · cases hb
    · cases hb

def sliceV (P : Program) (t : TypeId) (x : SV) (lo hi mx : Option SV) : Option (Bool × SV) :=
  match ty P t with
  | none => none
  | some s =>
    match s.und with
    | .string => match x.str?, mx with
      | some str, none => match bounds str.length str.length lo hi none with
        | some (r, l, h, _) => some (r, .str ((str.drop l).take (h - l)))
        | none => none
      | _, _ => none
    | .slice e => match ty P e with
      | none => none
      | some se => match x with
        | .slc b o len (.lit cap) => match bounds len cap lo hi mx with
          | some (r, l, h, m) => some (r, .slc b (o + bif Nat.beq m l then 0 else l * se.size) (h - l) (.lit (m - l)))
          | none => none
        | .slc b o len (.sub b' d) => match bounds len len lo hi mx with
          | some (r, l, h, m) => match mx with
            | none => some (r && (Nat.beq l 0 || Nat.blt l h), .slc b (o + l * se.size) (h - l) (.sub b' (d + l)))
            | some _ => some (r, .slc b (o + bif Nat.beq m l then 0 else l * se.size) (h - l) (.lit (m - l)))
          | none => none
        | .v (.slice (some ⟨b, o, none⟩) len cap) => match bounds len cap lo hi mx with
          | some (r, l, h, m) => some (r, .v (.slice (some ⟨b, o + bif Nat.beq m l then 0 else l * se.size, none⟩) (h - l) (m - l)))
          | none => none
        | .v (.slice a len cap) => match bounds len cap lo hi mx with
          | some (r, l, h, m) => some (r, .v (sliced a l h m se.size))
          | none => none
        | _ => none
    | .array n e => match ty P e, x with
      | some se, .ptr b o => match bounds n n lo hi mx with
        | some (r, l, h, m) => some (r, .slc b (o + bif Nat.beq m l then 0 else l * se.size) (h - l) (.lit (m - l)))
        | none => none
      | some se, .v (.pointer (some a)) => match bounds n n lo hi mx with
        | some (r, l, h, m) => some (r, .v (.slice (some (bif Nat.beq m l then a else a.add (l * se.size))) (h - l) (m - l)))
        | none => none
      | _, _ => none
    | _ => none

theorem slc_addr (b o m l s : Nat) : (some (if m = l then (⟨b, o, none⟩ : Addr) else Addr.add ⟨b, o, none⟩ (l * s))) = some ⟨b, o + (bif Nat.beq m l then 0 else l * s), none⟩ := by
  by_cases h : m = l
  · subst h; simp [Nat.beq_refl]
  · have : Nat.beq m l = false := by
      cases hb : Nat.beq m l with
      | false => rfl
      | true => exact absurd (Nat.eq_of_beq_eq_true hb) h
    simp [h, this, add_none]

theorem extract_list (l : List UInt8) (a b : Nat) : (⟨l.toArray⟩ : ByteArray).extract a b = ⟨((l.drop a).take (b - a)).toArray⟩ := by
  apply ByteArray.ext
  apply Array.toList_inj.1
  rw [Lib.extract_data]

theorem sliceV_run {P : Program} {t : TypeId} {x z : SV} {lo hi mx : Option SV} {r : Bool} (h : sliceV P t x lo hi mx = some (r, z)) (hr : r = true) {ρ : Nat → Loc} {n : Nat} (hx : x.lt ρ n) (w : World) :
    (Instr.sliceAt t (x.den ρ) (lo.map (SV.den ρ)) (hi.map (SV.den ρ)) (mx.map (SV.den ρ))).run P w = .ok (z.den ρ) w ∧ z.lt ρ n := by
  unfold sliceV at h
  split at h
  · cases h
  · rename_i s hs
    have hu := r_underlying w hs
    split at h
    · -- strings
      rename_i hd
      split at h
      · rename_i str hstr
        split at h
        · rename_i r' l h' m hb
          injection h with h; injection h with h1 h2; subst h2
          obtain ⟨h3, h4, _⟩ := bounds_run (P := P) hb (h1.trans hr) ρ w false
          refine ⟨?_, trivial⟩
          rw [SV.str?_den hstr]
          have hsz : (⟨str.toArray⟩ : ByteArray).size = str.length := by show str.toArray.size = _; simp
          simp only [Instr.sliceAt, Sem.run_bind, hu, hd, Result.andThen_ok, Instr.slice, hsz, Option.map_none]
          simp only [Option.map_none] at h3
          simp only [Option.isSome_none, Bool.false_eq_true, if_false, Sem.run_pure, Result.andThen_ok, Sem.run_bind, h3, extract_list, SV.den]
        · cases h
      · cases h
    · -- slices
      rename_i e hd
      split at h
      · cases h
      · rename_i se hse
        split at h
        · rename_i b o len cap
          split at h
          · rename_i r' l h' m hb
            injection h with h; injection h with h1 h2; subst h2
            obtain ⟨h3, h4, h5, h6, h7, h8⟩ := bounds_run (P := P) hb (h1.trans hr) ρ w true
            refine ⟨?_, hx.1, trivial, ?_⟩
            · simp only [Instr.sliceAt, Sem.run_bind, hu, hd, Result.andThen_ok, Instr.slice, SV.den, SCap.den, h3, r_sizeOf w hse, Sem.run_pure]
              congr 2
              simp only [Option.map_some, ← apply_ite some, slc_addr, Nat.add_assoc]
            · have hlen : len ≤ cap := hx.2.2
              simp only [SCap.den]
              cases hi with
              | none => have := h8 rfl; cases mx with
                | none => have := h6 rfl; omega
                | some _ => simp [bounds] at hb
              | some _ => have := h5 rfl; omega
          · cases h
        · rename_i b o len b' d
          have hlen : len ≤ (ρ b').cap - d := hx.2.2
          split at h
          · rename_i r' l h' m hb
            split at h
            · injection h with h; injection h with h1 h2; subst h2
              rw [hr, Bool.and_eq_true] at h1
              obtain ⟨h1, hz⟩ := h1
              -- the same bounds at the true capacity
              have hb' : bounds len ((ρ b').cap - d) lo hi none = some (true, l, h', (ρ b').cap - d) := by
                unfold bounds at hb ⊢
                simp only at hb ⊢
                split at hb
                · rename_i li hv hl hh
                  injection hb with hb; injection hb with k1 hb; injection hb with k2 hb; injection hb with k3 k4
                  rw [h1] at k1
                  simp only [k2, k3]
                  simp only [Bool.and_eq_true, decide_eq_true_eq, Bool.or_eq_true] at k1
                  have : (decide (0 ≤ li) && decide (li ≤ hv) && (hi.isNone || decide (hv ≤ (((ρ b').cap - d : Nat) : Int)))) = true := by
                    simp only [Bool.and_eq_true, decide_eq_true_eq, Bool.or_eq_true]
                    exact ⟨k1.1, k1.2.imp id (fun _ => by omega)⟩
                  rw [this]
                · cases hb
              obtain ⟨h3, h4, h5, h6, h7, h8⟩ := bounds_run (P := P) hb' rfl ρ w true
              have hle : h' ≤ len := by
                obtain ⟨_, _, g5, g6, _, g8⟩ := bounds_run (P := P) hb h1 ρ w true
                cases hi with
                | none => have := g8 rfl; omega
                | some _ => have := g5 rfl; have := g6 rfl; omega
              refine ⟨?_, hx.1, hx.2.1, ?_⟩
              · simp only [Instr.sliceAt, Sem.run_bind, hu, hd, Result.andThen_ok, Instr.slice, SV.den, SCap.den]
                simp only [Option.map_none] at h3 ⊢
                simp only [h3, r_sizeOf w hse, Result.andThen_ok, Sem.run_pure]
                congr 2
                · by_cases hl0 : l = 0
                  · subst hl0
                    split <;> simp [add_none]
                  · have hlt : l < h' := by
                      simp only [Bool.or_eq_true] at hz
                      rcases hz with hz | hz
                      · exact absurd (Nat.eq_of_beq_eq_true hz) hl0
                      · exact Nat.le_of_ble_eq_true hz
                    rw [if_neg (by omega)]
                    simp [add_none, Nat.add_assoc]
                · omega
              · simp only [SCap.den]; omega
            · rename_i mv
              injection h with h; injection h with h1 h2; subst h2
              have hb' : bounds len ((ρ b').cap - d) lo hi (some mv) = some (true, l, h', m) := by
                unfold bounds at hb ⊢
                simp only at hb ⊢
                split at hb
                · split at hb
                  · rename_i hhv
                    injection hb with hb; injection hb with k1 hb; injection hb with k2 hb; injection hb with k3 k4
                    rw [h1, hr] at k1
                    simp only [*]
                    simp only [Bool.and_eq_true, decide_eq_true_eq] at k1 ⊢
                    congr 2
                    simp only [Bool.and_eq_true, decide_eq_true_eq]
                    exact ⟨k1.1, by omega⟩
                  · cases hb
                · cases hb
              obtain ⟨h3, h4, h5, h6, h7, h8⟩ := bounds_run (P := P) hb' rfl ρ w true
              refine ⟨?_, hx.1, trivial, ?_⟩
              · simp only [Instr.sliceAt, Sem.run_bind, hu, hd, Result.andThen_ok, Instr.slice, SV.den, SCap.den, h3, r_sizeOf w hse, Sem.run_pure]
                congr 2
                simp only [Option.map_some, ← apply_ite some, slc_addr, Nat.add_assoc]
              · simp only [SCap.den]
                cases hi with
                | none => simp [bounds] at hb
                | some _ => have := h5 rfl; omega
          · cases h
        · rename_i b o len cap
          split at h
          · rename_i r' l h' m hb
            injection h with h; injection h with h1 h2; subst h2
            obtain ⟨h3, _⟩ := bounds_run (P := P) hb (h1.trans hr) ρ w true
            refine ⟨?_, trivial⟩
            simp only [Instr.sliceAt, Sem.run_bind, hu, hd, Result.andThen_ok, Instr.slice, SV.den, h3, r_sizeOf w hse, Sem.run_pure]
            congr 2
            rw [← slc_addr b o m l se.size]
            by_cases hml : m = l
            · rw [if_pos hml, if_pos hml]
            · rw [if_neg hml, if_neg hml]; rfl
          · cases h
        · rename_i a len cap _
          split at h
          · rename_i r' l h' m hb
            injection h with h; injection h with h1 h2; subst h2
            obtain ⟨h3, _⟩ := bounds_run (P := P) hb (h1.trans hr) ρ w true
            refine ⟨?_, trivial⟩
            simp only [Instr.sliceAt, Sem.run_bind, hu, hd, Result.andThen_ok, Instr.slice, SV.den, h3, r_sizeOf w hse, Sem.run_pure, sliced]
          · cases h
        · cases h
    · -- arrays
      rename_i k e hd
      split at h
      · rename_i se b o hse
        split at h
        · rename_i r' l h' m hb
          injection h with h; injection h with h1 h2; subst h2
          obtain ⟨h3, h4, h5, h6, h7, h8⟩ := bounds_run (P := P) hb (h1.trans hr) ρ w false
          refine ⟨?_, hx, trivial, ?_⟩
          · simp only [Instr.sliceAt, Sem.run_bind, hu, hd, Result.andThen_ok, SV.den, SCap.den, Instr.sureAddr, h3, r_sizeOf w hse, Sem.run_pure]
            congr 2
            simp only [slc_addr, Nat.add_assoc]
          · simp only [SCap.den]
            cases hi with
            | none => have := h8 rfl; cases mx with
              | none => have := h6 rfl; omega
              | some _ => simp [bounds] at hb
            | some _ => have := h5 rfl; omega
        · cases h
      · rename_i se a hse
        split at h
        · rename_i r' l h' m hb
          injection h with h; injection h with h1 h2; subst h2
          obtain ⟨h3, _⟩ := bounds_run (P := P) hb (h1.trans hr) ρ w false
          refine ⟨?_, trivial⟩
          simp only [Instr.sliceAt, Sem.run_bind, hu, hd, Result.andThen_ok, SV.den, Instr.sureAddr, h3, r_sizeOf w hse, Sem.run_pure]
          congr 2
          by_cases hml : m = l
          · subst hml; simp [Nat.beq_refl]
          · have : Nat.beq m l = false := by
              cases hb' : Nat.beq m l with
              | false => rfl
              | true => exact absurd (Nat.eq_of_beq_eq_true hb') hml
            simp [hml, this]
        · cases h
      · cases h
    · cases h

/-! ### Aggregates -/

def overlay (cs : List SV) (off : Nat) (vc : List SV) : List SV := cs.take off ++ vc ++ cs.drop (off + vc.length)

def fillV (place : Nat → Option (Nat × Nat)) : List SV → List (Nat × SV) → Option (List SV)
  | cs, [] => some cs
  | cs, (i, x) :: rest =>
    match place i, x.cells with
    | some (off, size), some vc => bif Nat.beq vc.length size && Nat.ble (off + vc.length) cs.length then fillV place (overlay cs off vc) rest else none
    | _, _ => none

theorem foldl_set (l : List Value) : ∀ (k : Nat) (off : Nat) (cs : Array Value), off + k + l.length ≤ cs.size →
    ((l.zipIdx k).foldl (fun cs (x : Value × Nat) => cs.setIfInBounds (off + x.2) x.1) cs).toList = cs.toList.take (off + k) ++ l ++ cs.toList.drop (off + k + l.length) := by
  induction l with
  | nil => intro k off cs h; simp
  | cons x xs ih =>
    intro k off cs h
    simp only [List.zipIdx_cons, List.foldl_cons]
    simp only [List.length_cons] at h
    rw [ih (k + 1) off _ (by simp; omega)]
    simp only [Array.toList_setIfInBounds, List.length_cons]
    have hlt : off + k < cs.toList.length := by simp; omega
    rw [show off + (k + 1) = (off + k) + 1 by omega, show (off + k) + 1 + xs.length = off + k + (xs.length + 1) by omega]
    rw [List.take_add_one, List.take_set_of_le (Nat.le_refl _), List.drop_set_of_lt (by omega)]
    rw [List.getElem?_set_self hlt]
    simp

theorem fill_den {ρ : Nat → Loc} {n : Nat} {place : Nat → Option (Nat × Nat)} : ∀ (parts : List (Nat × SV)) (cs out : List SV), fillV place cs parts = some out →
    Instr.fill place (cs.map (SV.den ρ)).toArray (parts.map fun (i, x) => (i, x.den ρ)) = some (out.map (SV.den ρ)).toArray ∧
    ((∀ y ∈ cs, y.lt ρ n) → (∀ p ∈ parts, p.2.lt ρ n) → ∀ y ∈ out, y.lt ρ n) := by
  intro parts
  induction parts with
  | nil => intro cs out h; simp only [fillV, Option.some.injEq] at h; subst h; exact ⟨rfl, fun h _ => h⟩
  | cons p rest ih =>
    intro cs out h
    obtain ⟨i, x⟩ := p
    simp only [fillV] at h
    split at h
    · rename_i off size vc hp hc
      cases hb : Nat.beq vc.length size && Nat.ble (off + vc.length) cs.length with
      | false => rw [hb] at h; cases h
      | true =>
        rw [hb] at h
        simp only [Bool.and_eq_true] at hb
        have h1 := Nat.eq_of_beq_eq_true hb.1
        have h2 := Nat.le_of_ble_eq_true hb.2
        simp only [cond_true] at h
        obtain ⟨k1, k2⟩ := ih _ _ h
        have hcs := SV.cells_den (ρ := ρ) hc
        have hsz : (x.den ρ).cells.size = vc.length := by rw [← Array.length_toList, hcs, List.length_map]
        refine ⟨?_, fun hy hpp => k2 (fun y hy' => ?_) (fun p hp => hpp p (List.mem_cons_of_mem _ hp))⟩
        · simp only [List.map_cons, Instr.fill, hp]
          rw [if_neg (by simp [hsz, h1]; omega)]
          rw [← k1]
          congr 1
          apply Array.toList_inj.1
          rw [← Array.foldl_toList, Array.toList_zipIdx, hcs, foldl_set _ 0 off _ (by simp; omega)]
          simp [overlay, List.map_take, List.map_drop]
        · simp only [overlay, List.mem_append] at hy'
          rcases hy' with (hy' | hy') | hy'
          · exact hy y (List.mem_of_mem_take hy')
          · exact SV.cells_lt hc (hpp _ (List.mem_cons_self)) y hy'
          · exact hy y (List.mem_of_mem_drop hy')
    · cases h

def pairs (is : List Nat) (vs : List SV) : List (Nat × SV) := is.zip vs

def buildV (P : Program) (t : TypeId) (parts : List (Nat × SV)) : Option SV :=
  match ty P t with
  | none => none
  | some s =>
    let zero := s.zero.cells.toList.map .v
    match s.und with
    | .struct fs =>
      bif fs.toList.all (fun f => (ty P f.type).isSome) then
        (fillV (fun i => match fs.toList[i]? with
          | some f => (ty P f.type).map fun s => (f.offset, s.size)
          | none => none) zero parts).map .agg
      else none
    | .array _ e => match ty P e with
      | some se => (fillV (fun i => some (i * se.size, se.size)) zero parts).map .agg
      | none => none
    | _ => none

theorem places_run {P : Program} (w : World) : ∀ (l : List Field), (l.all fun f => (ty P f.type).isSome) = true →
    (l.mapM (fun (f : Field) => do pure (f.offset, ← sizeOf f.type)) : Sem (List (Nat × Nat))).run P w = .ok (l.map fun (f : Field) => (f.offset, ((ty P f.type).map (·.size)).getD 0)) w := by
  intro l
  induction l with
  | nil => intro _; rfl
  | cons f fs ih =>
    intro h
    simp only [List.all_cons, Bool.and_eq_true] at h
    obtain ⟨s, hs⟩ := Option.isSome_iff_exists.1 h.1
    simp only [List.mapM_cons, Sem.run_bind, r_sizeOf w hs, Result.andThen_ok, Sem.run_pure, ih h.2, List.map_cons, hs, Option.map_some, Option.getD_some]

theorem buildV_run {P : Program} {t : TypeId} {parts : List (Nat × SV)} {z : SV} (h : buildV P t parts = some z) (ρ : Nat → Loc) (w : World) :
    (Instr.build t (parts.map fun (i, x) => (i, x.den ρ)).toArray).run P w = .ok (z.den ρ) w := by
  unfold buildV at h
  split at h
  · cases h
  · rename_i s hs
    simp only at h
    have hz : ((s.zero.cells.toList.map SV.v).map (SV.den ρ)).toArray = s.zero.cells := by
      simp [Function.comp_def, SV.den]
    split at h
    · rename_i fs hd
      cases hall : fs.toList.all fun f => (ty P f.type).isSome with
      | false => rw [hall] at h; cases h
      | true =>
        rw [hall] at h
        simp only [cond_true, Option.map_eq_some_iff] at h
        obtain ⟨out, hf, rfl⟩ := h
        obtain ⟨k1, _⟩ := fill_den (ρ := ρ) (n := 0) parts _ out hf
        rw [hz] at k1
        have hpl : (fs.mapM (fun (f : Field) => do pure (f.offset, ← sizeOf f.type)) : Sem (Array (Nat × Nat))).run P w = .ok (fs.toList.map fun (f : Field) => (f.offset, ((ty P f.type).map (·.size)).getD 0)).toArray w := by
          rw [Array.mapM_eq_mapM_toList]
          simp only [Sem.run_map, places_run w fs.toList hall, Result.andThen_ok]
        simp only [Instr.build, Sem.run_bind, r_zeroValue w hs, r_underlying w hs, Result.andThen_ok, hd, hpl]
        have hfun : (fun (i : Nat) => ((fs.toList.map fun (f : Field) => (f.offset, ((ty P f.type).map (·.size)).getD 0)).toArray)[i]?) = (fun (i : Nat) => match fs.toList[i]? with
          | some (f : Field) => (ty P f.type).map fun s => (f.offset, s.size)
          | none => none) := by
          funext i
          simp only [List.getElem?_toArray, List.getElem?_map]
          cases hi : fs.toList[i]? with
          | none => rfl
          | some f =>
            obtain ⟨s', hs'⟩ := Option.isSome_iff_exists.1 (List.all_eq_true.1 hall f (List.mem_of_getElem? hi))
            simp [hs']
        simp only [hfun, k1, Sem.run_pure, SV.den, dens_eq]
    · rename_i k e hd
      split at h
      · rename_i se hse
        simp only [Option.map_eq_some_iff] at h
        obtain ⟨out, hf, rfl⟩ := h
        obtain ⟨k1, _⟩ := fill_den (ρ := ρ) (n := 0) parts _ out hf
        rw [hz] at k1
        simp only [Instr.build, Sem.run_bind, r_zeroValue w hs, r_underlying w hs, Result.andThen_ok, hd, r_sizeOf w hse, k1, Sem.run_pure, SV.den, dens_eq]
      · cases h
    · cases h

theorem buildV_lt {P : Program} {t : TypeId} {parts : List (Nat × SV)} {z : SV} (h : buildV P t parts = some z) {ρ : Nat → Loc} {n : Nat} (hp : ∀ p ∈ parts, p.2.lt ρ n) : z.lt ρ n := by
  unfold buildV at h
  split at h
  · cases h
  · rename_i s hs
    simp only at h
    have hz : ∀ y ∈ s.zero.cells.toList.map SV.v, y.lt ρ n := fun y hy => by obtain ⟨x, _, rfl⟩ := List.mem_map.1 hy; trivial
    split at h
    · rename_i fs hd
      cases hall : fs.toList.all fun f => (ty P f.type).isSome with
      | false => rw [hall] at h; cases h
      | true =>
        rw [hall] at h
        simp only [cond_true, Option.map_eq_some_iff] at h
        obtain ⟨out, hf, rfl⟩ := h
        exact lts_iff.2 ((fill_den (ρ := ρ) (n := n) parts _ out hf).2 hz hp)
    · split at h
      · simp only [Option.map_eq_some_iff] at h
        obtain ⟨out, hf, rfl⟩ := h
        exact lts_iff.2 ((fill_den (ρ := ρ) (n := n) parts _ out hf).2 hz hp)
      · cases h
    · cases h

end
end Go.Sx

namespace Go.Sx
noncomputable section
variable {dfs : List Deferred}

/-! ### Builtins -/

def lenV (P : Program) (t : TypeId) (x : SV) : Option SV :=
  match ty P t with
  | none => none
  | some s => match s.und with
    | .string => x.str?.map fun l => .v (.int .i64 l.length)
    | .slice _ => match x with
      | .slc _ _ l _ => some (.v (.int .i64 l))
      | .v (.slice _ l _) => some (.v (.int .i64 l))
      | _ => none
    | .array n _ => some (.v (.int .i64 n))
    | .pointer e => match ty P e with
      | some se => match se.und with
        | .array n _ => some (.v (.int .i64 n))
        | _ => none
      | none => none
    | .map _ _ => match x with
      | .v (.map none) => some (.v (.int .i64 0))
      | _ => none
    | _ => none

theorem lenV_run {P : Program} {t u : TypeId} {x z : SV} (h : lenV P t x = some z) (ρ : Nat → Loc) (w : World) : (Builtin.len_ #[t] u #[x.den ρ]).run P w = .ok (z.den ρ) w := by
  unfold lenV at h
  split at h
  · cases h
  · rename_i s hs
    have hu := r_underlying w hs
    split at h
    · rename_i hd
      simp only [Option.map_eq_some_iff] at h
      obtain ⟨l, hl, rfl⟩ := h
      rw [SV.str?_den hl]
      have hsz : (⟨l.toArray⟩ : ByteArray).size = l.length := by show l.toArray.size = _; simp
      simp only [Builtin.len_, List.getElem?_toArray, List.getElem?_cons_zero, Sem.run_bind, hu, hd, Result.andThen_ok, hsz]
      rfl
    · rename_i e hd
      split at h
      · injection h with h; subst h
        simp only [Builtin.len_, List.getElem?_toArray, List.getElem?_cons_zero, Sem.run_bind, hu, hd, Result.andThen_ok, SV.den]
        rfl
      · injection h with h; subst h
        simp only [Builtin.len_, List.getElem?_toArray, List.getElem?_cons_zero, Sem.run_bind, hu, hd, Result.andThen_ok, SV.den]
        rfl
      · cases h
    · rename_i n e hd
      injection h with h; subst h
      simp only [Builtin.len_, List.getElem?_toArray, List.getElem?_cons_zero, Sem.run_bind, hu, hd, Result.andThen_ok]
      rfl
    · rename_i e hd
      split at h
      · rename_i se hse
        split at h
        · rename_i n e' hd'
          injection h with h; subst h
          simp only [Builtin.len_, List.getElem?_toArray, List.getElem?_cons_zero, Sem.run_bind, hu, hd, Result.andThen_ok, r_underlying w hse, hd']
          rfl
        · cases h
      · cases h
    · rename_i k e hd
      split at h
      · injection h with h; subst h
        simp only [Builtin.len_, List.getElem?_toArray, List.getElem?_cons_zero, Sem.run_bind, hu, hd, Result.andThen_ok, SV.den]
        rfl
      · cases h
    · cases h

theorem lenV_lt {P : Program} {t : TypeId} {x z : SV} (h : lenV P t x = some z) (ρ : Nat → Loc) (n : Nat) : z.lt ρ n := by
  unfold lenV at h
  split at h
  · cases h
  · split at h
    · simp only [Option.map_eq_some_iff] at h
      obtain ⟨l, hl, rfl⟩ := h; trivial
    all_goals first
      | (injection h with h; subst h; trivial)
      | (split at h <;> first | (cases h; done) | (injection h with h; subst h; trivial) | (split at h <;> first | (cases h; done) | (injection h with h; subst h; trivial)))
      | (cases h; done)

def capV (P : Program) (t : TypeId) (x : SV) : Option SV :=
  match ty P t with
  | none => none
  | some s => match s.und, x with
    | .slice _, .slc _ _ _ (.lit c) => some (.v (.int .i64 c))
    | .slice _, .v (.slice _ _ c) => some (.v (.int .i64 c))
    | _, _ => none

theorem capV_run {P : Program} {t u : TypeId} {x z : SV} (h : capV P t x = some z) (ρ : Nat → Loc) (w : World) : (Builtin.cap_ #[t] u #[x.den ρ]).run P w = .ok (z.den ρ) w := by
  unfold capV at h
  split at h
  · cases h
  · rename_i s hs
    have hu := r_underlying w hs
    split at h
    · rename_i hd
      injection h with h; subst h
      simp only [Builtin.cap_, List.getElem?_toArray, List.getElem?_cons_zero, Sem.run_bind, hu, hd, Result.andThen_ok, SV.den]
      rfl
    · rename_i hd
      injection h with h; subst h
      simp only [Builtin.cap_, List.getElem?_toArray, List.getElem?_cons_zero, Sem.run_bind, hu, hd, Result.andThen_ok, SV.den]
      rfl
    · cases h

theorem capV_lt {P : Program} {t : TypeId} {x z : SV} (h : capV P t x = some z) (ρ : Nat → Loc) (n : Nat) : z.lt ρ n := by
  unfold capV at h
  split at h
  · cases h
  · split at h <;> first | (cases h; done) | (injection h with h; subst h; trivial)

/-- The least, or the greatest, of some numbers. -/
def foldM (mx : Bool) (k : IntKind) : Int → List SV → Option SV
  | a, [] => some (.v (.int k a))
  | a, y :: ys => match y.int? with
    | some (_, b) => foldM mx k (bif mx then (bif decide (a < b) then b else a) else (bif decide (b < a) then b else a)) ys
    | none => none

theorem foldM_min {P : Program} {ρ : Nat → Loc} {k : IntKind} (w : World) : ∀ (ys : List SV) (a : Int) (z : SV), foldM false k a ys = some z → ((ys.map (SV.den ρ)).foldlM Builtin.min2 (.int k a)).run P w = .ok (z.den ρ) w := by
  intro ys
  induction ys with
  | nil => intro a z h; injection h with h; subst h; rfl
  | cons y ys ih =>
    intro a z h
    simp only [foldM] at h
    split at h
    · rename_i k' b hy
      have := ih _ z h
      simp only [List.map_cons, List.foldlM_cons, SV.int?_den hy, Builtin.min2, Sem.run_bind, Sem.run_pure, Result.andThen_ok]
      by_cases hab : b < a <;> simp [hab] at this ⊢ <;> exact this
    · cases h

theorem foldM_max {P : Program} {ρ : Nat → Loc} {k : IntKind} (w : World) : ∀ (ys : List SV) (a : Int) (z : SV), foldM true k a ys = some z → ((ys.map (SV.den ρ)).foldlM Builtin.max2 (.int k a)).run P w = .ok (z.den ρ) w := by
  intro ys
  induction ys with
  | nil => intro a z h; injection h with h; subst h; rfl
  | cons y ys ih =>
    intro a z h
    simp only [foldM] at h
    split at h
    · rename_i k' b hy
      have := ih _ z h
      simp only [List.map_cons, List.foldlM_cons, SV.int?_den hy, Builtin.max2, Sem.run_bind, Sem.run_pure, Result.andThen_ok]
      by_cases hab : a < b
      · simp [hab] at this ⊢; exact this
      · simp [hab] at this ⊢; exact this
    · cases h

theorem foldM_lt {mx : Bool} {k : IntKind} (ρ : Nat → Loc) (n : Nat) : ∀ (ys : List SV) (a : Int) (z : SV), foldM mx k a ys = some z → z.lt ρ n := by
  intro ys
  induction ys with
  | nil => intro a z h; injection h with h; subst h; trivial
  | cons y ys ih =>
    intro a z h
    simp only [foldM] at h
    split at h
    · exact ih _ z h
    · cases h

def builtV (P : Program) (b : Builtin) (ts : List TypeId) (xs : List SV) : Option SV :=
  match b, ts, xs with
  | .len, [t], [x] => lenV P t x
  | .cap, [t], [x] => capV P t x
  | .min, _, x :: ys => match x.int? with
    | some (k, a) => foldM false k a ys
    | none => none
  | .max, _, x :: ys => match x.int? with
    | some (k, a) => foldM true k a ys
    | none => none
  | _, _, _ => none

theorem builtV_run {P : Program} {b : Builtin} {ts : List TypeId} {xs : List SV} {z : SV} (h : builtV P b ts xs = some z) (ρ : Nat → Loc) (w : World) (u : TypeId) (cs : Array Bool) :
    (builtin b ts.toArray u cs (xs.map (SV.den ρ)).toArray).run P w = .ok (.value (z.den ρ)) w := by
  unfold builtV at h
  split at h
  · have := lenV_run h ρ w (u := u)
    simp only [builtin, Sem.run_bind, List.map_cons, List.map_nil, this, Result.andThen_ok, Sem.run_pure]
  · have := capV_run h ρ w (u := u)
    simp only [builtin, Sem.run_bind, List.map_cons, List.map_nil, this, Result.andThen_ok, Sem.run_pure]
  · split at h
    · rename_i k a hx
      simp only [builtin, Builtin.min_, List.map_cons, SV.int?_den hx, Sem.run_bind, foldM_min w _ _ _ h, Result.andThen_ok, Sem.run_pure]
    · cases h
  · split at h
    · rename_i k a hx
      simp only [builtin, Builtin.max_, List.map_cons, SV.int?_den hx, Sem.run_bind, foldM_max w _ _ _ h, Result.andThen_ok, Sem.run_pure]
    · cases h
  · cases h

theorem builtV_lt {P : Program} {b : Builtin} {ts : List TypeId} {xs : List SV} {z : SV} (h : builtV P b ts xs = some z) (ρ : Nat → Loc) (n : Nat) : z.lt ρ n := by
  unfold builtV at h
  split at h
  · exact lenV_lt h ρ n
  · exact capV_lt h ρ n
  · split at h
    · exact foldM_lt ρ n _ _ _ h
    · cases h
  · split at h
    · exact foldM_lt ρ n _ _ _ h
    · cases h
  · cases h

/-! ### All of them -/

def optT (x : Option SV) : Option (Bool × SV) :=
  match x with
  | some v => some (true, v)
  | none => none

def optOpd (tm : T SV) : Option Operand → Option (Option SV)
  | none => some none
  | some x => match opd tm x with
    | some v => some (some v)
    | none => none

def pickV (c a b : SV) : Option SV :=
  match c with
  | .v (.bool t) => match a, b with
    | .v (.bool x), .v (.bool y) => some (.v (.bool (bif t then x else y)))
    | a, b => some (bif t then a else b)
  | _ => none

theorem pickV_run {c a b z : SV} (h : pickV c a b = some z) (ρ : Nat → Loc) : ∃ t, c = .v (.bool t) ∧ z.den ρ = if t then a.den ρ else b.den ρ := by
  unfold pickV at h
  split at h
  · rename_i t
    refine ⟨t, rfl, ?_⟩
    split at h <;> injection h with h <;> subst h <;> cases t <;> rfl
  · cases h

theorem pickV_lt {c a b z : SV} (h : pickV c a b = some z) {ρ : Nat → Loc} {n : Nat} (ha : a.lt ρ n) (hb : b.lt ρ n) : z.lt ρ n := by
  unfold pickV at h
  split at h
  · rename_i t
    split at h
    · injection h with h; subst h; trivial
    · injection h with h; subst h; cases t
      · exact hb
      · exact ha
  · cases h

def pureCall (P : Program) (tm : T SV) (c : Call) : Option (Bool × SV) :=
  match c.callee with
  | .builtin b => match opds tm c.args.toList with
    | some xs => optT (builtV P b c.argTypes.toList xs)
    | none => none
  | _ => none

/-- An operation that looks at the slots alone: what it asks, and what it gives. -/
def pureV (P : Program) (tm : T SV) : Op → Option (Bool × SV)
  | .move x => optT (opd tm x)
  | .assign x => optT (opd tm x)
  | .pick c a b => match opd tm c, opd tm a, opd tm b with
    | some c, some a, some b => optT (pickV c a b)
    | some (.v (.bool true)), some a, none => some (true, a)
    | some (.v (.bool false)), none, some b => some (true, b)
    | _, _, _ => none
  | .build t parts => match opds tm (parts.toList.map (·.2)) with
    | some xs => optT (buildV P t ((parts.toList.map (·.1)).zip xs))
    | none => none
  | .nilCheck x => match opd tm x with
    | some x => nilV x
    | none => none
  | .binOp op t x y _ => match opd tm x, opd tm y with
    | some a, some b => binV P op t (isCst y) a b
    | _, _ => none
  | .unOp op _ x => match opd tm x with
    | some x => optT (unV op x)
    | none => none
  | .convert s d x => match opd tm x with
    | some x => optT (convV P s d x)
    | none => none
  | .makeInterface t x => match opd tm x with
    | some x => optT (ifcV P t x)
    | none => none
  | .makeFunc (.func f) first caps => bif first.isEmpty then (match opds tm caps.toList with
      | some xs => some (true, .fn f xs)
      | none => none) else none
  | .slice t x lo hi mx => match opd tm x, optOpd tm lo, optOpd tm hi, optOpd tm mx with
    | some x, some lo, some hi, some mx => sliceV P t x lo hi mx
    | _, _, _, _ => none
  | .fieldAddr t x i => match opd tm x with
    | some x => optT (fieldAddrV P t x i)
    | none => none
  | .field t x i => match opd tm x with
    | some x => optT (fieldV P t x i)
    | none => none
  | .indexAddr t x i => match opd tm x, opd tm i with
    | some x, some i => indexAddrV P t x i
    | _, _ => none
  | .index t x i => match opd tm x, opd tm i with
    | some x, some i => indexV P t x i
    | _, _ => none
  | .extract x i => match opd tm x with
    | some x => optT (extractV x i)
    | none => none
  | .typeAssert x _ t ok => match opd tm x with
    | some x => optT (assertV P t ok x)
    | none => none
  | .call c => pureCall P tm c
  | _ => none

theorem optT_some {x : Option SV} {r : Bool} {z : SV} (h : optT x = some (r, z)) : x = some z := by
  unfold optT at h
  split at h
  · injection h with h; injection h with _ h; subst h; rfl
  · cases h

theorem optOpd_den {ρ : Nat → Loc} {tm : T SV} {sz nx : Nat} {a : Act} (A : ARel dfs ρ tm sz nx a) {x : Option Operand} {v : Option SV} (h : optOpd tm x = some v) : x.map a.eval = v.map (SV.den ρ) := by
  unfold optOpd at h
  split at h
  · injection h with h; subst h; rfl
  · split at h
    · rename_i hv
      injection h with h; subst h
      simp [(opd_den A hv).1]
    · cases h

theorem pureV_run {P : Program} {tm : T SV} {op : Op} {r : Bool} {z : SV} (h : pureV P tm op = some (r, z)) (hr : r = true) {ρ : Nat → Loc} {sz nx : Nat} {a : Act} (A : ARel dfs ρ tm sz nx a)
    (o : Oper) (ho : o.op = op) (w : World) : (execOp a.eval o).run P w = .ok (.value (z.den ρ)) w ∧ z.lt ρ nx := by
  subst hr
  unfold pureV at h
  unfold execOp
  rw [ho]
  split at h
  · have h := optT_some h
    obtain ⟨h1, h2⟩ := opd_den A h
    exact ⟨by simp [h1], h2⟩
  · have h := optT_some h
    obtain ⟨h1, h2⟩ := opd_den A h
    exact ⟨by simp [h1], h2⟩
  · split at h
    · rename_i c x y hc hx hy
      have h := optT_some h
      obtain ⟨c1, _⟩ := opd_den A hc
      obtain ⟨x1, x2⟩ := opd_den A hx
      obtain ⟨y1, y2⟩ := opd_den A hy
      obtain ⟨t, rfl, hz⟩ := pickV_run h ρ
      refine ⟨?_, pickV_lt h x2 y2⟩
      rw [hz]
      simp only [c1, x1, y1, SV.den, asBool, Sem.run_bind, Sem.run_pure, Result.andThen_ok]
    · rename_i x hc hx hy
      injection h with h; injection h with _ h; subst h
      obtain ⟨c1, _⟩ := opd_den A hc
      obtain ⟨x1, x2⟩ := opd_den A hx
      exact ⟨by simp only [c1, x1, SV.den, asBool, Sem.run_bind, Sem.run_pure, Result.andThen_ok, if_true], x2⟩
    · rename_i x hc hx hy
      injection h with h; injection h with _ h; subst h
      obtain ⟨c1, _⟩ := opd_den A hc
      obtain ⟨x1, x2⟩ := opd_den A hy
      exact ⟨by simp only [c1, x1, SV.den, asBool, Sem.run_bind, Sem.run_pure, Result.andThen_ok, Bool.false_eq_true, if_false], x2⟩
    · cases h
  · rename_i t parts
    split at h
    · rename_i xs hxs
      have h := optT_some h
      obtain ⟨h1, h2⟩ := opds_den A _ _ hxs
      have hp : (parts.map fun (i, x) => (i, a.eval x)) = (((parts.toList.map (·.1)).zip xs).map fun (i, x) => (i, x.den ρ)).toArray := by
        apply Array.toList_inj.1
        rw [Array.toList_map]
        show _ = ((parts.toList.map (·.1)).zip xs).map fun (i, x) => (i, x.den ρ)
        have : (((parts.toList.map (·.1)).zip xs).map fun (i, x) => (i, SV.den ρ x)) = (parts.toList.map (·.1)).zip (xs.map (SV.den ρ)) := by
          rw [List.zip_map_right]; rfl
        rw [this, ← h1, List.map_map, List.zip_map']
        rfl
      refine ⟨?_, buildV_lt h fun p hp => h2 p.2 (List.of_mem_zip hp).2⟩
      simp only [Sem.run_bind]
      rw [hp, buildV_run h ρ w]
      simp
    · cases h
  · split at h
    · rename_i x hx
      obtain ⟨h1, h2⟩ := opd_den A hx
      dsimp only
      rw [h1]
      unfold nilV at h
      split at h
      · injection h with h; injection h with _ h; subst h; exact ⟨rfl, h2⟩
      · rename_i o
        injection h with h; injection h with h3 h; subst h
        cases o with
        | none => cases h3
        | some a => exact ⟨rfl, trivial⟩
      · injection h with h; injection h with _ h; subst h; exact ⟨rfl, h2⟩
      · injection h with h; injection h with _ h; subst h; exact ⟨rfl, h2⟩
      · cases h
    · cases h
  · rename_i op t x y _
    split at h
    · rename_i u v hu hv
      obtain ⟨h1, _⟩ := opd_den A hu
      obtain ⟨h2, _⟩ := opd_den A hv
      refine ⟨?_, binV_lt h ρ nx⟩
      have := binV_run h rfl ρ w x y (fun hc => by cases y <;> first | exact ⟨_, rfl⟩ | cases hc)
      rw [← h1, ← h2] at this
      simp only [Sem.run_bind] at this ⊢
      rw [this]
      simp
    · cases h
  · split at h
    · rename_i x hx
      have h := optT_some h
      obtain ⟨h1, _⟩ := opd_den A hx
      refine ⟨?_, unV_lt h ρ nx⟩
      simp only [Sem.run_bind, h1, unV_run h ρ w, Result.andThen_ok, Sem.run_pure]
    · cases h
  · split at h
    · rename_i x hx
      have h := optT_some h
      obtain ⟨h1, h2⟩ := opd_den A hx
      refine ⟨?_, convV_lt h h2⟩
      simp only [Sem.run_bind, h1, convV_run h ρ w, Result.andThen_ok, Sem.run_pure]
    · cases h
  · split at h
    · rename_i x hx
      have h := optT_some h
      obtain ⟨h1, h2⟩ := opd_den A hx
      refine ⟨?_, ifcV_lt h h2⟩
      simp only [Sem.run_bind, h1, ifcV_run h ρ w, Result.andThen_ok, Sem.run_pure]
    · cases h
  · rename_i f first caps
    cases hf : first.isEmpty with
    | false => rw [hf] at h; cases h
    | true =>
      rw [hf] at h
      simp only [cond_true] at h
      split at h
      · rename_i xs hxs
        injection h with h; injection h with _ h; subst h
        obtain ⟨h1, h2⟩ := opds_den A _ _ hxs
        have hfe : first = #[] := Array.isEmpty_iff.1 hf
        subst hfe
        refine ⟨?_, lts_iff.2 h2⟩
        have hc : caps.map a.eval = (xs.map (SV.den ρ)).toArray := by
          apply Array.toList_inj.1
          rw [Array.toList_map, h1]
        simp only [Instr.makeFunc, hc, SV.den, dens_eq, Sem.run_bind, Sem.run_pure, Result.andThen_ok, Array.map_empty]
      · cases h
  · split at h
    · rename_i x lo hi mx hx hlo hhi hmx
      obtain ⟨h1, h2⟩ := opd_den A hx
      obtain ⟨k1, k2⟩ := sliceV_run h rfl h2 w
      refine ⟨?_, k2⟩
      simp only [Sem.run_bind, h1, optOpd_den A hlo, optOpd_den A hhi, optOpd_den A hmx, k1, Result.andThen_ok, Sem.run_pure]
    · cases h
  · split at h
    · rename_i x hx
      have h := optT_some h
      obtain ⟨h1, h2⟩ := opd_den A hx
      refine ⟨?_, fieldAddrV_lt h h2⟩
      simp only [Sem.run_bind, h1, fieldAddrV_run h ρ w, Result.andThen_ok, Sem.run_pure]
    · cases h
  · split at h
    · rename_i x hx
      have h := optT_some h
      obtain ⟨h1, h2⟩ := opd_den A hx
      refine ⟨?_, fieldV_lt h h2⟩
      simp only [Sem.run_bind, h1, fieldV_run h ρ w, Result.andThen_ok, Sem.run_pure]
    · cases h
  · split at h
    · rename_i x i hx hi
      obtain ⟨h1, h2⟩ := opd_den A hx
      obtain ⟨h3, _⟩ := opd_den A hi
      refine ⟨?_, indexAddrV_lt h h2⟩
      simp only [Sem.run_bind, h1, h3, indexAddrV_run h rfl ρ w, Result.andThen_ok, Sem.run_pure]
    · cases h
  · split at h
    · rename_i x i hx hi
      obtain ⟨h1, h2⟩ := opd_den A hx
      obtain ⟨h3, _⟩ := opd_den A hi
      refine ⟨?_, indexV_lt h h2⟩
      simp only [Sem.run_bind, h1, h3, indexV_run h rfl ρ w, Result.andThen_ok, Sem.run_pure]
    · cases h
  · split at h
    · rename_i x hx
      have h := optT_some h
      obtain ⟨h1, h2⟩ := opd_den A hx
      refine ⟨?_, extractV_lt h h2⟩
      simp only [Sem.run_bind, h1, extractV_run h ρ w, Result.andThen_ok, Sem.run_pure]
    · cases h
  · split at h
    · rename_i x hx
      have h := optT_some h
      obtain ⟨h1, h2⟩ := opd_den A hx
      refine ⟨?_, assertV_lt h h2⟩
      simp only [Sem.run_bind, h1, assertV_run h ρ w, Result.andThen_ok, Sem.run_pure]
    · cases h
  · rename_i c
    unfold pureCall at h
    split at h
    · rename_i b hb
      split at h
      · rename_i xs hxs
        have h := optT_some h
        obtain ⟨h1, _⟩ := opds_den A _ _ hxs
        refine ⟨?_, builtV_lt h ρ nx⟩
        have hc : c.args.map a.eval = (xs.map (SV.den ρ)).toArray := by
          apply Array.toList_inj.1
          rw [Array.toList_map, h1]
        have key : ∀ cs, (builtin b c.argTypes o.type cs (xs.map (SV.den ρ)).toArray).run P w = .ok (.value (z.den ρ)) w := fun cs => builtV_run h ρ w o.type cs
        simp only [resolve, hb, hc, Sem.run_bind, Sem.run_pure, Result.andThen_ok, invoke]
        exact key _
      · cases h
    · cases h
  · cases h

end
end Go.Sx

namespace Go.Sx
noncomputable section

/-! ### Cells of a window -/

theorem cell_at {w : World} {blk o : Nat} {c : Array Value} {t : TypeId} {fz : Nat × Nat} (h : w.heap[blk]? = some (.cells c t fz)) : w.cell? ⟨blk, o, none⟩ = c[o]? := by
  simp [World.cell?, h]

theorem frozen_at {w : World} {blk o : Nat} {c : Array Value} {t : TypeId} {fz : Nat × Nat} (h : w.heap[blk]? = some (.cells c t fz)) (hf : ¬ (fz.1 ≤ o ∧ o < fz.2)) : w.frozen? ⟨blk, o, none⟩ = false := by
  obtain ⟨lo, hi⟩ := fz
  simp only [World.frozen?, h]
  simp only [not_and] at hf
  by_cases h1 : lo ≤ o
  · simp [h1, hf h1]
  · simp [h1]

theorem load_run {P : Program} {w : World} {blk o : Nat} {c : Array Value} {t : TypeId} {fz : Nat × Nat} {v : Value} (h : w.heap[blk]? = some (.cells c t fz)) (hv : c[o]? = some v) :
    (load ⟨blk, o, none⟩).run P w = .ok v w := by
  simp [cell_at h, hv]

theorem loadCells_run {P : Program} {w : World} {blk o : Nat} {c : Array Value} {t : TypeId} {fz : Nat × Nat} (h : w.heap[blk]? = some (.cells c t fz)) : ∀ (vs : List Value) (i : Nat) (acc : Array Value),
    (∀ j v, vs[j]? = some v → c[o + (i + j)]? = some v) → (loadCellsFrom ⟨blk, o, none⟩ i vs.length acc).run P w = .ok (acc ++ vs.toArray) w := by
  intro vs
  induction vs with
  | nil => intro i acc _; simp [loadCellsFrom]
  | cons v vs ih =>
    intro i acc hv
    simp only [List.length_cons, loadCellsFrom, Sem.run_bind, add_none]
    have h0 := hv 0 v rfl
    simp only [Nat.add_zero] at h0
    rw [load_run h h0]
    simp only [Result.andThen_ok]
    rw [ih (i + 1) (acc.push v) (fun j u hj => by have := hv (j + 1) u (by simpa using hj); rw [show i + 1 + j = i + (j + 1) by omega]; exact this)]
    congr 1
    apply Array.toList_inj.1
    simp

structure Same (blk : Nat) (w w' : World) : Prop where
  other : ∀ k, k ≠ blk → w'.heap[k]? = w.heap[k]?
  os : w'.os = w.os
  out : w'.output = w.output
  tape : w'.tape = w.tape

theorem setCell_block {w : World} {blk o : Nat} {c : Array Value} {t : TypeId} {fz : Nat × Nat} (h : w.heap[blk]? = some (.cells c t fz)) (v : Value) : (w.setCell ⟨blk, o, none⟩ v).heap[blk]? = some (.cells (c.setIfInBounds o v) t fz) := by
  simp only [World.setCell, Array.getElem?_modify, if_true, h, Option.map_some, Option.isSome_none, Bool.false_eq_true, if_false]

theorem setCell_other {w : World} {blk o k : Nat} (v : Value) (h : k ≠ blk) : (w.setCell ⟨blk, o, none⟩ v).heap[k]? = w.heap[k]? := by
  simp only [World.setCell, Array.getElem?_modify]
  rw [if_neg (fun e => h e.symm)]

theorem storeCells_run {P : Program} {blk o : Nat} {t : TypeId} {fz : Nat × Nat} : ∀ (vs : List Value) (i : Nat) (w : World) (c : Array Value), w.heap[blk]? = some (.cells c t fz) →
    o + i + vs.length ≤ c.size → (∀ k, k < c.size → ¬ (fz.1 ≤ k ∧ k < fz.2)) → (∀ v ∈ vs, v.oneCell' = true) →
    ∃ w' c', (storeCells ⟨blk, o, none⟩ vs i).run P w = .ok () w' ∧ w'.heap[blk]? = some (.cells c' t fz) ∧ c'.toList = c.toList.take (o + i) ++ vs ++ c.toList.drop (o + i + vs.length) ∧ Same blk w w' := by
  intro vs
  induction vs with
  | nil => intro i w c h _ _ _; exact ⟨w, c, rfl, h, by simp, ⟨fun _ _ => rfl, rfl, rfl, rfl⟩⟩
  | cons v vs ih =>
    intro i w c h hs hf ho
    simp only [List.length_cons] at hs
    have hlt : o + i < c.size := by omega
    have h1 := setCell_block (o := o + i) h v
    obtain ⟨w', c', k1, k2, k3, k4⟩ := ih (i + 1) (w.setCell ⟨blk, o + i, none⟩ v) (c.setIfInBounds (o + i) v) h1 (by simp; omega) (by simpa using hf) (fun u hu => ho u (List.mem_cons_of_mem _ hu))
    refine ⟨w', c', ?_, k2, ?_, ⟨fun k hk => (k4.other k hk).trans (setCell_other v hk), k4.os, k4.out, k4.tape⟩⟩
    · simp only [storeCells, Sem.run_bind, add_none]
      rw [run_store P w _ v _ (ho v List.mem_cons_self), cell_at h, Array.getElem?_eq_getElem hlt]
      simp only [frozen_at h (hf _ hlt), Bool.false_eq_true, if_false, Result.andThen_ok]
      exact k1
    · rw [k3]
      simp only [Array.toList_setIfInBounds, List.length_cons]
      have hlt' : o + i < c.toList.length := by simpa using hlt
      rw [show o + (i + 1) = (o + i) + 1 by omega, show (o + i) + 1 + vs.length = o + i + (vs.length + 1) by omega]
      rw [List.take_add_one, List.take_set_of_le (Nat.le_refl _), List.drop_set_of_lt (by omega), List.getElem?_set_self hlt']
      simp

/-! ### Loads -/

def takeN : Nat → List SV → Option (List SV)
  | 0, _ => some []
  | n + 1, x :: xs => match takeN n xs with
    | some l => some (x :: l)
    | none => none
  | _ + 1, [] => none

theorem takeN_some : ∀ {n : Nat} {l out : List SV}, takeN n l = some out → out.length = n ∧ ∀ (j : Nat) (x : SV), out[j]? = some x → l[j]? = some x := by
  intro n
  induction n with
  | zero => intro l out h; simp only [takeN, Option.some.injEq] at h; subst h; exact ⟨rfl, fun j x hj => by simp at hj⟩
  | succ n ih =>
    intro l out h
    cases l with
    | nil => simp [takeN] at h
    | cons y ys =>
      simp only [takeN] at h
      split at h
      · rename_i l' hl'
        injection h with h; subst h
        obtain ⟨h1, h2⟩ := ih hl'
        refine ⟨by simp [h1], fun j x hj => ?_⟩
        cases j with
        | zero => exact hj
        | succ j => exact h2 j x hj
      · cases h

/-- What is known of a block of old memory. -/
def globV (g : Nat) : List (Nat × List Value) → Option (List Value)
  | [] => none
  | x :: xs => bif Nat.beq x.1 g then some x.2 else globV g xs

theorem globV_mem {g : Nat} {cs : List Value} : ∀ {l : List (Nat × List Value)}, globV g l = some cs → (g, cs) ∈ l := by
  intro l
  induction l with
  | nil => intro h; cases h
  | cons x l ih =>
    intro h
    simp only [globV] at h
    cases hb : Nat.beq x.1 g with
    | true =>
      rw [hb] at h
      injection h with h
      have := Nat.eq_of_beq_eq_true hb
      subst this; subst h
      exact List.mem_cons_self
    | false =>
      rw [hb] at h
      exact List.mem_cons_of_mem _ (ih h)

def loadG (s : STy) (o : Nat) (cs : List Value) : Option SV :=
  bif TypeDesc.isAgg s.und then (takeN s.size ((cs.drop o).map .v)).map .agg else (nth cs o).map .v

/-- A load of the arena. -/
def loadA (s : STy) (r : Option (List Value)) : Option SV := match r with
  | some vs => bif TypeDesc.isAgg s.und then some (.v (.agg vs.toArray)) else (match vs with
    | [v] => some (.v v)
    | _ => none)
  | none => none

theorem rd_some {A : Arena} {g o n : Nat} {vs : List Value} (h : A.rd g o n = some vs) : ∃ c t fz, A.blk g = some (.cells c t fz) ∧ o + n ≤ c.size ∧ vs = (c.toList.drop o).take n := by
  rw [A.rdeq] at h
  unfold rdOf at h
  split at h
  · rename_i c t fz hb
    split at h
    · rename_i hle
      injection h with h
      exact ⟨c, t, fz, hb, hle, h.symm⟩
    · cases h
  · cases h

theorem rd_len {A : Arena} {g o n : Nat} {vs : List Value} (h : A.rd g o n = some vs) : vs.length = n := by
  obtain ⟨c, t, fz, _, h1, rfl⟩ := rd_some h
  simp; omega

def loadV (P : Program) (h : HS) (t : TypeId) (x : SV) : Option SV :=
  match ty P t with
  | none => none
  | some s => match x with
    | .ptr b o => match h.H.get b with
      | some (.cells cs _ _) => bif TypeDesc.isAgg s.und then (takeN s.size (cs.drop o)).map .agg else cs[o]?
      | _ => none
    | .v (.pointer (some ⟨g, o, none⟩)) => bif h.M.X.op then loadA s (h.M.A.rd g o s.size) else (match globV g h.M.gl with
      | some cs => loadG s o cs
      | none => none)
    | _ => none

theorem loadV_run {P : Program} {h : HS} {t : TypeId} {x z : SV} (hz : loadV P h t x = some z) {ρ : Nat → Loc} {w : World} (H : HRel ρ h w) : (Instr.loadAt t (x.den ρ)).run P w = .ok (z.den ρ) w ∧ z.lt ρ h.nx := by
  unfold loadV at hz
  split at hz
  · cases hz
  · rename_i s hs
    split at hz
    · rename_i b o
      split at hz
      · rename_i cs es τ hb
        obtain ⟨_, h2, c, t', fz, h3, h4, h5, h7, h6⟩ := H.blk b _ hb
        simp only [Instr.loadAt, SV.den, Instr.sureAddr, Sem.run_bind, Sem.run_pure, Result.andThen_ok, loadVar, r_isAgg w hs]
        cases ha : TypeDesc.isAgg s.und with
        | true =>
          rw [ha] at hz
          simp only [cond_true, Option.map_eq_some_iff] at hz
          obtain ⟨l, hl, rfl⟩ := hz
          obtain ⟨k1, k2⟩ := takeN_some hl
          simp only [if_true, Sem.run_bind, r_sizeOf w hs, Result.andThen_ok, loadCells]
          have := loadCells_run (P := P) (o := (ρ b).off + o) h3 (l.map (SV.den ρ)) 0 #[] (fun j v hj => by
            rw [List.getElem?_map] at hj
            cases hx : l[j]? with
            | none => rw [hx] at hj; cases hj
            | some x =>
              rw [hx] at hj
              injection hj with hj; subst hj
              have := k2 j x hx
              rw [List.getElem?_drop] at this
              rw [Nat.zero_add, Nat.add_assoc]
              exact h4 (o + j) x this)
          rw [List.length_map, k1] at this
          rw [this]
          refine ⟨by simp [SV.den, dens_eq], lts_iff.2 fun y hy => ?_⟩
          obtain ⟨j, hj⟩ := List.mem_iff_getElem?.1 hy
          have := k2 j y hj
          exact h2 y (List.mem_of_mem_drop (List.mem_of_getElem? this))
        | false =>
          rw [ha] at hz
          simp only [cond_false] at hz
          simp only [Bool.false_eq_true, if_false]
          exact ⟨load_run h3 (h4 o z hz), h2 z (List.mem_of_getElem? hz)⟩
      · cases hz
    · rename_i g o
      cases hop : h.M.X.op with
      | true =>
        rw [hop] at hz
        simp only [cond_true] at hz
        unfold loadA at hz
        split at hz
        · rename_i vs hvs
          obtain ⟨c, t', fz, hc, hle, hvs'⟩ := rd_some hvs
          have hlen := rd_len hvs
          have h3 := H.are g _ hc
          have key : ∀ j v, vs[j]? = some v → c[o + (0 + j)]? = some v := fun j v hj => by
            rw [hvs'] at hj
            have hj' : j < s.size := by
              have := (List.getElem?_eq_some_iff.1 hj).1
              simp at this; omega
            rw [List.getElem?_take_of_lt hj', List.getElem?_drop, Array.getElem?_toList] at hj
            rw [Nat.zero_add]; exact hj
          simp only [Instr.loadAt, SV.den, Instr.sureAddr, Sem.run_bind, Sem.run_pure, Result.andThen_ok, loadVar, r_isAgg w hs]
          cases ha : TypeDesc.isAgg s.und with
          | true =>
            rw [ha] at hz
            simp only [cond_true, Option.some.injEq] at hz
            subst hz
            simp only [if_true, Sem.run_bind, r_sizeOf w hs, Result.andThen_ok, loadCells]
            have := loadCells_run (P := P) (o := o) h3 vs 0 #[] key
            rw [hlen] at this
            rw [this]
            exact ⟨by simp [SV.den], trivial⟩
          | false =>
            rw [ha] at hz
            simp only [cond_false] at hz
            match vs, key, hz with
            | [v], key, hz =>
              injection hz with hz
              subst hz
              simp only [Bool.false_eq_true, if_false]
              exact ⟨load_run h3 (by have := key 0 v rfl; simpa [SV.den] using this), trivial⟩
        · cases hz
      | false =>
      rw [hop] at hz
      simp only [cond_false] at hz
      split at hz
      · rename_i cs hg
        obtain ⟨c, t', fz, hc, h4⟩ := h.M.glok g cs (globV_mem hg)
        have h3 := H.mem g _ hc
        unfold loadG at hz
        simp only [Instr.loadAt, SV.den, Instr.sureAddr, Sem.run_bind, Sem.run_pure, Result.andThen_ok, loadVar, r_isAgg w hs]
        cases ha : TypeDesc.isAgg s.und with
        | true =>
          rw [ha] at hz
          simp only [cond_true, Option.map_eq_some_iff] at hz
          obtain ⟨l, hl, rfl⟩ := hz
          obtain ⟨k1, k2⟩ := takeN_some hl
          have k3 : ∀ (j : Nat) (x : SV), l[j]? = some x → ∃ v, x = .v v ∧ cs[o + j]? = some v := fun j x hj => by
            have := k2 j x hj
            rw [List.getElem?_map, List.getElem?_drop] at this
            cases hv : cs[o + j]? with
            | none => rw [hv] at this; cases this
            | some v => rw [hv] at this; injection this with this; exact ⟨v, this.symm, rfl⟩
          simp only [if_true, Sem.run_bind, r_sizeOf w hs, Result.andThen_ok, loadCells]
          have := loadCells_run (P := P) (o := o) h3 (l.map (SV.den ρ)) 0 #[] (fun j v hj => by
            rw [List.getElem?_map] at hj
            cases hx : l[j]? with
            | none => rw [hx] at hj; cases hj
            | some x =>
              rw [hx] at hj
              injection hj with hj; subst hj
              obtain ⟨v, rfl, hv⟩ := k3 j x hx
              rw [Nat.zero_add]
              exact h4 (o + j) v hv)
          rw [List.length_map, k1] at this
          rw [this]
          refine ⟨by simp [SV.den, dens_eq], lts_iff.2 fun y hy => ?_⟩
          obtain ⟨j, hj⟩ := List.mem_iff_getElem?.1 hy
          obtain ⟨v, rfl, _⟩ := k3 j y hj
          trivial
        | false =>
          rw [ha] at hz
          simp only [cond_false, Option.map_eq_some_iff, nth_eq] at hz
          obtain ⟨v, hv, rfl⟩ := hz
          simp only [Bool.false_eq_true, if_false]
          exact ⟨load_run h3 (h4 o v hv), trivial⟩
      · cases hz
    · cases hz

/-! ### New blocks -/

def HS.new (h : HS) (B : SBlk) : HS := match h with
  | ⟨H, nx, M⟩ => ⟨H.set nx B, nx + 1, M⟩

theorem new_cells {ρ : Nat → Loc} {h : HS} {w : World} (H : HRel ρ h w) {cs : List SV} (hl : ∀ x ∈ cs, x.lt ρ h.nx) (c : Array Value) (hc : c = (cs.map (SV.den ρ)).toArray) (t : TypeId) :
    HRel (extend ρ h.nx ⟨w.heap.size, 0, 0⟩) (h.new (.cells cs 0 (t + 1))) { w with heap := w.heap.push (.cells c t) } := by
  refine H.alloc (o := .cells c t) (B := .cells cs 0 (t + 1)) (L := ⟨w.heap.size, 0, 0⟩) rfl hl fun w' hw' => ⟨c, t, (0, 0), hw', fun i x hi => ?_, by simp, .inl rfl, .inl rfl, .inr ⟨rfl, rfl, fun _ => by rw [hc]; simp⟩⟩
  subst hc
  simp [hi]

/-- Values without the address of a new block. -/
def plain? : SV → Option Value
  | .v x => some x
  | .str l => some (.string ⟨l.toArray⟩)
  | _ => none

def plains : List SV → Option (List Value)
  | [] => some []
  | x :: xs => match plain? x with
    | some v => match plains xs with
      | some vs => some (v :: vs)
      | none => none
    | none => none

theorem plain_den {x : SV} {v : Value} (h : plain? x = some v) (ρ : Nat → Loc) : x.den ρ = v := by
  unfold plain? at h
  split at h
  · injection h
  · injection h
  · cases h

theorem plains_den (ρ : Nat → Loc) : ∀ (l : List SV) (vs : List Value), plains l = some vs → l.map (SV.den ρ) = vs
  | [], vs, h => by injection h
  | x :: xs, vs, h => by
    simp only [plains] at h
    split at h
    · rename_i v hv
      split at h
      · rename_i us hus
        injection h with h; subst h
        rw [List.map_cons, plain_den hv ρ, plains_den ρ xs us hus]
      · cases h
    · cases h

/-- A new block of the arena. -/
structure Arena.New (A A' : Arena) (g : Nat) (c : Array Value) (t : TypeId) : Prop where
  none_ : A.blk g = none
  at_ : A'.blk g = some (.cells c t (0, 0))
  other : ∀ k, k ≠ g → A'.blk k = A.blk k

theorem arena_obj {ρ : Nat → Loc} {h : HS} {w : World} (H : HRel ρ h w) (o : Obj) (d : Nat) :
    ∃ A', h.M.A.blk w.heap.size = none ∧ A'.blk w.heap.size = some o ∧ (∀ k, k ≠ w.heap.size → A'.blk k = h.M.A.blk k) ∧ HRel ρ (h.put A') { w with drawn := d, heap := w.heap.push o } := by
  have hno : h.M.A.blk w.heap.size = none := by
    cases hA : h.M.A.blk w.heap.size with
    | none => rfl
    | some o => have := (Array.getElem?_eq_some_iff.1 (H.are _ _ hA)).1; omega
  have hold : ∀ k, k ≠ w.heap.size → (w.heap.push o)[k]? = w.heap[k]? := fun k hk => by
    rw [Array.getElem?_push, if_neg hk]
  refine ⟨Arena.of fun k => if k = w.heap.size then some o else h.M.A.blk k, hno, by simp [Arena.of], fun k hk => by simp [Arena.of, hk], H.arena (w' := { w with drawn := d, heap := w.heap.push o }) rfl rfl rfl (fun k _ hk => hold k (by omega)) (fun k o' hk => ?_) fun k o' hk => ?_⟩
  · simp only [Arena.of] at hk
    by_cases hkg : k = w.heap.size
    · subst hkg
      rw [if_pos rfl] at hk
      show (w.heap.push o)[w.heap.size]? = some o'
      rw [← hk]; simp
    · rw [if_neg hkg] at hk
      show (w.heap.push o)[k]? = some o'
      rw [hold k hkg]; exact H.are k o' hk
  · simp only [Arena.of] at hk
    by_cases hkg : k = w.heap.size
    · exact .inr (by omega)
    · rw [if_neg hkg] at hk; exact .inl ⟨_, hk⟩

theorem arena_new {ρ : Nat → Loc} {h : HS} {w : World} (H : HRel ρ h w) (c : Array Value) (t : TypeId) (d : Nat) :
    ∃ A', h.M.A.New A' w.heap.size c t ∧ HRel ρ (h.put A') { w with drawn := d, heap := w.heap.push (.cells c t) } := by
  obtain ⟨A', h1, h2, h3, h4⟩ := arena_obj H (.cells c t) d
  exact ⟨A', ⟨h1, h2, h3⟩, h4⟩

/-- A block of the arena is written anew. -/
theorem arena_set {ρ : Nat → Loc} {h : HS} {w : World} (H : HRel ρ h w) {g : Nat} {o0 : Obj} (hg : h.M.A.blk g = some o0) (o : Obj) :
    ∃ A', A'.blk g = some o ∧ (∀ k, k ≠ g → A'.blk k = h.M.A.blk k) ∧ HRel ρ (h.put A') { w with heap := w.heap.setIfInBounds g o } := by
  have h3 := H.are g _ hg
  have hold : ∀ k, k ≠ g → (w.heap.setIfInBounds g o)[k]? = w.heap[k]? := fun k hk => by
    rw [Array.getElem?_setIfInBounds_ne (Ne.symm hk)]
  refine ⟨Arena.of fun k => if k = g then some o else h.M.A.blk k, by simp [Arena.of], fun k hk => by simp [Arena.of, hk], H.arena (w' := { w with heap := w.heap.setIfInBounds g o }) rfl rfl rfl (fun k hk _ => hold k fun e => by subst e; rw [hg] at hk; cases hk) (fun k o' hk => ?_) fun k o' hk => ?_⟩
  · simp only [Arena.of] at hk
    by_cases hkg : k = g
    · subst hkg
      rw [if_pos rfl] at hk
      show (w.heap.setIfInBounds k o)[k]? = some o'
      rw [← hk, Array.getElem?_setIfInBounds_self, if_pos (Array.getElem?_eq_some_iff.1 h3).1]
    · rw [if_neg hkg] at hk
      show (w.heap.setIfInBounds g o)[k]? = some o'
      rw [hold k hkg]; exact H.are k o' hk
  · simp only [Arena.of] at hk
    by_cases hkg : k = g
    · subst hkg; exact .inl ⟨_, hg⟩
    · rw [if_neg hkg] at hk; exact .inl ⟨_, hk⟩

def allocV (P : Program) (h : HS) (t : TypeId) (K : SV → HS → Bool) : Bool :=
  match ty P t with
  | none => false
  | some s => bif h.M.X.al t then h.M.D (∀ g A', h.M.A.New A' g s.zero.cells t → K (.v (.pointer (some ⟨g, 0, none⟩))) (h.put A') = true)
    else K (.ptr h.nx 0) (h.new (.cells (s.zero.cells.toList.map .v) 0 (t + 1)))

def boxV (h : HS) (t : TypeId) (x : SV) (K : SV → HS → Bool) : Bool :=
  match x.cells with
  | none => false
  | some cs => bif h.M.X.al t then (match plains cs with
      | some vs => h.M.D (∀ g A', h.M.A.New A' g vs.toArray t → K (.v (.pointer (some ⟨g, 0, none⟩))) (h.put A') = true)
      | none => false)
    else K (.ptr h.nx 0) (h.new (.cells cs 0 (t + 1)))

/-- What an effect leaves: the value and the heap, as K has them. -/
def Post (ρ : Nat → Loc) (h : HS) (K : SV → HS → Bool) (v : Value) (w' : World) : Prop :=
  ∃ z h' ρ', K z h' ∧ v = z.den ρ' ∧ z.lt ρ' h'.nx ∧ HRel ρ' h' w' ∧ Ext ρ ρ' h.nx ∧ h.nx ≤ h'.nx ∧ h.M.le h'.M

theorem allocV_run {P : Program} {h : HS} {t : TypeId} {K : SV → HS → Bool} (hk : allocV P h t K) {ρ : Nat → Loc} {w : World} (H : HRel ρ h w) :
    ∃ v w', (Instr.alloc t true (.tuple #[])).run P w = .ok v w' ∧ Post ρ h K v w' := by
  unfold allocV at hk
  split at hk
  · exact absurd hk Bool.false_ne_true
  · rename_i s hs
    cases hal : h.M.X.al t with
    | true =>
      rw [hal] at hk
      have hk := (h.M.X.hD _).1 hk
      obtain ⟨A', k1, k2⟩ := arena_new H s.zero.cells t w.drawn
      refine ⟨.pointer (some ⟨w.heap.size, 0, none⟩), { w with heap := w.heap.push (.cells s.zero.cells t) }, ?_, _, _, ρ, hk _ A' k1, rfl, trivial, k2, Ext.refl _ _, Nat.le_refl _, Mem.put_le _ _⟩
      simp [Instr.alloc, r_zeroValue w hs, newVar, newRow]
    | false =>
    rw [hal] at hk
    simp only [cond_false] at hk
    refine ⟨.pointer (some ⟨w.heap.size, 0, none⟩), { w with heap := w.heap.push (.cells s.zero.cells t) }, ?_, _, _, extend ρ h.nx ⟨w.heap.size, 0, 0⟩, hk, ?_, Nat.lt_succ_self _,
      new_cells H (fun x hx => by obtain ⟨y, _, rfl⟩ := List.mem_map.1 hx; trivial) _ (by simp [Function.comp_def, SV.den]) t, extend_ext _ _ _, Nat.le_succ _, Mem.le_refl _⟩
    · simp [Instr.alloc, r_zeroValue w hs, newVar, newRow]
    · simp [SV.den, extend_same]

theorem boxV_run {P : Program} {h : HS} {t : TypeId} {x : SV} {K : SV → HS → Bool} (hk : boxV h t x K) {ρ : Nat → Loc} {w : World} (H : HRel ρ h w) (hx : x.lt ρ h.nx) :
    ∃ v w', (Instr.box t (x.den ρ)).run P w = .ok v w' ∧ Post ρ h K v w' := by
  unfold boxV at hk
  split at hk
  · exact absurd hk Bool.false_ne_true
  · rename_i cs hcs
    have hc := SV.cells_den (ρ := ρ) hcs
    cases hal : h.M.X.al t with
    | true =>
      rw [hal] at hk
      simp only [cond_true] at hk
      split at hk
      · rename_i vs hvs
        have hk := (h.M.X.hD _).1 hk
        have hvc : (x.den ρ).cells = vs.toArray := Array.toList_inj.1 (by rw [hc, plains_den ρ cs vs hvs])
        obtain ⟨A', k1, k2⟩ := arena_new H vs.toArray t w.drawn
        refine ⟨.pointer (some ⟨w.heap.size, 0, none⟩), { w with heap := w.heap.push (.cells vs.toArray t) }, ?_, _, _, ρ, hk _ A' k1, rfl, trivial, k2, Ext.refl _ _, Nat.le_refl _, Mem.put_le _ _⟩
        simp [Instr.box, newVar, newRow, hvc]
      · exact absurd hk Bool.false_ne_true
    | false =>
    rw [hal] at hk
    simp only [cond_false] at hk
    refine ⟨.pointer (some ⟨w.heap.size, 0, none⟩), { w with heap := w.heap.push (.cells (x.den ρ).cells t) }, ?_, _, _, extend ρ h.nx ⟨w.heap.size, 0, 0⟩, hk, ?_, Nat.lt_succ_self _,
      new_cells H (SV.cells_lt hcs hx) _ (Array.toList_inj.1 (by rw [hc])) t, extend_ext _ _ _, Nat.le_succ _, Mem.le_refl _⟩
    · simp [Instr.box, newVar, newRow]
    · simp [SV.den, extend_same]

/-! ### Stores -/

def overlayB (cs : List SV) (off : Nat) (vc : List SV) : Option (List SV) := bif Nat.ble (off + vc.length) cs.length then some (overlay cs off vc) else none

/-- Some cells of a block of the arena are written. -/
structure Arena.Put (A A' : Arena) (g o : Nat) (vs : List Value) : Prop where
  at_ : ∃ c t fz c', A.blk g = some (.cells c t fz) ∧ A'.blk g = some (.cells c' t fz) ∧ c'.toList = c.toList.take o ++ vs ++ c.toList.drop (o + vs.length)
  other : ∀ k, k ≠ g → A'.blk k = A.blk k

/-- There is room for them. -/
def Arena.Room (A : Arena) (g o n : Nat) : Prop := ∃ c t fz, A.blk g = some (.cells c t fz) ∧ o + n ≤ c.size ∧ Fz c.size fz

theorem arena_put {P : Program} {ρ : Nat → Loc} {h : HS} {w : World} (H : HRel ρ h w) {g o : Nat} {vs : List Value} (hr : h.M.A.Room g o vs.length) (hone : ∀ v ∈ vs, v.oneCell' = true) :
    ∃ w' A', (storeCells ⟨g, o, none⟩ vs).run P w = .ok () w' ∧ h.M.A.Put A' g o vs ∧ HRel ρ (h.put A') w' := by
  obtain ⟨c, t, fz, hb, hle, hfz⟩ := hr
  have h3 := H.are g _ hb
  obtain ⟨w', c', k1, k2, k3, k4⟩ := storeCells_run (P := P) (o := o) vs 0 w c h3 (by omega) hfz.not hone
  simp only [Nat.add_zero] at k3
  refine ⟨w', Arena.of fun k => if k = g then some (.cells c' t fz) else h.M.A.blk k, k1, ⟨⟨c, t, fz, c', hb, by simp [Arena.of], k3⟩, fun k hk => by simp [Arena.of, hk]⟩, H.arena k4.os k4.out k4.tape (fun k hk _ => k4.other k fun e => by subst e; rw [hb] at hk; cases hk) (fun k o hk => ?_) fun k o hk => ?_⟩
  · simp only [Arena.of] at hk
    by_cases hkg : k = g
    · subst hkg; rw [if_pos rfl] at hk; rw [k2]; exact hk
    · rw [if_neg hkg] at hk; rw [k4.other k hkg]; exact H.are k o hk
  · simp only [Arena.of] at hk
    by_cases hkg : k = g
    · subst hkg; exact .inl ⟨_, hb⟩
    · rw [if_neg hkg] at hk; exact .inl ⟨_, hk⟩

/-- A store into the arena. -/
def storeA (s : STy) (h : HS) (g o : Nat) (vc : List SV) (K : SV → HS → Bool) : Bool := match plains vc with
  | some vs => bif Nat.beq vc.length s.size && vc.all SV.one then h.M.D (h.M.A.Room g o vs.length ∧ ∀ A', h.M.A.Put A' g o vs → K (.v (.tuple #[])) (h.put A') = true) else false
  | none => false

def storeV (P : Program) (h : HS) (t : TypeId) (x v : SV) (K : SV → HS → Bool) : Bool :=
  match ty P t, x, v.cells with
  | some s, .v (.pointer (some ⟨g, o, none⟩)), some vc => storeA s h g o vc K
  | some s, .ptr b o, some vc => match h.H.get b with
    | some (.cells cs es τ) => bif Nat.beq vc.length s.size && vc.all SV.one then (match overlayB cs o vc with
      | some cs' => K (.v (.tuple #[])) { h with H := h.H.set b (.cells cs' es τ) }
      | none => false) else false
    | _ => false
  | _, _, _ => false

theorem getElem?_overlay {cs vc : List SV} {off i : Nat} (h : off + vc.length ≤ cs.length) : (overlay cs off vc)[i]? = if i < off then cs[i]? else if i < off + vc.length then vc[i - off]? else cs[i]? := by
  unfold overlay
  by_cases h1 : i < off
  · rw [if_pos h1, List.append_assoc, List.getElem?_append_left (by simp; omega), List.getElem?_take_of_lt h1]
  · rw [if_neg h1]
    by_cases h2 : i < off + vc.length
    · rw [if_pos h2, List.append_assoc, List.getElem?_append_right (by simp; omega), List.getElem?_append_left (by simp; omega)]
      congr 1; simp; omega
    · rw [if_neg h2, List.getElem?_append_right (by simp; omega), List.getElem?_drop]
      congr 1; simp; omega

/-- Writing into a window, in the world and in the symbolic heap. -/
theorem write_cells {P : Program} {ρ : Nat → Loc} {h : HS} {w : World} (H : HRel ρ h w) {b o es τ : Nat} {cs vc : List SV} (hb : h.H.get b = some (.cells cs es τ)) (hlen : o + vc.length ≤ cs.length)
    (hone : ∀ x ∈ vc, x.one = true) (hlt : ∀ x ∈ vc, x.lt ρ h.nx) :
    ∃ w', (storeCells ⟨(ρ b).blk, (ρ b).off + o, none⟩ (vc.map (SV.den ρ))).run P w = .ok () w' ∧ HRel ρ { h with H := h.H.set b (.cells (overlay cs o vc) es τ) } w' := by
  obtain ⟨_, h2, c, t', fz, h3, h4, h5, h7, h6⟩ := H.blk b _ hb
  have hsz : cs = [] ∨ (ρ b).off + cs.length ≤ c.size := by
    cases hcs : cs.reverse with
    | nil => exact .inl (List.reverse_eq_nil_iff.1 hcs)
    | cons y ys =>
      have : cs[cs.length - 1]? = some y := by
        have : cs = (y :: ys).reverse := by rw [← hcs, List.reverse_reverse]
        rw [this]; simp
      have := (Array.getElem?_eq_some_iff.1 (h4 _ y this)).1
      have hne : cs.length ≠ 0 := fun e => by rw [List.length_eq_zero_iff.1 e] at hcs; cases hcs
      exact .inr (by omega)
  by_cases hv : vc = []
  · subst hv
    refine ⟨w, rfl, ?_⟩
    have : overlay cs o [] = cs := by simp [overlay]
    rw [this]
    exact H.write hb h2 ⟨c, t', fz, h3, h4, h5, h7, h6⟩ (fun _ _ => rfl) rfl rfl rfl
  · have hvl : 0 < vc.length := List.length_pos_iff.2 hv
    have hsz' : (ρ b).off + cs.length ≤ c.size := hsz.resolve_left (fun e => by rw [e] at hlen; simp only [List.length_nil] at hlen; omega)
    obtain ⟨w', c', k1, k2, k3, k4⟩ := storeCells_run (P := P) (o := (ρ b).off + o) (vc.map (SV.den ρ)) 0 w c h3 (by simp; omega) h6.1.not (fun v hv => by
      obtain ⟨x, hx, rfl⟩ := List.mem_map.1 hv; exact SV.one_den (hone x hx))
    refine ⟨w', k1, H.write hb (B' := .cells (overlay cs o vc) es τ) (fun x hx => ?_) ⟨c', t', fz, k2, fun i x hi => ?_, ?_, ?_, ?_⟩ k4.other k4.os k4.out k4.tape⟩
    · simp only [overlay, List.mem_append] at hx
      rcases hx with (hx | hx) | hx
      · exact h2 x (List.mem_of_mem_take hx)
      · exact hlt x hx
      · exact h2 x (List.mem_of_mem_drop hx)
    · rw [getElem?_overlay hlen] at hi
      rw [← Array.getElem?_toList, k3]
      simp only [Nat.add_zero, List.length_map]
      have hcl : c.toList.length = c.size := Array.length_toList
      by_cases h1 : i < o
      · rw [if_pos h1] at hi
        rw [List.append_assoc, List.getElem?_append_left (by simp; omega), List.getElem?_take_of_lt (by omega), Array.getElem?_toList]
        exact h4 i x hi
      · rw [if_neg h1] at hi
        by_cases h2 : i < o + vc.length
        · rw [if_pos h2] at hi
          rw [List.append_assoc, List.getElem?_append_right (by simp; omega), List.getElem?_append_left (by simp; omega), List.getElem?_map]
          have : (ρ b).off + i - (List.take ((ρ b).off + o) c.toList).length = i - o := by simp; omega
          rw [this, hi]; rfl
        · rw [if_neg h2] at hi
          rw [List.getElem?_append_right (by simp; omega), List.getElem?_drop, Array.getElem?_toList]
          have : (ρ b).off + o + vc.length + ((ρ b).off + i - (List.take ((ρ b).off + o) c.toList ++ List.map (SV.den ρ) vc).length) = (ρ b).off + i := by simp; omega
          rw [this]; exact h4 i x hi
    · have : c'.size = c.size := by
        rw [← Array.length_toList, k3]; simp; omega
      rw [this]; exact h5
    · have : (overlay cs o vc).length = cs.length := by simp [overlay]; omega
      rw [this]; exact h7
    · have : c'.size = c.size := by
        rw [← Array.length_toList, k3]; simp; omega
      have hov : (overlay cs o vc).length = cs.length := by simp [overlay]; omega
      rw [this, hov]; exact h6

theorem storeV_run {P : Program} {h : HS} {t : TypeId} {x v : SV} {K : SV → HS → Bool} (hk : storeV P h t x v K) {ρ : Nat → Loc} {w : World} (H : HRel ρ h w) (hv : v.lt ρ h.nx) :
    ∃ w', (Instr.storeAt t (x.den ρ) (v.den ρ)).run P w = .ok () w' ∧ Post ρ h K (.tuple #[]) w' := by
  unfold storeV at hk
  split at hk
  · rename_i s g o vc hs hvc
    unfold storeA at hk
    split at hk
    · rename_i vs hvs
      cases hc : Nat.beq vc.length s.size && vc.all SV.one with
      | false => rw [hc] at hk; exact absurd hk Bool.false_ne_true
      | true =>
        rw [hc] at hk
        simp only [Bool.and_eq_true, List.all_eq_true] at hc
        have hlen := Nat.eq_of_beq_eq_true hc.1
        simp only [cond_true] at hk
        obtain ⟨hroom, hk⟩ := (h.M.X.hD _).1 hk
        have hd := SV.cells_den (ρ := ρ) hvc
        have hp := plains_den ρ vc vs hvs
        obtain ⟨w', A', k1, k2, k3⟩ := arena_put (P := P) H hroom (fun u hu => by
          rw [← hp] at hu
          obtain ⟨y, hy, rfl⟩ := List.mem_map.1 hu; exact SV.one_den (hc.2 y hy))
        have hsz : (v.den ρ).cells.size = s.size := by rw [← Array.length_toList, hd, List.length_map, hlen]
        refine ⟨w', ?_, _, _, ρ, hk A' k2, rfl, trivial, k3, Ext.refl _ _, Nat.le_refl _, Mem.put_le _ _⟩
        simp only [Instr.storeAt, SV.den, Instr.sureAddr, Sem.run_bind, Sem.run_pure, Result.andThen_ok, storeVar, r_sizeOf w hs, hsz, ne_eq, not_true_eq_false, if_false, hd, hp]
        exact k1
    · exact absurd hk Bool.false_ne_true
  · rename_i s b o vc hs hvc
    split at hk
    · rename_i cs es τ hb
      cases hc : Nat.beq vc.length s.size && vc.all SV.one with
      | false => rw [hc] at hk; exact absurd hk Bool.false_ne_true
      | true =>
        rw [hc] at hk
        simp only [Bool.and_eq_true, List.all_eq_true] at hc
        have hlen := Nat.eq_of_beq_eq_true hc.1
        simp only [cond_true] at hk
        split at hk
        · rename_i cs' hov
          unfold overlayB at hov
          cases hble : Nat.ble (o + vc.length) cs.length with
          | false => rw [hble] at hov; cases hov
          | true =>
            rw [hble] at hov
            injection hov with hov; subst hov
            have hd := SV.cells_den (ρ := ρ) hvc
            obtain ⟨w', k1, k2⟩ := write_cells (P := P) H hb (Nat.le_of_ble_eq_true hble) hc.2 (SV.cells_lt hvc hv)
            have hsz : (v.den ρ).cells.size = s.size := by rw [← Array.length_toList, hd, List.length_map, hlen]
            refine ⟨w', ?_, _, _, ρ, hk, rfl, trivial, k2, Ext.refl _ _, Nat.le_refl _, Mem.le_refl _⟩
            simp only [Instr.storeAt, SV.den, Instr.sureAddr, Sem.run_bind, Sem.run_pure, Result.andThen_ok, storeVar, r_sizeOf w hs, hsz, ne_eq, not_true_eq_false, if_false, hd]
            exact k1
        · exact absurd hk Bool.false_ne_true
    · exact absurd hk Bool.false_ne_true
  · exact absurd hk Bool.false_ne_true

end
end Go.Sx

namespace Go.Sx
noncomputable section

/-! ### Rows of cells that a call makes -/

def repCells (zc : List SV) : Nat → List SV
  | 0 => []
  | n + 1 => zc ++ repCells zc n

theorem repCells_length (zc : List SV) : ∀ n, (repCells zc n).length = n * zc.length
  | 0 => by simp [repCells]
  | n + 1 => by simp [repCells, repCells_length zc n, Nat.add_mul]; omega

theorem rangeMap_rep {α : Type} [Inhabited α] (z : Array α) (n : Nat) : ((Array.range (n * z.size)).map (z[· % z.size]!)).toList = (List.replicate n z.toList).flatten := by
  apply List.ext_getElem?
  intro i
  simp only [Array.toList_map, Array.toList_range, List.getElem?_map]
  by_cases hi : i < n * z.size
  · have hz : 0 < z.size := by
      rcases Nat.eq_zero_or_pos z.size with h | h
      · rw [h] at hi; simp at hi
      · exact h
    rw [List.getElem?_range hi]
    have key : ∀ (n i : Nat), i < n * z.size → ((List.replicate n z.toList).flatten)[i]? = some (z[i % z.size]!) := by
      intro n
      induction n with
      | zero => intro i h; simp at h
      | succ n ih =>
        intro i h
        rw [List.replicate_succ, List.flatten_cons]
        by_cases hlt : i < z.size
        · rw [List.getElem?_append_left (by simpa using hlt), Nat.mod_eq_of_lt hlt]
          simp [hlt]
        · rw [List.getElem?_append_right (by simp; omega), Array.length_toList]
          have : i - z.size < n * z.size := by rw [Nat.add_mul] at h; omega
          rw [ih _ this]
          congr 2
          exact (Nat.mod_eq_sub_mod (by omega)).symm
    rw [key n i hi]; rfl
  · rw [List.getElem?_eq_none (by simpa using hi), List.getElem?_eq_none (by
      simp only [List.length_flatten, List.map_replicate, List.sum_replicate_nat, Array.length_toList]; omega)]
    rfl

theorem repCells_den (ρ : Nat → Loc) (z : Array Value) : ∀ n, (repCells (z.toList.map .v) n).map (SV.den ρ) = (List.replicate n z.toList).flatten
  | 0 => rfl
  | n + 1 => by
    rw [repCells, List.map_append, repCells_den ρ z n, List.replicate_succ, List.flatten_cons]
    simp [Function.comp_def, SV.den]

theorem repCells_lt {ρ : Nat → Loc} {m : Nat} (z : Array Value) : ∀ n, ∀ y ∈ repCells (z.toList.map .v) n, y.lt ρ m
  | 0, y, h => by simp [repCells] at h
  | n + 1, y, h => by
    simp only [repCells, List.mem_append] at h
    rcases h with h | h
    · obtain ⟨x, _, rfl⟩ := List.mem_map.1 h; trivial
    · exact repCells_lt z n y h

/-- A row that is made in the arena. -/
def makeA (h : HS) (e : TypeId) (se : STy) (li ci : Int) (K : SV → HS → Bool) : Bool :=
  h.M.D (0 ≤ li ∧ li ≤ ci ∧ ci ≤ 9223372036854775807 ∧ se.bytes * ci.toNat ≤ 281474976710656 ∧ se.zero.cells.size = se.size ∧
    ∀ (g : Nat) (A' : Arena) (c : Array Value), c.toList = (List.replicate ci.toNat se.zero.cells.toList).flatten → h.M.A.New A' g c e → K (.v (.slice (some ⟨g, 0, none⟩) li.toNat ci.toNat)) (h.put A') = true)

def makeV (P : Program) (h : HS) (t : TypeId) (l c : SV) (K : SV → HS → Bool) : Bool :=
  match ty P t, l.int?, c.int? with
  | some s, some (_, li), some (_, ci) => match s.und with
    | .slice e => match ty P e with
      | some se => bif h.M.X.op then makeA h e se li ci K else
        let n := ci.toNat
        bif decide (0 ≤ li) && decide (li ≤ ci) && decide (ci ≤ 9223372036854775807) && Nat.ble (se.bytes * n) 281474976710656 && Nat.beq se.zero.cells.size se.size then
          K (.slc h.nx 0 li.toNat (.lit n)) (h.new (.cells (repCells (se.zero.cells.toList.map .v) n) 0 (e + 1)))
        else false
      | none => false
    | _ => false
  | _, _, _ => false

theorem wrap_i64 {n : Int} (h0 : 0 ≤ n) (h1 : n ≤ 9223372036854775807) : IntKind.i64.wrap n = n := by
  simp only [IntKind.wrap, IntKind.bits, IntKind.signed]
  simp
  omega

theorem makeV_run {P : Program} {h : HS} {t : TypeId} {l c : SV} {K : SV → HS → Bool} (hk : makeV P h t l c K) {ρ : Nat → Loc} {w : World} (H : HRel ρ h w) :
    ∃ v w', (Instr.makeSlice t (l.den ρ) (c.den ρ)).run P w = .ok v w' ∧ Post ρ h K v w' := by
  unfold makeV at hk
  split at hk
  · rename_i s k li k' ci hs hl hc
    split at hk
    · rename_i e hd
      split at hk
      · rename_i se hse
        cases hop : h.M.X.op with
        | true =>
          rw [hop] at hk
          simp only [cond_true] at hk
          obtain ⟨h0, h1, h2, h3, h4, hk⟩ := (h.M.X.hD _).1 hk
          obtain ⟨i, hi, hi1, hi2, hi3⟩ := r_typeInfo w hse
          have hbytes : ¬ ((se.bytes : Int) * ci > 2 ^ 48) := by
            have : ((se.bytes * ci.toNat : Nat) : Int) = (se.bytes : Int) * ci := by
              rw [Int.natCast_mul, Int.toNat_of_nonneg (by omega)]
            have h5 : (2 ^ 48 : Int) = 281474976710656 := by decide
            rw [h5]; omega
          have hbytesl : ¬ ((se.bytes : Int) * li > 2 ^ 48) := by
            have : (se.bytes : Int) * li ≤ (se.bytes : Int) * ci := Int.mul_le_mul_of_nonneg_left h1 (Int.natCast_nonneg _)
            omega
          have hcells : ((Array.range (ci.toNat * se.size)).map ((if ci.toNat * se.size = 0 then #[] else se.zero.cells)[· % (if ci.toNat * se.size = 0 then #[] else se.zero.cells).size]!)).toList = (List.replicate ci.toNat se.zero.cells.toList).flatten := by
            rw [← rangeMap_rep, h4]
            by_cases hz : ci.toNat * se.size = 0
            · simp [hz]
            · rw [if_neg hz]; simp [h4]
          obtain ⟨A', k1, k2⟩ := arena_new H ((Array.range (ci.toNat * se.size)).map ((if ci.toNat * se.size = 0 then #[] else se.zero.cells)[· % (if ci.toNat * se.size = 0 then #[] else se.zero.cells).size]!)) e w.drawn
          refine ⟨.slice (some ⟨w.heap.size, 0, none⟩) li.toNat ci.toNat, _, ?_, _, _, ρ, hk _ A' _ hcells k1, rfl, trivial, k2, Ext.refl _ _, Nat.le_refl _, Mem.put_le _ _⟩
          simp only [Instr.makeSlice, Sem.run_bind, r_underlying w hs, Result.andThen_ok, hd, SV.int?_den hl, SV.int?_den hc, asInt, asIntOf, Sem.run_pure, hi, hi2, wrap_i64 h0 (by omega), wrap_i64 (show 0 ≤ ci by omega) h2]
          rw [if_neg (by
            simp only [Bool.or_eq_true, decide_eq_true_eq, not_or]
            refine ⟨⟨⟨by omega, by simpa using hbytes⟩, by omega⟩, by omega⟩)]
          simp only [Sem.run_bind, run_askRoom, Result.andThen_ok, r_sizeOf w hse]
          by_cases hz : ci.toNat * se.size = 0
          · simp only [hz, if_true, Sem.run_bind, Sem.run_pure, Result.andThen_ok, newRow, run_newObj]
          · simp only [hz, if_false, Sem.run_bind, Sem.run_pure, Result.andThen_ok, r_zeroValue w hse, newRow, run_newObj]
        | false =>
        rw [hop] at hk
        simp only [cond_false] at hk
        cases hb : decide (0 ≤ li) && decide (li ≤ ci) && decide (ci ≤ 9223372036854775807) && Nat.ble (se.bytes * ci.toNat) 281474976710656 && Nat.beq se.zero.cells.size se.size with
        | false => rw [hb] at hk; exact absurd hk Bool.false_ne_true
        | true =>
          rw [hb] at hk
          simp only [Bool.and_eq_true, decide_eq_true_eq] at hb
          obtain ⟨⟨⟨⟨h0, h1⟩, h2⟩, h3⟩, h4⟩ := hb
          have h3 := Nat.le_of_ble_eq_true h3
          have h4 := Nat.eq_of_beq_eq_true h4
          obtain ⟨i, hi, hi1, hi2, hi3⟩ := r_typeInfo w hse
          have hbytes : ¬ ((se.bytes : Int) * ci > 2 ^ 48) := by
            have : ((se.bytes * ci.toNat : Nat) : Int) = (se.bytes : Int) * ci := by
              rw [Int.natCast_mul, Int.toNat_of_nonneg (by omega)]
            have h5 : (2 ^ 48 : Int) = 281474976710656 := by decide
            rw [h5]; omega
          have hbytesl : ¬ ((se.bytes : Int) * li > 2 ^ 48) := by
            have : (se.bytes : Int) * li ≤ (se.bytes : Int) * ci := Int.mul_le_mul_of_nonneg_left h1 (Int.natCast_nonneg _)
            omega
          have hcells : ((Array.range (ci.toNat * se.size)).map ((if ci.toNat * se.size = 0 then #[] else se.zero.cells)[· % (if ci.toNat * se.size = 0 then #[] else se.zero.cells).size]!)) = ((repCells (se.zero.cells.toList.map .v) ci.toNat).map (SV.den ρ)).toArray := by
            apply Array.toList_inj.1
            rw [repCells_den, ← rangeMap_rep, h4]
            by_cases hz : ci.toNat * se.size = 0
            · simp [hz]
            · rw [if_neg hz]; simp [h4]
          refine ⟨.slice (some ⟨w.heap.size, 0, none⟩) li.toNat ci.toNat, { w with heap := w.heap.push (.cells ((repCells (se.zero.cells.toList.map .v) ci.toNat).map (SV.den ρ)).toArray e) }, ?_, _, _, extend ρ h.nx ⟨w.heap.size, 0, 0⟩, hk, ?_, ⟨Nat.lt_succ_self _, trivial, ?_⟩,
            new_cells H (repCells_lt _ _) _ rfl e, extend_ext _ _ _, Nat.le_succ _, Mem.le_refl _⟩
          · simp only [Instr.makeSlice, Sem.run_bind, r_underlying w hs, Result.andThen_ok, hd, SV.int?_den hl, SV.int?_den hc, asInt, asIntOf, Sem.run_pure, hi, hi2, wrap_i64 h0 (by omega), wrap_i64 (show 0 ≤ ci by omega) h2]
            rw [if_neg (by
              simp only [Bool.or_eq_true, decide_eq_true_eq, not_or]
              refine ⟨⟨⟨by omega, by simpa using hbytes⟩, by omega⟩, by omega⟩)]
            simp only [Sem.run_bind, run_askRoom, Result.andThen_ok, r_sizeOf w hse]
            by_cases hz : ci.toNat * se.size = 0
            · simp only [hz, if_true] at hcells
              simp only [hz, if_true, Sem.run_bind, Sem.run_pure, Result.andThen_ok, newRow, run_newObj, hcells]
            · simp only [hz, if_false] at hcells
              simp only [hz, if_false, Sem.run_bind, Sem.run_pure, Result.andThen_ok, r_zeroValue w hse, newRow, run_newObj, hcells]
          · simp [SV.den, extend_same, SCap.den]
          · simp only [SCap.den]; omega
      · exact absurd hk Bool.false_ne_true
    · exact absurd hk Bool.false_ne_true
  · exact absurd hk Bool.false_ne_true

/-! ### append -/

def bytesSV (l : List UInt8) : List SV := l.map fun b => .v (.int .u8 b.toNat)

/-- The cells that an append or a copy reads: of the first n elements of a source. -/
def srcCells (h : HS) (size n : Nat) (x : SV) : Option (List SV) :=
  match x with
  | .slc b o _ _ => match h.H.get b with
    | some (.cells cs _ _) => takeN (n * size) (cs.drop o)
    | _ => none
  | .v (.slice none _ _) => bif Nat.beq n 0 then some [] else none
  | x => match x.str? with
    | some l => bif Nat.beq size 1 then some (bytesSV (l.take n)) else none
    | none => none

def lenS (x : SV) : Option Nat :=
  match x with
  | .slc _ _ l _ => some l
  | .v (.slice _ l _) => some l
  | x => x.str?.map List.length

theorem lenS_run {P : Program} {x : SV} {n : Nat} (h : lenS x = some n) (ρ : Nat → Loc) (w : World) : (Builtin.lenOf (x.den ρ)).run P w = .ok n w := by
  unfold lenS at h
  split at h
  · injection h with h; subst h; rfl
  · injection h with h; subst h; rfl
  · simp only [Option.map_eq_some_iff] at h
    obtain ⟨l, hl, rfl⟩ := h
    rw [SV.str?_den hl]
    have hsz : (⟨l.toArray⟩ : ByteArray).size = l.length := by show l.toArray.size = _; simp
    simp [Builtin.lenOf, hsz]

theorem srcCells_run {P : Program} {h : HS} {size n : Nat} {x : SV} {cs : List SV} (hx : srcCells h size n x = some cs) {ρ : Nat → Loc} {w : World} (H : HRel ρ h w) :
    (Builtin.firstCells size n (x.den ρ)).run P w = .ok (cs.map (SV.den ρ)).toArray w ∧ cs.length = n * size ∨ (∃ l, x.str? = some l ∧ cs = bytesSV (l.take n) ∧ size = 1 ∧
      (Builtin.firstCells size n (x.den ρ)).run P w = .ok (cs.map (SV.den ρ)).toArray w) := by
  unfold srcCells at hx
  split at hx
  · rename_i b o l c
    left
    split at hx
    · rename_i cs0 es hb
      obtain ⟨_, h2, c', t', fz, h3, h4, h5, h7, h6⟩ := H.blk b _ hb
      obtain ⟨k1, k2⟩ := takeN_some hx
      refine ⟨?_, k1⟩
      have := loadCells_run (P := P) (o := (ρ b).off + o) h3 (cs.map (SV.den ρ)) 0 #[] (fun j v hj => by
        rw [List.getElem?_map] at hj
        cases hy : cs[j]? with
        | none => rw [hy] at hj; cases hj
        | some y =>
          rw [hy] at hj
          injection hj with hj; subst hj
          have := k2 j y hy
          rw [List.getElem?_drop] at this
          rw [Nat.zero_add, Nat.add_assoc]
          exact h4 (o + j) y this)
      rw [List.length_map, k1] at this
      simp only [Builtin.firstCells, SV.den, loadCells]
      rw [this]; simp
    · cases hx
  · rename_i l c
    left
    cases hn : Nat.beq n 0 with
    | false => rw [hn] at hx; cases hx
    | true =>
      rw [hn] at hx
      injection hx with hx; subst hx
      have := Nat.eq_of_beq_eq_true hn
      subst this
      exact ⟨rfl, by simp⟩
  · right
    split at hx
    · rename_i l hl
      cases h1 : Nat.beq size 1 with
      | false => rw [h1] at hx; cases hx
      | true =>
        rw [h1] at hx
        injection hx with hx; subst hx
        refine ⟨l, hl, rfl, Nat.eq_of_beq_eq_true h1, ?_⟩
        rw [SV.str?_den hl]
        simp only [Builtin.firstCells, extract_list, List.drop_zero, Nat.sub_zero, Sem.run_pure]
        congr 1
        apply Array.toList_inj.1
        simp [bytesSV, SV.den, Function.comp_def]
    · cases hx

theorem srcCells_lt {h : HS} {size n : Nat} {x : SV} {cs : List SV} (hx : srcCells h size n x = some cs) {ρ : Nat → Loc} {w : World} (H : HRel ρ h w) : ∀ y ∈ cs, y.lt ρ h.nx := by
  unfold srcCells at hx
  split at hx
  · split at hx
    · rename_i cs0 es hb
      obtain ⟨k1, k2⟩ := takeN_some hx
      intro y hy
      obtain ⟨j, hj⟩ := List.mem_iff_getElem?.1 hy
      exact (H.blk _ _ hb).2.1 y (List.mem_of_mem_drop (List.mem_of_getElem? (k2 j y hj)))
    · cases hx
  · cases hn : Nat.beq n 0 with
    | false => rw [hn] at hx; cases hx
    | true => rw [hn] at hx; injection hx with hx; subst hx; simp
  · split at hx
    · cases h1 : Nat.beq size 1 with
      | false => rw [h1] at hx; cases hx
      | true =>
        rw [h1] at hx
        injection hx with hx; subst hx
        intro y hy
        obtain ⟨b, _, rfl⟩ := List.mem_map.1 hy
        trivial
    · cases hx

theorem growBy_le (m : Nat) : ∀ (r c : Nat), c < m → Builtin.growBy m r c ≤ m + (m + 768) / 4 := by
  intro r
  induction r with
  | zero => intro c h; simp only [Builtin.growBy]; omega
  | succ r ih =>
    intro c h
    simp only [Builtin.growBy]
    rw [if_neg (by omega)]
    by_cases h2 : c + (c + 768) / 4 < m
    · exact ih _ h2
    · cases r with
      | zero => simp only [Builtin.growBy]; omega
      | succ r => simp only [Builtin.growBy]; rw [if_pos (by omega)]; omega

theorem nextcap_le {m c : Nat} (h : c < m) : Builtin.nextslicecap m c ≤ 2 * m + 768 := by
  unfold Builtin.nextslicecap
  split
  · omega
  · split
    · omega
    · have := growBy_le m 4 c h; omega

theorem nextcap_ge {m c : Nat} : Builtin.nextslicecap m c * 1 ≤ Builtin.nextslicecap m c := by omega

/-- The new row of an append that grows: the cells, and where they lie. -/
theorem grow_run {h : HS} {e : TypeId} {se : STy} {τ : Nat} (hτ : τ = 0 ∨ (τ = e + 1 ∧ se.size ≠ 0)) (hz : se.zero.cells.size = se.size) {ρ : Nat → Loc} {w : World} (H : HRel ρ h w) {cs : List SV} (hlt : ∀ x ∈ cs, x.lt ρ h.nx)
    {need newCap : Nat} (hcs : cs.length = need * se.size) (hcap : need ≤ newCap) :
    HRel (extend ρ h.nx ⟨w.heap.size, 0, newCap⟩) (h.new (.cells cs se.size τ)) { w with heap := w.heap.push (.cells ((cs.map (SV.den ρ)).toArray ++ Builtin.zeroCells se.zero.cells (newCap - need)) e) } := by
  refine H.alloc (o := .cells ((cs.map (SV.den ρ)).toArray ++ Builtin.zeroCells se.zero.cells (newCap - need)) e) (B := .cells cs se.size τ) (L := ⟨w.heap.size, 0, newCap⟩) rfl hlt fun w' hw' => ⟨_, e, (0, 0), hw', fun i x hi => ?_, ?_, .inr ?_, ⟨.inl rfl, hτ.imp id fun h => ⟨h.1, rfl, fun h0 => absurd h0 h.2⟩⟩⟩
  · have hlt' := (List.getElem?_eq_some_iff.1 hi).1
    rw [Nat.zero_add, Array.getElem?_append_left (by simpa using hlt')]
    simp [hi]
  · simp only [Array.size_append, Builtin.zeroCells, Array.size_map, Array.size_range, List.size_toArray, List.length_map, hcs, hz]
    rw [← Nat.add_mul]
    have : need + (newCap - need) = newCap := by omega
    rw [this]; omega
  · rw [hcs]; exact Nat.mul_le_mul_right _ hcap

/-- A new row's type. -/
def tyG (s e : Nat) : Nat := bif Nat.beq s 0 then 0 else e + 1

theorem tyG_own (s e : Nat) : tyG s e = 0 ∨ (tyG s e = e + 1 ∧ s ≠ 0) := by
  unfold tyG
  cases hb : Nat.beq s 0 with
  | true => exact .inl rfl
  | false => exact .inr ⟨rfl, fun e => by rw [e] at hb; cases hb⟩

/-- A row's type, where it is the one that is looked for, and the slice begins where the row does. -/
def tyOf (τ o s e : Nat) : Nat := bif Nat.beq τ (e + 1) && Nat.beq o 0 then tyG s e else 0

theorem tyOf_own (τ o s e : Nat) : tyOf τ o s e = 0 ∨ (tyOf τ o s e = e + 1 ∧ s ≠ 0) := by
  unfold tyOf
  cases Nat.beq τ (e + 1) && Nat.beq o 0 with
  | true => exact tyG_own s e
  | false => exact .inl rfl

theorem tyOf_old {τ o s e t off n len n' len' : Nat} (h : Whole τ s off n len t) : Whole (tyOf τ o s e) s (off + o) n' len' t := by
  unfold tyOf
  cases hb : Nat.beq τ (e + 1) && Nat.beq o 0 with
  | false => exact .inl rfl
  | true =>
    simp only [Bool.and_eq_true] at hb
    have h1 := Nat.eq_of_beq_eq_true hb.1
    have h2 := Nat.eq_of_beq_eq_true hb.2
    rcases h with h | ⟨h, h3, _⟩
    · omega
    · rcases tyG_own s e with h4 | ⟨h4, h5⟩
      · exact .inl h4
      · right
        refine ⟨?_, by omega, fun h0 => absurd h0 h5⟩
        show tyG s e = t + 1
        omega

def growV (h : HS) (τ : Nat) (se : STy) (cs : List SV) (need : Nat) (K : SV → HS → Bool) : Bool :=
  bif Nat.beq se.zero.cells.size se.size && Nat.beq cs.length (need * se.size) && Nat.ble ((2 * need + 768) * se.bytes) 281474976710656 then
    K (.slc h.nx 0 need (.sub h.nx 0)) (h.new (.cells cs se.size τ))
  else false

/-- 'append(s, x...)'. -/
def appendV (P : Program) (h : HS) (ts : List TypeId) (s x : SV) (K : SV → HS → Bool) : Bool :=
  match ts with
  | [st, xt] => match ty P st, ty P xt with
    | some ss, some sx => match ss.und, (match sx.und with | .int _ => true | _ => false) with
      | .slice e, false => match ty P e, lenS x with
        | some se, some n => match srcCells h se.size n x with
          | none => false
          | some nc => bif !(Nat.beq nc.length (n * se.size)) || !(nc.all SV.one) then false else
            match s with
            | .v (.slice none 0 0) => bif Nat.beq n 0 then K (.v (.slice none 0 0)) h else growV h (tyG se.size e) se nc n K
            | .slc b o l (.lit cap) =>
              bif Nat.ble (l + n) cap then
                (match h.H.get b with
                | some (.cells cs es τ) => match overlayB cs (o + l * se.size) nc with
                  | some cs' => K (.slc b o (l + n) (.lit cap)) { h with H := h.H.set b (.cells cs' es τ) }
                  | none => false
                | _ => false)
              else (match srcCells h se.size l s with
                | some old => growV h (tyG se.size e) se (old ++ nc) (l + n) K
                | none => false)
            | .slc b o l (.sub b' d) =>
              bif !(Nat.beq b b') || !(Nat.beq o (d * se.size)) || Nat.beq se.size 0 then false else
              bif Nat.beq n 0 then K (.slc b o l (.sub b' d)) h else
              match h.H.get b with
              | some (.cells cs es τ) =>
                bif !(Nat.beq es se.size) then false else
                bif Nat.ble ((d + l + n) * se.size) cs.length then
                  (match overlayB cs (o + l * se.size) nc with
                  | some cs' => K (.slc b o (l + n) (.sub b' d)) { h with H := h.H.set b (.cells cs' es τ) }
                  | none => false)
                else bif Nat.beq cs.length ((d + l) * se.size) then
                  growV { h with H := h.H.del b } (tyOf τ o se.size e) se (cs.drop o ++ nc) (l + n) K
                else false
              | _ => false
            | _ => false
        | _, _ => false
      | _, _ => false
    | _, _ => false
  | _ => false

end
end Go.Sx
