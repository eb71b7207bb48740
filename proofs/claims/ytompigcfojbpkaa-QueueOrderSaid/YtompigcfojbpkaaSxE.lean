/-
  The symbolic executor: slices of slices, aggregates, builtins; all that looks at the slots alone, in one function.
-/
import Derived.Test.YtompigcfojbpkaaSxD
namespace Go.Sx
noncomputable section

/-! ### Bounds of a slice expression -/

def bnd (dflt : Nat) : Option SV → Option Int
  | none => some dflt
  | some x => x.int?.map (·.2)

theorem sliceBound_run {P : Program} {k : IntKind} {n : Int} {y : Nat} (h0 : 0 ≤ n) (h1 : n ≤ y) (c : BoundsCode) (w : World) : (Instr.sliceBound (.int k n) y c).run P w = .ok n.toNat w := by
  simp [Instr.sliceBound, asIntOf, h0, h1]

/-- The bounds l, h, m of a slice expression. -/
def bounds (len cap : Nat) (lo hi mx : Option SV) : Option (Bool × Nat × Nat × Nat) :=
  match mx with
  | none => match bnd 0 lo, bnd len hi with
    | some l, some h => some (decide (0 ≤ l) && decide (l ≤ h) && (hi.isNone || decide (h ≤ cap)), l.toNat, h.toNat, cap)
    | _, _ => none
  | some m => match bnd 0 lo, hi, m.int? with
    | some l, some hv, some (_, m) => match hv.int? with
      | some (_, h) => some (decide (0 ≤ l) && decide (l ≤ h) && decide (h ≤ m) && decide (m ≤ cap), l.toNat, h.toNat, m.toNat)
      | none => none
    | _, _, _ => none

theorem bounds_run {P : Program} {len cap : Nat} {lo hi mx : Option SV} {r : Bool} {l h m : Nat} (hb : bounds len cap lo hi mx = some (r, l, h, m)) (hr : r = true) (ρ : Nat → Loc) (w : World) (b : Bool) :
    (Instr.sliceBounds b len cap (lo.map (SV.den ρ)) (hi.map (SV.den ρ)) (mx.map (SV.den ρ))).run P w = .ok (l, h, m) w ∧ l ≤ h ∧ (hi.isSome = true → h ≤ m) ∧ (mx = none → m = cap) ∧ (mx.isSome = true → m ≤ cap) ∧ (hi = none → h = len) := by
  subst hr
  unfold bounds at hb
  split at hb
  · split at hb
    · rename_i li hv hl hh
      injection hb with hb; injection hb with h1 hb; injection hb with h2 hb; injection hb with h3 h4
      subst h2; subst h3; subst h4
      simp only [Bool.and_eq_true, decide_eq_true_eq, Bool.or_eq_true, Option.isNone_iff_eq_none] at h1
      obtain ⟨⟨h0, hle⟩, hcap⟩ := h1
      refine ⟨?_, by omega, ?_, fun _ => rfl, by simp, ?_⟩
      · cases hi with
        | none =>
          simp only [bnd, Option.some.injEq] at hh
          subst hh
          cases lo with
          | none =>
            simp only [bnd, Option.some.injEq] at hl; subst hl
            rfl
          | some x =>
            simp only [bnd, Option.map_eq_some_iff] at hl
            obtain ⟨⟨k, n⟩, hx, rfl⟩ := hl
            simp only [Instr.sliceBounds, Option.map_none, Option.map_some, SV.int?_den hx, Sem.run_bind, Sem.run_pure, Result.andThen_ok, Option.isSome_none, Bool.false_eq_true, if_false]
            rw [sliceBound_run h0 hle]
            simp
        | some x =>
          simp only [bnd, Option.map_eq_some_iff] at hh
          obtain ⟨⟨k, n⟩, hx, rfl⟩ := hh
          have hcap' : n ≤ cap := hcap.resolve_left (by simp)
          have hle' : li ≤ n := hle
          cases lo with
          | none =>
            simp only [bnd, Option.some.injEq] at hl; subst hl
            simp only [Instr.sliceBounds, Option.map_some, Option.map_none, SV.int?_den hx, Sem.run_bind, Sem.run_pure, Result.andThen_ok]
            rw [sliceBound_run (by omega) hcap']
            rfl
          | some xl =>
            simp only [bnd, Option.map_eq_some_iff] at hl
            obtain ⟨⟨k', n'⟩, hxl, rfl⟩ := hl
            have h0' : 0 ≤ n' := h0
            have hle'' : n' ≤ n := hle
            simp only [Instr.sliceBounds, Option.map_some, Option.map_none, SV.int?_den hx, SV.int?_den hxl, Sem.run_bind, Sem.run_pure, Result.andThen_ok, Option.isSome_none, Bool.false_eq_true, if_false]
            rw [sliceBound_run (by omega) hcap']
            simp only [Result.andThen_ok]
            rw [sliceBound_run h0' (by omega)]
            rfl
      · intro hs
        have := hcap.resolve_left (fun e => by rw [e] at hs; cases hs)
        omega
      · intro e
        subst e
        simp only [bnd, Option.some.injEq] at hh
        subst hh; simp
    · cases hb
  · rename_i mv
    split at hb
    · rename_i li hv k m' hl hh
      split at hb
      · rename_i k2 hn hhv
        injection hb with hb; injection hb with h1 hb; injection hb with h2 hb; injection hb with h3 h4
        subst h2; subst h3; subst h4
        simp only [Bool.and_eq_true, decide_eq_true_eq] at h1
        obtain ⟨⟨⟨h0, hle⟩, hm⟩, hc⟩ := h1
        refine ⟨?_, by omega, fun _ => by omega, fun e => (by cases e), fun _ => by omega, fun e => (by cases e)⟩
        simp only [Instr.sliceBounds, Option.map_some, SV.int?_den hh, SV.int?_den hhv, Sem.run_bind]
        rw [sliceBound_run (by omega) hc]
        simp only [Result.andThen_ok]
        rw [sliceBound_run (by omega) (by omega)]
        simp only [Result.andThen_ok]
        cases lo with
        | none => simp only [bnd, Option.some.injEq] at hl; subst hl; rfl
        | some x =>
          simp only [bnd, Option.map_eq_some_iff] at hl
          obtain ⟨⟨k, n⟩, hx, rfl⟩ := hl
          have h0' : 0 ≤ n := h0
          have hle' : n ≤ hn := hle
          simp only [Option.map_some, SV.int?_den hx, Option.isSome_some, if_true, Sem.run_bind]
          rw [sliceBound_run h0' (by omega)]
          rfl
      · cases hb
    · cases hb

def sliceV (P : Program) (t : TypeId) (x : SV) (lo hi mx : Option SV) : Option (Bool × SV) :=
  match ty P t with
  | none => none
  | some s =>
    match s.und with
    | .string => match x.str?, mx with
      | some str, none => match bounds str.length str.length lo hi none with
        | some (r, l, h, _) => some (r, .str ((str.drop l).take (h - l)))
        | none => none
      | _, _ => none
    | .slice e => match ty P e with
      | none => none
      | some se => match x with
        | .slc b o len (.lit cap) => match bounds len cap lo hi mx with
          | some (r, l, h, m) => some (r, .slc b (o + bif Nat.beq m l then 0 else l * se.size) (h - l) (.lit (m - l)))
          | none => none
        | .slc b o len (.sub b' d) => match bounds len len lo hi mx with
          | some (r, l, h, m) => match mx with
            | none => some (r && (Nat.beq l 0 || Nat.blt l h), .slc b (o + l * se.size) (h - l) (.sub b' (d + l)))
            | some _ => some (r, .slc b (o + bif Nat.beq m l then 0 else l * se.size) (h - l) (.lit (m - l)))
          | none => none
        | .v (.slice (some ⟨b, o, none⟩) len cap) => match bounds len cap lo hi mx with
          | some (r, l, h, m) => some (r, .v (.slice (some ⟨b, o + bif Nat.beq m l then 0 else l * se.size, none⟩) (h - l) (m - l)))
          | none => none
        | .v (.slice a len cap) => match bounds len cap lo hi mx with
          | some (r, l, h, m) => some (r, .v (sliced a l h m se.size))
          | none => none
        | _ => none
    | .array n e => match ty P e, x with
      | some se, .ptr b o => match bounds n n lo hi mx with
        | some (r, l, h, m) => some (r, .slc b (o + bif Nat.beq m l then 0 else l * se.size) (h - l) (.lit (m - l)))
        | none => none
      | some se, .v (.pointer (some a)) => match bounds n n lo hi mx with
        | some (r, l, h, m) => some (r, .v (.slice (some (bif Nat.beq m l then a else a.add (l * se.size))) (h - l) (m - l)))
        | none => none
      | _, _ => none
    | _ => none

theorem slc_addr (b o m l s : Nat) : (some (if m = l then (⟨b, o, none⟩ : Addr) else Addr.add ⟨b, o, none⟩ (l * s))) = some ⟨b, o + (bif Nat.beq m l then 0 else l * s), none⟩ := by
  by_cases h : m = l
  · subst h; simp [Nat.beq_refl]
  · have : Nat.beq m l = false := by
      cases hb : Nat.beq m l with
      | false => rfl
      | true => exact absurd (Nat.eq_of_beq_eq_true hb) h
    simp [h, this, add_none]

theorem extract_list (l : List UInt8) (a b : Nat) : (⟨l.toArray⟩ : ByteArray).extract a b = ⟨((l.drop a).take (b - a)).toArray⟩ := by
  apply ByteArray.ext
  apply Array.toList_inj.1
  rw [Lib.extract_data]

theorem sliceV_run {P : Program} {t : TypeId} {x z : SV} {lo hi mx : Option SV} {r : Bool} (h : sliceV P t x lo hi mx = some (r, z)) (hr : r = true) {ρ : Nat → Loc} {n : Nat} (hx : x.lt ρ n) (w : World) :
    (Instr.sliceAt t (x.den ρ) (lo.map (SV.den ρ)) (hi.map (SV.den ρ)) (mx.map (SV.den ρ))).run P w = .ok (z.den ρ) w ∧ z.lt ρ n := by
  unfold sliceV at h
  split at h
  · cases h
  · rename_i s hs
    have hu := r_underlying w hs
    split at h
    · -- strings
      rename_i hd
      split at h
      · rename_i str hstr
        split at h
        · rename_i r' l h' m hb
          injection h with h; injection h with h1 h2; subst h2
          obtain ⟨h3, h4, _⟩ := bounds_run (P := P) hb (h1.trans hr) ρ w false
          refine ⟨?_, trivial⟩
          rw [SV.str?_den hstr]
          have hsz : (⟨str.toArray⟩ : ByteArray).size = str.length := by show str.toArray.size = _; simp
          simp only [Instr.sliceAt, Sem.run_bind, hu, hd, Result.andThen_ok, Instr.slice, hsz, Option.map_none]
          simp only [Option.map_none] at h3
          simp only [Option.isSome_none, Bool.false_eq_true, if_false, Sem.run_pure, Result.andThen_ok, Sem.run_bind, h3, extract_list, SV.den]
        · cases h
      · cases h
    · -- slices
      rename_i e hd
      split at h
      · cases h
      · rename_i se hse
        split at h
        · rename_i b o len cap
          split at h
          · rename_i r' l h' m hb
            injection h with h; injection h with h1 h2; subst h2
            obtain ⟨h3, h4, h5, h6, h7, h8⟩ := bounds_run (P := P) hb (h1.trans hr) ρ w true
            refine ⟨?_, hx.1, trivial, ?_⟩
            · simp only [Instr.sliceAt, Sem.run_bind, hu, hd, Result.andThen_ok, Instr.slice, SV.den, SCap.den, h3, r_sizeOf w hse, Sem.run_pure]
              congr 2
              simp only [Option.map_some, ← apply_ite some, slc_addr, Nat.add_assoc]
            · have hlen : len ≤ cap := hx.2.2
              simp only [SCap.den]
              cases hi with
              | none => have := h8 rfl; cases mx with
                | none => have := h6 rfl; omega
                | some _ => simp [bounds] at hb
              | some _ => have := h5 rfl; omega
          · cases h
        · rename_i b o len b' d
          have hlen : len ≤ (ρ b').cap - d := hx.2.2
          split at h
          · rename_i r' l h' m hb
            split at h
            · injection h with h; injection h with h1 h2; subst h2
              rw [hr, Bool.and_eq_true] at h1
              obtain ⟨h1, hz⟩ := h1
              -- the same bounds at the true capacity
              have hb' : bounds len ((ρ b').cap - d) lo hi none = some (true, l, h', (ρ b').cap - d) := by
                unfold bounds at hb ⊢
                simp only at hb ⊢
                split at hb
                · rename_i li hv hl hh
                  injection hb with hb; injection hb with k1 hb; injection hb with k2 hb; injection hb with k3 k4
                  rw [h1] at k1
                  simp only [k2, k3]
                  simp only [Bool.and_eq_true, decide_eq_true_eq, Bool.or_eq_true] at k1
                  have : (decide (0 ≤ li) && decide (li ≤ hv) && (hi.isNone || decide (hv ≤ (((ρ b').cap - d : Nat) : Int)))) = true := by
                    simp only [Bool.and_eq_true, decide_eq_true_eq, Bool.or_eq_true]
                    exact ⟨k1.1, k1.2.imp id (fun _ => by omega)⟩
                  rw [this]
                · cases hb
              obtain ⟨h3, h4, h5, h6, h7, h8⟩ := bounds_run (P := P) hb' rfl ρ w true
              have hle : h' ≤ len := by
                obtain ⟨_, _, g5, g6, _, g8⟩ := bounds_run (P := P) hb h1 ρ w true
                cases hi with
                | none => have := g8 rfl; omega
                | some _ => have := g5 rfl; have := g6 rfl; omega
              refine ⟨?_, hx.1, hx.2.1, ?_⟩
              · simp only [Instr.sliceAt, Sem.run_bind, hu, hd, Result.andThen_ok, Instr.slice, SV.den, SCap.den]
                simp only [Option.map_none] at h3 ⊢
                simp only [h3, r_sizeOf w hse, Result.andThen_ok, Sem.run_pure]
                congr 2
                · by_cases hl0 : l = 0
                  · subst hl0
                    split <;> simp [add_none]
                  · have hlt : l < h' := by
                      simp only [Bool.or_eq_true] at hz
                      rcases hz with hz | hz
                      · exact absurd (Nat.eq_of_beq_eq_true hz) hl0
                      · exact Nat.le_of_ble_eq_true hz
                    rw [if_neg (by omega)]
                    simp [add_none, Nat.add_assoc]
                · omega
              · simp only [SCap.den]; omega
            · rename_i mv
              injection h with h; injection h with h1 h2; subst h2
              have hb' : bounds len ((ρ b').cap - d) lo hi (some mv) = some (true, l, h', m) := by
                unfold bounds at hb ⊢
                simp only at hb ⊢
                split at hb
                · split at hb
                  · rename_i hhv
                    injection hb with hb; injection hb with k1 hb; injection hb with k2 hb; injection hb with k3 k4
                    rw [h1, hr] at k1
                    simp only [*]
                    simp only [Bool.and_eq_true, decide_eq_true_eq] at k1 ⊢
                    congr 2
                    simp only [Bool.and_eq_true, decide_eq_true_eq]
                    exact ⟨k1.1, by omega⟩
                  · cases hb
                · cases hb
              obtain ⟨h3, h4, h5, h6, h7, h8⟩ := bounds_run (P := P) hb' rfl ρ w true
              refine ⟨?_, hx.1, trivial, ?_⟩
              · simp only [Instr.sliceAt, Sem.run_bind, hu, hd, Result.andThen_ok, Instr.slice, SV.den, SCap.den, h3, r_sizeOf w hse, Sem.run_pure]
                congr 2
                simp only [Option.map_some, ← apply_ite some, slc_addr, Nat.add_assoc]
              · simp only [SCap.den]
                cases hi with
                | none => simp [bounds] at hb
                | some _ => have := h5 rfl; omega
          · cases h
        · rename_i b o len cap
          split at h
          · rename_i r' l h' m hb
            injection h with h; injection h with h1 h2; subst h2
            obtain ⟨h3, _⟩ := bounds_run (P := P) hb (h1.trans hr) ρ w true
            refine ⟨?_, trivial⟩
            simp only [Instr.sliceAt, Sem.run_bind, hu, hd, Result.andThen_ok, Instr.slice, SV.den, h3, r_sizeOf w hse, Sem.run_pure]
            congr 2
            rw [← slc_addr b o m l se.size]
            by_cases hml : m = l
            · rw [if_pos hml, if_pos hml]
            · rw [if_neg hml, if_neg hml]; rfl
          · cases h
        · rename_i a len cap _
          split at h
          · rename_i r' l h' m hb
            injection h with h; injection h with h1 h2; subst h2
            obtain ⟨h3, _⟩ := bounds_run (P := P) hb (h1.trans hr) ρ w true
            refine ⟨?_, trivial⟩
            simp only [Instr.sliceAt, Sem.run_bind, hu, hd, Result.andThen_ok, Instr.slice, SV.den, h3, r_sizeOf w hse, Sem.run_pure, sliced]
          · cases h
        · cases h
    · -- arrays
      rename_i k e hd
      split at h
      · rename_i se b o hse
        split at h
        · rename_i r' l h' m hb
          injection h with h; injection h with h1 h2; subst h2
          obtain ⟨h3, h4, h5, h6, h7, h8⟩ := bounds_run (P := P) hb (h1.trans hr) ρ w false
          refine ⟨?_, hx, trivial, ?_⟩
          · simp only [Instr.sliceAt, Sem.run_bind, hu, hd, Result.andThen_ok, SV.den, SCap.den, Instr.sureAddr, h3, r_sizeOf w hse, Sem.run_pure]
            congr 2
            simp only [slc_addr, Nat.add_assoc]
          · simp only [SCap.den]
            cases hi with
            | none => have := h8 rfl; cases mx with
              | none => have := h6 rfl; omega
              | some _ => simp [bounds] at hb
            | some _ => have := h5 rfl; omega
        · cases h
      · rename_i se a hse
        split at h
        · rename_i r' l h' m hb
          injection h with h; injection h with h1 h2; subst h2
          obtain ⟨h3, _⟩ := bounds_run (P := P) hb (h1.trans hr) ρ w false
          refine ⟨?_, trivial⟩
          simp only [Instr.sliceAt, Sem.run_bind, hu, hd, Result.andThen_ok, SV.den, Instr.sureAddr, h3, r_sizeOf w hse, Sem.run_pure]
          congr 2
          by_cases hml : m = l
          · subst hml; simp [Nat.beq_refl]
          · have : Nat.beq m l = false := by
              cases hb' : Nat.beq m l with
              | false => rfl
              | true => exact absurd (Nat.eq_of_beq_eq_true hb') hml
            simp [hml, this]
        · cases h
      · cases h
    · cases h

/-! ### Aggregates -/

def overlay (cs : List SV) (off : Nat) (vc : List SV) : List SV := cs.take off ++ vc ++ cs.drop (off + vc.length)

def fillV (place : Nat → Option (Nat × Nat)) : List SV → List (Nat × SV) → Option (List SV)
  | cs, [] => some cs
  | cs, (i, x) :: rest =>
    match place i, x.cells with
    | some (off, size), some vc => bif Nat.beq vc.length size && Nat.ble (off + vc.length) cs.length then fillV place (overlay cs off vc) rest else none
    | _, _ => none

theorem foldl_set (l : List Value) : ∀ (k : Nat) (off : Nat) (cs : Array Value), off + k + l.length ≤ cs.size →
    ((l.zipIdx k).foldl (fun cs (x : Value × Nat) => cs.setIfInBounds (off + x.2) x.1) cs).toList = cs.toList.take (off + k) ++ l ++ cs.toList.drop (off + k + l.length) := by
  induction l with
  | nil => intro k off cs h; simp
  | cons x xs ih =>
    intro k off cs h
    simp only [List.zipIdx_cons, List.foldl_cons]
    simp only [List.length_cons] at h
    rw [ih (k + 1) off _ (by simp; omega)]
    simp only [Array.toList_setIfInBounds, List.length_cons]
    have hlt : off + k < cs.toList.length := by simp; omega
    rw [show off + (k + 1) = (off + k) + 1 by omega, show (off + k) + 1 + xs.length = off + k + (xs.length + 1) by omega]
    rw [List.take_add_one, List.take_set_of_le (Nat.le_refl _), List.drop_set_of_lt (by omega)]
    rw [List.getElem?_set_self hlt]
    simp

theorem fill_den {ρ : Nat → Loc} {n : Nat} {place : Nat → Option (Nat × Nat)} : ∀ (parts : List (Nat × SV)) (cs out : List SV), fillV place cs parts = some out →
    Instr.fill place (cs.map (SV.den ρ)).toArray (parts.map fun (i, x) => (i, x.den ρ)) = some (out.map (SV.den ρ)).toArray ∧
    ((∀ y ∈ cs, y.lt ρ n) → (∀ p ∈ parts, p.2.lt ρ n) → ∀ y ∈ out, y.lt ρ n) := by
  intro parts
  induction parts with
  | nil => intro cs out h; simp only [fillV, Option.some.injEq] at h; subst h; exact ⟨rfl, fun h _ => h⟩
  | cons p rest ih =>
    intro cs out h
    obtain ⟨i, x⟩ := p
    simp only [fillV] at h
    split at h
    · rename_i off size vc hp hc
      cases hb : Nat.beq vc.length size && Nat.ble (off + vc.length) cs.length with
      | false => rw [hb] at h; cases h
      | true =>
        rw [hb] at h
        simp only [Bool.and_eq_true] at hb
        have h1 := Nat.eq_of_beq_eq_true hb.1
        have h2 := Nat.le_of_ble_eq_true hb.2
        simp only [cond_true] at h
        obtain ⟨k1, k2⟩ := ih _ _ h
        have hcs := SV.cells_den (ρ := ρ) hc
        have hsz : (x.den ρ).cells.size = vc.length := by rw [← Array.length_toList, hcs, List.length_map]
        refine ⟨?_, fun hy hpp => k2 (fun y hy' => ?_) (fun p hp => hpp p (List.mem_cons_of_mem _ hp))⟩
        · simp only [List.map_cons, Instr.fill, hp]
          rw [if_neg (by simp [hsz, h1]; omega)]
          rw [← k1]
          congr 1
          apply Array.toList_inj.1
          rw [← Array.foldl_toList, Array.toList_zipIdx, hcs, foldl_set _ 0 off _ (by simp; omega)]
          simp [overlay, List.map_take, List.map_drop]
        · simp only [overlay, List.mem_append] at hy'
          rcases hy' with (hy' | hy') | hy'
          · exact hy y (List.mem_of_mem_take hy')
          · exact SV.cells_lt hc (hpp _ (List.mem_cons_self)) y hy'
          · exact hy y (List.mem_of_mem_drop hy')
    · cases h

def pairs (is : List Nat) (vs : List SV) : List (Nat × SV) := is.zip vs

def buildV (P : Program) (t : TypeId) (parts : List (Nat × SV)) : Option SV :=
  match ty P t with
  | none => none
  | some s =>
    let zero := s.zero.cells.toList.map .v
    match s.und with
    | .struct fs =>
      bif fs.toList.all (fun f => (ty P f.type).isSome) then
        (fillV (fun i => match fs.toList[i]? with
          | some f => (ty P f.type).map fun s => (f.offset, s.size)
          | none => none) zero parts).map .agg
      else none
    | .array _ e => match ty P e with
      | some se => (fillV (fun i => some (i * se.size, se.size)) zero parts).map .agg
      | none => none
    | _ => none

theorem places_run {P : Program} (w : World) : ∀ (l : List Field), (l.all fun f => (ty P f.type).isSome) = true →
    (l.mapM (fun (f : Field) => do pure (f.offset, ← sizeOf f.type)) : Sem (List (Nat × Nat))).run P w = .ok (l.map fun (f : Field) => (f.offset, ((ty P f.type).map (·.size)).getD 0)) w := by
  intro l
  induction l with
  | nil => intro _; rfl
  | cons f fs ih =>
    intro h
    simp only [List.all_cons, Bool.and_eq_true] at h
    obtain ⟨s, hs⟩ := Option.isSome_iff_exists.1 h.1
    simp only [List.mapM_cons, Sem.run_bind, r_sizeOf w hs, Result.andThen_ok, Sem.run_pure, ih h.2, List.map_cons, hs, Option.map_some, Option.getD_some]

theorem buildV_run {P : Program} {t : TypeId} {parts : List (Nat × SV)} {z : SV} (h : buildV P t parts = some z) (ρ : Nat → Loc) (w : World) :
    (Instr.build t (parts.map fun (i, x) => (i, x.den ρ)).toArray).run P w = .ok (z.den ρ) w := by
  unfold buildV at h
  split at h
  · cases h
  · rename_i s hs
    simp only at h
    have hz : ((s.zero.cells.toList.map SV.v).map (SV.den ρ)).toArray = s.zero.cells := by
      simp [Function.comp_def, SV.den]
    split at h
    · rename_i fs hd
      cases hall : fs.toList.all fun f => (ty P f.type).isSome with
      | false => rw [hall] at h; cases h
      | true =>
        rw [hall] at h
        simp only [cond_true, Option.map_eq_some_iff] at h
        obtain ⟨out, hf, rfl⟩ := h
        obtain ⟨k1, _⟩ := fill_den (ρ := ρ) (n := 0) parts _ out hf
        rw [hz] at k1
        have hpl : (fs.mapM (fun (f : Field) => do pure (f.offset, ← sizeOf f.type)) : Sem (Array (Nat × Nat))).run P w = .ok (fs.toList.map fun (f : Field) => (f.offset, ((ty P f.type).map (·.size)).getD 0)).toArray w := by
          rw [Array.mapM_eq_mapM_toList]
          simp only [Sem.run_map, places_run w fs.toList hall, Result.andThen_ok]
        simp only [Instr.build, Sem.run_bind, r_zeroValue w hs, r_underlying w hs, Result.andThen_ok, hd, hpl]
        have hfun : (fun (i : Nat) => ((fs.toList.map fun (f : Field) => (f.offset, ((ty P f.type).map (·.size)).getD 0)).toArray)[i]?) = (fun (i : Nat) => match fs.toList[i]? with
          | some (f : Field) => (ty P f.type).map fun s => (f.offset, s.size)
          | none => none) := by
          funext i
          simp only [List.getElem?_toArray, List.getElem?_map]
          cases hi : fs.toList[i]? with
          | none => rfl
          | some f =>
            obtain ⟨s', hs'⟩ := Option.isSome_iff_exists.1 (List.all_eq_true.1 hall f (List.mem_of_getElem? hi))
            simp [hs']
        simp only [hfun, k1, Sem.run_pure, SV.den, dens_eq]
    · rename_i k e hd
      split at h
      · rename_i se hse
        simp only [Option.map_eq_some_iff] at h
        obtain ⟨out, hf, rfl⟩ := h
        obtain ⟨k1, _⟩ := fill_den (ρ := ρ) (n := 0) parts _ out hf
        rw [hz] at k1
        simp only [Instr.build, Sem.run_bind, r_zeroValue w hs, r_underlying w hs, Result.andThen_ok, hd, r_sizeOf w hse, k1, Sem.run_pure, SV.den, dens_eq]
      · cases h
    · cases h

theorem buildV_lt {P : Program} {t : TypeId} {parts : List (Nat × SV)} {z : SV} (h : buildV P t parts = some z) {ρ : Nat → Loc} {n : Nat} (hp : ∀ p ∈ parts, p.2.lt ρ n) : z.lt ρ n := by
  unfold buildV at h
  split at h
  · cases h
  · rename_i s hs
    simp only at h
    have hz : ∀ y ∈ s.zero.cells.toList.map SV.v, y.lt ρ n := fun y hy => by obtain ⟨x, _, rfl⟩ := List.mem_map.1 hy; trivial
    split at h
    · rename_i fs hd
      cases hall : fs.toList.all fun f => (ty P f.type).isSome with
      | false => rw [hall] at h; cases h
      | true =>
        rw [hall] at h
        simp only [cond_true, Option.map_eq_some_iff] at h
        obtain ⟨out, hf, rfl⟩ := h
        exact lts_iff.2 ((fill_den (ρ := ρ) (n := n) parts _ out hf).2 hz hp)
    · split at h
      · simp only [Option.map_eq_some_iff] at h
        obtain ⟨out, hf, rfl⟩ := h
        exact lts_iff.2 ((fill_den (ρ := ρ) (n := n) parts _ out hf).2 hz hp)
      · cases h
    · cases h

end
end Go.Sx
