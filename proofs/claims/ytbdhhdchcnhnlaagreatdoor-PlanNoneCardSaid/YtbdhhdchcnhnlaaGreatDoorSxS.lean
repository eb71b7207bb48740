/-
  The symbolic executor: bytes of strings, strings of bytes.
-/
import Derived.Test.YtbdhhdchcnhnlaaGreatDoorSxJ
import Derived.Laws.BytesArg
import Derived.Laws.IdiomStrings
namespace Go.Sx
noncomputable section

def isU8 : TypeDesc → Bool
  | .int .u8 => true
  | _ => false

theorem isU8_eq {d : TypeDesc} (h : isU8 d = true) : d = .int .u8 := by
  unfold isU8 at h
  split at h
  · rfl
  · cases h

/-- A string turned into bytes of its own. -/
def bytesV (P : Program) (h : HS) (src dst : TypeId) (x : SV) (K : SV → HS → Bool) : Bool :=
  match ty P src, ty P dst with
  | some s, some d => match s.und, d.und with
    | .string, .slice e => match ty P e, x.str? with
      | some se, some l => bif isU8 se.und then K (.slc h.nx 0 l.length (.sub h.nx 0)) (h.new (.cells (bytesSV l) 1)) else false
      | _, _ => false
    | _, _ => false
  | _, _ => false

theorem bytesV_run {P : Program} {h : HS} {src dst : TypeId} {x : SV} {K : SV → HS → Bool} (hk : bytesV P h src dst x K) {ρ : Nat → Loc} {w : World} (H : HRel ρ h w) :
    ∃ v w', (convert src dst (x.den ρ)).run P w = .ok v w' ∧ Post ρ h K v w' := by
  unfold bytesV at hk
  split at hk
  · rename_i s d hs hd
    split at hk
    · rename_i e hsu hdu
      split at hk
      · rename_i se l hse hl
        cases hb : isU8 se.und with
        | false => rw [hb] at hk; exact absurd hk Bool.false_ne_true
        | true =>
          rw [hb] at hk
          simp only [cond_true] at hk
          have h1 : P.underlying src = some .string := by rw [(ty_facts hs).und, hsu]
          have h2 : P.underlying dst = some (.slice e) := by rw [(ty_facts hd).und, hdu]
          have h3 : P.underlying e = some (.int .u8) := by rw [(ty_facts hse).und, isU8_eq hb]
          rw [SV.str?_den hl]
          have hrun := run_bytes_of_string (P := P) w src dst e ⟨l.toArray⟩ h1 h2 h3
          have hsz : (⟨l.toArray⟩ : ByteArray).size = l.length := by show l.toArray.size = _; simp
          have hge := grownCap_ge w (⟨l.toArray⟩ : ByteArray).size 0 e
          generalize grownCap w (⟨l.toArray⟩ : ByteArray).size 0 e = cap at hrun hge
          have hcs : (bytesRow ⟨l.toArray⟩ cap).size = cap := by
            unfold bytesRow
            have : (⟨l.toArray⟩ : ByteArray).data.size = (⟨l.toArray⟩ : ByteArray).size := rfl
            rw [Array.size_append, Array.size_map, Array.size_replicate, this]; omega
          refine ⟨_, _, hrun, _, _, extend ρ h.nx ⟨w.heap.size, 0, cap⟩, hk, ?_, ⟨Nat.lt_succ_self _, Nat.lt_succ_self _, ?_⟩, ?_, extend_ext _ _ _, Nat.le_succ _, Mem.le_refl _⟩
          · simp [SV.den, SCap.den, extend_same, hsz]
          · simp only [SCap.den, extend_same]; omega
          · refine (H.drawn (w.drawn + 1)).alloc (B := .cells (bytesSV l) 1) (L := ⟨w.heap.size, 0, cap⟩) rfl (fun y hy => ?_) fun w' hw' => ⟨_, _, _, hw', fun i y hi => ?_, ?_, .inr ?_, .inr (Nat.le_refl _)⟩
            · obtain ⟨b, _, rfl⟩ := List.mem_map.1 hy; trivial
            · unfold bytesSV at hi
              rw [List.getElem?_map] at hi
              cases hli : l[i]? with
              | none => rw [hli] at hi; cases hi
              | some b =>
                rw [hli] at hi
                injection hi with hi; subst hi
                have hlt := (List.getElem?_eq_some_iff.1 hli).1
                show (bytesRow ⟨l.toArray⟩ cap)[0 + i]? = _
                unfold bytesRow
                rw [Nat.zero_add, Array.getElem?_append_left (by simpa using hlt)]
                simp [hli, SV.den]
            · show 0 + cap * 1 ≤ _
              rw [hcs]; omega
            · simp only [bytesSV, List.length_map]
              show l.length ≤ cap * 1
              omega
      · exact absurd hk Bool.false_ne_true
    · exact absurd hk Bool.false_ne_true
  · exact absurd hk Bool.false_ne_true

/-- Bytes of a literal: the row bears the run-time's mark behind its last cell. -/
def markV (P : Program) (h : HS) (src dst : TypeId) (x : SV) (K : SV → HS → Bool) : Bool :=
  match ty P src with
  | some s => match s.und with
    | .slice e => match ty P e, x with
      | some se, .slc b o l c => match h.H.get b with
        | some (.cells cs es) => bif isU8 se.und && Nat.beq src dst then K (.slc b o l c) { h with H := h.H.set b (.cells cs es) } else false
        | _ => false
      | _, _ => false
    | _ => false
  | none => false

theorem markV_run {P : Program} {h : HS} {src dst : TypeId} {x : SV} {K : SV → HS → Bool} (hk : markV P h src dst x K) {ρ : Nat → Loc} {w : World} (H : HRel ρ h w) (hx : x.lt ρ h.nx) :
    ∃ v w', (convert src dst (x.den ρ)).run P w = .ok v w' ∧ Post ρ h K v w' := by
  unfold markV at hk
  split at hk
  · rename_i s hs
    split at hk
    · rename_i e hsu
      split at hk
      · rename_i se b o l c hse
        split at hk
        · rename_i cs es hb
          cases hc : isU8 se.und && Nat.beq src dst with
          | false => rw [hc] at hk; exact absurd hk Bool.false_ne_true
          | true =>
            rw [hc] at hk
            simp only [Bool.and_eq_true] at hc
            simp only [cond_true] at hk
            have heq := Nat.eq_of_beq_eq_true hc.2
            subst heq
            obtain ⟨_, h2, C, t, fz, h3, h4, h5, h7, h6⟩ := H.blk b _ hb
            have hshape : w.shape? (ρ b).blk = some (t, C.size) := by unfold World.shape?; rw [h3]
            have hlt := (Array.getElem?_eq_some_iff.1 h3).1
            have hfz : (w.freeze ⟨(ρ b).blk, C.size, none⟩ 1).heap[(ρ b).blk]? = some (.cells C t (if fz.1 == fz.2 then (C.size, C.size + 1) else (min fz.1 C.size, max fz.2 (C.size + 1)))) := by
              unfold World.freeze
              rw [if_neg (by decide)]
              show (w.heap.modify (ρ b).blk _)[(ρ b).blk]? = _
              rw [Array.getElem?_modify, if_pos rfl, h3]
              rfl
            refine ⟨_, w.freeze ⟨(ρ b).blk, C.size, none⟩ 1, ?_, _, _, ρ, hk, rfl, hx, ?_, Ext.refl _ _, Nat.le_refl _, Mem.le_refl _⟩
            · simp [convert, r_underlying w hs, hsu, r_underlying w hse, isU8_eq hc.1, SV.den, markStringish, hshape]
            · refine H.write hb h2 ⟨C, t, _, hfz, h4, h5, h7, ?_⟩ (fun k hk => ?_) rfl rfl rfl
              · by_cases he : fz.1 = fz.2
                · rw [if_pos (by simpa using he)]; exact .inr (Nat.le_refl _)
                · rw [if_neg (by simpa using he)]
                  have := h6.resolve_left he
                  exact .inr (by show C.size ≤ min fz.1 C.size; omega)
              · show (World.freeze w ⟨(ρ b).blk, C.size, none⟩ 1).heap[k]? = _
                unfold World.freeze
                rw [if_neg (by decide)]
                show (w.heap.modify (ρ b).blk _)[k]? = _
                rw [Array.getElem?_modify, if_neg (Ne.symm hk)]
        · exact absurd hk Bool.false_ne_true
      · exact absurd hk Bool.false_ne_true
    · exact absurd hk Bool.false_ne_true
  · exact absurd hk Bool.false_ne_true

/-- A conversion that makes memory, or marks it. -/
def convE (P : Program) (h : HS) (src dst : TypeId) (x : SV) (K : SV → HS → Bool) : Bool :=
  match x with
  | .slc b o l c => markV P h src dst (.slc b o l c) K
  | x => bytesV P h src dst x K

theorem convE_run {P : Program} {h : HS} {src dst : TypeId} {x : SV} {K : SV → HS → Bool} (hk : convE P h src dst x K) {ρ : Nat → Loc} {w : World} (H : HRel ρ h w) (hx : x.lt ρ h.nx) :
    ∃ v w', (convert src dst (x.den ρ)).run P w = .ok v w' ∧ Post ρ h K v w' := by
  unfold convE at hk
  split at hk
  · exact markV_run hk H hx
  · exact bytesV_run hk H

def bytesOf : List SV → Option (List UInt8)
  | [] => some []
  | x :: xs => match x with
    | .v (.int .u8 n) => match bytesOf xs with
      | some l => some (UInt8.ofNat n.toNat :: l)
      | none => none
    | _ => none

theorem bytesOf_some {ρ : Nat → Loc} : ∀ {xs : List SV} {l : List UInt8}, bytesOf xs = some l → ∃ ns : List Int, xs.map (SV.den ρ) = ns.map (Value.int .u8) ∧ l = ns.map fun n => UInt8.ofNat n.toNat := by
  intro xs
  induction xs with
  | nil => intro l h; injection h with h; subst h; exact ⟨[], rfl, rfl⟩
  | cons x xs ih =>
    intro l h
    simp only [bytesOf] at h
    split at h
    · rename_i n
      split at h
      · rename_i l' hl'
        injection h with h; subst h
        obtain ⟨ns, h1, h2⟩ := ih hl'
        exact ⟨n :: ns, by simp [h1, SV.den], by simp [h2]⟩
      · cases h
    · cases h

/-- Bytes turned into a string. -/
def strOfV (P : Program) (h : HS) (src dst : TypeId) (x : SV) : Option SV :=
  match ty P src, ty P dst with
  | some s, some d => match s.und, d.und with
    | .slice e, .string => match ty P e with
      | some se => bif isU8 se.und then (match x with
        | .slc b o l _ => match h.H.get b with
          | some (.cells cs _) => match takeN l (cs.drop o) with
            | some r => match bytesOf r with
              | some bs => some (.str bs)
              | none => none
            | none => none
          | _ => none
        | .v (.slice none _ _) => some (.str [])
        | _ => none) else none
      | none => none
    | _, _ => none
  | _, _ => none

theorem strOfV_run {P : Program} {h : HS} {src dst : TypeId} {x z : SV} (hz : strOfV P h src dst x = some z) {ρ : Nat → Loc} {w : World} (H : HRel ρ h w) :
    (convert src dst (x.den ρ)).run P w = .ok (z.den ρ) w ∧ z.lt ρ h.nx := by
  unfold strOfV at hz
  split at hz
  · rename_i s d hs hd
    split at hz
    · rename_i e hsu hdu
      split at hz
      · rename_i se hse
        cases hb : isU8 se.und with
        | false => rw [hb] at hz; cases hz
        | true =>
          rw [hb] at hz
          simp only [cond_true] at hz
          have h1 : P.underlying src = some (.slice e) := by rw [(ty_facts hs).und, hsu]
          have h2 : P.underlying dst = some .string := by rw [(ty_facts hd).und, hdu]
          have h3 : P.underlying e = some (.int .u8) := by rw [(ty_facts hse).und, isU8_eq hb]
          split at hz
          · rename_i b o l c
            split at hz
            · rename_i cs es hbl
              split at hz
              · rename_i r hr
                split at hz
                · rename_i bs hbs
                  injection hz with hz; subst hz
                  refine ⟨?_, trivial⟩
                  obtain ⟨_, _, C, t, fz, h4, h5, _⟩ := H.blk b _ hbl
                  obtain ⟨k1, k2⟩ := takeN_some hr
                  obtain ⟨ns, g1, g2⟩ := bytesOf_some (ρ := ρ) hbs
                  have hlen : ns.length = l := by rw [← k1, ← List.length_map (f := SV.den ρ), g1, List.length_map]
                  have hload := loadCells_run (P := P) (o := (ρ b).off + o) h4 (r.map (SV.den ρ)) 0 #[] (fun j v hj => by
                    rw [List.getElem?_map] at hj
                    cases hx : r[j]? with
                    | none => rw [hx] at hj; cases hj
                    | some x =>
                      rw [hx] at hj
                      injection hj with hj; subst hj
                      have := k2 j x hx
                      rw [List.getElem?_drop] at this
                      rw [Nat.zero_add, Nat.add_assoc]
                      exact h5 (o + j) x this)
                  rw [List.length_map, k1, g1] at hload
                  simp only [SV.den]
                  rw [run_convert_bytes_string w src dst e _ l _ h1 h3 h2, run_bytesToString w _ l _ ns (by simpa [loadCells] using hload), foldl_push_bytes, ← g2]
                  simp [ByteArray.empty, ByteArray.emptyWithCapacity]
                  rfl
                · cases hz
              · cases hz
            · cases hz
          · injection hz with hz; subst hz
            refine ⟨?_, trivial⟩
            simp only [SV.den]
            rw [run_convert_bytes_nil w src e h1 h3 _ _ dst h2]
            rfl
          · cases hz
      · cases hz
    · cases hz
  · cases hz

/-! ### The entry that a walk over a map stands at -/

def bornV (st : Nat) : List (SV × SV × Nat) → Option SV
  | [] => none
  | e :: es => bif Nat.beq e.2.2 st then some (.tup [e.1, e.2.1]) else bornV st es

def lastN : List Nat → Option Nat
  | [] => none
  | x :: xs => match xs with
    | [] => some x
    | _ :: _ => lastN xs

theorem lastN_eq : ∀ (l : List Nat), lastN l = l.getLast?
  | [] => rfl
  | [_] => rfl
  | _ :: y :: l => by
    show lastN (y :: l) = _
    rw [lastN_eq (y :: l)]; simp

def entryV (h : HS) (x : SV) : Option SV :=
  match x with
  | .ptr b o => bif Nat.beq o 0 then (match h.H.get b with
    | some (.miter m _ seen last) => match lastN seen, h.H.get m with
      | some st, some (.map es clock) => bif Nat.beq clock last then bornV st es else none
      | _, _ => none
    | _ => none) else none
  | _ => none

theorem bornV_run {ρ : Nat → Loc} {n st : Nat} : ∀ {es : List (SV × SV × Nat)} {z : SV}, bornV st es = some z → (∀ e ∈ es, e.1.lt ρ n ∧ e.2.1.lt ρ n) →
    ∃ e, (es.map (entDen ρ)).find? (fun e => e.born == st) = some e ∧ z.den ρ = .tuple #[e.key, e.val] ∧ z.lt ρ n := by
  intro es
  induction es with
  | nil => intro z h; cases h
  | cons e es ih =>
    intro z h hl
    simp only [bornV] at h
    cases hb : Nat.beq e.2.2 st with
    | true =>
      rw [hb] at h
      injection h with h; subst h
      have := Nat.eq_of_beq_eq_true hb
      obtain ⟨l1, l2⟩ := hl e List.mem_cons_self
      exact ⟨entDen ρ e, by simp [entDen, this], by simp [SV.den, SV.dens, entDen], ⟨l1, l2, trivial⟩⟩
    | false =>
      rw [hb] at h
      obtain ⟨e', h1, h2⟩ := ih h fun e he => hl e (List.mem_cons_of_mem _ he)
      refine ⟨e', ?_, h2⟩
      have hne : (e.2.2 == st) = false := by
        cases hq : e.2.2 == st with
        | false => rfl
        | true =>
          have : e.2.2 = st := by simpa using hq
          rw [this, Nat.beq_refl] at hb; cases hb
      rw [List.map_cons, List.find?_cons]
      have : ((entDen ρ e).born == st) = false := hne
      rw [this]; exact h1

theorem entryV_run {P : Program} {h : HS} {x z : SV} (hz : entryV h x = some z) {ρ : Nat → Loc} {w : World} (H : HRel ρ h w) : (Instr.entry (x.den ρ)).run P w = .ok (z.den ρ) w ∧ z.lt ρ h.nx := by
  unfold entryV at hz
  split at hz
  · rename_i b o
    cases ho : Nat.beq o 0 with
    | false => rw [ho] at hz; cases hz
    | true =>
      rw [ho] at hz
      have ho := Nat.eq_of_beq_eq_true ho
      subst ho
      simp only [cond_true] at hz
      split at hz
      · rename_i m since seen last hb
        split at hz
        · rename_i st es clock hst hm
          cases hc : Nat.beq clock last with
          | false => rw [hc] at hz; cases hz
          | true =>
            rw [hc] at hz
            simp only [cond_true] at hz
            have hc := Nat.eq_of_beq_eq_true hc
            subst hc
            obtain ⟨_, _, h0, h3⟩ := H.blk b _ hb
            obtain ⟨_, hes, hm3⟩ := H.blk m _ hm
            have hm3 : w.heap[(ρ m).blk]? = some (.map (es.map (entDen ρ)).toArray clock) := hm3
            have hget : (getObj (ρ b).blk).run P w = .ok (.mapIter (some (ρ m).blk) since seen.toArray clock) w := by simp [getObj, Sem.run, h3]
            have hgetm : (getObj (ρ m).blk).run P w = .ok (.map (es.map (entDen ρ)).toArray clock) w := by simp [getObj, Sem.run, hm3]
            have hden : (SV.ptr b 0).den ρ = .pointer (some ⟨(ρ b).blk, 0, none⟩) := by simp [SV.den, h0]
            obtain ⟨e, k1, k2, k3⟩ := bornV_run hz hes
            refine ⟨?_, k3⟩
            rw [lastN_eq] at hst
            have hback : seen.toArray.back? = some st := by rw [List.back?_toArray]; exact hst
            rw [hden, k2]
            simp only [Instr.entry, Sem.run_bind, hget, Result.andThen_ok, hback, hgetm, bne_self_eq_false, Bool.false_eq_true, if_false]
            simp [k1]
        · cases hz
      · cases hz
  · cases hz

end
end Go.Sx
