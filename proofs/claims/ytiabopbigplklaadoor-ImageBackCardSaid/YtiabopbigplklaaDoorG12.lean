/-
  The symbolic executor: a callee whose answer (true, false) is shown at its arguments' own heap, used in any heap: what it is handed lies behind the call as it lay ahead.
  The symbolic executor: a block whose rounds are shown beforehand: out of these states it ends, and leaves these slots and blocks as they were.
  The symbolic executor: functions that defer one call ahead of all else, whose callee asks 'recover' first.
-/
import Derived.Test.YtiabopbigplklaaDoorG06
import Derived.Recover
namespace Go.Sx
noncomputable section

/-! ### States -/

def entsEq : List (SV × SV × Nat) → List (SV × SV × Nat) → Bool
  | [], [] => true
  | x :: xs, y :: ys => bif svEq x.1 y.1 then (bif svEq x.2.1 y.2.1 then (bif Nat.beq x.2.2 y.2.2 then entsEq xs ys else false) else false) else false
  | _, _ => false

theorem entsEq_eq : ∀ (l m : List (SV × SV × Nat)), entsEq l m = true → l = m
  | [], [], _ => rfl
  | (a, b, c) :: xs, (a', b', c') :: ys, h => by
    unfold entsEq at h
    cases h1 : svEq a a' with
    | false => rw [h1] at h; exact absurd h Bool.false_ne_true
    | true =>
      rw [h1] at h
      cases h2 : svEq b b' with
      | false => rw [h2] at h; exact absurd h Bool.false_ne_true
      | true =>
        rw [h2] at h
        cases h3 : Nat.beq c c' with
        | false => rw [h3] at h; exact absurd h Bool.false_ne_true
        | true =>
          rw [h3] at h
          rw [svEq_eq _ _ h1, svEq_eq _ _ h2, Nat.eq_of_beq_eq_true h3, entsEq_eq xs ys h]
  | [], _ :: _, h => by cases h
  | _ :: _, [], h => by cases h

/-- Are two blocks the same? -/
def bEq (A B : SBlk) : Bool := match A, B with
  | .cells cs es τ, .cells ds fs υ => bif Nat.beq es fs then (bif Nat.beq τ υ then svEqs cs ds else false) else false
  | .map es k, .map fs l => bif Nat.beq k l then entsEq es fs else false
  | _, _ => false

theorem bEq_eq {A B : SBlk} (h : bEq A B = true) : A = B := by
  unfold bEq at h
  split at h
  · rename_i cs es τ ds fs υ
    cases he : Nat.beq es fs with
    | false => rw [he] at h; exact absurd h Bool.false_ne_true
    | true =>
      rw [he] at h
      simp only [cond_true] at h
      cases ht : Nat.beq τ υ with
      | false => rw [ht] at h; exact absurd h Bool.false_ne_true
      | true =>
        rw [ht] at h
        rw [Nat.eq_of_beq_eq_true he, Nat.eq_of_beq_eq_true ht, svEqs_eq _ _ h]
  · rename_i es k fs l
    cases he : Nat.beq k l with
    | false => rw [he] at h; exact absurd h Bool.false_ne_true
    | true =>
      rw [he] at h
      rw [Nat.eq_of_beq_eq_true he, entsEq_eq _ _ h]
  · exact absurd h Bool.false_ne_true

/-- A state, spelled out: slots, blocks, and the next block's number. -/
structure St where
  sl : List (Nat × SV)
  bl : List (Nat × SBlk)
  nx : Nat
  keep : Bool

def slsIn (tm : T SV) : List (Nat × SV) → Bool
  | [] => true
  | s :: ss => match tm.get s.1 with
    | some v => bif svEq v s.2 then slsIn tm ss else false
    | none => false

theorem slsIn_mem {tm : T SV} : ∀ {l : List (Nat × SV)}, slsIn tm l = true → ∀ s ∈ l, tm.get s.1 = some s.2
  | [], _, s, hs => by cases hs
  | x :: xs, h, s, hs => by
    simp only [slsIn] at h
    split at h
    · rename_i v hv
      cases he : svEq v x.2 with
      | false => rw [he] at h; exact absurd h Bool.false_ne_true
      | true =>
        rw [he] at h
        rcases List.mem_cons.1 hs with rfl | hs
        · rw [hv, svEq_eq _ _ he]
        · exact slsIn_mem h s hs
    · exact absurd h Bool.false_ne_true

def blsIn (H : T SBlk) : List (Nat × SBlk) → Bool
  | [] => true
  | s :: ss => match H.get s.1 with
    | some v => bif bEq v s.2 then blsIn H ss else false
    | none => false

theorem blsIn_mem {H : T SBlk} : ∀ {l : List (Nat × SBlk)}, blsIn H l = true → ∀ s ∈ l, H.get s.1 = some s.2
  | [], _, s, hs => by cases hs
  | x :: xs, h, s, hs => by
    simp only [blsIn] at h
    split at h
    · rename_i v hv
      cases he : bEq v x.2 with
      | false => rw [he] at h; exact absurd h Bool.false_ne_true
      | true =>
        rw [he] at h
        rcases List.mem_cons.1 hs with rfl | hs
        · rw [hv, bEq_eq he]
        · exact blsIn_mem h s hs
    · exact absurd h Bool.false_ne_true

def setsK {α : Type} : List (Nat × α) → T α → (T α → Bool) → Bool
  | [], t, k => k t
  | s :: ss, t, k => setK 32 t s.1 s.2 fun t => setsK ss t k

def setsT {α : Type} : List (Nat × α) → T α → T α
  | [], t => t
  | s :: ss, t => setsT ss (t.set s.1 s.2)

theorem setsK_eq {α : Type} : ∀ (l : List (Nat × α)) (t : T α) (k : T α → Bool), setsK l t k = k (setsT l t)
  | [], _, _ => rfl
  | s :: ss, t, k => by simp only [setsK, setsT]; rw [setK_eq]; exact setsK_eq ss _ k

theorem setsT_get {α : Type} : ∀ {l : List (Nat × α)} {t : T α} {i : Nat} {x : α}, (setsT l t).get i = some x → (i, x) ∈ l ∨ t.get i = some x
  | [], _, _, _, h => .inr h
  | s :: ss, t, i, x, h => by
    rcases setsT_get (l := ss) h with h | h
    · exact .inl (List.mem_cons_of_mem _ h)
    · rcases T.get_set h with ⟨h1, h2⟩ | ⟨_, h⟩
      · subst h1; subst h2; exact .inl (by simp)
      · exact .inr h

theorem renB_back {n0 n : Nat} {L : List Nat} {ρ : Nat → Loc} {B B' : SBlk} (h : renB n0 L B = some B') (hl : B.lt ρ n) {loc : Loc} {w : World} (hr : B'.Rel (fun k => ρ (backN n0 L k)) loc w) : B.Rel ρ loc w := by
  cases B with
  | cells cs es τ =>
    simp only [renB] at h
    split at h
    · rename_i cs' hc
      injection h with h; subst h
      obtain ⟨h1, _⟩ := renVs_den cs cs' hc (lts_iff.2 hl)
      obtain ⟨c, t, fz, k1, k2, k3, k4, k5⟩ := hr
      rw [dens_eq, dens_eq] at h1
      have hl1 : cs'.length = cs.length := by
        have := congrArg List.length h1
        simpa using this
      refine ⟨c, t, fz, k1, fun i x hx => ?_, k3, ?_, by rw [← hl1]; exact k5⟩
      · have e1 : (cs.map (SV.den ρ))[i]? = some (x.den ρ) := by rw [List.getElem?_map, hx]; rfl
        rw [← h1, List.getElem?_map] at e1
        cases hy : cs'[i]? with
        | none => rw [hy] at e1; cases e1
        | some y =>
          rw [hy] at e1
          injection e1 with e1
          rw [← e1]; exact k2 i y hy
      · have : cs'.length = cs.length := by
          have := congrArg List.length h1
          simpa using this
        rw [← this]; exact k4
    · cases h
  | map es clock =>
    simp only [renB] at h
    split at h
    · rename_i es' hes
      injection h with h; subst h
      obtain ⟨h1, _⟩ := renEs_den es es' hes hl
      show w.heap[loc.blk]? = some (.map (es.map (entDen ρ)).toArray clock)
      rw [← h1]; exact hr
    · cases h
  | siter s pos => simp only [renB, Option.some.injEq] at h; subst h; exact hr
  | miter m since seen last =>
    simp only [renB] at h
    split at h
    · rename_i m' hm
      injection h with h; subst h
      obtain ⟨h1, _⟩ := ixN_spec hm
      refine ⟨hr.1, ?_⟩
      have h2 : w.heap[loc.blk]? = some (.mapIter (some (ρ (backN n0 L m')).blk) since seen.toArray last) := hr.2
      rw [h1] at h2; exact h2
    · cases h

/-- A call that is known: arguments, what they reach, the next block's number, the answer. -/
structure En where
  args : List SV
  bl : List (Nat × SBlk)
  nx : Nat
  ans : Bool

def isB (b : Bool) (r : SV) : Bool := match r with
  | .v (.bool c) => bif b then c else !c
  | _ => false

theorem isB_eq {b : Bool} {r : SV} (h : isB b r = true) : r = .v (.bool b) := by
  unfold isB at h
  split at h
  · cases b <;> simp at h <;> rw [h]
  · cases h

/-- The answer, and what it was handed as it was. -/
def ansK (E : En) (r : SV) (h : HS) : Bool := bif isB E.ans r then blsIn h.H E.bl else false

def findE : List En → List SV → T SBlk → Nat → (Bool → Bool) → Bool
  | [], _, _, _, _ => false
  | E :: Es, args, H, n, k => bif Nat.beq n E.nx then (bif svEqs args E.args then (bif blsIn H E.bl then k E.ans else findE Es args H n k) else findE Es args H n k) else findE Es args H n k

theorem findE_mem {args : List SV} {H : T SBlk} {n : Nat} {k : Bool → Bool} : ∀ {l : List En}, findE l args H n k = true → ∃ E ∈ l, n = E.nx ∧ args = E.args ∧ blsIn H E.bl = true ∧ k E.ans = true
  | [], hk => by cases hk
  | E :: Es, hk => by
    have rec' : findE Es args H n k = true → ∃ E' ∈ E :: Es, n = E'.nx ∧ args = E'.args ∧ blsIn H E'.bl = true ∧ k E'.ans = true := fun h => by
      obtain ⟨E', h1, h2⟩ := findE_mem h
      exact ⟨E', List.mem_cons_of_mem _ h1, h2⟩
    simp only [findE] at hk
    cases h1 : Nat.beq n E.nx with
    | false => rw [h1] at hk; exact rec' hk
    | true =>
      rw [h1] at hk
      cases h2 : svEqs args E.args with
      | false => rw [h2] at hk; exact rec' hk
      | true =>
        rw [h2] at hk
        cases h3 : blsIn H E.bl with
        | false => rw [h3] at hk; exact rec' hk
        | true =>
          rw [h3] at hk
          exact ⟨E, by simp, Nat.eq_of_beq_eq_true h1, svEqs_eq _ _ h2, h3, hk⟩

/-- The contract: at these arguments, in a heap of what they reach alone, the callee's answer is known. -/
def frameBT (gl : List (Nat × List Value) → Bool) (tab : List En) : CT := fun args h K =>
  natsK (closeL 0 h.H h.nx 0 (idsVs 0 args [])) fun L => renVsK 0 L args fun args' => renHK 0 L h.H L .e fun H =>
    natK L.length fun n => findE tab args' H n fun b => bif gl h.M.gl then K (.v (.bool b)) h else false

/-- What is to be shown of each entry. -/
def entK (P : Program) (C : FuncId → Option CT) (Λ : LTab) (n : Nat) (f : FuncId) (E : En) (M : Mem) : Bool := setsK E.bl .e fun H => sxCall P C Λ n f E.args ⟨H, E.nx, M⟩ (ansK E)

theorem frameBT_goes {P : Program} (hm : P.follows .mixedOrders = true) {C : FuncId → Option CT} (hC : CTSound P C) {Λ : LTab} (hΛ : LTSound P Λ) {n : Nat} {f : FuncId} {gl : List (Nat × List Value) → Bool} {tab : List En}
    (hT : ∀ E ∈ tab, ∀ (M : Mem), gl M.gl = true → entK P C Λ n f E M = true)
    {args : List SV} {h : HS} {K : SV → HS → Bool} (hk : frameBT gl tab args h K = true) {ρ : Nat → Loc} {w : World} (R : HRel ρ h w) (hargs : ∀ x ∈ args, x.lt ρ h.nx) :
    CallGoes P f (args.map (SV.den ρ)).toArray w (Post ρ h K) fun _ _ => False := by
  classical
  unfold frameBT at hk
  rw [natsK_eq] at hk
  generalize closeL 0 h.H h.nx 0 (idsVs 0 args []) = L at hk
  rw [renVsK_eq] at hk
  cases hr : renVs 0 L args with
  | none => rw [hr] at hk; exact absurd hk Bool.false_ne_true
  | some args' =>
    rw [hr] at hk
    have hk : renHK 0 L h.H L .e (fun H => natK L.length fun n => findE tab args' H n fun b => bif gl h.M.gl then K (.v (.bool b)) h else false) = true := hk
    rw [renHK_eq] at hk
    cases hh : renH 0 L h.H L .e with
    | none => rw [hh] at hk; exact absurd hk Bool.false_ne_true
    | some H0 =>
      rw [hh] at hk
      have hk : (natK L.length fun n => findE tab args' H0 n fun b => bif gl h.M.gl then K (.v (.bool b)) h else false) = true := hk
      rw [natK_eq] at hk
      obtain ⟨E, hE, hnx, hargsE, hbl, hk2⟩ := findE_mem hk
      subst hargsE
      cases hg : gl h.M.gl with
      | false => rw [hg] at hk2; exact absurd hk2 Bool.false_ne_true
      | true =>
        rw [hg] at hk2
        have hk : K (.v (.bool E.ans)) h = true := hk2
        have hH0 := renH_spec _ _ _ hh (fun k B' hg => by rw [T.get_e] at hg; cases hg)
        have hsub : ∀ {i x}, (setsT E.bl .e).get i = some x → H0.get i = some x := fun {i x} hi => by
          rcases setsT_get hi with hi | hi
          · exact blsIn_mem hbl _ hi
          · rw [T.get_e] at hi; cases hi
        generalize hHE : setsT E.bl .e = H at hsub
        have R1 := (R.ren hH0).less (H' := H) fun b B hb => hsub hb
        rw [Nat.zero_add] at R1
        obtain ⟨d1, d2⟩ := renVs_den (ρ := ρ) args E.args hr (lts_iff.2 hargs)
        rw [Nat.zero_add] at d2
        -- memory without what the arguments reach
        let ρ1 : Nat → Loc := fun k => ρ (backN 0 L k)
        let inH : Nat → Prop := fun j => ∃ i B, H.get i = some B ∧ (ρ1 i).blk = j
        have hout : ∀ j o, h.M.blk j = some o → ¬ inH j := fun j o hj ⟨i, B, hi, he⟩ => by
          have := R1.apart i B hi
          have he : (ρ (backN 0 L i)).blk = j := he
          have this : h.M.blk (ρ (backN 0 L i)).blk = none := this
          rw [he, hj] at this; cases this
        have houtA : ∀ j o, h.M.A.blk j = some o → ¬ inH j := fun j o hj ⟨i, B, hi, he⟩ => by
          have := R1.aprA i B hi
          have he : (ρ (backN 0 L i)).blk = j := he
          have this : h.M.A.blk (ρ (backN 0 L i)).blk = none := this
          rw [he, hj] at this; cases this
        have hgl : ∀ g cs, (g, cs) ∈ h.M.gl → ∃ c t fz, (if inH g then none else w.heap[g]?) = some (.cells c t fz) ∧ ∀ (i : Nat) v, cs[i]? = some v → c[i]? = some v := by
          intro g cs hgc
          obtain ⟨c, t, fz, h1, h2⟩ := h.M.glok g cs hgc
          refine ⟨c, t, fz, ?_, h2⟩
          rw [if_neg (hout g _ h1)]
          exact R.mem g _ h1
        let M : Mem := ⟨fun j => if inH j then none else w.heap[j]?, h.M.os, h.M.out, h.M.tape, h.M.gl, hgl, .none⟩
        have R2 : HRel ρ1 ⟨H, L.length, M⟩ w := by
          refine ⟨R.os, R.out, R.tape, fun j o hj => ?_, R1.blk, R1.inj, fun b B hb => ?_, fun k o hk => (by cases hk), fun b B hb => rfl, fun k o hk => (by cases hk)⟩
          · have hj : (if inH j then none else w.heap[j]?) = some o := hj
            split at hj
            · cases hj
            · exact hj
          · show (if inH (ρ1 b).blk then none else w.heap[(ρ1 b).blk]?) = none
            rw [if_pos ⟨b, B, hb, rfl⟩]
        have hrun := hT E hE M hg
        unfold entK at hrun
        rw [setsK_eq, hHE, ← hnx] at hrun
        have hgo := sxCall_sound hm hC hΛ n f E.args ⟨H, L.length, M⟩ _ hrun ρ1 w R2 (lts_iff.1 d2)
        have hden : (E.args.map (SV.den ρ1)) = args.map (SV.den ρ) := by rw [← dens_eq, ← dens_eq]; exact d1
        rw [hden] at hgo
        -- what is left
        have fin : ∀ v w', Post ρ1 ⟨H, L.length, M⟩ (ansK E) v w' → Post ρ h K v w' := by
          intro v w' ⟨z, h', ρ2, hz, hv, _, R3, hx, _, hM⟩
          unfold ansK at hz
          cases hit : isB E.ans z with
          | false => rw [hit] at hz; exact absurd hz Bool.false_ne_true
          | true =>
            rw [hit] at hz
            have hz : blsIn h'.H E.bl = true := hz
            have := isB_eq hit
            subst this
            have stay : ∀ j o, ¬ inH j → w.heap[j]? = some o → w'.heap[j]? = some o := fun j o hj ho => by
              refine R3.mem j o (hM.1 j o ?_)
              show (if inH j then none else w.heap[j]?) = some o
              rw [if_neg hj]; exact ho
            refine ⟨.v (.bool E.ans), h, ρ, hk, hv, trivial, ?_, Ext.refl _ _, Nat.le_refl _, Mem.le_refl _⟩
            refine ⟨R3.os.trans hM.2.1, R3.out.trans hM.2.2.1, R3.tape.trans hM.2.2.2, fun j o hj => stay j o (hout j o hj) (R.mem j o hj), fun b B hb => ?_, R.inj, R.apart, fun j o hj => stay j o (houtA j o hj) (R.are j o hj), R.aprA, R.disj⟩
            obtain ⟨k1, k2, k3⟩ := R.blk b B hb
            refine ⟨k1, k2, ?_⟩
            by_cases hin : inH (ρ b).blk
            · obtain ⟨i, B', hi, he⟩ := hin
              obtain ⟨b', C', c1, c2, c3⟩ := hH0 i B' (hsub hi)
              obtain ⟨g1, g2⟩ := ixN_spec c2
              rw [Nat.zero_add] at g2
              have he : (ρ (backN 0 L i)).blk = (ρ b).blk := he
              rw [g1] at he
              have := R.inj b' b C' B c1 hb he
              subst this
              rw [c1] at hb
              injection hb with hb
              subst hb
              have hi' : h'.H.get i = some B' := by
                rw [← hHE] at hi
                rcases setsT_get hi with hi | hi
                · exact blsIn_mem hz _ hi
                · rw [T.get_e] at hi; cases hi
              obtain ⟨_, _, f3⟩ := R3.blk i B' hi'
              have e1 : ρ2 i = ρ1 i := hx i g2
              have l1 := (R1.blk i B' hi).2.1
              have l2 : B'.lt ρ2 L.length := SBlk.lt_ext hx (Nat.le_refl _) l1
              have f4 := f3.of (ρ' := ρ1) (w' := w') (n := L.length) (fun j hj => (hx j hj).symm) l2 rfl
              rw [e1] at f4
              have f5 := renB_back (ρ := ρ) c3 k2 f4
              have : ρ1 i = ρ b' := by show ρ (backN 0 L i) = ρ b'; rw [g1]
              rw [this] at f5; exact f5
            · have hs : w'.heap[(ρ b).blk]? = w.heap[(ρ b).blk]? := by
                have := k3.size
                have h1 : w.heap[(ρ b).blk]? = some w.heap[(ρ b).blk] := Array.getElem?_eq_getElem this
                rw [h1]; exact stay _ _ hin h1
              exact k3.of (Ext.refl ρ h.nx) k2 hs
        exact hgo.mono fin fun _ _ h => h

end
end Go.Sx

namespace Go.Sx
noncomputable section
variable {dfs : List Deferred}

def blocksOf (id : Nat) : Code → List Code
  | .seq a b => blocksOf id a ++ blocksOf id b
  | .cond _ a b => blocksOf id a ++ blocksOf id b
  | .block i a => (bif Nat.beq i id then [a] else []) ++ blocksOf id a
  | .loop a => blocksOf id a
  | .scope a => blocksOf id a
  | _ => []

theorem blocksOf_in {id : Nat} {c b : Code} (h : InC c b) : ∀ x ∈ blocksOf id c, x ∈ blocksOf id b := by
  induction h with
  | refl c => exact fun _ h => h
  | seqL _ ih => exact fun x hx => ih x (by simp only [blocksOf, List.mem_append]; exact .inl hx)
  | seqR _ ih => exact fun x hx => ih x (by simp only [blocksOf, List.mem_append]; exact .inr hx)
  | condL _ ih => exact fun x hx => ih x (by simp only [blocksOf, List.mem_append]; exact .inl hx)
  | condR _ ih => exact fun x hx => ih x (by simp only [blocksOf, List.mem_append]; exact .inr hx)
  | block _ ih => exact fun x hx => ih x (by simp only [blocksOf, List.mem_append]; exact .inr hx)
  | loop _ ih => exact fun x hx => ih x (by simp only [blocksOf]; exact hx)
  | scope _ ih => exact fun x hx => ih x (by simp only [blocksOf]; exact hx)

/-- A function's only block of this number. -/
def blockAt (P : Program) (f : FuncId) (id : Nat) : Option Code := match fnOf P f with
  | some fn => match fn.body with
    | some b => match blocksOf id b with
      | [c] => some c
      | _ => none
    | none => none
  | none => none

theorem blockAt_within {P : Program} {f : FuncId} {id : Nat} {c0 c : Code} (h : blockAt P f id = some c0) (hW : Within P f (.block id c)) : c = c0 := by
  obtain ⟨fn, b, h1, h2, h3⟩ := hW
  unfold blockAt at h
  split at h
  · rename_i fn' hfn
    have := fn_of hfn
    rw [h1] at this
    injection this with this
    subst this
    rw [h2] at h
    simp only at h
    split at h
    · rename_i c' hc
      injection h with h; subst h
      have hm : c ∈ blocksOf id (.block id c) := by
        simp only [blocksOf, Nat.beq_refl, cond_true, List.mem_append, List.mem_singleton, true_or]
      have := blocksOf_in h3 c hm
      rw [hc] at this
      exact List.mem_singleton.1 this
    · cases h
  · cases h

/-- What is told of a state behind the round: all blocks, or none. -/
def St.after (S : St) : List (Nat × SBlk) := bif S.keep then S.bl else []

theorem St.after_mem {S : St} {x : Nat × SBlk} (h : x ∈ S.after) : x ∈ S.bl := by
  unfold St.after at h
  cases hk : S.keep with
  | false => rw [hk] at h; cases h
  | true => rw [hk] at h; exact h

/-- As the state was. -/
def keptK (S : St) : KT := fun e tm h => match e with
  | .nrm => bif slsIn tm S.sl then blsIn h.H S.after else false
  | _ => false

def plainL : List (Nat × SV) → Bool
  | [] => true
  | s :: ss => match s.2 with
    | .v _ => plainL ss
    | _ => false

theorem plainL_mem : ∀ {l : List (Nat × SV)}, plainL l = true → ∀ s ∈ l, ∃ v, s.2 = .v v
  | [], _, _, h => by cases h
  | x :: xs, h, s, hs => by
    simp only [plainL] at h
    split at h
    · rename_i v hv
      rcases List.mem_cons.1 hs with rfl | hs
      · exact ⟨v, hv⟩
      · exact plainL_mem h s hs
    · exact absurd h Bool.false_ne_true

/-- The next block's number is that of the state, or does not matter. -/
def okNx (S : St) (nx : Nat) : Bool := bif Nat.beq nx S.nx then true else (match S.bl with
  | [] => plainL S.sl
  | _ => false)

/-- Which of these states is it? -/
def findS : List St → T SV → HS → (St → Bool) → Bool
  | [], _, _, _ => false
  | S :: Ss, tm, h, k => bif okNx S h.nx then (bif slsIn tm S.sl then (bif blsIn h.H S.bl then k S else findS Ss tm h k) else findS Ss tm h k) else findS Ss tm h k

theorem findS_mem {tm : T SV} {h : HS} {k : St → Bool} : ∀ {l : List St}, findS l tm h k = true → ∃ S ∈ l, okNx S h.nx = true ∧ slsIn tm S.sl = true ∧ blsIn h.H S.bl = true ∧ k S = true
  | [], hk => by cases hk
  | S :: Ss, hk => by
    have rec' : findS Ss tm h k = true → ∃ S' ∈ S :: Ss, okNx S' h.nx = true ∧ slsIn tm S'.sl = true ∧ blsIn h.H S'.bl = true ∧ k S' = true := fun h => by
      obtain ⟨S', h1, h2⟩ := findS_mem h
      exact ⟨S', List.mem_cons_of_mem _ h1, h2⟩
    simp only [findS] at hk
    cases h1 : okNx S h.nx with
    | false => rw [h1] at hk; exact rec' hk
    | true =>
      rw [h1] at hk
      cases h2 : slsIn tm S.sl with
      | false => rw [h2] at hk; exact rec' hk
      | true =>
        rw [h2] at hk
        cases h3 : blsIn h.H S.bl with
        | false => rw [h3] at hk; exact rec' hk
        | true =>
          rw [h3] at hk
          exact ⟨S, by simp, h1, h2, h3, hk⟩

/-- A block whose rounds out of these states are known. -/
def toldLT (gl : List (Nat × List Value) → Bool) (sz0 : Nat) (sts : List St) : LT := fun _ sz K tm h =>
  bif Nat.beq sz sz0 then (bif gl h.M.gl then findS sts tm h fun S => setsK S.sl .e fun tm => setsK S.after .e fun H => natK h.nx fun nx => K .nrm tm ⟨H, nx, h.M⟩ else false) else false

/-- A round out of one of them. -/
def roundK (P : Program) (C : FuncId → Option CT) (Λ : LTab) (n : Nat) (f : FuncId) (id sz : Nat) (S : St) (M : Mem) : Bool := match blockAt P f id with
  | some c => setsK S.sl .e fun tm => setsK S.bl .e fun H => sxCode P C Λ n f sz c (blkK id (keptK S)) tm ⟨H, S.nx, M⟩
  | none => false

/-- Memory whose arena stays too. -/
def Mem.shut (M : Mem) : Mem where
  blk := fun k => match M.blk k with
    | some o => some o
    | none => M.A.blk k
  os := M.os
  out := M.out
  tape := M.tape
  gl := M.gl
  glok := fun g cs h => by
    obtain ⟨c, t, fz, h1, h2⟩ := M.glok g cs h
    exact ⟨c, t, fz, by rw [h1], h2⟩
  X := .none

theorem HRel.shut {ρ : Nat → Loc} {h : HS} {w : World} (R : HRel ρ h w) : HRel ρ ⟨h.H, h.nx, h.M.shut⟩ w := by
  refine ⟨R.os, R.out, R.tape, fun k o hk => ?_, R.blk, R.inj, fun b B hb => ?_, fun k o hk => (by cases hk), fun b B hb => rfl, fun k o hk => (by cases hk)⟩
  · have hk : (match h.M.blk k with
      | some o => some o
      | none => h.M.A.blk k) = some o := hk
    split at hk
    · rename_i o' ho
      injection hk with hk; subst hk
      exact R.mem k _ ho
    · exact R.are k o hk
  · show (match h.M.blk (ρ b).blk with
      | some o => some o
      | none => h.M.A.blk (ρ b).blk) = none
    rw [R.apart b B hb]; exact R.aprA b B hb

theorem shut_blk {M : Mem} {k : Nat} {o : Obj} (h : M.blk k = some o) : M.shut.blk k = some o := by
  show (match M.blk k with
    | some o => some o
    | none => M.A.blk k) = some o
  rw [h]

theorem shut_are {M : Mem} {k : Nat} {o : Obj} (hd : M.blk k = none) (h : M.A.blk k = some o) : M.shut.blk k = some o := by
  show (match M.blk k with
    | some o => some o
    | none => M.A.blk k) = some o
  rw [hd]; exact h

theorem told_sound {P : Program} (hm : P.follows .mixedOrders = true) {C : FuncId → Option CT} (hC : CTSound P C) {Λ : LTab} (hΛ : LTSound P Λ) {n : Nat} {f : FuncId} {id sz0 : Nat} {gl : List (Nat × List Value) → Bool} {sts : List St} {c0 : Code} (hc0 : blockAt P f id = some c0)
    (hT : ∀ S ∈ sts, ∀ M : Mem, gl M.gl = true → roundK P C Λ n f id sz0 S M = true) {c : Code} {sz : Nat} {K : KT} {tm : T SV} {h : HS} (hW : Within P f (.block id c)) (hk : toldLT gl sz0 sts c sz K tm h = true)
    {ρ : Nat → Loc} {a : Act} {w : World} (A : ARel dfs ρ tm sz h.nx a) (R : HRel ρ h w) : (Code.block id c).wp P (GoesX dfs ρ h sz K) a w := by
  have := blockAt_within hc0 hW
  subst this
  unfold toldLT at hk
  cases hs : Nat.beq sz sz0 with
  | false => rw [hs] at hk; exact absurd hk Bool.false_ne_true
  | true =>
    have hs := Nat.eq_of_beq_eq_true hs
    subst hs
    simp only [Nat.beq_refl, cond_true] at hk
    cases hg : gl h.M.gl with
    | false => rw [hg] at hk; exact absurd hk Bool.false_ne_true
    | true =>
      rw [hg] at hk
      simp only [cond_true] at hk
      obtain ⟨S, hS, hn, h1, h2, hk⟩ := findS_mem hk
      rw [setsK_eq, setsK_eq, natK_eq] at hk
      have hr := hT S hS h.M.shut hg
      unfold roundK at hr
      rw [hc0] at hr
      simp only [setsK_eq] at hr
      have m1 : ∀ {i x}, (setsT S.sl .e).get i = some x → tm.get i = some x := fun {i x} hi => by
        rcases setsT_get hi with hi | hi
        · exact slsIn_mem h1 _ hi
        · rw [T.get_e] at hi; cases hi
      have m2 : ∀ {i x}, (setsT S.bl .e).get i = some x → h.H.get i = some x := fun {i x} hi => by
        rcases setsT_get hi with hi | hi
        · exact blsIn_mem h2 _ hi
        · rw [T.get_e] at hi; cases hi
      have m3 : ∀ {i x}, (setsT S.after .e).get i = some x → h.H.get i = some x := fun {i x} hi => by
        rcases setsT_get hi with hi | hi
        · exact blsIn_mem h2 _ (St.after_mem hi)
        · rw [T.get_e] at hi; cases hi
      have m4 : ∀ {i x}, (setsT S.after .e).get i = some x → (setsT S.bl .e).get i = some x := fun {i x} hi => by
        unfold St.after at hi
        cases hk' : S.keep with
        | false =>
          rw [hk'] at hi
          have hi : (T.e : T SBlk).get i = some x := hi
          rw [T.get_e] at hi; cases hi
        | true => rw [hk'] at hi; exact hi
      have A0 : ARel dfs ρ (setsT S.sl .e) sz h.nx a := ⟨A.size, fun i x hi => A.at_ i x (m1 hi), A.defers⟩
      have R0 : HRel ρ ⟨setsT S.bl .e, h.nx, h.M.shut⟩ w := HRel.less (h := ⟨h.H, h.nx, h.M.shut⟩) R.shut fun b B hb => m2 hb
      have both : ARel dfs ρ (setsT S.sl .e) sz S.nx a ∧ HRel ρ ⟨setsT S.bl .e, S.nx, h.M.shut⟩ w := by
        unfold okNx at hn
        cases he : Nat.beq h.nx S.nx with
        | true =>
          have he := Nat.eq_of_beq_eq_true he
          rw [← he]
          exact ⟨A0, R0⟩
        | false =>
          rw [he] at hn
          simp only [cond_false] at hn
          split at hn
          · rename_i hb
            refine ⟨⟨A0.size, fun i x hi => ⟨?_, (A0.at_ i x hi).2⟩, A0.defers⟩, R0.os, R0.out, R0.tape, R0.mem, fun b B hB => ?_, R0.inj, R0.apart, R0.are, R0.aprA, R0.disj⟩
            · rcases setsT_get hi with hi | hi
              · obtain ⟨v, hv⟩ := plainL_mem hn _ hi
                have hv : x = .v v := hv
                subst hv; trivial
              · rw [T.get_e] at hi; cases hi
            · have hB : (setsT S.bl .e).get b = some B := hB
              rw [hb] at hB
              have hB : (T.e : T SBlk).get b = some B := hB
              rw [T.get_e] at hB; cases hB
          · exact absurd hn Bool.false_ne_true
      obtain ⟨A1, R1⟩ := both
      have fin : ∀ a' w', Goes dfs ρ ⟨setsT S.bl .e, S.nx, h.M.shut⟩ sz (keptK S .nrm) a' w' → Goes dfs ρ h sz (K .nrm) a' w' := by
        intro a' w' ⟨tm', h', ρ', hk', A2, R2, hx, hnx, hM⟩
        simp only [keptK] at hk'
        cases h3 : slsIn tm' S.sl with
        | false => rw [h3] at hk'; exact absurd hk' Bool.false_ne_true
        | true =>
          rw [h3] at hk'
          have h4 : blsIn h'.H S.after = true := hk'
          refine ⟨_, _, ρ, hk, ⟨A2.size, fun i x hi => ?_, A2.defers⟩, ?_, Ext.refl _ _, Nat.le_refl _, Mem.le_refl _⟩
          · obtain ⟨l1, _⟩ := A1.at_ i x hi
            have hi' : tm'.get i = some x := by
              rcases setsT_get hi with hi | hi
              · exact slsIn_mem h3 _ hi
              · rw [T.get_e] at hi; cases hi
            obtain ⟨_, l2⟩ := A2.at_ i x hi'
            refine ⟨(A0.at_ i x hi).1, ?_⟩
            rw [l2, SV.den_ext hx x l1]
          · have R3 := R.less (H' := setsT S.after .e) fun b B hb => m3 hb
            refine ⟨R2.os.trans hM.2.1, R2.out.trans hM.2.2.1, R2.tape.trans hM.2.2.2, fun j o hj => R2.mem j o (hM.1 j o (shut_blk hj)), fun b B hb => ?_, R3.inj, R3.apart, fun j o hj => R2.mem j o (hM.1 j o (shut_are (R3.disj j o hj) hj)), R3.aprA, R3.disj⟩
            obtain ⟨g1, g2, _⟩ := R3.blk b B hb
            have hb' : h'.H.get b = some B := by
              rcases setsT_get hb with hb | hb
              · exact blsIn_mem h4 _ hb
              · rw [T.get_e] at hb; cases hb
            have hb1 : (setsT S.bl .e).get b = some B := m4 hb
            obtain ⟨j1, j2, _⟩ := R1.blk b B hb1
            obtain ⟨_, _, f3⟩ := R2.blk b B hb'
            refine ⟨g1, g2, ?_⟩
            have e1 : ρ' b = ρ b := hx b j1
            have l1 : B.lt ρ' S.nx := SBlk.lt_ext hx (Nat.le_refl _) j2
            have f4 := f3.of (ρ' := ρ) (w' := w') (n := S.nx) (fun j hj => (hx j hj).symm) l1 rfl
            rw [e1] at f4
            exact f4
      refine wp_block (wp_mono ((sxCode_wp hm hC hΛ n).1 _ _ _ _ _ _ (hW.to .block) hr dfs ρ a w A1 R1) fun e a' w' g => ?_)
      cases e with
      | normal => exact fin a' w' g
      | exit i =>
        obtain ⟨tm', h', ρ', hk', A', H', hx, hnx, hm'⟩ := g
        simp only [blkK] at hk'
        cases hb : Nat.beq i id with
        | true =>
          rw [hb] at hk'
          have := Nat.eq_of_beq_eq_true hb
          subst this
          simp only [Exit.inBlock, if_true]
          exact fin a' w' ⟨tm', h', ρ', hk', A', H', hx, hnx, hm'⟩
        | false =>
          rw [hb] at hk'
          simp only [cond_false, keptK] at hk'
          exact absurd hk' Bool.false_ne_true
      | ret => obtain ⟨_, _, _, hk', _⟩ := g; exact absurd hk' Bool.false_ne_true
      | goto l => exact g.elim
      | panic c => obtain ⟨_, _, _, _, _, _, hk', _⟩ := g; exact absurd hk' Bool.false_ne_true
      | outgrown => exact g.elim

end
end Go.Sx

namespace Go.Sx
noncomputable section

def noE : SV → T SV → HS → Bool := fun _ _ _ => false

theorem not_goesE {ds : List Deferred} {ρ : Nat → Loc} {h : HS} {sz : Nat} {c : List PanicEntry} {a : Act} {w : World} : ¬ GoesE ds ρ h sz noE c a w := fun ⟨_, _, _, _, _, _, hk, _⟩ => absurd hk Bool.false_ne_true

/-- Operations in the text's order, ahead of others. -/
theorem fxOps_pre {ds : List Deferred} {P : Program} {call : CallT} (CS : CallSound P call) {sz : Nat} {ops : Array Oper} {K : T SV → HS → Bool} {E : SV → T SV → HS → Bool} {Q : Exit → Act → World → Prop} {l' : List Nat} : ∀ (l : List Nat) (os : List Oper), l.map (fun i => ops[i]?) = os.map some →
    ∀ {tm : T SV} {h : HS}, fxOps P call sz E ops.toList K os tm h → ∀ {ρ : Nat → Loc} {a : Act} {w : World}, ARel ds ρ tm sz h.nx a → HRel ρ h w → (∀ a' w', Goes ds ρ h sz K a' w' → wpOps P ops Q l' a' w') → (∀ c a' w', GoesE ds ρ h sz E c a' w' → Q (.panic c) a' w') → wpOps P ops Q (l ++ l') a w := by
  intro l
  induction l with
  | nil =>
    intro os hos tm h hk ρ a w A H hn hp
    cases os with
    | nil => exact hn a w ⟨tm, h, ρ, hk, A, H, Ext.refl _ _, Nat.le_refl _, Mem.le_refl _⟩
    | cons o os => simp at hos
  | cons i l ih =>
    intro os hos tm h hk ρ a w A H hn hp
    cases os with
    | nil => simp at hos
    | cons o os =>
      simp only [List.map_cons, List.cons.injEq] at hos
      obtain ⟨hi, hos⟩ := hos
      simp only [List.cons_append, wpOps, hi]
      rw [fxOps_cons] at hk
      obtain ⟨b, tm', hk', A', hw⟩ := guardS_rel hk A
      rw [hw]
      cases b with
      | true =>
        simp only [if_true]
        refine .inl (fxOp_wp CS hk' A' H (fun a' w' g => ?_) hp)
        obtain ⟨tm2, h2, ρ2, k2, A2, H2, x2, n2, m2⟩ := g
        exact ih os hos k2 A2 H2 (fun a3 w3 g3 => hn a3 w3 (g3.trans x2 n2 m2)) fun c a3 w3 g3 => hp c a3 w3 (g3.trans x2 n2 m2)
      | false =>
        simp only [Bool.false_eq_true, if_false]
        simp only [cond_false] at hk'
        obtain ⟨tm2, k2, A2⟩ := setDst_rel (v := svUndef) hk' A' trivial
        exact ih os hos k2 A2 H hn hp

/-- The same, in a deferred callee. -/
theorem fxOpsS_wp {ds : List Deferred} {P : Program} {call : CallT} (CS : CallSound P call) {sz : Nat} {ops : Array Oper} {K : T SV → HS → Bool} {E : SV → T SV → HS → Bool} {Q : Exit → Act → List Frame → World → Prop} {cs : List Frame} : ∀ (l : List Nat) (os : List Oper), l.map (fun i => ops[i]?) = os.map some →
    ∀ {tm : T SV} {h : HS}, fxOps P call sz E ops.toList K os tm h → ∀ {ρ : Nat → Loc} {a : Act} {w : World}, ARel ds ρ tm sz h.nx a → HRel ρ h w → (∀ a' w', Goes ds ρ h sz K a' w' → Q .normal a' cs w') → (∀ c a' w', GoesE ds ρ h sz E c a' w' → Q (.panic c) a' cs w') → wpOpsS P ops Q l a cs w := by
  intro l
  induction l with
  | nil =>
    intro os hos tm h hk ρ a w A H hn hp
    cases os with
    | nil => exact hn a w ⟨tm, h, ρ, hk, A, H, Ext.refl _ _, Nat.le_refl _, Mem.le_refl _⟩
    | cons o os => simp at hos
  | cons i l ih =>
    intro os hos tm h hk ρ a w A H hn hp
    cases os with
    | nil => simp at hos
    | cons o os =>
      simp only [List.map_cons, List.cons.injEq] at hos
      obtain ⟨hi, hos⟩ := hos
      simp only [wpOpsS, hi]
      rw [fxOps_cons] at hk
      obtain ⟨b, tm', hk', A', hw⟩ := guardS_rel hk A
      rw [hw]
      cases b with
      | true =>
        simp only [if_true]
        have key : o.wp P a w (fun a' w' => wpOpsS P ops Q l a' cs w') (fun e a' w' => Q e a' cs w') := by
          refine fxOp_wp CS hk' A' H (fun a' w' g => ?_) hp
          obtain ⟨tm2, h2, ρ2, k2, A2, H2, x2, n2, m2⟩ := g
          exact ih os hos k2 A2 H2 (fun a3 w3 g3 => hn a3 w3 (g3.trans x2 n2 m2)) fun c a3 w3 g3 => hp c a3 w3 (g3.trans x2 n2 m2)
        unfold Oper.wp at key
        split
        · rename_i w' hr
          rw [hr] at key
          exact key.elim
        · exact key
      | false =>
        simp only [Bool.false_eq_true, if_false]
        simp only [cond_false] at hk'
        obtain ⟨tm2, k2, A2⟩ := setDst_rel (v := svUndef) hk' A' trivial
        exact ih os hos k2 A2 H hn hp

/-! ### The deferred callee -/

/-- Its way out. -/
def dK (F : HS → Bool) : KT := fun e _ h => match e with
  | .nrm => F h
  | .ret => F h
  | _ => false

/-- What 'recover' tells. -/
def recOf (px : Option SV) : SV := match px with
  | none => .v .nilIface
  | some x => x

def isRec (o : Oper) : Bool := match o.guard with
  | some _ => false
  | none => match o.op with
    | .call c => match c.callee with
      | .builtin b => (match b with
        | .recover => true
        | _ => false)
      | _ => false
    | _ => false

theorem isRec_run {P : Program} {o : Oper} (h : isRec o = true) (ε : Operand → Value) (w : World) : o.guard = none ∧ (execOp ε o).run P w = .ok .recover w := by
  unfold isRec at h
  split at h
  · cases h
  · rename_i hg
    refine ⟨hg, ?_⟩
    split at h
    · rename_i c hc
      split at h
      · rename_i b hb
        cases b <;> first | (cases h; done) | (unfold execOp; rw [hc]; simp only [resolve, hb, Sem.run_bind, Sem.run_pure, Result.andThen_ok, invoke, builtin])
      · cases h
    · cases h

/-- The callee, run; what is told of it is the state that it leaves. -/
def dRun (P : Program) (C : FuncId → Option CT) (Λ : LTab) (n : Nat) (g : FuncId) (caps : List SV) (px : Option SV) (h : HS) (F : HS → Bool) : Bool :=
  match fnOf P g with
  | none => false
  | some fn => bif fn.name == "runtime.NumGoroutine" then false else
    match fn.results.toList with
    | _ :: _ => false
    | [] => match fn.body with
      | some (.seq (.region _ ops draw) rest) => bif draw then false else (match ops.toList with
        | [] => false
        | o :: os => bif isRec o then setDst (caps.length + (fn.ntmps - caps.length)) o.dst (recOf px) (fun tm => fxOps P (sxCallE P C Λ n) (caps.length + (fn.ntmps - caps.length)) noE (o :: os) (fun tm h => sxCode P C Λ n g (caps.length + (fn.ntmps - caps.length)) rest (dK F) tm h) os tm h) (T.ofList caps) else false)
      | _ => false

/-- A state that goes on. -/
def GoesH (ρ : Nat → Loc) (h : HS) (F : HS → Bool) (w' : World) : Prop := ∃ h' ρ', F h' ∧ HRel ρ' h' w' ∧ Ext ρ ρ' h.nx ∧ h.nx ≤ h'.nx ∧ h.M.le h'.M

/-- Ahead of the deferred callee. -/
def modeOf (ρ : Nat → Loc) (px : Option SV) : FrameMode := match px with
  | none => .returning
  | some x => .panicking (pnc (x.den ρ))

theorem act_start {ρ : Nat → Loc} {nx k : Nat} {caps : List SV} (hl : ∀ x ∈ caps, x.lt ρ nx) : ARel [] ρ (T.ofList caps) (caps.length + (k - caps.length)) nx { tmps := (caps.map (SV.den ρ)).toArray ++ Array.replicate (k - (caps.map (SV.den ρ)).toArray.size) undef, defers := [] } := by
  refine ⟨by simp, fun i x hi => ?_, rfl⟩
  have hx := T.get_ofList hi
  refine ⟨hl x (List.mem_of_getElem? hx), ?_⟩
  have hlt := (List.getElem?_eq_some_iff.1 hx).1
  rw [Array.getElem?_append_left (by simpa using hlt)]
  simp [hx]

theorem results_none {P : Program} {fn : Func} (h : fn.results.toList = []) (tmps : Array Value) (w : World) : (results fn tmps).run P w = .ok (.tuple #[]) w := by
  have h0 : fn.results = #[] := Array.toList_inj.1 h
  rw [results_eq, h0, Array.mapM_eq_mapM_toList]
  simp

theorem dRun_goes {P : Program} (hm : P.follows .mixedOrders = true) {C : FuncId → Option CT} (hC : CTSound P C) {Λ : LTab} (hΛ : LTSound P Λ) {n : Nat} {g : FuncId} {caps : List SV} {px : Option SV} {h : HS} {F : HS → Bool} (hk : dRun P C Λ n g caps px h F = true)
    {ρ : Nat → Loc} {w : World} (R : HRel ρ h w) (hcaps : ∀ x ∈ caps, x.lt ρ h.nx) (hpx : ∀ x, px = some x → x.lt ρ h.nx) :
    (∃ fn, P.funcs[g]? = some fn ∧ (fn.name == "runtime.NumGoroutine") = false ∧ fn.body.isNone = false) ∧
    CallsD P g (caps.map (SV.den ρ)).toArray (modeOf ρ px) w fun e u' w' => e = .returned (.tuple #[]) ∧ settle u' = .returning ∧ GoesH ρ h F w' := by
  unfold dRun at hk
  split at hk
  · exact absurd hk Bool.false_ne_true
  · rename_i fn hfn
    have hf := fn_of hfn
    cases hname : fn.name == "runtime.NumGoroutine" with
    | true => rw [hname] at hk; exact absurd hk Bool.false_ne_true
    | false =>
      rw [hname] at hk
      simp only [cond_false] at hk
      split at hk
      · exact absurd hk Bool.false_ne_true
      · rename_i hres
        split at hk
        · rename_i id ops draw rest hb
          cases draw with
          | true => exact absurd hk Bool.false_ne_true
          | false =>
            simp only [cond_false] at hk
            split at hk
            · exact absurd hk Bool.false_ne_true
            · rename_i o os hops
              cases hrec : isRec o with
              | false => rw [hrec] at hk; exact absurd hk Bool.false_ne_true
              | true =>
                rw [hrec] at hk
                simp only [cond_true] at hk
                refine ⟨⟨fn, hf, hname, by rw [hb]; rfl⟩, callsD_of_wpS hf hb fun c₀ cs hc₀ => ?_⟩
                have A := act_start (k := fn.ntmps) hcaps
                have hl : (recOf px).lt ρ h.nx := by
                  cases px with
                  | none => trivial
                  | some x => exact hpx x rfl
                obtain ⟨tm1, hk1, A1⟩ := setDst_rel hk A hl
                have CS := sxCallE_sound hm hC hΛ n
                have h0 : ops[0]? = some o := by
                  have := congrArg (fun l => l[0]?) hops
                  simpa using this
                have hsz : List.range ops.size = 0 :: (List.range os.length).map (· + 1) := by
                  have : ops.size = os.length + 1 := by
                    have := congrArg List.length hops
                    simpa using this
                  rw [this, List.range_succ_eq_map]
                have hmap : ((List.range os.length).map (· + 1)).map (fun i => ops[i]?) = os.map some := by
                  apply List.ext_getElem?
                  intro i
                  simp only [List.map_map, List.getElem?_map]
                  by_cases hi : i < os.length
                  · have : ops[i + 1]? = os[i]? := by
                      have := congrArg (fun l => l[i + 1]?) hops
                      simpa using this
                    rw [List.getElem?_range hi]
                    simp only [Option.map_some, Function.comp]
                    rw [this, List.getElem?_eq_getElem hi]; rfl
                  · rw [List.getElem?_eq_none (by simpa using hi), List.getElem?_eq_none (by simpa using hi)]
                    rfl
                let u' : FrameMode := match px with
                  | none => .returning
                  | some x => .panicking [{ v := x.den ρ, recovered := true }]
                have hset : settle u' = .returning := by cases px <;> rfl
                have fin : ∀ a' w', Goes [] ρ h (caps.length + (fn.ntmps - caps.length)) (fun _ h => F h) a' w' →
                    a'.defers = [] ∧ ∃ u'', { c₀ with mode := u' } :: cs = { c₀ with mode := u'' } :: cs ∧ ∃ v, (results fn a'.tmps).run P w' = .ok v w' ∧ (Ending.returned v = .returned (.tuple #[]) ∧ settle u'' = .returning ∧ GoesH ρ h F w') := by
                  intro a' w' ⟨tm', h', ρ', k', A', R', x', n', m'⟩
                  exact ⟨A'.defers, u', rfl, _, results_none hres _ _, rfl, hset, h', ρ', k', R', x', n', m'⟩
                refine wpS_seq (wpS_region ?_)
                rw [hsz]
                obtain ⟨hg, hrun⟩ := isRec_run (P := P) hrec (Act.eval { tmps := (caps.map (SV.den ρ)).toArray ++ Array.replicate (fn.ntmps - (caps.map (SV.den ρ)).toArray.size) undef, defers := [] }) w
                have hwant : ∀ y, Region.wanted o y = true := fun y => by simp [Region.wanted, hg]
                have rest' : wpOpsS P ops (Exit.thenS (rest.wpS P (bodyPostS P fn c₀ cs fun e u' w' => e = .returned (.tuple #[]) ∧ settle u' = .returning ∧ GoesH ρ h F w')) (bodyPostS P fn c₀ cs fun e u' w' => e = .returned (.tuple #[]) ∧ settle u' = .returning ∧ GoesH ρ h F w'))
                    ((List.range os.length).map (· + 1)) (Act.put { tmps := (caps.map (SV.den ρ)).toArray ++ Array.replicate (fn.ntmps - (caps.map (SV.den ρ)).toArray.size) undef, defers := [] } o.dst ((recOf px).den ρ)) ({ c₀ with mode := u' } :: cs) w := by
                  have hk2 : fxOps P (sxCallE P C Λ n) (caps.length + (fn.ntmps - caps.length)) noE ops.toList (fun tm h => sxCode P C Λ n g (caps.length + (fn.ntmps - caps.length)) rest (dK F) tm h) os tm1 h = true := by rw [hops]; exact hk1
                  refine fxOpsS_wp CS _ os hmap hk2 A1 R (fun a' w' g => ?_) fun c a' w' g => (not_goesE g).elim
                  obtain ⟨tm2, h2, ρ2, k2, A2, R2, x2, n2, m2⟩ := g
                  show rest.wpS P _ a' _ w'
                  refine wpS_of_wp (wp_mono ((sxCode_wp hm hC hΛ n).1 _ _ _ _ _ _ ⟨fn, _, hf, hb, .seqR (.refl _)⟩ k2 [] ρ2 a' w' A2 R2) fun e a3 w3 g3 => ?_)
                  cases e with
                  | normal => exact fin a3 w3 (Goes.trans g3 x2 n2 m2)
                  | ret => exact fin a3 w3 (Goes.trans g3 x2 n2 m2)
                  | exit i => obtain ⟨_, _, _, hk', _⟩ := g3; exact absurd hk' Bool.false_ne_true
                  | goto l => exact g3.elim
                  | panic c => obtain ⟨_, _, _, _, _, _, hk', _⟩ := g3; exact absurd hk' Bool.false_ne_true
                  | outgrown => exact g3.elim
                simp only [wpOpsS, h0, hwant, if_true, hrun]
                cases px with
                | none =>
                  have hc1 : c₀.mode = .returning := hc₀
                  have hr : recoverD (c₀ :: cs) = none := by simp [recoverD, hc1]
                  rw [hr]
                  have e1 : ({ c₀ with mode := u' } : Frame) = c₀ := by
                    show ({ c₀ with mode := FrameMode.returning } : Frame) = c₀
                    rw [← hc1]
                  rw [e1] at rest'
                  exact rest'
                | some x =>
                  have hc1 : c₀.mode = .panicking [{ v := x.den ρ, recovered := false }] := hc₀
                  have hr : recoverD (c₀ :: cs) = some (x.den ρ, { c₀ with mode := u' } :: cs) := by simp [recoverD, hc1, u']
                  rw [hr]
                  exact rest'
        · exact absurd hk Bool.false_ne_true

/-! ### The function that defers it -/

theorem results_of_resV {ds : List Deferred} {P : Program} {fn : Func} {tm : T SV} {h : HS} {ρ : Nat → Loc} {sz : Nat} {a : Act} {w : World} (A : ARel ds ρ tm sz h.nx a) (H : HRel ρ h w) {vs : List SV} (hvs : resV P tm h fn.results.toList = some vs) :
    (results fn a.tmps).run P w = .ok ((oneOf vs).den ρ) w ∧ (oneOf vs).lt ρ h.nx := by
  obtain ⟨r1, r2⟩ := resV_run A H _ _ hvs
  refine ⟨?_, ?_⟩
  · rw [results_eq, Array.mapM_eq_mapM_toList]
    simp only [Sem.run_bind, Sem.run_map]
    rw [r1]
    simp only [Result.andThen_ok, Sem.run_pure]
    congr 1
    match vs with
    | [] => simp [oneOf, SV.den, SV.dens]
    | [v] => simp [oneOf]
    | v :: u :: vs => simp [oneOf, SV.den, SV.dens, dens_eq]
  · match vs with
    | [] => trivial
    | [v] => exact r2 v (by simp)
    | v :: u :: vs => exact lts_iff.2 r2

/-- What a function hands back in the end. -/
def resK (P : Program) (rs : List ResultVar) (K : SV → HS → Bool) (tm : T SV) (h : HS) : Bool := match resV P tm h rs with
  | some vs => K (oneOf vs) h
  | none => false

/-- Its way out: the callee runs, and the results are read. -/
def outK (P : Program) (C : FuncId → Option CT) (Λ : LTab) (n : Nat) (g : FuncId) (caps : List SV) (rs : List ResultVar) (K : SV → HS → Bool) : KT := fun e tm h => match e with
  | .ext _ => false
  | .pnc x => dRun P C Λ n g caps (some x) h fun h => resK P rs K tm h
  | .nrm => dRun P C Λ n g caps none h fun h => resK P rs K tm h
  | .ret => dRun P C Λ n g caps none h fun h => resK P rs K tm h

/-- The deferred function's value. -/
def deferOf (o : Oper) : Option Operand := match o.guard with
  | some _ => none
  | none => match o.dst with
    | some _ => none
    | none => match o.op with
      | .defer c => match c.callee with
        | .value f => (match c.args.toList with
          | [] => some f
          | _ => none)
        | _ => none
      | _ => none

theorem deferOf_run {P : Program} {o : Oper} {fv : Operand} (h : deferOf o = some fv) (ε : Operand → Value) (w : World) {g : FuncId} {cap : Array Value} (hv : ε fv = .func (.func g) #[] cap) :
    o.guard = none ∧ o.dst = none ∧ (execOp ε o).run P w = .ok (.defer { target := .fn (.func g) cap, args := #[] }) w := by
  unfold deferOf at h
  split at h
  · cases h
  · rename_i hg
    split at h
    · cases h
    · rename_i hd
      refine ⟨hg, hd, ?_⟩
      split at h
      · rename_i c hc
        split at h
        · rename_i f hf
          split at h
          · rename_i ha
            injection h with h
            subst h
            have ha : c.args = #[] := Array.toList_inj.1 ha
            unfold execOp
            rw [hc]
            simp only [resolve, hf, ha, hv, Deferred.ofValue, Sem.run_bind, Sem.run_pure, Result.andThen_ok]
            simp
          · cases h
        · cases h
      · cases h

/-- A function whose first two regions lay its variables and defer a call: a contract, by the executor. -/
def deferCT (P : Program) (C : FuncId → Option CT) (Λ : LTab) (n : Nat) (f : FuncId) : CT := fun args h K =>
  match fnOf P f with
  | none => false
  | some fn => bif fn.name == "runtime.NumGoroutine" then false else
    match fn.body with
    | some (.seq (.region _ ops0 d0) (.seq (.region _ ops1 d1) rest)) => bif d0 then false else bif d1 then false else
      fxOps P (sxCallE P C Λ n) (args.length + (fn.ntmps - args.length)) noE ops0.toList (fun tm h => match ops1.toList with
        | [o1, o2] => (match deferOf o2 with
          | some fv => fxOps P (sxCallE P C Λ n) (args.length + (fn.ntmps - args.length)) noE [o1, o2] (fun tm h => match opd tm fv with
            | some z => (match asFn z with
              | some (g, caps) => sxCode P C Λ n f (args.length + (fn.ntmps - args.length)) rest (outK P C Λ n g caps fn.results.toList K) tm h
              | none => false)
            | none => false) [o1] tm h
          | none => false)
        | _ => false) ops0.toList (T.ofList args) h
    | _ => false

theorem deferCT_goes {P : Program} (hm : P.follows .mixedOrders = true) {C : FuncId → Option CT} (hC : CTSound P C) {Λ : LTab} (hΛ : LTSound P Λ) {n : Nat} {f : FuncId} {args : List SV} {h : HS} {K : SV → HS → Bool} (hk : deferCT P C Λ n f args h K = true)
    {ρ : Nat → Loc} {w : World} (R : HRel ρ h w) (hargs : ∀ x ∈ args, x.lt ρ h.nx) : CallGoes P f (args.map (SV.den ρ)).toArray w (Post ρ h K) fun _ _ => False := by
  have CS := sxCallE_sound hm hC hΛ n
  unfold deferCT at hk
  split at hk
  · exact absurd hk Bool.false_ne_true
  · rename_i fn hfn
    have hf := fn_of hfn
    cases hname : fn.name == "runtime.NumGoroutine" with
    | true => rw [hname] at hk; exact absurd hk Bool.false_ne_true
    | false =>
      rw [hname] at hk
      simp only [cond_false] at hk
      split at hk
      · rename_i id0 ops0 d0 id1 ops1 d1 rest hb
        cases d0 with
        | true => exact absurd hk Bool.false_ne_true
        | false => cases d1 with
          | true => exact absurd hk Bool.false_ne_true
          | false =>
            simp only [cond_false] at hk
            refine .inl ⟨fn, hf, ⟨hname, by rw [hb]; rfl⟩, calls_of_wp_defers hf hb ?_⟩
            have A := act_start (k := fn.ntmps) hargs
            refine wp_seq (wp_region (fxOps_wp CS (List.range ops0.size) ops0.toList ?_ hk A R (fun a1 w1 g1 => ?_) fun c a w g => (not_goesE g).elim))
            · apply List.ext_getElem?
              intro i
              simp only [List.getElem?_map]
              by_cases hi : i < ops0.size
              · rw [List.getElem?_range hi]
                simp [hi]
              · rw [List.getElem?_eq_none (by simpa using hi), List.getElem?_eq_none (by simpa using hi)]
                rfl
            · obtain ⟨tm1, h1, ρ1, k1, A1, R1, x1, n1, m1⟩ := g1
              simp only at k1
              split at k1
              · rename_i o1 o2 hops
                split at k1
                · rename_i fv hfv
                  have i0 : ops1[0]? = some o1 := by
                    have := congrArg (fun l => l[0]?) hops
                    simpa using this
                  have i1 : ops1[1]? = some o2 := by
                    have := congrArg (fun l => l[1]?) hops
                    simpa using this
                  have hsz : List.range ops1.size = [0] ++ [1] := by
                    have : ops1.size = 2 := by
                      have := congrArg List.length hops
                      simpa using this
                    rw [this]; rfl
                  show (Code.seq _ rest).wp P _ a1 w1
                  refine wp_seq (wp_region ?_)
                  rw [hsz]
                  rw [← hops] at k1
                  refine fxOps_pre CS [0] [o1] (by simp [i0]) k1 A1 R1 (fun a2 w2 g2 => ?_) fun c a w g => (not_goesE g).elim
                  obtain ⟨tm2, h2, ρ2, k2, A2, R2, x2, n2, m2⟩ := g2
                  simp only at k2
                  split at k2
                  · rename_i z hz
                    split at k2
                    · rename_i g caps hgz
                      obtain ⟨e1, e2⟩ := opd_den A2 hz
                      obtain ⟨e3, e4⟩ := asFn_den hgz ρ2 e2
                      obtain ⟨hgd, hdst, hrun⟩ := deferOf_run (P := P) hfv a2.eval w2 (e1.trans e3)
                      have hwant : ∀ y, Region.wanted o2 y = true := fun y => by simp [Region.wanted, hgd]
                      simp only [wpOps, i1, hwant, if_true]
                      refine .inl ?_
                      unfold Oper.wp
                      rw [hrun, Oper.upon_defer, hdst]
                      show rest.wp P _ _ w2
                      let d : Deferred := { target := .fn (.func g) (caps.map (SV.den ρ2)).toArray, args := #[] }
                      have A3 : ARel [d] ρ2 tm2 (args.length + (fn.ntmps - args.length)) h2.nx { a2 with defers := d :: a2.defers } := ⟨A2.size, A2.at_, by rw [A2.defers]⟩
                      -- the way out
                      have leave : ∀ (px : Option SV) (tm4 : T SV) (h4 : HS) (ρ4 : Nat → Loc) (a4 : Act) (w4 : World), (∀ x, px = some x → x.lt ρ4 h4.nx) →
                          dRun P C Λ n g caps px h4 (fun h => resK P fn.results.toList K tm4 h) = true → ARel [d] ρ4 tm4 (args.length + (fn.ntmps - args.length)) h4.nx a4 → HRel ρ4 h4 w4 → Ext ρ2 ρ4 h2.nx → h2.nx ≤ h4.nx → h2.M.le h4.M →
                          Leaves P fn a4.tmps (fun e w' => (∃ v, e = .returned v ∧ Post ρ h K v w') ∨ ∃ v, e = .panicked (pnc v) ∧ False) a4.defers (modeOf ρ4 px) w4 := by
                        intro px tm4 h4 ρ4 a4 w4 hpx k4 A4 R4 x4 n4 m4
                        have hc4 : ∀ x ∈ caps, x.lt ρ4 h4.nx := fun x hx => SV.lt_ext x4 n4 x (e4 x hx)
                        have hcap : (caps.map (SV.den ρ4)) = caps.map (SV.den ρ2) := List.map_congr_left fun x hx => SV.den_ext x4 x (e4 x hx)
                        obtain ⟨⟨fg, hfg, hng, hbg⟩, hcalls⟩ := dRun_goes hm hC hΛ k4 R4 hc4 hpx
                        rw [A4.defers]
                        refine leaves_cons (f := g) (args := (caps.map (SV.den ρ4)).toArray) ?_ ?_ (hcalls.mono fun e u' w' hor => ?_)
                        · cases px <;> (intro e; cases e)
                        · simp only [invoke, callFunc, Sem.run_bind, Result.andThen_ok, run_program, hfg, hng, hbg, Bool.false_eq_true, if_false, Sem.run_pure, hcap]
                          simp
                        · obtain ⟨he, hs, h5, ρ5, k5, R5, x5, n5, m5⟩ := hor
                          subst he
                          show Leaves P fn a4.tmps _ [] (settle u') w'
                          rw [hs]
                          have k5 : resK P fn.results.toList K tm4 h5 = true := k5
                          unfold resK at k5
                          split at k5
                          · rename_i vs hvs
                            obtain ⟨r1, r2⟩ := results_of_resV (A4.ext x5 n5) R5 hvs
                            refine ⟨_, r1, .inl ⟨_, rfl, oneOf vs, h5, ρ5, k5, rfl, r2, R5, ?_, ?_, ?_⟩⟩
                            · exact ((x1.trans x2 n1).trans x4 (Nat.le_trans n1 n2)).trans x5 (Nat.le_trans (Nat.le_trans n1 n2) n4)
                            · exact Nat.le_trans (Nat.le_trans (Nat.le_trans n1 n2) n4) n5
                            · exact Mem.le_trans (Mem.le_trans (Mem.le_trans m1 m2) m4) m5
                          · exact absurd k5 Bool.false_ne_true
                      refine wp_mono ((sxCode_wp hm hC hΛ n).1 _ _ _ _ _ _ ⟨fn, _, hf, hb, .seqR (.seqR (.refl _))⟩ k2 [d] ρ2 _ w2 A3 R2) fun e a4 w4 g4 => ?_
                      cases e with
                      | normal =>
                        obtain ⟨tm4, h4, ρ4, k4, A4, R4, x4, n4, m4⟩ := g4
                        exact leave none tm4 h4 ρ4 a4 w4 (fun x e => by cases e) k4 A4 R4 x4 n4 m4
                      | ret =>
                        obtain ⟨tm4, h4, ρ4, k4, A4, R4, x4, n4, m4⟩ := g4
                        exact leave none tm4 h4 ρ4 a4 w4 (fun x e => by cases e) k4 A4 R4 x4 n4 m4
                      | exit i => obtain ⟨_, _, _, hk', _⟩ := g4; exact absurd hk' Bool.false_ne_true
                      | goto l => exact g4.elim
                      | panic c =>
                        obtain ⟨x, tm4, h4, ρ4, hc, hl, k4, A4, R4, x4, n4, m4⟩ := g4
                        subst hc
                        exact leave (some x) tm4 h4 ρ4 a4 w4 (fun y e => by injection e with e; subst e; exact hl) k4 A4 R4 x4 n4 m4
                      | outgrown => exact g4.elim
                    · exact absurd k2 Bool.false_ne_true
                  · exact absurd k2 Bool.false_ne_true
                · exact absurd k1 Bool.false_ne_true
              · exact absurd k1 Bool.false_ne_true
      · exact absurd hk Bool.false_ne_true

end
end Go.Sx
