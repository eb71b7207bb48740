/-
  The symbolic executor: a callee whose answer (true, false) is shown at its arguments' own heap, used in any heap: what it is handed lies behind the call as it lay ahead.
-/
import Derived.Test.YtbmloajiedchjaaGreatDoorSxQ
namespace Go.Sx
noncomputable section

/-! ### States -/

def entsEq : List (SV × SV × Nat) → List (SV × SV × Nat) → Bool
  | [], [] => true
  | x :: xs, y :: ys => bif svEq x.1 y.1 then (bif svEq x.2.1 y.2.1 then (bif Nat.beq x.2.2 y.2.2 then entsEq xs ys else false) else false) else false
  | _, _ => false

theorem entsEq_eq : ∀ (l m : List (SV × SV × Nat)), entsEq l m = true → l = m
  | [], [], _ => rfl
  | (a, b, c) :: xs, (a', b', c') :: ys, h => by
    unfold entsEq at h
    cases h1 : svEq a a' with
    | false => rw [h1] at h; exact absurd h Bool.false_ne_true
    | true =>
      rw [h1] at h
      cases h2 : svEq b b' with
      | false => rw [h2] at h; exact absurd h Bool.false_ne_true
      | true =>
        rw [h2] at h
        cases h3 : Nat.beq c c' with
        | false => rw [h3] at h; exact absurd h Bool.false_ne_true
        | true =>
          rw [h3] at h
          rw [svEq_eq _ _ h1, svEq_eq _ _ h2, Nat.eq_of_beq_eq_true h3, entsEq_eq xs ys h]
  | [], _ :: _, h => by cases h
  | _ :: _, [], h => by cases h

/-- Are two blocks the same? -/
def bEq (A B : SBlk) : Bool := match A, B with
  | .cells cs es τ, .cells ds fs υ => bif Nat.beq es fs then (bif Nat.beq τ υ then svEqs cs ds else false) else false
  | .map es k, .map fs l => bif Nat.beq k l then entsEq es fs else false
  | _, _ => false

theorem bEq_eq {A B : SBlk} (h : bEq A B = true) : A = B := by
  unfold bEq at h
  split at h
  · rename_i cs es τ ds fs υ
    cases he : Nat.beq es fs with
    | false => rw [he] at h; exact absurd h Bool.false_ne_true
    | true =>
      rw [he] at h
      simp only [cond_true] at h
      cases ht : Nat.beq τ υ with
      | false => rw [ht] at h; exact absurd h Bool.false_ne_true
      | true =>
        rw [ht] at h
        rw [Nat.eq_of_beq_eq_true he, Nat.eq_of_beq_eq_true ht, svEqs_eq _ _ h]
  · rename_i es k fs l
    cases he : Nat.beq k l with
    | false => rw [he] at h; exact absurd h Bool.false_ne_true
    | true =>
      rw [he] at h
      rw [Nat.eq_of_beq_eq_true he, entsEq_eq _ _ h]
  · exact absurd h Bool.false_ne_true

/-- A state, spelled out: slots, blocks, and the next block's number. -/
structure St where
  sl : List (Nat × SV)
  bl : List (Nat × SBlk)
  nx : Nat
  keep : Bool

def slsIn (tm : T SV) : List (Nat × SV) → Bool
  | [] => true
  | s :: ss => match tm.get s.1 with
    | some v => bif svEq v s.2 then slsIn tm ss else false
    | none => false

theorem slsIn_mem {tm : T SV} : ∀ {l : List (Nat × SV)}, slsIn tm l = true → ∀ s ∈ l, tm.get s.1 = some s.2
  | [], _, s, hs => by cases hs
  | x :: xs, h, s, hs => by
    simp only [slsIn] at h
    split at h
    · rename_i v hv
      cases he : svEq v x.2 with
      | false => rw [he] at h; exact absurd h Bool.false_ne_true
      | true =>
        rw [he] at h
        rcases List.mem_cons.1 hs with rfl | hs
        · rw [hv, svEq_eq _ _ he]
        · exact slsIn_mem h s hs
    · exact absurd h Bool.false_ne_true

def blsIn (H : T SBlk) : List (Nat × SBlk) → Bool
  | [] => true
  | s :: ss => match H.get s.1 with
    | some v => bif bEq v s.2 then blsIn H ss else false
    | none => false

theorem blsIn_mem {H : T SBlk} : ∀ {l : List (Nat × SBlk)}, blsIn H l = true → ∀ s ∈ l, H.get s.1 = some s.2
  | [], _, s, hs => by cases hs
  | x :: xs, h, s, hs => by
    simp only [blsIn] at h
    split at h
    · rename_i v hv
      cases he : bEq v x.2 with
      | false => rw [he] at h; exact absurd h Bool.false_ne_true
      | true =>
        rw [he] at h
        rcases List.mem_cons.1 hs with rfl | hs
        · rw [hv, bEq_eq he]
        · exact blsIn_mem h s hs
    · exact absurd h Bool.false_ne_true

def setsK {α : Type} : List (Nat × α) → T α → (T α → Bool) → Bool
  | [], t, k => k t
  | s :: ss, t, k => setK 32 t s.1 s.2 fun t => setsK ss t k

def setsT {α : Type} : List (Nat × α) → T α → T α
  | [], t => t
  | s :: ss, t => setsT ss (t.set s.1 s.2)

theorem setsK_eq {α : Type} : ∀ (l : List (Nat × α)) (t : T α) (k : T α → Bool), setsK l t k = k (setsT l t)
  | [], _, _ => rfl
  | s :: ss, t, k => by simp only [setsK, setsT]; rw [setK_eq]; exact setsK_eq ss _ k

theorem setsT_get {α : Type} : ∀ {l : List (Nat × α)} {t : T α} {i : Nat} {x : α}, (setsT l t).get i = some x → (i, x) ∈ l ∨ t.get i = some x
  | [], _, _, _, h => .inr h
  | s :: ss, t, i, x, h => by
    rcases setsT_get (l := ss) h with h | h
    · exact .inl (List.mem_cons_of_mem _ h)
    · rcases T.get_set h with ⟨h1, h2⟩ | ⟨_, h⟩
      · subst h1; subst h2; exact .inl (by simp)
      · exact .inr h

theorem renB_back {n0 n : Nat} {L : List Nat} {ρ : Nat → Loc} {B B' : SBlk} (h : renB n0 L B = some B') (hl : B.lt ρ n) {loc : Loc} {w : World} (hr : B'.Rel (fun k => ρ (backN n0 L k)) loc w) : B.Rel ρ loc w := by
  cases B with
  | cells cs es τ =>
    simp only [renB] at h
    split at h
    · rename_i cs' hc
      injection h with h; subst h
      obtain ⟨h1, _⟩ := renVs_den cs cs' hc (lts_iff.2 hl)
      obtain ⟨c, t, fz, k1, k2, k3, k4, k5⟩ := hr
      rw [dens_eq, dens_eq] at h1
      have hl1 : cs'.length = cs.length := by
        have := congrArg List.length h1
        simpa using this
      refine ⟨c, t, fz, k1, fun i x hx => ?_, k3, ?_, by rw [← hl1]; exact k5⟩
      · have e1 : (cs.map (SV.den ρ))[i]? = some (x.den ρ) := by rw [List.getElem?_map, hx]; rfl
        rw [← h1, List.getElem?_map] at e1
        cases hy : cs'[i]? with
        | none => rw [hy] at e1; cases e1
        | some y =>
          rw [hy] at e1
          injection e1 with e1
          rw [← e1]; exact k2 i y hy
      · have : cs'.length = cs.length := by
          have := congrArg List.length h1
          simpa using this
        rw [← this]; exact k4
    · cases h
  | map es clock =>
    simp only [renB] at h
    split at h
    · rename_i es' hes
      injection h with h; subst h
      obtain ⟨h1, _⟩ := renEs_den es es' hes hl
      show w.heap[loc.blk]? = some (.map (es.map (entDen ρ)).toArray clock)
      rw [← h1]; exact hr
    · cases h
  | siter s pos => simp only [renB, Option.some.injEq] at h; subst h; exact hr
  | miter m since seen last =>
    simp only [renB] at h
    split at h
    · rename_i m' hm
      injection h with h; subst h
      obtain ⟨h1, _⟩ := ixN_spec hm
      refine ⟨hr.1, ?_⟩
      have h2 : w.heap[loc.blk]? = some (.mapIter (some (ρ (backN n0 L m')).blk) since seen.toArray last) := hr.2
      rw [h1] at h2; exact h2
    · cases h

/-- A call that is known: arguments, what they reach, the next block's number, the answer. -/
structure En where
  args : List SV
  bl : List (Nat × SBlk)
  nx : Nat
  ans : Bool

def isB (b : Bool) (r : SV) : Bool := match r with
  | .v (.bool c) => bif b then c else !c
  | _ => false

theorem isB_eq {b : Bool} {r : SV} (h : isB b r = true) : r = .v (.bool b) := by
  unfold isB at h
  split at h
  · cases b <;> simp at h <;> rw [h]
  · cases h

/-- The answer, and what it was handed as it was. -/
def ansK (E : En) (r : SV) (h : HS) : Bool := bif isB E.ans r then blsIn h.H E.bl else false

def findE : List En → List SV → T SBlk → Nat → (Bool → Bool) → Bool
  | [], _, _, _, _ => false
  | E :: Es, args, H, n, k => bif Nat.beq n E.nx then (bif svEqs args E.args then (bif blsIn H E.bl then k E.ans else findE Es args H n k) else findE Es args H n k) else findE Es args H n k

theorem findE_mem {args : List SV} {H : T SBlk} {n : Nat} {k : Bool → Bool} : ∀ {l : List En}, findE l args H n k = true → ∃ E ∈ l, n = E.nx ∧ args = E.args ∧ blsIn H E.bl = true ∧ k E.ans = true
  | [], hk => by cases hk
  | E :: Es, hk => by
    have rec' : findE Es args H n k = true → ∃ E' ∈ E :: Es, n = E'.nx ∧ args = E'.args ∧ blsIn H E'.bl = true ∧ k E'.ans = true := fun h => by
      obtain ⟨E', h1, h2⟩ := findE_mem h
      exact ⟨E', List.mem_cons_of_mem _ h1, h2⟩
    simp only [findE] at hk
    cases h1 : Nat.beq n E.nx with
    | false => rw [h1] at hk; exact rec' hk
    | true =>
      rw [h1] at hk
      cases h2 : svEqs args E.args with
      | false => rw [h2] at hk; exact rec' hk
      | true =>
        rw [h2] at hk
        cases h3 : blsIn H E.bl with
        | false => rw [h3] at hk; exact rec' hk
        | true =>
          rw [h3] at hk
          exact ⟨E, by simp, Nat.eq_of_beq_eq_true h1, svEqs_eq _ _ h2, h3, hk⟩

/-- The contract: at these arguments, in a heap of what they reach alone, the callee's answer is known. -/
def frameBT (gl : List (Nat × List Value) → Bool) (tab : List En) : CT := fun args h K =>
  natsK (closeL 0 h.H h.nx 0 (idsVs 0 args [])) fun L => renVsK 0 L args fun args' => renHK 0 L h.H L .e fun H =>
    natK L.length fun n => findE tab args' H n fun b => bif gl h.M.gl then K (.v (.bool b)) h else false

/-- What is to be shown of each entry. -/
def entK (P : Program) (C : FuncId → Option CT) (Λ : LTab) (n : Nat) (f : FuncId) (E : En) (M : Mem) : Bool := setsK E.bl .e fun H => sxCall P C Λ n f E.args ⟨H, E.nx, M⟩ (ansK E)

theorem frameBT_goes {P : Program} (hm : P.follows .mixedOrders = true) {C : FuncId → Option CT} (hC : CTSound P C) {Λ : LTab} (hΛ : LTSound P Λ) {n : Nat} {f : FuncId} {gl : List (Nat × List Value) → Bool} {tab : List En}
    (hT : ∀ E ∈ tab, ∀ (M : Mem), gl M.gl = true → entK P C Λ n f E M = true)
    {args : List SV} {h : HS} {K : SV → HS → Bool} (hk : frameBT gl tab args h K = true) {ρ : Nat → Loc} {w : World} (R : HRel ρ h w) (hargs : ∀ x ∈ args, x.lt ρ h.nx) :
    CallGoes P f (args.map (SV.den ρ)).toArray w (Post ρ h K) fun _ _ => False := by
  classical
  unfold frameBT at hk
  rw [natsK_eq] at hk
  generalize closeL 0 h.H h.nx 0 (idsVs 0 args []) = L at hk
  rw [renVsK_eq] at hk
  cases hr : renVs 0 L args with
  | none => rw [hr] at hk; exact absurd hk Bool.false_ne_true
  | some args' =>
    rw [hr] at hk
    have hk : renHK 0 L h.H L .e (fun H => natK L.length fun n => findE tab args' H n fun b => bif gl h.M.gl then K (.v (.bool b)) h else false) = true := hk
    rw [renHK_eq] at hk
    cases hh : renH 0 L h.H L .e with
    | none => rw [hh] at hk; exact absurd hk Bool.false_ne_true
    | some H0 =>
      rw [hh] at hk
      have hk : (natK L.length fun n => findE tab args' H0 n fun b => bif gl h.M.gl then K (.v (.bool b)) h else false) = true := hk
      rw [natK_eq] at hk
      obtain ⟨E, hE, hnx, hargsE, hbl, hk2⟩ := findE_mem hk
      subst hargsE
      cases hg : gl h.M.gl with
      | false => rw [hg] at hk2; exact absurd hk2 Bool.false_ne_true
      | true =>
        rw [hg] at hk2
        have hk : K (.v (.bool E.ans)) h = true := hk2
        have hH0 := renH_spec _ _ _ hh (fun k B' hg => by rw [T.get_e] at hg; cases hg)
        have hsub : ∀ {i x}, (setsT E.bl .e).get i = some x → H0.get i = some x := fun {i x} hi => by
          rcases setsT_get hi with hi | hi
          · exact blsIn_mem hbl _ hi
          · rw [T.get_e] at hi; cases hi
        generalize hHE : setsT E.bl .e = H at hsub
        have R1 := (R.ren hH0).less (H' := H) fun b B hb => hsub hb
        rw [Nat.zero_add] at R1
        obtain ⟨d1, d2⟩ := renVs_den (ρ := ρ) args E.args hr (lts_iff.2 hargs)
        rw [Nat.zero_add] at d2
        -- memory without what the arguments reach
        let ρ1 : Nat → Loc := fun k => ρ (backN 0 L k)
        let inH : Nat → Prop := fun j => ∃ i B, H.get i = some B ∧ (ρ1 i).blk = j
        have hout : ∀ j o, h.M.blk j = some o → ¬ inH j := fun j o hj ⟨i, B, hi, he⟩ => by
          have := R1.apart i B hi
          have he : (ρ (backN 0 L i)).blk = j := he
          have this : h.M.blk (ρ (backN 0 L i)).blk = none := this
          rw [he, hj] at this; cases this
        have hgl : ∀ g cs, (g, cs) ∈ h.M.gl → ∃ c t fz, (if inH g then none else w.heap[g]?) = some (.cells c t fz) ∧ ∀ (i : Nat) v, cs[i]? = some v → c[i]? = some v := by
          intro g cs hgc
          obtain ⟨c, t, fz, h1, h2⟩ := h.M.glok g cs hgc
          refine ⟨c, t, fz, ?_, h2⟩
          rw [if_neg (hout g _ h1)]
          exact R.mem g _ h1
        let M : Mem := ⟨fun j => if inH j then none else w.heap[j]?, h.M.os, h.M.out, h.M.tape, h.M.gl, hgl⟩
        have R2 : HRel ρ1 ⟨H, L.length, M⟩ w := by
          refine ⟨R.os, R.out, R.tape, fun j o hj => ?_, R1.blk, R1.inj, fun b B hb => ?_⟩
          · have hj : (if inH j then none else w.heap[j]?) = some o := hj
            split at hj
            · cases hj
            · exact hj
          · show (if inH (ρ1 b).blk then none else w.heap[(ρ1 b).blk]?) = none
            rw [if_pos ⟨b, B, hb, rfl⟩]
        have hrun := hT E hE M hg
        unfold entK at hrun
        rw [setsK_eq, hHE, ← hnx] at hrun
        have hgo := sxCall_sound hm hC hΛ n f E.args ⟨H, L.length, M⟩ _ hrun ρ1 w R2 (lts_iff.1 d2)
        have hden : (E.args.map (SV.den ρ1)) = args.map (SV.den ρ) := by rw [← dens_eq, ← dens_eq]; exact d1
        rw [hden] at hgo
        -- what is left
        have fin : ∀ v w', Post ρ1 ⟨H, L.length, M⟩ (ansK E) v w' → Post ρ h K v w' := by
          intro v w' ⟨z, h', ρ2, hz, hv, _, R3, hx, _, hM⟩
          unfold ansK at hz
          cases hit : isB E.ans z with
          | false => rw [hit] at hz; exact absurd hz Bool.false_ne_true
          | true =>
            rw [hit] at hz
            have hz : blsIn h'.H E.bl = true := hz
            have := isB_eq hit
            subst this
            have stay : ∀ j o, ¬ inH j → w.heap[j]? = some o → w'.heap[j]? = some o := fun j o hj ho => by
              refine R3.mem j o (hM.1 j o ?_)
              show (if inH j then none else w.heap[j]?) = some o
              rw [if_neg hj]; exact ho
            refine ⟨.v (.bool E.ans), h, ρ, hk, hv, trivial, ?_, Ext.refl _ _, Nat.le_refl _, Mem.le_refl _⟩
            refine ⟨R3.os.trans hM.2.1, R3.out.trans hM.2.2.1, R3.tape.trans hM.2.2.2, fun j o hj => stay j o (hout j o hj) (R.mem j o hj), fun b B hb => ?_, R.inj, R.apart⟩
            obtain ⟨k1, k2, k3⟩ := R.blk b B hb
            refine ⟨k1, k2, ?_⟩
            by_cases hin : inH (ρ b).blk
            · obtain ⟨i, B', hi, he⟩ := hin
              obtain ⟨b', C', c1, c2, c3⟩ := hH0 i B' (hsub hi)
              obtain ⟨g1, g2⟩ := ixN_spec c2
              rw [Nat.zero_add] at g2
              have he : (ρ (backN 0 L i)).blk = (ρ b).blk := he
              rw [g1] at he
              have := R.inj b' b C' B c1 hb he
              subst this
              rw [c1] at hb
              injection hb with hb
              subst hb
              have hi' : h'.H.get i = some B' := by
                rw [← hHE] at hi
                rcases setsT_get hi with hi | hi
                · exact blsIn_mem hz _ hi
                · rw [T.get_e] at hi; cases hi
              obtain ⟨_, _, f3⟩ := R3.blk i B' hi'
              have e1 : ρ2 i = ρ1 i := hx i g2
              have l1 := (R1.blk i B' hi).2.1
              have l2 : B'.lt ρ2 L.length := SBlk.lt_ext hx (Nat.le_refl _) l1
              have f4 := f3.of (ρ' := ρ1) (w' := w') (n := L.length) (fun j hj => (hx j hj).symm) l2 rfl
              rw [e1] at f4
              have f5 := renB_back (ρ := ρ) c3 k2 f4
              have : ρ1 i = ρ b' := by show ρ (backN 0 L i) = ρ b'; rw [g1]
              rw [this] at f5; exact f5
            · have hs : w'.heap[(ρ b).blk]? = w.heap[(ρ b).blk]? := by
                have := k3.size
                have h1 : w.heap[(ρ b).blk]? = some w.heap[(ρ b).blk] := Array.getElem?_eq_getElem this
                rw [h1]; exact stay _ _ hin h1
              exact k3.of (Ext.refl ρ h.nx) k2 hs
        exact hgo.mono fin fun _ _ h => h

end
end Go.Sx
