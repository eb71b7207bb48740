/-
  A closed run as a contract.
  The symbolic executor: a callee whose answer (true, false) is shown at its arguments' own heap, used in any heap: what it is handed lies behind the call as it lay ahead.
  The symbolic executor: a block whose rounds are shown beforehand: out of these states it ends, and leaves these slots and blocks as they were.
  The symbolic executor: functions that defer one call ahead of all else, whose callee asks 'recover' first.
  Chapter 12's examples: the law is awake.
  Contracts: two rows of bytes: are they the same?
  Lifting: what a row's arguments are in memory, as plain data of an arena that holds all that lay.
  Members as plain data, out of what a row's arguments are.
  An image as plain data, out of what a row's arguments are.
  ImagePuts: the law.
-/
import Derived.Test.YthbaimobihmhiaaGreatDoorG07
import Derived.Test.YthbaimobihmhiaaGreatDoorG06
import Derived.Recover
import Derived.ChangeArms
import Derived.DataReads
import Derived.SizedLaws
import Derived.Test.YthbaimobihmhiaaGreatDoorG08
import Derived.Test.YthbaimobihmhiaaGreatDoorG12
import Derived.Test.YthbaimobihmhiaaGreatDoorG14
namespace Go.Proofs.YthbaimobihmhiaaGreatDoor
open Go.Sx Go.RowKit
noncomputable section
open Classical

/-- A closed run that gives true changes nothing that lay. -/
theorem fok_closed {P : Program} (hm : P.follows .mixedOrders = true) {C : FuncId → Option CT} (hC : CTSound P C) {Λ : LTab} (hΛ : LTSound P Λ) {n : Nat} {f : FuncId} (hk : ∀ w : World, sxTop P C Λ n f [] ⟨.e, 0, memOf w⟩ (fun r _ => isT r) = true) :
    FOk P f ⟨Unit, fun _ vs _ => vs = [], fun _ _ A v A' => A' = A ∧ v = .bool true⟩ := by
  intro _ vs A w hA hvs
  simp only at hvs
  subst hvs
  have R : HRel (fun _ => ⟨0, 0, 0⟩) ⟨.e, 0, memOf w⟩ w := by
    refine ⟨rfl, rfl, rfl, fun k o hk => hk, fun b B hb => ?_, fun b b' B B' hb => ?_, fun b B hb => ?_, fun k o hk => (by cases hk), fun b B hb => ?_, fun k o hk => (by cases hk)⟩ <;> (rw [T.get_e] at hb; cases hb)
  refine (sxTop_sound hm hC hΛ n f [] _ _ (hk w) _ w R (fun x hx => by cases hx)).mono (fun v w' ⟨z, h', ρ', hz, hv, hl, R', _, _, hle⟩ => ?_) fun _ _ h => h
  have old : ∀ k o, w.heap[k]? = some o → w'.heap[k]? = some o := fun k o hk => R'.mem k o (hle.1 k o hk)
  refine ⟨A, ⟨rfl, ?_⟩, R'.os.trans hle.2.1, R'.out.trans hle.2.2.1, R'.tape.trans hle.2.2.2, fun k hk hlt => ?_, fun k o hk => old k o (hA k o hk), fun k o ho => .inl ⟨o, ho⟩⟩
  · rw [hv]
    cases z with
    | v x => cases x with
      | bool b => simp only [isT] at hz; subst hz; rfl
      | _ => simp [isT] at hz
    | _ => simp [isT] at hz
  · have h0 : w.heap[k]? = some w.heap[k] := Array.getElem?_eq_getElem hlt
    rw [old k _ h0, h0]

end
end Go.Proofs.YthbaimobihmhiaaGreatDoor

namespace Go.Sx
noncomputable section

/-! ### States -/

def entsEq : List (SV × SV × Nat) → List (SV × SV × Nat) → Bool
  | [], [] => true
  | x :: xs, y :: ys => bif svEq x.1 y.1 then (bif svEq x.2.1 y.2.1 then (bif Nat.beq x.2.2 y.2.2 then entsEq xs ys else false) else false) else false
  | _, _ => false

theorem entsEq_eq : ∀ (l m : List (SV × SV × Nat)), entsEq l m = true → l = m
  | [], [], _ => rfl
  | (a, b, c) :: xs, (a', b', c') :: ys, h => by
    unfold entsEq at h
    cases h1 : svEq a a' with
    | false => rw [h1] at h; exact absurd h Bool.false_ne_true
    | true =>
      rw [h1] at h
      cases h2 : svEq b b' with
      | false => rw [h2] at h; exact absurd h Bool.false_ne_true
      | true =>
        rw [h2] at h
        cases h3 : Nat.beq c c' with
        | false => rw [h3] at h; exact absurd h Bool.false_ne_true
        | true =>
          rw [h3] at h
          rw [svEq_eq _ _ h1, svEq_eq _ _ h2, Nat.eq_of_beq_eq_true h3, entsEq_eq xs ys h]
  | [], _ :: _, h => by cases h
  | _ :: _, [], h => by cases h

/-- Are two blocks the same? -/
def bEq (A B : SBlk) : Bool := match A, B with
  | .cells cs es τ, .cells ds fs υ => bif Nat.beq es fs then (bif Nat.beq τ υ then svEqs cs ds else false) else false
  | .map es k, .map fs l => bif Nat.beq k l then entsEq es fs else false
  | _, _ => false

theorem bEq_eq {A B : SBlk} (h : bEq A B = true) : A = B := by
  unfold bEq at h
  split at h
  · rename_i cs es τ ds fs υ
    cases he : Nat.beq es fs with
    | false => rw [he] at h; exact absurd h Bool.false_ne_true
    | true =>
      rw [he] at h
      simp only [cond_true] at h
      cases ht : Nat.beq τ υ with
      | false => rw [ht] at h; exact absurd h Bool.false_ne_true
      | true =>
        rw [ht] at h
        rw [Nat.eq_of_beq_eq_true he, Nat.eq_of_beq_eq_true ht, svEqs_eq _ _ h]
  · rename_i es k fs l
    cases he : Nat.beq k l with
    | false => rw [he] at h; exact absurd h Bool.false_ne_true
    | true =>
      rw [he] at h
      rw [Nat.eq_of_beq_eq_true he, entsEq_eq _ _ h]
  · exact absurd h Bool.false_ne_true

/-- A state, spelled out: slots, blocks, and the next block's number. -/
structure St where
  sl : List (Nat × SV)
  bl : List (Nat × SBlk)
  nx : Nat
  keep : Bool

def slsIn (tm : T SV) : List (Nat × SV) → Bool
  | [] => true
  | s :: ss => match tm.get s.1 with
    | some v => bif svEq v s.2 then slsIn tm ss else false
    | none => false

theorem slsIn_mem {tm : T SV} : ∀ {l : List (Nat × SV)}, slsIn tm l = true → ∀ s ∈ l, tm.get s.1 = some s.2
  | [], _, s, hs => by cases hs
  | x :: xs, h, s, hs => by
    simp only [slsIn] at h
    split at h
    · rename_i v hv
      cases he : svEq v x.2 with
      | false => rw [he] at h; exact absurd h Bool.false_ne_true
      | true =>
        rw [he] at h
        rcases List.mem_cons.1 hs with rfl | hs
        · rw [hv, svEq_eq _ _ he]
        · exact slsIn_mem h s hs
    · exact absurd h Bool.false_ne_true

def blsIn (H : T SBlk) : List (Nat × SBlk) → Bool
  | [] => true
  | s :: ss => match H.get s.1 with
    | some v => bif bEq v s.2 then blsIn H ss else false
    | none => false

theorem blsIn_mem {H : T SBlk} : ∀ {l : List (Nat × SBlk)}, blsIn H l = true → ∀ s ∈ l, H.get s.1 = some s.2
  | [], _, s, hs => by cases hs
  | x :: xs, h, s, hs => by
    simp only [blsIn] at h
    split at h
    · rename_i v hv
      cases he : bEq v x.2 with
      | false => rw [he] at h; exact absurd h Bool.false_ne_true
      | true =>
        rw [he] at h
        rcases List.mem_cons.1 hs with rfl | hs
        · rw [hv, bEq_eq he]
        · exact blsIn_mem h s hs
    · exact absurd h Bool.false_ne_true

def setsK {α : Type} : List (Nat × α) → T α → (T α → Bool) → Bool
  | [], t, k => k t
  | s :: ss, t, k => setK 32 t s.1 s.2 fun t => setsK ss t k

def setsT {α : Type} : List (Nat × α) → T α → T α
  | [], t => t
  | s :: ss, t => setsT ss (t.set s.1 s.2)

theorem setsK_eq {α : Type} : ∀ (l : List (Nat × α)) (t : T α) (k : T α → Bool), setsK l t k = k (setsT l t)
  | [], _, _ => rfl
  | s :: ss, t, k => by simp only [setsK, setsT]; rw [setK_eq]; exact setsK_eq ss _ k

theorem setsT_get {α : Type} : ∀ {l : List (Nat × α)} {t : T α} {i : Nat} {x : α}, (setsT l t).get i = some x → (i, x) ∈ l ∨ t.get i = some x
  | [], _, _, _, h => .inr h
  | s :: ss, t, i, x, h => by
    rcases setsT_get (l := ss) h with h | h
    · exact .inl (List.mem_cons_of_mem _ h)
    · rcases T.get_set h with ⟨h1, h2⟩ | ⟨_, h⟩
      · subst h1; subst h2; exact .inl (by simp)
      · exact .inr h

theorem renB_back {n0 n : Nat} {L : List Nat} {ρ : Nat → Loc} {B B' : SBlk} (h : renB n0 L B = some B') (hl : B.lt ρ n) {loc : Loc} {w : World} (hr : B'.Rel (fun k => ρ (backN n0 L k)) loc w) : B.Rel ρ loc w := by
  cases B with
  | cells cs es τ =>
    simp only [renB] at h
    split at h
    · rename_i cs' hc
      injection h with h; subst h
      obtain ⟨h1, _⟩ := renVs_den cs cs' hc (lts_iff.2 hl)
      obtain ⟨c, t, fz, k1, k2, k3, k4, k5⟩ := hr
      rw [dens_eq, dens_eq] at h1
      have hl1 : cs'.length = cs.length := by
        have := congrArg List.length h1
        simpa using this
      refine ⟨c, t, fz, k1, fun i x hx => ?_, k3, ?_, by rw [← hl1]; exact k5⟩
      · have e1 : (cs.map (SV.den ρ))[i]? = some (x.den ρ) := by rw [List.getElem?_map, hx]; rfl
        rw [← h1, List.getElem?_map] at e1
        cases hy : cs'[i]? with
        | none => rw [hy] at e1; cases e1
        | some y =>
          rw [hy] at e1
          injection e1 with e1
          rw [← e1]; exact k2 i y hy
      · have : cs'.length = cs.length := by
          have := congrArg List.length h1
          simpa using this
        rw [← this]; exact k4
    · cases h
  | map es clock =>
    simp only [renB] at h
    split at h
    · rename_i es' hes
      injection h with h; subst h
      obtain ⟨h1, _⟩ := renEs_den es es' hes hl
      show w.heap[loc.blk]? = some (.map (es.map (entDen ρ)).toArray clock)
      rw [← h1]; exact hr
    · cases h
  | siter s pos => simp only [renB, Option.some.injEq] at h; subst h; exact hr
  | miter m since seen last =>
    simp only [renB] at h
    split at h
    · rename_i m' hm
      injection h with h; subst h
      obtain ⟨h1, _⟩ := ixN_spec hm
      refine ⟨hr.1, ?_⟩
      have h2 : w.heap[loc.blk]? = some (.mapIter (some (ρ (backN n0 L m')).blk) since seen.toArray last) := hr.2
      rw [h1] at h2; exact h2
    · cases h

/-- A call that is known: arguments, what they reach, the next block's number, the answer. -/
structure En where
  args : List SV
  bl : List (Nat × SBlk)
  nx : Nat
  ans : Bool

def isB (b : Bool) (r : SV) : Bool := match r with
  | .v (.bool c) => bif b then c else !c
  | _ => false

theorem isB_eq {b : Bool} {r : SV} (h : isB b r = true) : r = .v (.bool b) := by
  unfold isB at h
  split at h
  · cases b <;> simp at h <;> rw [h]
  · cases h

/-- The answer, and what it was handed as it was. -/
def ansK (E : En) (r : SV) (h : HS) : Bool := bif isB E.ans r then blsIn h.H E.bl else false

def findE : List En → List SV → T SBlk → Nat → (Bool → Bool) → Bool
  | [], _, _, _, _ => false
  | E :: Es, args, H, n, k => bif Nat.beq n E.nx then (bif svEqs args E.args then (bif blsIn H E.bl then k E.ans else findE Es args H n k) else findE Es args H n k) else findE Es args H n k

theorem findE_mem {args : List SV} {H : T SBlk} {n : Nat} {k : Bool → Bool} : ∀ {l : List En}, findE l args H n k = true → ∃ E ∈ l, n = E.nx ∧ args = E.args ∧ blsIn H E.bl = true ∧ k E.ans = true
  | [], hk => by cases hk
  | E :: Es, hk => by
    have rec' : findE Es args H n k = true → ∃ E' ∈ E :: Es, n = E'.nx ∧ args = E'.args ∧ blsIn H E'.bl = true ∧ k E'.ans = true := fun h => by
      obtain ⟨E', h1, h2⟩ := findE_mem h
      exact ⟨E', List.mem_cons_of_mem _ h1, h2⟩
    simp only [findE] at hk
    cases h1 : Nat.beq n E.nx with
    | false => rw [h1] at hk; exact rec' hk
    | true =>
      rw [h1] at hk
      cases h2 : svEqs args E.args with
      | false => rw [h2] at hk; exact rec' hk
      | true =>
        rw [h2] at hk
        cases h3 : blsIn H E.bl with
        | false => rw [h3] at hk; exact rec' hk
        | true =>
          rw [h3] at hk
          exact ⟨E, by simp, Nat.eq_of_beq_eq_true h1, svEqs_eq _ _ h2, h3, hk⟩

/-- The contract: at these arguments, in a heap of what they reach alone, the callee's answer is known. -/
def frameBT (gl : List (Nat × List Value) → Bool) (tab : List En) : CT := fun args h K =>
  natsK (closeL 0 h.H h.nx 0 (idsVs 0 args [])) fun L => renVsK 0 L args fun args' => renHK 0 L h.H L .e fun H =>
    natK L.length fun n => findE tab args' H n fun b => bif gl h.M.gl then K (.v (.bool b)) h else false

/-- What is to be shown of each entry. -/
def entK (P : Program) (C : FuncId → Option CT) (Λ : LTab) (n : Nat) (f : FuncId) (E : En) (M : Mem) : Bool := setsK E.bl .e fun H => sxCall P C Λ n f E.args ⟨H, E.nx, M⟩ (ansK E)

theorem frameBT_goes {P : Program} (hm : P.follows .mixedOrders = true) {C : FuncId → Option CT} (hC : CTSound P C) {Λ : LTab} (hΛ : LTSound P Λ) {n : Nat} {f : FuncId} {gl : List (Nat × List Value) → Bool} {tab : List En}
    (hT : ∀ E ∈ tab, ∀ (M : Mem), gl M.gl = true → entK P C Λ n f E M = true)
    {args : List SV} {h : HS} {K : SV → HS → Bool} (hk : frameBT gl tab args h K = true) {ρ : Nat → Loc} {w : World} (R : HRel ρ h w) (hargs : ∀ x ∈ args, x.lt ρ h.nx) :
    CallGoes P f (args.map (SV.den ρ)).toArray w (Post ρ h K) fun _ _ => False := by
  classical
  unfold frameBT at hk
  rw [natsK_eq] at hk
  generalize closeL 0 h.H h.nx 0 (idsVs 0 args []) = L at hk
  rw [renVsK_eq] at hk
  cases hr : renVs 0 L args with
  | none => rw [hr] at hk; exact absurd hk Bool.false_ne_true
  | some args' =>
    rw [hr] at hk
    have hk : renHK 0 L h.H L .e (fun H => natK L.length fun n => findE tab args' H n fun b => bif gl h.M.gl then K (.v (.bool b)) h else false) = true := hk
    rw [renHK_eq] at hk
    cases hh : renH 0 L h.H L .e with
    | none => rw [hh] at hk; exact absurd hk Bool.false_ne_true
    | some H0 =>
      rw [hh] at hk
      have hk : (natK L.length fun n => findE tab args' H0 n fun b => bif gl h.M.gl then K (.v (.bool b)) h else false) = true := hk
      rw [natK_eq] at hk
      obtain ⟨E, hE, hnx, hargsE, hbl, hk2⟩ := findE_mem hk
      subst hargsE
      cases hg : gl h.M.gl with
      | false => rw [hg] at hk2; exact absurd hk2 Bool.false_ne_true
      | true =>
        rw [hg] at hk2
        have hk : K (.v (.bool E.ans)) h = true := hk2
        have hH0 := renH_spec _ _ _ hh (fun k B' hg => by rw [T.get_e] at hg; cases hg)
        have hsub : ∀ {i x}, (setsT E.bl .e).get i = some x → H0.get i = some x := fun {i x} hi => by
          rcases setsT_get hi with hi | hi
          · exact blsIn_mem hbl _ hi
          · rw [T.get_e] at hi; cases hi
        generalize hHE : setsT E.bl .e = H at hsub
        have R1 := (R.ren hH0).less (H' := H) fun b B hb => hsub hb
        rw [Nat.zero_add] at R1
        obtain ⟨d1, d2⟩ := renVs_den (ρ := ρ) args E.args hr (lts_iff.2 hargs)
        rw [Nat.zero_add] at d2
        -- memory without what the arguments reach
        let ρ1 : Nat → Loc := fun k => ρ (backN 0 L k)
        let inH : Nat → Prop := fun j => ∃ i B, H.get i = some B ∧ (ρ1 i).blk = j
        have hout : ∀ j o, h.M.blk j = some o → ¬ inH j := fun j o hj ⟨i, B, hi, he⟩ => by
          have := R1.apart i B hi
          have he : (ρ (backN 0 L i)).blk = j := he
          have this : h.M.blk (ρ (backN 0 L i)).blk = none := this
          rw [he, hj] at this; cases this
        have houtA : ∀ j o, h.M.A.blk j = some o → ¬ inH j := fun j o hj ⟨i, B, hi, he⟩ => by
          have := R1.aprA i B hi
          have he : (ρ (backN 0 L i)).blk = j := he
          have this : h.M.A.blk (ρ (backN 0 L i)).blk = none := this
          rw [he, hj] at this; cases this
        have hgl : ∀ g cs, (g, cs) ∈ h.M.gl → ∃ c t fz, (if inH g then none else w.heap[g]?) = some (.cells c t fz) ∧ ∀ (i : Nat) v, cs[i]? = some v → c[i]? = some v := by
          intro g cs hgc
          obtain ⟨c, t, fz, h1, h2⟩ := h.M.glok g cs hgc
          refine ⟨c, t, fz, ?_, h2⟩
          rw [if_neg (hout g _ h1)]
          exact R.mem g _ h1
        let M : Mem := ⟨fun j => if inH j then none else w.heap[j]?, h.M.os, h.M.out, h.M.tape, h.M.gl, hgl, .none⟩
        have R2 : HRel ρ1 ⟨H, L.length, M⟩ w := by
          refine ⟨R.os, R.out, R.tape, fun j o hj => ?_, R1.blk, R1.inj, fun b B hb => ?_, fun k o hk => (by cases hk), fun b B hb => rfl, fun k o hk => (by cases hk)⟩
          · have hj : (if inH j then none else w.heap[j]?) = some o := hj
            split at hj
            · cases hj
            · exact hj
          · show (if inH (ρ1 b).blk then none else w.heap[(ρ1 b).blk]?) = none
            rw [if_pos ⟨b, B, hb, rfl⟩]
        have hrun := hT E hE M hg
        unfold entK at hrun
        rw [setsK_eq, hHE, ← hnx] at hrun
        have hgo := sxCall_sound hm hC hΛ n f E.args ⟨H, L.length, M⟩ _ hrun ρ1 w R2 (lts_iff.1 d2)
        have hden : (E.args.map (SV.den ρ1)) = args.map (SV.den ρ) := by rw [← dens_eq, ← dens_eq]; exact d1
        rw [hden] at hgo
        -- what is left
        have fin : ∀ v w', Post ρ1 ⟨H, L.length, M⟩ (ansK E) v w' → Post ρ h K v w' := by
          intro v w' ⟨z, h', ρ2, hz, hv, _, R3, hx, _, hM⟩
          unfold ansK at hz
          cases hit : isB E.ans z with
          | false => rw [hit] at hz; exact absurd hz Bool.false_ne_true
          | true =>
            rw [hit] at hz
            have hz : blsIn h'.H E.bl = true := hz
            have := isB_eq hit
            subst this
            have stay : ∀ j o, ¬ inH j → w.heap[j]? = some o → w'.heap[j]? = some o := fun j o hj ho => by
              refine R3.mem j o (hM.1 j o ?_)
              show (if inH j then none else w.heap[j]?) = some o
              rw [if_neg hj]; exact ho
            refine ⟨.v (.bool E.ans), h, ρ, hk, hv, trivial, ?_, Ext.refl _ _, Nat.le_refl _, Mem.le_refl _⟩
            refine ⟨R3.os.trans hM.2.1, R3.out.trans hM.2.2.1, R3.tape.trans hM.2.2.2, fun j o hj => stay j o (hout j o hj) (R.mem j o hj), fun b B hb => ?_, R.inj, R.apart, fun j o hj => stay j o (houtA j o hj) (R.are j o hj), R.aprA, R.disj⟩
            obtain ⟨k1, k2, k3⟩ := R.blk b B hb
            refine ⟨k1, k2, ?_⟩
            by_cases hin : inH (ρ b).blk
            · obtain ⟨i, B', hi, he⟩ := hin
              obtain ⟨b', C', c1, c2, c3⟩ := hH0 i B' (hsub hi)
              obtain ⟨g1, g2⟩ := ixN_spec c2
              rw [Nat.zero_add] at g2
              have he : (ρ (backN 0 L i)).blk = (ρ b).blk := he
              rw [g1] at he
              have := R.inj b' b C' B c1 hb he
              subst this
              rw [c1] at hb
              injection hb with hb
              subst hb
              have hi' : h'.H.get i = some B' := by
                rw [← hHE] at hi
                rcases setsT_get hi with hi | hi
                · exact blsIn_mem hz _ hi
                · rw [T.get_e] at hi; cases hi
              obtain ⟨_, _, f3⟩ := R3.blk i B' hi'
              have e1 : ρ2 i = ρ1 i := hx i g2
              have l1 := (R1.blk i B' hi).2.1
              have l2 : B'.lt ρ2 L.length := SBlk.lt_ext hx (Nat.le_refl _) l1
              have f4 := f3.of (ρ' := ρ1) (w' := w') (n := L.length) (fun j hj => (hx j hj).symm) l2 rfl
              rw [e1] at f4
              have f5 := renB_back (ρ := ρ) c3 k2 f4
              have : ρ1 i = ρ b' := by show ρ (backN 0 L i) = ρ b'; rw [g1]
              rw [this] at f5; exact f5
            · have hs : w'.heap[(ρ b).blk]? = w.heap[(ρ b).blk]? := by
                have := k3.size
                have h1 : w.heap[(ρ b).blk]? = some w.heap[(ρ b).blk] := Array.getElem?_eq_getElem this
                rw [h1]; exact stay _ _ hin h1
              exact k3.of (Ext.refl ρ h.nx) k2 hs
        exact hgo.mono fin fun _ _ h => h

end
end Go.Sx

namespace Go.Sx
noncomputable section
variable {dfs : List Deferred}

def blocksOf (id : Nat) : Code → List Code
  | .seq a b => blocksOf id a ++ blocksOf id b
  | .cond _ a b => blocksOf id a ++ blocksOf id b
  | .block i a => (bif Nat.beq i id then [a] else []) ++ blocksOf id a
  | .loop a => blocksOf id a
  | .scope a => blocksOf id a
  | _ => []

theorem blocksOf_in {id : Nat} {c b : Code} (h : InC c b) : ∀ x ∈ blocksOf id c, x ∈ blocksOf id b := by
  induction h with
  | refl c => exact fun _ h => h
  | seqL _ ih => exact fun x hx => ih x (by simp only [blocksOf, List.mem_append]; exact .inl hx)
  | seqR _ ih => exact fun x hx => ih x (by simp only [blocksOf, List.mem_append]; exact .inr hx)
  | condL _ ih => exact fun x hx => ih x (by simp only [blocksOf, List.mem_append]; exact .inl hx)
  | condR _ ih => exact fun x hx => ih x (by simp only [blocksOf, List.mem_append]; exact .inr hx)
  | block _ ih => exact fun x hx => ih x (by simp only [blocksOf, List.mem_append]; exact .inr hx)
  | loop _ ih => exact fun x hx => ih x (by simp only [blocksOf]; exact hx)
  | scope _ ih => exact fun x hx => ih x (by simp only [blocksOf]; exact hx)

/-- A function's only block of this number. -/
def blockAt (P : Program) (f : FuncId) (id : Nat) : Option Code := match fnOf P f with
  | some fn => match fn.body with
    | some b => match blocksOf id b with
      | [c] => some c
      | _ => none
    | none => none
  | none => none

theorem blockAt_within {P : Program} {f : FuncId} {id : Nat} {c0 c : Code} (h : blockAt P f id = some c0) (hW : Within P f (.block id c)) : c = c0 := by
  obtain ⟨fn, b, h1, h2, h3⟩ := hW
  unfold blockAt at h
  split at h
  · rename_i fn' hfn
    have := fn_of hfn
    rw [h1] at this
    injection this with this
    subst this
    rw [h2] at h
    simp only at h
    split at h
    · rename_i c' hc
      injection h with h; subst h
      have hm : c ∈ blocksOf id (.block id c) := by
        simp only [blocksOf, Nat.beq_refl, cond_true, List.mem_append, List.mem_singleton, true_or]
      have := blocksOf_in h3 c hm
      rw [hc] at this
      exact List.mem_singleton.1 this
    · cases h
  · cases h

/-- What is told of a state behind the round: all blocks, or none. -/
def St.after (S : St) : List (Nat × SBlk) := bif S.keep then S.bl else []

theorem St.after_mem {S : St} {x : Nat × SBlk} (h : x ∈ S.after) : x ∈ S.bl := by
  unfold St.after at h
  cases hk : S.keep with
  | false => rw [hk] at h; cases h
  | true => rw [hk] at h; exact h

/-- As the state was. -/
def keptK (S : St) : KT := fun e tm h => match e with
  | .nrm => bif slsIn tm S.sl then blsIn h.H S.after else false
  | _ => false

def plainL : List (Nat × SV) → Bool
  | [] => true
  | s :: ss => match s.2 with
    | .v _ => plainL ss
    | _ => false

theorem plainL_mem : ∀ {l : List (Nat × SV)}, plainL l = true → ∀ s ∈ l, ∃ v, s.2 = .v v
  | [], _, _, h => by cases h
  | x :: xs, h, s, hs => by
    simp only [plainL] at h
    split at h
    · rename_i v hv
      rcases List.mem_cons.1 hs with rfl | hs
      · exact ⟨v, hv⟩
      · exact plainL_mem h s hs
    · exact absurd h Bool.false_ne_true

/-- The next block's number is that of the state, or does not matter. -/
def okNx (S : St) (nx : Nat) : Bool := bif Nat.beq nx S.nx then true else (match S.bl with
  | [] => plainL S.sl
  | _ => false)

/-- Which of these states is it? -/
def findS : List St → T SV → HS → (St → Bool) → Bool
  | [], _, _, _ => false
  | S :: Ss, tm, h, k => bif okNx S h.nx then (bif slsIn tm S.sl then (bif blsIn h.H S.bl then k S else findS Ss tm h k) else findS Ss tm h k) else findS Ss tm h k

theorem findS_mem {tm : T SV} {h : HS} {k : St → Bool} : ∀ {l : List St}, findS l tm h k = true → ∃ S ∈ l, okNx S h.nx = true ∧ slsIn tm S.sl = true ∧ blsIn h.H S.bl = true ∧ k S = true
  | [], hk => by cases hk
  | S :: Ss, hk => by
    have rec' : findS Ss tm h k = true → ∃ S' ∈ S :: Ss, okNx S' h.nx = true ∧ slsIn tm S'.sl = true ∧ blsIn h.H S'.bl = true ∧ k S' = true := fun h => by
      obtain ⟨S', h1, h2⟩ := findS_mem h
      exact ⟨S', List.mem_cons_of_mem _ h1, h2⟩
    simp only [findS] at hk
    cases h1 : okNx S h.nx with
    | false => rw [h1] at hk; exact rec' hk
    | true =>
      rw [h1] at hk
      cases h2 : slsIn tm S.sl with
      | false => rw [h2] at hk; exact rec' hk
      | true =>
        rw [h2] at hk
        cases h3 : blsIn h.H S.bl with
        | false => rw [h3] at hk; exact rec' hk
        | true =>
          rw [h3] at hk
          exact ⟨S, by simp, h1, h2, h3, hk⟩

/-- A block whose rounds out of these states are known. -/
def toldLT (gl : List (Nat × List Value) → Bool) (sz0 : Nat) (sts : List St) : LT := fun _ sz K tm h =>
  bif Nat.beq sz sz0 then (bif gl h.M.gl then findS sts tm h fun S => setsK S.sl .e fun tm => setsK S.after .e fun H => natK h.nx fun nx => K .nrm tm ⟨H, nx, h.M⟩ else false) else false

/-- A round out of one of them. -/
def roundK (P : Program) (C : FuncId → Option CT) (Λ : LTab) (n : Nat) (f : FuncId) (id sz : Nat) (S : St) (M : Mem) : Bool := match blockAt P f id with
  | some c => setsK S.sl .e fun tm => setsK S.bl .e fun H => sxCode P C Λ n f sz c (blkK id (keptK S)) tm ⟨H, S.nx, M⟩
  | none => false

/-- Memory whose arena stays too. -/
def Mem.shut (M : Mem) : Mem where
  blk := fun k => match M.blk k with
    | some o => some o
    | none => M.A.blk k
  os := M.os
  out := M.out
  tape := M.tape
  gl := M.gl
  glok := fun g cs h => by
    obtain ⟨c, t, fz, h1, h2⟩ := M.glok g cs h
    exact ⟨c, t, fz, by rw [h1], h2⟩
  X := .none

theorem HRel.shut {ρ : Nat → Loc} {h : HS} {w : World} (R : HRel ρ h w) : HRel ρ ⟨h.H, h.nx, h.M.shut⟩ w := by
  refine ⟨R.os, R.out, R.tape, fun k o hk => ?_, R.blk, R.inj, fun b B hb => ?_, fun k o hk => (by cases hk), fun b B hb => rfl, fun k o hk => (by cases hk)⟩
  · have hk : (match h.M.blk k with
      | some o => some o
      | none => h.M.A.blk k) = some o := hk
    split at hk
    · rename_i o' ho
      injection hk with hk; subst hk
      exact R.mem k _ ho
    · exact R.are k o hk
  · show (match h.M.blk (ρ b).blk with
      | some o => some o
      | none => h.M.A.blk (ρ b).blk) = none
    rw [R.apart b B hb]; exact R.aprA b B hb

theorem shut_blk {M : Mem} {k : Nat} {o : Obj} (h : M.blk k = some o) : M.shut.blk k = some o := by
  show (match M.blk k with
    | some o => some o
    | none => M.A.blk k) = some o
  rw [h]

theorem shut_are {M : Mem} {k : Nat} {o : Obj} (hd : M.blk k = none) (h : M.A.blk k = some o) : M.shut.blk k = some o := by
  show (match M.blk k with
    | some o => some o
    | none => M.A.blk k) = some o
  rw [hd]; exact h

theorem told_sound {P : Program} (hm : P.follows .mixedOrders = true) {C : FuncId → Option CT} (hC : CTSound P C) {Λ : LTab} (hΛ : LTSound P Λ) {n : Nat} {f : FuncId} {id sz0 : Nat} {gl : List (Nat × List Value) → Bool} {sts : List St} {c0 : Code} (hc0 : blockAt P f id = some c0)
    (hT : ∀ S ∈ sts, ∀ M : Mem, gl M.gl = true → roundK P C Λ n f id sz0 S M = true) {c : Code} {sz : Nat} {K : KT} {tm : T SV} {h : HS} (hW : Within P f (.block id c)) (hk : toldLT gl sz0 sts c sz K tm h = true)
    {ρ : Nat → Loc} {a : Act} {w : World} (A : ARel dfs ρ tm sz h.nx a) (R : HRel ρ h w) : (Code.block id c).wp P (GoesX dfs ρ h sz K) a w := by
  have := blockAt_within hc0 hW
  subst this
  unfold toldLT at hk
  cases hs : Nat.beq sz sz0 with
  | false => rw [hs] at hk; exact absurd hk Bool.false_ne_true
  | true =>
    have hs := Nat.eq_of_beq_eq_true hs
    subst hs
    simp only [Nat.beq_refl, cond_true] at hk
    cases hg : gl h.M.gl with
    | false => rw [hg] at hk; exact absurd hk Bool.false_ne_true
    | true =>
      rw [hg] at hk
      simp only [cond_true] at hk
      obtain ⟨S, hS, hn, h1, h2, hk⟩ := findS_mem hk
      rw [setsK_eq, setsK_eq, natK_eq] at hk
      have hr := hT S hS h.M.shut hg
      unfold roundK at hr
      rw [hc0] at hr
      simp only [setsK_eq] at hr
      have m1 : ∀ {i x}, (setsT S.sl .e).get i = some x → tm.get i = some x := fun {i x} hi => by
        rcases setsT_get hi with hi | hi
        · exact slsIn_mem h1 _ hi
        · rw [T.get_e] at hi; cases hi
      have m2 : ∀ {i x}, (setsT S.bl .e).get i = some x → h.H.get i = some x := fun {i x} hi => by
        rcases setsT_get hi with hi | hi
        · exact blsIn_mem h2 _ hi
        · rw [T.get_e] at hi; cases hi
      have m3 : ∀ {i x}, (setsT S.after .e).get i = some x → h.H.get i = some x := fun {i x} hi => by
        rcases setsT_get hi with hi | hi
        · exact blsIn_mem h2 _ (St.after_mem hi)
        · rw [T.get_e] at hi; cases hi
      have m4 : ∀ {i x}, (setsT S.after .e).get i = some x → (setsT S.bl .e).get i = some x := fun {i x} hi => by
        unfold St.after at hi
        cases hk' : S.keep with
        | false =>
          rw [hk'] at hi
          have hi : (T.e : T SBlk).get i = some x := hi
          rw [T.get_e] at hi; cases hi
        | true => rw [hk'] at hi; exact hi
      have A0 : ARel dfs ρ (setsT S.sl .e) sz h.nx a := ⟨A.size, fun i x hi => A.at_ i x (m1 hi), A.defers⟩
      have R0 : HRel ρ ⟨setsT S.bl .e, h.nx, h.M.shut⟩ w := HRel.less (h := ⟨h.H, h.nx, h.M.shut⟩) R.shut fun b B hb => m2 hb
      have both : ARel dfs ρ (setsT S.sl .e) sz S.nx a ∧ HRel ρ ⟨setsT S.bl .e, S.nx, h.M.shut⟩ w := by
        unfold okNx at hn
        cases he : Nat.beq h.nx S.nx with
        | true =>
          have he := Nat.eq_of_beq_eq_true he
          rw [← he]
          exact ⟨A0, R0⟩
        | false =>
          rw [he] at hn
          simp only [cond_false] at hn
          split at hn
          · rename_i hb
            refine ⟨⟨A0.size, fun i x hi => ⟨?_, (A0.at_ i x hi).2⟩, A0.defers⟩, R0.os, R0.out, R0.tape, R0.mem, fun b B hB => ?_, R0.inj, R0.apart, R0.are, R0.aprA, R0.disj⟩
            · rcases setsT_get hi with hi | hi
              · obtain ⟨v, hv⟩ := plainL_mem hn _ hi
                have hv : x = .v v := hv
                subst hv; trivial
              · rw [T.get_e] at hi; cases hi
            · have hB : (setsT S.bl .e).get b = some B := hB
              rw [hb] at hB
              have hB : (T.e : T SBlk).get b = some B := hB
              rw [T.get_e] at hB; cases hB
          · exact absurd hn Bool.false_ne_true
      obtain ⟨A1, R1⟩ := both
      have fin : ∀ a' w', Goes dfs ρ ⟨setsT S.bl .e, S.nx, h.M.shut⟩ sz (keptK S .nrm) a' w' → Goes dfs ρ h sz (K .nrm) a' w' := by
        intro a' w' ⟨tm', h', ρ', hk', A2, R2, hx, hnx, hM⟩
        simp only [keptK] at hk'
        cases h3 : slsIn tm' S.sl with
        | false => rw [h3] at hk'; exact absurd hk' Bool.false_ne_true
        | true =>
          rw [h3] at hk'
          have h4 : blsIn h'.H S.after = true := hk'
          refine ⟨_, _, ρ, hk, ⟨A2.size, fun i x hi => ?_, A2.defers⟩, ?_, Ext.refl _ _, Nat.le_refl _, Mem.le_refl _⟩
          · obtain ⟨l1, _⟩ := A1.at_ i x hi
            have hi' : tm'.get i = some x := by
              rcases setsT_get hi with hi | hi
              · exact slsIn_mem h3 _ hi
              · rw [T.get_e] at hi; cases hi
            obtain ⟨_, l2⟩ := A2.at_ i x hi'
            refine ⟨(A0.at_ i x hi).1, ?_⟩
            rw [l2, SV.den_ext hx x l1]
          · have R3 := R.less (H' := setsT S.after .e) fun b B hb => m3 hb
            refine ⟨R2.os.trans hM.2.1, R2.out.trans hM.2.2.1, R2.tape.trans hM.2.2.2, fun j o hj => R2.mem j o (hM.1 j o (shut_blk hj)), fun b B hb => ?_, R3.inj, R3.apart, fun j o hj => R2.mem j o (hM.1 j o (shut_are (R3.disj j o hj) hj)), R3.aprA, R3.disj⟩
            obtain ⟨g1, g2, _⟩ := R3.blk b B hb
            have hb' : h'.H.get b = some B := by
              rcases setsT_get hb with hb | hb
              · exact blsIn_mem h4 _ hb
              · rw [T.get_e] at hb; cases hb
            have hb1 : (setsT S.bl .e).get b = some B := m4 hb
            obtain ⟨j1, j2, _⟩ := R1.blk b B hb1
            obtain ⟨_, _, f3⟩ := R2.blk b B hb'
            refine ⟨g1, g2, ?_⟩
            have e1 : ρ' b = ρ b := hx b j1
            have l1 : B.lt ρ' S.nx := SBlk.lt_ext hx (Nat.le_refl _) j2
            have f4 := f3.of (ρ' := ρ) (w' := w') (n := S.nx) (fun j hj => (hx j hj).symm) l1 rfl
            rw [e1] at f4
            exact f4
      refine wp_block (wp_mono ((sxCode_wp hm hC hΛ n).1 _ _ _ _ _ _ (hW.to .block) hr dfs ρ a w A1 R1) fun e a' w' g => ?_)
      cases e with
      | normal => exact fin a' w' g
      | exit i =>
        obtain ⟨tm', h', ρ', hk', A', H', hx, hnx, hm'⟩ := g
        simp only [blkK] at hk'
        cases hb : Nat.beq i id with
        | true =>
          rw [hb] at hk'
          have := Nat.eq_of_beq_eq_true hb
          subst this
          simp only [Exit.inBlock, if_true]
          exact fin a' w' ⟨tm', h', ρ', hk', A', H', hx, hnx, hm'⟩
        | false =>
          rw [hb] at hk'
          simp only [cond_false, keptK] at hk'
          exact absurd hk' Bool.false_ne_true
      | ret => obtain ⟨_, _, _, hk', _⟩ := g; exact absurd hk' Bool.false_ne_true
      | goto l => exact g.elim
      | panic c => obtain ⟨_, _, _, _, _, _, hk', _⟩ := g; exact absurd hk' Bool.false_ne_true
      | outgrown => exact g.elim

end
end Go.Sx

namespace Go.Sx
noncomputable section

def noE : SV → T SV → HS → Bool := fun _ _ _ => false

theorem not_goesE {ds : List Deferred} {ρ : Nat → Loc} {h : HS} {sz : Nat} {c : List PanicEntry} {a : Act} {w : World} : ¬ GoesE ds ρ h sz noE c a w := fun ⟨_, _, _, _, _, _, hk, _⟩ => absurd hk Bool.false_ne_true

/-- Operations in the text's order, ahead of others. -/
theorem fxOps_pre {ds : List Deferred} {P : Program} {call : CallT} (CS : CallSound P call) {sz : Nat} {ops : Array Oper} {K : T SV → HS → Bool} {E : SV → T SV → HS → Bool} {Q : Exit → Act → World → Prop} {l' : List Nat} : ∀ (l : List Nat) (os : List Oper), l.map (fun i => ops[i]?) = os.map some →
    ∀ {tm : T SV} {h : HS}, fxOps P call sz E ops.toList K os tm h → ∀ {ρ : Nat → Loc} {a : Act} {w : World}, ARel ds ρ tm sz h.nx a → HRel ρ h w → (∀ a' w', Goes ds ρ h sz K a' w' → wpOps P ops Q l' a' w') → (∀ c a' w', GoesE ds ρ h sz E c a' w' → Q (.panic c) a' w') → wpOps P ops Q (l ++ l') a w := by
  intro l
  induction l with
  | nil =>
    intro os hos tm h hk ρ a w A H hn hp
    cases os with
    | nil => exact hn a w ⟨tm, h, ρ, hk, A, H, Ext.refl _ _, Nat.le_refl _, Mem.le_refl _⟩
    | cons o os => simp at hos
  | cons i l ih =>
    intro os hos tm h hk ρ a w A H hn hp
    cases os with
    | nil => simp at hos
    | cons o os =>
      simp only [List.map_cons, List.cons.injEq] at hos
      obtain ⟨hi, hos⟩ := hos
      simp only [List.cons_append, wpOps, hi]
      rw [fxOps_cons] at hk
      obtain ⟨b, tm', hk', A', hw⟩ := guardS_rel hk A
      rw [hw]
      cases b with
      | true =>
        simp only [if_true]
        refine .inl (fxOp_wp CS hk' A' H (fun a' w' g => ?_) hp)
        obtain ⟨tm2, h2, ρ2, k2, A2, H2, x2, n2, m2⟩ := g
        exact ih os hos k2 A2 H2 (fun a3 w3 g3 => hn a3 w3 (g3.trans x2 n2 m2)) fun c a3 w3 g3 => hp c a3 w3 (g3.trans x2 n2 m2)
      | false =>
        simp only [Bool.false_eq_true, if_false]
        simp only [cond_false] at hk'
        obtain ⟨tm2, k2, A2⟩ := setDst_rel (v := svUndef) hk' A' trivial
        exact ih os hos k2 A2 H hn hp

/-- The same, in a deferred callee. -/
theorem fxOpsS_wp {ds : List Deferred} {P : Program} {call : CallT} (CS : CallSound P call) {sz : Nat} {ops : Array Oper} {K : T SV → HS → Bool} {E : SV → T SV → HS → Bool} {Q : Exit → Act → List Frame → World → Prop} {cs : List Frame} : ∀ (l : List Nat) (os : List Oper), l.map (fun i => ops[i]?) = os.map some →
    ∀ {tm : T SV} {h : HS}, fxOps P call sz E ops.toList K os tm h → ∀ {ρ : Nat → Loc} {a : Act} {w : World}, ARel ds ρ tm sz h.nx a → HRel ρ h w → (∀ a' w', Goes ds ρ h sz K a' w' → Q .normal a' cs w') → (∀ c a' w', GoesE ds ρ h sz E c a' w' → Q (.panic c) a' cs w') → wpOpsS P ops Q l a cs w := by
  intro l
  induction l with
  | nil =>
    intro os hos tm h hk ρ a w A H hn hp
    cases os with
    | nil => exact hn a w ⟨tm, h, ρ, hk, A, H, Ext.refl _ _, Nat.le_refl _, Mem.le_refl _⟩
    | cons o os => simp at hos
  | cons i l ih =>
    intro os hos tm h hk ρ a w A H hn hp
    cases os with
    | nil => simp at hos
    | cons o os =>
      simp only [List.map_cons, List.cons.injEq] at hos
      obtain ⟨hi, hos⟩ := hos
      simp only [wpOpsS, hi]
      rw [fxOps_cons] at hk
      obtain ⟨b, tm', hk', A', hw⟩ := guardS_rel hk A
      rw [hw]
      cases b with
      | true =>
        simp only [if_true]
        have key : o.wp P a w (fun a' w' => wpOpsS P ops Q l a' cs w') (fun e a' w' => Q e a' cs w') := by
          refine fxOp_wp CS hk' A' H (fun a' w' g => ?_) hp
          obtain ⟨tm2, h2, ρ2, k2, A2, H2, x2, n2, m2⟩ := g
          exact ih os hos k2 A2 H2 (fun a3 w3 g3 => hn a3 w3 (g3.trans x2 n2 m2)) fun c a3 w3 g3 => hp c a3 w3 (g3.trans x2 n2 m2)
        unfold Oper.wp at key
        split
        · rename_i w' hr
          rw [hr] at key
          exact key.elim
        · exact key
      | false =>
        simp only [Bool.false_eq_true, if_false]
        simp only [cond_false] at hk'
        obtain ⟨tm2, k2, A2⟩ := setDst_rel (v := svUndef) hk' A' trivial
        exact ih os hos k2 A2 H hn hp

/-! ### The deferred callee -/

/-- Its way out. -/
def dK (F : HS → Bool) : KT := fun e _ h => match e with
  | .nrm => F h
  | .ret => F h
  | _ => false

/-- What 'recover' tells. -/
def recOf (px : Option SV) : SV := match px with
  | none => .v .nilIface
  | some x => x

def isRec (o : Oper) : Bool := match o.guard with
  | some _ => false
  | none => match o.op with
    | .call c => match c.callee with
      | .builtin b => (match b with
        | .recover => true
        | _ => false)
      | _ => false
    | _ => false

theorem isRec_run {P : Program} {o : Oper} (h : isRec o = true) (ε : Operand → Value) (w : World) : o.guard = none ∧ (execOp ε o).run P w = .ok .recover w := by
  unfold isRec at h
  split at h
  · cases h
  · rename_i hg
    refine ⟨hg, ?_⟩
    split at h
    · rename_i c hc
      split at h
      · rename_i b hb
        cases b <;> first | (cases h; done) | (unfold execOp; rw [hc]; simp only [resolve, hb, Sem.run_bind, Sem.run_pure, Result.andThen_ok, invoke, builtin])
      · cases h
    · cases h

/-- The callee, run; what is told of it is the state that it leaves. -/
def dRun (P : Program) (C : FuncId → Option CT) (Λ : LTab) (n : Nat) (g : FuncId) (caps : List SV) (px : Option SV) (h : HS) (F : HS → Bool) : Bool :=
  match fnOf P g with
  | none => false
  | some fn => bif fn.name == "runtime.NumGoroutine" then false else
    match fn.results.toList with
    | _ :: _ => false
    | [] => match fn.body with
      | some (.seq (.region _ ops draw) rest) => bif draw then false else (match ops.toList with
        | [] => false
        | o :: os => bif isRec o then setDst (caps.length + (fn.ntmps - caps.length)) o.dst (recOf px) (fun tm => fxOps P (sxCallE P C Λ n) (caps.length + (fn.ntmps - caps.length)) noE (o :: os) (fun tm h => sxCode P C Λ n g (caps.length + (fn.ntmps - caps.length)) rest (dK F) tm h) os tm h) (T.ofList caps) else false)
      | _ => false

/-- A state that goes on. -/
def GoesH (ρ : Nat → Loc) (h : HS) (F : HS → Bool) (w' : World) : Prop := ∃ h' ρ', F h' ∧ HRel ρ' h' w' ∧ Ext ρ ρ' h.nx ∧ h.nx ≤ h'.nx ∧ h.M.le h'.M

/-- Ahead of the deferred callee. -/
def modeOf (ρ : Nat → Loc) (px : Option SV) : FrameMode := match px with
  | none => .returning
  | some x => .panicking (pnc (x.den ρ))

theorem act_start {ρ : Nat → Loc} {nx k : Nat} {caps : List SV} (hl : ∀ x ∈ caps, x.lt ρ nx) : ARel [] ρ (T.ofList caps) (caps.length + (k - caps.length)) nx { tmps := (caps.map (SV.den ρ)).toArray ++ Array.replicate (k - (caps.map (SV.den ρ)).toArray.size) undef, defers := [] } := by
  refine ⟨by simp, fun i x hi => ?_, rfl⟩
  have hx := T.get_ofList hi
  refine ⟨hl x (List.mem_of_getElem? hx), ?_⟩
  have hlt := (List.getElem?_eq_some_iff.1 hx).1
  rw [Array.getElem?_append_left (by simpa using hlt)]
  simp [hx]

theorem results_none {P : Program} {fn : Func} (h : fn.results.toList = []) (tmps : Array Value) (w : World) : (results fn tmps).run P w = .ok (.tuple #[]) w := by
  have h0 : fn.results = #[] := Array.toList_inj.1 h
  rw [results_eq, h0, Array.mapM_eq_mapM_toList]
  simp

theorem dRun_goes {P : Program} (hm : P.follows .mixedOrders = true) {C : FuncId → Option CT} (hC : CTSound P C) {Λ : LTab} (hΛ : LTSound P Λ) {n : Nat} {g : FuncId} {caps : List SV} {px : Option SV} {h : HS} {F : HS → Bool} (hk : dRun P C Λ n g caps px h F = true)
    {ρ : Nat → Loc} {w : World} (R : HRel ρ h w) (hcaps : ∀ x ∈ caps, x.lt ρ h.nx) (hpx : ∀ x, px = some x → x.lt ρ h.nx) :
    (∃ fn, P.funcs[g]? = some fn ∧ (fn.name == "runtime.NumGoroutine") = false ∧ fn.body.isNone = false) ∧
    CallsD P g (caps.map (SV.den ρ)).toArray (modeOf ρ px) w fun e u' w' => e = .returned (.tuple #[]) ∧ settle u' = .returning ∧ GoesH ρ h F w' := by
  unfold dRun at hk
  split at hk
  · exact absurd hk Bool.false_ne_true
  · rename_i fn hfn
    have hf := fn_of hfn
    cases hname : fn.name == "runtime.NumGoroutine" with
    | true => rw [hname] at hk; exact absurd hk Bool.false_ne_true
    | false =>
      rw [hname] at hk
      simp only [cond_false] at hk
      split at hk
      · exact absurd hk Bool.false_ne_true
      · rename_i hres
        split at hk
        · rename_i id ops draw rest hb
          cases draw with
          | true => exact absurd hk Bool.false_ne_true
          | false =>
            simp only [cond_false] at hk
            split at hk
            · exact absurd hk Bool.false_ne_true
            · rename_i o os hops
              cases hrec : isRec o with
              | false => rw [hrec] at hk; exact absurd hk Bool.false_ne_true
              | true =>
                rw [hrec] at hk
                simp only [cond_true] at hk
                refine ⟨⟨fn, hf, hname, by rw [hb]; rfl⟩, callsD_of_wpS hf hb fun c₀ cs hc₀ => ?_⟩
                have A := act_start (k := fn.ntmps) hcaps
                have hl : (recOf px).lt ρ h.nx := by
                  cases px with
                  | none => trivial
                  | some x => exact hpx x rfl
                obtain ⟨tm1, hk1, A1⟩ := setDst_rel hk A hl
                have CS := sxCallE_sound hm hC hΛ n
                have h0 : ops[0]? = some o := by
                  have := congrArg (fun l => l[0]?) hops
                  simpa using this
                have hsz : List.range ops.size = 0 :: (List.range os.length).map (· + 1) := by
                  have : ops.size = os.length + 1 := by
                    have := congrArg List.length hops
                    simpa using this
                  rw [this, List.range_succ_eq_map]
                have hmap : ((List.range os.length).map (· + 1)).map (fun i => ops[i]?) = os.map some := by
                  apply List.ext_getElem?
                  intro i
                  simp only [List.map_map, List.getElem?_map]
                  by_cases hi : i < os.length
                  · have : ops[i + 1]? = os[i]? := by
                      have := congrArg (fun l => l[i + 1]?) hops
                      simpa using this
                    rw [List.getElem?_range hi]
                    simp only [Option.map_some, Function.comp]
                    rw [this, List.getElem?_eq_getElem hi]; rfl
                  · rw [List.getElem?_eq_none (by simpa using hi), List.getElem?_eq_none (by simpa using hi)]
                    rfl
                let u' : FrameMode := match px with
                  | none => .returning
                  | some x => .panicking [{ v := x.den ρ, recovered := true }]
                have hset : settle u' = .returning := by cases px <;> rfl
                have fin : ∀ a' w', Goes [] ρ h (caps.length + (fn.ntmps - caps.length)) (fun _ h => F h) a' w' →
                    a'.defers = [] ∧ ∃ u'', { c₀ with mode := u' } :: cs = { c₀ with mode := u'' } :: cs ∧ ∃ v, (results fn a'.tmps).run P w' = .ok v w' ∧ (Ending.returned v = .returned (.tuple #[]) ∧ settle u'' = .returning ∧ GoesH ρ h F w') := by
                  intro a' w' ⟨tm', h', ρ', k', A', R', x', n', m'⟩
                  exact ⟨A'.defers, u', rfl, _, results_none hres _ _, rfl, hset, h', ρ', k', R', x', n', m'⟩
                refine wpS_seq (wpS_region ?_)
                rw [hsz]
                obtain ⟨hg, hrun⟩ := isRec_run (P := P) hrec (Act.eval { tmps := (caps.map (SV.den ρ)).toArray ++ Array.replicate (fn.ntmps - (caps.map (SV.den ρ)).toArray.size) undef, defers := [] }) w
                have hwant : ∀ y, Region.wanted o y = true := fun y => by simp [Region.wanted, hg]
                have rest' : wpOpsS P ops (Exit.thenS (rest.wpS P (bodyPostS P fn c₀ cs fun e u' w' => e = .returned (.tuple #[]) ∧ settle u' = .returning ∧ GoesH ρ h F w')) (bodyPostS P fn c₀ cs fun e u' w' => e = .returned (.tuple #[]) ∧ settle u' = .returning ∧ GoesH ρ h F w'))
                    ((List.range os.length).map (· + 1)) (Act.put { tmps := (caps.map (SV.den ρ)).toArray ++ Array.replicate (fn.ntmps - (caps.map (SV.den ρ)).toArray.size) undef, defers := [] } o.dst ((recOf px).den ρ)) ({ c₀ with mode := u' } :: cs) w := by
                  have hk2 : fxOps P (sxCallE P C Λ n) (caps.length + (fn.ntmps - caps.length)) noE ops.toList (fun tm h => sxCode P C Λ n g (caps.length + (fn.ntmps - caps.length)) rest (dK F) tm h) os tm1 h = true := by rw [hops]; exact hk1
                  refine fxOpsS_wp CS _ os hmap hk2 A1 R (fun a' w' g => ?_) fun c a' w' g => (not_goesE g).elim
                  obtain ⟨tm2, h2, ρ2, k2, A2, R2, x2, n2, m2⟩ := g
                  show rest.wpS P _ a' _ w'
                  refine wpS_of_wp (wp_mono ((sxCode_wp hm hC hΛ n).1 _ _ _ _ _ _ ⟨fn, _, hf, hb, .seqR (.refl _)⟩ k2 [] ρ2 a' w' A2 R2) fun e a3 w3 g3 => ?_)
                  cases e with
                  | normal => exact fin a3 w3 (Goes.trans g3 x2 n2 m2)
                  | ret => exact fin a3 w3 (Goes.trans g3 x2 n2 m2)
                  | exit i => obtain ⟨_, _, _, hk', _⟩ := g3; exact absurd hk' Bool.false_ne_true
                  | goto l => exact g3.elim
                  | panic c => obtain ⟨_, _, _, _, _, _, hk', _⟩ := g3; exact absurd hk' Bool.false_ne_true
                  | outgrown => exact g3.elim
                simp only [wpOpsS, h0, hwant, if_true, hrun]
                cases px with
                | none =>
                  have hc1 : c₀.mode = .returning := hc₀
                  have hr : recoverD (c₀ :: cs) = none := by simp [recoverD, hc1]
                  rw [hr]
                  have e1 : ({ c₀ with mode := u' } : Frame) = c₀ := by
                    show ({ c₀ with mode := FrameMode.returning } : Frame) = c₀
                    rw [← hc1]
                  rw [e1] at rest'
                  exact rest'
                | some x =>
                  have hc1 : c₀.mode = .panicking [{ v := x.den ρ, recovered := false }] := hc₀
                  have hr : recoverD (c₀ :: cs) = some (x.den ρ, { c₀ with mode := u' } :: cs) := by simp [recoverD, hc1, u']
                  rw [hr]
                  exact rest'
        · exact absurd hk Bool.false_ne_true

/-! ### The function that defers it -/

theorem results_of_resV {ds : List Deferred} {P : Program} {fn : Func} {tm : T SV} {h : HS} {ρ : Nat → Loc} {sz : Nat} {a : Act} {w : World} (A : ARel ds ρ tm sz h.nx a) (H : HRel ρ h w) {vs : List SV} (hvs : resV P tm h fn.results.toList = some vs) :
    (results fn a.tmps).run P w = .ok ((oneOf vs).den ρ) w ∧ (oneOf vs).lt ρ h.nx := by
  obtain ⟨r1, r2⟩ := resV_run A H _ _ hvs
  refine ⟨?_, ?_⟩
  · rw [results_eq, Array.mapM_eq_mapM_toList]
    simp only [Sem.run_bind, Sem.run_map]
    rw [r1]
    simp only [Result.andThen_ok, Sem.run_pure]
    congr 1
    match vs with
    | [] => simp [oneOf, SV.den, SV.dens]
    | [v] => simp [oneOf]
    | v :: u :: vs => simp [oneOf, SV.den, SV.dens, dens_eq]
  · match vs with
    | [] => trivial
    | [v] => exact r2 v (by simp)
    | v :: u :: vs => exact lts_iff.2 r2

/-- What a function hands back in the end. -/
def resK (P : Program) (rs : List ResultVar) (K : SV → HS → Bool) (tm : T SV) (h : HS) : Bool := match resV P tm h rs with
  | some vs => K (oneOf vs) h
  | none => false

/-- Its way out: the callee runs, and the results are read. -/
def outK (P : Program) (C : FuncId → Option CT) (Λ : LTab) (n : Nat) (g : FuncId) (caps : List SV) (rs : List ResultVar) (K : SV → HS → Bool) : KT := fun e tm h => match e with
  | .ext _ => false
  | .pnc x => dRun P C Λ n g caps (some x) h fun h => resK P rs K tm h
  | .nrm => dRun P C Λ n g caps none h fun h => resK P rs K tm h
  | .ret => dRun P C Λ n g caps none h fun h => resK P rs K tm h

/-- The deferred function's value. -/
def deferOf (o : Oper) : Option Operand := match o.guard with
  | some _ => none
  | none => match o.dst with
    | some _ => none
    | none => match o.op with
      | .defer c => match c.callee with
        | .value f => (match c.args.toList with
          | [] => some f
          | _ => none)
        | _ => none
      | _ => none

theorem deferOf_run {P : Program} {o : Oper} {fv : Operand} (h : deferOf o = some fv) (ε : Operand → Value) (w : World) {g : FuncId} {cap : Array Value} (hv : ε fv = .func (.func g) #[] cap) :
    o.guard = none ∧ o.dst = none ∧ (execOp ε o).run P w = .ok (.defer { target := .fn (.func g) cap, args := #[] }) w := by
  unfold deferOf at h
  split at h
  · cases h
  · rename_i hg
    split at h
    · cases h
    · rename_i hd
      refine ⟨hg, hd, ?_⟩
      split at h
      · rename_i c hc
        split at h
        · rename_i f hf
          split at h
          · rename_i ha
            injection h with h
            subst h
            have ha : c.args = #[] := Array.toList_inj.1 ha
            unfold execOp
            rw [hc]
            simp only [resolve, hf, ha, hv, Deferred.ofValue, Sem.run_bind, Sem.run_pure, Result.andThen_ok]
            simp
          · cases h
        · cases h
      · cases h

/-- A function whose first two regions lay its variables and defer a call: a contract, by the executor. -/
def deferCT (P : Program) (C : FuncId → Option CT) (Λ : LTab) (n : Nat) (f : FuncId) : CT := fun args h K =>
  match fnOf P f with
  | none => false
  | some fn => bif fn.name == "runtime.NumGoroutine" then false else
    match fn.body with
    | some (.seq (.region _ ops0 d0) (.seq (.region _ ops1 d1) rest)) => bif d0 then false else bif d1 then false else
      fxOps P (sxCallE P C Λ n) (args.length + (fn.ntmps - args.length)) noE ops0.toList (fun tm h => match ops1.toList with
        | [o1, o2] => (match deferOf o2 with
          | some fv => fxOps P (sxCallE P C Λ n) (args.length + (fn.ntmps - args.length)) noE [o1, o2] (fun tm h => match opd tm fv with
            | some z => (match asFn z with
              | some (g, caps) => sxCode P C Λ n f (args.length + (fn.ntmps - args.length)) rest (outK P C Λ n g caps fn.results.toList K) tm h
              | none => false)
            | none => false) [o1] tm h
          | none => false)
        | _ => false) ops0.toList (T.ofList args) h
    | _ => false

theorem deferCT_goes {P : Program} (hm : P.follows .mixedOrders = true) {C : FuncId → Option CT} (hC : CTSound P C) {Λ : LTab} (hΛ : LTSound P Λ) {n : Nat} {f : FuncId} {args : List SV} {h : HS} {K : SV → HS → Bool} (hk : deferCT P C Λ n f args h K = true)
    {ρ : Nat → Loc} {w : World} (R : HRel ρ h w) (hargs : ∀ x ∈ args, x.lt ρ h.nx) : CallGoes P f (args.map (SV.den ρ)).toArray w (Post ρ h K) fun _ _ => False := by
  have CS := sxCallE_sound hm hC hΛ n
  unfold deferCT at hk
  split at hk
  · exact absurd hk Bool.false_ne_true
  · rename_i fn hfn
    have hf := fn_of hfn
    cases hname : fn.name == "runtime.NumGoroutine" with
    | true => rw [hname] at hk; exact absurd hk Bool.false_ne_true
    | false =>
      rw [hname] at hk
      simp only [cond_false] at hk
      split at hk
      · rename_i id0 ops0 d0 id1 ops1 d1 rest hb
        cases d0 with
        | true => exact absurd hk Bool.false_ne_true
        | false => cases d1 with
          | true => exact absurd hk Bool.false_ne_true
          | false =>
            simp only [cond_false] at hk
            refine .inl ⟨fn, hf, ⟨hname, by rw [hb]; rfl⟩, calls_of_wp_defers hf hb ?_⟩
            have A := act_start (k := fn.ntmps) hargs
            refine wp_seq (wp_region (fxOps_wp CS (List.range ops0.size) ops0.toList ?_ hk A R (fun a1 w1 g1 => ?_) fun c a w g => (not_goesE g).elim))
            · apply List.ext_getElem?
              intro i
              simp only [List.getElem?_map]
              by_cases hi : i < ops0.size
              · rw [List.getElem?_range hi]
                simp [hi]
              · rw [List.getElem?_eq_none (by simpa using hi), List.getElem?_eq_none (by simpa using hi)]
                rfl
            · obtain ⟨tm1, h1, ρ1, k1, A1, R1, x1, n1, m1⟩ := g1
              simp only at k1
              split at k1
              · rename_i o1 o2 hops
                split at k1
                · rename_i fv hfv
                  have i0 : ops1[0]? = some o1 := by
                    have := congrArg (fun l => l[0]?) hops
                    simpa using this
                  have i1 : ops1[1]? = some o2 := by
                    have := congrArg (fun l => l[1]?) hops
                    simpa using this
                  have hsz : List.range ops1.size = [0] ++ [1] := by
                    have : ops1.size = 2 := by
                      have := congrArg List.length hops
                      simpa using this
                    rw [this]; rfl
                  show (Code.seq _ rest).wp P _ a1 w1
                  refine wp_seq (wp_region ?_)
                  rw [hsz]
                  rw [← hops] at k1
                  refine fxOps_pre CS [0] [o1] (by simp [i0]) k1 A1 R1 (fun a2 w2 g2 => ?_) fun c a w g => (not_goesE g).elim
                  obtain ⟨tm2, h2, ρ2, k2, A2, R2, x2, n2, m2⟩ := g2
                  simp only at k2
                  split at k2
                  · rename_i z hz
                    split at k2
                    · rename_i g caps hgz
                      obtain ⟨e1, e2⟩ := opd_den A2 hz
                      obtain ⟨e3, e4⟩ := asFn_den hgz ρ2 e2
                      obtain ⟨hgd, hdst, hrun⟩ := deferOf_run (P := P) hfv a2.eval w2 (e1.trans e3)
                      have hwant : ∀ y, Region.wanted o2 y = true := fun y => by simp [Region.wanted, hgd]
                      simp only [wpOps, i1, hwant, if_true]
                      refine .inl ?_
                      unfold Oper.wp
                      rw [hrun, Oper.upon_defer, hdst]
                      show rest.wp P _ _ w2
                      let d : Deferred := { target := .fn (.func g) (caps.map (SV.den ρ2)).toArray, args := #[] }
                      have A3 : ARel [d] ρ2 tm2 (args.length + (fn.ntmps - args.length)) h2.nx { a2 with defers := d :: a2.defers } := ⟨A2.size, A2.at_, by rw [A2.defers]⟩
                      -- the way out
                      have leave : ∀ (px : Option SV) (tm4 : T SV) (h4 : HS) (ρ4 : Nat → Loc) (a4 : Act) (w4 : World), (∀ x, px = some x → x.lt ρ4 h4.nx) →
                          dRun P C Λ n g caps px h4 (fun h => resK P fn.results.toList K tm4 h) = true → ARel [d] ρ4 tm4 (args.length + (fn.ntmps - args.length)) h4.nx a4 → HRel ρ4 h4 w4 → Ext ρ2 ρ4 h2.nx → h2.nx ≤ h4.nx → h2.M.le h4.M →
                          Leaves P fn a4.tmps (fun e w' => (∃ v, e = .returned v ∧ Post ρ h K v w') ∨ ∃ v, e = .panicked (pnc v) ∧ False) a4.defers (modeOf ρ4 px) w4 := by
                        intro px tm4 h4 ρ4 a4 w4 hpx k4 A4 R4 x4 n4 m4
                        have hc4 : ∀ x ∈ caps, x.lt ρ4 h4.nx := fun x hx => SV.lt_ext x4 n4 x (e4 x hx)
                        have hcap : (caps.map (SV.den ρ4)) = caps.map (SV.den ρ2) := List.map_congr_left fun x hx => SV.den_ext x4 x (e4 x hx)
                        obtain ⟨⟨fg, hfg, hng, hbg⟩, hcalls⟩ := dRun_goes hm hC hΛ k4 R4 hc4 hpx
                        rw [A4.defers]
                        refine leaves_cons (f := g) (args := (caps.map (SV.den ρ4)).toArray) ?_ ?_ (hcalls.mono fun e u' w' hor => ?_)
                        · cases px <;> (intro e; cases e)
                        · simp only [invoke, callFunc, Sem.run_bind, Result.andThen_ok, run_program, hfg, hng, hbg, Bool.false_eq_true, if_false, Sem.run_pure, hcap]
                          simp
                        · obtain ⟨he, hs, h5, ρ5, k5, R5, x5, n5, m5⟩ := hor
                          subst he
                          show Leaves P fn a4.tmps _ [] (settle u') w'
                          rw [hs]
                          have k5 : resK P fn.results.toList K tm4 h5 = true := k5
                          unfold resK at k5
                          split at k5
                          · rename_i vs hvs
                            obtain ⟨r1, r2⟩ := results_of_resV (A4.ext x5 n5) R5 hvs
                            refine ⟨_, r1, .inl ⟨_, rfl, oneOf vs, h5, ρ5, k5, rfl, r2, R5, ?_, ?_, ?_⟩⟩
                            · exact ((x1.trans x2 n1).trans x4 (Nat.le_trans n1 n2)).trans x5 (Nat.le_trans (Nat.le_trans n1 n2) n4)
                            · exact Nat.le_trans (Nat.le_trans (Nat.le_trans n1 n2) n4) n5
                            · exact Mem.le_trans (Mem.le_trans (Mem.le_trans m1 m2) m4) m5
                          · exact absurd k5 Bool.false_ne_true
                      refine wp_mono ((sxCode_wp hm hC hΛ n).1 _ _ _ _ _ _ ⟨fn, _, hf, hb, .seqR (.seqR (.refl _))⟩ k2 [d] ρ2 _ w2 A3 R2) fun e a4 w4 g4 => ?_
                      cases e with
                      | normal =>
                        obtain ⟨tm4, h4, ρ4, k4, A4, R4, x4, n4, m4⟩ := g4
                        exact leave none tm4 h4 ρ4 a4 w4 (fun x e => by cases e) k4 A4 R4 x4 n4 m4
                      | ret =>
                        obtain ⟨tm4, h4, ρ4, k4, A4, R4, x4, n4, m4⟩ := g4
                        exact leave none tm4 h4 ρ4 a4 w4 (fun x e => by cases e) k4 A4 R4 x4 n4 m4
                      | exit i => obtain ⟨_, _, _, hk', _⟩ := g4; exact absurd hk' Bool.false_ne_true
                      | goto l => exact g4.elim
                      | panic c =>
                        obtain ⟨x, tm4, h4, ρ4, hc, hl, k4, A4, R4, x4, n4, m4⟩ := g4
                        subst hc
                        exact leave (some x) tm4 h4 ρ4 a4 w4 (fun y e => by injection e with e; subst e; exact hl) k4 A4 R4 x4 n4 m4
                      | outgrown => exact g4.elim
                    · exact absurd k2 Bool.false_ne_true
                  · exact absurd k2 Bool.false_ne_true
                · exact absurd k1 Bool.false_ne_true
              · exact absurd k1 Bool.false_ne_true
      · exact absurd hk Bool.false_ne_true

end
end Go.Sx

namespace Go.Proofs.YthbaimobihmhiaaGreatDoor
open Go.Sx Go.RowKit
noncomputable section
open Classical

def C1 : FuncId → Option CT := fun f => bif Nat.beq f 45 then some (deferCT Tryz.prog C0 noL 400 45) else C0 f

theorem C1_sound : CTSound Tryz.prog C1 := by
  intro f ct h args h0 K hk ρ w H hargs
  unfold C1 at h
  cases h1 : Nat.beq f 45 with
  | true =>
    rw [h1] at h
    have := Nat.eq_of_beq_eq_true h1
    subst this
    simp only [cond_true, Option.some.injEq] at h
    subst h
    exact deferCT_goes mixed C0_sound (noL_sound _) hk H hargs
  | false =>
    rw [h1] at h
    exact C0_sound f ct h args h0 K hk ρ w H hargs

set_option maxRecDepth 100000 in
theorem awake_run (w : World) : sxTop Tryz.prog C1 noL 400 6 [] ⟨.e, 0, memOf w⟩ (fun r _ => isT r) = true := by kernel_rfl

def awakeS : FSpec := ⟨Unit, fun _ vs _ => vs = [], fun _ _ A v A' => A' = A ∧ v = .bool true⟩

theorem awake_ok : FOk Tryz.prog 6 awakeS := fok_closed mixed C1_sound (noL_sound _) awake_run

end
end Go.Proofs.YthbaimobihmhiaaGreatDoor

namespace Go.Proofs.YthbaimobihmhiaaGreatDoor
open Go.Sx Go.RowKit
noncomputable section
open Classical

/-! ### Bytes -/

def sameBytesS : FSpec := ⟨List UInt8 × List UInt8, fun g vs A => ∃ x y, vs = [x, y] ∧ SlB A x g.1 ∧ SlB A y g.2, fun g _ A v A' => A' = A ∧ v = .bool (decide (g.1 = g.2))⟩

set_option maxRecDepth 100000 in
set_option maxHeartbeats 0 in
theorem sameBytes_ok : FOk Tryz.prog 9 sameBytesS := by
  refine fok_v mixed fun ⟨ls, bs⟩ vs A hp => ?_
  simp only [sameBytesS] at hp
  obtain ⟨x, y, rfl, ⟨⟨ao, c, rfl, hc, _, ha1, ha2, ha3⟩, hxl⟩, ⟨bo, d, rfl, hd, _, hb1, hb2, hb3⟩, hyl⟩ := hp
  refine ⟨noC, tabO Tryz.prog noC noL 60 [(9, 0)], 60, noC_sound _, tabO_sound mixed (noC_sound _) (noL_sound _) _ _, fun blk os out tape D hD => ?_⟩
  conv => lhs; whnf
  refine split_b (fun hb => ?_) (fun hb => ?_) <;> (conv => lhs; whnf)
  · refine (hD _).2 ⟨rfl, ?_⟩
    have : ls ≠ bs := fun e => by subst e; simp at hb
    simp [this]
  · have hlen : ls.length = bs.length := by
      have : (ls.length : Int) = bs.length := by simpa using hb
      omega
    refine (hD _).2 ⟨cnt A 5 [0, 1] [] ls.length fun k => ls.take k = bs.take k, ⟨(0 : Nat), ⟨Nat.zero_le _, rfl⟩, ⟨rfl, trivial⟩, trivial, rfl⟩, fun (k : Nat) hk => ⟨⟨trivial, trivial⟩, trivial, ?_⟩⟩
    simp only [cnt] at hk
    conv => lhs; whnf
    refine split_dec (fun hlt => ?_) (fun hb => ?_) <;> (conv => lhs; whnf)
    · have hlt : k < ls.length := by omega
      obtain ⟨g, o, rfl, hra⟩ := Sl.at_ hc ha1 ha2 ha3 (by omega)
      obtain ⟨g', o', rfl, hrb⟩ := Sl.at_ hd hb1 hb2 hb3 (by omega)
      conv => lhs; whnf
      refine split_in (fun _ _ => ?_) (fun h => by omega)
      conv => lhs; whnf
      refine go_rd (byte_at hra k hlt rfl) ?_
      conv => lhs; whnf
      refine split_in (fun _ _ => ?_) (fun h => by omega)
      conv => lhs; whnf
      refine go_rd (byte_at hrb k (by omega) rfl) ?_
      conv => lhs; whnf
      refine split_b (fun hb => ?_) (fun hb => ?_) <;> (conv => lhs; whnf)
      · refine (hD _).2 ⟨rfl, ?_⟩
        have : ls ≠ bs := fun e => by subst e; simp at hb
        simp [this]
      · have he : ls[k] = bs[k] := by
          have : (ls[k].toNat : Int) = bs[k].toNat := by simpa using hb
          exact UInt8.toNat_inj.1 (by omega)
        refine (hD _).2 ⟨(k + 1 : Nat), ⟨⟨by omega, ?_⟩, ⟨inc_slot (by omega), trivial⟩, trivial, rfl⟩, ?_, ⟨rfl, rfl, trivial⟩, trivial⟩
        · show ls.take (k + 1) = bs.take (k + 1)
          rw [List.take_succ_eq_append_getElem hlt, List.take_succ_eq_append_getElem (by omega), hk.2, he]
        · show ls.length - (k + 1) < ls.length - k
          omega
    · refine (hD _).2 ⟨rfl, ?_⟩
      have h1 : k = ls.length := by omega
      have : ls = bs := by
        have := hk.2
        rw [h1, List.take_length, hlen, List.take_length] at this
        exact this
      simp [this]

end
end Go.Proofs.YthbaimobihmhiaaGreatDoor

namespace Go.Sx
noncomputable section
open Go.RowKit Go.ChangeShapes Go.WideShapes

theorem list1 {α : Type} {l : List α} (h : l.length = 1) : ∃ v0, l = [v0] := by
  match l, h with
  | [v0], _ => exact ⟨v0, rfl⟩

theorem list2 {α : Type} {l : List α} (h : l.length = 2) : ∃ v0 v1, l = [v0, v1] := by
  match l, h with
  | [v0, v1], _ => exact ⟨v0, v1, rfl⟩

theorem list3 {α : Type} {l : List α} (h : l.length = 3) : ∃ v0 v1 v2, l = [v0, v1, v2] := by
  match l, h with
  | [v0, v1, v2], _ => exact ⟨v0, v1, v2, rfl⟩

theorem list4 {α : Type} {l : List α} (h : l.length = 4) : ∃ v0 v1 v2 v3, l = [v0, v1, v2, v3] := by
  match l, h with
  | [v0, v1, v2, v3], _ => exact ⟨v0, v1, v2, v3, rfl⟩

theorem list5 {α : Type} {l : List α} (h : l.length = 5) : ∃ v0 v1 v2 v3 v4, l = [v0, v1, v2, v3, v4] := by
  match l, h with
  | [v0, v1, v2, v3, v4], _ => exact ⟨v0, v1, v2, v3, v4, rfl⟩

theorem list6 {α : Type} {l : List α} (h : l.length = 6) : ∃ v0 v1 v2 v3 v4 v5, l = [v0, v1, v2, v3, v4, v5] := by
  match l, h with
  | [v0, v1, v2, v3, v4, v5], _ => exact ⟨v0, v1, v2, v3, v4, v5, rfl⟩

theorem list7 {α : Type} {l : List α} (h : l.length = 7) : ∃ v0 v1 v2 v3 v4 v5 v6, l = [v0, v1, v2, v3, v4, v5, v6] := by
  match l, h with
  | [v0, v1, v2, v3, v4, v5, v6], _ => exact ⟨v0, v1, v2, v3, v4, v5, v6, rfl⟩

theorem list8 {α : Type} {l : List α} (h : l.length = 8) : ∃ v0 v1 v2 v3 v4 v5 v6 v7, l = [v0, v1, v2, v3, v4, v5, v6, v7] := by
  match l, h with
  | [v0, v1, v2, v3, v4, v5, v6, v7], _ => exact ⟨v0, v1, v2, v3, v4, v5, v6, v7, rfl⟩

theorem list15 {α : Type} {l : List α} (h : l.length = 15) : ∃ v0 v1 v2 v3 v4 v5 v6 v7 v8 v9 v10 v11 v12 v13 v14, l = [v0, v1, v2, v3, v4, v5, v6, v7, v8, v9, v10, v11, v12, v13, v14] := by
  match l, h with
  | [v0, v1, v2, v3, v4, v5, v6, v7, v8, v9, v10, v11, v12, v13, v14], _ => exact ⟨v0, v1, v2, v3, v4, v5, v6, v7, v8, v9, v10, v11, v12, v13, v14, rfl⟩

theorem list16 {α : Type} {l : List α} (h : l.length = 16) : ∃ v0 v1 v2 v3 v4 v5 v6 v7 v8 v9 v10 v11 v12 v13 v14 v15, l = [v0, v1, v2, v3, v4, v5, v6, v7, v8, v9, v10, v11, v12, v13, v14, v15] := by
  match l, h with
  | [v0, v1, v2, v3, v4, v5, v6, v7, v8, v9, v10, v11, v12, v13, v14, v15], _ => exact ⟨v0, v1, v2, v3, v4, v5, v6, v7, v8, v9, v10, v11, v12, v13, v14, v15, rfl⟩

theorem list18 {α : Type} {l : List α} (h : l.length = 18) : ∃ v0 v1 v2 v3 v4 v5 v6 v7 v8 v9 v10 v11 v12 v13 v14 v15 v16 v17, l = [v0, v1, v2, v3, v4, v5, v6, v7, v8, v9, v10, v11, v12, v13, v14, v15, v16, v17] := by
  match l, h with
  | [v0, v1, v2, v3, v4, v5, v6, v7, v8, v9, v10, v11, v12, v13, v14, v15, v16, v17], _ => exact ⟨v0, v1, v2, v3, v4, v5, v6, v7, v8, v9, v10, v11, v12, v13, v14, v15, v16, v17, rfl⟩

/-- All memory that lay, as an arena. -/
def allOf (W : World) : Arena := Arena.of fun k => W.heap[k]?

theorem cells_spot {W : World} {a : Addr} {n : Nat} {cs : List Value} (h : W.cells? 0 a n = some cs) (hn : 0 < n) : a.spot = none := by
  unfold World.cells? at h
  rw [if_pos (Nat.zero_le _)] at h
  have h1 := mapM_some_get h 0 0 (by simp [hn])
  have hl := mapM_some_length h
  rw [List.length_range] at hl
  have h2 : cs[0]? = some cs[0] := List.getElem?_eq_getElem (by omega)
  rw [h2] at h1
  unfold World.cell? Addr.add at h1
  simp only [if_true] at h1
  split at h1
  · split at h1
    · cases h1
    · rename_i h3
      cases hs : a.spot with
      | none => rfl
      | some s => rw [hs] at h3; simp at h3
  · cases h1

theorem cells_rd {W : World} {g o : Nat} {n : Nat} {cs : List Value} (h : W.cells? 0 ⟨g, o, none⟩ n = some cs) (hn : 0 < n) : (allOf W).rd g o n = some cs := by
  unfold World.cells? at h
  rw [if_pos (Nat.zero_le _)] at h
  have hl := mapM_some_length h
  rw [List.length_range] at hl
  have key : ∀ i, i < n → ∃ c t fz, W.heap[g]? = some (.cells c t fz) ∧ c[o + i]? = cs[i]? := fun i hi => by
    have h1 := mapM_some_get h i i (by simp [hi])
    have h2 : cs[i]? = some cs[i] := List.getElem?_eq_getElem (by omega)
    rw [h2] at h1
    unfold World.cell? at h1
    rw [add_none] at h1
    simp only at h1
    split at h1
    · rename_i c t fz hb
      simp only [Option.isSome_none, Bool.false_eq_true, if_false] at h1
      exact ⟨c, t, fz, hb, by rw [h1, h2]⟩
    · cases h1
  obtain ⟨c, t, fz, hb, _⟩ := key 0 hn
  have hle : o + n ≤ c.size := by
    obtain ⟨c', t', fz', hb', h3⟩ := key (n - 1) (by omega)
    rw [hb] at hb'
    injection hb' with hb'
    injection hb' with e1 e2 e3
    subst e1
    have h4 : cs[n - 1]? = some cs[n - 1] := List.getElem?_eq_getElem (by omega)
    rw [h4] at h3
    have := (Array.getElem?_eq_some_iff.1 h3).1
    omega
  rw [rd_mk (A := allOf W) (c := c) (t := t) (fz := fz) hb hle]
  congr 1
  refine List.ext_getElem? fun i => ?_
  by_cases hi : i < n
  · obtain ⟨c', t', fz', hb', h3⟩ := key i hi
    rw [hb] at hb'
    injection hb' with hb'
    injection hb' with e1 e2 e3
    subst e1
    rw [List.getElem?_take_of_lt hi, List.getElem?_drop, Array.getElem?_toList, h3]
  · rw [List.getElem?_eq_none (by simp; omega), List.getElem?_eq_none (by omega)]

theorem rd_join {A : Arena} {g o n m : Nat} {xs ys : List Value} (h1 : A.rd g o n = some xs) (h2 : A.rd g (o + n) m = some ys) : A.rd g o (n + m) = some (xs ++ ys) := by
  obtain ⟨c, t, fz, hb, hle, rfl⟩ := rd_some h1
  obtain ⟨c', t', fz', hb', hle', rfl⟩ := rd_some h2
  rw [hb] at hb'
  injection hb' with hb'
  injection hb' with e1 e2 e3
  subst e1
  rw [rd_mk hb (by omega), List.take_add, List.drop_drop]

section
variable {H : Type} {enc : TypeId × Value → H} {P : Program} {W : World}

/-- How cells are read here. -/
abbrev trodA (enc : TypeId × Value → H) (P : Program) (W : World) (n : Nat) (t : TypeId) (cs : List Value) : Option (DataW H × List MemPlace) := DataW.trod enc P W 0 (fun _ => true) true n t cs

/-- No row in it is longer than what can be reached. -/
def RFits (P : Program) (t : TypeId) (d : DataW H) : Prop := ∀ z ∈ d.weights P t, z ≤ 140737488351232

theorem weightsAll_mem {e : TypeId} : ∀ {l : List (DataW H)} {d : DataW H}, d ∈ l → ∀ z ∈ d.weights P e, z ∈ DataW.weightsAll P e l
  | [], d, h => by cases h
  | x :: l, d, h => fun z hz => by
    simp only [DataW.weightsAll, List.mem_append]
    rcases List.mem_cons.1 h with rfl | h
    · exact .inl hz
    · exact .inr (weightsAll_mem h z hz)

theorem weightsEach_mem : ∀ {ts : List TypeId} {l : List (DataW H)} {i : Nat} {t : TypeId} {d : DataW H}, ts[i]? = some t → l[i]? = some d → ∀ z ∈ d.weights P t, z ∈ DataW.weightsEach P ts l
  | [], _, _, _, _, h1, _ => by simp at h1
  | _ :: _, [], _, _, _, _, h2 => by simp at h2
  | t' :: ts, d' :: l, 0, t, d, h1, h2 => fun z hz => by
    simp only [List.getElem?_cons_zero, Option.some.injEq] at h1 h2
    subst h1; subst h2
    simp only [DataW.weightsEach, List.mem_append]
    exact .inl hz
  | t' :: ts, d' :: l, i + 1, t, d, h1, h2 => fun z hz => by
    simp only [List.getElem?_cons_succ] at h1 h2
    simp only [DataW.weightsEach, List.mem_append]
    exact .inr (weightsEach_mem h1 h2 z hz)

theorem rfits_at {ts : List TypeId} {l : List (DataW H)} (h : (DataW.weightsEach P ts l).all (· ≤ reachBytes) = true) (i : Nat) {t : TypeId} {d : DataW H} (h1 : ts[i]? = some t) (h2 : l[i]? = some d) : RFits P t d := fun z hz => by
  have h3 := List.all_eq_true.1 h z (weightsEach_mem h1 h2 z hz)
  have h4 : z ≤ reachBytes := by simpa using h3
  exact h4

/-- A slice's cell. -/
theorem slice_cell {t e : TypeId} (ht : P.underlying t = some (.slice e)) {r : Reach} {b : Nat} {v : Value} (h : Value.okWide P W r b t v) : v.cells.toList = [v] := by
  unfold Value.okWide at h
  rw [ht] at h
  simp only [Cell.okWide, Cell.ok, ht] at h
  cases v with
  | slice a l c => rfl
  | _ => exact h.elim

/-- A slice: its row, and each of its elements. -/
theorem slice_up {t e : TypeId} {es B : Nat} (ht : P.underlying t = some (.slice e)) (hes : P.cellsOf e = es) (hes0 : 0 < es) (hB : P.bytesOf e = B) {n : Nat} {x : DataW H × List MemPlace} {v : Value} (h : trodA enc P W n t [v] = some x) (hw : RFits P t x.1) :
    ∃ rows : List (List Value), Sl (allOf W) es rows.length v rows.flatten ∧ rows.length * B ≤ 140737488351232 ∧ ∀ r ∈ rows, r.length = es ∧ ∃ m y, m < n ∧ trodA enc P W m e r = some y ∧ RFits P e y.1 := by
  rcases DataW.trod_slice ht h with ⟨hn, _⟩ | ⟨a, len, cap, elems, rest, m, hm, hn, hx, _, hle, _, hel, hrd, hsp, _⟩
  · obtain rfl : v = .slice none 0 0 := by simpa using hn
    exact ⟨[], Sl.nil _ _, by simp, by simp⟩
  · obtain rfl : v = .slice (some a) len cap := by simpa using hn
    obtain ⟨hr1, hr2⟩ := hsp rfl
    subst hes
    have hone : ∀ i, i < len → ∃ cs y, W.cells? 0 (a.add (i * P.cellsOf e)) (P.cellsOf e) = some cs ∧ trodA enc P W m e cs = some y ∧ elems[i]? = some y := fun i hi => by
      have h1 := hrd i hi
      have h2 : elems[i]? = some elems[i] := List.getElem?_eq_getElem (by omega)
      rw [h2, Option.bind_eq_some_iff] at h1
      obtain ⟨cs, h3, h4⟩ := h1
      exact ⟨cs, _, h3, h4, h2⟩
    have hspot : 0 < cap → a.spot = none := fun hc => by
      by_cases h0 : 0 < len
      · obtain ⟨cs, y, h1, _⟩ := hone 0 h0
        rw [Nat.zero_mul] at h1
        exact cells_spot (a := a) (by simpa [Addr.add] using h1) hes0
      · have h1 := hr2 0 (by omega)
        have h2 : rest[0]? = some rest[0] := List.getElem?_eq_getElem (by omega)
        rw [h2, Option.bind_eq_some_iff] at h1
        obtain ⟨cs, h3, _⟩ := h1
        have h0 : len = 0 := by omega
        subst h0
        exact cells_spot (a := a) (by simpa [Addr.add] using h3) hes0
    have hfit : ∀ y ∈ elems, RFits P e y.1 := fun y hy z hz => by
      refine hw z ?_
      rw [hx]
      simp only [DataW.weights, ht, List.mem_cons, List.mem_append]
      exact .inr (.inl (weightsAll_mem (List.mem_map.2 ⟨y, hy, rfl⟩) z hz))
    have hrows : ∀ k, k ≤ len → ∃ rows : List (List Value), rows.length = k ∧ (0 < k → (allOf W).rd a.block a.off (k * P.cellsOf e) = some rows.flatten) ∧ ∀ r ∈ rows, r.length = P.cellsOf e ∧ ∃ m y, m < n ∧ trodA enc P W m e r = some y ∧ RFits P e y.1 := fun k => by
      induction k with
      | zero => exact fun _ => ⟨[], rfl, fun h => (by omega), by simp⟩
      | succ k ih =>
        intro hk
        obtain ⟨rows, r1, r2, r3⟩ := ih (by omega)
        obtain ⟨cs, y, h1, h2, h3⟩ := hone k (by omega)
        obtain ⟨g, o, s⟩ := a
        have hs := hspot (by omega)
        simp only at hs
        subst hs
        rw [add_none] at h1
        have h4 := cells_rd h1 hes0
        refine ⟨rows ++ [cs], by simp [r1], fun _ => ?_, fun r hr => ?_⟩
        · rw [List.flatten_append, Nat.succ_mul]
          simp only [List.flatten_cons, List.flatten_nil, List.append_nil]
          by_cases h0 : 0 < k
          · exact rd_join (r2 h0) h4
          · have h0 : k = 0 := by omega
            subst h0
            have : rows = [] := List.length_eq_zero_iff.1 r1
            subst this
            simpa using h4
        · rcases List.mem_append.1 hr with hr | hr
          · exact r3 r hr
          · rw [List.mem_singleton] at hr
            subst hr
            exact ⟨rd_len h4, m, y, by omega, h2, hfit y (List.mem_of_getElem? h3)⟩
    obtain ⟨rows, r1, r2, r3⟩ := hrows len (Nat.le_refl _)
    refine ⟨rows, ⟨some a, cap, by rw [r1], by omega, ?_, fun h => (by cases h), fun b hb hc => (by injection hb with hb; subst hb; exact hspot hc), fun h0 b hb => (by injection hb with hb; subst hb; rw [r1]; exact r2 (by omega))⟩, ?_, r3⟩
    · clear r1 r2
      induction rows with
      | nil => simp
      | cons r rows ih =>
        rw [List.flatten_cons, List.length_append, ih (fun x hx => r3 x (List.mem_cons_of_mem _ hx)), (r3 r (by simp)).1, List.length_cons, Nat.succ_mul]; omega
    · have h1 : (elems.length + rest.length) * P.bytesOf e ≤ 140737488351232 := by
        refine hw _ ?_
        rw [hx]
        simp [DataW.weights, ht]
      rw [hB] at h1
      refine Nat.le_trans (Nat.mul_le_mul_right B ?_) h1
      omega

/-- A struct: each of its fields. -/
theorem fields_up {t : TypeId} {fs : Array Field} (ht : P.underlying t = some (.struct fs)) {n : Nat} {x : DataW H × List MemPlace} {cs : List Value} (h : trodA enc P W n t cs = some x) (hw : RFits P t x.1) :
    cs.length = P.cellsOf t ∧ ∃ m, m < n ∧ ∀ (i : Nat) (f : Field), fs[i]? = some f → ∃ y, trodA enc P W m f.type ((cs.drop f.offset).take (P.cellsOf f.type)) = some y ∧ RFits P f.type y.1 := by
  obtain ⟨xs, m, hm, hx, hl, hlen, hf⟩ := DataW.trod_struct ht h
  refine ⟨hl, m, by omega, fun i f hi => ?_⟩
  have hi' : i < fs.size := (Array.getElem?_eq_some_iff.1 hi).1
  have h2 : xs[i]? = some xs[i] := List.getElem?_eq_getElem (by omega)
  refine ⟨xs[i], (hf i f hi).trans h2, fun z hz => hw z ?_⟩
  rw [hx]
  simp only [DataW.weights, ht]
  exact weightsEach_mem (i := i) (t := f.type) (d := xs[i].1) (by simp [hi]) (by simp [h2]) z hz

variable {n : Nat} {t : TypeId} {v : Value} {l : List Value}

/-- A field of one cell. -/
theorem up_one (hc : P.cellsOf t = 1) (h : ∃ y, trodA enc P W n t ((v :: l).take (P.cellsOf t)) = some y ∧ RFits P t y.1) : ∃ y, trodA enc P W n t [v] = some y ∧ RFits P t y.1 := by
  rw [hc] at h
  exact h

theorem up_int {k : IntKind} (ht : P.underlying t = some (.int k)) (hc : P.cellsOf t = 1) (h : ∃ y, trodA enc P W n t ((v :: l).take (P.cellsOf t)) = some y ∧ RFits P t y.1) : ∃ x, v = .int k x ∧ (Lit.int k x).wf = true := by
  obtain ⟨y, h, _⟩ := up_one hc h
  obtain ⟨x, hx, _, hw⟩ := DataW.trod_int ht h
  exact ⟨x, by simpa using hx, hw⟩

theorem up_bool (ht : P.underlying t = some .bool) (hc : P.cellsOf t = 1) (h : ∃ y, trodA enc P W n t ((v :: l).take (P.cellsOf t)) = some y ∧ RFits P t y.1) : ∃ x, v = .bool x := by
  obtain ⟨y, h, _⟩ := up_one hc h
  obtain ⟨x, hx, _⟩ := DataW.trod_bool ht h
  exact ⟨x, by simpa using hx⟩

theorem up_string (ht : P.underlying t = some .string) (hc : P.cellsOf t = 1) (h : ∃ y, trodA enc P W n t ((v :: l).take (P.cellsOf t)) = some y ∧ RFits P t y.1) : ∃ x : ByteArray, v = .string x ∧ x.data.toList.length ≤ 140737488351232 := by
  obtain ⟨y, h, hf⟩ := up_one hc h
  obtain ⟨x, hx, hy, _⟩ := DataW.trod_string ht h
  refine ⟨x, by simpa using hx, hf _ ?_⟩
  rw [hy]
  simp [DataW.weights]

theorem up_bytes {e : TypeId} (ht : P.underlying t = some (.slice e)) (he : P.underlying e = some (.int .u8)) (hc : P.cellsOf e = 1) (hb : P.bytesOf e = 1) (ht1 : P.cellsOf t = 1) (h : ∃ y, trodA enc P W n t ((v :: l).take (P.cellsOf t)) = some y ∧ RFits P t y.1) : ∃ bs, SlB (allOf W) v bs := by
  obtain ⟨y, h, hf⟩ := up_one ht1 h
  obtain ⟨rows, h1, h2, h3⟩ := slice_up ht hc (by omega) hb h hf
  have key : ∀ rows : List (List Value), (∀ r ∈ rows, r.length = 1 ∧ ∃ m y, m < n ∧ trodA enc P W m e r = some y ∧ RFits P e y.1) → ∃ bs : List UInt8, rows.flatten = bs.map bv ∧ bs.length = rows.length := by
    intro rows
    induction rows with
    | nil => exact fun _ => ⟨[], rfl, rfl⟩
    | cons r rows ih =>
      intro h
      obtain ⟨bs, k1, k2⟩ := ih fun x hx => h x (List.mem_cons_of_mem _ hx)
      obtain ⟨_, m, y, _, h5, _⟩ := h r (by simp)
      obtain ⟨x, hx, _, hwf⟩ := DataW.trod_int he h5
      have hr : 0 ≤ x ∧ x < 256 := by
        simp only [Lit.wf, Bool.and_eq_true, decide_eq_true_eq] at hwf
        have h8 : IntKind.u8.min = 0 := rfl
        have h9 : IntKind.u8.max = 255 := rfl
        omega
      refine ⟨UInt8.ofNat x.toNat :: bs, ?_, by simp [k2]⟩
      rw [List.flatten_cons, k1, hx, List.map_cons]
      simp only [bv, List.cons_append, List.nil_append, List.cons.injEq, and_true]
      congr 1
      simp only [UInt8.toNat_ofNat']
      omega
  obtain ⟨bs, k1, k2⟩ := key rows h3
  refine ⟨bs, ?_, by omega⟩
  rw [k2, ← k1]
  exact h1

end

/-- A contract whose arena is all that lay: what lay lies as it lay. -/
theorem below_of_moves {A' : Arena} {w w' : World} (hs : (allOf w).Sub A') (hm : Moves (allOf w) A' w w') : Below w.heap.size w w' := by
  have hb : ∀ k, k < w.heap.size → w'.heap[k]? = w.heap[k]? := fun k hk => by
    have h0 : w.heap[k]? = some w.heap[k] := Array.getElem?_eq_getElem hk
    rw [hm.sub k _ (hs k _ h0)]
    exact h0.symm
  refine ⟨hm.os, hm.tape, hm.out, ?_, hb⟩
  rcases Nat.eq_zero_or_pos w.heap.size with h0 | h0
  · omega
  · have h1 := hb (w.heap.size - 1) (by omega)
    have h2 : (w.heap[w.heap.size - 1]?) = some w.heap[w.heap.size - 1] := Array.getElem?_eq_getElem (by omega)
    rw [h2] at h1
    have := (Array.getElem?_eq_some_iff.1 h1).1
    omega

/-- A contract, as what a call shows. -/
theorem calls_of_fok {P : Program} {f : FuncId} {S : FSpec} (h : FOk P f S) {fn : Func} (hf : P.funcs[f]? = some fn) (hn : (fn.name == "runtime.NumGoroutine") = false) (hb : fn.body.isSome = true) (g : S.γ) (vs : List Value) (w : World) (hp : S.pre g vs (allOf w))
    (hs : ∀ v A', S.post g vs (allOf w) v A' → (allOf w).Sub A') : Calls P f vs.toArray w fun e w' => ∃ v, e = .returned v ∧ (∃ A', S.post g vs (allOf w) v A') ∧ Below w.heap.size w w' :=
  (calls_of_goes (h g vs (allOf w) w (fun _ _ h => h) hp) hf hn hb).mono fun _ _ ⟨v, he, A', h1, h2⟩ => ⟨v, he, ⟨A', h1⟩, below_of_moves (hs v A' h1) h2⟩

end
end Go.Sx

namespace Go.Proofs.YthbaimobihmhiaaGreatDoor
open Go.Sx Go.RowKit Go.ChangeShapes Go.WideShapes
noncomputable section

section
variable {H : Type} {enc : TypeId × Value → H} {W : World}

theorem member_up {n : Nat} {cs : List Value} (h : ∃ y, trodA enc Tryz.prog W n 68 cs = some y ∧ RFits Tryz.prog 68 y.1) : ∃ m : MemD, cs = m.cells := by
  obtain ⟨y, h, hf⟩ := h
  obtain ⟨hl, m, _, hx⟩ := fields_up (P := Tryz.prog) Tryz.underlying68 h hf
  have hl : cs.length = 4 := hl.trans (by kernel_rfl)
  obtain ⟨v0, v1, v2, v3, rfl⟩ := list4 hl
  obtain ⟨c0, rfl, _⟩ := up_int (v := v0) (l := [v1, v2, v3]) Tryz.underlying3 (by kernel_rfl) (hx 0 _ rfl)
  obtain ⟨c1, rfl, _⟩ := up_int (v := v1) (l := [v2, v3]) Tryz.underlying66 (by kernel_rfl) (hx 1 _ rfl)
  obtain ⟨c2, rfl, _⟩ := up_int (v := v2) (l := [v3]) Tryz.underlying3 (by kernel_rfl) (hx 2 _ rfl)
  obtain ⟨c3, rfl, _⟩ := up_int (v := v3) (l := []) Tryz.underlying3 (by kernel_rfl) (hx 3 _ rfl)
  exact ⟨⟨c0, c1, c2, c3⟩, rfl⟩

theorem members_up {n : Nat} {v : Value} {l : List Value} (h : ∃ y, trodA enc Tryz.prog W n 25 ((v :: l).take (Tryz.prog.cellsOf 25)) = some y ∧ RFits Tryz.prog 25 y.1) : ∃ ms, MemR (allOf W) v ms := by
  obtain ⟨y, h, hf⟩ := up_one (by kernel_rfl) h
  obtain ⟨rows, h1, h2, h3⟩ := slice_up (es := 4) (B := 32) Tryz.underlying25 (by kernel_rfl) (by decide) (by kernel_rfl) h hf
  have key : ∀ rows : List (List Value), (∀ r ∈ rows, r.length = 4 ∧ ∃ m y, m < n ∧ trodA enc Tryz.prog W m 68 r = some y ∧ RFits Tryz.prog 68 y.1) → ∃ ms : List MemD, rows = ms.map MemD.cells := by
    intro rows
    induction rows with
    | nil => exact fun _ => ⟨[], rfl⟩
    | cons r rows ih =>
      intro h
      obtain ⟨ms, rfl⟩ := ih fun x hx => h x (List.mem_cons_of_mem _ hx)
      obtain ⟨_, m, y, _, h5, h6⟩ := h r (by simp)
      obtain ⟨d, rfl⟩ := member_up ⟨y, h5, h6⟩
      exact ⟨d :: ms, rfl⟩
  obtain ⟨ms, rfl⟩ := key rows h3
  rw [List.length_map] at h1 h2
  exact ⟨ms, h1, h2⟩

end

end
end Go.Proofs.YthbaimobihmhiaaGreatDoor

namespace Go.Proofs.YthbaimobihmhiaaGreatDoor
open Go.Sx Go.RowKit Go.ChangeShapes Go.WideShapes
noncomputable section

theorem list12 {α : Type} : ∀ {l : List α}, l.length = 12 → ∃ a b c d e f g h i j k m, l = [a, b, c, d, e, f, g, h, i, j, k, m]
  | [a, b, c, d, e, f, g, h, i, j, k, m], _ => ⟨a, b, c, d, e, f, g, h, i, j, k, m, rfl⟩

theorem list3 {α : Type} : ∀ {l : List α}, l.length = 3 → ∃ a b c, l = [a, b, c]
  | [a, b, c], _ => ⟨a, b, c, rfl⟩

theorem list6 {α : Type} : ∀ {l : List α}, l.length = 6 → ∃ a b c d e f, l = [a, b, c, d, e, f]
  | [a, b, c, d, e, f], _ => ⟨a, b, c, d, e, f, rfl⟩

theorem wf_i64 {n : Int} (h : (Lit.int .i64 n).wf = true) : I64 n := by
  have h : (decide (IntKind.i64.min ≤ n) && decide (n ≤ IntKind.i64.max)) = true := h
  rw [Bool.and_eq_true, decide_eq_true_iff, decide_eq_true_iff] at h
  exact h

section
variable {H : Type} {enc : TypeId × Value → H} {W : World}

theorem node_up {n : Nat} {cs : List Value} (h : ∃ y, trodA enc Tryz.prog W n 46 cs = some y ∧ RFits Tryz.prog 46 y.1) : ∃ x : ToldD × Value, cs = nodeC x ∧ StatIn x.1.stat ∧ SlB (allOf W) x.2 x.1.data ∧ x.1.path.data.toList.length ≤ 140737488351232 := by
  obtain ⟨y, h, hf⟩ := h
  obtain ⟨hl, m, _, hx⟩ := fields_up (P := Tryz.prog) Tryz.underlying46 h hf
  have hl : cs.length = 12 := hl.trans (by kernel_rfl)
  obtain ⟨v0, v1, v2, v3, v4, v5, v6, v7, v8, v9, v10, v11, rfl⟩ := list12 hl
  obtain ⟨p, rfl, hp⟩ := up_string (v := v0) (l := [v1, v2, v3, v4, v5, v6, v7, v8, v9, v10, v11]) Tryz.underlying9 (by kernel_rfl) (hx 0 _ rfl)
  obtain ⟨bs, hbs⟩ := up_bytes (v := v1) (l := [v2, v3, v4, v5, v6, v7, v8, v9, v10, v11]) Tryz.underlying32 Tryz.underlying5 (by kernel_rfl) (by kernel_rfl) (by kernel_rfl) (hx 1 _ rfl)
  have he : ∃ y, trodA enc Tryz.prog W m 44 ([v2, v3, v4, v5, v6, v7, v8, v9, v10, v11].take (Tryz.prog.cellsOf 44)) = some y ∧ RFits Tryz.prog 44 y.1 := hx 2 _ rfl
  rw [show Tryz.prog.cellsOf 44 = 10 by kernel_rfl] at he
  obtain ⟨ye, he, hfe⟩ := he
  obtain ⟨_, me, _, hxe⟩ := fields_up (P := Tryz.prog) Tryz.underlying44 he hfe
  obtain ⟨c2, rfl, w2⟩ := up_int (v := v2) (l := [v3, v4, v5, v6, v7, v8, v9, v10, v11]) Tryz.underlying24 (by kernel_rfl) (hxe 0 _ rfl)
  obtain ⟨c3, rfl, w3⟩ := up_int (v := v3) (l := [v4, v5, v6, v7, v8, v9, v10, v11]) Tryz.underlying24 (by kernel_rfl) (hxe 1 _ rfl)
  obtain ⟨c4, rfl, w4⟩ := up_int (v := v4) (l := [v5, v6, v7, v8, v9, v10, v11]) Tryz.underlying24 (by kernel_rfl) (hxe 2 _ rfl)
  obtain ⟨c5, rfl, w5⟩ := up_int (v := v5) (l := [v6, v7, v8, v9, v10, v11]) Tryz.underlying2 (by kernel_rfl) (hxe 3 _ rfl)
  obtain ⟨c6, rfl, w6⟩ := up_int (v := v6) (l := [v7, v8, v9, v10, v11]) Tryz.underlying2 (by kernel_rfl) (hxe 4 _ rfl)
  obtain ⟨c7, rfl, w7⟩ := up_int (v := v7) (l := [v8, v9, v10, v11]) Tryz.underlying3 (by kernel_rfl) (hxe 5 _ rfl)
  obtain ⟨c8, rfl, w8⟩ := up_int (v := v8) (l := [v9, v10, v11]) Tryz.underlying3 (by kernel_rfl) (hxe 6 _ rfl)
  obtain ⟨c9, rfl, w9⟩ := up_int (v := v9) (l := [v10, v11]) Tryz.underlying2 (by kernel_rfl) (hxe 7 _ rfl)
  obtain ⟨c10, rfl, _⟩ := up_int (v := v10) (l := [v11]) Tryz.underlying3 (by kernel_rfl) (hxe 8 _ rfl)
  obtain ⟨c11, rfl, _⟩ := up_int (v := v11) (l := []) Tryz.underlying3 (by kernel_rfl) (hxe 9 _ rfl)
  exact ⟨(⟨p, bs, ⟨c2, c3, c4, c5, c6, c7, c8, c9, c10, c11⟩⟩, v1), rfl, ⟨wf_i64 w2, wf_i64 w3, wf_i64 w4, wf_i64 w5, wf_i64 w6, wf_i64 w7, wf_i64 w8, wf_i64 w9⟩, hbs, hp⟩

theorem sit_up {n : Nat} {cs : List Value} (h : ∃ y, trodA enc Tryz.prog W n 57 cs = some y ∧ RFits Tryz.prog 57 y.1) : ∃ x : SitD, cs = sitC x ∧ SitIn x := by
  obtain ⟨y, h, hf⟩ := h
  obtain ⟨hl, m, _, hx⟩ := fields_up (P := Tryz.prog) Tryz.underlying57 h hf
  have hl : cs.length = 3 := hl.trans (by kernel_rfl)
  obtain ⟨v0, v1, v2, rfl⟩ := list3 hl
  obtain ⟨c0, rfl, w0⟩ := up_int (v := v0) (l := [v1, v2]) Tryz.underlying2 (by kernel_rfl) (hx 0 _ rfl)
  obtain ⟨c1, rfl, w1⟩ := up_int (v := v1) (l := [v2]) Tryz.underlying3 (by kernel_rfl) (hx 1 _ rfl)
  obtain ⟨c2, rfl, w2⟩ := up_int (v := v2) (l := []) Tryz.underlying3 (by kernel_rfl) (hx 2 _ rfl)
  exact ⟨⟨c0, c1, c2⟩, rfl, wf_i64 w0, wf_i64 w1, wf_i64 w2⟩

theorem nodes_in {n : Nat} {v : Value} {tl : List Value} (h : ∃ y, trodA enc Tryz.prog W n 22 ((v :: tl).take (Tryz.prog.cellsOf 22)) = some y ∧ RFits Tryz.prog 22 y.1) :
    ∃ l : List (ToldD × Value), NodesR (allOf W) v l ∧ ShortL l ∧ ∀ x ∈ l, StatIn x.1.stat := by
  obtain ⟨y, h, hf⟩ := up_one (by kernel_rfl) h
  obtain ⟨rows, h1, h2, h3⟩ := slice_up (es := 12) (B := 120) Tryz.underlying22 (by kernel_rfl) (by decide) (by kernel_rfl) h hf
  have key : ∀ rows : List (List Value), (∀ r ∈ rows, r.length = 12 ∧ ∃ m y, m < n ∧ trodA enc Tryz.prog W m 46 r = some y ∧ RFits Tryz.prog 46 y.1) → ∃ l : List (ToldD × Value), rows = l.map nodeC ∧ (∀ x ∈ l, SlB (allOf W) x.2 x.1.data) ∧ ShortL l ∧ ∀ x ∈ l, StatIn x.1.stat := by
    intro rows
    induction rows with
    | nil => exact fun _ => ⟨[], rfl, fun _ hx => (by cases hx), fun _ hx => (by cases hx), fun _ hx => (by cases hx)⟩
    | cons r rows ih =>
      intro h
      obtain ⟨l, rfl, k1, k2, k0⟩ := ih fun x hx => h x (List.mem_cons_of_mem _ hx)
      obtain ⟨_, m, y, _, h5, h6⟩ := h r (by simp)
      obtain ⟨x, rfl, k5, k3, k4⟩ := node_up ⟨y, h5, h6⟩
      refine ⟨x :: l, rfl, fun z hz => ?_, fun z hz => ?_, fun z hz => ?_⟩
      · rcases List.mem_cons.1 hz with rfl | hz
        · exact k3
        · exact k1 z hz
      · rcases List.mem_cons.1 hz with rfl | hz
        · exact k4
        · exact k2 z hz
      · rcases List.mem_cons.1 hz with rfl | hz
        · exact k5
        · exact k0 z hz
  obtain ⟨l, rfl, k1, k2, k0⟩ := key rows h3
  rw [List.length_map] at h1
  rw [← List.flatMap_def] at h1
  exact ⟨l, ⟨h1, k1⟩, k2, k0⟩

theorem sits_in {n : Nat} {v : Value} {tl : List Value} (h : ∃ y, trodA enc Tryz.prog W n 23 ((v :: tl).take (Tryz.prog.cellsOf 23)) = some y ∧ RFits Tryz.prog 23 y.1) :
    ∃ l : List SitD, SlS (allOf W) v l ∧ ∀ s ∈ l, SitIn s := by
  obtain ⟨y, h, hf⟩ := up_one (by kernel_rfl) h
  obtain ⟨rows, h1, h2, h3⟩ := slice_up (es := 3) (B := 24) Tryz.underlying23 (by kernel_rfl) (by decide) (by kernel_rfl) h hf
  have key : ∀ rows : List (List Value), (∀ r ∈ rows, r.length = 3 ∧ ∃ m y, m < n ∧ trodA enc Tryz.prog W m 57 r = some y ∧ RFits Tryz.prog 57 y.1) → ∃ l : List SitD, rows = l.map sitC ∧ ∀ s ∈ l, SitIn s := by
    intro rows
    induction rows with
    | nil => exact fun _ => ⟨[], rfl, fun _ hx => (by cases hx)⟩
    | cons r rows ih =>
      intro h
      obtain ⟨l, rfl, k0⟩ := ih fun x hx => h x (List.mem_cons_of_mem _ hx)
      obtain ⟨_, m, y, _, h5, h6⟩ := h r (by simp)
      obtain ⟨x, rfl, k1⟩ := sit_up ⟨y, h5, h6⟩
      refine ⟨x :: l, rfl, fun z hz => ?_⟩
      rcases List.mem_cons.1 hz with rfl | hz
      · exact k1
      · exact k0 z hz
  obtain ⟨l, rfl, k0⟩ := key rows h3
  rw [List.length_map] at h1 h2
  rw [← List.flatMap_def] at h1
  exact ⟨l, ⟨h1, by omega⟩, k0⟩

/-- An image as one argument. -/
def ImgV (g : ImgG) (v : Value) (A : Arena) : Prop := ∃ x y vm, v = .agg #[x, y, .int .i64 g.ver, vm, .int .i64 g.f, .int .i64 g.t] ∧ NodesR A x g.l ∧ SlS A y g.ss ∧ MemR A vm g.ms ∧ ShortL g.l ∧ ImgIn g

theorem image_up {n : Nat} {cs : List Value} (h : ∃ y, trodA enc Tryz.prog W n 29 cs = some y ∧ RFits Tryz.prog 29 y.1) : ∃ g, ImgV g (.agg cs.toArray) (allOf W) := by
  obtain ⟨y, h, hf⟩ := h
  obtain ⟨hl, m, _, hx⟩ := fields_up (P := Tryz.prog) Tryz.underlying29 h hf
  have hl : cs.length = 6 := hl.trans (by kernel_rfl)
  obtain ⟨v0, v1, v2, v3, v4, v5, rfl⟩ := list6 hl
  obtain ⟨l, hl1, hl2, hl3⟩ := nodes_in (v := v0) (tl := [v1, v2, v3, v4, v5]) (hx 0 _ rfl)
  obtain ⟨ss, hs1, hs2⟩ := sits_in (v := v1) (tl := [v2, v3, v4, v5]) (hx 1 _ rfl)
  have he : ∃ y, trodA enc Tryz.prog W m 27 ([v2, v3, v4, v5].take (Tryz.prog.cellsOf 27)) = some y ∧ RFits Tryz.prog 27 y.1 := hx 2 _ rfl
  rw [show Tryz.prog.cellsOf 27 = 2 by kernel_rfl] at he
  obtain ⟨ye, he, hfe⟩ := he
  obtain ⟨_, me, _, hxe⟩ := fields_up (P := Tryz.prog) Tryz.underlying27 he hfe
  obtain ⟨ver, rfl, _⟩ := up_int (v := v2) (l := [v3]) Tryz.underlying24 (by kernel_rfl) (hxe 0 _ rfl)
  obtain ⟨ms, hms⟩ := members_up (v := v3) (l := []) (hxe 1 _ rfl)
  obtain ⟨f, rfl, w1⟩ := up_int (v := v4) (l := [v5]) Tryz.underlying24 (by kernel_rfl) (hx 3 _ rfl)
  obtain ⟨t, rfl, w2⟩ := up_int (v := v5) (l := []) Tryz.underlying24 (by kernel_rfl) (hx 4 _ rfl)
  exact ⟨⟨l, ss, ver, ms, f, t⟩, v0, v1, v3, rfl, hl1, hs1, hms, hl2, hl3, hs2, wf_i64 w1, wf_i64 w2⟩

end

end
end Go.Proofs.YthbaimobihmhiaaGreatDoor

namespace Go.Proofs.YthbaimobihmhiaaGreatDoor
open Go.Sx Go.RowKit
noncomputable section
open Classical

def putsS : FSpec := ⟨ImgG, fun g vs A => ∃ v, vs = [v] ∧ ImgV g v A, fun _ _ A v A' => A.Sub A' ∧ v = .bool true⟩

theorem lsn_slb {A A' : Arena} {L : LsD} {l : List UInt8} (h : LsN A A' L (l.map bv)) (hl : l.length ≤ 140737488351232) : SlB A' L.v l := by
  refine ⟨?_, hl⟩
  have hn := h.1.len
  rw [List.length_map, Nat.mul_one] at hn
  rcases h.1 with ⟨h1, h2, h3, h4, base, h5⟩ | ⟨g, h1, h2, h3, h4⟩
  · have : l = [] := List.length_eq_zero_iff.1 (by omega)
    subst this
    rw [h5]
    exact Sl.zero _ _ (fun _ => rfl) (fun a ha h0 => absurd h0 (Nat.lt_irrefl _))
  · rw [h2, hn]
    have h9 : Sl A' 1 L.n (.slice (some ⟨g, 0, none⟩) L.n L.c) (l.map bv) := Sl.row h4.le h4.rd
    exact h9

set_option maxRecDepth 100000 in
set_option maxHeartbeats 0 in
theorem puts_ok : FOk Tryz.prog 3 putsS := by
  refine fok_v mixed fun (g : ImgG) vs A hp => ?_
  obtain ⟨l, ss, ver, ms, f, t⟩ := g
  obtain ⟨v, rfl, x, y, vm, rfl, hN, hS, hM, hsh, hin⟩ : ∃ v, vs = [v] ∧ ∃ x y vm, v = .agg #[x, y, .int .i64 ver, vm, .int .i64 f, .int .i64 t] ∧ NodesR A x l ∧ SlS A y ss ∧ MemR A vm ms ∧ ShortL l ∧ ImgIn ⟨l, ss, ver, ms, f, t⟩ := hp
  obtain ⟨ax, cx, rfl⟩ := hN.1.form
  obtain ⟨ay, cy, rfl⟩ := hS.1.form
  obtain ⟨am, cm, rfl⟩ := hM.1.form
  have hC : CTSound Tryz.prog (lookC [specE 6 awakeS, specE 15 putS, specE 8 rputS, specE 9 sameBytesS] noC) := lookC_sound (noC_sound _) (fun x hx => by
    simp only [List.mem_cons, List.not_mem_nil, or_false] at hx
    rcases hx with rfl | rfl | rfl | rfl
    · exact specE_ok awake_ok
    · exact specE_ok put_ok
    · exact specE_ok rput_ok
    · exact specE_ok sameBytes_ok)
  refine ⟨_, noL, 60, hC, noL_sound _, fun blk os out tape D hD => ?_⟩
  conv => lhs; whnf
  refine split_dec (fun g1 => ?_) (fun g1 => ?_)
  · conv => lhs; whnf
    refine (hD _).2 ⟨(), rfl, fun v A' hq => ?_⟩
    have hq : A' = A ∧ v = .bool true := hq
    have h9 := hq.1.symm
    have hv := hq.2
    subst h9
    subst hv
    have hend : putsS.post ⟨l, ss, ver, ms, f, t⟩ [] A (.bool true) A := ⟨Arena.Sub.refl _, rfl⟩
    conv => lhs; whnf
    exact (hD _).2 hend
  conv => lhs; whnf
  refine split_dec (fun g2 => ?_) (fun g2 => ?_)
  · conv => lhs; whnf
    refine (hD _).2 ⟨(), rfl, fun v A' hq => ?_⟩
    have hq : A' = A ∧ v = .bool true := hq
    have h9 := hq.1.symm
    have hv := hq.2
    subst h9
    subst hv
    have hend : putsS.post ⟨l, ss, ver, ms, f, t⟩ [] A (.bool true) A := ⟨Arena.Sub.refl _, rfl⟩
    conv => lhs; whnf
    exact (hD _).2 hend
  conv => lhs; whnf
  refine split_dec (fun g3 => ?_) (fun g3 => ?_)
  · conv => lhs; whnf
    refine (hD _).2 ⟨(), rfl, fun v A' hq => ?_⟩
    have hq : A' = A ∧ v = .bool true := hq
    have h9 := hq.1.symm
    have hv := hq.2
    subst h9
    subst hv
    have hend : putsS.post ⟨l, ss, ver, ms, f, t⟩ [] A (.bool true) A := ⟨Arena.Sub.refl _, rfl⟩
    conv => lhs; whnf
    exact (hD _).2 hend
  have hl7 : l.length ≤ 700 := by
    have g1 : ¬ (700 : Int) < (l.length : Int) := g1
    omega
  have hA : ImgA ⟨l, ss, ver, ms, f, t⟩ [.slice ax l.length cx, .slice ay ss.length cy, .agg #[.int .i64 ver, .slice am ms.length cm], .int .i64 f, .int .i64 t] A := ⟨_, _, _, rfl, hN, hS, hM, by show l.length ≤ 1000000; omega, hsh⟩
  conv => lhs; whnf
  refine (hD _).2 ⟨(⟨l, ss, ver, ms, f, t⟩ : ImgG), ⟨hA, hin⟩, fun v A1 hq => ?_⟩
  obtain ⟨s1, hno1, hok1⟩ : PutR ⟨l, ss, ver, ms, f, t⟩ A v A1 := hq
  have hA2 : ImgA ⟨l, ss, ver, ms, f, t⟩ [.slice ax l.length cx, .slice ay ss.length cy, .agg #[.int .i64 ver, .slice am ms.length cm], .int .i64 f, .int .i64 t] A1 := ⟨_, _, _, rfl, ⟨hN.1.sub s1, fun x hx => (hN.2 x hx).sub s1⟩, ⟨hS.1.sub s1, hS.2⟩, hM.sub s1, by show l.length ≤ 1000000; omega, hsh⟩
  by_cases hok : (ImgG.mk l ss ver ms f t).ok
  · have h1 := hok1 hok
    obtain ⟨hlen, L1, hv, hL1⟩ := h1
    have hlen : (loadB (l.map (·.1)) ss ver ms f t).length ≤ 1048576 := hlen
    have hap := hL1.1.app
    obtain ⟨bs, hbs, -⟩ := hap
    have hB1 := lsn_slb hL1 (by
      unfold frameL fourL
      simp only [List.length_append, List.length_cons, List.length_nil]
      omega)
    rw [hbs] at hv hB1
    subst hv
    conv => lhs; whnf
    refine (hD _).2 ⟨(⟨l, ss, ver, ms, f, t⟩ : ImgG), ⟨hA2, hin⟩, fun v A2 hq => ?_⟩
    obtain ⟨s2, hno2, hok2⟩ : PutR ⟨l, ss, ver, ms, f, t⟩ A1 v A2 := hq
    have h2 := hok2 hok
    obtain ⟨-, L2, hv, hL2⟩ := h2
    have hap := hL2.1.app
    obtain ⟨bs2, hbs2, -⟩ := hap
    have hB2 := lsn_slb hL2 (by
      unfold frameL fourL
      simp only [List.length_append, List.length_cons, List.length_nil]
      omega)
    rw [hbs2] at hv hB2
    subst hv
    have hB1 := hB1.sub s2
    generalize frameL (loadB (l.map (·.1)) ss ver ms f t) = B at *
    conv => lhs; whnf
    refine (hD _).2 ⟨((B, B) : List UInt8 × List UInt8), ⟨_, _, rfl, hB1, hB2⟩, fun v A3 hq => ?_⟩
    have hq : A3 = A2 ∧ v = .bool (decide (B = B)) := hq
    rw [decide_eq_true rfl] at hq
    have h9 := hq.1.symm
    have hv := hq.2
    subst h9
    subst hv
    conv => lhs; whnf
    refine (hD _).2 ⟨(), rfl, fun v A' hq => ?_⟩
    have hq : A' = A2 ∧ v = .bool true := hq
    have h9 := hq.1.symm
    have hv := hq.2
    subst h9
    subst hv
    have hend : putsS.post ⟨l, ss, ver, ms, f, t⟩ [] A (.bool true) A2 := ⟨s1.trans s2, rfl⟩
    conv => lhs; whnf
    exact (hD _).2 hend
  · have hv := hno1 hok
    subst hv
    conv => lhs; whnf
    refine (hD _).2 ⟨(⟨l, ss, ver, ms, f, t⟩ : ImgG), ⟨hA2, hin⟩, fun v A2 hq => ?_⟩
    obtain ⟨s2, hno2, hok2⟩ : PutR ⟨l, ss, ver, ms, f, t⟩ A1 v A2 := hq
    have hv := hno2 hok
    subst hv
    have hnil : SlB A2 (.slice none 0 0) ([] : List UInt8) := ⟨Sl.nil _ _, by decide⟩
    conv => lhs; whnf
    refine (hD _).2 ⟨(([], []) : List UInt8 × List UInt8), ⟨_, _, rfl, hnil, hnil⟩, fun v A3 hq => ?_⟩
    have hq : A3 = A2 ∧ v = .bool (decide (([] : List UInt8) = [])) := hq
    rw [decide_eq_true rfl] at hq
    have h9 := hq.1.symm
    have hv := hq.2
    subst h9
    subst hv
    conv => lhs; whnf
    refine (hD _).2 ⟨(), rfl, fun v A' hq => ?_⟩
    have hq : A' = A2 ∧ v = .bool true := hq
    have h9 := hq.1.symm
    have hv := hq.2
    subst h9
    subst hv
    have hend : putsS.post ⟨l, ss, ver, ms, f, t⟩ [] A (.bool true) A2 := ⟨s1.trans s2, rfl⟩
    conv => lhs; whnf
    exact (hD _).2 hend

end
end Go.Proofs.YthbaimobihmhiaaGreatDoor
