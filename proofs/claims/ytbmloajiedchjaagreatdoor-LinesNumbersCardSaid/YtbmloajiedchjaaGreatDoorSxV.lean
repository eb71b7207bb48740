/-
  The symbolic executor: a block whose rounds are shown beforehand: out of these states it ends, and leaves these slots and blocks as they were.
-/
import Derived.Test.YtbmloajiedchjaaGreatDoorSxU
namespace Go.Sx
noncomputable section
variable {dfs : List Deferred}

def blocksOf (id : Nat) : Code → List Code
  | .seq a b => blocksOf id a ++ blocksOf id b
  | .cond _ a b => blocksOf id a ++ blocksOf id b
  | .block i a => (bif Nat.beq i id then [a] else []) ++ blocksOf id a
  | .loop a => blocksOf id a
  | .scope a => blocksOf id a
  | _ => []

theorem blocksOf_in {id : Nat} {c b : Code} (h : InC c b) : ∀ x ∈ blocksOf id c, x ∈ blocksOf id b := by
  induction h with
  | refl c => exact fun _ h => h
  | seqL _ ih => exact fun x hx => ih x (by simp only [blocksOf, List.mem_append]; exact .inl hx)
  | seqR _ ih => exact fun x hx => ih x (by simp only [blocksOf, List.mem_append]; exact .inr hx)
  | condL _ ih => exact fun x hx => ih x (by simp only [blocksOf, List.mem_append]; exact .inl hx)
  | condR _ ih => exact fun x hx => ih x (by simp only [blocksOf, List.mem_append]; exact .inr hx)
  | block _ ih => exact fun x hx => ih x (by simp only [blocksOf, List.mem_append]; exact .inr hx)
  | loop _ ih => exact fun x hx => ih x (by simp only [blocksOf]; exact hx)
  | scope _ ih => exact fun x hx => ih x (by simp only [blocksOf]; exact hx)

/-- A function's only block of this number. -/
def blockAt (P : Program) (f : FuncId) (id : Nat) : Option Code := match fnOf P f with
  | some fn => match fn.body with
    | some b => match blocksOf id b with
      | [c] => some c
      | _ => none
    | none => none
  | none => none

theorem blockAt_within {P : Program} {f : FuncId} {id : Nat} {c0 c : Code} (h : blockAt P f id = some c0) (hW : Within P f (.block id c)) : c = c0 := by
  obtain ⟨fn, b, h1, h2, h3⟩ := hW
  unfold blockAt at h
  split at h
  · rename_i fn' hfn
    have := fn_of hfn
    rw [h1] at this
    injection this with this
    subst this
    rw [h2] at h
    simp only at h
    split at h
    · rename_i c' hc
      injection h with h; subst h
      have hm : c ∈ blocksOf id (.block id c) := by
        simp only [blocksOf, Nat.beq_refl, cond_true, List.mem_append, List.mem_singleton, true_or]
      have := blocksOf_in h3 c hm
      rw [hc] at this
      exact List.mem_singleton.1 this
    · cases h
  · cases h

/-- What is told of a state behind the round: all blocks, or none. -/
def St.after (S : St) : List (Nat × SBlk) := bif S.keep then S.bl else []

theorem St.after_mem {S : St} {x : Nat × SBlk} (h : x ∈ S.after) : x ∈ S.bl := by
  unfold St.after at h
  cases hk : S.keep with
  | false => rw [hk] at h; cases h
  | true => rw [hk] at h; exact h

/-- As the state was. -/
def keptK (S : St) : KT := fun e tm h => match e with
  | .nrm => bif slsIn tm S.sl then blsIn h.H S.after else false
  | _ => false

def plainL : List (Nat × SV) → Bool
  | [] => true
  | s :: ss => match s.2 with
    | .v _ => plainL ss
    | _ => false

theorem plainL_mem : ∀ {l : List (Nat × SV)}, plainL l = true → ∀ s ∈ l, ∃ v, s.2 = .v v
  | [], _, _, h => by cases h
  | x :: xs, h, s, hs => by
    simp only [plainL] at h
    split at h
    · rename_i v hv
      rcases List.mem_cons.1 hs with rfl | hs
      · exact ⟨v, hv⟩
      · exact plainL_mem h s hs
    · exact absurd h Bool.false_ne_true

/-- The next block's number is that of the state, or does not matter. -/
def okNx (S : St) (nx : Nat) : Bool := bif Nat.beq nx S.nx then true else (match S.bl with
  | [] => plainL S.sl
  | _ => false)

/-- Which of these states is it? -/
def findS : List St → T SV → HS → (St → Bool) → Bool
  | [], _, _, _ => false
  | S :: Ss, tm, h, k => bif okNx S h.nx then (bif slsIn tm S.sl then (bif blsIn h.H S.bl then k S else findS Ss tm h k) else findS Ss tm h k) else findS Ss tm h k

theorem findS_mem {tm : T SV} {h : HS} {k : St → Bool} : ∀ {l : List St}, findS l tm h k = true → ∃ S ∈ l, okNx S h.nx = true ∧ slsIn tm S.sl = true ∧ blsIn h.H S.bl = true ∧ k S = true
  | [], hk => by cases hk
  | S :: Ss, hk => by
    have rec' : findS Ss tm h k = true → ∃ S' ∈ S :: Ss, okNx S' h.nx = true ∧ slsIn tm S'.sl = true ∧ blsIn h.H S'.bl = true ∧ k S' = true := fun h => by
      obtain ⟨S', h1, h2⟩ := findS_mem h
      exact ⟨S', List.mem_cons_of_mem _ h1, h2⟩
    simp only [findS] at hk
    cases h1 : okNx S h.nx with
    | false => rw [h1] at hk; exact rec' hk
    | true =>
      rw [h1] at hk
      cases h2 : slsIn tm S.sl with
      | false => rw [h2] at hk; exact rec' hk
      | true =>
        rw [h2] at hk
        cases h3 : blsIn h.H S.bl with
        | false => rw [h3] at hk; exact rec' hk
        | true =>
          rw [h3] at hk
          exact ⟨S, by simp, h1, h2, h3, hk⟩

/-- A block whose rounds out of these states are known. -/
def toldLT (gl : List (Nat × List Value) → Bool) (sz0 : Nat) (sts : List St) : LT := fun _ sz K tm h =>
  bif Nat.beq sz sz0 then (bif gl h.M.gl then findS sts tm h fun S => setsK S.sl .e fun tm => setsK S.after .e fun H => natK h.nx fun nx => K .nrm tm ⟨H, nx, h.M⟩ else false) else false

/-- A round out of one of them. -/
def roundK (P : Program) (C : FuncId → Option CT) (Λ : LTab) (n : Nat) (f : FuncId) (id sz : Nat) (S : St) (M : Mem) : Bool := match blockAt P f id with
  | some c => setsK S.sl .e fun tm => setsK S.bl .e fun H => sxCode P C Λ n f sz c (blkK id (keptK S)) tm ⟨H, S.nx, M⟩
  | none => false

theorem told_sound {P : Program} (hm : P.follows .mixedOrders = true) {C : FuncId → Option CT} (hC : CTSound P C) {Λ : LTab} (hΛ : LTSound P Λ) {n : Nat} {f : FuncId} {id sz0 : Nat} {gl : List (Nat × List Value) → Bool} {sts : List St} {c0 : Code} (hc0 : blockAt P f id = some c0)
    (hT : ∀ S ∈ sts, ∀ M : Mem, gl M.gl = true → roundK P C Λ n f id sz0 S M = true) {c : Code} {sz : Nat} {K : KT} {tm : T SV} {h : HS} (hW : Within P f (.block id c)) (hk : toldLT gl sz0 sts c sz K tm h = true)
    {ρ : Nat → Loc} {a : Act} {w : World} (A : ARel dfs ρ tm sz h.nx a) (R : HRel ρ h w) : (Code.block id c).wp P (GoesX dfs ρ h sz K) a w := by
  have := blockAt_within hc0 hW
  subst this
  unfold toldLT at hk
  cases hs : Nat.beq sz sz0 with
  | false => rw [hs] at hk; exact absurd hk Bool.false_ne_true
  | true =>
    have hs := Nat.eq_of_beq_eq_true hs
    subst hs
    simp only [Nat.beq_refl, cond_true] at hk
    cases hg : gl h.M.gl with
    | false => rw [hg] at hk; exact absurd hk Bool.false_ne_true
    | true =>
      rw [hg] at hk
      simp only [cond_true] at hk
      obtain ⟨S, hS, hn, h1, h2, hk⟩ := findS_mem hk
      rw [setsK_eq, setsK_eq, natK_eq] at hk
      have hr := hT S hS h.M hg
      unfold roundK at hr
      rw [hc0] at hr
      simp only [setsK_eq] at hr
      have m1 : ∀ {i x}, (setsT S.sl .e).get i = some x → tm.get i = some x := fun {i x} hi => by
        rcases setsT_get hi with hi | hi
        · exact slsIn_mem h1 _ hi
        · rw [T.get_e] at hi; cases hi
      have m2 : ∀ {i x}, (setsT S.bl .e).get i = some x → h.H.get i = some x := fun {i x} hi => by
        rcases setsT_get hi with hi | hi
        · exact blsIn_mem h2 _ hi
        · rw [T.get_e] at hi; cases hi
      have m3 : ∀ {i x}, (setsT S.after .e).get i = some x → h.H.get i = some x := fun {i x} hi => by
        rcases setsT_get hi with hi | hi
        · exact blsIn_mem h2 _ (St.after_mem hi)
        · rw [T.get_e] at hi; cases hi
      have m4 : ∀ {i x}, (setsT S.after .e).get i = some x → (setsT S.bl .e).get i = some x := fun {i x} hi => by
        unfold St.after at hi
        cases hk' : S.keep with
        | false =>
          rw [hk'] at hi
          have hi : (T.e : T SBlk).get i = some x := hi
          rw [T.get_e] at hi; cases hi
        | true => rw [hk'] at hi; exact hi
      have A0 : ARel dfs ρ (setsT S.sl .e) sz h.nx a := ⟨A.size, fun i x hi => A.at_ i x (m1 hi), A.defers⟩
      have R0 : HRel ρ ⟨setsT S.bl .e, h.nx, h.M⟩ w := R.less fun b B hb => m2 hb
      have both : ARel dfs ρ (setsT S.sl .e) sz S.nx a ∧ HRel ρ ⟨setsT S.bl .e, S.nx, h.M⟩ w := by
        unfold okNx at hn
        cases he : Nat.beq h.nx S.nx with
        | true =>
          have he := Nat.eq_of_beq_eq_true he
          rw [← he]
          exact ⟨A0, R0⟩
        | false =>
          rw [he] at hn
          simp only [cond_false] at hn
          split at hn
          · rename_i hb
            refine ⟨⟨A0.size, fun i x hi => ⟨?_, (A0.at_ i x hi).2⟩, A0.defers⟩, R0.os, R0.out, R0.tape, R0.mem, fun b B hB => ?_, R0.inj, R0.apart⟩
            · rcases setsT_get hi with hi | hi
              · obtain ⟨v, hv⟩ := plainL_mem hn _ hi
                have hv : x = .v v := hv
                subst hv; trivial
              · rw [T.get_e] at hi; cases hi
            · have hB : (setsT S.bl .e).get b = some B := hB
              rw [hb] at hB
              have hB : (T.e : T SBlk).get b = some B := hB
              rw [T.get_e] at hB; cases hB
          · exact absurd hn Bool.false_ne_true
      obtain ⟨A1, R1⟩ := both
      have fin : ∀ a' w', Goes dfs ρ ⟨setsT S.bl .e, S.nx, h.M⟩ sz (keptK S .nrm) a' w' → Goes dfs ρ h sz (K .nrm) a' w' := by
        intro a' w' ⟨tm', h', ρ', hk', A2, R2, hx, hnx, hM⟩
        simp only [keptK] at hk'
        cases h3 : slsIn tm' S.sl with
        | false => rw [h3] at hk'; exact absurd hk' Bool.false_ne_true
        | true =>
          rw [h3] at hk'
          have h4 : blsIn h'.H S.after = true := hk'
          refine ⟨_, _, ρ, hk, ⟨A2.size, fun i x hi => ?_, A2.defers⟩, ?_, Ext.refl _ _, Nat.le_refl _, Mem.le_refl _⟩
          · obtain ⟨l1, _⟩ := A1.at_ i x hi
            have hi' : tm'.get i = some x := by
              rcases setsT_get hi with hi | hi
              · exact slsIn_mem h3 _ hi
              · rw [T.get_e] at hi; cases hi
            obtain ⟨_, l2⟩ := A2.at_ i x hi'
            refine ⟨(A0.at_ i x hi).1, ?_⟩
            rw [l2, SV.den_ext hx x l1]
          · have R3 := R.less (H' := setsT S.after .e) fun b B hb => m3 hb
            refine ⟨R2.os.trans hM.2.1, R2.out.trans hM.2.2.1, R2.tape.trans hM.2.2.2, fun j o hj => R2.mem j o (hM.1 j o hj), fun b B hb => ?_, R3.inj, R3.apart⟩
            obtain ⟨g1, g2, _⟩ := R3.blk b B hb
            have hb' : h'.H.get b = some B := by
              rcases setsT_get hb with hb | hb
              · exact blsIn_mem h4 _ hb
              · rw [T.get_e] at hb; cases hb
            have hb1 : (setsT S.bl .e).get b = some B := m4 hb
            obtain ⟨j1, j2, _⟩ := R1.blk b B hb1
            obtain ⟨_, _, f3⟩ := R2.blk b B hb'
            refine ⟨g1, g2, ?_⟩
            have e1 : ρ' b = ρ b := hx b j1
            have l1 : B.lt ρ' S.nx := SBlk.lt_ext hx (Nat.le_refl _) j2
            have f4 := f3.of (ρ' := ρ) (w' := w') (n := S.nx) (fun j hj => (hx j hj).symm) l1 rfl
            rw [e1] at f4
            exact f4
      refine wp_block (wp_mono ((sxCode_wp hm hC hΛ n).1 _ _ _ _ _ _ (hW.to .block) hr dfs ρ a w A1 R1) fun e a' w' g => ?_)
      cases e with
      | normal => exact fin a' w' g
      | exit i =>
        obtain ⟨tm', h', ρ', hk', A', H', hx, hnx, hm'⟩ := g
        simp only [blkK] at hk'
        cases hb : Nat.beq i id with
        | true =>
          rw [hb] at hk'
          have := Nat.eq_of_beq_eq_true hb
          subst this
          simp only [Exit.inBlock, if_true]
          exact fin a' w' ⟨tm', h', ρ', hk', A', H', hx, hnx, hm'⟩
        | false =>
          rw [hb] at hk'
          simp only [cond_false, keptK] at hk'
          exact absurd hk' Bool.false_ne_true
      | ret => obtain ⟨_, _, _, hk', _⟩ := g; exact absurd hk' Bool.false_ne_true
      | goto l => exact g.elim
      | panic c => obtain ⟨_, _, _, _, _, _, hk', _⟩ := g; exact absurd hk' Bool.false_ne_true
      | outgrown => exact g.elim

end
end Go.Sx
