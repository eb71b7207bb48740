/-
  From the executor to a row: what lay when the call began lies as it lay; the row's step over that.
  The symbolic executor over arenas: contracts of functions at plain arguments, used in any heap; loops with an invariant.
  Arenas: what lies in one lies in a greater one; what a store, a new row leave; slices that are read.
  What all contracts of this program want; loops over the places of a row.
  Rows of texts.
  Contracts: strings.Split at a slash.
  Contracts: the document's paths: a part.
  Contracts: the document's paths: parts, check.
  Rows of keys and values; maps of an arena that are such rows; a block whose cells are all known.
  A tree in an arena: its nodes by paths, its sittings by sessions; what changes leave of it.
  Nodes as they are told, plain and in rows; what may be loaded.
-/
import Derived.Test.YthbaimobihmhiaaGreatDoorG06
import Derived.ChangeSame
import Derived.Test.YthbaimobihmhiaaGreatDoorProg
namespace Go.Sx
noncomputable section
open Go.RowKit Go.ChangeShapes Go.WideShapes

/-- What lay lies as it lay. -/
theorem stays_of_post {ρ : Nat → Loc} {w w' : World} {nx : Nat} {H : T SBlk} {K : SV → HS → Bool} {v : Value} {M : Mem} (hM : Came w M) (h : Post ρ ⟨H, nx, M⟩ K v w') : Below w.heap.size w w' := by
  obtain ⟨z, h', ρ', _, _, _, R, _, _, hm⟩ := h
  have hb : ∀ k, k < w.heap.size → w'.heap[k]? = w.heap[k]? := fun k hk => by
    have h0 : w.heap[k]? = some w.heap[k] := Array.getElem?_eq_getElem hk
    have h1 : M.blk k = some w.heap[k] := by rw [hM.blk]; exact h0
    rw [R.mem k _ (hm.1 k _ h1)]
    exact h0.symm
  refine ⟨R.os.trans (hm.2.1.trans hM.os), R.tape.trans (hm.2.2.2.trans hM.tape), R.out.trans (hm.2.2.1.trans hM.out), ?_, hb⟩
  rcases Nat.eq_zero_or_pos w.heap.size with h0 | h0
  · omega
  · have h1 := hb (w.heap.size - 1) (by omega)
    have h2 : (w.heap[w.heap.size - 1]?) = some w.heap[w.heap.size - 1] := Array.getElem?_eq_getElem (by omega)
    rw [h2] at h1
    have := (Array.getElem?_eq_some_iff.1 h1).1
    omega

/-- Is it true? -/
def isT (r : SV) : Bool := match r with
  | .v (.bool b) => b
  | _ => false

theorem isT_eq {r : SV} (h : isT r = true) : r = .v (.bool true) := by
  unfold isT at h
  split at h
  · subst h; rfl
  · cases h

/-- A call that gives true, whatever lay. -/
theorem true_of_goes {P : Program} {f : FuncId} {fn : Func} (hf : P.funcs[f]? = some fn) (hn : (fn.name == "runtime.NumGoroutine") = false) (hb : fn.body.isSome = true)
    {args : Array Value} {w : World} {ρ : Nat → Loc} {nx : Nat} {H : T SBlk} {M : Mem} (hM : Came w M) (h : CallGoes P f args w (Post ρ ⟨H, nx, M⟩ fun r _ => isT r) fun _ _ => False) :
    Calls P f args w fun e w' => e = .returned (.bool true) ∧ Below w.heap.size w w' := by
  refine (calls_of_goes h hf hn hb).mono fun e w' ⟨v, he, hp⟩ => ?_
  have hs := stays_of_post hM hp
  obtain ⟨z, h', ρ', hk, hv, _⟩ := hp
  have hk := isT_eq hk
  subst hk
  exact ⟨by rw [he, hv]; rfl, hs⟩

theorem lt_vals (ρ : Nat → Loc) (n : Nat) (l : List Value) : ∀ x ∈ l.map SV.v, x.lt ρ n := by
  intro x hx
  obtain ⟨y, _, rfl⟩ := List.mem_map.1 hx
  exact True.intro

/-- The same, out of the executor. -/
theorem true_of_sx {P : Program} (hm : P.follows .mixedOrders = true) {C : FuncId → Option CT} (hC : CTSound P C) {Λ : LTab} (hΛ : LTSound P Λ) {n : Nat} {f : FuncId} {fn : Func} (hf : P.funcs[f]? = some fn) (hn : (fn.name == "runtime.NumGoroutine") = false) (hb : fn.body.isSome = true)
    (args : List SV) (w : World) {M : Mem} (hM : Came w M) (hl : ∀ x ∈ args, x.lt (fun _ => ⟨0, 0, 0⟩) 0) (hk : sxCall P C Λ n f args ⟨.e, 0, M⟩ (fun r _ => isT r)) :
    Calls P f (args.map (SV.den fun _ => ⟨0, 0, 0⟩)).toArray w fun e w' => e = .returned (.bool true) ∧ Below w.heap.size w w' :=
  true_of_goes hf hn hb hM (sxCall_sound hm hC hΛ n f args _ _ hk _ w (hrel_came hM) hl)

section
variable {H : Type} {enc : TypeId × Value → H} {P : Program}

/-- The row's step where what lay lies as it lay (new blocks may be of whatever kind). -/
theorem post_of_stays {f : Func} {s : ChangeSpec} {apart fresh handsOn again : Bool} {W W' : World} {args : Array Value} {v : Value} {ds gs : List (DataW H)} {before pa pv : List MemPlace}
    (hW : DataW.Whole enc P f.params.toList s.vars apart W args.toList ds gs before)
    (hres : ∀ (b : Nat) (sp : Nat → Bool) (hd : Bool), DataW.TrodAll enc P W' b sp hd f.resultTypes.toList (v.resultList f.resultTypes.size) (s.fn H (ds ++ gs)).results [])
    (hargs : ∀ sp : Nat → Bool, (∀ p ∈ before, sp p.block = true) → DataW.TrodAll enc P W' 0 sp true f.params.toList args.toList (s.fn H (ds ++ gs)).args pa)
    (hvars : ∀ sp : Nat → Bool, (∀ p ∈ before, sp p.block = true) → DataW.TrodVars enc P W' sp s.vars (s.fn H (ds ++ gs)).vars pv)
    (hps : before = pa ++ pv) (hk : Below W.heap.size W W')
    (hok : ∀ (j : Nat) (t : TypeId) (r : Value), f.resultTypes[j]? = some t → (v.resultList f.resultTypes.size)[j]? = some r → Value.okWide P W' .any 0 t r) :
    s.post enc P f apart fresh handsOn again W args v W' := by
  have hlt : ∀ p ∈ before, p.block < W.heap.size := fun p hp => hW.lt p hp
  have hold : ∀ p ∈ before, (fun b => decide (b < W.heap.size)) p.block = true := fun p hp => by simpa using hlt p hp
  refine ⟨ds, gs, before, [], pa, pv, hW, hres _ _ _, hargs _ hold, hvars _ hold, World.keptBut_mono (fun p hp => ⟨hp, ?_⟩) (hk.frame (· ∈ before)), fun _ => ?_⟩
  · rw [hps, List.mem_append] at hp
    exact Or.inr hp
  · obtain ⟨_, _, _, _, _, hz, hn⟩ := hW
    refine ⟨hok, _, _, ([] ++ pa) ++ pv, ⟨[] ++ pa, pv, trodAll_append (hargs _ (fun _ _ => rfl)) (hres _ _ _), hvars _ (fun _ _ => rfl), rfl, ?_, ?_⟩, ?_⟩
    · intro b off hp
      have hp' : MemPlace.cell b off ∈ before := by rw [hps]; simpa using hp
      rw [hk.frozen (hlt _ hp')]
      exact hz b off hp'
    · intro ha
      have := hn ha
      rw [hps] at this
      simpa using this
    · intro p hp _
      rw [hps]
      simpa using hp

end

end
end Go.Sx

namespace Go.Sx
noncomputable section
variable {dfs : List Deferred}

/-! ### Contracts -/

/-- What a function asks of its arguments and the arena, and what it leaves. -/
structure FSpec where
  γ : Type
  pre : γ → List Value → Arena → Prop
  post : γ → List Value → Arena → Value → Arena → Prop

/-- What is no tuple. -/
def plain1 : SV → Option Value
  | .v x => some x
  | .str l => some (.string ⟨l.toArray⟩)
  | .agg cs => match plains cs with
    | some vs => some (.agg vs.toArray)
    | none => none
  | _ => none

theorem plain1_den {x : SV} {v : Value} (h : plain1 x = some v) (ρ : Nat → Loc) : x.den ρ = v := by
  unfold plain1 at h
  split at h
  · injection h
  · injection h
  · rename_i cs
    split at h
    · rename_i vs hvs
      injection h with h
      rw [← h, SV.den, dens_eq, plains_den ρ cs vs hvs]
    · cases h
  · cases h

def plain1s : List SV → Option (List Value)
  | [] => some []
  | x :: xs => match plain1 x with
    | some v => match plain1s xs with
      | some vs => some (v :: vs)
      | none => none
    | none => none

theorem plain1s_den (ρ : Nat → Loc) : ∀ (l : List SV) (vs : List Value), plain1s l = some vs → l.map (SV.den ρ) = vs
  | [], vs, h => by injection h
  | x :: xs, vs, h => by
    simp only [plain1s] at h
    split at h
    · rename_i v hv
      split at h
      · rename_i us hus
        injection h with h; subst h
        rw [List.map_cons, plain1_den hv ρ, plain1s_den ρ xs us hus]
      · cases h
    · cases h

def plainV : SV → Option Value
  | .tup cs => match plain1s cs with
    | some vs => some (.tuple vs.toArray)
    | none => none
  | .v x => some x
  | .fn f [] => some (.func (.func f) #[] #[])
  | x => plain1 x

theorem plainV_den {x : SV} {v : Value} (h : plainV x = some v) (ρ : Nat → Loc) : x.den ρ = v := by
  unfold plainV at h
  split at h
  · rename_i cs
    split at h
    · rename_i vs hvs
      injection h with h
      rw [← h, SV.den, dens_eq, plain1s_den ρ cs vs hvs]
    · cases h
  · injection h
  · injection h
  · exact plain1_den h ρ

def plainVs : List SV → Option (List Value)
  | [] => some []
  | x :: xs => match plainV x with
    | some v => match plainVs xs with
      | some vs => some (v :: vs)
      | none => none
    | none => none

theorem plainVs_den (ρ : Nat → Loc) : ∀ (l : List SV) (vs : List Value), plainVs l = some vs → l.map (SV.den ρ) = vs
  | [], vs, h => by injection h
  | x :: xs, vs, h => by
    simp only [plainVs] at h
    split at h
    · rename_i v hv
      split at h
      · rename_i us hus
        injection h with h; subst h
        rw [List.map_cons, plainV_den hv ρ, plainVs_den ρ xs us hus]
      · cases h
    · cases h

/-- The contract, as a transformer. -/
def ctS (S : FSpec) : CT := fun args h K => match plainVs args with
  | some vs => h.M.D (∃ g, S.pre g vs h.M.A ∧ ∀ v A', S.post g vs h.M.A v A' → K (.v v) (h.put A') = true)
  | none => false

/-- What may change of a world: what lies in the arena, and new blocks. -/
structure Moves (A A' : Arena) (w w' : World) : Prop where
  os : w'.os = w.os
  out : w'.output = w.output
  tape : w'.tape = w.tape
  same : ∀ k, A.blk k = none → k < w.heap.size → w'.heap[k]? = w.heap[k]?
  sub : ∀ k o, A'.blk k = some o → w'.heap[k]? = some o
  dom : ∀ k o, A'.blk k = some o → (∃ o', A.blk k = some o') ∨ w.heap.size ≤ k

/-- The function keeps the contract. -/
def FOk (P : Program) (f : FuncId) (S : FSpec) : Prop :=
  ∀ g vs A w, (∀ k o, A.blk k = some o → w.heap[k]? = some o) → S.pre g vs A → CallGoes P f vs.toArray w (fun v w' => ∃ A', S.post g vs A v A' ∧ Moves A A' w w') fun _ _ => False

theorem ctS_goes {P : Program} {f : FuncId} {S : FSpec} (hS : FOk P f S) {args : List SV} {h : HS} {K : SV → HS → Bool} (hk : ctS S args h K = true) {ρ : Nat → Loc} {w : World} (R : HRel ρ h w) :
    CallGoes P f (args.map (SV.den ρ)).toArray w (Post ρ h K) fun _ _ => False := by
  unfold ctS at hk
  split at hk
  · rename_i vs hvs
    obtain ⟨g, hp, hk⟩ := (h.M.X.hD _).1 hk
    rw [plainVs_den ρ args vs hvs]
    refine (hS g vs h.M.A w R.are hp).mono (fun v w' ⟨A', k1, k2⟩ => ?_) fun _ _ h => h
    exact ⟨.v v, h.put A', ρ, hk v A' k1, rfl, trivial, R.arena k2.os k2.out k2.tape k2.same k2.sub k2.dom, Ext.refl _ _, Nat.le_refl _, Mem.put_le _ _⟩
  · exact absurd hk Bool.false_ne_true

/-! ### A contract out of the executor -/

/-- Memory all of whose known addresses lie in the arena. -/
abbrev opMem (blk : Nat → Option Obj) (os : Os) (out : Array (Nat × ByteArray)) (tape : Nat → Question → Nat) (A : Arena) (D : Prop → Bool) (hD : ∀ p, D p = true ↔ p) (al : TypeId → Bool := fun _ => false) : Mem :=
  ⟨blk, os, out, tape, [], fun _ _ h => (by cases h), ⟨A, D, hD, true, al⟩⟩

/-- The end of a run: the contract's promise, where the result names no new block. -/
def endP (S : FSpec) (g : S.γ) (vs : List Value) (A : Arena) : SV → HS → Bool := fun z h => match plainV z with
  | some v => h.M.D (S.post g vs A v h.M.A)
  | none => false

/-- The same, where it may name new blocks. -/
def endK (S : FSpec) (g : S.γ) (vs : List Value) (A : Arena) : SV → HS → Bool := fun z h =>
  h.M.D (∀ ρ w, HRel ρ h w → z.lt ρ h.nx → ∃ A', S.post g vs A (z.den ρ) A' ∧ (∀ k o, A'.blk k = some o → w.heap[k]? = some o) ∧ ∀ k o, A'.blk k = some o → (∃ o', h.M.A.blk k = some o') ∨ ∃ b B, h.H.get b = some B ∧ (ρ b).blk = k)

theorem endP_end {S : FSpec} {g : S.γ} {vs : List Value} {A : Arena} {z : SV} {h : HS} (hk : endP S g vs A z h = true) : endK S g vs A z h = true := by
  unfold endP at hk
  split at hk
  · rename_i v hv
    have hk := (h.M.X.hD _).1 hk
    refine (h.M.X.hD _).2 fun ρ w R _ => ⟨h.M.A, by rw [plainV_den hv ρ]; exact hk, R.are, fun k o ho => .inl ⟨o, ho⟩⟩
  · exact absurd hk Bool.false_ne_true

/-- A run of a function's own text, whatever contract is known of it. -/
def sxTop (P : Program) (C : FuncId → Option CT) (Λ : LTab) (n : Nat) (f : FuncId) (args : List SV) (h : HS) (K : SV → HS → Bool) : Bool := runFn P Λ.mg (sxCode P C Λ n) noC f args h K fun _ _ => false

theorem sxTop_sound {P : Program} (hm : P.follows .mixedOrders = true) {C : FuncId → Option CT} (hC : CTSound P C) {Λ : LTab} (hΛ : LTSound P Λ) (n : Nat) : ∀ f args h K, sxTop P C Λ n f args h K → ∀ ρ w, HRel ρ h w → (∀ x ∈ args, x.lt ρ h.nx) → CallGoes P f (args.map (SV.den ρ)).toArray w (Post ρ h K) fun _ _ => False :=
  fun f args h K hk ρ w H ha => (runFn_sound (noC_sound P) (sxCode_wp hm hC hΛ n).1 f args h K _ hk ρ w H ha).mono (fun _ _ h => h) fun _ _ h => not_post_false h

/-- The run's question. -/
abbrev Run (P : Program) (C : FuncId → Option CT) (Λ : LTab) (n : Nat) (f : FuncId) (args : List SV) (A : Arena) (E : SV → HS → Bool) (al : TypeId → Bool := fun _ => false) : Prop :=
  ∀ blk os out tape D hD, sxTop P C Λ n f args ⟨.e, 0, opMem blk os out tape A D hD al⟩ E = true

theorem fok_of_end {P : Program} (hm : P.follows .mixedOrders = true) {f : FuncId} {S : FSpec} {E : (g : S.γ) → List Value → Arena → SV → HS → Bool} (hE : ∀ g vs A z h, E g vs A z h = true → endK S g vs A z h = true) (al : TypeId → Bool)
    (hr : ∀ g vs A, S.pre g vs A → ∃ C Λ n args, CTSound P C ∧ LTSound P Λ ∧ plainVs args = some vs ∧ (∀ ρ, ∀ x ∈ args, x.lt ρ 0) ∧ Run P C Λ n f args A (E g vs A) al) : FOk P f S := by
  classical
  intro gh vs A w hA hp
  obtain ⟨C, Λ, n, args, hC, hΛ, h1, h2, h3⟩ := hr gh vs A hp
  have R : HRel (fun _ => ⟨0, 0, 0⟩) ⟨.e, 0, opMem (fun k => if A.blk k = none then w.heap[k]? else none) w.os w.output w.tape A (fun p => decide p) (fun p => by simp) al⟩ w := by
    refine ⟨rfl, rfl, rfl, fun k o hk => ?_, fun b B hb => ?_, fun b b' B B' hb => ?_, fun b B hb => ?_, hA, fun b B hb => ?_, fun k o hk => ?_⟩
    · have hk : (if A.blk k = none then w.heap[k]? else none) = some o := hk
      split at hk
      · exact hk
      · cases hk
    · rw [T.get_e] at hb; cases hb
    · rw [T.get_e] at hb; cases hb
    · rw [T.get_e] at hb; cases hb
    · rw [T.get_e] at hb; cases hb
    · have hk : A.blk k = some o := hk
      show (if A.blk k = none then w.heap[k]? else none) = none
      rw [if_neg (by rw [hk]; simp)]
  have g := sxTop_sound hm hC hΛ n f args _ _ (h3 _ _ _ _ _ _) _ w R (fun x hx => h2 _ x hx)
  rw [plainVs_den _ args vs h1] at g
  refine g.mono (fun v w' ⟨z, h', ρ', hz, hv, hl, R', _, _, hle⟩ => ?_) fun _ _ h => h
  obtain ⟨A', k1, k2, k3⟩ := (h'.M.X.hD _).1 (hE _ _ _ _ _ hz) ρ' w' R' hl
  have old : ∀ k, A.blk k = none → k < w.heap.size → h'.M.blk k = w.heap[k]? := fun k hk hlt => by
    have h0 : w.heap[k]? = some w.heap[k] := Array.getElem?_eq_getElem hlt
    have := hle.1 k w.heap[k] (by show (if A.blk k = none then w.heap[k]? else none) = _; rw [if_pos hk]; exact h0)
    rw [this, h0]
  refine ⟨A', by rw [hv]; exact k1, R'.os.trans hle.2.1, R'.out.trans hle.2.2.1, R'.tape.trans hle.2.2.2, fun k hk hlt => ?_, k2, fun k o ho => ?_⟩
  · have h0 : w.heap[k]? = some w.heap[k] := Array.getElem?_eq_getElem hlt
    rw [R'.mem k w.heap[k] (by rw [old k hk hlt]; exact h0), h0]
  · cases hA0 : A.blk k with
    | some o' => exact .inl ⟨o', rfl⟩
    | none =>
      refine .inr (Nat.le_of_not_lt fun hlt => ?_)
      have h0 := old k hA0 hlt
      have h00 : w.heap[k]? = some w.heap[k] := Array.getElem?_eq_getElem hlt
      rcases k3 k o ho with ⟨o', h4⟩ | ⟨b, B, h4, h5⟩
      · rw [R'.disj k o' h4, h00] at h0; cases h0
      · have := R'.apart b B h4
        rw [h5, h0, h00] at this; cases this

theorem fok_of_run {P : Program} (hm : P.follows .mixedOrders = true) {f : FuncId} {S : FSpec}
    (hr : ∀ g vs A, S.pre g vs A → ∃ C Λ n args, CTSound P C ∧ LTSound P Λ ∧ plainVs args = some vs ∧ (∀ ρ, ∀ x ∈ args, x.lt ρ 0) ∧ Run P C Λ n f args A (endP S g vs A)) : FOk P f S :=
  fok_of_end hm (fun _ _ _ _ _ h => endP_end h) (fun _ => false) hr

/-! ### Loops -/

mutual
/-- All ids in it are below n. -/
def SV.bel (n : Nat) : SV → Prop
  | .v _ => True
  | .str _ => True
  | .ptr b _ => b < n
  | .slc b _ _ c => b < n ∧ c.lt n
  | .mp b => b < n
  | .agg cs => SV.bels n cs
  | .tup cs => SV.bels n cs
  | .ifc _ x => x.bel n
  | .fn _ cs => SV.bels n cs
def SV.bels (n : Nat) : List SV → Prop
  | [] => True
  | x :: xs => x.bel n ∧ SV.bels n xs
end

mutual
theorem SV.bel_lt {ρ : Nat → Loc} {n m : Nat} : ∀ (x : SV), x.bel n → x.lt ρ m → x.lt ρ n
  | .v _, _, _ => trivial
  | .str _, _, _ => trivial
  | .ptr _ _, h, _ => h
  | .slc _ _ _ _, h, k => ⟨h.1, h.2, k.2.2⟩
  | .mp _, h, _ => h
  | .agg cs, h, k => SV.bels_lt cs h k
  | .tup cs, h, k => SV.bels_lt cs h k
  | .ifc _ x, h, k => SV.bel_lt x h k
  | .fn _ cs, h, k => SV.bels_lt cs h k
theorem SV.bels_lt {ρ : Nat → Loc} {n m : Nat} : ∀ (l : List SV), SV.bels n l → SV.lts ρ m l → SV.lts ρ n l
  | [], _, _ => trivial
  | x :: xs, h, k => ⟨SV.bel_lt x h.1 k.1, SV.bels_lt xs h.2 k.2⟩
end

def entsBel (n : Nat) : List (SV × SV × Nat) → Prop
  | [] => True
  | e :: es => e.1.bel n ∧ e.2.1.bel n ∧ entsBel n es

def SBlk.bel (n : Nat) : SBlk → Prop
  | .cells cs _ _ => SV.bels n cs
  | .map es _ => entsBel n es
  | .siter _ _ => True
  | .miter m _ _ _ => m < n

theorem bels_mem {n : Nat} : ∀ {l : List SV}, SV.bels n l → ∀ x ∈ l, x.bel n
  | [], _, _, h => by cases h
  | y :: ys, h, x, hx => by
    rcases List.mem_cons.1 hx with rfl | hx
    · exact h.1
    · exact bels_mem h.2 x hx

theorem entsBel_mem {n : Nat} : ∀ {l : List (SV × SV × Nat)}, entsBel n l → ∀ e ∈ l, e.1.bel n ∧ e.2.1.bel n
  | [], _, _, h => by cases h
  | y :: ys, h, x, hx => by
    rcases List.mem_cons.1 hx with rfl | hx
    · exact ⟨h.1, h.2.1⟩
    · exact entsBel_mem h.2.2 x hx

theorem SBlk.bel_lt {ρ : Nat → Loc} {n m : Nat} {B : SBlk} (h : B.bel n) (k : B.lt ρ m) : B.lt ρ n := by
  cases B with
  | cells cs es τ => exact fun x hx => SV.bel_lt x (bels_mem h x hx) (k x hx)
  | map es clock => exact fun e he => ⟨SV.bel_lt _ (entsBel_mem h e he).1 (k e he).1, SV.bel_lt _ (entsBel_mem h e he).2 (k e he).2⟩
  | siter s pos => trivial
  | miter m' since seen last => exact h

/-- What holds at a loop's head: slots that stay, blocks that stay, and what goes by a state. -/
structure LInv where
  γ : Type
  G : γ → Prop
  keepS : List Nat
  keepB : List Nat
  sl : γ → List (Nat × SV)
  bl : γ → List (Nat × SBlk)
  ar : γ → Arena
  mu : γ → Nat

def takeT {α : Type} (t : T α) : List Nat → T α → T α
  | [], acc => acc
  | i :: is, acc => match t.get i with
    | some x => takeT t is (acc.set i x)
    | none => takeT t is acc

theorem takeT_get {α : Type} {t : T α} : ∀ {is : List Nat} {acc : T α} {i : Nat} {x : α}, (takeT t is acc).get i = some x → (i ∈ is ∧ t.get i = some x) ∨ acc.get i = some x
  | [], _, _, _, h => .inr h
  | j :: js, acc, i, x, h => by
    simp only [takeT] at h
    split at h
    · rename_i y hy
      rcases takeT_get h with ⟨h1, h2⟩ | h
      · exact .inl ⟨List.mem_cons_of_mem _ h1, h2⟩
      · rcases T.get_set h with ⟨h1, h2⟩ | ⟨_, h⟩
        · subst h1; subst h2; exact .inl ⟨List.mem_cons_self, hy⟩
        · exact .inr h
    · rcases takeT_get h with ⟨h1, h2⟩ | h
      · exact .inl ⟨List.mem_cons_of_mem _ h1, h2⟩
      · exact .inr h

def putT {α : Type} : List (Nat × α) → T α → T α
  | [], t => t
  | s :: ss, t => putT ss (t.set s.1 s.2)

theorem putT_get {α : Type} : ∀ {l : List (Nat × α)} {t : T α} {i : Nat} {x : α}, (putT l t).get i = some x → (i, x) ∈ l ∨ t.get i = some x
  | [], _, _, _, h => .inr h
  | s :: ss, t, i, x, h => by
    rcases putT_get (l := ss) h with h | h
    · exact .inl (List.mem_cons_of_mem _ h)
    · rcases T.get_set h with ⟨h1, h2⟩ | ⟨_, h⟩
      · subst h1; subst h2; exact .inl (by simp)
      · exact .inr h

def sameP {α : Type} (t t' : T α) : List Nat → Prop
  | [] => True
  | i :: is => t'.get i = t.get i ∧ sameP t t' is

theorem sameP_mem {α : Type} {t t' : T α} : ∀ {is : List Nat}, sameP t t' is → ∀ i ∈ is, t'.get i = t.get i
  | [], _, _, h => by cases h
  | j :: js, h, i, hi => by
    rcases List.mem_cons.1 hi with rfl | hi
    · exact h.1
    · exact sameP_mem h.2 i hi

/-- A slot that stays: each side is reckoned alone (Meta's unifier would else hold the two tables against each other: half a minute a round). -/
theorem same1 {α : Type} {t t' : T α} {i : Nat} {x : α} (h1 : t'.get i = some x) (h2 : t.get i = some x) : t'.get i = t.get i := h1.trans h2.symm

/-- These entries stand there. -/
def atP {α : Type} (t : T α) : List (Nat × α) → Prop
  | [] => True
  | s :: ss => t.get s.1 = some s.2 ∧ atP t ss

theorem atP_mem {α : Type} {t : T α} : ∀ {l : List (Nat × α)}, atP t l → ∀ s ∈ l, t.get s.1 = some s.2
  | [], _, _, h => by cases h
  | x :: xs, h, s, hs => by
    rcases List.mem_cons.1 hs with rfl | hs
    · exact h.1
    · exact atP_mem h.2 s hs

def belS (n : Nat) : List (Nat × SV) → Prop
  | [] => True
  | s :: ss => s.2.bel n ∧ belS n ss

def belB (n : Nat) : List (Nat × SBlk) → Prop
  | [] => True
  | s :: ss => s.1 < n ∧ s.2.bel n ∧ belB n ss

theorem belS_mem {n : Nat} : ∀ {l : List (Nat × SV)}, belS n l → ∀ s ∈ l, s.2.bel n
  | [], _, _, h => by cases h
  | x :: xs, h, s, hs => by
    rcases List.mem_cons.1 hs with rfl | hs
    · exact h.1
    · exact belS_mem h.2 s hs

theorem belB_mem {n : Nat} : ∀ {l : List (Nat × SBlk)}, belB n l → ∀ s ∈ l, s.1 < n ∧ s.2.bel n
  | [], _, _, h => by cases h
  | x :: xs, h, s, hs => by
    rcases List.mem_cons.1 hs with rfl | hs
    · exact ⟨h.1, h.2.1⟩
    · exact belB_mem h.2.2 s hs

/-- A state of the loop's head. -/
def LInv.At (S : LInv) (g : S.γ) (tm : T SV) (h : HS) : Prop := S.G g ∧ atP tm (S.sl g) ∧ atP h.H (S.bl g) ∧ h.M.A = S.ar g

/-- A round's end. -/
def loopK (S : LInv) (id : Nat) (K : KT) (tm0 : T SV) (H0 : T SBlk) (m : Nat) : KT := fun e tm h => match e with
  | .nrm => h.M.D (∃ g, S.At g tm h ∧ S.mu g < m ∧ sameP tm0 tm S.keepS ∧ sameP H0 h.H S.keepB)
  | .ext i => bif Nat.beq i id then K .nrm tm h else K (.ext i) tm h
  | e => K e tm h

/-- A loop with an invariant. -/
def loopLT (P : Program) (C : FuncId → Option CT) (Λ : LTab) (n : Nat) (f : FuncId) (id : Nat) : LT := fun c sz K tm h => match c with
  | .loop b => h.M.D (∃ S : LInv, (∃ g, S.At g tm h) ∧ ∀ g, S.G g → belS h.nx (S.sl g) ∧ belB h.nx (S.bl g) ∧
      shutH ⟨putT (S.bl g) (takeT h.H S.keepB .e), h.nx, h.M.put (S.ar g)⟩ (fun h1 => sxCode P C Λ n f sz b (loopK S id K tm h.H (S.mu g)) (putT (S.sl g) (takeT tm S.keepS .e)) h1) = true)
  | _ => false

theorem loopLT_sound {P : Program} (hm : P.follows .mixedOrders = true) {C : FuncId → Option CT} (hC : CTSound P C) {Λ : LTab} (hΛ : LTSound P Λ) (n : Nat) (f : FuncId) (id : Nat)
    {c : Code} {sz : Nat} {K : KT} {tm : T SV} {h : HS} (hW : Within P f (.block id c)) (hk : loopLT P C Λ n f id c sz K tm h = true) {ρ : Nat → Loc} {a : Act} {w : World} (A : ARel dfs ρ tm sz h.nx a) (R : HRel ρ h w) :
    (Code.block id c).wp P (GoesX dfs ρ h sz K) a w := by
  unfold loopLT at hk
  split at hk
  · rename_i b
    obtain ⟨S, ⟨g0, h0⟩, hk⟩ := (h.M.X.hD _).1 hk
    -- a state, as the round sees it
    have state : ∀ (g : S.γ) (tm' : T SV) (h' : HS) (ρ' : Nat → Loc) (a' : Act) (w' : World), S.At g tm' h' → sameP tm tm' S.keepS → sameP h.H h'.H S.keepB → ARel dfs ρ' tm' sz h'.nx a' → HRel ρ' h' w' → Ext ρ ρ' h.nx → h.M.le h'.M →
        ARel dfs ρ' (putT (S.sl g) (takeT tm S.keepS .e)) sz h.nx a' ∧ HRel ρ' ⟨putT (S.bl g) (takeT h.H S.keepB .e), h.nx, h.M.put (S.ar g)⟩ w' := by
      intro g tm' h' ρ' a' w' ⟨hG, h1, h2, h3⟩ hs1 hs2 A' R' hx hle
      obtain ⟨hb1, hb2, _⟩ := hk g hG
      have slot : ∀ i x, (putT (S.sl g) (takeT tm S.keepS .e)).get i = some x → tm'.get i = some x ∧ x.lt ρ' h.nx := fun i x hi => by
        rcases putT_get hi with hi | hi
        · have h4 := atP_mem h1 _ hi
          exact ⟨h4, SV.bel_lt x (belS_mem hb1 _ hi) (A'.at_ i x h4).1⟩
        · rcases takeT_get hi with ⟨h4, h5⟩ | h4
          · refine ⟨by rw [sameP_mem hs1 i h4]; exact h5, ?_⟩
            exact SV.lt_ext hx (Nat.le_refl _) x (A.at_ i x h5).1
          · rw [T.get_e] at h4; cases h4
      have blk : ∀ i B, (putT (S.bl g) (takeT h.H S.keepB .e)).get i = some B → h'.H.get i = some B ∧ i < h.nx ∧ B.lt ρ' h.nx := fun i B hi => by
        rcases putT_get hi with hi | hi
        · have h4 := atP_mem h2 _ hi
          have h5 := belB_mem hb2 _ hi
          exact ⟨h4, h5.1, SBlk.bel_lt h5.2 (R'.blk i B h4).2.1⟩
        · rcases takeT_get hi with ⟨h4, h5⟩ | h4
          · refine ⟨by rw [sameP_mem hs2 i h4]; exact h5, (R.blk i B h5).1, ?_⟩
            exact SBlk.lt_ext hx (Nat.le_refl _) (R.blk i B h5).2.1
          · rw [T.get_e] at h4; cases h4
      refine ⟨⟨A'.size, fun i x hi => ⟨(slot i x hi).2, (A'.at_ i x (slot i x hi).1).2⟩, A'.defers⟩, R'.os.trans hle.2.1, R'.out.trans hle.2.2.1, R'.tape.trans hle.2.2.2, fun k o hk => R'.mem k o (hle.1 k o hk), fun i B hi => ?_, fun i i' B B' hi hi' he => R'.inj i i' B B' (blk i B hi).1 (blk i' B' hi').1 he, fun i B hi => ?_, fun k o hk => ?_, fun i B hi => ?_, fun k o hk => ?_⟩
      · exact ⟨(blk i B hi).2.1, (blk i B hi).2.2, (R'.blk i B (blk i B hi).1).2.2⟩
      · have := R'.apart i B (blk i B hi).1
        show h.M.blk (ρ' i).blk = none
        cases hb : h.M.blk (ρ' i).blk with
        | none => rfl
        | some o => rw [hle.1 _ o hb] at this; cases this
      · have hk : (S.ar g).blk k = some o := hk
        rw [← h3] at hk
        exact R'.are k o hk
      · show (S.ar g).blk (ρ' i).blk = none
        rw [← h3]; exact R'.aprA i B (blk i B hi).1
      · have hk : (S.ar g).blk k = some o := hk
        rw [← h3] at hk
        have := R'.disj k o hk
        show h.M.blk k = none
        cases hb : h.M.blk k with
        | none => rfl
        | some o' => rw [hle.1 _ o' hb] at this; cases this
    have key : ∀ (m : Nat) (g : S.γ) (ρ1 : Nat → Loc) (a1 : Act) (w1 : World), S.mu g < m → S.G g → Ext ρ ρ1 h.nx → ARel dfs ρ1 (putT (S.sl g) (takeT tm S.keepS .e)) sz h.nx a1 → HRel ρ1 ⟨putT (S.bl g) (takeT h.H S.keepB .e), h.nx, h.M.put (S.ar g)⟩ w1 →
        Code.rounds P b (Exit.inBlock id (GoesX dfs ρ h sz K)) m a1 w1 := by
      intro m
      induction m with
      | zero => intro g ρ1 a1 w1 hm; omega
      | succ m ih =>
        intro g ρ1 a1 w1 hlt hG hx1 A1 R1
        obtain ⟨_, _, hrun⟩ := hk g hG
        rw [shutH_eq] at hrun
        rw [rounds_succ]
        refine wp_mono ((sxCode_wp hm hC hΛ n).1 f sz b _ _ _ (hW.to .block |>.to .loop) hrun dfs ρ1 a1 w1 A1 R1) fun e a' w' gx => ?_
        have fin : ∀ {tm' : T SV} {h' : HS} {ρ' : Nat → Loc}, Ext ρ1 ρ' h.nx → h.nx ≤ h'.nx → (h.M.put (S.ar g)).le h'.M → Ext ρ ρ' h.nx ∧ h.nx ≤ h'.nx ∧ h.M.le h'.M := fun hx hn hle => ⟨hx1.trans hx (Nat.le_refl _), hn, hle⟩
        cases e with
        | normal =>
          obtain ⟨tm', h', ρ', hk', A', R', hx, hn, hle⟩ := gx
          obtain ⟨g', hAt, hmu, hs1, hs2⟩ := (h'.M.X.hD _).1 hk'
          obtain ⟨A2, R2⟩ := state g' tm' h' ρ' a' w' hAt hs1 hs2 A' R' (hx1.trans hx (Nat.le_refl _)) hle
          exact ih g' ρ' a' w' (by omega) hAt.1 (hx1.trans hx (Nat.le_refl _)) A2 R2
        | exit i =>
          obtain ⟨tm', h', ρ', hk', A', R', hx, hn, hle⟩ := gx
          have hk2 : (bif Nat.beq i id then K .nrm tm' h' else K (.ext i) tm' h') = true := hk'
          show Exit.inBlock id (GoesX dfs ρ h sz K) (.exit i) a' w'
          cases hb : Nat.beq i id with
          | true =>
            rw [hb] at hk2
            have := Nat.eq_of_beq_eq_true hb
            subst this
            simp only [Exit.inBlock, if_true]
            exact ⟨tm', h', ρ', hk2, A', R', hx1.trans hx (Nat.le_refl _), hn, hle⟩
          | false =>
            rw [hb] at hk2
            have hne : i ≠ id := fun e => by rw [e, Nat.beq_refl] at hb; cases hb
            simp only [Exit.inBlock, hne, if_false]
            exact ⟨tm', h', ρ', hk2, A', R', hx1.trans hx (Nat.le_refl _), hn, hle⟩
        | ret =>
          obtain ⟨tm', h', ρ', hk', A', R', hx, hn, hle⟩ := gx
          exact ⟨tm', h', ρ', hk', A', R', hx1.trans hx (Nat.le_refl _), hn, hle⟩
        | goto l => exact gx.elim
        | panic c =>
          obtain ⟨x, tm', h', ρ', e, l, hk', A', R', hx, hn, hle⟩ := gx
          exact ⟨x, tm', h', ρ', e, l, hk', A', R', hx1.trans hx (Nat.le_refl _), hn, hle⟩
        | outgrown => exact gx.elim
    obtain ⟨A0, R0⟩ := state g0 tm h ρ a w h0 (by
      generalize S.keepS = l
      induction l with
      | nil => trivial
      | cons i is ih => exact ⟨rfl, ih⟩) (by
      generalize S.keepB = l
      induction l with
      | nil => trivial
      | cons i is ih => exact ⟨rfl, ih⟩) A R (Ext.refl _ _) (Mem.le_refl _)
    refine wp_block (wp_loop_rounds (S.mu g0 + 1) (key (S.mu g0 + 1) g0 ρ a w (Nat.lt_succ_self _) h0.1 (Ext.refl _ _) A0 R0))
  · exact absurd hk Bool.false_ne_true

/-- A table of told blocks, one behind the other. -/
structure LEnt where
  f : FuncId
  id : Nat
  lt : LT

def lookL (l : List LEnt) (f : FuncId) (id : Nat) : Option LT := match l with
  | [] => none
  | x :: xs => bif Nat.beq f x.f && Nat.beq id x.id then some x.lt else lookL xs f id

def LEnt.Ok (P : Program) (x : LEnt) : Prop := ∀ c sz K tm h, Within P x.f (.block x.id c) → x.lt c sz K tm h → ∀ dfs ρ a w, ARel dfs ρ tm sz h.nx a → HRel ρ h w → (Code.block x.id c).wp P (GoesX dfs ρ h sz K) a w

def tabL (l : List LEnt) : LTab := ⟨lookL l, fun _ => false, fun _ _ => none⟩

theorem tabL_sound {P : Program} {l : List LEnt} (h : ∀ x ∈ l, x.Ok P) : LTSound P (tabL l) := by
  intro f id lt hl
  change lookL l f id = some lt at hl
  revert hl
  induction l with
  | nil => intro hl; cases hl
  | cons x xs ih =>
    intro hl
    simp only [lookL] at hl
    cases hb : Nat.beq f x.f && Nat.beq id x.id with
    | false => rw [hb] at hl; exact ih (fun y hy => h y (List.mem_cons_of_mem _ hy)) hl
    | true =>
      rw [hb] at hl
      simp only [Bool.and_eq_true] at hb
      simp only [cond_true, Option.some.injEq] at hl
      subst hl
      have e1 := Nat.eq_of_beq_eq_true hb.1
      have e2 := Nat.eq_of_beq_eq_true hb.2
      subst e1; subst e2
      exact h x List.mem_cons_self

def loopE (P : Program) (C : FuncId → Option CT) (Λ : LTab) (n : Nat) (f : FuncId) (id : Nat) : LEnt := ⟨f, id, loopLT P C Λ n f id⟩

theorem loopE_ok {P : Program} (hm : P.follows .mixedOrders = true) {C : FuncId → Option CT} (hC : CTSound P C) {Λ : LTab} (hΛ : LTSound P Λ) (n : Nat) (f : FuncId) (id : Nat) : (loopE P C Λ n f id).Ok P :=
  fun _ _ _ _ _ hW hk _ _ _ _ A R => loopLT_sound hm hC hΛ n f id hW hk A R

/-- A table of loops, with those within. -/
def tabO (P : Program) (C : FuncId → Option CT) (Λ : LTab) (n : Nat) (l : List (FuncId × Nat)) : LTab := tabL (l.map fun x => loopE P C Λ n x.1 x.2)

theorem tabO_sound {P : Program} (hm : P.follows .mixedOrders = true) {C : FuncId → Option CT} (hC : CTSound P C) {Λ : LTab} (hΛ : LTSound P Λ) (n : Nat) (l : List (FuncId × Nat)) : LTSound P (tabO P C Λ n l) :=
  tabL_sound fun x hx => by
    obtain ⟨y, _, rfl⟩ := List.mem_map.1 hx
    exact loopE_ok hm hC hΛ n y.1 y.2

/-- A table of contracts. -/
structure CEnt where
  f : FuncId
  ct : CT

def lookC (l : List CEnt) (C : FuncId → Option CT) : FuncId → Option CT := fun f => match l with
  | [] => C f
  | x :: xs => bif Nat.beq f x.f then some x.ct else lookC xs C f

def CEnt.Ok (P : Program) (x : CEnt) : Prop := ∀ args h K, x.ct args h K → ∀ ρ w, HRel ρ h w → (∀ x ∈ args, x.lt ρ h.nx) → CallGoes P x.f (args.map (SV.den ρ)).toArray w (Post ρ h K) fun _ _ => False

theorem lookC_sound {P : Program} {C : FuncId → Option CT} (hC : CTSound P C) : ∀ {l : List CEnt}, (∀ x ∈ l, x.Ok P) → CTSound P (lookC l C)
  | [], _ => hC
  | x :: xs, h => by
    intro f ct hf
    simp only [lookC] at hf
    cases hb : Nat.beq f x.f with
    | false => rw [hb] at hf; exact lookC_sound hC (fun y hy => h y (List.mem_cons_of_mem _ hy)) f ct hf
    | true =>
      rw [hb] at hf
      simp only [cond_true, Option.some.injEq] at hf
      subst hf
      have e1 := Nat.eq_of_beq_eq_true hb
      subst e1
      exact h x List.mem_cons_self

def specE (f : FuncId) (S : FSpec) : CEnt := ⟨f, ctS S⟩

theorem specE_ok {P : Program} {f : FuncId} {S : FSpec} (h : FOk P f S) : (specE f S).Ok P := fun _ _ _ hk _ _ R _ => ctS_goes h hk R

/-! ### Steps of a proof: what a run is stuck at -/

theorem split_b {t : Bool} {A B : Bool} (h1 : t = true → A = true) (h2 : t = false → B = true) : (bif t then A else B) = true := by
  cases t
  · exact h2 rfl
  · exact h1 rfl

theorem split_dec {p : Prop} {i : Decidable p} {A B : Bool} (h1 : p → A = true) (h2 : ¬ p → B = true) : (bif decide p then A else B) = true := by
  by_cases h : p
  · rw [decide_eq_true h]; exact h1 h
  · rw [decide_eq_false h]; exact h2 h

theorem split_in {n : Int} {l : Nat} {A B : Bool} (h1 : 0 ≤ n → n < l → A = true) (h2 : ¬ (0 ≤ n ∧ n < l) → B = true) : (bif inRange n l then A else B) = true := by
  by_cases h : 0 ≤ n ∧ n < l
  · rw [inRange_iff.2 h]; exact h1 h.1 h.2
  · have : inRange n l = false := by
      cases hb : inRange n l with
      | false => rfl
      | true => exact absurd (inRange_iff.1 hb) h
    rw [this]; exact h2 h

theorem go_b {t : Bool} {A B : Bool} (h : t = true) (h1 : A = true) : (bif t then A else B) = true := by rw [h]; exact h1

theorem go_dec {p : Prop} {i : Decidable p} {A B : Bool} (h : p) (h1 : A = true) : (bif decide p then A else B) = true := by rw [decide_eq_true h]; exact h1

theorem no_dec {p : Prop} {i : Decidable p} {A B : Bool} (h : ¬ p) (h1 : B = true) : (bif decide p then A else B) = true := by rw [decide_eq_false h]; exact h1

theorem go_in {n : Int} {l : Nat} {A B : Bool} (h : 0 ≤ n ∧ n < l) (h1 : A = true) : (bif inRange n l then A else B) = true := by rw [inRange_iff.2 h]; exact h1

theorem go_D {D : Prop → Bool} (hD : ∀ p, D p = true ↔ p) {p : Prop} {A B : Bool} (hp : p) (h1 : A = true) : (bif D p then A else B) = true := by rw [(hD p).2 hp]; exact h1

theorem go_ct {r : Option Nat} {n : Nat} {F : Nat → Bool} (h : r = some n) (h1 : F n = true) : ctK r F = true := by rw [h]; exact h1

theorem go_lk {r : Option (Option Value)} {v : Option Value} {F : Option Value → Bool} (h : r = some v) (h1 : F v = true) : lkK r F = true := by rw [h]; exact h1

theorem go_en {r : Option Value} {v : Value} {F : SV → Bool} (h : r = some v) (h1 : F (.v v) = true) : enK r F = true := by rw [h]; exact h1

theorem go_by {r : Option (List UInt8)} {l : List UInt8} {F : List UInt8 → Bool} (h : r = some l) (h1 : F l = true) : byK r F = true := by rw [h]; exact h1

theorem bytesVs_u8 : ∀ (l : List UInt8), bytesVs (l.map fun b => Value.int .u8 b.toNat) = some l
  | [] => rfl
  | b :: l => by
    simp only [List.map_cons, bytesVs, bytesVs_u8 l, Int.toNat_natCast]
    rw [UInt8.ofNat_toNat]

theorem go_rd {r : Option (List Value)} {vs : List Value} {F : List Value → Bool} (h : r = some vs) (h1 : F vs = true) : rdK r F = true := by rw [h]; exact h1

end
end Go.Sx

namespace Go.Sx
noncomputable section

/-! ### One arena in another -/

def Arena.Sub (B A : Arena) : Prop := ∀ k o, B.blk k = some o → A.blk k = some o

theorem Arena.Sub.refl (A : Arena) : A.Sub A := fun _ _ h => h
theorem Arena.Sub.trans {A B C : Arena} (h : A.Sub B) (k : B.Sub C) : A.Sub C := fun i o ho => k i o (h i o ho)

theorem rd_mk {A : Arena} {g o n : Nat} {c : Array Value} {t : TypeId} {fz : Nat × Nat} (h : A.blk g = some (.cells c t fz)) (hle : o + n ≤ c.size) : A.rd g o n = some ((c.toList.drop o).take n) := by
  rw [A.rdeq]
  unfold rdOf
  rw [h]
  simp only
  rw [if_pos hle]

theorem rd_sub {A B : Arena} (h : B.Sub A) {g o n : Nat} {vs : List Value} (hr : B.rd g o n = some vs) : A.rd g o n = some vs := by
  obtain ⟨c, t, fz, hb, hle, rfl⟩ := rd_some hr
  exact rd_mk (h _ _ hb) hle

theorem rd_at {A : Arena} {g o N i m : Nat} {cs : List Value} (h : A.rd g o N = some cs) (hi : i + m ≤ N) : A.rd g (o + i) m = some ((cs.drop i).take m) := by
  obtain ⟨c, t, fz, hb, hle, rfl⟩ := rd_some h
  rw [rd_mk hb (by omega)]
  congr 1
  rw [List.drop_take, List.take_take, List.drop_drop]
  congr 1
  omega

theorem rd_dom {A : Arena} {g o n : Nat} {vs : List Value} (h : A.rd g o n = some vs) : ∃ ob, A.blk g = some ob := by
  obtain ⟨c, t, fz, hb, _⟩ := rd_some h
  exact ⟨_, hb⟩

/-- What is new in A'. -/
def Arena.minus (A' A : Arena) : Arena := Arena.of fun k => match A.blk k with
  | none => A'.blk k
  | some _ => none

theorem minus_blk {A A' : Arena} {k : Nat} {o : Obj} (h : (A'.minus A).blk k = some o) : A.blk k = none ∧ A'.blk k = some o := by
  have h : (match A.blk k with
    | none => A'.blk k
    | some _ => none) = some o := h
  split at h
  · exact ⟨by assumption, h⟩
  · cases h

theorem minus_mk {A A' : Arena} {k : Nat} {o : Obj} (h1 : A.blk k = none) (h2 : A'.blk k = some o) : (A'.minus A).blk k = some o := by
  show (match A.blk k with
    | none => A'.blk k
    | some _ => none) = some o
  rw [h1]; exact h2

theorem minus_sub (A A' : Arena) : (A'.minus A).Sub A' := fun _ _ h => (minus_blk h).2

theorem minus_none {A : Arena} {k : Nat} {o : Obj} (A' : Arena) (h : A.blk k = some o) : (A'.minus A).blk k = none := by
  show (match A.blk k with
    | none => A'.blk k
    | some _ => none) = none
  rw [h]

theorem rd_minus {A A' : Arena} {g o n : Nat} {vs : List Value} (h : A'.rd g o n = some vs) (hg : A.blk g = none) : (A'.minus A).rd g o n = some vs := by
  obtain ⟨c, t, fz, hb, hle, rfl⟩ := rd_some h
  exact rd_mk (minus_mk hg hb) hle

/-- What was new is new. -/
theorem minus_up {A A1 A2 : Arena} (h : A1.Sub A2) : (A1.minus A).Sub (A2.minus A) := fun k o hk => by
  obtain ⟨h1, h2⟩ := minus_blk hk
  exact minus_mk h1 (h _ _ h2)

theorem minus_later {A A1 A2 : Arena} (h : A.Sub A1) : (A2.minus A1).Sub (A2.minus A) := fun k o hk => by
  obtain ⟨h1, h2⟩ := minus_blk hk
  refine minus_mk ?_ h2
  cases hA : A.blk k with
  | none => rfl
  | some o' => rw [h _ _ hA] at h1; cases h1

/-! ### A new row, a store -/

theorem Arena.New.sub {A A' : Arena} {g : Nat} {c : Array Value} {t : TypeId} (h : A.New A' g c t) : A.Sub A' := fun k o hk => by
  rw [h.other k (fun e => by subst e; rw [h.none_] at hk; cases hk)]; exact hk

theorem Arena.New.rd {A A' : Arena} {g : Nat} {c : Array Value} {t : TypeId} (h : A.New A' g c t) {o n : Nat} (hle : o + n ≤ c.size) : A'.rd g o n = some ((c.toList.drop o).take n) := rd_mk h.at_ hle

theorem Arena.Put.sub {A A' B : Arena} {g o : Nat} {vs : List Value} (h : A.Put A' g o vs) (hB : B.Sub A) (hg : B.blk g = none) : B.Sub A' := fun k ob hk => by
  rw [h.other k (fun e => by subst e; rw [hg] at hk; cases hk)]; exact hB k ob hk

theorem Arena.Put.dom {A A' : Arena} {g o : Nat} {vs : List Value} (h : A.Put A' g o vs) (k : Nat) : A'.blk k = none ↔ A.blk k = none := by
  by_cases e : k = g
  · subst e
    obtain ⟨c, t, fz, c', h1, h2, _⟩ := h.at_
    rw [h1, h2]; simp
  · rw [h.other k e]

/-! ### Slices -/

/-- A slice of n elements with these cells. -/
def Sl (A : Arena) (es n : Nat) (v : Value) (cs : List Value) : Prop :=
  ∃ ao c, v = .slice ao n c ∧ n ≤ c ∧ cs.length = n * es ∧ (ao = none → c = 0) ∧ (∀ a, ao = some a → 0 < c → a.spot = none) ∧ (0 < n → ∀ a, ao = some a → A.rd a.block a.off (n * es) = some cs)

theorem Sl.at_ {A : Arena} {es n c : Nat} {ao : Option Addr} {cs : List Value} (h0 : n ≤ c) (h1 : ao = none → c = 0) (h2 : ∀ a, ao = some a → 0 < c → a.spot = none) (h3 : 0 < n → ∀ a, ao = some a → A.rd a.block a.off (n * es) = some cs) (hn : 0 < n) :
    ∃ g o, ao = some ⟨g, o, none⟩ ∧ A.rd g o (n * es) = some cs := by
  cases ao with
  | none => have := h1 rfl; omega
  | some a =>
    obtain ⟨g, o, t⟩ := a
    have h4 := h2 _ rfl (by omega)
    simp only at h4
    subst h4
    exact ⟨g, o, rfl, h3 hn _ rfl⟩

theorem Sl.sub {A B : Arena} (h : B.Sub A) {es n : Nat} {v : Value} {cs : List Value} (hs : Sl B es n v cs) : Sl A es n v cs := by
  obtain ⟨ao, c, h1, h2, h3, h4, h5, h6⟩ := hs
  exact ⟨ao, c, h1, h2, h3, h4, h5, fun hn a ha => rd_sub h (h6 hn a ha)⟩

theorem Sl.nil (A : Arena) (es : Nat) : Sl A es 0 (.slice none 0 0) [] :=
  ⟨none, 0, rfl, Nat.le_refl _, (by simp), fun _ => rfl, fun a h => (by cases h), fun h => (by omega)⟩

/-- Of zero elements: wherever it points. -/
theorem Sl.zero (A : Arena) (es : Nat) {ao : Option Addr} {c : Nat} (h1 : ao = none → c = 0) (h2 : ∀ a, ao = some a → 0 < c → a.spot = none) : Sl A es 0 (.slice ao 0 c) [] :=
  ⟨ao, c, rfl, Nat.zero_le _, (by simp), h1, h2, fun h => (by omega)⟩

theorem Sl.row {A : Arena} {es n g o c : Nat} {cs : List Value} (hc : n ≤ c) (h : A.rd g o (n * es) = some cs) : Sl A es n (.slice (some ⟨g, o, none⟩) n c) cs :=
  ⟨_, c, rfl, hc, rd_len h, fun h => (by cases h), fun a h _ => (by injection h with h; subst h; rfl), fun _ a ha => (by injection ha with ha; subst ha; exact h)⟩

theorem Sl.form {A : Arena} {es n : Nat} {v : Value} {cs : List Value} (h : Sl A es n v cs) : ∃ ao c, v = .slice ao n c := by
  obtain ⟨ao, c, h, _⟩ := h
  exact ⟨ao, c, h⟩

/-- Bytes. -/
def bv (b : UInt8) : Value := .int .u8 b.toNat

def SlB (A : Arena) (v : Value) (bs : List UInt8) : Prop := Sl A 1 bs.length v (bs.map bv) ∧ bs.length ≤ 140737488351232

theorem SlB.sub {A B : Arena} (h : B.Sub A) {v : Value} {bs : List UInt8} (hs : SlB B v bs) : SlB A v bs := ⟨hs.1.sub h, hs.2⟩

theorem byte_at {A : Arena} {g o n : Nat} {bs : List UInt8} (h : A.rd g o (n * 1) = some (bs.map bv)) (k : Nat) (hk : k < bs.length) (hn : n = bs.length) : A.rd g (o + k * 1) 1 = some [bv bs[k]] := by
  have := rd_at (i := k) (m := 1) h (by omega)
  rw [Nat.mul_one, this]
  congr 1
  rw [List.drop_eq_getElem_cons (by simpa using hk)]
  simp [bv]

/-- A row of rows. -/
theorem rows_at {A : Arena} {g o n es : Nat} {rows : List (List Value)} (h : A.rd g o (n * es) = some rows.flatten) (hes : ∀ r ∈ rows, r.length = es) (k : Nat) (hk : k < rows.length) (hn : n = rows.length) : A.rd g (o + k * es) es = some rows[k] := by
  subst hn
  have hle : k * es + es ≤ rows.length * es := by
    have := Nat.mul_le_mul_right es hk
    rwa [Nat.succ_mul] at this
  rw [rd_at h hle]
  congr 1
  have key : ∀ (l : List (List Value)) (k : Nat) (hk : k < l.length), (∀ r ∈ l, r.length = es) → (l.flatten.drop (k * es)).take es = l[k] := by
    intro l
    induction l with
    | nil => intro k hk; simp at hk
    | cons r l ih =>
      intro k hk hes
      have hr := hes r (by simp)
      cases k with
      | zero => simp [← hr]
      | succ k =>
        rw [List.flatten_cons, List.drop_append, List.drop_eq_nil_of_le (by rw [hr, Nat.succ_mul]; omega), List.nil_append]
        rw [show (k + 1) * es - r.length = k * es by rw [hr, Nat.succ_mul]; omega]
        simpa using ih k (by simpa using hk) (fun r' h' => hes r' (List.mem_cons_of_mem _ h'))
  exact key rows k hk hes

/-- A clone: something appended to nothing. -/
theorem clone_end {A A1 A2 : Arena} {base : Option (Nat × Nat)} {es n : Nat} {e : TypeId} {ys : List Value} {v : Value} (h1 : A.Sub A1) (ha : Appended A1 base 0 0 es e [] ys n v A2) (hl : ys.length = n * es) : A.Sub A2 ∧ Sl (A2.minus A) es n v ys := by
  rcases ha with ⟨h0, rfl, h3⟩ | ⟨h0, g, nc, cs, zs, rfl, hn, hcs, _, hN⟩
  · have hn : n = 0 := by omega
    subst hn
    have : ys = [] := List.length_eq_zero_iff.1 (by rw [hl]; simp)
    subst this
    refine ⟨?_, ?_⟩
    · rcases h3 with ⟨_, rfl⟩ | ⟨g, o, hb, hP⟩
      · exact h1
      · intro k o' hk
        by_cases e : k = g
        · subst e
          obtain ⟨c, t, fz, c', k1, k2, k3⟩ := hP.at_
          have hcc : c' = c := Array.toList_inj.1 (by rw [k3]; simp)
          have := h1 _ _ hk
          rw [k1] at this
          rw [k2, hcc]; exact this
        · rw [hP.other k e]; exact h1 _ _ hk
    · exact Sl.zero _ _ (fun _ => rfl) (fun a ha _ => by
        cases base with
        | none => cases ha
        | some go => injection ha with ha; subst ha; rfl)
  · have hs := h1.trans hN.sub
    refine ⟨hs, ?_⟩
    have hg : A.blk g = none := by
      cases hA : A.blk g with
      | none => rfl
      | some o => have := h1 _ _ hA; rw [hN.none_] at this; cases this
    rw [Nat.zero_add] at hn ⊢
    refine Sl.row hn ?_
    have hsz : cs.size = ys.length + zs.length := by rw [← Array.length_toList, hcs]; simp
    refine rd_minus ?_ hg
    rw [hN.rd (by omega), hcs]
    simp [hl]

/-- The same, with the row itself. -/
theorem clone_row {A A1 A2 : Arena} {base : Option (Nat × Nat)} {es n : Nat} {e : TypeId} {ys : List Value} {v : Value} (h1 : A.Sub A1) (ha : Appended A1 base 0 0 es e [] ys n v A2) (hl : ys.length = n * es) (hn : 0 < n) :
    ∃ g nc c t, v = .slice (some ⟨g, 0, none⟩) n nc ∧ n ≤ nc ∧ A.blk g = none ∧ A2.blk g = some (.cells c t (0, 0)) ∧ n * es ≤ c.size := by
  rcases ha with ⟨h0, _⟩ | ⟨h0, g, nc, cs, zs, rfl, hnc, hcs, _, hN⟩
  · omega
  · have hg : A.blk g = none := by
      cases hA : A.blk g with
      | none => rfl
      | some o => have := h1 _ _ hA; rw [hN.none_] at this; cases this
    rw [Nat.zero_add] at hnc ⊢
    refine ⟨g, nc, cs, e, rfl, hnc, hg, hN.at_, ?_⟩
    rw [← Array.length_toList, hcs]
    simp; omega

theorem plain_v (v : Value) : plainV (.v v) = some v := rfl

theorem plainVs_v : ∀ (vs : List Value), plainVs (vs.map SV.v) = some vs
  | [] => rfl
  | v :: vs => by simp only [List.map_cons, plainVs, plain_v, plainVs_v vs]

/-- A contract out of a run, at plain arguments. -/
theorem fok_v {P : Program} (hm : P.follows .mixedOrders = true) {f : FuncId} {S : FSpec}
    (hr : ∀ g vs A, S.pre g vs A → ∃ C Λ n, CTSound P C ∧ LTSound P Λ ∧ Run P C Λ n f (vs.map SV.v) A (endP S g vs A)) : FOk P f S :=
  fok_of_run hm fun g vs A hp => by
    obtain ⟨C, Λ, n, h1, h2, h3⟩ := hr g vs A hp
    exact ⟨C, Λ, n, _, h1, h2, plainVs_v vs, fun ρ x hx => by obtain ⟨v, _, rfl⟩ := List.mem_map.1 hx; trivial, h3⟩

theorem fok_k {P : Program} (hm : P.follows .mixedOrders = true) {f : FuncId} {S : FSpec}
    (hr : ∀ g vs A, S.pre g vs A → ∃ C Λ n, CTSound P C ∧ LTSound P Λ ∧ Run P C Λ n f (vs.map SV.v) A (endK S g vs A)) : FOk P f S :=
  fok_of_end hm (fun _ _ _ _ _ h => h) (fun _ => false) fun g vs A hp => by
    obtain ⟨C, Λ, n, h1, h2, h3⟩ := hr g vs A hp
    exact ⟨C, Λ, n, _, h1, h2, plainVs_v vs, fun ρ x hx => by obtain ⟨v, _, rfl⟩ := List.mem_map.1 hx; trivial, h3⟩

/-- The same, where variables of some types are laid in the arena. -/
theorem fok_a {P : Program} (hm : P.follows .mixedOrders = true) {f : FuncId} {S : FSpec} (al : TypeId → Bool)
    (hr : ∀ g vs A, S.pre g vs A → ∃ C Λ n, CTSound P C ∧ LTSound P Λ ∧ Run P C Λ n f (vs.map SV.v) A (endP S g vs A) al) : FOk P f S :=
  fok_of_end hm (fun _ _ _ _ _ h => endP_end h) al fun g vs A hp => by
    obtain ⟨C, Λ, n, h1, h2, h3⟩ := hr g vs A hp
    exact ⟨C, Λ, n, _, h1, h2, plainVs_v vs, fun ρ x hx => by obtain ⟨v, _, rfl⟩ := List.mem_map.1 hx; trivial, h3⟩

theorem lt1 (x : SV) (h : ∀ ρ n, x.lt ρ n) : ∀ (ρ : Nat → Loc), ∀ z ∈ [x], z.lt ρ 0 := fun _ z hz => by
  simp only [List.mem_singleton] at hz
  subst hz; exact h _ _

theorem lt_plain {l : List SV} (h : ∀ x ∈ l, ∀ ρ n, x.lt ρ n) : ∀ (ρ : Nat → Loc), ∀ z ∈ l, z.lt ρ 0 := fun _ z hz => h z hz _ _

theorem lts_v (ρ : Nat → Loc) (n : Nat) (vs : List Value) : SV.lts ρ n (vs.map SV.v) := lts_iff.2 fun x hx => by
  obtain ⟨v, _, rfl⟩ := List.mem_map.1 hx
  trivial

/-- A new block of known type joins the arena. -/
theorem HRel.grow {ρ : Nat → Loc} {h : HS} {w : World} (R : HRel ρ h w) {b : Nat} {cs : List SV} {τ : Nat} (hb : h.H.get b = some (.cells cs 0 (τ + 1))) :
    ∃ A' c t fz, (ρ b).off = 0 ∧ h.M.A.Sub A' ∧ h.M.A.blk (ρ b).blk = none ∧ A'.blk (ρ b).blk = some (.cells c t fz) ∧ Fz c.size fz ∧ c.toList = cs.map (SV.den ρ) ∧
      (∀ k o, A'.blk k = some o → w.heap[k]? = some o) ∧ ∀ k o, A'.blk k = some o → (∃ o', h.M.A.blk k = some o') ∨ ∃ b B, h.H.get b = some B ∧ (ρ b).blk = k := by
  obtain ⟨c, t, fz, h1, h2, _, _, h5, h6⟩ := (R.blk b _ hb).2.2
  have hA := R.aprA b _ hb
  rcases h6 with h6 | ⟨_, h7, h8⟩
  · omega
  · have h9 := h8 rfl
    refine ⟨Arena.of fun k => if k = (ρ b).blk then some (.cells c t fz) else h.M.A.blk k, c, t, fz, h7, fun k o hk => ?_, hA, ?_, h5, ?_, fun k o hk => ?_, fun k o hk => ?_⟩
    · show (if k = (ρ b).blk then some (.cells c t fz) else h.M.A.blk k) = some o
      rw [if_neg (fun e => by rw [e, hA] at hk; cases hk)]; exact hk
    · show (if (ρ b).blk = (ρ b).blk then some (.cells c t fz) else h.M.A.blk _) = _
      rw [if_pos rfl]
    · refine List.ext_getElem? fun i => ?_
      by_cases hi : i < cs.length
      · have := h2 i cs[i] (List.getElem?_eq_getElem hi)
        rw [h7, Nat.zero_add] at this
        rw [List.getElem?_map, List.getElem?_eq_getElem hi, Array.getElem?_toList, this]; rfl
      · rw [List.getElem?_eq_none (by rw [Array.length_toList]; omega), List.getElem?_eq_none (by rw [List.length_map]; omega)]
    · have hk' : (if k = (ρ b).blk then some (.cells c t fz) else h.M.A.blk k) = some o := hk
      split at hk'
      · rename_i e
        subst e
        rw [h1]; exact hk'
      · exact R.are k o hk'
    · have hk' : (if k = (ρ b).blk then some (.cells c t fz) else h.M.A.blk k) = some o := hk
      split at hk'
      · rename_i e
        exact .inr ⟨b, _, hb, e.symm⟩
      · exact .inl ⟨o, hk'⟩

end
end Go.Sx

namespace Go.Proofs.YthbaimobihmhiaaGreatDoor
open Go.Sx Go.RowKit
noncomputable section
open Classical

theorem wrapI {n : Int} (h0 : -9223372036854775808 ≤ n) (h1 : n ≤ 9223372036854775807) : IntKind.i64.wrap n = n := by
  simp only [IntKind.wrap, IntKind.bits, IntKind.signed]
  simp
  omega

theorem split_nd {p : Prop} {i : Decidable p} {A B : Bool} (h1 : p → B = true) (h2 : ¬ p → A = true) : (bif !(decide p) then A else B) = true := by
  by_cases h : p
  · rw [decide_eq_true h]; exact h1 h
  · rw [decide_eq_false h]; exact h2 h

theorem mixed : Tryz.prog.follows .mixedOrders = true := by kernel_rfl

/-- A loop over the places of a row, that reads only: slot s counts. -/
def cnt (A : Arena) (s : Nat) (keep keepB : List Nat) (n : Nat) (p : Nat → Prop) : LInv := { γ := Nat, G := fun k => k ≤ n ∧ p k, keepS := keep, keepB := keepB, sl := fun k => [(s, .v (.int .i64 k))], bl := fun _ => [], ar := fun _ => A, mu := fun k => n - k }

theorem inc_slot {k : Nat} (h : k < 9223372036854775807) : some (SV.v (.int .i64 (IntKind.i64.wrap ((k : Int) + 1)))) = some (SV.v (.int .i64 ((k + 1 : Nat) : Int))) := by
  rw [Sx.wrap_i64 (by omega) (by omega)]; rfl

theorem beqL_iff {l m : List UInt8} : beqL l m = true ↔ l = m := by rw [beqL_eq]; simp

theorem beqL_ff {l m : List UInt8} : beqL l m = false ↔ ¬ l = m := by rw [← beqL_iff]; simp

theorem goes_of_calls {P : Program} {f : FuncId} {args : Array Value} {w : World} {Φ : Value → World → Prop} {fn : Func} (hf : P.funcs[f]? = some fn) (h1 : (fn.name == "runtime.NumGoroutine") = false ∧ fn.body.isNone = false)
    (h : Calls P f args w fun e w' => ∃ v, e = .returned v ∧ Φ v w') : CallGoes P f args w Φ fun _ _ => False := by
  refine .inl ⟨fn, hf, h1, fun cs => ?_⟩
  obtain ⟨e, w', fr, k1, k2⟩ := h cs
  exact ⟨e, w', fr, .inl k1, k2⟩

end
end Go.Proofs.YthbaimobihmhiaaGreatDoor

namespace Go.Proofs.YthbaimobihmhiaaGreatDoor
open Go.Sx Go.RowKit
noncomputable section
open Classical

def strV (l : List UInt8) : Value := .string ⟨l.toArray⟩

/-- A slice of texts. -/
def SlT (A : Arena) (v : Value) (l : List (List UInt8)) : Prop := Sl A 1 l.length v (l.map strV) ∧ l.length ≤ 140737488351232

theorem text_at {A : Arena} {g o n : Nat} {ls : List (List UInt8)} (h : A.rd g o (n * 1) = some (ls.map strV)) (k : Nat) (hk : k < ls.length) (hn : n = ls.length) : A.rd g (o + k * 1) 1 = some [.string ⟨ls[k].toArray⟩] := by
  rw [rd_at h (i := k * 1) (m := 1) (by omega)]
  congr 1
  refine List.ext_getElem? fun i => ?_
  cases i with
  | zero => simp [hk, strV]
  | succ i =>
    simp
    omega

end
end Go.Proofs.YthbaimobihmhiaaGreatDoor

namespace Go.Proofs.YthbaimobihmhiaaGreatDoor
open Go.Sx Go.RowKit
noncomputable section
open Classical

theorem wrapI2 (k : Nat) (h : k < 1000000) : IntKind.i64.wrap ((k : Int) + 1) = ((k + 1 : Nat) : Int) := by
  rw [Sx.wrap_i64 (by omega) (by omega)]; rfl

def ctCnt : CT := fun args h K => match args with
  | [.v (.string s), .v (.int .u8 c)] => K (.v (.int .i64 (Lib.countByte s.data.toList c.toNat.toUInt8 : Nat))) h
  | [.str l, .v (.int .u8 c)] => K (.v (.int .i64 (Lib.countByte l c.toNat.toUInt8 : Nat))) h
  | _ => false

set_option maxRecDepth 100000 in
theorem cnt_sound : (⟨117, ctCnt⟩ : CEnt).Ok Tryz.prog := fun args h0 K hk ρ w H hargs => by
  have key : ∀ (s : ByteArray) (c : Int), (callFunc 117 #[.string s, .int .u8 c]).run Tryz.prog w = .ok (.value (.int .i64 (Lib.countByte s.data.toList c.toNat.toUInt8 : Nat))) w := fun s c => by
    rw [run_callFunc_extern Tryz.func117 (by kernel_rfl) (by kernel_rfl) (by kernel_rfl) (e := Extern.BytealgCount.count) (by kernel_rfl), Lib.run_countString]
    rfl
  change ctCnt args h0 K = true at hk
  unfold ctCnt at hk
  split at hk
  · rename_i s c
    exact goes_of_entry (key s c) H hk rfl trivial
  · rename_i l c
    exact goes_of_entry (key ⟨l.toArray⟩ c) H hk rfl trivial
  · exact absurd hk Bool.false_ne_true

def indexS : FSpec := ⟨ByteArray, fun s vs _ => vs = [.string s, .string ⟨#[47]⟩], fun s _ A v A' => A' = A ∧ v = .int .i64 (Lib.index s.data.toList [47])⟩

theorem index_ok : FOk Tryz.prog 107 indexS := by
  intro s vs A w hA hp
  obtain rfl : vs = [.string s, .string ⟨#[47]⟩] := hp
  refine goes_of_calls Tryz.func107 ⟨by kernel_rfl, by kernel_rfl⟩ ?_
  refine (idx2 s w).mono fun e w' ⟨he, hw⟩ => ?_
  subst hw
  exact ⟨_, he, A, ⟨rfl, rfl⟩, rfl, rfl, rfl, fun _ _ _ => rfl, hA, fun k o ho => .inl ⟨o, ho⟩⟩

theorem bnd_to {x : Int} {c k : Nat} (hx : x = k) (hk : k ≤ c) : ((decide ((0 : Int) ≤ 0) && decide ((0 : Int) ≤ x)) && (false || decide (x ≤ (c : Int)))) = true := by
  subst hx
  exact Bool.and_eq_true_iff.2 ⟨Bool.and_eq_true_iff.2 ⟨decide_eq_true (by omega), decide_eq_true (by omega)⟩, Bool.or_eq_true_iff.2 (.inr (decide_eq_true (by omega)))⟩

theorem bnd_from {x : Int} {c k : Nat} {t : Bool} (hx : x = k) (hk : k ≤ c) : ((decide ((0 : Int) ≤ x) && decide (x ≤ (c : Int))) && (true || t)) = true := by
  subst hx
  exact Bool.and_eq_true_iff.2 ⟨Bool.and_eq_true_iff.2 ⟨decide_eq_true (by omega), decide_eq_true (by omega)⟩, rfl⟩

structure SpG where
  i : Nat
  A : Arena
  rest : List UInt8
  parts : List (List UInt8)

structure SpI (A1 : Arena) (g N : Nat) (l : List UInt8) (s : SpG) : Prop where
  num : s.parts.length = s.i
  le : s.i ≤ N - 1
  split : splitL l = s.parts ++ splitL s.rest
  row : ∃ c, s.A.blk g = some (.cells c 9 (0, 0)) ∧ c.size = N ∧ c.toList.take s.i = s.parts.map strV
  oth : ∀ k, k ≠ g → s.A.blk k = A1.blk k
  len : s.rest.length ≤ l.length

def spInv (A1 : Arena) (g N : Nat) (l : List UInt8) : LInv := { γ := SpG, G := SpI A1 g N l, keepS := [1, 2], keepB := [], sl := fun s => [(0, .str s.rest), (3, .v (.int .i64 (N - 1 : Nat))), (9, .v (.slice (some ⟨g, 0, none⟩) N N)), (10, .v (.int .i64 s.i))], bl := fun _ => [], ar := fun s => s.A, mu := fun s => N - s.i }

def genS : FSpec := ⟨List UInt8, fun l vs _ => vs = [strV l, strV [47], .int .i64 0, .int .i64 (-1)] ∧ l.length ≤ 1000,
  fun l _ A v A' => A.Sub A' ∧ Sl (A'.minus A) 1 (splitL l).length v ((splitL l).map strV)⟩

set_option maxRecDepth 100000 in
set_option maxHeartbeats 0 in
theorem gen_ok : FOk Tryz.prog 106 genS := by
  refine fok_of_run mixed fun (l : List UInt8) vs A hp => ?_
  obtain ⟨rfl, hl⟩ : vs = [strV l, strV [47], .int .i64 0, .int .i64 (-1)] ∧ l.length ≤ 1000 := hp
  have hC : CTSound Tryz.prog (lookC [specE 107 indexS, ⟨117, ctCnt⟩] noC) := lookC_sound (noC_sound _) (fun x hx => by
    simp only [List.mem_cons, List.not_mem_nil, or_false] at hx
    rcases hx with rfl | rfl
    · exact specE_ok index_ok
    · exact cnt_sound)
  refine ⟨_, tabO Tryz.prog _ noL 60 [(106, 0)], 60, [.str l, .str [47], .v (.int .i64 0), .v (.int .i64 (-1))], hC, tabO_sound mixed hC (noL_sound _) _ _, rfl, fun ρ x hx => ?_, fun blk os out tape D hD => ?_⟩
  · simp only [List.mem_cons, List.not_mem_nil, or_false] at hx
    rcases hx with rfl | rfl | rfl | rfl <;> trivial
  conv => lhs; whnf
  have hcnt := splitL_len l
  have hcl : l.count 47 ≤ l.length := List.count_le_length
  have w1 : IntKind.i64.wrap (((Lib.countByte l (((([47] : List UInt8).getD (Int.toNat 0) 0).toNat : Int)).toNat.toUInt8 : Nat) : Int) + 1) = (((splitL l).length : Nat) : Int) := by
    rw [hcnt]; exact wrapI2 (l.count 47) (by omega)
  have w2 : IntKind.i64.wrap ((l.length : Int) + 1) = ((l.length + 1 : Nat) : Int) := wrapI2 l.length (by omega)
  have hM : (bif false then bif decide (IntKind.i64.wrap (((Lib.countByte l (((([47] : List UInt8).getD (Int.toNat 0) 0).toNat : Int)).toNat.toUInt8 : Nat) : Int) + 1) < IntKind.i64.wrap ((l.length : Int) + 1)) then IntKind.i64.wrap ((l.length : Int) + 1) else IntKind.i64.wrap (((Lib.countByte l (((([47] : List UInt8).getD (Int.toNat 0) 0).toNat : Int)).toNat.toUInt8 : Nat) : Int) + 1)
      else bif decide (IntKind.i64.wrap ((l.length : Int) + 1) < IntKind.i64.wrap (((Lib.countByte l (((([47] : List UInt8).getD (Int.toNat 0) 0).toNat : Int)).toNat.toUInt8 : Nat) : Int) + 1)) then IntKind.i64.wrap ((l.length : Int) + 1) else IntKind.i64.wrap (((Lib.countByte l (((([47] : List UInt8).getD (Int.toNat 0) 0).toNat : Int)).toNat.toUInt8 : Nat) : Int) + 1)) = (((splitL l).length : Nat) : Int) := by
    rw [w1, w2, decide_eq_false (show ¬ ((l.length + 1 : Nat) : Int) < (((splitL l).length : Nat) : Int) by omega)]; rfl
  have hMn := congrArg Int.toNat hM
  rw [Int.toNat_natCast] at hMn
  refine (hD _).2 ⟨Int.le_trans (Int.natCast_nonneg _) (Int.le_of_eq hM.symm), Int.le_refl _, Int.le_trans (Int.le_of_eq hM) (by omega), ?_, rfl, fun g A1 c hc hN => ?_⟩
  · refine Nat.le_trans (Nat.mul_le_mul_left 16 (Nat.le_of_eq hMn)) ?_
    omega
  have hN : A.New A1 g c 9 := hN
  conv => lhs; whnf
  obtain ⟨N, hN0⟩ : ∃ N, N = (splitL l).length := ⟨_, rfl⟩
  rw [← hN0] at hM hMn hcnt
  have hc : c.toList = (List.replicate N [Value.string ⟨#[]⟩]).flatten := hc.trans (congrArg (fun z => (List.replicate z [Value.string ⟨#[]⟩]).flatten) hMn)
  have hcs : c.size = N := by
    have h := congrArg List.length hc
    simpa using h
  have hn1 : IntKind.i64.wrap ((N : Int) - 1) = ((N - 1 : Nat) : Int) := by
    rw [Sx.wrap_i64 (by omega) (by omega)]; omega
  have hI0 : SpI A1 g N l ⟨0, A1, l, []⟩ := ⟨rfl, by show 0 ≤ N - 1; omega, rfl, ⟨c, hN.at_, hcs, rfl⟩, fun _ _ => rfl, Nat.le_refl _⟩
  refine (hD _).2 ⟨spInv A1 g N l, ⟨(⟨0, A1, l, []⟩ : SpG), hI0, ⟨rfl, congrArg (fun z : Int => some (SV.v (.int .i64 z))) ((congrArg (fun z : Int => IntKind.i64.wrap (z - 1)) hM).trans hn1), congrArg (fun z : Nat => some (SV.v (.slice (some ⟨g, 0, none⟩) z z))) hMn, rfl, trivial⟩, trivial, rfl⟩, fun (s : SpG) hG => ⟨⟨trivial, trivial, trivial, trivial, trivial⟩, trivial, ?_⟩⟩
  obtain ⟨i, Ai, rest, parts⟩ := s
  obtain ⟨hpl, hi, hsp, ⟨ci, hci, hcis, hcit⟩, hoth, hrl⟩ : SpI A1 g N l ⟨i, Ai, rest, parts⟩ := hG
  dsimp only at hpl hi hsp hci hcis hcit hoth hrl
  have hroom : ∀ n, i + n ≤ N → Ai.Room g (0 + i * 1) n := fun n hn => ⟨ci, _, _, hci, by omega, .inl rfl⟩
  conv => lhs; whnf
  refine split_dec (fun hlt => ?_) (fun hlt => ?_) <;> (conv => lhs; whnf)
  · have hi1 : i < N - 1 := by
      have hlt : (i : Int) < ((N - 1 : Nat) : Int) := hlt
      omega
    have h2 : 2 ≤ (splitL rest).length := by
      have := congrArg List.length hsp
      rw [List.length_append] at this
      omega
    obtain ⟨a, b, hab, hix, hsr⟩ := splitL_step h2
    have hal : rest.length = a.length + 1 + b.length := by rw [hab]; simp; omega
    refine (hD _).2 ⟨(⟨rest.toArray⟩ : ByteArray), rfl, fun v A9 hq => ?_⟩
    have hq : A9 = Ai ∧ v = .int .i64 (Lib.index rest [47]) := hq
    have h9 := hq.1.symm
    have hv := hq.2
    rw [hix] at hv
    subst h9
    subst hv
    conv => lhs; whnf
    have hx1 : IntKind.i64.wrap ((a.length : Int) + 0) = ((a.length : Nat) : Int) := by
      rw [Int.add_zero, Sx.wrap_i64 (by omega) (by omega)]
    have hx2 : IntKind.i64.wrap ((a.length : Int) + 1) = ((a.length + 1 : Nat) : Int) := wrapI2 a.length (by omega)
    refine go_b (bnd_to hx1 (show a.length ≤ rest.length by omega)) ?_
    conv => lhs; whnf
    have i0 : (0 : Int) ≤ (i : Int) ∧ (i : Int) < (N : Int) := by omega
    refine go_in i0 ?_
    conv => lhs; whnf
    refine (hD _).2 ⟨hroom 1 (by omega), fun A7 hP => ?_⟩
    have hP : Ai.Put A7 g (0 + i * 1) [.string ⟨((rest.drop 0).take ((IntKind.i64.wrap ((a.length : Int) + 0)).toNat - 0)).toArray⟩] := hP
    have hta : (rest.drop 0).take ((IntKind.i64.wrap ((a.length : Int) + 0)).toNat - 0) = a := by
      rw [hx1, Int.toNat_natCast, Nat.sub_zero, List.drop_zero, hab, List.take_left']
      rfl
    rw [hta] at hP
    conv => lhs; whnf
    refine go_b (bnd_from hx2 (show a.length + 1 ≤ rest.length by omega)) ?_
    conv => lhs; whnf
    have hrest : (rest.drop (IntKind.i64.wrap ((a.length : Int) + 1)).toNat).take (rest.length - (IntKind.i64.wrap ((a.length : Int) + 1)).toNat) = b := by
      rw [hx2, Int.toNat_natCast, hab]
      simp
      exact List.take_of_length_le (by omega)
    have hI : SpI A1 g N l ⟨i + 1, A7, b, parts ++ [a]⟩ := by
      obtain ⟨c0, t0, fz0, c7, k1, k2, k3⟩ := hP.at_
      rw [hci] at k1
      injection k1 with k1
      injection k1 with k1 k1' k1''
      subst k1; subst k1'; subst k1''
      refine ⟨by show (parts ++ [a]).length = i + 1; rw [List.length_append, hpl]; rfl, by show i + 1 ≤ N - 1; omega, by show splitL l = (parts ++ [a]) ++ splitL b; rw [hsp, hsr]; simp, ⟨c7, k2, ?_, ?_⟩, fun k hk => (hP.other k hk).trans (hoth k hk), by show b.length ≤ l.length; omega⟩
      · rw [← Array.length_toList, k3]
        simp only [List.length_append, List.length_take, List.length_drop, Array.length_toList, List.length_singleton]
        omega
      · show c7.toList.take (i + 1) = (parts ++ [a]).map strV
        have e : 0 + i * 1 = i := by omega
        rw [k3, e, List.map_append, ← hcit, List.take_append_of_le_length (by simp; omega)]
        rw [List.take_of_length_le (by simp; omega)]
        rfl
    exact (hD _).2 ⟨(⟨i + 1, A7, b, parts ++ [a]⟩ : SpG), ⟨hI, ⟨congrArg (fun z => some (SV.str z)) hrest, rfl, rfl, inc_slot (k := i) (by omega), trivial⟩, trivial, rfl⟩, by show N - (i + 1) < N - i; omega, ⟨same1 rfl rfl, same1 rfl rfl, trivial⟩, trivial⟩
  · have hi1 : i = N - 1 := by
      have hlt : ¬ (i : Int) < ((N - 1 : Nat) : Int) := hlt
      omega
    have hone : splitL rest = [rest] := by
      have h1 : (splitL rest).length = 1 := by
        have := congrArg List.length hsp
        rw [List.length_append] at this
        omega
      rcases index_cases rest with ⟨_, h2⟩ | ⟨a, b, h1', h2, h3⟩
      · exact splitL_none rest h2
      · rw [h1', splitL_cut a b h2, List.length_cons] at h1
        have := splitL_len b
        omega
    have i0 : (0 : Int) ≤ (i : Int) ∧ (i : Int) < (N : Int) := by omega
    refine go_in i0 ?_
    conv => lhs; whnf
    refine (hD _).2 ⟨hroom 1 (by omega), fun A7 hP => ?_⟩
    have hP : Ai.Put A7 g (0 + i * 1) [.string ⟨rest.toArray⟩] := hP
    conv => lhs; whnf
    have hx3 : IntKind.i64.wrap ((i : Int) + 1) = ((N : Nat) : Int) := by
      rw [wrapI2 i (by omega)]; omega
    have hend : genS.post l [strV l, strV [47], .int .i64 0, .int .i64 (-1)] A (.slice (some ⟨g, 0 + bif Nat.beq N 0 then 0 else 0 * 1, none⟩) ((IntKind.i64.wrap ((i : Int) + 1)).toNat - 0) (N - 0)) A7 := by
      have e0 : (0 + bif Nat.beq N 0 then 0 else 0 * 1) = 0 := by cases Nat.beq N 0 <;> rfl
      rw [hx3, Int.toNat_natCast, Nat.sub_zero, e0]
      have hg := hN.none_
      refine ⟨fun k o hk => ?_, ?_⟩
      · have hkg : k ≠ g := fun e => by rw [e, hg] at hk; cases hk
        rw [hP.other k hkg, hoth k hkg]
        exact hN.sub k o hk
      · obtain ⟨c0, t0, fz0, c7, k1, k2, k3⟩ := hP.at_
        rw [hci] at k1
        injection k1 with k1
        injection k1 with k1 k1' k1''
        subst k1; subst k1'; subst k1''
        have e : 0 + i * 1 = i := by omega
        have hl7 : c7.toList = (splitL l).map strV := by
          rw [k3, e, hcit, hsp, hone, List.map_append, List.drop_eq_nil_of_le (by simp; omega), List.append_nil]
          rfl
        have hs7 : c7.size = N := by rw [← Array.length_toList, hl7, List.length_map, hN0]
        show Sl (A7.minus A) 1 (splitL l).length _ _
        rw [← hN0]
        refine Sl.row (Nat.le_refl _) (rd_minus ?_ hg)
        rw [rd_mk k2 (by omega), List.drop_zero, Nat.mul_one, ← hl7, List.take_of_length_le (by rw [Array.length_toList]; omega)]
    refine go_b (bnd_to hx3 (Nat.le_refl _)) ?_
    conv => lhs; whnf
    exact (hD _).2 hend

def splitS : FSpec := ⟨List UInt8, fun l vs _ => vs = [strV l, strV [47]] ∧ l.length ≤ 1000,
  fun l _ A v A' => A.Sub A' ∧ Sl (A'.minus A) 1 (splitL l).length v ((splitL l).map strV)⟩

set_option maxRecDepth 100000 in
set_option maxHeartbeats 0 in
theorem split_ok : FOk Tryz.prog 99 splitS := by
  refine fok_v mixed fun (l : List UInt8) vs A hp => ?_
  obtain ⟨rfl, hl⟩ : vs = [.string ⟨l.toArray⟩, .string ⟨#[47]⟩] ∧ l.length ≤ 1000 := hp
  have hC : CTSound Tryz.prog (lookC [specE 106 genS] noC) := lookC_sound (noC_sound _) (fun x hx => by
    simp only [List.mem_singleton] at hx
    subst hx; exact specE_ok gen_ok)
  refine ⟨_, noL, 60, hC, noL_sound _, fun blk os out tape D hD => ?_⟩
  conv => lhs; whnf
  refine (hD _).2 ⟨l, ⟨rfl, hl⟩, fun v A' hq => ?_⟩
  have hq : splitS.post l [.string ⟨l.toArray⟩, .string ⟨#[47]⟩] A v A' := hq
  conv => lhs; whnf
  exact (hD _).2 hq

end
end Go.Proofs.YthbaimobihmhiaaGreatDoor

namespace Go.Proofs.YthbaimobihmhiaaGreatDoor
open Go.Sx Go.RowKit
noncomputable section
open Classical

theorem part_badL {l : List UInt8} {k : Nat} (hk : k < l.length) (h : okByte l[k] = false) : partOk l = false := by
  have : l.all okByte = false := by
    rw [List.all_eq_false]
    exact ⟨l[k], List.getElem_mem hk, by simp [h]⟩
  unfold partOk
  rw [this]; rfl

def refPartS : FSpec := ⟨ByteArray, fun s vs _ => vs = [.string s] ∧ s.data.toList.length ≤ 140737488351232, fun s _ A v A' => A' = A ∧ v = .bool (partOk s.data.toList)⟩

set_option maxRecDepth 100000 in
set_option maxHeartbeats 0 in
theorem refPart_ok : FOk Tryz.prog 100 refPartS := by
  refine fok_v mixed fun (s : ByteArray) vs A hp => ?_
  obtain ⟨rfl, hsz⟩ : vs = [.string s] ∧ s.data.toList.length ≤ 140737488351232 := hp
  refine ⟨noC, tabO Tryz.prog noC noL 60 [(100, 0)], 60, noC_sound _, tabO_sound mixed (noC_sound _) (noL_sound _) _ _, fun blk os out tape D hD => ?_⟩
  conv => lhs; whnf
  refine (hD _).2 ⟨cnt A 3 [0] [] s.data.toList.length fun k => (s.data.toList.take k).all okByte = true, ⟨(0 : Nat), ⟨Nat.zero_le _, by simp⟩, ⟨rfl, trivial⟩, trivial, rfl⟩, fun (k : Nat) hk => ⟨⟨trivial, trivial⟩, trivial, ?_⟩⟩
  simp only [cnt] at hk
  obtain ⟨hkl, hall⟩ := hk
  conv => lhs; whnf
  refine split_dec (fun hlt => ?_) (fun hlt => ?_) <;> (conv => lhs; whnf)
  · have hkl2 : k < s.data.toList.length := by
      have hlt : (k : Int) < (s.data.toList.length : Int) := hlt
      omega
    have i0 : (0 : Int) ≤ (k : Int) ∧ (k : Int) < (s.data.toList.length : Int) := by omega
    refine go_in i0 ?_
    conv => lhs; whnf
    have hg : s.data.toList.getD ((k : Nat) : Int).toNat 0 = s.data.toList[k] := by
      rw [Int.toNat_natCast, List.getD_eq_getElem?_getD, List.getElem?_eq_getElem hkl2]; rfl
    have hbad : okByte s.data.toList[k] = false → refPartS.post s [.string s] A (.bool false) A := fun hb => ⟨rfl, by rw [part_badL hkl2 hb]⟩
    refine split_dec (fun h1 => ?_) (fun h1 => ?_) <;> (conv => lhs; whnf)
    · rw [hg] at h1
      exact (hD _).2 (hbad (by unfold okByte; rw [decide_eq_false (by omega)]; rfl))
    repeat (refine go_in i0 ?_
            conv => lhs; whnf)
    refine split_dec (fun h2 => ?_) (fun h2 => ?_) <;> (conv => lhs; whnf)
    · rw [hg] at h2
      exact (hD _).2 (hbad (by unfold okByte; rw [decide_eq_false (p := (s.data.toList[k]).toNat ≤ 126) (by omega), Bool.and_false]; rfl))
    repeat (refine go_in i0 ?_
            conv => lhs; whnf)
    refine split_dec (fun h3 => ?_) (fun h3 => ?_) <;> (conv => lhs; whnf)
    · rw [hg] at h3
      have e : s.data.toList[k] = 47 := UInt8.toNat_inj.1 (Int.ofNat.inj h3)
      exact (hD _).2 (hbad (by rw [e]; rfl))
    rw [hg] at h1 h2 h3
    have hok : okByte s.data.toList[k] = true := by
      have e : s.data.toList[k] ≠ 47 := fun e => h3 (by rw [e]; rfl)
      unfold okByte
      rw [decide_eq_true (by omega), decide_eq_true (by omega)]
      simpa using e
    refine (hD _).2 ⟨(k + 1 : Nat), ⟨⟨by omega, ?_⟩, ⟨inc_slot (by omega), trivial⟩, trivial, rfl⟩, by show s.data.toList.length - (k + 1) < s.data.toList.length - k; omega, ⟨same1 rfl rfl, trivial⟩, trivial⟩
    show (s.data.toList.take (k + 1)).all okByte = true
    rw [List.take_succ_eq_append_getElem hkl2, List.all_append, hall]
    simpa using hok
  · have e : k = s.data.toList.length := by
      have hlt : ¬ (k : Int) < (s.data.toList.length : Int) := hlt
      omega
    rw [e, List.take_length] at hall
    have hend : ∀ b, b = (!s.data.toList.isEmpty && !(s.data.toList == [46]) && !(s.data.toList == [46, 46])) → refPartS.post s [.string s] A (.bool b) A := fun b hb => ⟨rfl, by rw [hb, partOk, hall, Bool.true_and]⟩
    refine split_b (fun h1 => ?_) (fun h1 => ?_) <;> (conv => lhs; whnf)
    rotate_left
    · have h1 : (!beqL s.data.toList []) = false := h1
      have e : s.data.toList = [] := beqL_iff.1 (by simpa using h1)
      exact (hD _).2 (hend false (by rw [e]; rfl))
    have h1 : (!beqL s.data.toList []) = true := h1
    have e1 : s.data.toList.isEmpty = false := by
      cases h : s.data.toList with
      | nil => rw [h] at h1; exact absurd h1 (by decide)
      | cons x xs => rfl
    refine split_b (fun h2 => ?_) (fun h2 => ?_) <;> (conv => lhs; whnf)
    rotate_left
    · have h2 : (!beqL s.data.toList [46]) = false := h2
      have e : s.data.toList = [46] := beqL_iff.1 (by simpa using h2)
      exact (hD _).2 (hend false (by rw [e]; rfl))
    have h2 : (!beqL s.data.toList [46]) = true := h2
    rw [beqL_eq] at h2
    have hfin := hend (!beqL s.data.toList [46, 46]) (by rw [beqL_eq, e1, h2]; rfl)
    exact (hD _).2 hfin

end
end Go.Proofs.YthbaimobihmhiaaGreatDoor

namespace Go.Proofs.YthbaimobihmhiaaGreatDoor
open Go.Sx Go.RowKit
noncomputable section
open Classical

/-- The parts of a right path. -/
def partsL (l : List UInt8) : List (List UInt8) := if pathOk l = true ∧ l ≠ [47] then splitL (l.drop 1) else []

theorem splitL_mem_len : ∀ (l y : List UInt8), y ∈ splitL l → y.length ≤ l.length
  | [], y, h => by
    simp only [splitL, List.mem_singleton] at h
    subst h; simp
  | b :: l, y, h => by
    have ih := splitL_mem_len l
    simp only [splitL] at h
    cases hb : b == 47 with
    | true =>
      rw [hb] at h
      simp only [cond_true] at h
      rcases List.mem_cons.1 h with e | h
      · subst e; simp
      · have := ih y h; simp; omega
    | false =>
      rw [hb] at h
      simp only [cond_false] at h
      cases hs : splitL l with
      | nil => exact absurd hs (splitL_ne l)
      | cons x xs =>
        rw [hs] at h
        simp only at h
        rcases List.mem_cons.1 h with e | h
        · subst e
          have := ih x (by rw [hs]; simp)
          simp; omega
        · have := ih y (by rw [hs]; simp [h])
          simp; omega

def refPartsS : FSpec := ⟨ByteArray, fun s vs _ => vs = [.string s] ∧ s.data.toList.length ≤ 140737488351232,
  fun s _ A v A' => A.Sub A' ∧ ∃ x, v = .tuple #[x, .bool (pathOk s.data.toList)] ∧ Sl (A'.minus A) 1 (partsL s.data.toList).length x ((partsL s.data.toList).map strV)⟩

set_option maxRecDepth 100000 in
set_option maxHeartbeats 0 in
theorem refParts_ok : FOk Tryz.prog 81 refPartsS := by
  refine fok_v mixed fun (s : ByteArray) vs A hp => ?_
  obtain ⟨rfl, hsz⟩ : vs = [.string s] ∧ s.data.toList.length ≤ 140737488351232 := hp
  have hC : CTSound Tryz.prog (lookC [specE 99 splitS, specE 100 refPartS] noC) := lookC_sound (noC_sound _) (fun x hx => by
    simp only [List.mem_cons, List.not_mem_nil, or_false] at hx
    rcases hx with rfl | rfl
    · exact specE_ok split_ok
    · exact specE_ok refPart_ok)
  refine ⟨_, tabO Tryz.prog _ noL 60 [(81, 0)], 60, hC, tabO_sound mixed hC (noL_sound _) _ _, fun blk os out tape D hD => ?_⟩
  obtain ⟨l, hl⟩ : ∃ l, l = s.data.toList := ⟨_, rfl⟩
  have hbad2 : ∀ A2, A.Sub A2 → pathOk l = false → refPartsS.post s [.string s] A (.tuple #[.slice none 0 0, .bool false]) A2 := fun A2 h2 hb => by
    refine ⟨h2, .slice none 0 0, by rw [← hl, hb], ?_⟩
    have e : partsL s.data.toList = [] := by rw [← hl, partsL, if_neg (by rw [hb]; simp)]
    rw [e]
    exact Sl.nil _ _
  have hbad := hbad2 A (Arena.Sub.refl _)
  conv => lhs; whnf
  refine split_dec (fun h1 => ?_) (fun h1 => ?_) <;> (conv => lhs; whnf)
  · have h1 : (200 : Int) < (s.data.toList.length : Int) := h1
    exact (hD _).2 (hbad (pathOk_no fun q e => by
      have := congrArg List.length e
      rw [List.length_cons, hl] at this
      omega))
  refine split_dec (fun h2 => ?_) (fun h2 => ?_) <;> (conv => lhs; whnf)
  · have h2 : (s.data.toList.length : Int) = 0 := h2
    exact (hD _).2 (hbad (pathOk_no fun q e => by
      have := congrArg List.length e
      rw [List.length_cons, hl] at this
      omega))
  have hlen : s.data.toList.length ≤ 200 := by
    have h1 : ¬ (200 : Int) < (s.data.toList.length : Int) := h1
    omega
  have hpos : 0 < s.data.toList.length := by
    have h2 : ¬ (s.data.toList.length : Int) = 0 := h2
    omega
  have i00 : (0 : Int) ≤ (0 : Int) ∧ (0 : Int) < (s.data.toList.length : Int) := by omega
  refine go_in i00 ?_
  conv => lhs; whnf
  obtain ⟨b, q, hbq⟩ : ∃ b q, s.data.toList = b :: q := by
    cases h : s.data.toList with
    | nil => rw [h] at hpos; exact absurd hpos (Nat.lt_irrefl _)
    | cons b q => exact ⟨b, q, rfl⟩
  have hg0 : s.data.toList.getD (Int.toNat 0) 0 = b := by rw [hbq]; rfl
  refine split_b (fun h3 => ?_) (fun h3 => ?_) <;> (conv => lhs; whnf)
  · have h3 : (!decide (((s.data.toList.getD (Int.toNat 0) 0).toNat : Int) = 47)) = true := h3
    rw [hg0] at h3
    refine (hD _).2 (hbad (pathOk_no fun q' e => ?_))
    rw [hl, hbq] at e
    injection e with e
    rw [e] at h3
    exact absurd h3 (by decide)
  have hb : b = 47 := by
    have h3 : (!decide (((s.data.toList.getD (Int.toNat 0) 0).toNat : Int) = 47)) = false := h3
    rw [hg0] at h3
    have h4 : ((b.toNat : Nat) : Int) = 47 := by simpa using h3
    exact UInt8.toNat_inj.1 (Int.ofNat.inj h4)
  rw [hb] at hbq
  refine split_b (fun h4 => ?_) (fun h4 => ?_) <;> (conv => lhs; whnf)
  · have h4 : s.data.toList = [47] := beqL_iff.1 h4
    have hend : refPartsS.post s [.string s] A (.tuple #[.slice none 0 0, .bool true]) A := by
      refine ⟨Arena.Sub.refl _, .slice none 0 0, by rw [h4]; rfl, ?_⟩
      have e : partsL s.data.toList = [] := by rw [partsL, if_neg (by simp [h4])]
      rw [e]
      exact Sl.nil _ _
    exact (hD _).2 hend
  have hq0 : q ≠ [] := fun e => by
    have h4 : ¬ s.data.toList = [47] := beqL_ff.1 h4
    exact h4 (by rw [hbq, e])
  have hqe : (s.data.toList.drop 1).take (s.data.toList.length - 1) = q := by
    rw [hbq]
    simp
  have hql : q.length ≤ 199 := by
    rw [hbq, List.length_cons] at hlen
    omega
  refine go_b (bnd_from (x := 1) (k := 1) rfl (show 1 ≤ s.data.toList.length by omega)) ?_
  conv => lhs; whnf
  refine (hD _).2 ⟨(s.data.toList.drop 1).take (s.data.toList.length - 1), ⟨rfl, by rw [hqe]; omega⟩, fun v A1 hq => ?_⟩
  have hq : A.Sub A1 ∧ Sl (A1.minus A) 1 (splitL ((s.data.toList.drop 1).take (s.data.toList.length - 1))).length v ((splitL ((s.data.toList.drop 1).take (s.data.toList.length - 1))).map strV) := hq
  rw [hqe] at hq
  obtain ⟨ps, hps⟩ : ∃ ps, ps = splitL q := ⟨_, rfl⟩
  have hpl : ps.length ≤ 200 := by
    rw [hps, splitL_len]
    have := List.count_le_length (a := (47 : UInt8)) (l := q)
    omega
  rw [← hps] at hq
  obtain ⟨s1, hS⟩ := hq
  have hS0 := hS
  obtain ⟨ao, c, rfl, hc, hsl, ha1, ha2, ha3⟩ := hS
  conv => lhs; whnf
  have hpk : pathOk l = ps.all partOk := by
    have e : q.isEmpty = false := by
      cases q with
      | nil => exact absurd rfl hq0
      | cons x xs => rfl
    rw [hl, hbq]
    show (decide (q.length < 200) && restOk q) = _
    rw [decide_eq_true (by omega), restOk, e, hps]
    rfl
  refine (hD _).2 ⟨cnt A1 5 [0, 4] [] ps.length fun k => (ps.take k).all partOk = true, ⟨(0 : Nat), ⟨Nat.zero_le _, by simp⟩, ⟨rfl, trivial⟩, trivial, rfl⟩, fun (k : Nat) hk => ⟨⟨trivial, trivial⟩, trivial, ?_⟩⟩
  simp only [cnt] at hk
  obtain ⟨hkl, hall⟩ := hk
  conv => lhs; whnf
  refine split_dec (fun hlt => ?_) (fun hlt => ?_) <;> (conv => lhs; whnf)
  · have hkl2 : k < ps.length := by
      have hlt : (k : Int) < (ps.length : Int) := hlt
      omega
    obtain ⟨g, o, rfl, hra⟩ := Sl.at_ hc ha1 ha2 ha3 (by omega)
    have r1 := rd_sub (minus_sub A A1) (text_at hra k hkl2 rfl)
    have i0 : (0 : Int) ≤ (k : Int) ∧ (k : Int) < (ps.length : Int) := by omega
    repeat (first | refine go_in i0 ?_ | refine go_rd r1 ?_
            conv => lhs; whnf)
    have hpkl : ps[k].length ≤ 1000 := by
      have h1 : ∀ (l : List UInt8) (y : List UInt8), y ∈ splitL l → y.length ≤ l.length := splitL_mem_len
      have := h1 q ps[k] (by rw [← hps]; exact List.getElem_mem _)
      omega
    refine (hD _).2 ⟨(⟨ps[k].toArray⟩ : ByteArray), ⟨rfl, by show ps[k].length ≤ _; omega⟩, fun v A9 hq => ?_⟩
    have hq : A9 = A1 ∧ v = .bool (partOk ps[k]) := hq
    have h9 := hq.1.symm
    have hv := hq.2
    subst h9
    by_cases hok : partOk ps[k] = true
    rotate_left
    · have hok : partOk ps[k] = false := by simpa using hok
      rw [hok] at hv
      subst hv
      have hend := hbad2 A1 s1 (by
        rw [hpk, List.all_eq_false]
        exact ⟨ps[k], List.getElem_mem _, by simp [hok]⟩)
      conv => lhs; whnf
      exact (hD _).2 hend
    rw [hok] at hv
    subst hv
    conv => lhs; whnf
    refine (hD _).2 ⟨(k + 1 : Nat), ⟨⟨by omega, ?_⟩, ⟨inc_slot (by omega), trivial⟩, trivial, rfl⟩, by show ps.length - (k + 1) < ps.length - k; omega, ⟨same1 rfl rfl, same1 rfl rfl, trivial⟩, trivial⟩
    show (ps.take (k + 1)).all partOk = true
    rw [List.take_succ_eq_append_getElem hkl2, List.all_append, hall]
    simpa using hok
  · have e : k = ps.length := by
      have hlt : ¬ (k : Int) < (ps.length : Int) := hlt
      omega
    rw [e, List.take_length] at hall
    have hend : refPartsS.post s [.string s] A (.tuple #[.slice ao ps.length c, .bool true]) A1 := by
      have hk1 : pathOk s.data.toList = true := by rw [← hl, hpk]; exact hall
      have e2 : partsL s.data.toList = ps := by
        rw [partsL, if_pos ⟨hk1, by rw [hbq]; intro e; injection e with _ e; exact hq0 e⟩, hbq, hps]; rfl
      refine ⟨s1, .slice ao ps.length c, by rw [hk1], ?_⟩
      rw [e2]
      exact hS0
    exact (hD _).2 hend

def refCheckS : FSpec := ⟨ByteArray, fun s vs _ => vs = [.string s] ∧ s.data.toList.length ≤ 140737488351232, fun s _ A v A' => A.Sub A' ∧ v = .bool (pathOk s.data.toList)⟩

theorem refPartsC0 : CTSound Tryz.prog (lookC [specE 81 refPartsS] noC) := lookC_sound (noC_sound _) (fun x hx => by
  simp only [List.mem_singleton] at hx
  subst hx
  exact specE_ok refParts_ok)

set_option maxRecDepth 100000 in
set_option maxHeartbeats 0 in
theorem refCheck_ok : FOk Tryz.prog 67 refCheckS := by
  refine fok_v mixed fun (s : ByteArray) vs A hp => ?_
  obtain ⟨rfl, hsz⟩ : vs = [.string s] ∧ s.data.toList.length ≤ 140737488351232 := hp
  refine ⟨_, noL, 60, refPartsC0, noL_sound _, fun blk os out tape D hD => ?_⟩
  conv => lhs; whnf
  refine (hD _).2 ⟨s, ⟨rfl, hsz⟩, fun v A' hq => ?_⟩
  have hq : A.Sub A' ∧ ∃ x, v = .tuple #[x, .bool (pathOk s.data.toList)] ∧ Sl (A'.minus A) 1 (partsL s.data.toList).length x ((partsL s.data.toList).map strV) := hq
  obtain ⟨s1, x, hv, hS⟩ := hq
  subst hv
  have hend : refCheckS.post s [.string s] A (.bool (pathOk s.data.toList)) A' := ⟨s1, rfl⟩
  conv => lhs; whnf
  exact (hD _).2 hend

end
end Go.Proofs.YthbaimobihmhiaaGreatDoor

namespace Go.Sx
noncomputable section

section
variable {κ α β : Type} [BEq κ]

/-- What stands at a key. -/
def kGet (p : κ) : List (κ × α) → Option α
  | [] => none
  | e :: es => bif p == e.1 then some e.2 else kGet p es

def kPut (p : κ) (x : α) : List (κ × α) → List (κ × α)
  | [] => [(p, x)]
  | e :: es => bif p == e.1 then (p, x) :: es else e :: kPut p x es

def kDel (p : κ) : List (κ × α) → List (κ × α)
  | [] => []
  | e :: es => bif p == e.1 then es else e :: kDel p es

/-- What stands at a key, turned. -/
def kMod (p : κ) (f : α → α) : List (κ × α) → List (κ × α)
  | [] => []
  | e :: es => bif p == e.1 then (e.1, f e.2) :: es else e :: kMod p f es

/-- The same keys, with other values. -/
def kMap (f : α → β) (l : List (κ × α)) : List (κ × β) := l.map fun e => (e.1, f e.2)

theorem kGet_map (f : α → β) (p : κ) : ∀ l : List (κ × α), kGet p (kMap f l) = (kGet p l).map f
  | [] => rfl
  | e :: es => by
    have := kGet_map f p es
    simp only [kMap, List.map_cons, kGet] at this ⊢
    cases hb : p == e.1 <;> simp only [cond_true, cond_false, this, Option.map_some]

theorem kPut_map (f : α → β) (p : κ) (x : α) : ∀ l : List (κ × α), kPut p (f x) (kMap f l) = kMap f (kPut p x l)
  | [] => rfl
  | e :: es => by
    have := kPut_map f p x es
    simp only [kMap, List.map_cons, kPut] at this ⊢
    cases hb : p == e.1 <;> simp only [cond_true, cond_false, this, List.map_cons]

theorem kDel_map (f : α → β) (p : κ) : ∀ l : List (κ × α), kDel p (kMap f l) = kMap f (kDel p l)
  | [] => rfl
  | e :: es => by
    have := kDel_map f p es
    simp only [kMap, List.map_cons, kDel] at this ⊢
    cases hb : p == e.1 <;> simp only [cond_true, cond_false, this, List.map_cons]

theorem kMod_map (f : α → β) (h : α → α) (h' : β → β) (hh : ∀ x, h' (f x) = f (h x)) (p : κ) : ∀ l : List (κ × α), kMod p h' (kMap f l) = kMap f (kMod p h l)
  | [] => rfl
  | e :: es => by
    have := kMod_map f h h' hh p es
    simp only [kMap, List.map_cons, kMod] at this ⊢
    cases hb : p == e.1 <;> simp only [cond_true, cond_false, this, List.map_cons, hh]

theorem kGet_mem {p : κ} {x : α} (hq : ∀ q : κ, (p == q) = true → q = p) : ∀ {l : List (κ × α)}, kGet p l = some x → (p, x) ∈ l
  | [], h => by cases h
  | e :: es, h => by
    simp only [kGet] at h
    cases hb : p == e.1 with
    | true =>
      rw [hb] at h
      injection h with h
      rw [← hq _ hb, ← h]
      exact List.mem_cons_self
    | false => rw [hb] at h; exact List.mem_cons_of_mem _ (kGet_mem hq h)

theorem kGet_none {p : κ} (hr : (p == p) = true) : ∀ {l : List (κ × α)}, kGet p l = none → p ∉ l.map (·.1)
  | [], _ => by simp
  | e :: es, h => by
    simp only [kGet] at h
    cases hb : p == e.1 with
    | true => rw [hb] at h; cases h
    | false =>
      rw [hb] at h
      have := kGet_none hr (l := es) h
      simp only [List.map_cons, List.mem_cons, not_or]
      exact ⟨fun e' => (by rw [← e', hr] at hb; cases hb), this⟩

theorem kPut_none {p : κ} {x : α} : ∀ {l : List (κ × α)}, kGet p l = none → kPut p x l = l ++ [(p, x)]
  | [], _ => rfl
  | e :: es, h => by
    simp only [kGet] at h
    cases hb : p == e.1 with
    | true => rw [hb] at h; cases h
    | false => rw [hb] at h; simp only [kPut, hb, cond_false, kPut_none (l := es) h, List.cons_append]

theorem kDel_none {p : κ} : ∀ {l : List (κ × α)}, kGet p l = none → kDel p l = l
  | [], _ => rfl
  | e :: es, h => by
    simp only [kGet] at h
    cases hb : p == e.1 with
    | true => rw [hb] at h; cases h
    | false => rw [hb] at h; simp only [kDel, hb, cond_false, kDel_none (l := es) h]

theorem kMod_none {p : κ} {f : α → α} : ∀ {l : List (κ × α)}, kGet p l = none → kMod p f l = l
  | [], _ => rfl
  | e :: es, h => by
    simp only [kGet] at h
    cases hb : p == e.1 with
    | true => rw [hb] at h; cases h
    | false => rw [hb] at h; simp only [kMod, hb, cond_false, kMod_none (l := es) h]

theorem kMod_at {p : κ} {f : α → α} {x : α} : ∀ {l : List (κ × α)}, kGet p l = some x → kMod p (fun _ => f x) l = kMod p f l
  | [], h => by cases h
  | e :: es, h => by
    simp only [kGet] at h
    cases hb : p == e.1 with
    | true =>
      rw [hb] at h
      injection h with h
      simp only [kMod, hb, cond_true, h]
    | false => rw [hb] at h; simp only [kMod, hb, cond_false, kMod_at (l := es) h]

/-- Where a key stands, the row is a beginning, that entry, and an end. -/
theorem kGet_split {p : κ} {x : α} (hq : ∀ q : κ, (p == q) = true → q = p) : ∀ {l : List (κ × α)}, kGet p l = some x → ∃ a b, l = a ++ (p, x) :: b ∧ kGet p a = none ∧ (∀ y, kPut p y l = a ++ (p, y) :: b) ∧ kDel p l = a ++ b ∧ ∀ f, kMod p f l = a ++ (p, f x) :: b
  | [], h => by cases h
  | e :: es, h => by
    simp only [kGet] at h
    cases hb : p == e.1 with
    | true =>
      rw [hb] at h
      injection h with h
      have h1 := hq _ hb
      obtain ⟨k, v⟩ := e
      simp only at h h1 hb
      subst h h1
      exact ⟨[], es, rfl, rfl, fun y => (by simp only [kPut, hb, cond_true, List.nil_append]), (by simp only [kDel, hb, cond_true, List.nil_append]), fun f => (by simp only [kMod, hb, cond_true, List.nil_append])⟩
    | false =>
      rw [hb] at h
      obtain ⟨a, b, h1, h2, h3, h4, h5⟩ := kGet_split hq (l := es) h
      exact ⟨e :: a, b, (by rw [h1]; rfl), (by simp only [kGet, hb, cond_false, h2]), fun y => (by simp only [kPut, hb, cond_false, h3, List.cons_append]), (by simp only [kDel, hb, cond_false, h4, List.cons_append]), fun f => (by simp only [kMod, hb, cond_false, h5, List.cons_append])⟩

end

theorem bytes_beq_self (a : ByteArray) : (a == a) = true := by rw [beq_toListBytes]; simp
theorem bytes_key (p : ByteArray) : ∀ q : ByteArray, (p == q) = true → q = p := fun _ h => (bytes_beq h).symm
theorem int_key (p : Int) : ∀ q : Int, (p == q) = true → q = p := fun _ h => (eq_of_beq h).symm

/-! ### As entries of a map -/

section
variable {α : Type} (f : α → Value)

def strL (l : List (ByteArray × α)) : List (Value × Value) := l.map fun e => (.string e.1, f e.2)
def intL (l : List (Int × α)) : List (Value × Value) := l.map fun e => (.int .i64 e.1, f e.2)

theorem strL_alike (p : ByteArray) (l : List (ByteArray × α)) : ∀ e ∈ strL f l, alikeK (.string p) e.1 = true := fun e he => by
  obtain ⟨x, _, rfl⟩ := List.mem_map.1 he
  rfl

theorem intL_alike (p : Int) (l : List (Int × α)) : ∀ e ∈ intL f l, alikeK (.int .i64 p) e.1 = true := fun e he => by
  obtain ⟨x, _, rfl⟩ := List.mem_map.1 he
  rfl

theorem strL_get (p : ByteArray) : ∀ l : List (ByteArray × α), getL (.string p) (strL f l) = (kGet p l).map f
  | [] => rfl
  | e :: es => by
    have := strL_get p es
    simp only [strL, List.map_cons, getL, kGet, keyIs] at this ⊢
    cases hb : p == e.1 <;> simp only [cond_true, cond_false, this, Option.map_some]

theorem strL_put (p : ByteArray) (x : α) : ∀ l : List (ByteArray × α), putL (.string p) (f x) (strL f l) = strL f (kPut p x l)
  | [] => rfl
  | e :: es => by
    have := strL_put p x es
    simp only [strL, List.map_cons, putL, kPut, keyIs] at this ⊢
    cases hb : p == e.1 <;> simp only [cond_true, cond_false, this, List.map_cons]

theorem strL_del (p : ByteArray) : ∀ l : List (ByteArray × α), delL (.string p) (strL f l) = strL f (kDel p l)
  | [] => rfl
  | e :: es => by
    have := strL_del p es
    simp only [strL, List.map_cons, delL, kDel, keyIs] at this ⊢
    cases hb : p == e.1 <;> simp only [cond_true, cond_false, this, List.map_cons]

theorem intL_get (p : Int) : ∀ l : List (Int × α), getL (.int .i64 p) (intL f l) = (kGet p l).map f
  | [] => rfl
  | e :: es => by
    have := intL_get p es
    simp only [intL, List.map_cons, getL, kGet, keyIs] at this ⊢
    cases hb : p == e.1 <;> simp only [cond_true, cond_false, this, Option.map_some]

theorem intL_put (p : Int) (x : α) : ∀ l : List (Int × α), putL (.int .i64 p) (f x) (intL f l) = intL f (kPut p x l)
  | [] => rfl
  | e :: es => by
    have := intL_put p x es
    simp only [intL, List.map_cons, putL, kPut, keyIs] at this ⊢
    cases hb : p == e.1 <;> simp only [cond_true, cond_false, this, List.map_cons]

theorem intL_del (p : Int) : ∀ l : List (Int × α), delL (.int .i64 p) (intL f l) = intL f (kDel p l)
  | [] => rfl
  | e :: es => by
    have := intL_del p es
    simp only [intL, List.map_cons, delL, kDel, keyIs] at this ⊢
    cases hb : p == e.1 <;> simp only [cond_true, cond_false, this, List.map_cons]

end

theorem look_str {A : Arena} {m : Nat} {α : Type} {f : α → Value} {l : List (ByteArray × α)} (h : MapAt A m (strL f l)) (p : ByteArray) : A.look m (.string p) = some ((kGet p l).map f) := by
  rw [look_at h (strL_alike f p l), strL_get]

theorem look_int {A : Arena} {m : Nat} {α : Type} {f : α → Value} {l : List (Int × α)} (h : MapAt A m (intL f l)) (p : Int) : A.look m (.int .i64 p) = some ((kGet p l).map f) := by
  rw [look_at h (intL_alike f p l), intL_get]

/-! ### A block all of whose cells are known -/

def CellsAt (A : Arena) (g : Nat) (L : List Value) : Prop := ∃ c t fz, A.blk g = some (.cells c t fz) ∧ Fz c.size fz ∧ c.toList = L

theorem CellsAt.rd {A : Arena} {g : Nat} {L : List Value} (h : CellsAt A g L) {o n : Nat} (hle : o + n ≤ L.length) : A.rd g o n = some ((L.drop o).take n) := by
  obtain ⟨c, t, fz, h1, _, rfl⟩ := h
  exact rd_mk h1 (by simpa using hle)

theorem CellsAt.room {A : Arena} {g : Nat} {L : List Value} (h : CellsAt A g L) {o n : Nat} (hle : o + n ≤ L.length) : A.Room g o n := by
  obtain ⟨c, t, fz, h1, h2, rfl⟩ := h
  exact ⟨c, t, fz, h1, by simpa using hle, h2⟩

theorem CellsAt.put {A A' : Arena} {g o : Nat} {L vs : List Value} (h : CellsAt A g L) (hP : A.Put A' g o vs) (hle : o + vs.length ≤ L.length) : CellsAt A' g (L.take o ++ vs ++ L.drop (o + vs.length)) := by
  obtain ⟨c, t, fz, h1, h2, rfl⟩ := h
  obtain ⟨c0, t0, fz0, c1, e1, e2, e3⟩ := hP.at_
  rw [h1] at e1
  injection e1 with e1
  injection e1 with e1 e4 e5
  subst e1 e4 e5
  refine ⟨c1, t, fz, e2, ?_, e3⟩
  have : c1.size = c.size := by
    have hl : c1.toList.length = c.toList.length := by
      rw [e3]
      simp only [Array.length_toList] at hle
      simp; omega
    simpa using hl
  rw [this]; exact h2

theorem CellsAt.sub {A A' : Arena} {g : Nat} {L : List Value} (h : CellsAt A g L) (hs : ∀ o, A.blk g = some o → A'.blk g = some o) : CellsAt A' g L := by
  obtain ⟨c, t, fz, h1, h2⟩ := h
  exact ⟨c, t, fz, hs _ h1, h2⟩

theorem CellsAt.new {A A' : Arena} {g : Nat} {c : Array Value} {t : TypeId} (h : A.New A' g c t) : CellsAt A' g c.toList := ⟨c, t, (0, 0), h.at_, .inl rfl, rfl⟩

theorem CellsAt.dom {A : Arena} {g : Nat} {L : List Value} (h : CellsAt A g L) : ∃ o, A.blk g = some o := by
  obtain ⟨c, t, fz, h1, _⟩ := h
  exact ⟨_, h1⟩

/-! ### Two arenas together -/

def Arena.plus (B C : Arena) : Arena := Arena.of fun k => match B.blk k with
  | some o => some o
  | none => C.blk k

theorem plus_blk (B C : Arena) (k : Nat) : (B.plus C).blk k = match B.blk k with
  | some o => some o
  | none => C.blk k := rfl

theorem plus_l (B C : Arena) : B.Sub (B.plus C) := fun k o h => by rw [plus_blk, h]

theorem plus_r {B C : Arena} (h : ∀ k o, C.blk k = some o → B.blk k = none) : C.Sub (B.plus C) := fun k o hk => by rw [plus_blk, h k o hk]; exact hk

theorem plus_cases {B C : Arena} {k : Nat} {o : Obj} (h : (B.plus C).blk k = some o) : B.blk k = some o ∨ (B.blk k = none ∧ C.blk k = some o) := by
  rw [plus_blk] at h
  split at h
  · left; rw [← h]; assumption
  · right; exact ⟨by assumption, h⟩

/-- What is new stands beside what lies in a part of what lay. -/
theorem minus_apart {A A' B : Arena} (h : B.Sub A) : ∀ k o, (A'.minus A).blk k = some o → B.blk k = none := fun k o hk => by
  cases hB : B.blk k with
  | none => rfl
  | some o' =>
    have := (minus_blk hk).1
    rw [h _ _ hB] at this; cases this

end
end Go.Sx

namespace Go.Sx
noncomputable section

structure StatD where
  czxid : Int
  mzxid : Int
  pzxid : Int
  ctime : Int
  mtime : Int
  ver : Int
  cver : Int
  owner : Int
  len : Int
  kids : Int

def StatD.cells (s : StatD) : List Value := [.int .i64 s.czxid, .int .i64 s.mzxid, .int .i64 s.pzxid, .int .i64 s.ctime, .int .i64 s.mtime, .int .i64 s.ver, .int .i64 s.cver, .int .i64 s.owner, .int .i64 s.len, .int .i64 s.kids]

structure NodeD where
  data : List UInt8
  stat : StatD

structure SitD where
  ses : Int
  tmo : Int
  turn : Int

structure TreeD where
  nodes : List (ByteArray × NodeD)
  seats : List (Int × SitD)

def ptrV (g : Nat) : Value := .pointer (some ⟨g, 0, none⟩)
def sitV (s : SitD) : Value := .agg #[.int .i64 s.ses, .int .i64 s.tmo, .int .i64 s.turn]

/-- A node in block g; its data lie in B. -/
def NodeAt (A B : Arena) (g : Nat) (n : NodeD) : Prop := ∃ v, CellsAt A g (v :: n.stat.cells) ∧ SlB B v n.data

/-- A tree in block t; its own blocks are those of O, its nodes' data lie in B. -/
structure TreeR (A B : Arena) (O : Nat → Prop) (t : Nat) (T : TreeD) (m s : Nat) (E : List (ByteArray × Nat × NodeD)) : Prop where
  nodes : T.nodes = kMap (·.2) E
  top : CellsAt A t [.map (some m), .map (some s)]
  nmap : MapAt A m (strL ptrV (kMap (·.1) E))
  smap : MapAt A s (intL sitV T.seats)
  cells : ∀ e ∈ E, NodeAt A B e.2.1 e.2.2
  keys : (E.map (·.1)).Nodup
  ptrs : (E.map (·.2.1)).Nodup
  skeys : (T.seats.map (·.1)).Nodup
  sub : B.Sub A
  own : O t ∧ O m ∧ O s ∧ ∀ e ∈ E, O e.2.1
  off : ∀ k, O k → B.blk k = none
  live : ∀ k, O k → ∃ o, A.blk k = some o
  ne : m ≠ s ∧ ∀ e ∈ E, e.2.1 ≠ t

def TreeAt (A B : Arena) (O : Nat → Prop) (t : Nat) (T : TreeD) : Prop := ∃ m s E, TreeR A B O t T m s E

/-- What a change of a tree leaves. -/
structure Step (A B : Arena) (O : Nat → Prop) (A' B' : Arena) (O' : Nat → Prop) : Prop where
  keep : ∀ k o, A.blk k = some o → ¬ O k → A'.blk k = some o
  dom : ∀ k, A'.blk k = none → A.blk k = none
  own : ∀ k, O' k → O k ∨ A.blk k = none
  sub : B.Sub B'
  new : ∀ k o, B'.blk k = some o → B.blk k = some o ∨ A.blk k = none

theorem Step.refl (A B : Arena) (O : Nat → Prop) : Step A B O A B O := ⟨fun _ _ h _ => h, fun _ h => h, fun _ h => .inl h, Arena.Sub.refl _, fun _ _ h => .inl h⟩

theorem Step.trans {A B A1 B1 A2 B2 : Arena} {O O1 O2 : Nat → Prop} (h : Step A B O A1 B1 O1) (k : Step A1 B1 O1 A2 B2 O2) : Step A B O A2 B2 O2 := by
  refine ⟨fun j o hj hO => k.keep j o (h.keep j o hj hO) fun h1 => ?_, fun j hj => h.dom j (k.dom j hj), fun j hj => ?_, h.sub.trans k.sub, fun j o hj => ?_⟩
  · rcases h.own j h1 with h2 | h2
    · exact hO h2
    · rw [hj] at h2; cases h2
  · rcases k.own j hj with h1 | h1
    · exact h.own j h1
    · exact .inr (h.dom j h1)
  · rcases k.new j o hj with h1 | h1
    · exact h.new j o h1
    · exact .inr (h.dom j h1)

/-- A part of memory that the tree does not own stays. -/
theorem Step.stays {A B A' B' C : Arena} {O O' : Nat → Prop} (h : Step A B O A' B' O') (hC : C.Sub A) (hO : ∀ k o, C.blk k = some o → ¬ O k) : C.Sub A' := fun k o hk => h.keep k o (hC k o hk) (hO k o hk)

theorem NodeAt.mono {A A' B B' : Arena} {g : Nat} {n : NodeD} (h : NodeAt A B g n) (hg : A'.blk g = A.blk g) (hB : B.Sub B') : NodeAt A' B' g n := by
  obtain ⟨v, h1, h2⟩ := h
  exact ⟨v, h1.sub fun o ho => by rw [hg]; exact ho, h2.sub hB⟩

theorem kMap_keys {κ α β : Type} (f : α → β) (l : List (κ × α)) : (kMap f l).map (·.1) = l.map (·.1) := by simp [kMap, Function.comp_def]

/-- Memory around a tree changes, its own and its nodes' data do not. -/
theorem TreeR.frame {A B A' : Arena} {O : Nat → Prop} {t : Nat} {T : TreeD} {m s : Nat} {E : List (ByteArray × Nat × NodeD)} (h : TreeR A B O t T m s E) (hO : ∀ k, O k → A'.blk k = A.blk k) (hB : B.Sub A') : TreeR A' B O t T m s E where
  nodes := h.nodes
  top := h.top.sub fun o ho => by rw [hO t h.own.1]; exact ho
  nmap := h.nmap.sub fun o ho => by rw [hO m h.own.2.1]; exact ho
  smap := h.smap.sub fun o ho => by rw [hO s h.own.2.2.1]; exact ho
  cells := fun e he => (h.cells e he).mono (hO _ (h.own.2.2.2 e he)) (Arena.Sub.refl _)
  keys := h.keys
  ptrs := h.ptrs
  skeys := h.skeys
  sub := hB
  own := h.own
  off := h.off
  live := fun k hk => by rw [hO k hk]; exact h.live k hk
  ne := h.ne

theorem TreeAt.frame {A B A' : Arena} {O : Nat → Prop} {t : Nat} {T : TreeD} (h : TreeAt A B O t T) (hO : ∀ k, O k → A'.blk k = A.blk k) (hB : B.Sub A') : TreeAt A' B O t T := by
  obtain ⟨m, s, E, h⟩ := h
  exact ⟨m, s, E, h.frame hO hB⟩

theorem TreeR.dom {A B : Arena} {O : Nat → Prop} {t : Nat} {T : TreeD} {m s : Nat} {E : List (ByteArray × Nat × NodeD)} (h : TreeR A B O t T m s E) {e : ByteArray × Nat × NodeD} (he : e ∈ E) : e.2.1 ≠ m ∧ e.2.1 ≠ s := by
  obtain ⟨v, ⟨c, ty, fz, h1, _⟩, _⟩ := h.cells e he
  obtain ⟨es, cl, h2, _⟩ := h.nmap
  obtain ⟨es', cl', h3, _⟩ := h.smap
  exact ⟨fun e => (by rw [e, h2] at h1; cases h1), fun e => (by rw [e, h3] at h1; cases h1)⟩

theorem TreeR.top_ne {A B : Arena} {O : Nat → Prop} {t : Nat} {T : TreeD} {m s : Nat} {E : List (ByteArray × Nat × NodeD)} (h : TreeR A B O t T m s E) : t ≠ m ∧ t ≠ s := by
  obtain ⟨c, ty, fz, h1, _⟩ := h.top
  obtain ⟨es, cl, h2, _⟩ := h.nmap
  obtain ⟨es', cl', h3, _⟩ := h.smap
  exact ⟨fun e => (by rw [e, h2] at h1; cases h1), fun e => (by rw [e, h3] at h1; cases h1)⟩

theorem TreeR.get {A B : Arena} {O : Nat → Prop} {t : Nat} {T : TreeD} {m s : Nat} {E : List (ByteArray × Nat × NodeD)} (h : TreeR A B O t T m s E) (p : ByteArray) : kGet p T.nodes = (kGet p E).map (·.2) := by rw [h.nodes, kGet_map]

theorem TreeR.look {A B : Arena} {O : Nat → Prop} {t : Nat} {T : TreeD} {m s : Nat} {E : List (ByteArray × Nat × NodeD)} (h : TreeR A B O t T m s E) (p : ByteArray) : A.look m (.string p) = some ((kGet p E).map fun x => ptrV x.1) := by
  rw [look_str h.nmap, kGet_map]
  cases kGet p E <;> rfl

/-- A node is turned. -/
theorem TreeR.mod {A B A' B' : Arena} {O : Nat → Prop} {t : Nat} {T : TreeD} {m s : Nat} {E : List (ByteArray × Nat × NodeD)} (h : TreeR A B O t T m s E) {p : ByteArray} {g : Nat} {n n' : NodeD} (hp : kGet p E = some (g, n))
    (hO : ∀ k, O k → k ≠ g → A'.blk k = A.blk k) (hn : NodeAt A' B' g n') (hB : B.Sub B') (hs : B'.Sub A') (hoff : ∀ k, O k → B'.blk k = none) : TreeR A' B' O t ⟨kMod p (fun _ => n') T.nodes, T.seats⟩ m s (kMod p (fun x => (x.1, n')) E) := by
  have hmem := kGet_mem (bytes_key p) hp
  obtain ⟨a, b, h1, _, _, _, h2⟩ := kGet_split (bytes_key p) hp
  have h2 := h2 fun x => (x.1, n')
  have hk : ∀ {β : Type} (f : ByteArray × Nat × NodeD → β), f (p, g, n') = f (p, g, n) → (kMod p (fun x => (x.1, n')) E).map f = E.map f := fun f hf => by rw [h2, h1]; simp [hf]
  have hne := h.dom hmem
  have hgt := h.ne.2 _ hmem
  have hsplit : ∀ e ∈ kMod p (fun x => (x.1, n')) E, e = (p, g, n') ∨ (e ∈ E ∧ e.2.1 ≠ g) := fun e he => by
    rw [h2] at he
    have hnd := h.ptrs
    rw [h1] at hnd
    simp only [List.map_append, List.map_cons] at hnd
    obtain ⟨_, hb, hab⟩ := List.nodup_append.1 hnd
    rw [List.nodup_cons] at hb
    rcases List.mem_append.1 he with he | he
    · refine .inr ⟨by rw [h1]; exact List.mem_append_left _ he, fun eq => ?_⟩
      exact hab _ (List.mem_map.2 ⟨e, he, rfl⟩) g (by simp) eq
    · rcases List.mem_cons.1 he with rfl | he
      · exact .inl rfl
      · refine .inr ⟨by rw [h1]; exact List.mem_append_right _ (List.mem_cons_of_mem _ he), fun eq => ?_⟩
        exact hb.1 (List.mem_map.2 ⟨e, he, eq⟩)
  refine ⟨?_, h.top.sub fun o ho => (by rw [hO t h.own.1 (Ne.symm hgt)]; exact ho), ?_, h.smap.sub fun o ho => (by rw [hO s h.own.2.2.1 (Ne.symm hne.2)]; exact ho), fun e he => ?_, by rw [hk _ rfl]; exact h.keys, by rw [hk _ rfl]; exact h.ptrs, h.skeys, hs, ⟨h.own.1, h.own.2.1, h.own.2.2.1, fun e he => ?_⟩, hoff, fun k hk => ?_, ⟨h.ne.1, fun e he => ?_⟩⟩
  · show kMod p (fun _ => n') T.nodes = _
    rw [h.nodes]
    exact kMod_map (·.2) (fun x => (x.1, n')) (fun _ => n') (fun _ => rfl) p E
  · have e1 : kMap (·.1) (kMod p (fun x => (x.1, n')) E) = kMap (·.1) E := hk _ rfl
    rw [e1]
    exact h.nmap.sub fun o ho => (by rw [hO m h.own.2.1 (Ne.symm hne.1)]; exact ho)
  · rcases hsplit e he with rfl | ⟨he, hg⟩
    · exact hn
    · exact (h.cells e he).mono (hO _ (h.own.2.2.2 e he) hg) hB
  · rcases hsplit e he with rfl | ⟨he, hg⟩
    · exact h.own.2.2.2 (p, g, n) hmem
    · exact h.own.2.2.2 e he
  · by_cases e : k = g
    · subst e
      obtain ⟨v, h1, _⟩ := hn
      exact h1.dom
    · rw [hO k hk e]; exact h.live k hk
  · rcases hsplit e he with rfl | ⟨he, hg⟩
    · exact hgt
    · exact h.ne.2 e he

/-- A node is laid. -/
theorem TreeR.put {A B A' B' : Arena} {O : Nat → Prop} {t : Nat} {T : TreeD} {m s : Nat} {E : List (ByteArray × Nat × NodeD)} (h : TreeR A B O t T m s E) {p : ByteArray} {g : Nat} {n : NodeD} (hg : A.blk g = none)
    (hO : ∀ k, O k → k ≠ m → A'.blk k = A.blk k) (hm : MapAt A' m (putL (.string p) (ptrV g) (strL ptrV (kMap (·.1) E)))) (hn : NodeAt A' B' g n) (hB : B.Sub B') (hs : B'.Sub A') (hoff : ∀ k, O k ∨ k = g → B'.blk k = none) :
    TreeR A' B' (fun k => O k ∨ k = g) t ⟨kPut p n T.nodes, T.seats⟩ m s (kPut p (g, n) E) := by
  have hgo : ∀ e ∈ E, e.2.1 ≠ g := fun e he eq => by
    obtain ⟨v, h1, _⟩ := h.cells e he
    obtain ⟨o, ho⟩ := h1.dom
    rw [eq, hg] at ho; cases ho
  have htg : t ≠ g := fun e => by
    obtain ⟨o, ho⟩ := h.top.dom
    rw [e, hg] at ho; cases ho
  have hsplit : ∀ e ∈ kPut p (g, n) E, e = (p, g, n) ∨ e ∈ E := fun e he => by
    cases hp : kGet p E with
    | none =>
      rw [kPut_none hp, List.mem_append, List.mem_singleton] at he
      exact he.symm
    | some x =>
      obtain ⟨a, b, h1, _, h2, _, _⟩ := kGet_split (bytes_key p) hp
      rw [h2] at he
      rcases List.mem_append.1 he with he | he
      · exact .inr (by rw [h1]; exact List.mem_append_left _ he)
      · rcases List.mem_cons.1 he with rfl | he
        · exact .inl rfl
        · exact .inr (by rw [h1]; exact List.mem_append_right _ (List.mem_cons_of_mem _ he))
  have hnd : (((kPut p (g, n) E).map (·.1)).Nodup) ∧ ((kPut p (g, n) E).map (·.2.1)).Nodup := by
    cases hp : kGet p E with
    | none =>
      rw [kPut_none hp]
      have h9 := kGet_none (bytes_beq_self p) hp
      refine ⟨?_, ?_⟩
      · rw [List.map_append, List.nodup_append]
        refine ⟨h.keys, by simp, fun a ha b hb e => ?_⟩
        simp only [List.map_cons, List.map_nil, List.mem_singleton] at hb
        subst hb; subst e; exact h9 ha
      · rw [List.map_append, List.nodup_append]
        refine ⟨h.ptrs, by simp, fun a ha b hb e => ?_⟩
        simp only [List.map_cons, List.map_nil, List.mem_singleton] at hb
        subst hb; subst e
        obtain ⟨x, hx, hx2⟩ := List.mem_map.1 ha
        exact hgo x hx hx2
    | some x =>
      obtain ⟨a, b, h1, _, h2, _, _⟩ := kGet_split (bytes_key p) hp
      rw [h2]
      have k1 := h.keys
      have k2 := h.ptrs
      rw [h1] at k1 k2
      refine ⟨by simpa using k1, ?_⟩
      simp only [List.map_append, List.map_cons] at k2 ⊢
      obtain ⟨d1, d2, d3⟩ := List.nodup_append.1 k2
      rw [List.nodup_cons] at d2
      refine List.nodup_append.2 ⟨d1, List.nodup_cons.2 ⟨fun hm => ?_, d2.2⟩, fun u hu w hw e => ?_⟩
      · obtain ⟨y, hy, hy2⟩ := List.mem_map.1 hm
        exact hgo y (by rw [h1]; exact List.mem_append_right _ (List.mem_cons_of_mem _ hy)) hy2
      · rcases List.mem_cons.1 hw with rfl | hw
        · obtain ⟨y, hy, hy2⟩ := List.mem_map.1 hu
          exact hgo y (by rw [h1]; exact List.mem_append_left _ hy) (hy2.trans e)
        · exact d3 u hu w (List.mem_cons_of_mem _ hw) e
  have htm := h.top_ne
  refine ⟨?_, h.top.sub fun o ho => (by rw [hO t h.own.1 htm.1]; exact ho), ?_, h.smap.sub fun o ho => (by rw [hO s h.own.2.2.1 (Ne.symm h.ne.1)]; exact ho), fun e he => ?_, hnd.1, hnd.2, h.skeys, hs, ⟨.inl h.own.1, .inl h.own.2.1, .inl h.own.2.2.1, fun e he => ?_⟩, hoff, fun k hk => ?_, ⟨h.ne.1, fun e he => ?_⟩⟩
  · show kPut p n T.nodes = _
    rw [h.nodes]
    exact kPut_map (·.2) p (g, n) E
  · have : putL (.string p) (ptrV g) (strL ptrV (kMap (·.1) E)) = strL ptrV (kMap (·.1) (kPut p (g, n) E)) := by
      rw [strL_put]
      congr 1
      exact kPut_map (·.1) p (g, n) E
    rw [← this]; exact hm
  · rcases hsplit e he with rfl | he
    · exact hn
    · exact (h.cells e he).mono (hO _ (h.own.2.2.2 e he) (h.dom he).1) hB
  · rcases hsplit e he with rfl | he
    · exact .inr rfl
    · exact .inl (h.own.2.2.2 e he)
  · rcases hk with hk | rfl
    · by_cases e : k = m
      · subst e
        obtain ⟨es, cl, h1, _⟩ := hm
        exact ⟨_, h1⟩
      · rw [hO k hk e]; exact h.live k hk
    · obtain ⟨v, h1, _⟩ := hn
      exact h1.dom
  · rcases hsplit e he with rfl | he
    · exact Ne.symm htg
    · exact h.ne.2 e he

theorem kDel_sub {κ α : Type} [BEq κ] (p : κ) : ∀ l : List (κ × α), List.Sublist (kDel p l) l
  | [] => List.Sublist.refl _
  | e :: es => by
    simp only [kDel]
    cases hb : p == e.1 with
    | true => exact List.sublist_cons_self _ _
    | false => exact (kDel_sub p es).cons_cons e

/-- A node is taken away. -/
theorem TreeR.del {A B A' : Arena} {O : Nat → Prop} {t : Nat} {T : TreeD} {m s : Nat} {E : List (ByteArray × Nat × NodeD)} (h : TreeR A B O t T m s E) {p : ByteArray}
    (hO : ∀ k, k ≠ m → A'.blk k = A.blk k) (hm : MapAt A' m (delL (.string p) (strL ptrV (kMap (·.1) E)))) : TreeR A' B O t ⟨kDel p T.nodes, T.seats⟩ m s (kDel p E) := by
  have hsub := kDel_sub p E
  have htm := h.top_ne
  refine ⟨?_, h.top.sub fun o ho => (by rw [hO t htm.1]; exact ho), ?_, h.smap.sub fun o ho => (by rw [hO s (Ne.symm h.ne.1)]; exact ho), fun e he => ?_, h.keys.sublist (hsub.map _), h.ptrs.sublist (hsub.map _), h.skeys, fun k o hk => ?_, ⟨h.own.1, h.own.2.1, h.own.2.2.1, fun e he => h.own.2.2.2 e (hsub.subset he)⟩, h.off, fun k hk => ?_, ⟨h.ne.1, fun e he => h.ne.2 e (hsub.subset he)⟩⟩
  · show kDel p T.nodes = _
    rw [h.nodes]
    exact kDel_map (·.2) p E
  · have : delL (.string p) (strL ptrV (kMap (·.1) E)) = strL ptrV (kMap (·.1) (kDel p E)) := by
      rw [strL_del]
      congr 1
      exact kDel_map (·.1) p E
    rw [← this]; exact hm
  · have he := hsub.subset he
    exact (h.cells e he).mono (hO _ (h.dom he).1) (Arena.Sub.refl _)
  · rw [hO k fun e => by subst e; rw [h.off _ h.own.2.1] at hk; cases hk]
    exact h.sub k o hk
  · by_cases e : k = m
    · subst e
      obtain ⟨es, cl, h1, _⟩ := hm
      exact ⟨_, h1⟩
    · rw [hO k e]; exact h.live k hk

/-- Sittings are changed. -/
theorem TreeR.sit {A B A' : Arena} {O : Nat → Prop} {t : Nat} {T : TreeD} {m s : Nat} {E : List (ByteArray × Nat × NodeD)} (h : TreeR A B O t T m s E) {l : List (Int × SitD)}
    (hO : ∀ k, k ≠ s → A'.blk k = A.blk k) (hm : MapAt A' s (intL sitV l)) (hl : (l.map (·.1)).Nodup) : TreeR A' B O t ⟨T.nodes, l⟩ m s E := by
  have htm := h.top_ne
  refine ⟨h.nodes, h.top.sub fun o ho => (by rw [hO t htm.2]; exact ho), h.nmap.sub fun o ho => (by rw [hO m h.ne.1]; exact ho), hm, fun e he => (h.cells e he).mono (hO _ (h.dom he).2) (Arena.Sub.refl _), h.keys, h.ptrs, hl, fun k o hk => ?_, h.own, h.off, fun k hk => ?_, h.ne⟩
  · rw [hO k fun e => by subst e; rw [h.off _ h.own.2.2.1] at hk; cases hk]
    exact h.sub k o hk
  · by_cases e : k = s
    · subst e
      obtain ⟨es, cl, h1, _⟩ := hm
      exact ⟨_, h1⟩
    · rw [hO k e]; exact h.live k hk

theorem kPut_nodup {p : Int} {x : SitD} {l : List (Int × SitD)} (h : (l.map (·.1)).Nodup) : ((kPut p x l).map (·.1)).Nodup := by
  cases hp : kGet p l with
  | none =>
    rw [kPut_none hp, List.map_append, List.nodup_append]
    refine ⟨h, by simp, fun a ha b hb e => ?_⟩
    simp only [List.map_cons, List.map_nil, List.mem_singleton] at hb
    subst hb; subst e; exact kGet_none (by simp) hp ha
  | some y =>
    obtain ⟨a, b, h1, _, h2, _, _⟩ := kGet_split (int_key p) hp
    rw [h2]
    rw [h1] at h
    simpa using h

end
end Go.Sx

namespace Go.Proofs.YthbaimobihmhiaaGreatDoor
open Go.Sx Go.RowKit
noncomputable section
open Classical

def rootS : ByteArray := ⟨#[47]⟩
def pathL (q : ByteArray) : List UInt8 := q.data.toList

structure ToldD where
  path : ByteArray
  data : List UInt8
  stat : StatD

def bytesOf (l : List UInt8) : ByteArray := ⟨l.toArray⟩

theorem bytesOf_pathL (q : ByteArray) : bytesOf (pathL q) = q := by
  obtain ⟨⟨l⟩⟩ := q; rfl

def nodeC (x : ToldD × Value) : List Value := .string x.1.path :: x.2 :: x.1.stat.cells

theorem flat_at {α : Type} (enc : α → List Value) (k : Nat) (hk : ∀ x, (enc x).length = k) : ∀ (l : List α) (i : Nat) (hi : i < l.length), ((l.flatMap enc).drop (i * k)).take k = enc l[i]
  | [], i, hi => by simp at hi
  | x :: l, 0, _ => by
    rw [Nat.zero_mul, List.drop_zero, List.flatMap_cons, List.take_append_of_le_length (by rw [hk]; omega), List.take_of_length_le (by rw [hk]; omega)]; rfl
  | x :: l, i + 1, hi => by
    rw [List.flatMap_cons, Nat.succ_mul, Nat.add_comm, ← List.drop_drop, List.drop_left' (hk x)]
    exact flat_at enc k hk l i (by simpa using hi)

theorem flat_len {α : Type} (enc : α → List Value) (k : Nat) (hk : ∀ x, (enc x).length = k) (l : List α) : (l.flatMap enc).length = l.length * k := by
  induction l with
  | nil => simp
  | cons x l ih => rw [List.flatMap_cons, List.length_append, hk, ih, List.length_cons, Nat.succ_mul]; omega

theorem row_at {α : Type} {enc : α → List Value} {k : Nat} (hk : ∀ x, (enc x).length = k) {A : Arena} {g o n : Nat} {l : List α} (h : A.rd g o (n * k) = some (l.flatMap enc)) (i : Nat) (hi : i < l.length) (hn : n = l.length) : A.rd g (o + i * k) k = some (enc l[i]) := by
  have hle : i * k + k ≤ n * k := by rw [← Nat.succ_mul]; exact Nat.mul_le_mul_right _ (by omega)
  rw [rd_at h (i := i * k) (m := k) hle, flat_at enc k hk l i hi]

/-- A row of nodes. -/
def NodesS (D : Arena) (v : Value) (ns : List ToldD) : Prop := ∃ l : List (ToldD × Value), l.map (·.1) = ns ∧ Sl D 12 ns.length v (l.flatMap nodeC) ∧ ∀ x ∈ l, SlB D x.2 x.1.data

def NodesR (A : Arena) (v : Value) (l : List (ToldD × Value)) : Prop := Sl A 12 l.length v (l.flatMap nodeC) ∧ ∀ x ∈ l, SlB A x.2 x.1.data

theorem nodesR_of {A B : Arena} {v : Value} {ns : List ToldD} (h : NodesS A v ns) (hs : A.Sub B) : ∃ l : List (ToldD × Value), l.map (·.1) = ns ∧ NodesR B v l := by
  obtain ⟨l, h1, h2, h3⟩ := h
  have hl : l.length = ns.length := by rw [← h1, List.length_map]
  exact ⟨l, h1, by rw [hl]; exact h2.sub hs, fun x hx => (h3 x hx).sub hs⟩

def sitC (s : SitD) : List Value := [.int .i64 s.ses, .int .i64 s.tmo, .int .i64 s.turn]

/-- Sittings as a row that came in. -/
def SlS (A : Arena) (v : Value) (l : List SitD) : Prop := Sl A 3 l.length v (l.flatMap sitC) ∧ l.length ≤ 140737488351232

abbrev natV (n : Nat) : Value := .int .i64 n

theorem wrap_inc {k : Nat} (h : k < 9223372036854775807) : IntKind.i64.wrap ((k : Int) + 1) = ((k + 1 : Nat) : Int) := by
  have h1 := inc_slot h
  injection h1 with h1
  injection h1 with h1
  injection h1

def StatOk (s : StatD) : Prop := 0 ≤ s.czxid ∧ 0 ≤ s.mzxid ∧ 0 ≤ s.pzxid ∧ 0 ≤ s.ctime ∧ 0 ≤ s.mtime ∧ 0 ≤ s.ver ∧ 0 ≤ s.cver ∧ 0 ≤ s.owner ∧ 0 ≤ s.len ∧ 0 ≤ s.kids

def NodeFits (x : ToldD) : Prop := pathOk x.path.data.toList = true ∧ x.data.length ≤ 1000 ∧ StatOk x.stat

def LoadOk (l : List ToldD) : Prop := (∀ x ∈ l, NodeFits x) ∧ (l.Pairwise fun a b => ltL (pathL a.path) (pathL b.path) = true) ∧ ∃ x, l.head? = some x ∧ x.path = rootS

/-- What Load asks, one by one. -/
def LoadC (l : List ToldD) : Prop := (∀ i (h : i < l.length), NodeFits l[i] ∧ (0 < i → ltL (pathL l[i - 1].path) (pathL l[i].path) = true)) ∧ ∃ x, l.head? = some x ∧ x.path = rootS

theorem loadC_of {l : List ToldD} (h : LoadOk l) : LoadC l := by
  refine ⟨fun i hi => ⟨h.1 _ (List.getElem_mem hi), fun h0 => ?_⟩, h.2.2⟩
  have := List.pairwise_iff_getElem.1 h.2.1 (i - 1) i (by omega) hi (by omega)
  exact this

theorem loadC_fail {l : List (ToldD × Value)} {k : Nat} (hk : k < l.length) (h : ¬ (NodeFits l[k].1 ∧ (0 < k → ltL (pathL l[k - 1].1.path) (pathL l[k].1.path) = true))) : ¬ LoadC (l.map (·.1)) := fun hc => h (by
  have := hc.1 k (by rw [List.length_map]; exact hk)
  simpa using this)

theorem loadC_all {l : List (ToldD × Value)} (h : ∀ i (h : i < l.length), NodeFits l[i].1 ∧ (0 < i → ltL (pathL l[i - 1].1.path) (pathL l[i].1.path) = true)) (hr : ∃ x, (l.map (·.1)).head? = some x ∧ x.path = rootS) : LoadC (l.map (·.1)) :=
  ⟨fun i hi => by
    have := h i (by rw [List.length_map] at hi; exact hi)
    simpa using this, hr⟩

theorem ltL_iff : ∀ (l m : List UInt8), ltL l m = true ↔ l < m
  | [], [] => by simp [ltL]
  | _ :: _, [] => by simp [ltL]
  | [], _ :: _ => by simp [ltL]
  | a :: l, b :: m => by
    rw [List.cons_lt_cons_iff, ← ltL_iff l m]
    simp only [ltL]
    by_cases h : a < b
    · have h' : a.toNat < b.toNat := UInt8.lt_iff_toNat_lt.1 h
      have hb : Nat.blt a.toNat b.toNat = true := Nat.ble_eq.mpr h'
      simp [hb, h]
    · have h' : ¬ a.toNat < b.toNat := fun x => h (UInt8.lt_iff_toNat_lt.2 x)
      have hb : Nat.blt a.toNat b.toNat = false := by
        cases hx : Nat.blt a.toNat b.toNat with
        | false => rfl
        | true => exact absurd (Nat.le_of_ble_eq_true hx) h'
      by_cases e : a = b
      · subst e
        simp [hb, h]
      · have he : Nat.beq a.toNat b.toNat = false := by
          cases hx : Nat.beq a.toNat b.toNat with
          | false => rfl
          | true => exact absurd (UInt8.toNat_inj.1 (Nat.eq_of_beq_eq_true hx)) e
        simp [hb, he, h, e]

theorem ltL_no {a b : List UInt8} (h : ltL a b = true) : (ltL b a || beqL b a) = false := by
  have h1 := (ltL_iff a b).1 h
  rw [Bool.or_eq_false_iff]
  constructor
  · cases hx : ltL b a with
    | false => rfl
    | true => exact absurd ((ltL_iff b a).1 hx) (List.lt_asymm h1)
  · cases hx : beqL b a with
    | false => rfl
    | true =>
      have e := beqL_iff.1 hx
      subst e
      exact absurd h1 (List.lt_irrefl _)

theorem bytes_ext {a b : ByteArray} (h : a.data.toList = b.data.toList) : a = b := by
  obtain ⟨⟨a⟩⟩ := a; obtain ⟨⟨b⟩⟩ := b
  obtain rfl : a = b := h; rfl

theorem ltL_tri : ∀ {l m : List UInt8}, ltL l m = false → ltL m l = false → l = m
  | [], [], _, _ => rfl
  | _ :: _, [], _, h => by simp [ltL] at h
  | [], _ :: _, h, _ => by simp [ltL] at h
  | a :: l, b :: m, h1, h2 => by
    simp only [ltL] at h1 h2
    cases hab : Nat.blt a.toNat b.toNat with
    | true => rw [hab] at h1; cases h1
    | false =>
      cases hba : Nat.blt b.toNat a.toNat with
      | true => rw [hba] at h2; cases h2
      | false =>
        have h3 : ¬ a.toNat < b.toNat := fun h => by
          have : Nat.blt a.toNat b.toNat = true := Nat.ble_eq.mpr h
          rw [hab] at this; cases this
        have h4 : ¬ b.toNat < a.toNat := fun h => by
          have : Nat.blt b.toNat a.toNat = true := Nat.ble_eq.mpr h
          rw [hba] at this; cases this
        have e : a.toNat = b.toNat := by omega
        have hb1 : Nat.beq a.toNat b.toNat = true := by rw [e]; exact Nat.beq_refl _
        have hb2 : Nat.beq b.toNat a.toNat = true := by rw [e]; exact Nat.beq_refl _
        rw [hab, hb1] at h1
        rw [hba, hb2] at h2
        rw [UInt8.toNat_inj.1 e, ltL_tri h1 h2]

theorem ltL_yes {a b : List UInt8} (h : (ltL b a || beqL b a) = false) : ltL a b = true := by
  rw [Bool.or_eq_false_iff] at h
  cases hx : ltL a b with
  | true => rfl
  | false =>
    have e := ltL_tri hx h.1
    subst e
    exact absurd rfl (beqL_ff.1 h.2)

end
end Go.Proofs.YthbaimobihmhiaaGreatDoor
