/-
  The symbolic executor over arenas: contracts of functions at plain arguments, used in any heap; loops with an invariant.
-/
import Derived.Test.YtompigcfojbpkaaSxQ
namespace Go.Sx
noncomputable section
variable {dfs : List Deferred}

/-! ### Contracts -/

/-- What a function asks of its arguments and the arena, and what it leaves. -/
structure FSpec where
  γ : Type
  pre : γ → List Value → Arena → Prop
  post : γ → List Value → Arena → Value → Arena → Prop

/-- What is no tuple. -/
def plain1 : SV → Option Value
  | .v x => some x
  | .str l => some (.string ⟨l.toArray⟩)
  | .agg cs => match plains cs with
    | some vs => some (.agg vs.toArray)
    | none => none
  | _ => none

theorem plain1_den {x : SV} {v : Value} (h : plain1 x = some v) (ρ : Nat → Loc) : x.den ρ = v := by
  unfold plain1 at h
  split at h
  · injection h
  · injection h
  · rename_i cs
    split at h
    · rename_i vs hvs
      injection h with h
      rw [← h, SV.den, dens_eq, plains_den ρ cs vs hvs]
    · cases h
  · cases h

def plain1s : List SV → Option (List Value)
  | [] => some []
  | x :: xs => match plain1 x with
    | some v => match plain1s xs with
      | some vs => some (v :: vs)
      | none => none
    | none => none

theorem plain1s_den (ρ : Nat → Loc) : ∀ (l : List SV) (vs : List Value), plain1s l = some vs → l.map (SV.den ρ) = vs
  | [], vs, h => by injection h
  | x :: xs, vs, h => by
    simp only [plain1s] at h
    split at h
    · rename_i v hv
      split at h
      · rename_i us hus
        injection h with h; subst h
        rw [List.map_cons, plain1_den hv ρ, plain1s_den ρ xs us hus]
      · cases h
    · cases h

def plainV : SV → Option Value
  | .tup cs => match plain1s cs with
    | some vs => some (.tuple vs.toArray)
    | none => none
  | .v x => some x
  | x => plain1 x

theorem plainV_den {x : SV} {v : Value} (h : plainV x = some v) (ρ : Nat → Loc) : x.den ρ = v := by
  unfold plainV at h
  split at h
  · rename_i cs
    split at h
    · rename_i vs hvs
      injection h with h
      rw [← h, SV.den, dens_eq, plain1s_den ρ cs vs hvs]
    · cases h
  · injection h
  · exact plain1_den h ρ

def plainVs : List SV → Option (List Value)
  | [] => some []
  | x :: xs => match plainV x with
    | some v => match plainVs xs with
      | some vs => some (v :: vs)
      | none => none
    | none => none

theorem plainVs_den (ρ : Nat → Loc) : ∀ (l : List SV) (vs : List Value), plainVs l = some vs → l.map (SV.den ρ) = vs
  | [], vs, h => by injection h
  | x :: xs, vs, h => by
    simp only [plainVs] at h
    split at h
    · rename_i v hv
      split at h
      · rename_i us hus
        injection h with h; subst h
        rw [List.map_cons, plainV_den hv ρ, plainVs_den ρ xs us hus]
      · cases h
    · cases h

/-- The contract, as a transformer. -/
def ctS (S : FSpec) : CT := fun args h K => match plainVs args with
  | some vs => h.M.D (∃ g, S.pre g vs h.M.A ∧ ∀ v A', S.post g vs h.M.A v A' → K (.v v) (h.put A') = true)
  | none => false

/-- What may change of a world: what lies in the arena, and new blocks. -/
structure Moves (A A' : Arena) (w w' : World) : Prop where
  os : w'.os = w.os
  out : w'.output = w.output
  tape : w'.tape = w.tape
  same : ∀ k, A.blk k = none → k < w.heap.size → w'.heap[k]? = w.heap[k]?
  sub : ∀ k o, A'.blk k = some o → w'.heap[k]? = some o
  dom : ∀ k o, A'.blk k = some o → (∃ o', A.blk k = some o') ∨ w.heap.size ≤ k

/-- The function keeps the contract. -/
def FOk (P : Program) (f : FuncId) (S : FSpec) : Prop :=
  ∀ g vs A w, (∀ k o, A.blk k = some o → w.heap[k]? = some o) → S.pre g vs A → CallGoes P f vs.toArray w (fun v w' => ∃ A', S.post g vs A v A' ∧ Moves A A' w w') fun _ _ => False

theorem ctS_goes {P : Program} {f : FuncId} {S : FSpec} (hS : FOk P f S) {args : List SV} {h : HS} {K : SV → HS → Bool} (hk : ctS S args h K = true) {ρ : Nat → Loc} {w : World} (R : HRel ρ h w) :
    CallGoes P f (args.map (SV.den ρ)).toArray w (Post ρ h K) fun _ _ => False := by
  unfold ctS at hk
  split at hk
  · rename_i vs hvs
    obtain ⟨g, hp, hk⟩ := (h.M.X.hD _).1 hk
    rw [plainVs_den ρ args vs hvs]
    refine (hS g vs h.M.A w R.are hp).mono (fun v w' ⟨A', k1, k2⟩ => ?_) fun _ _ h => h
    exact ⟨.v v, h.put A', ρ, hk v A' k1, rfl, trivial, R.arena k2.os k2.out k2.tape k2.same k2.sub k2.dom, Ext.refl _ _, Nat.le_refl _, Mem.put_le _ _⟩
  · exact absurd hk Bool.false_ne_true

/-! ### A contract out of the executor -/

/-- Memory all of whose known addresses lie in the arena. -/
abbrev opMem (blk : Nat → Option Obj) (os : Os) (out : Array (Nat × ByteArray)) (tape : Nat → Question → Nat) (A : Arena) (D : Prop → Bool) (hD : ∀ p, D p = true ↔ p) : Mem :=
  ⟨blk, os, out, tape, [], fun _ _ h => (by cases h), ⟨A, D, hD, true⟩⟩

/-- The end of a run: the contract's promise, where the result names no new block. -/
def endP (S : FSpec) (g : S.γ) (vs : List Value) (A : Arena) : SV → HS → Bool := fun z h => match plainV z with
  | some v => h.M.D (S.post g vs A v h.M.A)
  | none => false

/-- The same, where it may name new blocks. -/
def endK (S : FSpec) (g : S.γ) (vs : List Value) (A : Arena) : SV → HS → Bool := fun z h =>
  h.M.D (∀ ρ w, HRel ρ h w → z.lt ρ h.nx → ∃ A', S.post g vs A (z.den ρ) A' ∧ (∀ k o, A'.blk k = some o → w.heap[k]? = some o) ∧ ∀ k o, A'.blk k = some o → (∃ o', h.M.A.blk k = some o') ∨ ∃ b B, h.H.get b = some B ∧ (ρ b).blk = k)

theorem endP_end {S : FSpec} {g : S.γ} {vs : List Value} {A : Arena} {z : SV} {h : HS} (hk : endP S g vs A z h = true) : endK S g vs A z h = true := by
  unfold endP at hk
  split at hk
  · rename_i v hv
    have hk := (h.M.X.hD _).1 hk
    refine (h.M.X.hD _).2 fun ρ w R _ => ⟨h.M.A, by rw [plainV_den hv ρ]; exact hk, R.are, fun k o ho => .inl ⟨o, ho⟩⟩
  · exact absurd hk Bool.false_ne_true

/-- A run of a function's own text, whatever contract is known of it. -/
def sxTop (P : Program) (C : FuncId → Option CT) (Λ : LTab) (n : Nat) (f : FuncId) (args : List SV) (h : HS) (K : SV → HS → Bool) : Bool := runFn P Λ.mg (sxCode P C Λ n) noC f args h K fun _ _ => false

theorem sxTop_sound {P : Program} (hm : P.follows .mixedOrders = true) {C : FuncId → Option CT} (hC : CTSound P C) {Λ : LTab} (hΛ : LTSound P Λ) (n : Nat) : ∀ f args h K, sxTop P C Λ n f args h K → ∀ ρ w, HRel ρ h w → (∀ x ∈ args, x.lt ρ h.nx) → CallGoes P f (args.map (SV.den ρ)).toArray w (Post ρ h K) fun _ _ => False :=
  fun f args h K hk ρ w H ha => (runFn_sound (noC_sound P) (sxCode_wp hm hC hΛ n).1 f args h K _ hk ρ w H ha).mono (fun _ _ h => h) fun _ _ h => not_post_false h

/-- The run's question. -/
abbrev Run (P : Program) (C : FuncId → Option CT) (Λ : LTab) (n : Nat) (f : FuncId) (args : List SV) (A : Arena) (E : SV → HS → Bool) : Prop :=
  ∀ blk os out tape D hD, sxTop P C Λ n f args ⟨.e, 0, opMem blk os out tape A D hD⟩ E = true

theorem fok_of_end {P : Program} (hm : P.follows .mixedOrders = true) {f : FuncId} {S : FSpec} {E : (g : S.γ) → List Value → Arena → SV → HS → Bool} (hE : ∀ g vs A z h, E g vs A z h = true → endK S g vs A z h = true)
    (hr : ∀ g vs A, S.pre g vs A → ∃ C Λ n args, CTSound P C ∧ LTSound P Λ ∧ plainVs args = some vs ∧ (∀ ρ, ∀ x ∈ args, x.lt ρ 0) ∧ Run P C Λ n f args A (E g vs A)) : FOk P f S := by
  classical
  intro gh vs A w hA hp
  obtain ⟨C, Λ, n, args, hC, hΛ, h1, h2, h3⟩ := hr gh vs A hp
  have R : HRel (fun _ => ⟨0, 0, 0⟩) ⟨.e, 0, opMem (fun k => if A.blk k = none then w.heap[k]? else none) w.os w.output w.tape A (fun p => decide p) (fun p => by simp)⟩ w := by
    refine ⟨rfl, rfl, rfl, fun k o hk => ?_, fun b B hb => ?_, fun b b' B B' hb => ?_, fun b B hb => ?_, hA, fun b B hb => ?_, fun k o hk => ?_⟩
    · have hk : (if A.blk k = none then w.heap[k]? else none) = some o := hk
      split at hk
      · exact hk
      · cases hk
    · rw [T.get_e] at hb; cases hb
    · rw [T.get_e] at hb; cases hb
    · rw [T.get_e] at hb; cases hb
    · rw [T.get_e] at hb; cases hb
    · have hk : A.blk k = some o := hk
      show (if A.blk k = none then w.heap[k]? else none) = none
      rw [if_neg (by rw [hk]; simp)]
  have g := sxTop_sound hm hC hΛ n f args _ _ (h3 _ _ _ _ _ _) _ w R (fun x hx => h2 _ x hx)
  rw [plainVs_den _ args vs h1] at g
  refine g.mono (fun v w' ⟨z, h', ρ', hz, hv, hl, R', _, _, hle⟩ => ?_) fun _ _ h => h
  obtain ⟨A', k1, k2, k3⟩ := (h'.M.X.hD _).1 (hE _ _ _ _ _ hz) ρ' w' R' hl
  have old : ∀ k, A.blk k = none → k < w.heap.size → h'.M.blk k = w.heap[k]? := fun k hk hlt => by
    have h0 : w.heap[k]? = some w.heap[k] := Array.getElem?_eq_getElem hlt
    have := hle.1 k w.heap[k] (by show (if A.blk k = none then w.heap[k]? else none) = _; rw [if_pos hk]; exact h0)
    rw [this, h0]
  refine ⟨A', by rw [hv]; exact k1, R'.os.trans hle.2.1, R'.out.trans hle.2.2.1, R'.tape.trans hle.2.2.2, fun k hk hlt => ?_, k2, fun k o ho => ?_⟩
  · have h0 : w.heap[k]? = some w.heap[k] := Array.getElem?_eq_getElem hlt
    rw [R'.mem k w.heap[k] (by rw [old k hk hlt]; exact h0), h0]
  · cases hA0 : A.blk k with
    | some o' => exact .inl ⟨o', rfl⟩
    | none =>
      refine .inr (Nat.le_of_not_lt fun hlt => ?_)
      have h0 := old k hA0 hlt
      have h00 : w.heap[k]? = some w.heap[k] := Array.getElem?_eq_getElem hlt
      rcases k3 k o ho with ⟨o', h4⟩ | ⟨b, B, h4, h5⟩
      · rw [R'.disj k o' h4, h00] at h0; cases h0
      · have := R'.apart b B h4
        rw [h5, h0, h00] at this; cases this

theorem fok_of_run {P : Program} (hm : P.follows .mixedOrders = true) {f : FuncId} {S : FSpec}
    (hr : ∀ g vs A, S.pre g vs A → ∃ C Λ n args, CTSound P C ∧ LTSound P Λ ∧ plainVs args = some vs ∧ (∀ ρ, ∀ x ∈ args, x.lt ρ 0) ∧ Run P C Λ n f args A (endP S g vs A)) : FOk P f S :=
  fok_of_end hm (fun _ _ _ _ _ h => endP_end h) hr

/-! ### Loops -/

mutual
/-- All ids in it are below n. -/
def SV.bel (n : Nat) : SV → Prop
  | .v _ => True
  | .str _ => True
  | .ptr b _ => b < n
  | .slc b _ _ c => b < n ∧ c.lt n
  | .mp b => b < n
  | .agg cs => SV.bels n cs
  | .tup cs => SV.bels n cs
  | .ifc _ x => x.bel n
  | .fn _ cs => SV.bels n cs
def SV.bels (n : Nat) : List SV → Prop
  | [] => True
  | x :: xs => x.bel n ∧ SV.bels n xs
end

mutual
theorem SV.bel_lt {ρ : Nat → Loc} {n m : Nat} : ∀ (x : SV), x.bel n → x.lt ρ m → x.lt ρ n
  | .v _, _, _ => trivial
  | .str _, _, _ => trivial
  | .ptr _ _, h, _ => h
  | .slc _ _ _ _, h, k => ⟨h.1, h.2, k.2.2⟩
  | .mp _, h, _ => h
  | .agg cs, h, k => SV.bels_lt cs h k
  | .tup cs, h, k => SV.bels_lt cs h k
  | .ifc _ x, h, k => SV.bel_lt x h k
  | .fn _ cs, h, k => SV.bels_lt cs h k
theorem SV.bels_lt {ρ : Nat → Loc} {n m : Nat} : ∀ (l : List SV), SV.bels n l → SV.lts ρ m l → SV.lts ρ n l
  | [], _, _ => trivial
  | x :: xs, h, k => ⟨SV.bel_lt x h.1 k.1, SV.bels_lt xs h.2 k.2⟩
end

def entsBel (n : Nat) : List (SV × SV × Nat) → Prop
  | [] => True
  | e :: es => e.1.bel n ∧ e.2.1.bel n ∧ entsBel n es

def SBlk.bel (n : Nat) : SBlk → Prop
  | .cells cs _ _ => SV.bels n cs
  | .map es _ => entsBel n es
  | .siter _ _ => True
  | .miter m _ _ _ => m < n

theorem bels_mem {n : Nat} : ∀ {l : List SV}, SV.bels n l → ∀ x ∈ l, x.bel n
  | [], _, _, h => by cases h
  | y :: ys, h, x, hx => by
    rcases List.mem_cons.1 hx with rfl | hx
    · exact h.1
    · exact bels_mem h.2 x hx

theorem entsBel_mem {n : Nat} : ∀ {l : List (SV × SV × Nat)}, entsBel n l → ∀ e ∈ l, e.1.bel n ∧ e.2.1.bel n
  | [], _, _, h => by cases h
  | y :: ys, h, x, hx => by
    rcases List.mem_cons.1 hx with rfl | hx
    · exact ⟨h.1, h.2.1⟩
    · exact entsBel_mem h.2.2 x hx

theorem SBlk.bel_lt {ρ : Nat → Loc} {n m : Nat} {B : SBlk} (h : B.bel n) (k : B.lt ρ m) : B.lt ρ n := by
  cases B with
  | cells cs es τ => exact fun x hx => SV.bel_lt x (bels_mem h x hx) (k x hx)
  | map es clock => exact fun e he => ⟨SV.bel_lt _ (entsBel_mem h e he).1 (k e he).1, SV.bel_lt _ (entsBel_mem h e he).2 (k e he).2⟩
  | siter s pos => trivial
  | miter m' since seen last => exact h

/-- What holds at a loop's head: slots that stay, blocks that stay, and what goes by a state. -/
structure LInv where
  γ : Type
  G : γ → Prop
  keepS : List Nat
  keepB : List Nat
  sl : γ → List (Nat × SV)
  bl : γ → List (Nat × SBlk)
  ar : γ → Arena
  mu : γ → Nat

def takeT {α : Type} (t : T α) : List Nat → T α → T α
  | [], acc => acc
  | i :: is, acc => match t.get i with
    | some x => takeT t is (acc.set i x)
    | none => takeT t is acc

theorem takeT_get {α : Type} {t : T α} : ∀ {is : List Nat} {acc : T α} {i : Nat} {x : α}, (takeT t is acc).get i = some x → (i ∈ is ∧ t.get i = some x) ∨ acc.get i = some x
  | [], _, _, _, h => .inr h
  | j :: js, acc, i, x, h => by
    simp only [takeT] at h
    split at h
    · rename_i y hy
      rcases takeT_get h with ⟨h1, h2⟩ | h
      · exact .inl ⟨List.mem_cons_of_mem _ h1, h2⟩
      · rcases T.get_set h with ⟨h1, h2⟩ | ⟨_, h⟩
        · subst h1; subst h2; exact .inl ⟨List.mem_cons_self, hy⟩
        · exact .inr h
    · rcases takeT_get h with ⟨h1, h2⟩ | h
      · exact .inl ⟨List.mem_cons_of_mem _ h1, h2⟩
      · exact .inr h

def putT {α : Type} : List (Nat × α) → T α → T α
  | [], t => t
  | s :: ss, t => putT ss (t.set s.1 s.2)

theorem putT_get {α : Type} : ∀ {l : List (Nat × α)} {t : T α} {i : Nat} {x : α}, (putT l t).get i = some x → (i, x) ∈ l ∨ t.get i = some x
  | [], _, _, _, h => .inr h
  | s :: ss, t, i, x, h => by
    rcases putT_get (l := ss) h with h | h
    · exact .inl (List.mem_cons_of_mem _ h)
    · rcases T.get_set h with ⟨h1, h2⟩ | ⟨_, h⟩
      · subst h1; subst h2; exact .inl (by simp)
      · exact .inr h

def sameP {α : Type} (t t' : T α) : List Nat → Prop
  | [] => True
  | i :: is => t'.get i = t.get i ∧ sameP t t' is

theorem sameP_mem {α : Type} {t t' : T α} : ∀ {is : List Nat}, sameP t t' is → ∀ i ∈ is, t'.get i = t.get i
  | [], _, _, h => by cases h
  | j :: js, h, i, hi => by
    rcases List.mem_cons.1 hi with rfl | hi
    · exact h.1
    · exact sameP_mem h.2 i hi

/-- These entries stand there. -/
def atP {α : Type} (t : T α) : List (Nat × α) → Prop
  | [] => True
  | s :: ss => t.get s.1 = some s.2 ∧ atP t ss

theorem atP_mem {α : Type} {t : T α} : ∀ {l : List (Nat × α)}, atP t l → ∀ s ∈ l, t.get s.1 = some s.2
  | [], _, _, h => by cases h
  | x :: xs, h, s, hs => by
    rcases List.mem_cons.1 hs with rfl | hs
    · exact h.1
    · exact atP_mem h.2 s hs

def belS (n : Nat) : List (Nat × SV) → Prop
  | [] => True
  | s :: ss => s.2.bel n ∧ belS n ss

def belB (n : Nat) : List (Nat × SBlk) → Prop
  | [] => True
  | s :: ss => s.1 < n ∧ s.2.bel n ∧ belB n ss

theorem belS_mem {n : Nat} : ∀ {l : List (Nat × SV)}, belS n l → ∀ s ∈ l, s.2.bel n
  | [], _, _, h => by cases h
  | x :: xs, h, s, hs => by
    rcases List.mem_cons.1 hs with rfl | hs
    · exact h.1
    · exact belS_mem h.2 s hs

theorem belB_mem {n : Nat} : ∀ {l : List (Nat × SBlk)}, belB n l → ∀ s ∈ l, s.1 < n ∧ s.2.bel n
  | [], _, _, h => by cases h
  | x :: xs, h, s, hs => by
    rcases List.mem_cons.1 hs with rfl | hs
    · exact ⟨h.1, h.2.1⟩
    · exact belB_mem h.2.2 s hs

/-- A state of the loop's head. -/
def LInv.At (S : LInv) (g : S.γ) (tm : T SV) (h : HS) : Prop := S.G g ∧ atP tm (S.sl g) ∧ atP h.H (S.bl g) ∧ h.M.A = S.ar g

/-- A round's end. -/
def loopK (S : LInv) (id : Nat) (K : KT) (tm0 : T SV) (H0 : T SBlk) (m : Nat) : KT := fun e tm h => match e with
  | .nrm => h.M.D (∃ g, S.At g tm h ∧ S.mu g < m ∧ sameP tm0 tm S.keepS ∧ sameP H0 h.H S.keepB)
  | .ext i => bif Nat.beq i id then K .nrm tm h else K (.ext i) tm h
  | e => K e tm h

/-- A loop with an invariant. -/
def loopLT (P : Program) (C : FuncId → Option CT) (Λ : LTab) (n : Nat) (f : FuncId) (id : Nat) : LT := fun c sz K tm h => match c with
  | .loop b => h.M.D (∃ S : LInv, (∃ g, S.At g tm h) ∧ ∀ g, S.G g → belS h.nx (S.sl g) ∧ belB h.nx (S.bl g) ∧
      sxCode P C Λ n f sz b (loopK S id K tm h.H (S.mu g)) (putT (S.sl g) (takeT tm S.keepS .e)) ⟨putT (S.bl g) (takeT h.H S.keepB .e), h.nx, h.M.put (S.ar g)⟩ = true)
  | _ => false

theorem loopLT_sound {P : Program} (hm : P.follows .mixedOrders = true) {C : FuncId → Option CT} (hC : CTSound P C) {Λ : LTab} (hΛ : LTSound P Λ) (n : Nat) (f : FuncId) (id : Nat)
    {c : Code} {sz : Nat} {K : KT} {tm : T SV} {h : HS} (hW : Within P f (.block id c)) (hk : loopLT P C Λ n f id c sz K tm h = true) {ρ : Nat → Loc} {a : Act} {w : World} (A : ARel dfs ρ tm sz h.nx a) (R : HRel ρ h w) :
    (Code.block id c).wp P (GoesX dfs ρ h sz K) a w := by
  unfold loopLT at hk
  split at hk
  · rename_i b
    obtain ⟨S, ⟨g0, h0⟩, hk⟩ := (h.M.X.hD _).1 hk
    -- a state, as the round sees it
    have state : ∀ (g : S.γ) (tm' : T SV) (h' : HS) (ρ' : Nat → Loc) (a' : Act) (w' : World), S.At g tm' h' → sameP tm tm' S.keepS → sameP h.H h'.H S.keepB → ARel dfs ρ' tm' sz h'.nx a' → HRel ρ' h' w' → Ext ρ ρ' h.nx → h.M.le h'.M →
        ARel dfs ρ' (putT (S.sl g) (takeT tm S.keepS .e)) sz h.nx a' ∧ HRel ρ' ⟨putT (S.bl g) (takeT h.H S.keepB .e), h.nx, h.M.put (S.ar g)⟩ w' := by
      intro g tm' h' ρ' a' w' ⟨hG, h1, h2, h3⟩ hs1 hs2 A' R' hx hle
      obtain ⟨hb1, hb2, _⟩ := hk g hG
      have slot : ∀ i x, (putT (S.sl g) (takeT tm S.keepS .e)).get i = some x → tm'.get i = some x ∧ x.lt ρ' h.nx := fun i x hi => by
        rcases putT_get hi with hi | hi
        · have h4 := atP_mem h1 _ hi
          exact ⟨h4, SV.bel_lt x (belS_mem hb1 _ hi) (A'.at_ i x h4).1⟩
        · rcases takeT_get hi with ⟨h4, h5⟩ | h4
          · refine ⟨by rw [sameP_mem hs1 i h4]; exact h5, ?_⟩
            exact SV.lt_ext hx (Nat.le_refl _) x (A.at_ i x h5).1
          · rw [T.get_e] at h4; cases h4
      have blk : ∀ i B, (putT (S.bl g) (takeT h.H S.keepB .e)).get i = some B → h'.H.get i = some B ∧ i < h.nx ∧ B.lt ρ' h.nx := fun i B hi => by
        rcases putT_get hi with hi | hi
        · have h4 := atP_mem h2 _ hi
          have h5 := belB_mem hb2 _ hi
          exact ⟨h4, h5.1, SBlk.bel_lt h5.2 (R'.blk i B h4).2.1⟩
        · rcases takeT_get hi with ⟨h4, h5⟩ | h4
          · refine ⟨by rw [sameP_mem hs2 i h4]; exact h5, (R.blk i B h5).1, ?_⟩
            exact SBlk.lt_ext hx (Nat.le_refl _) (R.blk i B h5).2.1
          · rw [T.get_e] at h4; cases h4
      refine ⟨⟨A'.size, fun i x hi => ⟨(slot i x hi).2, (A'.at_ i x (slot i x hi).1).2⟩, A'.defers⟩, R'.os.trans hle.2.1, R'.out.trans hle.2.2.1, R'.tape.trans hle.2.2.2, fun k o hk => R'.mem k o (hle.1 k o hk), fun i B hi => ?_, fun i i' B B' hi hi' he => R'.inj i i' B B' (blk i B hi).1 (blk i' B' hi').1 he, fun i B hi => ?_, fun k o hk => ?_, fun i B hi => ?_, fun k o hk => ?_⟩
      · exact ⟨(blk i B hi).2.1, (blk i B hi).2.2, (R'.blk i B (blk i B hi).1).2.2⟩
      · have := R'.apart i B (blk i B hi).1
        show h.M.blk (ρ' i).blk = none
        cases hb : h.M.blk (ρ' i).blk with
        | none => rfl
        | some o => rw [hle.1 _ o hb] at this; cases this
      · have hk : (S.ar g).blk k = some o := hk
        rw [← h3] at hk
        exact R'.are k o hk
      · show (S.ar g).blk (ρ' i).blk = none
        rw [← h3]; exact R'.aprA i B (blk i B hi).1
      · have hk : (S.ar g).blk k = some o := hk
        rw [← h3] at hk
        have := R'.disj k o hk
        show h.M.blk k = none
        cases hb : h.M.blk k with
        | none => rfl
        | some o' => rw [hle.1 _ o' hb] at this; cases this
    have key : ∀ (m : Nat) (g : S.γ) (ρ1 : Nat → Loc) (a1 : Act) (w1 : World), S.mu g < m → S.G g → Ext ρ ρ1 h.nx → ARel dfs ρ1 (putT (S.sl g) (takeT tm S.keepS .e)) sz h.nx a1 → HRel ρ1 ⟨putT (S.bl g) (takeT h.H S.keepB .e), h.nx, h.M.put (S.ar g)⟩ w1 →
        Code.rounds P b (Exit.inBlock id (GoesX dfs ρ h sz K)) m a1 w1 := by
      intro m
      induction m with
      | zero => intro g ρ1 a1 w1 hm; omega
      | succ m ih =>
        intro g ρ1 a1 w1 hlt hG hx1 A1 R1
        obtain ⟨_, _, hrun⟩ := hk g hG
        rw [rounds_succ]
        refine wp_mono ((sxCode_wp hm hC hΛ n).1 f sz b _ _ _ (hW.to .block |>.to .loop) hrun dfs ρ1 a1 w1 A1 R1) fun e a' w' gx => ?_
        have fin : ∀ {tm' : T SV} {h' : HS} {ρ' : Nat → Loc}, Ext ρ1 ρ' h.nx → h.nx ≤ h'.nx → (h.M.put (S.ar g)).le h'.M → Ext ρ ρ' h.nx ∧ h.nx ≤ h'.nx ∧ h.M.le h'.M := fun hx hn hle => ⟨hx1.trans hx (Nat.le_refl _), hn, hle⟩
        cases e with
        | normal =>
          obtain ⟨tm', h', ρ', hk', A', R', hx, hn, hle⟩ := gx
          obtain ⟨g', hAt, hmu, hs1, hs2⟩ := (h'.M.X.hD _).1 hk'
          obtain ⟨A2, R2⟩ := state g' tm' h' ρ' a' w' hAt hs1 hs2 A' R' (hx1.trans hx (Nat.le_refl _)) hle
          exact ih g' ρ' a' w' (by omega) hAt.1 (hx1.trans hx (Nat.le_refl _)) A2 R2
        | exit i =>
          obtain ⟨tm', h', ρ', hk', A', R', hx, hn, hle⟩ := gx
          have hk2 : (bif Nat.beq i id then K .nrm tm' h' else K (.ext i) tm' h') = true := hk'
          show Exit.inBlock id (GoesX dfs ρ h sz K) (.exit i) a' w'
          cases hb : Nat.beq i id with
          | true =>
            rw [hb] at hk2
            have := Nat.eq_of_beq_eq_true hb
            subst this
            simp only [Exit.inBlock, if_true]
            exact ⟨tm', h', ρ', hk2, A', R', hx1.trans hx (Nat.le_refl _), hn, hle⟩
          | false =>
            rw [hb] at hk2
            have hne : i ≠ id := fun e => by rw [e, Nat.beq_refl] at hb; cases hb
            simp only [Exit.inBlock, hne, if_false]
            exact ⟨tm', h', ρ', hk2, A', R', hx1.trans hx (Nat.le_refl _), hn, hle⟩
        | ret =>
          obtain ⟨tm', h', ρ', hk', A', R', hx, hn, hle⟩ := gx
          exact ⟨tm', h', ρ', hk', A', R', hx1.trans hx (Nat.le_refl _), hn, hle⟩
        | goto l => exact gx.elim
        | panic c =>
          obtain ⟨x, tm', h', ρ', e, l, hk', A', R', hx, hn, hle⟩ := gx
          exact ⟨x, tm', h', ρ', e, l, hk', A', R', hx1.trans hx (Nat.le_refl _), hn, hle⟩
        | outgrown => exact gx.elim
    obtain ⟨A0, R0⟩ := state g0 tm h ρ a w h0 (by
      generalize S.keepS = l
      induction l with
      | nil => trivial
      | cons i is ih => exact ⟨rfl, ih⟩) (by
      generalize S.keepB = l
      induction l with
      | nil => trivial
      | cons i is ih => exact ⟨rfl, ih⟩) A R (Ext.refl _ _) (Mem.le_refl _)
    refine wp_block (wp_loop_rounds (S.mu g0 + 1) (key (S.mu g0 + 1) g0 ρ a w (Nat.lt_succ_self _) h0.1 (Ext.refl _ _) A0 R0))
  · exact absurd hk Bool.false_ne_true

/-- A table of told blocks, one behind the other. -/
structure LEnt where
  f : FuncId
  id : Nat
  lt : LT

def lookL (l : List LEnt) (f : FuncId) (id : Nat) : Option LT := match l with
  | [] => none
  | x :: xs => bif Nat.beq f x.f && Nat.beq id x.id then some x.lt else lookL xs f id

def LEnt.Ok (P : Program) (x : LEnt) : Prop := ∀ c sz K tm h, Within P x.f (.block x.id c) → x.lt c sz K tm h → ∀ dfs ρ a w, ARel dfs ρ tm sz h.nx a → HRel ρ h w → (Code.block x.id c).wp P (GoesX dfs ρ h sz K) a w

def tabL (l : List LEnt) : LTab := ⟨lookL l, fun _ => false, fun _ _ => none⟩

theorem tabL_sound {P : Program} {l : List LEnt} (h : ∀ x ∈ l, x.Ok P) : LTSound P (tabL l) := by
  intro f id lt hl
  change lookL l f id = some lt at hl
  revert hl
  induction l with
  | nil => intro hl; cases hl
  | cons x xs ih =>
    intro hl
    simp only [lookL] at hl
    cases hb : Nat.beq f x.f && Nat.beq id x.id with
    | false => rw [hb] at hl; exact ih (fun y hy => h y (List.mem_cons_of_mem _ hy)) hl
    | true =>
      rw [hb] at hl
      simp only [Bool.and_eq_true] at hb
      simp only [cond_true, Option.some.injEq] at hl
      subst hl
      have e1 := Nat.eq_of_beq_eq_true hb.1
      have e2 := Nat.eq_of_beq_eq_true hb.2
      subst e1; subst e2
      exact h x List.mem_cons_self

def loopE (P : Program) (C : FuncId → Option CT) (Λ : LTab) (n : Nat) (f : FuncId) (id : Nat) : LEnt := ⟨f, id, loopLT P C Λ n f id⟩

theorem loopE_ok {P : Program} (hm : P.follows .mixedOrders = true) {C : FuncId → Option CT} (hC : CTSound P C) {Λ : LTab} (hΛ : LTSound P Λ) (n : Nat) (f : FuncId) (id : Nat) : (loopE P C Λ n f id).Ok P :=
  fun _ _ _ _ _ hW hk _ _ _ _ A R => loopLT_sound hm hC hΛ n f id hW hk A R

/-- A table of loops, with those within. -/
def tabO (P : Program) (C : FuncId → Option CT) (Λ : LTab) (n : Nat) (l : List (FuncId × Nat)) : LTab := tabL (l.map fun x => loopE P C Λ n x.1 x.2)

theorem tabO_sound {P : Program} (hm : P.follows .mixedOrders = true) {C : FuncId → Option CT} (hC : CTSound P C) {Λ : LTab} (hΛ : LTSound P Λ) (n : Nat) (l : List (FuncId × Nat)) : LTSound P (tabO P C Λ n l) :=
  tabL_sound fun x hx => by
    obtain ⟨y, _, rfl⟩ := List.mem_map.1 hx
    exact loopE_ok hm hC hΛ n y.1 y.2

/-- A table of contracts. -/
structure CEnt where
  f : FuncId
  ct : CT

def lookC (l : List CEnt) (C : FuncId → Option CT) : FuncId → Option CT := fun f => match l with
  | [] => C f
  | x :: xs => bif Nat.beq f x.f then some x.ct else lookC xs C f

def CEnt.Ok (P : Program) (x : CEnt) : Prop := ∀ args h K, x.ct args h K → ∀ ρ w, HRel ρ h w → (∀ x ∈ args, x.lt ρ h.nx) → CallGoes P x.f (args.map (SV.den ρ)).toArray w (Post ρ h K) fun _ _ => False

theorem lookC_sound {P : Program} {C : FuncId → Option CT} (hC : CTSound P C) : ∀ {l : List CEnt}, (∀ x ∈ l, x.Ok P) → CTSound P (lookC l C)
  | [], _ => hC
  | x :: xs, h => by
    intro f ct hf
    simp only [lookC] at hf
    cases hb : Nat.beq f x.f with
    | false => rw [hb] at hf; exact lookC_sound hC (fun y hy => h y (List.mem_cons_of_mem _ hy)) f ct hf
    | true =>
      rw [hb] at hf
      simp only [cond_true, Option.some.injEq] at hf
      subst hf
      have e1 := Nat.eq_of_beq_eq_true hb
      subst e1
      exact h x List.mem_cons_self

def specE (f : FuncId) (S : FSpec) : CEnt := ⟨f, ctS S⟩

theorem specE_ok {P : Program} {f : FuncId} {S : FSpec} (h : FOk P f S) : (specE f S).Ok P := fun _ _ _ hk _ _ R _ => ctS_goes h hk R

/-! ### Steps of a proof: what a run is stuck at -/

theorem split_b {t : Bool} {A B : Bool} (h1 : t = true → A = true) (h2 : t = false → B = true) : (bif t then A else B) = true := by
  cases t
  · exact h2 rfl
  · exact h1 rfl

theorem split_dec {p : Prop} {i : Decidable p} {A B : Bool} (h1 : p → A = true) (h2 : ¬ p → B = true) : (bif decide p then A else B) = true := by
  by_cases h : p
  · rw [decide_eq_true h]; exact h1 h
  · rw [decide_eq_false h]; exact h2 h

theorem split_in {n : Int} {l : Nat} {A B : Bool} (h1 : 0 ≤ n → n < l → A = true) (h2 : ¬ (0 ≤ n ∧ n < l) → B = true) : (bif inRange n l then A else B) = true := by
  by_cases h : 0 ≤ n ∧ n < l
  · rw [inRange_iff.2 h]; exact h1 h.1 h.2
  · have : inRange n l = false := by
      cases hb : inRange n l with
      | false => rfl
      | true => exact absurd (inRange_iff.1 hb) h
    rw [this]; exact h2 h

theorem go_b {t : Bool} {A B : Bool} (h : t = true) (h1 : A = true) : (bif t then A else B) = true := by rw [h]; exact h1

theorem go_dec {p : Prop} {i : Decidable p} {A B : Bool} (h : p) (h1 : A = true) : (bif decide p then A else B) = true := by rw [decide_eq_true h]; exact h1

theorem no_dec {p : Prop} {i : Decidable p} {A B : Bool} (h : ¬ p) (h1 : B = true) : (bif decide p then A else B) = true := by rw [decide_eq_false h]; exact h1

theorem go_in {n : Int} {l : Nat} {A B : Bool} (h : 0 ≤ n ∧ n < l) (h1 : A = true) : (bif inRange n l then A else B) = true := by rw [inRange_iff.2 h]; exact h1

theorem go_D {D : Prop → Bool} (hD : ∀ p, D p = true ↔ p) {p : Prop} {A B : Bool} (hp : p) (h1 : A = true) : (bif D p then A else B) = true := by rw [(hD p).2 hp]; exact h1

theorem go_rd {r : Option (List Value)} {vs : List Value} {F : List Value → Bool} (h : r = some vs) (h1 : F vs = true) : rdK r F = true := by rw [h]; exact h1

end
end Go.Sx
