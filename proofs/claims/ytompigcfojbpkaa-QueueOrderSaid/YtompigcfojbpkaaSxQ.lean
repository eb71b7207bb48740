/-
  From the executor to a row: what lay when the call began lies as it lay; the row's step over that.
-/
import Derived.Test.YtompigcfojbpkaaSxO
import Derived.ChangeSame
namespace Go.Sx
noncomputable section
open Go.RowKit Go.ChangeShapes Go.WideShapes

/-- What lay lies as it lay. -/
theorem stays_of_post {ρ : Nat → Loc} {w w' : World} {nx : Nat} {H : T SBlk} {K : SV → HS → Bool} {v : Value} {M : Mem} (hM : Came w M) (h : Post ρ ⟨H, nx, M⟩ K v w') : Below w.heap.size w w' := by
  obtain ⟨z, h', ρ', _, _, _, R, _, _, hm⟩ := h
  have hb : ∀ k, k < w.heap.size → w'.heap[k]? = w.heap[k]? := fun k hk => by
    have h0 : w.heap[k]? = some w.heap[k] := Array.getElem?_eq_getElem hk
    have h1 : M.blk k = some w.heap[k] := by rw [hM.blk]; exact h0
    rw [R.mem k _ (hm.1 k _ h1)]
    exact h0.symm
  refine ⟨R.os.trans (hm.2.1.trans hM.os), R.tape.trans (hm.2.2.2.trans hM.tape), R.out.trans (hm.2.2.1.trans hM.out), ?_, hb⟩
  rcases Nat.eq_zero_or_pos w.heap.size with h0 | h0
  · omega
  · have h1 := hb (w.heap.size - 1) (by omega)
    have h2 : (w.heap[w.heap.size - 1]?) = some w.heap[w.heap.size - 1] := Array.getElem?_eq_getElem (by omega)
    rw [h2] at h1
    have := (Array.getElem?_eq_some_iff.1 h1).1
    omega

/-- Is it true? -/
def isT (r : SV) : Bool := match r with
  | .v (.bool b) => b
  | _ => false

theorem isT_eq {r : SV} (h : isT r = true) : r = .v (.bool true) := by
  unfold isT at h
  split at h
  · subst h; rfl
  · cases h

/-- A call that gives true, whatever lay. -/
theorem true_of_goes {P : Program} {f : FuncId} {fn : Func} (hf : P.funcs[f]? = some fn) (hn : (fn.name == "runtime.NumGoroutine") = false) (hb : fn.body.isSome = true)
    {args : Array Value} {w : World} {ρ : Nat → Loc} {nx : Nat} {H : T SBlk} {M : Mem} (hM : Came w M) (h : CallGoes P f args w (Post ρ ⟨H, nx, M⟩ fun r _ => isT r) fun _ _ => False) :
    Calls P f args w fun e w' => e = .returned (.bool true) ∧ Below w.heap.size w w' := by
  refine (calls_of_goes h hf hn hb).mono fun e w' ⟨v, he, hp⟩ => ?_
  have hs := stays_of_post hM hp
  obtain ⟨z, h', ρ', hk, hv, _⟩ := hp
  have hk := isT_eq hk
  subst hk
  exact ⟨by rw [he, hv]; rfl, hs⟩

theorem lt_vals (ρ : Nat → Loc) (n : Nat) (l : List Value) : ∀ x ∈ l.map SV.v, x.lt ρ n := by
  intro x hx
  obtain ⟨y, _, rfl⟩ := List.mem_map.1 hx
  exact True.intro

/-- The same, out of the executor. -/
theorem true_of_sx {P : Program} (hm : P.follows .mixedOrders = true) {C : FuncId → Option CT} (hC : CTSound P C) {Λ : LTab} (hΛ : LTSound P Λ) {n : Nat} {f : FuncId} {fn : Func} (hf : P.funcs[f]? = some fn) (hn : (fn.name == "runtime.NumGoroutine") = false) (hb : fn.body.isSome = true)
    (args : List SV) (w : World) {M : Mem} (hM : Came w M) (hl : ∀ x ∈ args, x.lt (fun _ => ⟨0, 0, 0⟩) 0) (hk : sxCall P C Λ n f args ⟨.e, 0, M⟩ (fun r _ => isT r)) :
    Calls P f (args.map (SV.den fun _ => ⟨0, 0, 0⟩)).toArray w fun e w' => e = .returned (.bool true) ∧ Below w.heap.size w w' :=
  true_of_goes hf hn hb hM (sxCall_sound hm hC hΛ n f args _ _ hk _ w (hrel_came hM) hl)

section
variable {H : Type} {enc : TypeId × Value → H} {P : Program}

/-- The row's step where what lay lies as it lay (new blocks may be of whatever kind). -/
theorem post_of_stays {f : Func} {s : ChangeSpec} {apart fresh handsOn again : Bool} {W W' : World} {args : Array Value} {v : Value} {ds gs : List (DataW H)} {before pa pv : List MemPlace}
    (hW : DataW.Whole enc P f.params.toList s.vars apart W args.toList ds gs before)
    (hres : ∀ (b : Nat) (sp : Nat → Bool) (hd : Bool), DataW.TrodAll enc P W' b sp hd f.resultTypes.toList (v.resultList f.resultTypes.size) (s.fn H (ds ++ gs)).results [])
    (hargs : ∀ sp : Nat → Bool, (∀ p ∈ before, sp p.block = true) → DataW.TrodAll enc P W' 0 sp true f.params.toList args.toList (s.fn H (ds ++ gs)).args pa)
    (hvars : ∀ sp : Nat → Bool, (∀ p ∈ before, sp p.block = true) → DataW.TrodVars enc P W' sp s.vars (s.fn H (ds ++ gs)).vars pv)
    (hps : before = pa ++ pv) (hk : Below W.heap.size W W')
    (hok : ∀ (j : Nat) (t : TypeId) (r : Value), f.resultTypes[j]? = some t → (v.resultList f.resultTypes.size)[j]? = some r → Value.okWide P W' .any 0 t r) :
    s.post enc P f apart fresh handsOn again W args v W' := by
  have hlt : ∀ p ∈ before, p.block < W.heap.size := fun p hp => hW.lt p hp
  have hold : ∀ p ∈ before, (fun b => decide (b < W.heap.size)) p.block = true := fun p hp => by simpa using hlt p hp
  refine ⟨ds, gs, before, [], pa, pv, hW, hres _ _ _, hargs _ hold, hvars _ hold, World.keptBut_mono (fun p hp => ⟨hp, ?_⟩) (hk.frame (· ∈ before)), fun _ => ?_⟩
  · rw [hps, List.mem_append] at hp
    exact Or.inr hp
  · obtain ⟨_, _, _, _, _, hz, hn⟩ := hW
    refine ⟨hok, _, _, ([] ++ pa) ++ pv, ⟨[] ++ pa, pv, trodAll_append (hargs _ (fun _ _ => rfl)) (hres _ _ _), hvars _ (fun _ _ => rfl), rfl, ?_, ?_⟩, ?_⟩
    · intro b off hp
      have hp' : MemPlace.cell b off ∈ before := by rw [hps]; simpa using hp
      rw [hk.frozen (hlt _ hp')]
      exact hz b off hp'
    · intro ha
      have := hn ha
      rw [hps] at this
      simpa using this
    · intro p hp _
      rw [hps]
      simpa using hp

end

end
end Go.Sx
