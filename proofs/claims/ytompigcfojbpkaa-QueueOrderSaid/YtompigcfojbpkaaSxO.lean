/-
  The symbolic executor: contracts out of the kit's words: a call that leaves all that lay; an entry.
-/
import Derived.Test.YtompigcfojbpkaaSxN
namespace Go.Sx
noncomputable section
open Go.RowKit

theorem HRel.below {ρ : Nat → Loc} {h : HS} {w w' : World} (H : HRel ρ h w) (hb : Below w.heap.size w w') : HRel ρ h w' where
  os := hb.os.trans H.os
  out := hb.output.trans H.out
  tape := hb.tape.trans H.tape
  mem := fun k o hk => by
    have h1 := H.mem k o hk
    rw [hb.block k (Array.getElem?_eq_some_iff.1 h1).1]; exact h1
  blk := fun b B hB => by
    obtain ⟨h1, h2, h3⟩ := H.blk b B hB
    exact ⟨h1, h2, h3.of (Ext.refl ρ h.nx) h2 (hb.block _ h3.size)⟩
  inj := H.inj
  apart := H.apart
  are := fun k o hk => by
    have h1 := H.are k o hk
    rw [hb.block k (Array.getElem?_eq_some_iff.1 h1).1]; exact h1
  aprA := H.aprA
  disj := H.disj

/-- A call that hands back a value which names no memory, and leaves all that lay. -/
theorem goes_of_below {P : Program} {f : FuncId} {fn : Func} (hf : P.funcs[f]? = some fn) (hn : (fn.name == "runtime.NumGoroutine") = false) (hb : fn.body.isNone = false)
    {args : Array Value} {w : World} {x : Value} (hc : Calls P f args w fun e w' => e = .returned x ∧ Below w.heap.size w w')
    {ρ : Nat → Loc} {h : HS} (H : HRel ρ h w) {K : SV → HS → Bool} {z : SV} (hk : K z h) (hz : z.den ρ = x) (hl : z.lt ρ h.nx) {Ψ : Value → World → Prop} : CallGoes P f args w (Post ρ h K) Ψ :=
  .inl ⟨fn, hf, ⟨hn, hb⟩, hc.mono fun _ _ ⟨he, hw⟩ => .inl ⟨x, he, z, h, ρ, hk, hz.symm, hl, H.below hw, Ext.refl _ _, Nat.le_refl _, Mem.le_refl _⟩⟩

/-- An entry of the model's that gives a value at once. -/
theorem goes_of_entry {P : Program} {f : FuncId} {args : Array Value} {w : World} {x : Value} (hc : (callFunc f args).run P w = .ok (.value x) w)
    {ρ : Nat → Loc} {h : HS} (H : HRel ρ h w) {K : SV → HS → Bool} {z : SV} (hk : K z h) (hz : z.den ρ = x) (hl : z.lt ρ h.nx) {Ψ : Value → World → Prop} : CallGoes P f args w (Post ρ h K) Ψ :=
  .inr ⟨x, w, hc, z, h, ρ, hk, hz.symm, hl, H, Ext.refl _ _, Nat.le_refl _, Mem.le_refl _⟩

/-- What a call shows, out of the executor. -/
theorem calls_of_goes {P : Program} {f : FuncId} {args : Array Value} {w : World} {Φ : Value → World → Prop} (h : CallGoes P f args w Φ fun _ _ => False) {fn : Func} (hf : P.funcs[f]? = some fn)
    (hn : (fn.name == "runtime.NumGoroutine") = false) (hb : fn.body.isSome = true) : Calls P f args w fun e w' => ∃ v, e = .returned v ∧ Φ v w' := by
  rcases h with ⟨_, _, _, h⟩ | ⟨v, w', hv, h⟩
  · exact h.mono fun e w' hor => by
      rcases hor with h | ⟨_, _, h⟩
      · exact h
      · exact h.elim
  · have h1 : fn.name ≠ "runtime.NumGoroutine" := by simpa using hn
    obtain ⟨c, hc⟩ := Option.isSome_iff_exists.1 hb
    have e : (callFunc f args).run P w = .ok (.enter f args) w := by simp [callFunc, hf, h1, hc, mark]
    rw [e] at hv
    cases hv

/-- The heap as it came in, all of it to stay. -/
def memOf (w : World) : Mem := { blk := fun k => w.heap[k]?, os := w.os, out := w.output, tape := w.tape, gl := [], glok := fun _ _ h => (by cases h), X := .none }

/-- The same, with what is known of some blocks. -/
def memG (w : World) (gl : List (Nat × List Value)) (hg : ∀ g cs, (g, cs) ∈ gl → ∃ c t fz, w.heap[g]? = some (.cells c t fz) ∧ ∀ (i : Nat) v, cs[i]? = some v → c[i]? = some v) : Mem :=
  { blk := fun k => w.heap[k]?, os := w.os, out := w.output, tape := w.tape, gl := gl, glok := hg, X := .none }

/-- Memory as it came in. -/
structure Came (w : World) (M : Mem) : Prop where
  blk : M.blk = fun k => w.heap[k]?
  os : M.os = w.os
  out : M.out = w.output
  tape : M.tape = w.tape
  are : M.A.blk = fun _ => none

theorem came_of (w : World) : Came w (memOf w) := ⟨rfl, rfl, rfl, rfl, rfl⟩
theorem came_g (w : World) (gl : List (Nat × List Value)) (hg : ∀ g cs, (g, cs) ∈ gl → ∃ c t fz, w.heap[g]? = some (.cells c t fz) ∧ ∀ (i : Nat) v, cs[i]? = some v → c[i]? = some v) : Came w (memG w gl hg) := ⟨rfl, rfl, rfl, rfl, rfl⟩

theorem hrel_came {w : World} {M : Mem} (h : Came w M) : HRel (fun _ => ⟨0, 0, 0⟩) ⟨.e, 0, M⟩ w where
  os := h.os.symm
  out := h.out.symm
  tape := h.tape.symm
  mem := fun k o hk => by
    have hk : M.blk k = some o := hk
    rw [h.blk] at hk; exact hk
  blk := fun b B h => by rw [T.get_e] at h; cases h
  inj := fun b b' B B' h => by rw [T.get_e] at h; cases h
  apart := fun b B h => by rw [T.get_e] at h; cases h
  are := fun k o hk => by
    have hk : M.A.blk k = some o := hk
    rw [h.are] at hk; cases hk
  aprA := fun b B h => by rw [T.get_e] at h; cases h
  disj := fun k o hk => by
    have hk : M.A.blk k = some o := hk
    rw [h.are] at hk; cases hk

theorem hrel_start (w : World) : HRel (fun _ => ⟨0, 0, 0⟩) ⟨.e, 0, memOf w⟩ w where
  os := rfl
  out := rfl
  tape := rfl
  mem := fun _ _ h => h
  blk := fun b B h => by rw [T.get_e] at h; cases h
  inj := fun b b' B B' h => by rw [T.get_e] at h; cases h
  apart := fun b B h => by rw [T.get_e] at h; cases h
  are := fun k o hk => by cases hk
  aprA := fun b B h => by rw [T.get_e] at h; cases h
  disj := fun k o hk => by cases hk

end
end Go.Sx
