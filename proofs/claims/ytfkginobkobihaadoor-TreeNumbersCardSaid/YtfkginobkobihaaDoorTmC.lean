/-
  TreeNumbers: the walk, by the executor: the law's text gives true, in whichever order maps are walked.
-/
import Derived.Test.YtfkginobkobihaaDoorTmR1
import Derived.Test.YtfkginobkobihaaDoorTmR2
import Derived.Test.YtfkginobkobihaaDoorTmS1
import Derived.Test.YtfkginobkobihaaDoorTmS2
import Derived.Test.YtfkginobkobihaaDoorTmW
namespace Go.Proofs.YtfkginobkobihaaDoor
open Go.Sx Go.RowKit
noncomputable section

def rnds : List St := [rnd 0, rnd 1, rnd 2, rnd 3, rnd 4, rnd 5, rnd 6, rnd 7]

def tabSame : List En := [entB 3 nR nA nC false, entB 3 nR nC nA false, entB 3 nA nR nC false, entB 3 nA nC nR false, entB 3 nC nR nA false, entB 3 nC nA nR false, entB 2 nR nA nC true, entB 2 nR nC nA true, entB 2 nA nR nC true, entB 2 nA nC nR true, entB 2 nC nR nA true, entB 2 nC nA nR true]

def tabAwake : List En := [⟨[], [], 0, true⟩]

/-- The functions whose answers are known. -/
def C1 : FuncId → Option CT := fun f => bif Nat.beq f 14 then some (frameBT glIs tabSame) else bif Nat.beq f 18 then some (frameBT glIs tabAwake) else C0 f

theorem C1_sound : CTSound Tryd.prog C1 := by
  intro f ct h args h0 K hk ρ w H hargs
  unfold C1 at h
  cases h1 : Nat.beq f 14 with
  | true =>
    rw [h1] at h
    have := Nat.eq_of_beq_eq_true h1
    subst this
    simp only [cond_true, Option.some.injEq] at h
    subst h
    refine frameBT_goes mixed C0_sound (mgL_sound _ mg) (n := 400) (fun E hE M hg => ?_) hk H hargs
    obtain ⟨blk, os, out, tape, gl, gok⟩ := M
    have := glIs_eq hg
    subst this
    simp only [tabSame, List.mem_cons, List.not_mem_nil, or_false] at hE
    rcases hE with rfl | rfl | rfl | rfl | rfl | rfl | rfl | rfl | rfl | rfl | rfl | rfl
    · exact other0 ..
    · exact other1 ..
    · exact other2 ..
    · exact other3 ..
    · exact other4 ..
    · exact other5 ..
    · exact same0 ..
    · exact same1 ..
    · exact same2 ..
    · exact same3 ..
    · exact same4 ..
    · exact same5 ..
  | false =>
    rw [h1] at h
    simp only [cond_false] at h
    cases h2 : Nat.beq f 18 with
    | true =>
      rw [h2] at h
      have := Nat.eq_of_beq_eq_true h2
      subst this
      simp only [cond_true, Option.some.injEq] at h
      subst h
      refine frameBT_goes mixed C0_sound (mgL_sound _ mg) (n := 400) (fun E hE M hg => ?_) hk H hargs
      obtain ⟨blk, os, out, tape, gl, gok⟩ := M
      have := glIs_eq hg
      subst this
      simp only [tabAwake, List.mem_singleton] at hE
      subst hE
      exact awake1 ..
    | false =>
      rw [h2] at h
      simp only [cond_false] at h
      exact C0_sound f ct h args h0 K hk ρ w H hargs

/-- What is forgotten ahead of some regions: all that lay behind the rounds; then all but u and what is told of it; and the copy beside. -/
def gone : List (Nat × Nat × List Nat) := [(3, 1000033, []), (3, 1000037, [11, 12, 13]), (3, 1000039, [11, 12, 13, 15])]

def told : LTab := ⟨fun f id => bif Nat.beq f 3 then (bif Nat.beq id 1 then some (toldLT glIs 253 rnds) else none) else none, fun f => memN f mg, fun f id => gcOf f id gone⟩

theorem block1 : (blockAt Tryd.prog 3 1).isSome = true := by kernel_rfl

theorem told_ok : LTSound Tryd.prog told := by
  intro f id lt h c sz K tm hs hW hk ρ a w A R
  simp only [told] at h
  cases h1 : Nat.beq f 3 with
  | false => rw [h1] at h; cases h
  | true =>
    rw [h1] at h
    simp only [cond_true] at h
    cases h2 : Nat.beq id 1 with
    | false => rw [h2] at h; cases h
    | true =>
      rw [h2] at h
      simp only [cond_true, Option.some.injEq] at h
      subst h
      have e1 := Nat.eq_of_beq_eq_true h1
      have e2 := Nat.eq_of_beq_eq_true h2
      subst e1; subst e2
      obtain ⟨c0, hc0⟩ := Option.isSome_iff_exists.1 block1
      refine told_sound mixed C0_sound (mgL_sound _ mg) (n := 400) hc0 (fun S hS M hg => ?_) hW hk A R
      obtain ⟨blk, os, out, tape, gl, gok⟩ := M
      have := glIs_eq hg
      subst this
      simp only [rnds, List.mem_cons, List.not_mem_nil, or_false] at hS
      rcases hS with rfl | rfl | rfl | rfl | rfl | rfl | rfl | rfl
      · exact round0 ..
      · exact round1 ..
      · exact round2 ..
      · exact round3 ..
      · exact round4 ..
      · exact round5 ..
      · exact round6 ..
      · exact round7 ..

set_option maxRecDepth 100000 in
theorem tm1 (w : World) (hg : Has w) : sxCall Tryd.prog C1 told 400 3 [] ⟨.e, 0, memH w hg⟩ (fun r _ => isT r) = true := by kernel_rfl

set_option maxRecDepth 100000 in
theorem treeNumbers1 (w : World) (hg : Has w) : Calls Tryd.prog 3 #[] w fun e w' => e = .returned (.bool true) ∧ Below w.heap.size w w' := by
  have hn : (Tryd.f3.name == "runtime.NumGoroutine") = false := by kernel_rfl
  have hb : Tryd.f3.body.isSome = true := by kernel_rfl
  exact true_of_sx (n := 400) mixed C1_sound told_ok Tryd.func3 hn hb [] w (came_g w _ hg) (lt_vals _ _ []) (tm1 w hg)

end
end Go.Proofs.YtfkginobkobihaaDoor
