/-
  LinesNumbers: the chapter's examples are true.
-/
import Derived.Test.YtbmloajiedchjaaGreatDoorTlB
namespace Go.Proofs.YtbmloajiedchjaaGreatDoor
open Go.Sx Go.RowKit
noncomputable section

set_option maxRecDepth 100000 in
theorem awake1 : Known C0 9 ⟨[], [], 0, true⟩ := by intro a4 a5 blk os out tape gok; kernel_rfl

def tabAwake : List En := [⟨[], [], 0, true⟩]

/-- The functions whose answers are known. -/
def C1 : FuncId → Option CT := fun f => bif Nat.beq f 9 then some (frameBT glIs tabAwake) else C0 f

theorem C1_sound : CTSound Tryz.prog C1 := by
  intro f ct h args h0 K hk ρ w H hargs
  unfold C1 at h
  cases h1 : Nat.beq f 9 with
  | true =>
    rw [h1] at h
    have := Nat.eq_of_beq_eq_true h1
    subst this
    simp only [cond_true, Option.some.injEq] at h
    subst h
    refine frameBT_goes mixed C0_sound (mgL_sound _ mg) (n := 400) (fun E hE M hg => ?_) hk H hargs
    obtain ⟨blk, os, out, tape, gl, gok⟩ := M
    obtain ⟨a4, a5, he⟩ := glIs_eq hg
    subst he
    simp only [tabAwake, List.mem_singleton] at hE
    subst hE
    exact awake1 ..
  | false =>
    rw [h1] at h
    exact C0_sound f ct h args h0 K hk ρ w H hargs

end
end Go.Proofs.YtbmloajiedchjaaGreatDoor
