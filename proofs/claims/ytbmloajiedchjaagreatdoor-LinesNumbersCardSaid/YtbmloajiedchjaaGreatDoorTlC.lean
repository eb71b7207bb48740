/-
  LinesNumbers: the walk, by the executor.
-/
import Derived.Test.YtbmloajiedchjaaGreatDoorTlR1
import Derived.Test.YtbmloajiedchjaaGreatDoorTlR2
import Derived.Test.YtbmloajiedchjaaGreatDoorTlR3
import Derived.Test.YtbmloajiedchjaaGreatDoorTlR4
import Derived.Test.YtbmloajiedchjaaGreatDoorTlR5
import Derived.Test.YtbmloajiedchjaaGreatDoorTlR6
import Derived.Test.YtbmloajiedchjaaGreatDoorTlR7
import Derived.Test.YtbmloajiedchjaaGreatDoorSxW
namespace Go.Proofs.YtbmloajiedchjaaGreatDoor
open Go.Sx Go.RowKit
noncomputable section

def rnds1 : List St := [S1 0, S1 1, S1 2, S1 3, S1 4, S1 5, S1 6, S1 7, S1 8, S1 9]

theorem block1 : (blockAt Tryz.prog 3 1).isSome = true := by kernel_rfl

theorem all1 : ∀ S ∈ rnds1, ∀ M : Mem, glIs M.gl = true → roundK Tryz.prog C1 (mgL mg) 400 3 1 221 S M = true := by
  intro S hS M hg
  obtain ⟨blk, os, out, tape, gl, gok⟩ := M
  obtain ⟨a4, a5, he⟩ := glIs_eq hg
  subst he
  simp only [rnds1, List.mem_cons, List.not_mem_nil, or_false] at hS
  rcases hS with rfl | rfl | rfl | rfl | rfl | rfl | rfl | rfl | rfl | rfl
  · exact r1_0 ..
  · exact r1_1 ..
  · exact r1_2 ..
  · exact r1_3 ..
  · exact r1_4 ..
  · exact r1_5 ..
  · exact r1_6 ..
  · exact r1_7 ..
  · exact r1_8 ..
  · exact r1_9 ..

def rnds5 : List St := [S5 0, S5 1, S5 2, S5 3, S5 4, S5 5, S5 6, S5 7, S5 8, S5 9, S5 10, S5 11, S5 12, S5 13, S5 14]

theorem block5 : (blockAt Tryz.prog 3 5).isSome = true := by kernel_rfl

theorem all5 : ∀ S ∈ rnds5, ∀ M : Mem, glIs M.gl = true → roundK Tryz.prog C1 (mgL mg) 400 3 5 221 S M = true := by
  intro S hS M hg
  obtain ⟨blk, os, out, tape, gl, gok⟩ := M
  obtain ⟨a4, a5, he⟩ := glIs_eq hg
  subst he
  simp only [rnds5, List.mem_cons, List.not_mem_nil, or_false] at hS
  rcases hS with rfl | rfl | rfl | rfl | rfl | rfl | rfl | rfl | rfl | rfl | rfl | rfl | rfl | rfl | rfl
  · exact r5_0 ..
  · exact r5_1 ..
  · exact r5_2 ..
  · exact r5_3 ..
  · exact r5_4 ..
  · exact r5_5 ..
  · exact r5_6 ..
  · exact r5_7 ..
  · exact r5_8 ..
  · exact r5_9 ..
  · exact r5_10 ..
  · exact r5_11 ..
  · exact r5_12 ..
  · exact r5_13 ..
  · exact r5_14 ..

def rnds7 : List St := [S7 0, S7 1, S7 2, S7 3, S7 4, S7 5, S7 6, S7 7, S7 8, S7 9, S7 10, S7 11, S7 12, S7 13, S7 14, S7 15, S7 16, S7 17, S7 18, S7 19, S7 20, S7 21, S7 22, S7 23, S7 24, S7 25, S7 26, S7 27, S7 28, S7 29, S7 30, S7 31, S7 32, S7 33, S7 34]

theorem block7 : (blockAt Tryz.prog 3 7).isSome = true := by kernel_rfl

theorem all7 : ∀ S ∈ rnds7, ∀ M : Mem, glIs M.gl = true → roundK Tryz.prog C1 (mgL mg) 400 3 7 221 S M = true := by
  intro S hS M hg
  obtain ⟨blk, os, out, tape, gl, gok⟩ := M
  obtain ⟨a4, a5, he⟩ := glIs_eq hg
  subst he
  simp only [rnds7, List.mem_cons, List.not_mem_nil, or_false] at hS
  rcases hS with rfl | rfl | rfl | rfl | rfl | rfl | rfl | rfl | rfl | rfl | rfl | rfl | rfl | rfl | rfl | rfl | rfl | rfl | rfl | rfl | rfl | rfl | rfl | rfl | rfl | rfl | rfl | rfl | rfl | rfl | rfl | rfl | rfl | rfl | rfl
  · exact r7_0 ..
  · exact r7_1 ..
  · exact r7_2 ..
  · exact r7_3 ..
  · exact r7_4 ..
  · exact r7_5 ..
  · exact r7_6 ..
  · exact r7_7 ..
  · exact r7_8 ..
  · exact r7_9 ..
  · exact r7_10 ..
  · exact r7_11 ..
  · exact r7_12 ..
  · exact r7_13 ..
  · exact r7_14 ..
  · exact r7_15 ..
  · exact r7_16 ..
  · exact r7_17 ..
  · exact r7_18 ..
  · exact r7_19 ..
  · exact r7_20 ..
  · exact r7_21 ..
  · exact r7_22 ..
  · exact r7_23 ..
  · exact r7_24 ..
  · exact r7_25 ..
  · exact r7_26 ..
  · exact r7_27 ..
  · exact r7_28 ..
  · exact r7_29 ..
  · exact r7_30 ..
  · exact r7_31 ..
  · exact r7_32 ..
  · exact r7_33 ..
  · exact r7_34 ..

def rnds9 : List St := [S9 0, S9 1, S9 2, S9 3, S9 4, S9 5, S9 6, S9 7, S9 8, S9 9, S9 10, S9 11, S9 12, S9 13]

theorem block9 : (blockAt Tryz.prog 3 9).isSome = true := by kernel_rfl

theorem all9 : ∀ S ∈ rnds9, ∀ M : Mem, glIs M.gl = true → roundK Tryz.prog C1 (mgL mg) 400 3 9 221 S M = true := by
  intro S hS M hg
  obtain ⟨blk, os, out, tape, gl, gok⟩ := M
  obtain ⟨a4, a5, he⟩ := glIs_eq hg
  subst he
  simp only [rnds9, List.mem_cons, List.not_mem_nil, or_false] at hS
  rcases hS with rfl | rfl | rfl | rfl | rfl | rfl | rfl | rfl | rfl | rfl | rfl | rfl | rfl | rfl
  · exact r9_0 ..
  · exact r9_1 ..
  · exact r9_2 ..
  · exact r9_3 ..
  · exact r9_4 ..
  · exact r9_5 ..
  · exact r9_6 ..
  · exact r9_7 ..
  · exact r9_8 ..
  · exact r9_9 ..
  · exact r9_10 ..
  · exact r9_11 ..
  · exact r9_12 ..
  · exact r9_13 ..

def told : LTab := ⟨fun f id => bif Nat.beq f 3 then (bif Nat.beq id 1 then some (toldLT glIs 221 rnds1) else bif Nat.beq id 5 then some (toldLT glIs 221 rnds5) else bif Nat.beq id 7 then some (toldLT glIs 221 rnds7) else bif Nat.beq id 9 then some (toldLT glIs 221 rnds9) else none) else none, fun f => memN f mg, fun _ _ => none⟩

theorem told_ok : LTSound Tryz.prog told := by
  intro f id lt h c sz K tm hs hW hk dfs ρ a w A R
  simp only [told] at h
  cases h1 : Nat.beq f 3 with
  | false => rw [h1] at h; cases h
  | true =>
    rw [h1] at h
    simp only [cond_true] at h
    have e1 := Nat.eq_of_beq_eq_true h1
    subst e1
    cases k1 : Nat.beq id 1 with
    | true =>
      rw [k1] at h
      simp only [cond_true, Option.some.injEq] at h
      subst h
      have e2 := Nat.eq_of_beq_eq_true k1
      subst e2
      obtain ⟨c0, hc0⟩ := Option.isSome_iff_exists.1 block1
      exact told_sound mixed C1_sound (mgL_sound _ mg) (n := 400) hc0 all1 hW hk A R
    | false =>
      rw [k1] at h
      simp only [cond_false] at h
      cases k5 : Nat.beq id 5 with
      | true =>
        rw [k5] at h
        simp only [cond_true, Option.some.injEq] at h
        subst h
        have e2 := Nat.eq_of_beq_eq_true k5
        subst e2
        obtain ⟨c0, hc0⟩ := Option.isSome_iff_exists.1 block5
        exact told_sound mixed C1_sound (mgL_sound _ mg) (n := 400) hc0 all5 hW hk A R
      | false =>
        rw [k5] at h
        simp only [cond_false] at h
        cases k7 : Nat.beq id 7 with
        | true =>
          rw [k7] at h
          simp only [cond_true, Option.some.injEq] at h
          subst h
          have e2 := Nat.eq_of_beq_eq_true k7
          subst e2
          obtain ⟨c0, hc0⟩ := Option.isSome_iff_exists.1 block7
          exact told_sound mixed C1_sound (mgL_sound _ mg) (n := 400) hc0 all7 hW hk A R
        | false =>
          rw [k7] at h
          simp only [cond_false] at h
          cases k9 : Nat.beq id 9 with
          | true =>
            rw [k9] at h
            simp only [cond_true, Option.some.injEq] at h
            subst h
            have e2 := Nat.eq_of_beq_eq_true k9
            subst e2
            obtain ⟨c0, hc0⟩ := Option.isSome_iff_exists.1 block9
            exact told_sound mixed C1_sound (mgL_sound _ mg) (n := 400) hc0 all9 hW hk A R
          | false =>
            rw [k9] at h
            simp only [cond_false] at h
            cases h

set_option maxRecDepth 100000 in
theorem tl1 (a4 a5 : Addr) (w : World) (hg : ∀ g cs, (g, cs) ∈ glL a4 a5 → ∃ c t fz, w.heap[g]? = some (.cells c t fz) ∧ ∀ (i : Nat) v, cs[i]? = some v → c[i]? = some v) :
    sxCall Tryz.prog C1 told 400 3 [] ⟨.e, 0, memG w (glL a4 a5) hg⟩ (fun r _ => isT r) = true := by kernel_rfl

set_option maxRecDepth 100000 in
theorem linesNumbers1 (w : World) (hg : Has w) : Calls Tryz.prog 3 #[] w fun e w' => e = .returned (.bool true) ∧ Below w.heap.size w w' := by
  obtain ⟨a4, a5, hg⟩ := hg
  have hn : (Tryz.f3.name == "runtime.NumGoroutine") = false := by kernel_rfl
  have hb : Tryz.f3.body.isSome = true := by kernel_rfl
  exact true_of_sx (n := 400) mixed C1_sound told_ok Tryz.func3 hn hb [] w (came_g w _ hg) (lt_vals _ _ []) (tl1 a4 a5 w hg)

end
end Go.Proofs.YtbmloajiedchjaaGreatDoor
