/-
  TreeNil: the walks, by the executor: the chapter's examples (awake) are told right, in whichever order maps are walked; no tree does and tells nothing.
-/
import Derived.Test.YtkiglchagnbpaaaDoorPaF
import Derived.Test.YtkiglchagnbpaaaDoorSxQ
namespace Go.Proofs.YtkiglchagnbpaaaDoor
open Go.Sx Go.RowKit
noncomputable section

/-! ### What the listed table holds -/

def hasL : List Value := [.int .i64 0, .int .i64 23, .int .i64 17, .int .i64 11, .int .i64 32, .int .i64 260, .int .i64 0, .int .i64 128, .int .i64 256, .int .i64 64]

/-- The table's block holds these. -/
def Has (w : World) : Prop := ∀ g cs, (g, cs) ∈ [((0 : Nat), hasL)] → ∃ c t fz, w.heap[g]? = some (.cells c t fz) ∧ ∀ (i : Nat) v, cs[i]? = some v → c[i]? = some v

theorem has_of {ρ : Nat → Sx.Loc} {h : HS} {w : World} (H : HRel ρ h w) (hg : globV 0 h.M.gl = some hasL) : Has w := by
  intro g cs hm
  simp only [List.mem_singleton, Prod.mk.injEq] at hm
  obtain ⟨rfl, rfl⟩ := hm
  obtain ⟨c, t, fz, hc, h4⟩ := h.M.glok _ _ (globV_mem hg)
  exact ⟨c, t, fz, H.mem _ _ hc, h4⟩

abbrev memH (w : World) (hg : Has w) : Mem := memG w [(0, hasL)] hg

/-- p, so many times doubled. -/
def conj : Nat → Prop → Prop
  | 0, p => p
  | n + 1, p => conj n p ∧ conj n p

theorem conj_of {p : Prop} (h : p) : ∀ n, conj n p
  | 0 => h
  | n + 1 => ⟨conj_of h n, conj_of h n⟩

theorem mixed : Tryd.prog.follows .mixedOrders = true := by kernel_rfl

/-! ### awake -/

set_option maxRecDepth 100000 in
theorem aw11 (w : World) (hg : Has w) : sxCall Tryd.prog C0 noL 400 7 [] ⟨.e, 0, memH w hg⟩ (fun r _ => r = .v (.bool true)) = conj 5 (SV.v (.bool true) = SV.v (.bool true)) := by kernel_rfl

set_option maxRecDepth 100000 in
theorem awake11 (w : World) (hg : Has w) : Calls Tryd.prog 7 #[] w fun e w' => e = .returned (.bool true) ∧ Below w.heap.size w w' := by
  have hn : (Tryd.f7.name == "runtime.NumGoroutine") = false := by kernel_rfl
  have hb : Tryd.f7.body.isSome = true := by kernel_rfl
  have hk : sxCall Tryd.prog C0 noL 400 7 [] ⟨.e, 0, memH w hg⟩ (fun r _ => r = .v (.bool true)) := by
    rw [aw11 w hg]; exact conj_of rfl 5
  exact true_of_sx (n := 400) mixed C0_sound Tryd.func7 hn hb [] w (came_g w _ hg) (lt_vals _ _ []) hk

def ctAw11 : CT := fun args h K => match args with
  | [] => globV 0 h.M.gl = some hasL ∧ K (.v (.bool true)) h
  | _ => False

def C11 : FuncId → Option CT := fun f => bif Nat.beq f 7 then some ctAw11 else C0 f

theorem C11_sound : CTSound Tryd.prog C11 := by
  intro f ct h args h0 K hk ρ w H hargs
  unfold C11 at h
  cases h1 : Nat.beq f 7 with
  | true =>
    rw [h1] at h
    have := Nat.eq_of_beq_eq_true h1
    subst this
    simp only [cond_true, Option.some.injEq] at h
    subst h
    unfold ctAw11 at hk
    split at hk
    · exact goes_of_below Tryd.func7 (by kernel_rfl) rfl (awake11 w (has_of H hk.1)) H hk.2 rfl trivial
    · exact hk.elim
  | false =>
    rw [h1] at h
    exact C0_sound f ct h args h0 K hk ρ w H hargs

/-! ### The law -/

set_option maxRecDepth 100000 in
theorem tn1 (w : World) (hg : Has w) (c0 c1 c2 c3 c4 c5 c6 c7 c8 c9 c10 c11 c12 c13 c14 c15 : Value) :
    sxCall Tryd.prog C11 noL 400 4 [.v (.agg #[c0, c1, c2, c3, c4, c5, c6, c7, c8, c9, c10, c11, c12, c13, c14, c15])] ⟨.e, 0, memH w hg⟩ (fun r _ => r = .v (.bool true)) =
      ((some hasL = some hasL) ∧ conj 2 (SV.v (.bool true) = SV.v (.bool true))) := by kernel_rfl

set_option maxRecDepth 100000 in
theorem treeNil1 (w : World) (hg : Has w) (c0 c1 c2 c3 c4 c5 c6 c7 c8 c9 c10 c11 c12 c13 c14 c15 : Value) :
    Calls Tryd.prog 4 #[.agg #[c0, c1, c2, c3, c4, c5, c6, c7, c8, c9, c10, c11, c12, c13, c14, c15]] w fun e w' => e = .returned (.bool true) ∧ Below w.heap.size w w' := by
  have hn : (Tryd.f4.name == "runtime.NumGoroutine") = false := by kernel_rfl
  have hb : Tryd.f4.body.isSome = true := by kernel_rfl
  have hk : sxCall Tryd.prog C11 noL 400 4 [.v (.agg #[c0, c1, c2, c3, c4, c5, c6, c7, c8, c9, c10, c11, c12, c13, c14, c15])] ⟨.e, 0, memH w hg⟩ (fun r _ => r = .v (.bool true)) := by
    rw [tn1 w hg]; exact ⟨rfl, conj_of rfl 2⟩
  exact true_of_sx (n := 400) mixed C11_sound Tryd.func4 hn hb [.v (.agg #[c0, c1, c2, c3, c4, c5, c6, c7, c8, c9, c10, c11, c12, c13, c14, c15])] w (came_g w _ hg)
    (lt_vals _ _ [.agg #[c0, c1, c2, c3, c4, c5, c6, c7, c8, c9, c10, c11, c12, c13, c14, c15]]) hk

end
end Go.Proofs.YtkiglchagnbpaaaDoor
