/-
  PlanNone: the walk, by the executor: the chapter's examples are true, and so is the law's text, whatever it is handed.
-/
import Derived.Test.YtbdhhdchcnhnlaaGreatDoorPaF
import Derived.Test.YtbdhhdchcnhnlaaGreatDoorSxW
namespace Go.Proofs.YtbdhhdchcnhnlaaGreatDoor
open Go.Sx Go.RowKit
noncomputable section

/-! ### What the listed table holds -/

def hasL : List Value := [.int .i64 0, .int .i64 23, .int .i64 17, .int .i64 11, .int .i64 32, .int .i64 260, .int .i64 0, .int .i64 128, .int .i64 256, .int .i64 64]

/-- The table's block holds these. -/
def Has (w : World) : Prop := ∀ g cs, (g, cs) ∈ [((0 : Nat), hasL)] → ∃ c t fz, w.heap[g]? = some (.cells c t fz) ∧ ∀ (i : Nat) v, cs[i]? = some v → c[i]? = some v

theorem has_of {ρ : Nat → Sx.Loc} {h : HS} {w : World} (H : HRel ρ h w) (hg : globV 0 h.M.gl = some hasL) : Has w := by
  intro g cs hm
  simp only [List.mem_singleton, Prod.mk.injEq] at hm
  obtain ⟨rfl, rfl⟩ := hm
  obtain ⟨c, t, fz, hc, h4⟩ := h.M.glok _ _ (globV_mem hg)
  exact ⟨c, t, fz, H.mem _ _ hc, h4⟩

abbrev memH (w : World) (hg : Has w) : Mem := memG w [(0, hasL)] hg

/-- Are these values just these numbers? -/
def areI : List Value → List Int → Bool
  | [], [] => true
  | v :: vs, n :: ns => match v with
    | .int .i64 m => bif decide (m = n) then areI vs ns else false
    | _ => false
  | _, _ => false

theorem areI_eq : ∀ (vs : List Value) (ns : List Int), areI vs ns = true → vs = ns.map (Value.int .i64)
  | [], [], _ => rfl
  | v :: vs, n :: ns, h => by
    unfold areI at h
    split at h
    · rename_i m
      cases hd : decide (m = n) with
      | false => rw [hd] at h; exact absurd h Bool.false_ne_true
      | true =>
        rw [hd] at h
        have := of_decide_eq_true hd
        subst this
        rw [areI_eq vs ns h]; rfl
    · exact absurd h Bool.false_ne_true
  | [], _ :: _, h => by cases h
  | _ :: _, [], h => by cases h

def knowsHas (h : HS) : Bool := match globV 0 h.M.gl with
  | some cs => areI cs [0, 23, 17, 11, 32, 260, 0, 128, 256, 64]
  | none => false

theorem knowsHas_eq {h : HS} (hk : knowsHas h = true) : globV 0 h.M.gl = some hasL := by
  unfold knowsHas at hk
  split at hk
  · rename_i cs hc
    rw [hc, areI_eq _ _ hk]; rfl
  · exact absurd hk Bool.false_ne_true

theorem mixed : Tryz.prog.follows .mixedOrders = true := by kernel_rfl

/-- All that is known beside: the listed table. -/
def glIs (gl : List (Nat × List Value)) : Bool := match gl with
  | [(g, cs)] => bif Nat.beq g 0 then areI cs [0, 23, 17, 11, 32, 260, 0, 128, 256, 64] else false
  | _ => false

theorem glIs_eq {gl : List (Nat × List Value)} (h : glIs gl = true) : gl = [((0 : Nat), hasL)] := by
  unfold glIs at h
  split at h
  · rename_i g cs
    cases hd : Nat.beq g 0 with
    | false => rw [hd] at h; exact absurd h Bool.false_ne_true
    | true =>
      rw [hd] at h
      rw [Nat.eq_of_beq_eq_true hd, areI_eq _ _ h]; rfl
  · exact absurd h Bool.false_ne_true


/-! ### The function that recovers -/

/-- Behind these functions a state is laid out in its one form. -/
def mg : List Nat := [29, 35, 37, 39, 40, 60, 65, 70, 72, 63, 62, 52, 92, 45, 22, 6, 21, 13]

def C1 : FuncId → Option CT := fun f => bif Nat.beq f 24 then some (deferCT Tryz.prog C0 (mgL mg) 400 24) else C0 f

theorem C1_sound : CTSound Tryz.prog C1 := by
  intro f ct h args h0 K hk ρ w H hargs
  unfold C1 at h
  cases h1 : Nat.beq f 24 with
  | true =>
    rw [h1] at h
    have := Nat.eq_of_beq_eq_true h1
    subst this
    simp only [cond_true, Option.some.injEq] at h
    subst h
    exact deferCT_goes mixed C0_sound (mgL_sound _ mg) hk H hargs
  | false =>
    rw [h1] at h
    exact C0_sound f ct h args h0 K hk ρ w H hargs

/-! ### awake -/

set_option maxRecDepth 100000 in
theorem awake1 (blk : Nat → Option Obj) (os : Os) (out : Array (Nat × ByteArray)) (tape : Nat → Question → Nat) (gok : ∀ g cs, (g, cs) ∈ [((0 : Nat), hasL)] → ∃ c t fz, blk g = some (.cells c t fz) ∧ ∀ (i : Nat) v, cs[i]? = some v → c[i]? = some v) :
    entK Tryz.prog C1 (mgL mg) 400 5 ⟨[], [], 0, true⟩ ⟨blk, os, out, tape, [((0 : Nat), hasL)], gok⟩ = true := by kernel_rfl

def tabAwake : List En := [⟨[], [], 0, true⟩]

def C2 : FuncId → Option CT := fun f => bif Nat.beq f 5 then some (frameBT glIs tabAwake) else C1 f

theorem C2_sound : CTSound Tryz.prog C2 := by
  intro f ct h args h0 K hk ρ w H hargs
  unfold C2 at h
  cases h1 : Nat.beq f 5 with
  | true =>
    rw [h1] at h
    have := Nat.eq_of_beq_eq_true h1
    subst this
    simp only [cond_true, Option.some.injEq] at h
    subst h
    refine frameBT_goes mixed C1_sound (mgL_sound _ mg) (n := 400) (fun E hE M hg => ?_) hk H hargs
    obtain ⟨blk, os, out, tape, gl, gok⟩ := M
    have := glIs_eq hg
    subst this
    simp only [tabAwake, List.mem_singleton] at hE
    subst hE
    exact awake1 ..
  | false =>
    rw [h1] at h
    exact C1_sound f ct h args h0 K hk ρ w H hargs

/-! ### The law -/

set_option maxRecDepth 100000 in
theorem run1 (w : World) (hg : Has w) (c0 : Int) (c1 : Int) (c2 : Int) (c3 : Int) (c4 : ByteArray) (c5 : Option Addr) (c5l c5c : Nat) (c6 : Int) (c7 : Int) (c8 : Bool) (c9 : Int) (c10 : Int) (c11 : Int) (c12 : Int) (c13 : Option Addr) (c13l c13c : Nat) (c14 : Option Addr) (c14l c14c : Nat) (e0 : Int) (e1 : Int) (e2 : Int) (e3 : Int) (e4 : Int) (e5 : Int) (e6 : ByteArray) (e7 : Option Addr) (e7l e7c : Nat) (e8 : Int) (e9 : Int) (e10 : Int) (e11 : Int) (e12 : Int) (e13 : Int) (e14 : Option Addr) (e14l e14c : Nat) (e15 : Option Addr) (e15l e15c : Nat) :
    sxCall Tryz.prog C2 noL 400 3 [.v (.agg #[.int .u8 c0, .int .i64 c1, .int .i64 c2, .int .i64 c3, .string c4, .slice c5 c5l c5c, .int .i64 c6, .int .i64 c7, .bool c8, .int .u8 c9, .int .i64 c10, .int .i64 c11, .int .i64 c12, .slice c13 c13l c13c, .slice c14 c14l c14c]), .v (.agg #[.int .i64 e0, .int .u8 e1, .int .i64 e2, .int .i64 e3, .int .i64 e4, .int .i64 e5, .string e6, .slice e7 e7l e7c, .int .i64 e8, .int .i64 e9, .int .i64 e10, .int .i64 e11, .int .i64 e12, .int .i64 e13, .slice e14 e14l e14c, .slice e15 e15l e15c])] ⟨.e, 0, memH w hg⟩ (fun r _ => isT r) = true := by kernel_rfl

set_option maxRecDepth 100000 in
theorem planNone1 (w : World) (hg : Has w) (c0 : Int) (c1 : Int) (c2 : Int) (c3 : Int) (c4 : ByteArray) (c5 : Option Addr) (c5l c5c : Nat) (c6 : Int) (c7 : Int) (c8 : Bool) (c9 : Int) (c10 : Int) (c11 : Int) (c12 : Int) (c13 : Option Addr) (c13l c13c : Nat) (c14 : Option Addr) (c14l c14c : Nat) (e0 : Int) (e1 : Int) (e2 : Int) (e3 : Int) (e4 : Int) (e5 : Int) (e6 : ByteArray) (e7 : Option Addr) (e7l e7c : Nat) (e8 : Int) (e9 : Int) (e10 : Int) (e11 : Int) (e12 : Int) (e13 : Int) (e14 : Option Addr) (e14l e14c : Nat) (e15 : Option Addr) (e15l e15c : Nat) :
    Calls Tryz.prog 3 #[.agg #[.int .u8 c0, .int .i64 c1, .int .i64 c2, .int .i64 c3, .string c4, .slice c5 c5l c5c, .int .i64 c6, .int .i64 c7, .bool c8, .int .u8 c9, .int .i64 c10, .int .i64 c11, .int .i64 c12, .slice c13 c13l c13c, .slice c14 c14l c14c], .agg #[.int .i64 e0, .int .u8 e1, .int .i64 e2, .int .i64 e3, .int .i64 e4, .int .i64 e5, .string e6, .slice e7 e7l e7c, .int .i64 e8, .int .i64 e9, .int .i64 e10, .int .i64 e11, .int .i64 e12, .int .i64 e13, .slice e14 e14l e14c, .slice e15 e15l e15c]] w fun e w' => e = .returned (.bool true) ∧ Below w.heap.size w w' := by
  have hn : (Tryz.f3.name == "runtime.NumGoroutine") = false := by kernel_rfl
  have hb : Tryz.f3.body.isSome = true := by kernel_rfl
  exact true_of_sx (n := 400) mixed C2_sound (noL_sound _) Tryz.func3 hn hb [.v (.agg #[.int .u8 c0, .int .i64 c1, .int .i64 c2, .int .i64 c3, .string c4, .slice c5 c5l c5c, .int .i64 c6, .int .i64 c7, .bool c8, .int .u8 c9, .int .i64 c10, .int .i64 c11, .int .i64 c12, .slice c13 c13l c13c, .slice c14 c14l c14c]), .v (.agg #[.int .i64 e0, .int .u8 e1, .int .i64 e2, .int .i64 e3, .int .i64 e4, .int .i64 e5, .string e6, .slice e7 e7l e7c, .int .i64 e8, .int .i64 e9, .int .i64 e10, .int .i64 e11, .int .i64 e12, .int .i64 e13, .slice e14 e14l e14c, .slice e15 e15l e15c])] w (came_g w _ hg) (lt_vals _ _ [.agg #[.int .u8 c0, .int .i64 c1, .int .i64 c2, .int .i64 c3, .string c4, .slice c5 c5l c5c, .int .i64 c6, .int .i64 c7, .bool c8, .int .u8 c9, .int .i64 c10, .int .i64 c11, .int .i64 c12, .slice c13 c13l c13c, .slice c14 c14l c14c], .agg #[.int .i64 e0, .int .u8 e1, .int .i64 e2, .int .i64 e3, .int .i64 e4, .int .i64 e5, .string e6, .slice e7 e7l e7c, .int .i64 e8, .int .i64 e9, .int .i64 e10, .int .i64 e11, .int .i64 e12, .int .i64 e13, .slice e14 e14l e14c, .slice e15 e15l e15c]]) (run1 w hg c0 c1 c2 c3 c4 c5 c5l c5c c6 c7 c8 c9 c10 c11 c12 c13 c13l c13c c14 c14l c14c e0 e1 e2 e3 e4 e5 e6 e7 e7l e7c e8 e9 e10 e11 e12 e13 e14 e14l e14c e15 e15l e15c)

end
end Go.Proofs.YtbdhhdchcnhnlaaGreatDoor
