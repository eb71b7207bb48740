/-
  Regions that draw their order: readings that are taken ahead of effects which leave what they read.
-/
import Derived.Test.YtompigcfojbpkaaSxK
namespace Go.Sx
noncomputable section

section
variable {P : Program} {ops : Array Oper} {Q : Exit → Act → World → Prop} {md : Region.Mode}

/-- A fact that must hold of the world till one of some operations has been carried out. -/
structure Held where
  dep : Nat → Bool
  inv : World → Prop

def wpAnyL (P : Program) (md : Region.Mode) (ops : Array Oper) (Q : Exit → Act → World → Prop) : Nat → List Held → Array Bool → Act → World → Prop
  | 0, L, listed, a, w => (∀ p ∈ L, p.inv w) ∧ Region.ready md ops listed = [] ∧ Q .normal a w
  | fuel + 1, L, listed, a, w =>
    (∀ p ∈ L, p.inv w) ∧ (Region.ready md ops listed = [] → Q .normal a w) ∧
    ∀ i ∈ Region.ready md ops listed, wpOp P ops Q i (wpAnyL P md ops Q fuel (L.filter fun p => !p.dep i) (listed.setIfInBounds i true)) a w

theorem wpAnyL_any : ∀ (fuel : Nat) (L : List Held) (listed : Array Bool) (a : Act) (w : World), wpAnyL P md ops Q fuel L listed a w → wpAny P md ops Q fuel listed a w := by
  intro fuel
  induction fuel with
  | zero => intro L listed a w h; exact h.2
  | succ fuel ih => intro L listed a w h; exact ⟨h.2.1, fun i hi => wpOp_mono (fun a w h => ih _ _ a w h) (h.2.2 i hi)⟩

/-- An operation that gives v wherever the fact I holds. -/
def YieldsI (P : Program) (ops : Array Oper) (I : World → Prop) (o : Oper) (v : Value) (a : Act) : Prop :=
  (Region.wanted o (yielded ops a.tmps) = true ∧ ∀ w, I w → (execOp a.eval o).run P w = .ok (.value v) w) ∨
  (Region.wanted o (yielded ops a.tmps) = false ∧ v = undef)

theorem YieldsI.wpOp {I : World → Prop} {i : Nat} {o : Oper} {v : Value} {a : Act} (hi : ops[i]? = some o) (hy : YieldsI P ops I o v a)
    {K : Act → World → Prop} {w : World} (hI : I w) (h : K (a.put o.dst v) w) : wpOp P ops Q i K a w := by
  unfold Go.wpOp
  simp only [hi]
  rcases hy with ⟨hw, hv⟩ | ⟨hw, rfl⟩
  · simp only [hw, if_true, Oper.wp, hv w hI, Oper.upon]; exact .inl h
  · simp only [hw, Bool.false_eq_true, if_false]; exact h

theorem YieldsI.of_same {I : World → Prop} {o : Oper} {v : Value} {a a' : Act} (hy : YieldsI P ops I o v a) (he : execOp a'.eval o = execOp a.eval o)
    (hw : Region.wanted o (yielded ops a'.tmps) = Region.wanted o (yielded ops a.tmps)) : YieldsI P ops I o v a' := by
  unfold YieldsI at *
  rw [he, hw]
  exact hy

theorem wpOp_putI {I : World → Prop} {j : Nat} {oi oj : Oper} {v : Value} (hj : ops[j]? = some oj) (hap : oi.apart ops oj = true)
    (hsi : ∀ cs b, oi.op ≠ .select cs b) (hsj : ∀ cs b, oj.op ≠ .select cs b)
    (hQ : ∀ c a w, Q (.panic c) (a.put oi.dst v) w → Q (.panic c) a w) {K : Act → World → Prop} {a : Act} {w : World}
    (hy : YieldsI P ops I oi v a) (h : wpOp P ops Q j K (a.put oi.dst v) w) :
    wpOp P ops Q j (fun a' w' => YieldsI P ops I oi v a' ∧ K (a'.put oi.dst v) w') a w := by
  obtain ⟨h1, h2, h3⟩ := Oper.apart_spec hap
  have keep : ∀ (a : Act), YieldsI P ops I oi v a → ∀ u, YieldsI P ops I oi v (a.put oj.dst u) := fun a hy u =>
    hy.of_same (execOp_put oi hsi a oj.dst u h3) (wanted_put oi a oj.dst u h3)
  have keepD : ∀ d, YieldsI P ops I oi v { a with defers := d :: a.defers } := fun d => hy.of_same rfl rfl
  unfold wpOp at *
  simp only [hj] at *
  rw [wanted_put oj a oi.dst v h1] at h
  split
  · rename_i hw
    simp only [hw, if_true] at h
    rcases h with h | ⟨hasks, hlets⟩
    case inr => exact .inr ⟨by unfold Oper.asks at *; rw [execOp_put oj hsj a oi.dst v h1] at hasks; exact hasks, hlets⟩
    refine .inl ?_
    unfold Oper.wp at *
    rw [execOp_put oj hsj a oi.dst v h1] at h
    generalize (execOp a.eval oj).run P w = r at *
    cases r with
    | ok n w' =>
      cases n <;> simp only [Oper.upon] at h ⊢
      case value u => exact ⟨keep a hy u, by rw [← Act.put_comm a v u h2]; exact h⟩
      case skip => exact ⟨keep a hy _, by rw [← Act.put_comm a v undef h2]; exact h⟩
      case defer d =>
        refine ⟨keep _ (keepD d) _, ?_⟩
        rw [← Act.put_comm _ v undef h2, ← Act.put_defers]
        exact h
      case enter f args =>
        refine Calls.mono h fun e w'' he => ?_
        cases e with
        | returned u => exact ⟨keep a hy u, by rw [← Act.put_comm a v u h2]; exact he⟩
        | panicked c => exact hQ _ _ _ he
        | outgrown => exact he
      case row row args => exact Rows.mono h fun u w'' he => ⟨keep a hy u, by rw [← Act.put_comm a v u h2]; exact he⟩
    | halt x w' =>
      cases x <;> simp only [Oper.upon] at h ⊢
      case panic u => exact hQ _ _ _ h
  · rename_i hw
    simp only [hw] at h
    exact ⟨keep a hy _, by rw [← Act.put_comm a v undef h2]; exact h⟩

/-- Fewer facts to be held. -/
theorem wpAnyL_drop : ∀ (fuel : Nat) (L L' : List Held) (listed : Array Bool) (a : Act) (w : World), (∀ p ∈ L', p ∈ L) → wpAnyL P md ops Q fuel L listed a w → wpAnyL P md ops Q fuel L' listed a w := by
  intro fuel
  induction fuel with
  | zero => intro L L' listed a w hs h; exact ⟨fun p hp => h.1 p (hs p hp), h.2⟩
  | succ fuel ih =>
    intro L L' listed a w hs h
    refine ⟨fun p hp => h.1 p (hs p hp), h.2.1, fun k hk => wpOp_mono (fun a w h' => ih _ _ _ a w (fun p hp => ?_) h') (h.2.2 k hk)⟩
    rw [List.mem_filter] at hp ⊢
    exact ⟨hs p hp.1, hp.2⟩

/-- What is listed has all that it waits for listed. -/
def Down (md : Region.Mode) (ops : Array Oper) (listed : Array Bool) : Prop :=
  ∀ k ok, ops[k]? = some ok → listed.getD k false = true → ∀ e ∈ ok.after, Region.binds md e = true → listed.getD e.on false = true

theorem Down.step {listed : Array Bool} (h : Down md ops listed) {i : Nat} (hi : i ∈ Region.ready md ops listed) : Down md ops (listed.setIfInBounds i true) := by
  intro k ok hk hl e he hb
  obtain ⟨_, oi, hoi, hall⟩ := mem_ready.1 hi
  by_cases hki : k = i
  · subst hki
    rw [hoi] at hk; injection hk with hk; subst hk
    exact getD_set_true (hall e he hb)
  · rw [getD_set_ne false (Ne.symm hki)] at hl
    exact getD_set_true (h k ok hk hl e he hb)

theorem wpAnyL_first {D : Held} {i : Nat} {oi : Oper} {v : Value} (hi : ops[i]? = some oi) (hsel : ∀ (j : Nat) (o : Oper) cs b, ops[j]? = some o → o.op ≠ .select cs b)
    (hQ : ∀ c a w, Q (.panic c) (a.put oi.dst v) w → Q (.panic c) a w)
    (hdep : ∀ (listed : Array Bool) (j : Nat), Down md ops listed → j ∈ Region.ready md ops listed → listed.getD i true = false → D.dep j = false) :
    ∀ (fuel : Nat) (L : List Held) (listed : Array Bool) (a : Act) (w : World), Down md ops listed →
      (∀ j oj, ops[j]? = some oj → j ≠ i → listed.getD j true = false → (∀ e ∈ oj.after, Region.binds md e = true → e.on ≠ i) → oi.apart ops oj = true) →
      i ∈ Region.ready md ops listed → YieldsI P ops D.inv oi v a →
      wpAnyL P md ops Q fuel (D :: L) (listed.setIfInBounds i true) (a.put oi.dst v) w → wpAnyL P md ops Q (fuel + 1) L listed a w := by
  intro fuel
  have held : ∀ (fuel : Nat) (L : List Held) (listed : Array Bool) (a : Act) (w : World), wpAnyL P md ops Q fuel L listed a w → ∀ p ∈ L, p.inv w := by
    intro fuel; cases fuel <;> exact fun _ _ _ _ h => h.1
  induction fuel with
  | zero =>
    intro L listed a w _ _ hr hy H
    refine ⟨fun p hp => H.1 p (List.mem_cons_of_mem _ hp), fun h => (by rw [h] at hr; cases hr), fun j hj => ?_⟩
    by_cases hji : j = i
    · subst hji
      exact hy.wpOp hi (H.1 D List.mem_cons_self) ⟨fun p hp => H.1 p (List.mem_cons_of_mem _ (List.mem_filter.1 hp).1), H.2⟩
    · have := ready_mono hj hji
      rw [H.2.1] at this
      cases this
  | succ fuel ih =>
    intro L listed a w hdown hfree hr hy H
    refine ⟨fun p hp => H.1 p (List.mem_cons_of_mem _ hp), fun h => (by rw [h] at hr; cases hr), fun j hj => ?_⟩
    by_cases hji : j = i
    · subst hji
      exact hy.wpOp hi (H.1 D List.mem_cons_self) (wpAnyL_drop _ _ _ _ _ _ (fun p hp => List.mem_cons_of_mem _ (List.mem_filter.1 hp).1) H)
    · have h1 := H.2.2 j (ready_mono hj hji)
      obtain ⟨hjun, oj, hoj, hall⟩ := mem_ready.1 hj
      have hiun := (mem_ready.1 hr).1
      have hnot : ∀ e ∈ oj.after, Region.binds md e = true → e.on ≠ i := fun e he hb heq => by
        have h1 := hall e he hb
        have h0 := hiun
        rw [heq] at h1
        rcases Nat.lt_or_ge i listed.size with h' | h'
        · simp [h'] at h0 h1; rw [h0] at h1; cases h1
        · simp [Array.getElem?_eq_none h'] at h1
      have hap := hfree j oj hoj hji hjun hnot
      have hd := hdep listed j hdown hj hiun
      have h2 := wpOp_putI hoj hap (fun cs b => hsel i oi cs b hi) (fun cs b => hsel j oj cs b hoj) hQ hy h1
      have hfree' : ∀ k ok, ops[k]? = some ok → k ≠ i → (listed.setIfInBounds j true).getD k true = false →
          (∀ e ∈ ok.after, Region.binds md e = true → e.on ≠ i) → oi.apart ops ok = true := fun k ok hk hki hun hno => by
        refine hfree k ok hk hki ?_ hno
        by_cases hjk : j = k
        · subst hjk; exact hjun
        · rw [getD_set_ne true hjk] at hun; exact hun
      refine wpOp_mono (fun a' w' h3 => ?_) h2
      have h4 := h3.2
      rw [List.filter_cons_of_pos (by simp [hd]), Array.setIfInBounds_comm _ _ (Ne.symm hji)] at h4
      exact ih (L.filter fun p => !p.dep j) (listed.setIfInBounds j true) a' w' (hdown.step hj) hfree' (ready_mono hr (Ne.symm hji)) h3.1 h4

/-! ### Which operations come behind which -/

def edgeBits (md : Region.Mode) (acc : List Nat) : List Edge → Nat
  | [] => 0
  | e :: es => bif Region.binds md e then (1 <<< e.on) ||| (acc.getD e.on 0 ||| edgeBits md acc es) else edgeBits md acc es

def closF (md : Region.Mode) : List Oper → List Nat → List Nat
  | [], acc => acc
  | o :: os, acc => closF md os (acc ++ [edgeBits md acc o.after.toList])

def clos (md : Region.Mode) (ops : Array Oper) : List Nat := closF md ops.toList []

theorem edgeBits_spec {acc : List Nat} {i : Nat} : ∀ (es : List Edge), (edgeBits md acc es).testBit i = true → ∃ e ∈ es, Region.binds md e = true ∧ (i = e.on ∨ (acc.getD e.on 0).testBit i = true) := by
  intro es
  induction es with
  | nil => intro h; simp [edgeBits] at h
  | cons e es ih =>
    intro h
    simp only [edgeBits] at h
    cases hb : Region.binds md e with
    | false =>
      rw [hb] at h
      obtain ⟨e', he', h'⟩ := ih h
      exact ⟨e', List.mem_cons_of_mem _ he', h'⟩
    | true =>
      rw [hb] at h
      simp only [cond_true, Nat.testBit_or, Bool.or_eq_true] at h
      rcases h with h | h | h
      · refine ⟨e, List.mem_cons_self, hb, .inl ?_⟩
        rw [Nat.one_shiftLeft, Nat.testBit_two_pow] at h
        simpa using (of_decide_eq_true h).symm
      · exact ⟨e, List.mem_cons_self, hb, .inr h⟩
      · obtain ⟨e', he', h'⟩ := ih h
        exact ⟨e', List.mem_cons_of_mem _ he', h'⟩

theorem closF_prefix : ∀ (os : List Oper) (acc : List Nat) (k : Nat), k < acc.length → (closF md os acc)[k]? = acc[k]? := by
  intro os
  induction os with
  | nil => intro acc k _; rfl
  | cons o os ih =>
    intro acc k hk
    rw [closF, ih _ _ (by simp; omega), List.getElem?_append_left hk]

theorem closF_at : ∀ (os : List Oper) (acc : List Nat) (m : Nat) (o : Oper), os[m]? = some o →
    ∃ acc', (closF md os acc)[acc.length + m]? = some (edgeBits md acc' o.after.toList) ∧ acc'.length = acc.length + m ∧ ∀ k, k < acc'.length → (closF md os acc)[k]? = acc'[k]? := by
  intro os
  induction os with
  | nil => intro acc m o h; simp at h
  | cons o' os ih =>
    intro acc m o h
    cases m with
    | zero =>
      simp only [List.getElem?_cons_zero, Option.some.injEq] at h
      subst h
      refine ⟨acc, ?_, by simp, fun k hk => closF_prefix _ _ _ hk⟩
      rw [closF, closF_prefix _ _ _ (by simp)]
      simp
    | succ m =>
      simp only [List.getElem?_cons_succ] at h
      obtain ⟨acc', h1, h2, h3⟩ := ih (acc ++ [edgeBits md acc o'.after.toList]) m o h
      refine ⟨acc', ?_, ?_, h3⟩
      · rw [closF]
        simp only [List.length_append, List.length_cons, List.length_nil] at h1
        rw [show acc.length + (m + 1) = acc.length + (0 + 1) + m by omega]; exact h1
      · simp only [List.length_append, List.length_cons, List.length_nil] at h2
        omega

/-- Nothing that is listed, or ready, comes behind what is not listed. -/
theorem clos_listed {listed : Array Bool} (hd : Down md ops listed) {i : Nat} (hi : listed.getD i true = false) : ∀ (n k : Nat) (ok : Oper), k < n → ops[k]? = some ok →
    (∀ e ∈ ok.after, Region.binds md e = true → listed.getD e.on false = true) → ((clos md ops).getD k 0).testBit i = false := by
  intro n
  induction n with
  | zero => intro k ok hk; exact absurd hk (Nat.not_lt_zero _)
  | succ n ih =>
    intro k ok hk hok hall
    cases hb : ((clos md ops).getD k 0).testBit i with
    | false => rfl
    | true =>
      exfalso
      obtain ⟨acc', h1, h2, h3⟩ := closF_at (md := md) ops.toList [] k ok (by simpa using hok)
      simp only [List.length_nil, Nat.zero_add] at h1 h2
      have hk0 : (clos md ops).getD k 0 = edgeBits md acc' ok.after.toList := by
        rw [List.getD_eq_getElem?_getD]; unfold clos; rw [h1]; rfl
      rw [hk0] at hb
      obtain ⟨e, he, hbind, hor⟩ := edgeBits_spec _ hb
      have hel := hall e (by simpa using he) hbind
      rcases hor with rfl | hbit
      · rcases Nat.lt_or_ge e.on listed.size with h' | h'
        · simp [h'] at hi hel; rw [hi] at hel; cases hel
        · simp [Array.getElem?_eq_none h'] at hel
      · have hlt : e.on < k := by
          rcases Nat.lt_or_ge e.on k with h' | h'
          · exact h'
          · rw [List.getD_eq_getElem?_getD, List.getElem?_eq_none (by omega)] at hbit
            simp at hbit
        have hsame : acc'.getD e.on 0 = (clos md ops).getD e.on 0 := by
          rw [List.getD_eq_getElem?_getD, List.getD_eq_getElem?_getD, ← h3 e.on (by omega)]; rfl
        rw [hsame] at hbit
        have hop : e.on < ops.size := Nat.lt_trans hlt (Array.getElem?_eq_some_iff.1 hok).1
        have := ih e.on ops[e.on] (by omega) (Array.getElem?_eq_getElem hop) (fun e' he' hb' => hd e.on _ (Array.getElem?_eq_getElem hop) hel e' he' hb')
        rw [this] at hbit; cases hbit

theorem clos_ready {listed : Array Bool} (hd : Down md ops listed) {i j : Nat} (hi : listed.getD i true = false) (hj : j ∈ Region.ready md ops listed) : ((clos md ops).getD j 0).testBit i = false := by
  obtain ⟨_, oj, hoj, hall⟩ := mem_ready.1 hj
  exact clos_listed hd hi (j + 1) j oj (Nat.lt_succ_self _) hoj hall

end
end
end Go.Sx
