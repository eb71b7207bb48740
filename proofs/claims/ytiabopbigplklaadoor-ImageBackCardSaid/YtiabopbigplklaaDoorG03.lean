/-
  The symbolic executor: what an append does, and a copy.
  The symbolic executor: maps in the arena: what stands at a key, a key's value that is put or taken away, walks.
  The symbolic executor: maps in the arena whose keys are flat structs: a key's value that is put or taken away (also in the midst of a walk).
-/
import Derived.Test.YtiabopbigplklaaDoorG02
namespace Go.Sx
noncomputable section

def notInt : TypeDesc → Bool
  | .int _ => false
  | _ => true

section
variable {P : Program} {st xt u e : TypeId} {se sx : STy} {blk o sLen sCap n : Nat} {X : Value} {nc : Array Value} {w : World}

theorem append_fits {base : Option Addr} (hst : P.underlying st = some (.slice e)) (hse : ty P e = some se) (hxt : ty P xt = some sx) (hni : notInt sx.und = true)
    (hlen : (Builtin.lenOf X).run P w = .ok n w) (hfc : (Builtin.firstCells se.size n X).run P w = .ok nc w) (hle : sLen + n ≤ sCap) {w' : World}
    (hs : ((match base with | some a => storeCells (a.add (sLen * se.size)) nc.toList | none => pure ()) : Sem Unit).run P w = .ok () w') :
    (Builtin.append_ #[st, xt] u #[.slice base sLen sCap, X]).run P w = .ok (.slice base (sLen + n) sCap) w' := by
  cases hd : sx.und <;> rw [hd] at hni <;> first
    | (cases hni; done)
    | (simp only [Builtin.append_, List.getElem?_toArray, List.getElem?_cons_zero, List.getElem?_cons_succ, Sem.run_bind, run_underlying hst, r_underlying w hxt, r_sizeOf w hse, Result.andThen_ok, Sem.run_pure, hd, Bool.false_eq_true, if_false, hlen, hle, if_true, Bool.not_false, hfc]
       cases base with
       | none => simp only [Sem.run_pure] at hs; injection hs with _ hs; subst hs; rfl
       | some a => simp only [Sem.run_bind, hs, Result.andThen_ok, Sem.run_pure])

theorem append_grows0 {base : Option Addr} (hst : P.underlying st = some (.slice e)) (hse : ty P e = some se) (hxt : ty P xt = some sx) (hni : notInt sx.und = true)
    (hlen : (Builtin.lenOf X).run P w = .ok n w) (hfc : ∀ d, (Builtin.firstCells se.size n X).run P { w with drawn := d } = .ok nc { w with drawn := d }) (hgt : sCap < sLen + n) {old : Array Value}
    (hold : ∀ d, (Builtin.firstCells se.size sLen (.slice base sLen sCap)).run P { w with drawn := d } = .ok old { w with drawn := d })
    (hneed : Builtin.nextslicecap (sLen + n) sCap * se.bytes ≤ 281474976710656) (hbig : sLen + n ≤ 9223372036854775807) :
    ∃ newCap, sLen + n ≤ newCap ∧ (Builtin.append_ #[st, xt] u #[.slice base sLen sCap, X]).run P w =
      .ok (.slice (some ⟨w.heap.size, 0, none⟩) (sLen + n) newCap) { w with drawn := w.drawn + 1, heap := w.heap.push (.cells (old ++ nc ++ Builtin.zeroCells se.zero.cells (newCap - (sLen + n))) e) } := by
  obtain ⟨i, hi, hi1, hi2, hi3⟩ := r_typeInfo w hse
  have hz : ∀ d, (zeroValue e).run P { w with drawn := d } = .ok se.zero { w with drawn := d } := fun d => r_zeroValue _ hse
  have hti : ∀ d, ∃ i, (typeInfo e).run P { w with drawn := d } = .ok i { w with drawn := d } := fun d => let ⟨i, hi, _⟩ := r_typeInfo { w with drawn := d } hse; ⟨i, hi⟩
  obtain ⟨i2, hi2'⟩ := hti (w.drawn + 1)
  have hnext : ¬ (Builtin.nextslicecap (sLen + n) sCap * i.bytes > 2 ^ 48) := by
    rw [hi2]
    have : (2 ^ 48 : Nat) = 281474976710656 := by decide
    omega
  have hmax : ¬ (((sLen + n : Nat) : Int) > IntKind.i64.max ∧ (False ∨ i.bytes = 0)) := by
    rintro ⟨h, _⟩
    have : IntKind.i64.max = 9223372036854775807 := by decide
    omega
  have hcap : sLen + n ≤ (Question.appendCap (sLen + n) sCap e).cut (w.tape w.drawn (Question.appendCap (sLen + n) sCap e)) := by simp [Question.cut]
  refine ⟨_, hcap, ?_⟩
  cases hd : sx.und <;> rw [hd] at hni <;> first
    | (cases hni; done)
    | (simp only [Builtin.append_, List.getElem?_toArray, List.getElem?_cons_zero, List.getElem?_cons_succ, Sem.run_bind, run_underlying hst, r_underlying w hxt, r_sizeOf w hse, Result.andThen_ok, Sem.run_pure, hd, Bool.false_eq_true, if_false, hlen, show ¬ (sLen + n ≤ sCap) by omega, hi, hnext, hmax, run_choose, Question.forced, hi2', run_askRoom, hold, Bool.not_false, if_true, hfc, hz, newRow, run_newObj]
       done)

theorem append_grows {base : Option Addr} (hst : P.underlying st = some (.slice e)) (hse : ty P e = some se) (hxt : ty P xt = some sx) (hni : notInt sx.und = true)
    (hlen : (Builtin.lenOf X).run P w = .ok n w) (hfc : ∀ d, (Builtin.firstCells se.size n X).run P { w with drawn := d } = .ok nc { w with drawn := d }) (hgt : sCap < sLen + n) {old : Array Value}
    (hold : ∀ d, (Builtin.firstCells se.size sLen (.slice base sLen sCap)).run P { w with drawn := d } = .ok old { w with drawn := d })
    (hneed : (2 * (sLen + n) + 768) * se.bytes ≤ 281474976710656) (hbig : sLen + n ≤ 9223372036854775807) :
    ∃ newCap, sLen + n ≤ newCap ∧ (Builtin.append_ #[st, xt] u #[.slice base sLen sCap, X]).run P w =
      .ok (.slice (some ⟨w.heap.size, 0, none⟩) (sLen + n) newCap) { w with drawn := w.drawn + 1, heap := w.heap.push (.cells (old ++ nc ++ Builtin.zeroCells se.zero.cells (newCap - (sLen + n))) e) } :=
  append_grows0 hst hse hxt hni hlen hfc hgt hold (by
    have h1 := nextcap_le hgt
    have h2 := Nat.mul_le_mul_right se.bytes h1
    omega) hbig

end
/-- A window's block goes on under a new id. -/
theorem HRel.move {ρ : Nat → Loc} {h : HS} {w w' : World} (H : HRel ρ h w) {b : Nat} {B0 B : SBlk} {L : Loc} (hb : h.H.get b = some B0) (hB : B.lt ρ h.nx) (hL : L.blk = (ρ b).blk) (hR : B.Rel ρ L w')
    (S : Same (ρ b).blk w w') : HRel (extend ρ h.nx L) (HS.new { h with H := h.H.del b } B) w' := by
  refine ⟨S.os.trans H.os, S.out.trans H.out, S.tape.trans H.tape, fun k o hk => ?_, fun c C hc => ?_, fun c c' C C' hc hc' he => ?_, fun c C hc => ?_, fun k o hk => ?_, fun c C hc => ?_, H.disj⟩
  · have hk' : h.M.blk k = some o := hk
    rw [S.other k (fun e => by subst e; rw [H.apart b B0 hb] at hk'; cases hk')]
    exact H.mem k o hk
  · rcases T.get_set hc with ⟨rfl, rfl⟩ | ⟨hne, hc⟩
    · refine ⟨Nat.lt_succ_self _, SBlk.lt_ext (extend_ext _ _ _) (Nat.le_succ _) hB, ?_⟩
      rw [extend_same]
      exact hR.of (extend_ext _ _ _) hB rfl
    · obtain ⟨hcb, hc⟩ := T.get_del hc
      obtain ⟨k1, k2, k3⟩ := H.blk c C hc
      refine ⟨Nat.lt_succ_of_lt k1, SBlk.lt_ext (extend_ext _ _ _) (Nat.le_succ _) k2, ?_⟩
      rw [extend_ext ρ h.nx L c k1]
      exact k3.of (extend_ext _ _ _) k2 (S.other _ fun e => hcb (H.inj c b C B0 hc hb e))
  · rcases T.get_set hc with ⟨rfl, rfl⟩ | ⟨hne, hc2⟩ <;> rcases T.get_set hc' with ⟨rfl, rfl⟩ | ⟨hne', hc2'⟩
    · rfl
    · obtain ⟨hcb, hc2'⟩ := T.get_del hc2'
      rw [extend_same, extend_ext ρ h.nx L c' (H.blk c' C' hc2').1, hL] at he
      exact absurd (H.inj c' b C' B0 hc2' hb he.symm) hcb
    · obtain ⟨hcb, hc2⟩ := T.get_del hc2
      rw [extend_same, extend_ext ρ h.nx L c (H.blk c C hc2).1, hL] at he
      exact absurd (H.inj c b C B0 hc2 hb he) hcb
    · obtain ⟨_, hc2⟩ := T.get_del hc2
      obtain ⟨_, hc2'⟩ := T.get_del hc2'
      rw [extend_ext ρ h.nx L c (H.blk c C hc2).1, extend_ext ρ h.nx L c' (H.blk c' C' hc2').1] at he
      exact H.inj c c' C C' hc2 hc2' he
  · rcases T.get_set hc with ⟨rfl, rfl⟩ | ⟨hne, hc⟩
    · rw [extend_same, hL]; exact H.apart b B0 hb
    · obtain ⟨_, hc⟩ := T.get_del hc
      rw [extend_ext ρ h.nx L c (H.blk c C hc).1]; exact H.apart c C hc
  · have hk' : h.M.A.blk k = some o := hk
    rw [S.other k (fun e => by subst e; rw [H.aprA b B0 hb] at hk'; cases hk')]
    exact H.are k o hk
  · rcases T.get_set hc with ⟨rfl, rfl⟩ | ⟨hne, hc⟩
    · rw [extend_same, hL]; exact H.aprA b B0 hb
    · obtain ⟨_, hc⟩ := T.get_del hc
      rw [extend_ext ρ h.nx L c (H.blk c C hc).1]; exact H.aprA c C hc

theorem srcCells_drawn {h : HS} {size n : Nat} {x : SV} {cs : List SV} {P : Program} (hx : srcCells h size n x = some cs) {ρ : Nat → Loc} {w : World} (H : HRel ρ h w) (d : Nat) :
    (Builtin.firstCells size n (x.den ρ)).run P { w with drawn := d } = .ok (cs.map (SV.den ρ)).toArray { w with drawn := d } := by
  rcases srcCells_run (P := P) hx (H.drawn d) with ⟨h, _⟩ | ⟨_, _, _, _, h⟩ <;> exact h

/-- Where the row grows. -/
theorem growV_run {h h0 : HS} {e : TypeId} {τ : Nat} {se : STy} (hτ : τ = 0 ∨ (τ = e + 1 ∧ se.size ≠ 0)) {cs : List SV} {need : Nat} {K : SV → HS → Bool} (hk : growV h τ se cs need K) {ρ : Nat → Loc} {w : World} (H : HRel ρ h w) (hlt : ∀ x ∈ cs, x.lt ρ h.nx)
    (h01 : h0.nx = h.nx) (h02 : h0.M = h.M) {newCap : Nat} (hcap : need ≤ newCap) {c : Array Value} (hc : c = (cs.map (SV.den ρ)).toArray) (d : Nat) :
    Post ρ h0 K (.slice (some ⟨w.heap.size, 0, none⟩) need newCap) { w with drawn := d, heap := w.heap.push (.cells (c ++ Builtin.zeroCells se.zero.cells (newCap - need)) e) } ∧ cs.length = need * se.size ∧ (2 * need + 768) * se.bytes ≤ 281474976710656 := by
  unfold growV at hk
  cases hb : Nat.beq se.zero.cells.size se.size && Nat.beq cs.length (need * se.size) && Nat.ble ((2 * need + 768) * se.bytes) 281474976710656 with
  | false => rw [hb] at hk; exact absurd hk Bool.false_ne_true
  | true =>
    rw [hb] at hk
    simp only [Bool.and_eq_true] at hb
    obtain ⟨⟨h1, h2⟩, h3⟩ := hb
    have h1 := Nat.eq_of_beq_eq_true h1
    have h2 := Nat.eq_of_beq_eq_true h2
    have h3 := Nat.le_of_ble_eq_true h3
    subst hc
    have G := grow_run (e := e) hτ h1 (H.drawn d) hlt h2 hcap
    refine ⟨⟨_, _, _, hk, ?_, ⟨Nat.lt_succ_self _, Nat.lt_succ_self _, ?_⟩, G, ?_, ?_, ?_⟩, h2, h3⟩
    · simp [SV.den, SCap.den, extend_same]
    · simp only [SCap.den, extend_same]; omega
    · rw [h01]; exact extend_ext _ _ _
    · rw [h01]; exact Nat.le_succ _
    · rw [h02]; exact Mem.le_refl _

theorem growV_facts {h : HS} {τ : Nat} {se : STy} {cs : List SV} {need : Nat} {K : SV → HS → Bool} (hk : growV h τ se cs need K) : se.zero.cells.size = se.size ∧ cs.length = need * se.size ∧ (2 * need + 768) * se.bytes ≤ 281474976710656 := by
  unfold growV at hk
  cases hb : Nat.beq se.zero.cells.size se.size && Nat.beq cs.length (need * se.size) && Nat.ble ((2 * need + 768) * se.bytes) 281474976710656 with
  | false => rw [hb] at hk; exact absurd hk Bool.false_ne_true
  | true =>
    simp only [Bool.and_eq_true] at hb
    exact ⟨Nat.eq_of_beq_eq_true hb.1.1, Nat.eq_of_beq_eq_true hb.1.2, Nat.le_of_ble_eq_true hb.2⟩

theorem notInt_of {d : TypeDesc} (h : (match d with | .int _ => true | _ => false) = false) : notInt d = true := by
  cases d <;> first | rfl | (cases h; done)

theorem appendV_run {P : Program} {h : HS} {ts : List TypeId} {s x : SV} {K : SV → HS → Bool} (hk : appendV P h ts s x K) (hbig : ∀ l n, lenS s = some l → lenS x = some n → l + n ≤ 9223372036854775807) {ρ : Nat → Loc} {w : World} (H : HRel ρ h w) (hs : s.lt ρ h.nx) (u : TypeId) :
    ∃ v w', (Builtin.append_ ts.toArray u #[s.den ρ, x.den ρ]).run P w = .ok v w' ∧ Post ρ h K v w' := by
  unfold appendV at hk
  split at hk
  · rename_i st xt
    split at hk
    · rename_i ss sx hss hsx
      split at hk
      · rename_i e hd hni
        split at hk
        · rename_i se n hse hn
          split at hk
          · exact absurd hk Bool.false_ne_true
          · rename_i nc hnc
            have hst : P.underlying st = some (.slice e) := by rw [(ty_facts hss).und, hd]
            have hni := notInt_of hni
            cases hlen : !(Nat.beq nc.length (n * se.size)) || !(nc.all SV.one) with
            | true => rw [hlen] at hk; exact absurd hk Bool.false_ne_true
            | false =>
              rw [hlen] at hk
              simp only [Bool.or_eq_false_iff, Bool.not_eq_false'] at hlen
              have hncl := Nat.eq_of_beq_eq_true hlen.1
              have hone := List.all_eq_true.1 hlen.2
              have hnclt := srcCells_lt hnc H
              simp only [cond_false] at hk
              have hfc : (Builtin.firstCells se.size n (x.den ρ)).run P w = .ok (nc.map (SV.den ρ)).toArray w := by
                rcases srcCells_run (P := P) hnc H with ⟨h, _⟩ | ⟨_, _, _, _, h⟩ <;> exact h
              have hlx := lenS_run (P := P) hn ρ w
              split at hk
              · -- onto nil
                cases h0 : Nat.beq n 0 with
                | true =>
                  rw [h0] at hk
                  have := Nat.eq_of_beq_eq_true h0
                  subst this
                  have hf := append_fits (u := u) (base := none) (sLen := 0) (sCap := 0) (w' := w) hst hse hsx hni hlx hfc (by omega) rfl
                  exact ⟨_, w, hf, _, _, ρ, hk, rfl, trivial, H, Ext.refl _ _, Nat.le_refl _, Mem.le_refl _⟩
                | false =>
                  rw [h0] at hk
                  simp only [cond_false] at hk
                  have hpos : 0 < n := Nat.pos_of_ne_zero fun e => by rw [e] at h0; cases h0
                  obtain ⟨f1, f2, f3⟩ := growV_facts hk
                  obtain ⟨newCap, g1, g2⟩ := append_grows (u := u) (base := none) (sLen := 0) (sCap := 0) (n := n) (old := #[]) hst hse hsx hni hlx (srcCells_drawn hnc H) (by omega) (fun d => rfl) (by simpa using f3) (by
                    have := hbig 0 n rfl hn; omega)
                  simp only [Nat.zero_add] at g1 g2
                  obtain ⟨p, _⟩ := growV_run (h0 := h) (e := e) (tyG_own _ _) hk H hnclt rfl rfl g1 (c := #[] ++ (nc.map (SV.den ρ)).toArray) (by simp) (w.drawn + 1)
                  exact ⟨_, _, g2, p⟩
              · -- onto a slice of a known capacity
                rename_i b o l cap
                cases hfit : Nat.ble (l + n) cap with
                | true =>
                  rw [hfit] at hk
                  simp only [cond_true] at hk
                  have hle := Nat.le_of_ble_eq_true hfit
                  split at hk
                  · rename_i cs es τ hb
                    split at hk
                    · rename_i cs' hov
                      unfold overlayB at hov
                      cases hble : Nat.ble (o + l * se.size + nc.length) cs.length with
                      | false => rw [hble] at hov; cases hov
                      | true =>
                        rw [hble] at hov
                        injection hov with hov; subst hov
                        obtain ⟨w', k1, k2⟩ := write_cells (P := P) H hb (Nat.le_of_ble_eq_true hble) hone hnclt
                        have hf := append_fits (u := u) (base := some ⟨(ρ b).blk, (ρ b).off + o, none⟩) (sLen := l) (sCap := cap) (w' := w') hst hse hsx hni hlx hfc hle (by
                          simp only [add_none, Nat.add_assoc]; simpa using k1)
                        exact ⟨_, w', hf, _, _, ρ, hk, rfl, ⟨hs.1, trivial, hle⟩, k2, Ext.refl _ _, Nat.le_refl _, Mem.le_refl _⟩
                    · exact absurd hk Bool.false_ne_true
                  · exact absurd hk Bool.false_ne_true
                | false =>
                  rw [hfit] at hk
                  simp only [cond_false] at hk
                  have hgt : cap < l + n := by
                    rcases Nat.lt_or_ge cap (l + n) with h | h
                    · exact h
                    · rw [Nat.ble_eq.mpr h] at hfit; cases hfit
                  split at hk
                  · rename_i old hold
                    obtain ⟨f1, f2, f3⟩ := growV_facts hk
                    obtain ⟨newCap, g1, g2⟩ := append_grows (u := u) (base := some ⟨(ρ b).blk, (ρ b).off + o, none⟩) (sLen := l) (sCap := cap) (n := n) hst hse hsx hni hlx (srcCells_drawn hnc H) hgt
                      (srcCells_drawn hold H) f3 (hbig l n rfl hn)
                    obtain ⟨p, _⟩ := growV_run (h0 := h) (e := e) (tyG_own _ _) hk H (fun y hy => by
                      rcases List.mem_append.1 hy with hy | hy
                      · exact srcCells_lt hold H y hy
                      · exact hnclt y hy) rfl rfl g1 (c := (old.map (SV.den ρ)).toArray ++ (nc.map (SV.den ρ)).toArray) (by simp) (w.drawn + 1)
                    exact ⟨_, _, g2, p⟩
                  · exact absurd hk Bool.false_ne_true
              · -- onto a slice that an append has made
                rename_i b o l b' d
                cases hbb : !(Nat.beq b b') || !(Nat.beq o (d * se.size)) || Nat.beq se.size 0 with
                | true => rw [hbb] at hk; exact absurd hk Bool.false_ne_true
                | false =>
                  rw [hbb] at hk
                  simp only [Bool.or_eq_false_iff, Bool.not_eq_false'] at hbb
                  obtain ⟨⟨hb1, ho⟩, hz⟩ := hbb
                  have hb1 := Nat.eq_of_beq_eq_true hb1
                  have ho := Nat.eq_of_beq_eq_true ho
                  have hz : se.size ≠ 0 := fun e => by rw [e] at hz; cases hz
                  subst hb1
                  simp only [cond_false] at hk
                  have hlc : l ≤ (ρ b).cap - d := hs.2.2
                  cases h0 : Nat.beq n 0 with
                  | true =>
                    rw [h0] at hk
                    have := Nat.eq_of_beq_eq_true h0
                    subst this
                    have hncn : nc = [] := List.length_eq_zero_iff.1 (by rw [hncl]; simp)
                    subst hncn
                    have hf := append_fits (u := u) (base := some ⟨(ρ b).blk, (ρ b).off + o, none⟩) (sLen := l) (sCap := (ρ b).cap - d) (w' := w) hst hse hsx hni hlx hfc (by omega) rfl
                    exact ⟨_, w, hf, _, _, ρ, hk, rfl, hs, H, Ext.refl _ _, Nat.le_refl _, Mem.le_refl _⟩
                  | false =>
                    rw [h0] at hk
                    simp only [cond_false] at hk
                    split at hk
                    · rename_i cs es τ hb
                      cases hes : !(Nat.beq es se.size) with
                      | true => rw [hes] at hk; exact absurd hk Bool.false_ne_true
                      | false =>
                        rw [hes] at hk
                        simp only [Bool.not_eq_false'] at hes
                        have hes := Nat.eq_of_beq_eq_true hes
                        subst hes
                        simp only [cond_false] at hk
                        obtain ⟨_, h2, c, t', fz, h3, h4, h5, h7, h6⟩ := H.blk b _ hb
                        have h7 := h7.resolve_left hz
                        cases hin : Nat.ble ((d + l + n) * se.size) cs.length with
                        | true =>
                          rw [hin] at hk
                          simp only [cond_true] at hk
                          have hin := Nat.le_of_ble_eq_true hin
                          have hle : d + l + n ≤ (ρ b).cap := Nat.le_of_mul_le_mul_right (Nat.le_trans hin h7) (Nat.pos_of_ne_zero hz)
                          split at hk
                          · rename_i cs' hov
                            unfold overlayB at hov
                            cases hble : Nat.ble (o + l * se.size + nc.length) cs.length with
                            | false => rw [hble] at hov; cases hov
                            | true =>
                              rw [hble] at hov
                              injection hov with hov; subst hov
                              obtain ⟨w', k1, k2⟩ := write_cells (P := P) H hb (Nat.le_of_ble_eq_true hble) hone hnclt
                              have hf := append_fits (u := u) (base := some ⟨(ρ b).blk, (ρ b).off + o, none⟩) (sLen := l) (sCap := (ρ b).cap - d) (w' := w') hst hse hsx hni hlx hfc (by omega) (by
                                simp only [add_none, Nat.add_assoc]; simpa using k1)
                              exact ⟨_, w', hf, _, _, ρ, hk, rfl, ⟨hs.1, hs.2.1, by simp only [SCap.den]; omega⟩, k2, Ext.refl _ _, Nat.le_refl _, Mem.le_refl _⟩
                          · exact absurd hk Bool.false_ne_true
                        | false =>
                          rw [hin] at hk
                          simp only [cond_false] at hk
                          cases hend : Nat.beq cs.length ((d + l) * se.size) with
                          | false => rw [hend] at hk; exact absurd hk Bool.false_ne_true
                          | true =>
                            rw [hend] at hk
                            simp only [cond_true] at hk
                            have hend := Nat.eq_of_beq_eq_true hend
                            obtain ⟨f1, f2, f3⟩ := growV_facts hk
                            have hdl : (cs.drop o).length = l * se.size := by
                              rw [List.length_drop, hend, ho, Nat.add_mul]; omega
                            have hold : srcCells h se.size l (.slc b o l (.sub b d)) = some (cs.drop o) := by
                              simp only [srcCells, hb]
                              have : ∀ (m : Nat) (l : List SV), l.length = m → takeN m l = some l := by
                                intro m
                                induction m with
                                | zero => intro l hl; rw [List.length_eq_zero_iff.1 hl]; rfl
                                | succ m ih =>
                                  intro l hl
                                  cases l with
                                  | nil => simp at hl
                                  | cons y ys => simp only [takeN, ih ys (by simpa using hl)]
                              exact this _ _ hdl
                            have hmem : ∀ y ∈ cs.drop o ++ nc, y.lt ρ h.nx := fun y hy => by
                              rcases List.mem_append.1 hy with hy | hy
                              · exact h2 y (List.mem_of_mem_drop hy)
                              · exact hnclt y hy
                            have hpos : 0 < n := Nat.pos_of_ne_zero fun e => by rw [e] at h0; cases h0
                            by_cases hfit : l + n ≤ (ρ b).cap - d
                            · -- in place: the window goes on
                              have hroom : (ρ b).off + o + l * se.size + nc.length ≤ c.size := by
                                have h8 : (d + l + n) * se.size ≤ (ρ b).cap * se.size := Nat.mul_le_mul_right _ (by omega)
                                have h9 : (d + l + n) * se.size = d * se.size + l * se.size + n * se.size := by rw [Nat.add_mul, Nat.add_mul]
                                rw [hncl, ho]; omega
                              obtain ⟨w', c', k1, k2, k3, k4⟩ := storeCells_run (P := P) (o := (ρ b).off + (o + l * se.size)) (nc.map (SV.den ρ)) 0 w c h3 (by simp; omega) h6.1.not (fun v hv => by
                                obtain ⟨y, hy, rfl⟩ := List.mem_map.1 hv; exact SV.one_den (hone y hy))
                              have hf := append_fits (u := u) (base := some ⟨(ρ b).blk, (ρ b).off + o, none⟩) (sLen := l) (sCap := (ρ b).cap - d) (w' := w') hst hse hsx hni hlx hfc hfit (by
                                simp only [add_none, Nat.add_assoc]; simpa using k1)
                              have hsz' : c'.size = c.size := by
                                rw [← Array.length_toList, k3]; simp; omega
                              have hzb : (Nat.beq se.zero.cells.size se.size && Nat.beq (cs.drop o ++ nc).length ((l + n) * se.size) && Nat.ble ((2 * (l + n) + 768) * se.bytes) 281474976710656) = true := by
                                simp only [Bool.and_eq_true]
                                exact ⟨⟨Nat.beq_eq.mpr f1, Nat.beq_eq.mpr f2⟩, Nat.ble_eq.mpr f3⟩
                              unfold growV at hk
                              rw [hzb] at hk
                              have M := H.move (L := ⟨(ρ b).blk, (ρ b).off + o, (ρ b).cap - d⟩) (B := .cells (cs.drop o ++ nc) se.size (tyOf τ o se.size e)) hb hmem rfl ⟨c', t', fz, k2, fun i y hi => ?_, ?_, .inr ?_, ?_⟩ k4
                              · refine ⟨_, w', hf, _, _, _, hk, ?_, ⟨Nat.lt_succ_self _, Nat.lt_succ_self _, ?_⟩, M, extend_ext _ _ _, Nat.le_succ _, Mem.le_refl _⟩
                                · simp [SV.den, SCap.den, extend_same]
                                · simp only [SCap.den, extend_same]; omega
                              · rw [← Array.getElem?_toList, k3]
                                simp only [Nat.add_zero, List.length_map]
                                have hcl : c.toList.length = c.size := Array.length_toList
                                by_cases hi1 : i < l * se.size
                                · rw [List.getElem?_append_left (by rw [hdl]; exact hi1), List.getElem?_drop] at hi
                                  rw [List.append_assoc, List.getElem?_append_left (by simp; omega), List.getElem?_take_of_lt (by omega), Array.getElem?_toList, Nat.add_assoc]
                                  exact h4 (o + i) y hi
                                · rw [List.getElem?_append_right (by rw [hdl]; omega), hdl] at hi
                                  have hi2 := (List.getElem?_eq_some_iff.1 hi).1
                                  rw [List.append_assoc, List.getElem?_append_right (by simp; omega), List.getElem?_append_left (by simp; omega), List.getElem?_map]
                                  have : (ρ b).off + o + i - (List.take ((ρ b).off + (o + l * se.size)) c.toList).length = i - l * se.size := by simp; omega
                                  rw [this, hi]; rfl
                              · show (ρ b).off + o + ((ρ b).cap - d) * se.size ≤ c'.size
                                rw [hsz', ho]
                                have : d * se.size + ((ρ b).cap - d) * se.size = (ρ b).cap * se.size := by rw [← Nat.add_mul]; congr 1; omega
                                omega
                              · show (cs.drop o ++ nc).length ≤ ((ρ b).cap - d) * se.size
                                rw [f2]; exact Nat.mul_le_mul_right _ hfit
                              · rw [hsz']; exact ⟨h6.1, tyOf_old h6.2⟩
                            · obtain ⟨newCap, g1, g2⟩ := append_grows (u := u) (base := some ⟨(ρ b).blk, (ρ b).off + o, none⟩) (sLen := l) (sCap := (ρ b).cap - d) (n := n) hst hse hsx hni hlx (srcCells_drawn hnc H) (by omega)
                                (srcCells_drawn hold H) f3 (hbig l n rfl hn)
                              obtain ⟨p, _⟩ := growV_run (h0 := h) (e := e) (tyOf_own _ _ _ _) hk (H.drop b) hmem rfl rfl g1 (c := ((cs.drop o).map (SV.den ρ)).toArray ++ (nc.map (SV.den ρ)).toArray) (by simp) (w.drawn + 1)
                              exact ⟨_, _, g2, p⟩
                    · exact absurd hk Bool.false_ne_true
              · exact absurd hk Bool.false_ne_true
        · exact absurd hk Bool.false_ne_true
      · exact absurd hk Bool.false_ne_true
    · exact absurd hk Bool.false_ne_true
  · exact absurd hk Bool.false_ne_true

/-! ### append in the arena -/

/-- A slice that is appended to: where it begins, its length, its capacity. -/
def slcA (s : SV) : Option (Option (Nat × Nat) × Nat × Nat) := match s with
  | .v (.slice none l c) => some (none, l, c)
  | .v (.slice (some ⟨g, o, none⟩) l c) => some (some (g, o), l, c)
  | _ => none

def addrA : Option (Nat × Nat) → Option Addr
  | none => none
  | some (g, o) => some ⟨g, o, none⟩

theorem slcA_den {s : SV} {base : Option (Nat × Nat)} {l c : Nat} (h : slcA s = some (base, l, c)) (ρ : Nat → Loc) : s.den ρ = .slice (addrA base) l c := by
  unfold slcA at h
  split at h
  · injection h with h; injection h with h1 h; injection h with h2 h3; subst h1; subst h2; subst h3; rfl
  · injection h with h; injection h with h1 h; injection h with h2 h3; subst h1; subst h2; subst h3; rfl
  · cases h

/-- What lies in a slice. -/
def baseRd (A : Arena) : Option (Nat × Nat) → Nat → Option (List Value)
  | none, n => if n = 0 then some [] else none
  | some (g, o), n => if n = 0 then some [] else A.rd g o n

/-- What an append reads. -/
def srcA (h : HS) (size n : Nat) (x : SV) : Option (List Value) := match x with
  | .v (.slice (some ⟨g, o, none⟩) _ _) => if n = 0 then some [] else h.M.A.rd g o (n * size)
  | .v (.slice none _ _) => if n = 0 then some [] else none
  | .v (.slice (some _) _ _) => if n = 0 then some [] else none
  | .slc b o l c => match srcCells h size n (.slc b o l c) with
    | some cs => plains cs
    | none => none
  | x => match x.str? with
    | some l => if size = 1 ∧ n = l.length then some (l.map fun b => .int .u8 b.toNat) else none
    | none => none

theorem rd_run {P : Program} {ρ : Nat → Loc} {h : HS} {w : World} (H : HRel ρ h w) {g o n : Nat} {vs : List Value} (hr : h.M.A.rd g o n = some vs) : (loadCellsFrom ⟨g, o, none⟩ 0 n #[]).run P w = .ok vs.toArray w := by
  have hlen := rd_len hr
  obtain ⟨c, t, fz, hb, hle, hvs⟩ := rd_some hr
  have := loadCells_run (P := P) (o := o) (H.are g _ hb) vs 0 #[] (fun j v hj => by
    rw [hvs] at hj
    have hj' : j < n := by
      have := (List.getElem?_eq_some_iff.1 hj).1
      simp at this; omega
    rw [List.getElem?_take_of_lt hj', List.getElem?_drop, Array.getElem?_toList] at hj
    rw [Nat.zero_add]; exact hj)
  rw [hlen] at this
  rw [this]; simp

theorem srcA_run {P : Program} {h : HS} {size n : Nat} {x : SV} {ys : List Value} (hx : srcA h size n x = some ys) {ρ : Nat → Loc} {w : World} (H : HRel ρ h w) (d : Nat) :
    (Builtin.firstCells size n (x.den ρ)).run P { w with drawn := d } = .ok ys.toArray { w with drawn := d } := by
  unfold srcA at hx
  split at hx
  · simp only [Builtin.firstCells, SV.den, loadCells]
    split at hx
    · rename_i h0
      injection hx with hx; subst hx; subst h0
      simp [loadCellsFrom]
    · exact rd_run (H.drawn d) hx
  · split at hx
    · rename_i h0
      injection hx with hx; subst hx; subst h0; rfl
    · cases hx
  · split at hx
    · rename_i h0
      injection hx with hx; subst hx; subst h0
      simp [Builtin.firstCells, SV.den, loadCells, loadCellsFrom]
    · cases hx
  · split at hx
    · rename_i cs hcs
      rw [srcCells_drawn hcs H d, plains_den ρ cs ys hx]
    · cases hx
  · split at hx
    · rename_i l hl
      split at hx
      · rename_i hc
        injection hx with hx
        subst hx
        rw [SV.str?_den hl]
        simp only [Builtin.firstCells, extract_list, List.drop_zero, Nat.sub_zero, Sem.run_pure]
        congr 1
        apply Array.toList_inj.1
        rw [hc.2]
        simp
      · cases hx
    · cases hx

/-- What an append leaves. -/
def Appended (A : Arena) (base : Option (Nat × Nat)) (l c es : Nat) (e : TypeId) (xs ys : List Value) (n : Nat) (v : Value) (A' : Arena) : Prop :=
  (l + n ≤ c ∧ v = .slice (addrA base) (l + n) c ∧ ((ys = [] ∧ A' = A) ∨ ∃ g o, base = some (g, o) ∧ A.Put A' g (o + l * es) ys)) ∨
  (c < l + n ∧ ∃ (g nc : Nat) (cs : Array Value) (zs : List Value), v = .slice (some ⟨g, 0, none⟩) (l + n) nc ∧ l + n ≤ nc ∧ cs.toList = xs ++ ys ++ zs ∧ zs.length = (nc - (l + n)) * es ∧ A.New A' g cs e)

def appendA (P : Program) (h : HS) (ts : List TypeId) (s x : SV) (K : SV → HS → Bool) : Bool := match ts with
  | [st, xt] => match ty P st, ty P xt with
    | some ss, some sx => match ss.und with
      | .slice e => bif notInt sx.und then (match ty P e with
        | some se => match slcA s, lenS x with
          | some (base, l, c), some n => h.M.D (∃ xs ys : List Value, baseRd h.M.A base (l * se.size) = some xs ∧ srcA h se.size n x = some ys ∧ ys.length = n * se.size ∧ (∀ v ∈ ys, v.oneCell' = true) ∧ l + n ≤ 9223372036854775807 ∧
              (c < l + n → Builtin.nextslicecap (l + n) c * se.bytes ≤ 281474976710656) ∧ se.zero.cells.size = se.size ∧ (base = none → l = 0 ∧ c = 0) ∧ (∀ g o, base = some (g, o) → l + n ≤ c → ys ≠ [] → h.M.A.Room g (o + l * se.size) ys.length) ∧
              ∀ v A', Appended h.M.A base l c se.size e xs ys n v A' → K (.v v) (h.put A') = true)
          | _, _ => false
        | none => false) else false
      | _ => false
    | _, _ => false
  | _ => false

theorem zeroCells_length (z : Array Value) (n : Nat) : (Builtin.zeroCells z n).toList.length = n * z.size := by
  simp [Builtin.zeroCells]

theorem appendA_run {P : Program} {h : HS} {ts : List TypeId} {s x : SV} {K : SV → HS → Bool} (hk : appendA P h ts s x K) {ρ : Nat → Loc} {w : World} (H : HRel ρ h w) (u : TypeId) :
    ∃ v w', (Builtin.append_ ts.toArray u #[s.den ρ, x.den ρ]).run P w = .ok v w' ∧ Post ρ h K v w' := by
  unfold appendA at hk
  split at hk
  · rename_i st xt
    split at hk
    · rename_i ss sx hss hsx
      split at hk
      · rename_i e hd
        cases hni : notInt sx.und with
        | false => rw [hni] at hk; exact absurd hk Bool.false_ne_true
        | true =>
          rw [hni] at hk
          simp only [cond_true] at hk
          split at hk
          · rename_i se hse
            split at hk
            · rename_i base l c n hs hn
              obtain ⟨xs, ys, hxs, hys, hyl, hone, hbig, hneed, hz, hnil, hroom, hk⟩ := (h.M.X.hD _).1 hk
              have hst : P.underlying st = some (.slice e) := by rw [(ty_facts hss).und, hd]
              have hlx := lenS_run (P := P) hn ρ w
              rw [slcA_den hs ρ]
              have hfc : (Builtin.firstCells se.size n (x.den ρ)).run P w = .ok ys.toArray w := srcA_run (P := P) hys H w.drawn
              by_cases hfit : l + n ≤ c
              · by_cases hnone : ys = []
                · subst hnone
                  have hf := append_fits (u := u) (base := addrA base) (sLen := l) (sCap := c) (w' := w) hst hse hsx hni hlx hfc hfit (by cases addrA base <;> rfl)
                  exact ⟨_, w, hf, _, _, ρ, hk _ h.M.A (.inl ⟨hfit, rfl, .inl ⟨rfl, rfl⟩⟩), rfl, trivial, H.arena rfl rfl rfl (fun _ _ _ => rfl) H.are (fun k o hk => .inl ⟨o, hk⟩), Ext.refl _ _, Nat.le_refl _, Mem.put_le _ _⟩
                · cases base with
                  | none =>
                    exfalso
                    obtain ⟨h0, h1⟩ := hnil rfl
                    have hn0 : n = 0 := by omega
                    subst hn0
                    have hl0 : ys.length = 0 := by rw [hyl]; simp
                    exact hnone (List.length_eq_zero_iff.1 hl0)
                  | some go =>
                    obtain ⟨g, o⟩ := go
                    obtain ⟨w', A', k1, k2, k3⟩ := arena_put (P := P) H (hroom g o rfl hfit hnone) hone
                    have hf := append_fits (u := u) (base := some ⟨g, o, none⟩) (sLen := l) (sCap := c) (w' := w') hst hse hsx hni hlx hfc hfit (by
                      simp only [add_none]; exact k1)
                    exact ⟨_, w', hf, _, _, ρ, hk _ A' (.inl ⟨hfit, rfl, .inr ⟨g, o, rfl, k2⟩⟩), rfl, trivial, k3, Ext.refl _ _, Nat.le_refl _, Mem.put_le _ _⟩
              · have hold : ∀ d, (Builtin.firstCells se.size l (.slice (addrA base) l c)).run P { w with drawn := d } = .ok xs.toArray { w with drawn := d } := fun d => by
                  cases base with
                  | none =>
                    obtain ⟨h0, _⟩ := hnil rfl
                    subst h0
                    simp only [baseRd, Nat.zero_mul, if_true, Option.some.injEq] at hxs
                    subst hxs; rfl
                  | some go =>
                    obtain ⟨g, o⟩ := go
                    simp only [Builtin.firstCells, addrA, loadCells]
                    simp only [baseRd] at hxs
                    split at hxs
                    · rename_i h0
                      injection hxs with hxs; subst hxs
                      rw [h0]
                      simp [loadCellsFrom]
                    · exact rd_run (H.drawn d) hxs
                obtain ⟨nc, g1, g2⟩ := append_grows0 (u := u) (base := addrA base) (sLen := l) (sCap := c) (n := n) (nc := ys.toArray) (old := xs.toArray) hst hse hsx hni hlx (srcA_run hys H) (by omega) hold (hneed (by omega)) hbig
                obtain ⟨A', k1, k2⟩ := arena_new H (xs.toArray ++ ys.toArray ++ Builtin.zeroCells se.zero.cells (nc - (l + n))) e (w.drawn + 1)
                exact ⟨_, _, g2, _, _, ρ, hk _ A' (.inr ⟨by omega, _, nc, _, (Builtin.zeroCells se.zero.cells (nc - (l + n))).toList, rfl, g1, by simp, by rw [zeroCells_length, hz], k1⟩), rfl, trivial, k2, Ext.refl _ _, Nat.le_refl _, Mem.put_le _ _⟩
            · exact absurd hk Bool.false_ne_true
          · exact absurd hk Bool.false_ne_true
      · exact absurd hk Bool.false_ne_true
    · exact absurd hk Bool.false_ne_true
  · exact absurd hk Bool.false_ne_true

end
end Go.Sx

namespace Go.Sx
noncomputable section

def plainKey : TypeDesc → Bool
  | .int _ | .string | .bool => true
  | _ => false

theorem checkKey_run {P : Program} {t : TypeId} {s : STy} (hs : ty P t = some s) (hp : plainKey s.und = true) (b : Bool) (n : Nat) (v : Value) (w : World) : (Instr.checkKey b (n + 1) t v).run P w = .ok () w := by
  have hu := r_underlying w hs
  cases hd : s.und <;> rw [hd] at hp <;> first
    | (cases hp; done)
    | (simp only [Instr.checkKey, Sem.run_bind, hu, hd, Result.andThen_ok]; rfl)


theorem map_eraseIdx {α β : Type} (f : α → β) : ∀ (l : List α) (i : Nat), (l.eraseIdx i).map f = (l.map f).eraseIdx i
  | [], _ => rfl
  | _ :: _, 0 => rfl
  | x :: l, i + 1 => by simp [map_eraseIdx f l i]

/-- A key as a plain value. -/
def keyV (d : TypeDesc) (k : SV) : Option Value := match d with
  | .int _ => (match k.int? with
    | some (kd, a) => some (.int kd a)
    | none => none)
  | .string => (match k.str? with
    | some l => some (.string ⟨l.toArray⟩)
    | none => none)
  | .bool => (match k with
    | .v (.bool b) => some (.bool b)
    | _ => none)
  | _ => none

def keyFits : TypeDesc → Value → Bool
  | .int _, .int _ _ => true
  | .string, .string _ => true
  | .bool, .bool _ => true
  | _, _ => false

theorem keyV_den {d : TypeDesc} {k : SV} {kv : Value} (h : keyV d k = some kv) (ρ : Nat → Loc) : k.den ρ = kv ∧ keyFits d kv = true := by
  unfold keyV at h
  split at h
  · split at h
    · rename_i kd a hk
      injection h with h; subst h
      exact ⟨SV.int?_den hk, rfl⟩
    · cases h
  · split at h
    · rename_i l hl
      injection h with h; subst h
      exact ⟨SV.str?_den hl, rfl⟩
    · cases h
  · split at h
    · injection h with h; subst h; exact ⟨rfl, rfl⟩
    · cases h
  · cases h

theorem plainKey_of_fits {d : TypeDesc} {kv : Value} (h : keyFits d kv = true) : plainKey d = true := by
  unfold keyFits at h
  split at h <;> first | rfl | cases h

theorem bytes_beq {a b : ByteArray} (h : (a == b) = true) : a = b := by
  rw [beq_toListBytes, ByteArray.toList_eq, ByteArray.toList_eq] at h
  exact ByteArray.ext (Array.toList_inj.1 (eq_of_beq h))

theorem keyIs_eq {k x : Value} {d : TypeDesc} (hf : keyFits d k = true) (ha : alikeK k x = true) (h : keyIs k x = true) : x = k := by
  unfold alikeK at ha
  split at ha
  · simp only [keyIs] at h
    rw [bytes_beq h]
  · simp only [keyIs] at h
    rw [eq_of_beq h, of_decide_eq_true ha]
  · simp only [keyIs] at h
    rw [eq_of_beq h]
  · cases d <;> cases hf
  · cases ha

theorem sameNow_alike {d : TypeDesc} {k x : Value} (hf : keyFits d k = true) (ha : alikeK k x = true) : Instr.sameNow d k x = some (keyIs k x) := by
  unfold keyFits at hf
  split at hf
  · rename_i kd kd' a
    unfold alikeK at ha
    cases x with
    | int k' b =>
      have := of_decide_eq_true ha
      subst this
      simp [Instr.sameNow, keyIs]
    | _ => cases ha
  · cases x with
    | string b => rfl
    | _ => cases ha
  · cases x with
    | bool b => rfl
    | _ => cases ha
  · cases hf

def putL (k v : Value) : List (Value × Value) → List (Value × Value)
  | [] => [(k, v)]
  | e :: es => bif keyIs k e.1 then (k, v) :: es else e :: putL k v es

def delL (k : Value) : List (Value × Value) → List (Value × Value)
  | [] => []
  | e :: es => bif keyIs k e.1 then es else e :: delL k es

def pairOf (e : MapEntry) : Value × Value := (e.key, e.val)

theorem find_alike {d : TypeDesc} {k : Value} (hf : keyFits d k = true) (v : Value) : ∀ (es : List MapEntry) (i : Nat), (∀ e ∈ es, alikeK k e.key = true) →
    (Instr.findNow d k es i = some none ∧ getL k (es.map pairOf) = none ∧ putL k v (es.map pairOf) = es.map pairOf ++ [(k, v)] ∧ delL k (es.map pairOf) = es.map pairOf) ∨
    ∃ j e, Instr.findNow d k es i = some (some (i + j, e.val)) ∧ es[j]? = some e ∧ e.key = k ∧ getL k (es.map pairOf) = some e.val ∧ putL k v (es.map pairOf) = (es.modify j fun e => { e with key := k, val := v }).map pairOf ∧ delL k (es.map pairOf) = (es.eraseIdx j).map pairOf
  | [], i, _ => .inl ⟨rfl, rfl, rfl, rfl⟩
  | e :: es, i, ha => by
    have h0 := ha e (by simp)
    have hs := sameNow_alike hf h0
    cases hk : keyIs k e.key with
    | true =>
      rw [hk] at hs
      refine .inr ⟨0, e, ?_, rfl, keyIs_eq hf h0 hk, ?_, ?_, ?_⟩
      · simp only [Instr.findNow, hs, Nat.add_zero]
      · simp only [List.map_cons, getL, pairOf, hk, cond_true]
      · simp only [List.map_cons, putL, pairOf, hk, cond_true, List.modify_zero_cons]
      · simp only [List.map_cons, delL, pairOf, hk, cond_true, List.eraseIdx_cons_zero]
    | false =>
      rw [hk] at hs
      rcases find_alike hf v es (i + 1) (fun x hx => ha x (by simp [hx])) with ⟨h1, h2, h3, h4⟩ | ⟨j, x, h1, h2, h3, h4, h5, h6⟩
      · refine .inl ⟨?_, ?_, ?_, ?_⟩
        · simp only [Instr.findNow, hs, h1]
        · simp only [List.map_cons, getL, pairOf, hk, cond_false]; exact h2
        · simp only [List.map_cons, putL, show (pairOf e).1 = e.key from rfl, hk, cond_false, h3, List.cons_append]
        · simp only [List.map_cons, delL, show (pairOf e).1 = e.key from rfl, hk, cond_false, h4]
      · refine .inr ⟨j + 1, x, ?_, by simpa using h2, h3, ?_, ?_, ?_⟩
        · simp only [Instr.findNow, hs, h1]; congr 3; omega
        · simp only [List.map_cons, getL, pairOf, hk, cond_false]; exact h4
        · simp only [List.map_cons, putL, show (pairOf e).1 = e.key from rfl, hk, cond_false, h5, List.modify_succ_cons]
        · simp only [List.map_cons, delL, show (pairOf e).1 = e.key from rfl, hk, cond_false, h6, List.eraseIdx_cons_succ]

theorem findKey_alike {P : Program} {t : TypeId} {s : STy} (hs : ty P t = some s) {k : Value} (hf : keyFits s.und k = true) (v : Value) (es : List MapEntry) (ha : ∀ e ∈ es, alikeK k e.key = true) (w : World) :
    ((Instr.findKey t k es).run P w = .ok none w ∧ getL k (es.map pairOf) = none ∧ putL k v (es.map pairOf) = es.map pairOf ++ [(k, v)] ∧ delL k (es.map pairOf) = es.map pairOf) ∨
    ∃ j e, (Instr.findKey t k es).run P w = .ok (some (j, e.val)) w ∧ es[j]? = some e ∧ e.key = k ∧ getL k (es.map pairOf) = some e.val ∧ putL k v (es.map pairOf) = (es.modify j fun e => { e with key := k, val := v }).map pairOf ∧ delL k (es.map pairOf) = (es.eraseIdx j).map pairOf := by
  rcases find_alike hf v es 0 ha with ⟨h1, h2⟩ | ⟨j, e, h1, h2⟩
  · exact .inl ⟨by simp only [Instr.findKey, Sem.run_bind, r_underlying w hs, Result.andThen_ok, h1, Sem.run_pure], h2⟩
  · exact .inr ⟨j, e, by simp only [Instr.findKey, Sem.run_bind, r_underlying w hs, Result.andThen_ok, h1, Sem.run_pure, Nat.zero_add], h2⟩

/-! ### A map in the arena -/

def MapAt (A : Arena) (g : Nat) (l : List (Value × Value)) : Prop :=
  ∃ es clock, A.blk g = some (.map es clock) ∧ entsOf es = l ∧ (∀ e ∈ es.toList, e.born < clock) ∧ (es.toList.map (·.born)).Nodup

theorem entsOf_eq (es : Array MapEntry) : entsOf es = es.toList.map pairOf := rfl

theorem look_at {A : Arena} {g : Nat} {l : List (Value × Value)} {k : Value} (h : MapAt A g l) (ha : ∀ e ∈ l, alikeK k e.1 = true) : A.look g k = some (getL k l) := by
  obtain ⟨es, clock, hb, rfl, _⟩ := h
  rw [A.lookeq]
  unfold lookOf
  rw [hb]
  have : (entsOf es).all (fun e => alikeK k e.1) = true := List.all_eq_true.2 ha
  simp only [this, cond_true]

theorem cnt_at {A : Arena} {g : Nat} {l : List (Value × Value)} (h : MapAt A g l) : A.cnt g = some l.length := by
  obtain ⟨es, clock, hb, rfl, _⟩ := h
  rw [A.cnteq]
  unfold cntOf
  rw [hb]
  simp [entsOf]

theorem cnt_some {A : Arena} {g n : Nat} (h : A.cnt g = some n) : ∃ es clock, A.blk g = some (.map es clock) ∧ n = es.size := by
  rw [A.cnteq] at h
  unfold cntOf at h
  split at h
  · rename_i es clock hb
    injection h with h
    exact ⟨es, clock, hb, h.symm⟩
  · cases h

theorem look_some {A : Arena} {g : Nat} {k : Value} {r : Option Value} (h : A.look g k = some r) : ∃ es clock, A.blk g = some (.map es clock) ∧ (∀ e ∈ es.toList, alikeK k e.key = true) ∧ r = getL k (entsOf es) := by
  rw [A.lookeq] at h
  unfold lookOf at h
  split at h
  · rename_i es clock hb
    cases ha : (entsOf es).all fun e => alikeK k e.1 with
    | false => rw [ha] at h; cases h
    | true =>
      rw [ha] at h
      injection h with h
      refine ⟨es, clock, hb, fun e he => List.all_eq_true.1 ha (pairOf e) ?_, h.symm⟩
      exact List.mem_map.2 ⟨e, he, rfl⟩
  · cases h

theorem MapAt.sub {A A' : Arena} {g : Nat} {l : List (Value × Value)} (h : MapAt A g l) (hs : ∀ o, A.blk g = some o → A'.blk g = some o) : MapAt A' g l := by
  obtain ⟨es, clock, hb, h⟩ := h
  exact ⟨es, clock, hs _ hb, h⟩

/-- What is looked up. -/
def lkOut (ok : Bool) (z : Value) : Option Value → SV
  | some v => bif ok then .tup [.v v, .v (.bool true)] else .v v
  | none => bif ok then .tup [svOf z, .v (.bool false)] else svOf z

def lookA (P : Program) (h : HS) (t : TypeId) (g : Nat) (k : SV) (ok : Bool) : Option SV := match ty P t with
  | none => none
  | some s => match s.und with
    | .map kt et => match ty P kt, ty P et with
      | some sk, some se => match keyV sk.und k with
        | some kv => match h.M.A.look g kv with
          | some r => some (lkOut ok se.zero r)
          | none => none
        | none => none
      | _, _ => none
    | _ => none

theorem lookA_run {P : Program} {h : HS} {t : TypeId} {g : Nat} {k z : SV} {ok : Bool} (hz : lookA P h t g k ok = some z) {ρ : Nat → Loc} {w : World} (H : HRel ρ h w) :
    (Instr.lookup t (.map (some g)) (k.den ρ) ok).run P w = .ok (z.den ρ) w ∧ z.lt ρ h.nx := by
  unfold lookA at hz
  split at hz
  · cases hz
  · rename_i s hs
    split at hz
    · rename_i kt et hd
      split at hz
      · rename_i sk se hsk hse
        split at hz
        · rename_i kv hkv
          split at hz
          · rename_i r hr
            injection hz with hz; subst hz
            obtain ⟨hk, hf⟩ := keyV_den hkv ρ
            obtain ⟨es, clock, hb, ha, rfl⟩ := look_some hr
            have h3 := H.are g _ hb
            have hget : (getObj g).run P w = .ok (.map es clock) w := by simp [getObj, Sem.run, h3]
            have hcheck : ∀ b v, (Instr.checkKey b 10000 kt v).run P w = .ok () w := fun b v => checkKey_run hsk (plainKey_of_fits hf) b 9999 v w
            simp only [Instr.lookup, Sem.run_bind, r_underlying w hs, hd, Result.andThen_ok, hget, Sem.run_pure, hcheck, hk]
            rcases findKey_alike (P := P) hsk hf (.bool false) es.toList ha w with ⟨h1, h2, _⟩ | ⟨j, e, h1, _, _, h2, _⟩
            · rw [h1]
              rw [entsOf_eq, h2]
              simp only [Result.andThen_ok, Sem.run_bind, r_zeroValue w hse, Sem.run_pure]
              cases ok
              · exact ⟨by simp [lkOut, svOf_den], svOf_lt _ _ _⟩
              · exact ⟨by simp [lkOut, SV.den, SV.dens, svOf_den], svOf_lt _ _ _, trivial, trivial⟩
            · rw [h1]
              rw [entsOf_eq, h2]
              simp only [Result.andThen_ok, Sem.run_bind, Sem.run_pure]
              cases ok
              · exact ⟨by simp [lkOut, SV.den], trivial⟩
              · exact ⟨by simp [lkOut, SV.den, SV.dens], trivial, trivial, trivial⟩
          · cases hz
        · cases hz
      · cases hz
    · cases hz

/-! ### A value is put -/

/-- A value as it lies in a map. -/
def plainM : SV → Option Value
  | .v x => some x
  | .str l => some (.string ⟨l.toArray⟩)
  | .agg cs => match plains cs with
    | some vs => some (.agg vs.toArray)
    | none => none
  | _ => none

theorem plainM_den {x : SV} {v : Value} (h : plainM x = some v) (ρ : Nat → Loc) : x.den ρ = v := by
  unfold plainM at h
  split at h
  · injection h
  · injection h
  · rename_i cs
    split at h
    · rename_i vs hvs
      injection h with h
      rw [← h, SV.den, dens_eq, plains_den ρ cs vs hvs]
    · cases h
  · cases h

def putA (P : Program) (h : HS) (t : TypeId) (g : Nat) (k v : SV) (K : SV → HS → Bool) : Bool := match ty P t with
  | none => false
  | some s => match s.und with
    | .map kt _ => match ty P kt with
      | some sk => match keyV sk.und k, plainM v with
        | some kv, some vv => h.M.D (∃ l, MapAt h.M.A g l ∧ (∀ e ∈ l, alikeK kv e.1 = true) ∧ ∀ A', MapAt A' g (putL kv vv l) → (∀ b, b ≠ g → A'.blk b = h.M.A.blk b) → K (.v (.tuple #[])) (h.put A') = true)
        | _, _ => false
      | none => false
    | _ => false

theorem keyThatStays_same {P : Program} {k : Value} {d : TypeDesc} (hf : keyFits d k = true) (w : World) : (Instr.keyThatStays k k).run P w = .ok k w := by
  have : Instr.sameBits 10000 k k = true := by
    unfold keyFits at hf
    split at hf
    · simp [Instr.sameBits]
    · simp only [Instr.sameBits]; rw [beq_toListBytes]; simp
    · simp [Instr.sameBits]
    · cases hf
  simp [Instr.keyThatStays, this]

theorem born_modify (f : MapEntry → MapEntry) (hf : ∀ e, (f e).born = e.born) : ∀ (l : List MapEntry) (j : Nat), (l.modify j f).map (·.born) = l.map (·.born)
  | [], j => by simp
  | e :: l, 0 => by simp [hf]
  | e :: l, j + 1 => by simp [born_modify f hf l j]

theorem lt_of_borns {l : List MapEntry} {c : Nat} (h : ∀ b ∈ l.map (·.born), b < c) : ∀ e ∈ l, e.born < c := fun e he => h _ (List.mem_map.2 ⟨e, he, rfl⟩)

theorem putA_run {P : Program} {h : HS} {t : TypeId} {g : Nat} {k v : SV} {K : SV → HS → Bool} (hk : putA P h t g k v K) {ρ : Nat → Loc} {w : World} (H : HRel ρ h w) :
    ∃ w', (Instr.mapUpdate t (.map (some g)) (k.den ρ) (v.den ρ)).run P w = .ok () w' ∧ Post ρ h K (.tuple #[]) w' := by
  unfold putA at hk
  split at hk
  · exact absurd hk Bool.false_ne_true
  · rename_i s hs
    split at hk
    · rename_i kt et hd
      split at hk
      · rename_i sk hsk
        split at hk
        · rename_i kv vv hkv hvv
          obtain ⟨l, ⟨es, clock, hb, rfl, hlt, hnd⟩, ha, hk⟩ := (h.M.X.hD _).1 hk
          obtain ⟨hke, hf⟩ := keyV_den hkv ρ
          have ha : ∀ e ∈ es.toList, alikeK kv e.key = true := fun e he => ha (pairOf e) (List.mem_map.2 ⟨e, he, rfl⟩)
          have h3 := H.are g _ hb
          have hget : (getObj g).run P w = .ok (.map es clock) w := by simp [getObj, Sem.run, h3]
          have hcheck : ∀ b v, (Instr.checkKey b 10000 kt v).run P w = .ok () w := fun b v => checkKey_run hsk (plainKey_of_fits hf) b 9999 v w
          rw [plainM_den hvv ρ, hke]
          rcases findKey_alike (P := P) hsk hf vv es.toList ha w with ⟨h1, _, h2, _⟩ | ⟨j, e, h1, he, hek, _, h2, _⟩
          · obtain ⟨A', k1, k2, k3⟩ := arena_set H hb (.map (es.push { key := kv, val := vv, born := clock }) (clock + 1))
            refine ⟨_, ?_, _, _, ρ, hk A' ⟨_, _, k1, ?_, ?_, ?_⟩ k2, rfl, trivial, k3, Ext.refl _ _, Nat.le_refl _, Mem.put_le _ _⟩
            · simp only [Instr.mapUpdate, Sem.run_bind, r_underlying w hs, hd, Result.andThen_ok, hget, hcheck, h1]
              simp [setObj, Sem.run, h3]
            · rw [entsOf_eq es, h2, entsOf_eq]; simp [pairOf]
            · intro x hx
              simp only [Array.toList_push, List.mem_append, List.mem_singleton] at hx
              rcases hx with hx | rfl
              · have := hlt x hx; omega
              · show clock < clock + 1; omega
            · simp only [Array.toList_push, List.map_append, List.map_cons, List.map_nil]
              refine List.nodup_append.2 ⟨hnd, by simp, fun a ha' b hb' => ?_⟩
              obtain ⟨x, hx, rfl⟩ := List.mem_map.1 ha'
              have := hlt x hx
              simp only [List.mem_singleton] at hb'
              omega
          · obtain ⟨A', k1, k2, k3⟩ := arena_set H hb (.map (es.modify j fun e => { e with key := kv, val := vv }) clock)
            have hmod : (es.modify j fun e => { e with key := kv, val := vv }).toList = es.toList.modify j fun e => { e with key := kv, val := vv } := by simp
            refine ⟨_, ?_, _, _, ρ, hk A' ⟨_, _, k1, ?_, ?_, ?_⟩ k2, rfl, trivial, k3, Ext.refl _ _, Nat.le_refl _, Mem.put_le _ _⟩
            · have hej : es[j]? = some e := by simpa using he
              simp only [Instr.mapUpdate, Sem.run_bind, r_underlying w hs, hd, Result.andThen_ok, hget, hcheck, h1, hej, Option.map_some, Option.getD_some, hek, keyThatStays_same hf w]
              simp [setObj, Sem.run, h3]
            · rw [entsOf_eq es, h2, entsOf_eq, hmod]
            · rw [hmod]
              refine lt_of_borns ?_
              rw [born_modify (fun e => { e with key := kv, val := vv }) (fun _ => rfl)]
              intro b hb'
              obtain ⟨x, hx, rfl⟩ := List.mem_map.1 hb'
              exact hlt x hx
            · rw [hmod, born_modify (fun e => { e with key := kv, val := vv }) (fun _ => rfl)]
              exact hnd
        · exact absurd hk Bool.false_ne_true
      · exact absurd hk Bool.false_ne_true
    · exact absurd hk Bool.false_ne_true

/-! ### A key is taken away -/

def delA (P : Program) (h : HS) (kt : TypeId) (g : Nat) (k : SV) (K : SV → HS → Bool) : Bool := match ty P kt with
  | some sk => match keyV sk.und k with
    | some kv => h.M.D (∃ l, MapAt h.M.A g l ∧ (∀ e ∈ l, alikeK kv e.1 = true) ∧ ∀ A', MapAt A' g (delL kv l) → (∀ b, b ≠ g → A'.blk b = h.M.A.blk b) → K (.v (.tuple #[])) (h.put A') = true)
    | none => false
  | none => false

theorem delA_run {P : Program} {h : HS} {t kt et : TypeId} {s : STy} (hs : ty P t = some s) (hd : s.und = .map kt et) {ts : List TypeId} {g : Nat} {k : SV} {K : SV → HS → Bool} (hk : delA P h kt g k K) {ρ : Nat → Loc} {w : World} (H : HRel ρ h w) (u : TypeId) :
    ∃ v w', (Builtin.delete_ (t :: ts).toArray u #[.map (some g), k.den ρ]).run P w = .ok v w' ∧ Post ρ h K v w' := by
  have h0 : (t :: ts).toArray[0]? = some t := by simp
  unfold delA at hk
  split at hk
  · rename_i sk hsk
    split at hk
    · rename_i kv hkv
      obtain ⟨l, ⟨es, clock, hb, rfl, hlt, hnd⟩, ha, hk⟩ := (h.M.X.hD _).1 hk
      obtain ⟨hke, hf⟩ := keyV_den hkv ρ
      have ha : ∀ e ∈ es.toList, alikeK kv e.key = true := fun e he => ha (pairOf e) (List.mem_map.2 ⟨e, he, rfl⟩)
      have h3 := H.are g _ hb
      have hget : (getObj g).run P w = .ok (.map es clock) w := by simp [getObj, Sem.run, h3]
      have hcheck : ∀ b v, (Instr.checkKey b 10000 kt v).run P w = .ok () w := fun b v => checkKey_run hsk (plainKey_of_fits hf) b 9999 v w
      rw [hke]
      rcases findKey_alike (P := P) hsk hf (.bool false) es.toList ha w with ⟨h1, _, _, h2⟩ | ⟨j, e, h1, he, hek, _, _, h2⟩
      · obtain ⟨A', k1, k2, k3⟩ := arena_set H hb (.map es clock)
        refine ⟨.tuple #[], _, ?_, _, _, ρ, hk A' ⟨_, _, k1, ?_, hlt, hnd⟩ k2, rfl, trivial, k3, Ext.refl _ _, Nat.le_refl _, Mem.put_le _ _⟩
        · simp only [Builtin.delete_, h0, List.getElem?_toArray, List.getElem?_cons_zero, List.getElem?_cons_succ, Sem.run_bind, r_underlying w hs, hd, Result.andThen_ok, hget, hcheck, h1]
          simp [setObj, Sem.run, h3]
        · rw [entsOf_eq, h2]
      · obtain ⟨A', k1, k2, k3⟩ := arena_set H hb (.map (es.eraseIdxIfInBounds j) clock)
        have hj : j < es.size := by
          have := (List.getElem?_eq_some_iff.1 he).1
          simpa using this
        have her : (es.eraseIdxIfInBounds j).toList = es.toList.eraseIdx j := by simp
        refine ⟨.tuple #[], _, ?_, _, _, ρ, hk A' ⟨_, _, k1, ?_, fun x hx => hlt x ?_, ?_⟩ k2, rfl, trivial, k3, Ext.refl _ _, Nat.le_refl _, Mem.put_le _ _⟩
        · simp only [Builtin.delete_, h0, List.getElem?_toArray, List.getElem?_cons_zero, List.getElem?_cons_succ, Sem.run_bind, r_underlying w hs, hd, Result.andThen_ok, hget, hcheck, h1]
          simp [setObj, Sem.run, h3]
        · rw [entsOf_eq es, h2, entsOf_eq, her]
        · rw [her] at hx
          exact List.mem_of_mem_eraseIdx hx
        · rw [her, map_eraseIdx]
          exact hnd.sublist (List.eraseIdx_sublist _ _)
    · exact absurd hk Bool.false_ne_true
  · exact absurd hk Bool.false_ne_true

/-! ### Walks -/

theorem nodup_inj {α β : Type} (f : α → β) : ∀ {l : List α} {x y : α}, (l.map f).Nodup → x ∈ l → y ∈ l → f x = f y → x = y
  | [], _, _, _, hx, _, _ => by cases hx
  | a :: l, x, y, hn, hx, hy, he => by
    rw [List.map_cons, List.nodup_cons] at hn
    rcases List.mem_cons.1 hx with h1 | h1 <;> rcases List.mem_cons.1 hy with h2 | h2
    · rw [h1, h2]
    · exact (hn.1 (List.mem_map.2 ⟨y, h2, by rw [← he, h1]⟩)).elim
    · exact (hn.1 (List.mem_map.2 ⟨x, h1, by rw [he, h2]⟩)).elim
    · exact nodup_inj f hn.2 h1 h2 he

/-- A walk over a map that is only read, or from which entries are taken: those at these keys were met. -/
def IterAt (A : Arena) (i g : Nat) (l : List (Value × Value)) (sk : List Value) : Prop :=
  ∃ es clock seen, A.blk g = some (.map es clock) ∧ entsOf es = l ∧ (∀ e ∈ es.toList, e.born < clock) ∧ (es.toList.map (·.born)).Nodup ∧ (l.map (·.1)).Nodup ∧
    A.blk i = some (.mapIter (some g) clock seen clock) ∧ ∀ e ∈ es.toList, (e.born ∈ seen.toList ↔ e.key ∈ sk)

theorem IterAt.map {A : Arena} {i g : Nat} {l : List (Value × Value)} {sk : List Value} (h : IterAt A i g l sk) : MapAt A g l := by
  obtain ⟨es, clock, seen, h1, h2, h3, h4, _⟩ := h
  exact ⟨es, clock, h1, h2, h3, h4⟩

theorem IterAt.sub {A A' : Arena} {i g : Nat} {l : List (Value × Value)} {sk : List Value} (h : IterAt A i g l sk) (hs : ∀ b o, b = i ∨ b = g → A.blk b = some o → A'.blk b = some o) : IterAt A' i g l sk := by
  obtain ⟨es, clock, seen, h1, h2, h3, h4, h5, h6, h7⟩ := h
  exact ⟨es, clock, seen, hs g _ (.inr rfl) h1, h2, h3, h4, h5, hs i _ (.inl rfl) h6, h7⟩

def rangeA (h : HS) (g : Nat) (K : SV → HS → Bool) : Bool :=
  h.M.D (∃ l, MapAt h.M.A g l ∧ (l.map (·.1)).Nodup ∧ ∀ i A', h.M.A.blk i = none → (∀ b, b ≠ i → A'.blk b = h.M.A.blk b) → IterAt A' i g l [] → K (.v (.pointer (some ⟨i, 0, none⟩))) (h.put A') = true)

theorem rangeA_run {P : Program} {h : HS} {t kt et : TypeId} {s : STy} (hs : ty P t = some s) (hd : s.und = .map kt et) {g : Nat} {K : SV → HS → Bool} (hk : rangeA h g K) {ρ : Nat → Loc} {w : World} (H : HRel ρ h w) :
    ∃ v w', (Instr.range t (.map (some g))).run P w = .ok v w' ∧ Post ρ h K v w' := by
  obtain ⟨l, ⟨es, clock, hb, rfl, hlt, hnd⟩, hkn, hk⟩ := (h.M.X.hD _).1 hk
  have h3 := H.are g _ hb
  have hget : (getObj g).run P w = .ok (.map es clock) w := by simp [getObj, Sem.run, h3]
  obtain ⟨A', k1, k2, k3, k4⟩ := arena_obj H (.mapIter (some g) clock #[] clock) w.drawn
  refine ⟨.pointer (some ⟨w.heap.size, 0, none⟩), _, ?_, _, _, ρ, hk w.heap.size A' k1 k3 ⟨es, clock, #[], ?_, rfl, hlt, hnd, hkn, k2, fun e _ => by simp⟩, rfl, trivial, k4, Ext.refl _ _, Nat.le_refl _, Mem.put_le _ _⟩
  · simp [Instr.range, r_underlying w hs, hd, hget]
  · rw [k3 g (fun e => by subst e; rw [hb] at k1; cases k1)]; exact hb

/-- A walk over no map. -/
def rangeN (h : HS) (K : SV → HS → Bool) : Bool :=
  h.M.D (∀ i A', h.M.A.blk i = none → (∀ b, b ≠ i → A'.blk b = h.M.A.blk b) → A'.blk i = some (.mapIter none 0 #[] 0) → K (.v (.pointer (some ⟨i, 0, none⟩))) (h.put A') = true)

theorem rangeN_run {P : Program} {h : HS} {t kt et : TypeId} {s : STy} (hs : ty P t = some s) (hd : s.und = .map kt et) {K : SV → HS → Bool} (hk : rangeN h K) {ρ : Nat → Loc} {w : World} (H : HRel ρ h w) :
    ∃ v w', (Instr.range t (.map none)).run P w = .ok v w' ∧ Post ρ h K v w' := by
  have hk := (h.M.X.hD _).1 hk
  obtain ⟨A', k1, k2, k3, k4⟩ := arena_obj H (.mapIter none 0 #[] 0) w.drawn
  refine ⟨.pointer (some ⟨w.heap.size, 0, none⟩), _, ?_, _, _, ρ, hk w.heap.size A' k1 k3 k2, rfl, trivial, k4, Ext.refl _ _, Nat.le_refl _, Mem.put_le _ _⟩
  simp [Instr.range, r_underlying w hs, hd]

def nextA (h : HS) (i : Nat) (K : SV → HS → Bool) : Bool :=
  h.M.D ((∃ g l sk, IterAt h.M.A i g l sk ∧ (∀ e ∈ l, e.1 ∉ sk → ∀ A', (∀ b, b ≠ i → A'.blk b = h.M.A.blk b) → IterAt A' i g l (sk ++ [e.1]) → A'.ent i = some (.tuple #[e.1, e.2]) → K (.v (.tuple #[.bool true, e.1, e.2])) (h.put A') = true) ∧
    ((∀ e ∈ l, e.1 ∈ sk) → K (.v (.tuple #[.bool false])) h = true)) ∨ ∃ a b c, h.M.A.blk i = some (.mapIter none a b c) ∧ K (.v (.tuple #[.bool false])) h = true)

theorem nextA_run {P : Program} {h : HS} {i : Nat} {K : SV → HS → Bool} (hk : nextA h i K) {ρ : Nat → Loc} {w : World} (H : HRel ρ h w) (u : TypeId) :
    ∃ v w', (Instr.next (.pointer (some ⟨i, 0, none⟩)) false u).run P w = .ok v w' ∧ Post ρ h K v w' := by
  rcases (h.M.X.hD _).1 hk with hk | ⟨a, b, c, hi, hk⟩
  rotate_left
  · have h4 := H.are i _ hi
    have hget : (getObj i).run P w = .ok (.mapIter none a b c) w := by simp [getObj, Sem.run, h4]
    refine ⟨.tuple #[.bool false], w, ?_, _, _, ρ, hk, rfl, trivial, H, Ext.refl _ _, Nat.le_refl _, Mem.le_refl _⟩
    simp only [Instr.next, Sem.run_bind, hget, Result.andThen_ok]
    rfl
  obtain ⟨g, l, sk, ⟨es, clock, seen, hb, rfl, hlt, hnd, hkn, hi, hseen⟩, hk1, hk2⟩ := hk
  have h3 := H.are g _ hb
  have h4 := H.are i _ hi
  have hget : (getObj i).run P w = .ok (.mapIter (some g) clock seen clock) w := by simp [getObj, Sem.run, h4]
  have hgetg : (getObj g).run P w = .ok (.map es clock) w := by simp [getObj, Sem.run, h3]
  have hgone : (!seen.isEmpty && !es.isEmpty && es.all fun e => decide (e.born ≥ clock)) = false := by
    cases he : es.toList with
    | nil =>
      have : es = #[] := Array.toList_inj.1 he
      subst this; simp
    | cons e r =>
      have h5 := hlt e (by rw [he]; simp)
      have : (es.all fun e => decide (e.born ≥ clock)) = false := by
        rw [Bool.eq_false_iff]
        intro ha
        rw [← Array.all_toList, he] at ha
        simp only [List.all_cons, Bool.and_eq_true, decide_eq_true_eq] at ha
        omega
      rw [this, Bool.and_false]
  generalize hleft : (es.filter fun e => !seen.contains e.born) = left
  have hlm : ∀ e, e ∈ left.toList ↔ e ∈ es.toList ∧ e.key ∉ sk := fun e => by
    rw [← hleft]
    simp only [Array.toList_filter, List.mem_filter, Bool.not_eq_true', and_congr_right_iff]
    intro he
    rw [← hseen e he]
    rw [← Bool.not_eq_true]
    simp
  have hold : left.filter (fun e => decide (e.born < clock)) = left := by
    rw [Array.filter_eq_self]
    intro e he
    exact decide_eq_true (hlt e ((hlm e).1 (by simpa using he)).1)
  have hnew : left.filter (fun e => decide (e.born ≥ clock)) = #[] := by
    rw [Array.filter_eq_empty_iff]
    intro e he
    have := hlt e ((hlm e).1 (by simpa using he)).1
    simp; omega
  generalize hcand : ((if left.isEmpty then #[none] else #[]) ++ (left ++ #[]).map some : Array (Option MapEntry)) = cand
  have hpos : 0 < cand.size := by
    rw [← hcand]
    by_cases hz : left.isEmpty
    · rw [if_pos hz]; simp; omega
    · rw [if_neg hz]
      simp only [Array.isEmpty_iff] at hz
      have : 0 < left.size := Nat.pos_of_ne_zero fun h0 => hz (Array.eq_empty_of_size_eq_zero h0)
      simp; omega
  obtain ⟨c, w1, hdraw, hw1, hci⟩ : ∃ c w1, (choose (.mapNext cand.size)).run P w = .ok c w1 ∧ (w1 = w ∨ w1 = { w with drawn := w.drawn + 1 }) ∧ c < cand.size := by
    simp only [choose, Sem.run]
    by_cases hf : (Question.mapNext cand.size).forced = true
    · rw [if_pos hf]
      exact ⟨0, w, rfl, .inl rfl, hpos⟩
    · rw [if_neg hf]
      refine ⟨_, _, rfl, .inr rfl, ?_⟩
      simp only [Question.cut]
      exact Nat.mod_lt _ hpos
  have H1 : HRel ρ h w1 := by
    rcases hw1 with rfl | rfl
    · exact H
    · exact H.drawn _
  have hheap : w1.heap = w.heap := by rcases hw1 with rfl | rfl <;> rfl
  have hrun : (Instr.next (.pointer (some ⟨i, 0, none⟩)) false u).run P w =
      ((match cand[c]? with
        | some (some e) => do
          setObj i (.mapIter (some g) clock (seen.push e.born) clock)
          pure (.tuple #[.bool true, e.key, e.val])
        | some none => pure (.tuple #[.bool false])
        | none => stuck "Next: no such candidate" : Sem Value)).run P w1 := by
    simp only [Instr.next, Sem.run_bind, hget, hgetg, Result.andThen_ok, hgone, Bool.false_eq_true, if_false, hleft, hold, hnew, hcand, hdraw]
    generalize cand[c]? = x
    cases x with
    | none => rfl
    | some x => cases x <;> rfl
  rw [hrun]
  obtain ⟨x, hat, hmem⟩ : ∃ x, cand[c]? = some x ∧ x ∈ cand.toList := ⟨cand[c], Array.getElem?_eq_getElem hci, by simp⟩
  rw [hat]
  rw [← hcand] at hmem
  cases x with
  | none =>
    have hz : left.isEmpty = true := by
      by_cases hz : left.isEmpty
      · exact hz
      · rw [if_neg hz] at hmem; simp at hmem
    refine ⟨_, w1, rfl, _, _, ρ, hk2 (fun e he => ?_), rfl, trivial, H1, Ext.refl _ _, Nat.le_refl _, Mem.le_refl _⟩
    obtain ⟨x, hx, rfl⟩ := List.mem_map.1 he
    refine Classical.byContradiction fun hn => ?_
    have := (hlm x).2 ⟨hx, hn⟩
    rw [Array.isEmpty_iff.1 hz] at this
    simp at this
  | some e =>
    have hel : e ∈ left.toList := by
      by_cases hz : left.isEmpty
      · rw [if_pos hz] at hmem; simpa using hmem
      · rw [if_neg hz] at hmem; simpa using hmem
    obtain ⟨hee, hes⟩ := (hlm e).1 hel
    obtain ⟨A', k1, k2, k3⟩ := arena_set H1 hi (.mapIter (some g) clock (seen.push e.born) clock)
    have hne : g ≠ i := fun e => by subst e; rw [hb] at hi; cases hi
    refine ⟨.tuple #[.bool true, e.key, e.val], _, ?_, _, _, ρ, hk1 (e.key, e.val) (List.mem_map.2 ⟨e, hee, rfl⟩) hes A' k2 ⟨es, clock, seen.push e.born, by rw [k2 g hne]; exact hb, rfl, hlt, hnd, hkn, k1, fun x hx => ?_⟩ ?_, rfl, trivial, k3, Ext.refl _ _, Nat.le_refl _, Mem.put_le _ _⟩
    · have h4' : w1.heap[i]? = some (.mapIter (some g) clock seen clock) := by rw [hheap]; exact h4
      simp [setObj, Sem.run, h4']
    · simp only [Array.toList_push, List.mem_append, List.mem_singleton]
      rw [hseen x hx]
      refine or_congr Iff.rfl ?_
      -- born and key both tell entries apart
      have inj : ∀ {β : Type} (f : MapEntry → β), (es.toList.map f).Nodup → f x = f e → x = e := fun f hn he => nodup_inj f hn hx hee he
      have hkn' : (es.toList.map (·.key)).Nodup := by
        have : (entsOf es).map (·.1) = es.toList.map (·.key) := by simp [entsOf, Function.comp_def]
        rw [← this]; exact hkn
      exact ⟨fun hh => by rw [inj _ hnd hh], fun hh => by rw [inj _ hkn' hh]⟩
    · rw [A'.enteq]
      unfold entOf
      rw [k1]
      simp only [Array.back?_push]
      rw [k2 g hne, hb]
      simp only [BEq.rfl, cond_true, Option.map_eq_some_iff]
      refine ⟨e, ?_, rfl⟩
      rw [← Array.find?_toList]
      refine List.find?_eq_some_iff_append.2 ⟨by simp, ?_⟩
      obtain ⟨as, bs, hab⟩ := List.append_of_mem hee
      refine ⟨as, bs, hab, fun x hx => ?_⟩
      simp only [Bool.not_eq_true', beq_eq_false_iff_ne, ne_eq]
      intro hxe
      rw [hab, List.map_append, List.map_cons] at hnd
      exact (List.nodup_append.1 hnd).2.2 x.born (List.mem_map.2 ⟨x, hx, rfl⟩) e.born (by simp) hxe

/-! ### A new map; the entry that a walk stands at -/

def mapA (h : HS) (K : SV → HS → Bool) : Bool := h.M.D (∀ g A', h.M.A.blk g = none → (∀ b, b ≠ g → A'.blk b = h.M.A.blk b) → MapAt A' g [] → K (.v (.map (some g))) (h.put A') = true)

theorem mapA_run {P : Program} {h : HS} {t : TypeId} {K : SV → HS → Bool} (hk : mapA h K) {ρ : Nat → Loc} {w : World} (H : HRel ρ h w) :
    ∃ v w', (Instr.makeMap t none).run P w = .ok v w' ∧ Post ρ h K v w' := by
  have hk := (h.M.X.hD _).1 hk
  obtain ⟨A', k1, k2, k3, k4⟩ := arena_obj H (.map #[] 0) w.drawn
  refine ⟨.map (some w.heap.size), _, ?_, _, _, ρ, hk w.heap.size A' k1 k3 ⟨#[], 0, k2, rfl, by simp, by simp⟩, rfl, trivial, k4, Ext.refl _ _, Nat.le_refl _, Mem.put_le _ _⟩
  simp [Instr.makeMap]

theorem ent_some {A : Arena} {i : Nat} {v : Value} (h : A.ent i = some v) : ∃ m since seen stepped st es clock e, A.blk i = some (.mapIter (some m) since seen stepped) ∧ seen.back? = some st ∧ A.blk m = some (.map es clock) ∧ clock = stepped ∧ es.find? (fun e => e.born == st) = some e ∧ v = .tuple #[e.key, e.val] := by
  rw [A.enteq] at h
  unfold entOf at h
  split at h
  · rename_i m since seen stepped hi
    split at h
    · rename_i st es clock hst hm
      cases hc : clock == stepped with
      | false => rw [hc] at h; cases h
      | true =>
        rw [hc] at h
        simp only [cond_true, Option.map_eq_some_iff] at h
        obtain ⟨e, he, rfl⟩ := h
        exact ⟨m, since, seen, stepped, st, es, clock, e, hi, hst, hm, by simpa using hc, he, rfl⟩
    · cases h
  · cases h

theorem entA_run {P : Program} {h : HS} {i : Nat} {v : Value} (hv : h.M.A.ent i = some v) {ρ : Nat → Loc} {w : World} (H : HRel ρ h w) : (Instr.entry (.pointer (some ⟨i, 0, none⟩))).run P w = .ok v w := by
  obtain ⟨m, since, seen, stepped, st, es, clock, e, h1, h2, h3, h4, h5, rfl⟩ := ent_some hv
  have k1 := H.are i _ h1
  have k2 := H.are m _ h3
  have hget : (getObj i).run P w = .ok (.mapIter (some m) since seen stepped) w := by simp [getObj, Sem.run, k1]
  have hgetm : (getObj m).run P w = .ok (.map es clock) w := by simp [getObj, Sem.run, k2]
  simp [Instr.entry, hget, h2, hgetm, h4, h5]

end
end Go.Sx

namespace Go.Sx
noncomputable section

theorem key1_eq {k x : Value} (ha : alike1 k x = true) (h : key1 k x = true) : x = k := by
  unfold alike1 at ha
  split at ha
  · simp only [key1] at h
    rw [bytes_beq h]
  · simp only [key1] at h
    rw [eq_of_beq h, of_decide_eq_true ha]
  · simp only [key1] at h
    rw [eq_of_beq h]
  · cases ha

theorem keyC_eq : ∀ {ks xs : List Value}, alikeC ks xs = true → keyC ks xs = true → xs = ks
  | [], [], _, _ => rfl
  | [], _ :: _, h, _ => by cases h
  | _ :: _, [], h, _ => by cases h
  | k :: ks, x :: xs, h, h' => by
    simp only [alikeC, Bool.and_eq_true] at h
    simp only [keyC, Bool.and_eq_true] at h'
    rw [key1_eq h.1 h'.1, keyC_eq h.2 h'.2]

/-- These cells are such a struct's. -/
def fitsS (P : Program) : List Field → List Value → Nat → Bool
  | [], [], _ => true
  | f :: fs, v :: vs, i => bif Nat.beq f.offset i && !(f.name == "_") then (match ty P f.type with
    | some s => keyFits s.und v && fitsS P fs vs (i + 1)
    | none => false) else false
  | _, _, _ => false

theorem fitsS_cons {P : Program} {f : Field} {fs : List Field} {v : Value} {vs : List Value} {i : Nat} (h : fitsS P (f :: fs) (v :: vs) i = true) :
    f.offset = i ∧ f.name ≠ "_" ∧ (∃ s, ty P f.type = some s ∧ keyFits s.und v = true) ∧ fitsS P fs vs (i + 1) = true := by
  simp only [fitsS] at h
  cases hb : Nat.beq f.offset i && !(f.name == "_") with
  | false => rw [hb] at h; cases h
  | true =>
    rw [hb] at h
    simp only [cond_true] at h
    simp only [Bool.and_eq_true, Bool.not_eq_true', beq_eq_false_iff_ne, ne_eq] at hb
    split at h
    · rename_i s hs
      simp only [Bool.and_eq_true] at h
      exact ⟨Nat.eq_of_beq_eq_true hb.1, hb.2, ⟨s, hs, h.1⟩, h.2⟩
    · cases h

theorem eqCells_fits {P : Program} : ∀ (fs : List Field) (ks xs : List Value) (i : Nat), fitsS P fs ks i = true → alikeC ks xs = true → eqCells fs (ks.map .v) (xs.map .v) i (ty P) = some (keyC ks xs)
  | [], [], [], _, _, _ => rfl
  | [], [], _ :: _, _, _, h => by cases h
  | [], _ :: _, _, _, h, _ => by cases h
  | _ :: _, [], _, _, h, _ => by cases h
  | _ :: _, _ :: _, [], _, _, h => by cases h
  | f :: fs, k :: ks, x :: xs, i, h, ha => by
    obtain ⟨ho, hn, ⟨s, hs, hf⟩, hr⟩ := fitsS_cons h
    simp only [alikeC, Bool.and_eq_true] at ha
    have ih := eqCells_fits fs ks xs (i + 1) hr ha.2
    have hb : (!(Nat.beq f.offset i) || (f.name == "_")) = false := by
      rw [ho, Nat.beq_refl]
      simpa using hn
    simp only [List.map_cons, eqCells, hb, cond_false, hs, ih, keyC]
    have ha1 := ha.1
    cases hu : s.und with
    | int kd =>
      rw [hu] at hf
      cases k with
      | int q a =>
        cases x with
        | int q' b =>
          have := of_decide_eq_true ha1
          subst this
          simp only [kEq_iff.2 rfl, cond_true, Option.map_some, key1]
          rfl
        | _ => cases ha1
      | _ => cases hf
    | string =>
      rw [hu] at hf
      cases k with
      | string a =>
        cases x with
        | string b =>
          simp only [SV.str?, Option.map_some, key1]
          rw [beqL_eq, beq_toListBytes, ByteArray.toList_eq, ByteArray.toList_eq]
        | _ => cases ha1
      | _ => cases hf
    | bool =>
      rw [hu] at hf
      cases k with
      | bool a =>
        cases x with
        | bool b => simp only [Option.map_some, key1]
        | _ => cases ha1
      | _ => cases hf
    | _ =>
      rw [hu] at hf
      cases hf

theorem map_denv (ρ : Nat → Loc) (l : List Value) : (l.map SV.v).map (SV.den ρ) = l := by
  rw [List.map_map]
  exact List.map_id _

theorem equal_fits {P : Program} {t : TypeId} {s : STy} {fs : Array Field} (hs : ty P t = some s) (hd : s.und = .struct fs) (hh : P.stoodInHeld t = false) {ks xs : List Value} (hf : fitsS P fs.toList ks 0 = true) (ha : alikeC ks xs = true) (w : World) :
    (Op.equal t (.agg ks.toArray) (.agg xs.toArray)).run P w = .ok (keyC ks xs) w := by
  have hu := (ty_facts hs).und
  rw [hd] at hu
  have hff : P.fieldsOf t = fs := by simp [Program.fieldsOf, hu]
  have h1 := run_equalIn_struct (P := P) w (9998 + 1) t ks.toArray xs.toArray (by rw [hff]; exact hu) hh
  rw [hff] at h1
  show (Op.equalIn (9998 + 2) t _ _).run P w = _
  rw [h1]
  have h2 := eqCells_run (ρ := fun _ => ⟨0, 0, 0⟩) 9998 w fs.toList (ks.map .v) (xs.map .v) [] [] _ (eqCells_fits fs.toList ks xs 0 hf ha) rfl
  rw [List.nil_append, List.nil_append, map_denv, map_denv] at h2
  exact h2

theorem find_asking {P : Program} {t : TypeId} {s : STy} {fs : Array Field} (hs : ty P t = some s) (hd : s.und = .struct fs) (hh : P.stoodInHeld t = false) {ks : List Value} (hf : fitsS P fs.toList ks 0 = true) (v : Value) (w : World) : ∀ (es : List MapEntry) (i : Nat), (∀ e ∈ es, alikeK (.agg ks.toArray) e.key = true) →
    ((Instr.findAsking t (.agg ks.toArray) es i).run P w = .ok none w ∧ getL (.agg ks.toArray) (es.map pairOf) = none ∧ putL (.agg ks.toArray) v (es.map pairOf) = es.map pairOf ++ [(.agg ks.toArray, v)] ∧ delL (.agg ks.toArray) (es.map pairOf) = es.map pairOf) ∨
    ∃ j e, (Instr.findAsking t (.agg ks.toArray) es i).run P w = .ok (some (i + j, e.val)) w ∧ es[j]? = some e ∧ e.key = .agg ks.toArray ∧ getL (.agg ks.toArray) (es.map pairOf) = some e.val ∧ putL (.agg ks.toArray) v (es.map pairOf) = (es.modify j fun e => { e with key := .agg ks.toArray, val := v }).map pairOf ∧ delL (.agg ks.toArray) (es.map pairOf) = (es.eraseIdx j).map pairOf
  | [], i, _ => .inl ⟨rfl, rfl, rfl, rfl⟩
  | e :: es, i, ha => by
    have h0 := ha e (by simp)
    obtain ⟨xs, hx⟩ : ∃ xs : List Value, e.key = .agg xs.toArray := by
      cases hk : e.key with
      | agg cs => exact ⟨cs.toList, by simp⟩
      | _ => rw [hk] at h0; cases h0
    have h0' : alikeC ks xs = true := by rw [hx] at h0; simpa [alikeK] using h0
    have heq := equal_fits hs hd hh hf h0' w
    have hki : keyIs (.agg ks.toArray) e.key = keyC ks xs := by rw [hx]; simp [keyIs]
    cases hk : keyC ks xs with
    | true =>
      rw [hk] at heq hki
      have he : e.key = .agg ks.toArray := by rw [hx, keyC_eq h0' hk]
      refine .inr ⟨0, e, ?_, rfl, he, ?_, ?_, ?_⟩
      · simp only [Instr.findAsking, Sem.run_bind, hx, heq, Result.andThen_ok, if_true, Sem.run_pure, Nat.add_zero]
      · simp only [List.map_cons, getL, pairOf, hki, cond_true]
      · simp only [List.map_cons, putL, pairOf, hki, cond_true, List.modify_zero_cons]
      · simp only [List.map_cons, delL, pairOf, hki, cond_true, List.eraseIdx_cons_zero]
    | false =>
      rw [hk] at heq hki
      rcases find_asking hs hd hh hf v w es (i + 1) (fun x hx => ha x (by simp [hx])) with ⟨h1, h2, h3, h4⟩ | ⟨j, x, h1, h2, h3, h4, h5, h6⟩
      · refine .inl ⟨?_, ?_, ?_, ?_⟩
        · simp only [Instr.findAsking, Sem.run_bind, hx, heq, Result.andThen_ok, Bool.false_eq_true, if_false, h1]
        · simp only [List.map_cons, getL, pairOf, hki, cond_false]; exact h2
        · simp only [List.map_cons, putL, show (pairOf e).1 = e.key from rfl, hki, cond_false, h3, List.cons_append]
        · simp only [List.map_cons, delL, show (pairOf e).1 = e.key from rfl, hki, cond_false, h4]
      · refine .inr ⟨j + 1, x, ?_, by simpa using h2, h3, ?_, ?_, ?_⟩
        · simp only [Instr.findAsking, Sem.run_bind, hx, heq, Result.andThen_ok, Bool.false_eq_true, if_false, h1]; congr 3; omega
        · simp only [List.map_cons, getL, pairOf, hki, cond_false]; exact h4
        · simp only [List.map_cons, putL, show (pairOf e).1 = e.key from rfl, hki, cond_false, h5, List.modify_succ_cons]
        · simp only [List.map_cons, delL, show (pairOf e).1 = e.key from rfl, hki, cond_false, h6, List.eraseIdx_cons_succ]

theorem findKey_fits {P : Program} {t : TypeId} {s : STy} {fs : Array Field} (hs : ty P t = some s) (hd : s.und = .struct fs) (hh : P.stoodInHeld t = false) {ks : List Value} (hf : fitsS P fs.toList ks 0 = true) (v : Value) (es : List MapEntry) (ha : ∀ e ∈ es, alikeK (.agg ks.toArray) e.key = true) (w : World) :
    ((Instr.findKey t (.agg ks.toArray) es).run P w = .ok none w ∧ getL (.agg ks.toArray) (es.map pairOf) = none ∧ putL (.agg ks.toArray) v (es.map pairOf) = es.map pairOf ++ [(.agg ks.toArray, v)] ∧ delL (.agg ks.toArray) (es.map pairOf) = es.map pairOf) ∨
    ∃ j e, (Instr.findKey t (.agg ks.toArray) es).run P w = .ok (some (j, e.val)) w ∧ es[j]? = some e ∧ e.key = .agg ks.toArray ∧ getL (.agg ks.toArray) (es.map pairOf) = some e.val ∧ putL (.agg ks.toArray) v (es.map pairOf) = (es.modify j fun e => { e with key := .agg ks.toArray, val := v }).map pairOf ∧ delL (.agg ks.toArray) (es.map pairOf) = (es.eraseIdx j).map pairOf := by
  have hrun : (Instr.findKey t (.agg ks.toArray) es).run P w = (Instr.findAsking t (.agg ks.toArray) es 0).run P w := by
    simp only [Instr.findKey, Sem.run_bind, r_underlying w hs, Result.andThen_ok, hd]
    cases es with
    | nil => rfl
    | cons e es => rfl
  rw [hrun]
  rcases find_asking hs hd hh hf v w es 0 ha with h | ⟨j, e, h1, h2⟩
  · exact .inl h
  · exact .inr ⟨j, e, by rw [h1, Nat.zero_add], h2⟩

theorem checkKey_fits {P : Program} {t : TypeId} {s : STy} {fs : Array Field} (hs : ty P t = some s) (hd : s.und = .struct fs) {ks : List Value} (hf : fitsS P fs.toList ks 0 = true) (b : Bool) (w : World) :
    (Instr.checkKey b 10000 t (.agg ks.toArray)).run P w = .ok () w := by
  show (Instr.checkKey b (9999 + 1) t (.agg ks.toArray)).run P w = .ok () w
  rw [Instr.checkKey]
  simp only [Sem.run_bind, r_underlying w hs, hd, Result.andThen_ok]
  rw [← Array.forIn_toList]
  have key : ∀ (L : List Field) (pre vs : List Value), fitsS P L vs pre.length = true → ks = pre ++ vs → ∀ f ∈ L, f.name ≠ "_" ∧ ∃ sf c, ty P f.type = some sf ∧ keyFits sf.und c = true ∧ ks.toArray[f.offset]? = some c := by
    intro L
    induction L with
    | nil => intro _ _ _ _ f hf; cases hf
    | cons f L ih =>
      intro pre vs h hk g hg
      cases vs with
      | nil => cases h
      | cons c vs =>
        obtain ⟨ho, hn, ⟨sf, hsf, hfit⟩, hr⟩ := fitsS_cons h
        rcases List.mem_cons.1 hg with rfl | hg
        · refine ⟨hn, sf, c, hsf, hfit, ?_⟩
          rw [ho, List.getElem?_toArray, hk]
          simp
        · exact ih (pre ++ [c]) vs (by simpa using hr) (by rw [hk]; simp) g hg
  have each := key fs.toList [] ks hf rfl
  generalize fs.toList = L at each
  clear key hf
  induction L with
  | nil => simp
  | cons f L ih =>
    obtain ⟨hn, sf, c, h1, h2, h3⟩ := each f (by simp)
    have hp := plainKey_of_fits h2
    have hna : TypeDesc.isAgg sf.und = false := by
      cases hu : sf.und <;> rw [hu] at hp <;> first | rfl | cases hp
    have p1 := part_one (P := P) h1 hna h3 w
    have p2 := checkKey_run (P := P) h1 hp b 9998 c w
    simp only [List.forIn_cons, Sem.run_bind, hn, ne_eq, not_false_eq_true, if_true, Result.andThen_ok, p1, p2, Sem.run_pure]
    exact ih fun y hy => each y (by simp [hy])

theorem sameBits_fits {P : Program} : ∀ (fs : List Field) (ks : List Value) (i n : Nat), fitsS P fs ks i = true → ((ks.zip ks).all fun (x, y) => Instr.sameBits n x y) = true
  | [], [], _, _, _ => rfl
  | [], _ :: _, _, _, h => by cases h
  | _ :: _, [], _, _, h => by cases h
  | f :: fs, k :: ks, i, n, h => by
    obtain ⟨_, _, ⟨s, _, hf⟩, hr⟩ := fitsS_cons h
    have ih := sameBits_fits fs ks (i + 1) n hr
    rw [List.zip_cons_cons, List.all_cons, ih, Bool.and_true]
    unfold keyFits at hf
    split at hf
    · cases n <;> simp [Instr.sameBits]
    · cases n <;> (simp only [Instr.sameBits]; rw [beq_toListBytes]; simp)
    · cases n <;> simp [Instr.sameBits]
    · cases hf

theorem keyThatStays_fits {P : Program} {fs : List Field} {ks : List Value} (hf : fitsS P fs ks 0 = true) (w : World) : (Instr.keyThatStays (.agg ks.toArray) (.agg ks.toArray)).run P w = .ok (.agg ks.toArray) w := by
  have h := sameBits_fits fs ks 0 9999 hf
  have : Instr.sameBits 10000 (.agg ks.toArray) (.agg ks.toArray) = true := by
    show Instr.sameBits (9999 + 1) _ _ = true
    simp only [Instr.sameBits, BEq.rfl, Bool.true_and]
    exact h
  simp [Instr.keyThatStays, this]

/-- A struct's cells as a key. -/
def keyS (P : Program) (fs : Array Field) (k : SV) : Option (List Value) := match k.aggs? with
  | some xs => match plains xs with
    | some vs => bif fitsS P fs.toList vs 0 then some vs else none
    | none => none
  | none => none

theorem keyS_den {P : Program} {fs : Array Field} {k : SV} {vs : List Value} (h : keyS P fs k = some vs) (ρ : Nat → Loc) : k.den ρ = .agg vs.toArray ∧ fitsS P fs.toList vs 0 = true := by
  unfold keyS at h
  split at h
  · rename_i xs hx
    split at h
    · rename_i ws hw
      cases hf : fitsS P fs.toList ws 0 with
      | false => rw [hf] at h; cases h
      | true =>
        rw [hf] at h
        injection h with h
        subst h
        exact ⟨by rw [SV.aggs?_den hx, plains_den ρ xs ws hw], hf⟩
    · cases h
  · cases h

def putS (P : Program) (h : HS) (kt : TypeId) (fs : Array Field) (g : Nat) (k v : SV) (K : SV → HS → Bool) : Bool := match keyS P fs k, plainM v with
  | some ks, some vv => h.M.D (P.stoodInHeld kt = false ∧ ∃ l, MapAt h.M.A g l ∧ (∀ e ∈ l, alikeK (.agg ks.toArray) e.1 = true) ∧ ∀ A', MapAt A' g (putL (.agg ks.toArray) vv l) → (∀ b, b ≠ g → A'.blk b = h.M.A.blk b) → K (.v (.tuple #[])) (h.put A') = true)
  | _, _ => false

def putB (P : Program) (h : HS) (t : TypeId) (g : Nat) (k v : SV) (K : SV → HS → Bool) : Bool := match ty P t with
  | none => false
  | some s => match s.und with
    | .map kt _ => match ty P kt with
      | some sk => match sk.und with
        | .struct fs => putS P h kt fs g k v K
        | _ => putA P h t g k v K
      | none => false
    | _ => false

theorem putB_run {P : Program} {h : HS} {t : TypeId} {g : Nat} {k v : SV} {K : SV → HS → Bool} (hk : putB P h t g k v K) {ρ : Nat → Loc} {w : World} (H : HRel ρ h w) :
    ∃ w', (Instr.mapUpdate t (.map (some g)) (k.den ρ) (v.den ρ)).run P w = .ok () w' ∧ Post ρ h K (.tuple #[]) w' := by
  unfold putB at hk
  split at hk
  · exact absurd hk Bool.false_ne_true
  · rename_i s hs
    split at hk
    · rename_i kt et hd
      split at hk
      · rename_i sk hsk
        split at hk
        · rename_i fs hfs
          unfold putS at hk
          split at hk
          · rename_i ks vv hks hvv
            obtain ⟨hheld, l, ⟨es, clock, hb, rfl, hlt, hnd⟩, ha, hk⟩ := (h.M.X.hD _).1 hk
            obtain ⟨hke, hf⟩ := keyS_den hks ρ
            have ha : ∀ e ∈ es.toList, alikeK (.agg ks.toArray) e.key = true := fun e he => ha (pairOf e) (List.mem_map.2 ⟨e, he, rfl⟩)
            have h3 := H.are g _ hb
            have hget : (getObj g).run P w = .ok (.map es clock) w := by simp [getObj, Sem.run, h3]
            have hcheck : ∀ b, (Instr.checkKey b 10000 kt (.agg ks.toArray)).run P w = .ok () w := fun b => checkKey_fits hsk hfs hf b w
            rw [plainM_den hvv ρ, hke]
            rcases findKey_fits (P := P) hsk hfs hheld hf vv es.toList ha w with ⟨h1, _, h2, _⟩ | ⟨j, e, h1, he, hek, _, h2, _⟩
            · obtain ⟨A', k1, k2, k3⟩ := arena_set H hb (.map (es.push { key := .agg ks.toArray, val := vv, born := clock }) (clock + 1))
              refine ⟨_, ?_, _, _, ρ, hk A' ⟨_, _, k1, ?_, ?_, ?_⟩ k2, rfl, trivial, k3, Ext.refl _ _, Nat.le_refl _, Mem.put_le _ _⟩
              · simp only [Instr.mapUpdate, Sem.run_bind, r_underlying w hs, hd, Result.andThen_ok, hget, hcheck, h1]
                simp [setObj, Sem.run, h3]
              · rw [entsOf_eq es, h2, entsOf_eq]; simp [pairOf]
              · intro x hx
                simp only [Array.toList_push, List.mem_append, List.mem_singleton] at hx
                rcases hx with hx | rfl
                · have := hlt x hx; omega
                · show clock < clock + 1; omega
              · simp only [Array.toList_push, List.map_append, List.map_cons, List.map_nil]
                refine List.nodup_append.2 ⟨hnd, by simp, fun a ha' b hb' => ?_⟩
                obtain ⟨x, hx, rfl⟩ := List.mem_map.1 ha'
                have := hlt x hx
                simp only [List.mem_singleton] at hb'
                omega
            · obtain ⟨A', k1, k2, k3⟩ := arena_set H hb (.map (es.modify j fun e => { e with key := .agg ks.toArray, val := vv }) clock)
              have hmod : (es.modify j fun e => { e with key := .agg ks.toArray, val := vv }).toList = es.toList.modify j fun e => { e with key := .agg ks.toArray, val := vv } := by simp
              refine ⟨_, ?_, _, _, ρ, hk A' ⟨_, _, k1, ?_, ?_, ?_⟩ k2, rfl, trivial, k3, Ext.refl _ _, Nat.le_refl _, Mem.put_le _ _⟩
              · have hej : es[j]? = some e := by simpa using he
                simp only [Instr.mapUpdate, Sem.run_bind, r_underlying w hs, hd, Result.andThen_ok, hget, hcheck, h1, hej, Option.map_some, Option.getD_some, hek, keyThatStays_fits hf w]
                simp [setObj, Sem.run, h3]
              · rw [entsOf_eq es, h2, entsOf_eq, hmod]
              · rw [hmod]
                refine lt_of_borns ?_
                rw [born_modify (fun e => { e with key := .agg ks.toArray, val := vv }) (fun _ => rfl)]
                intro b hb'
                obtain ⟨x, hx, rfl⟩ := List.mem_map.1 hb'
                exact hlt x hx
              · rw [hmod, born_modify (fun e => { e with key := .agg ks.toArray, val := vv }) (fun _ => rfl)]
                exact hnd
          · exact absurd hk Bool.false_ne_true
        · exact putA_run hk H
      · exact absurd hk Bool.false_ne_true
    · exact absurd hk Bool.false_ne_true

theorem mem_eraseIdx_of {α : Type} {x : α} : ∀ {l : List α} {i : Nat}, x ∈ l.eraseIdx i → x ∈ l := fun h => List.mem_of_mem_eraseIdx h

def delS (P : Program) (h : HS) (kt : TypeId) (fs : Array Field) (g : Nat) (k : SV) (K : SV → HS → Bool) : Bool := match keyS P fs k with
  | some ks => h.M.D (P.stoodInHeld kt = false ∧ ∃ l, MapAt h.M.A g l ∧ (∀ e ∈ l, alikeK (.agg ks.toArray) e.1 = true) ∧ ∀ A', MapAt A' g (delL (.agg ks.toArray) l) → (∀ b, b ≠ g → A'.blk b = h.M.A.blk b) → (∀ i sk, IterAt h.M.A i g l sk → IterAt A' i g (delL (.agg ks.toArray) l) sk) → K (.v (.tuple #[])) (h.put A') = true)
  | none => false

def delB (P : Program) (h : HS) (kt : TypeId) (g : Nat) (k : SV) (K : SV → HS → Bool) : Bool := match ty P kt with
  | some sk => match sk.und with
    | .struct fs => delS P h kt fs g k K
    | _ => delA P h kt g k K
  | none => false

theorem delB_run {P : Program} {h : HS} {t kt et : TypeId} {s : STy} (hs : ty P t = some s) (hd : s.und = .map kt et) {ts : List TypeId} {g : Nat} {k : SV} {K : SV → HS → Bool} (hk : delB P h kt g k K) {ρ : Nat → Loc} {w : World} (H : HRel ρ h w) (u : TypeId) :
    ∃ v w', (Builtin.delete_ (t :: ts).toArray u #[.map (some g), k.den ρ]).run P w = .ok v w' ∧ Post ρ h K v w' := by
  have h0 : (t :: ts).toArray[0]? = some t := by simp
  unfold delB at hk
  split at hk
  · rename_i sk hsk
    split at hk
    · rename_i fs hfs
      unfold delS at hk
      split at hk
      · rename_i ks hks
        obtain ⟨hheld, l, ⟨es, clock, hb, rfl, hlt, hnd⟩, ha, hk⟩ := (h.M.X.hD _).1 hk
        obtain ⟨hke, hf⟩ := keyS_den hks ρ
        have ha : ∀ e ∈ es.toList, alikeK (.agg ks.toArray) e.key = true := fun e he => ha (pairOf e) (List.mem_map.2 ⟨e, he, rfl⟩)
        have h3 := H.are g _ hb
        have hget : (getObj g).run P w = .ok (.map es clock) w := by simp [getObj, Sem.run, h3]
        have hcheck : ∀ b, (Instr.checkKey b 10000 kt (.agg ks.toArray)).run P w = .ok () w := fun b => checkKey_fits hsk hfs hf b w
        rw [hke]
        rcases findKey_fits (P := P) hsk hfs hheld hf (.bool false) es.toList ha w with ⟨h1, _, _, h2⟩ | ⟨j, e, h1, he, hek, _, _, h2⟩
        · obtain ⟨A', k1, k2, k3⟩ := arena_set H hb (.map es clock)
          refine ⟨.tuple #[], _, ?_, _, _, ρ, hk A' ⟨_, _, k1, ?_, hlt, hnd⟩ k2 (fun i sk hI => ?_), rfl, trivial, k3, Ext.refl _ _, Nat.le_refl _, Mem.put_le _ _⟩
          · simp only [Builtin.delete_, h0, List.getElem?_toArray, List.getElem?_cons_zero, List.getElem?_cons_succ, Sem.run_bind, r_underlying w hs, hd, Result.andThen_ok, hget, hcheck, h1]
            simp [setObj, Sem.run, h3]
          · rw [entsOf_eq, h2]
          · rw [entsOf_eq, h2]
            rw [entsOf_eq] at hI
            exact hI.sub fun b o hbb ho => by
              by_cases e : b = g
              · subst e
                rw [hb] at ho
                rw [k1]
                exact ho
              · rw [k2 b e]; exact ho
        · obtain ⟨A', k1, k2, k3⟩ := arena_set H hb (.map (es.eraseIdxIfInBounds j) clock)
          have hj : j < es.size := by
            have := (List.getElem?_eq_some_iff.1 he).1
            simpa using this
          have her : (es.eraseIdxIfInBounds j).toList = es.toList.eraseIdx j := by simp
          have hents : entsOf (es.eraseIdxIfInBounds j) = delL (.agg ks.toArray) (entsOf es) := by rw [entsOf_eq es, h2, entsOf_eq, her]
          refine ⟨.tuple #[], _, ?_, _, _, ρ, hk A' ⟨_, _, k1, hents, fun x hx => hlt x ?_, ?_⟩ k2 (fun i sk hI => ?_), rfl, trivial, k3, Ext.refl _ _, Nat.le_refl _, Mem.put_le _ _⟩
          · simp only [Builtin.delete_, h0, List.getElem?_toArray, List.getElem?_cons_zero, List.getElem?_cons_succ, Sem.run_bind, r_underlying w hs, hd, Result.andThen_ok, hget, hcheck, h1]
            simp [setObj, Sem.run, h3]
          · rw [her] at hx
            exact List.mem_of_mem_eraseIdx hx
          · rw [her, map_eraseIdx]
            exact hnd.sublist (List.eraseIdx_sublist _ _)
          · obtain ⟨es', clock', seen, i1, i2, i3, i4, i5, i6, i7⟩ := hI
            rw [hb] at i1
            injection i1 with i1
            injection i1 with i1 i1'
            subst i1; subst i1'
            have hig : i ≠ g := fun e => by rw [e, hb] at i6; cases i6
            refine ⟨_, clock, seen, k1, hents, fun x hx => hlt x ?_, ?_, ?_, by rw [k2 i hig]; exact i6, fun x hx => i7 x ?_⟩
            · rw [her] at hx
              exact List.mem_of_mem_eraseIdx hx
            · rw [her, map_eraseIdx]
              exact hnd.sublist (List.eraseIdx_sublist _ _)
            · rw [← hents, entsOf_eq, her, map_eraseIdx, map_eraseIdx]
              rw [entsOf_eq] at i5
              exact i5.sublist (List.eraseIdx_sublist _ _)
            · rw [her] at hx
              exact List.mem_of_mem_eraseIdx hx
      · exact absurd hk Bool.false_ne_true
    · exact delA_run hs hd hk H u
  · exact absurd hk Bool.false_ne_true

end
end Go.Sx
