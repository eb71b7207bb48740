/-
  Paths: part PaD: what beadle/path.Check tells of every text.
-/
import Derived.Test.YtompigcfojbpkaaPaC
namespace Go.Proofs.Ytompigcfojbpkaa
open Go.RowKit Go.Shelf
attribute [local go_sem] Oper.semAt_some

def strSize : Option Value → Nat
  | some (.string s) => s.size
  | _ => 0

theorem ext_tail {p : ByteArray} {b : UInt8} {q : List UInt8} (hp : p.data.toList = b :: q) : (p.extract 1 p.size).data.toList = q := by
  have : (p.extract 1 p.size).data.toList = (p.data.toList.drop 1).take (p.size - 1) := by
    rw [ByteArray.data_extract]
    simp [Array.toList_extract]
  rw [this, hp]
  have h : p.size = (b :: q).length := by rw [← hp]; rfl
  simp [h]

theorem wrap64_in' (n : Int) (h : -9223372036854775808 ≤ n ∧ n ≤ 9223372036854775807) : wrap64 n = n := by unfold wrap64; omega

theorem size_list (p : ByteArray) : p.size = p.data.toList.length := rfl

theorem part_nil : partOk [] = false := rfl

/-- A cut part that is none. -/
theorem rest_bad {q n1 n2 : List UInt8} (hq : q ≠ []) (h : CutFacts q n1 n2) (ho : partOk n1 = false) : restOk q = false := by
  unfold restOk
  rcases h with ⟨h1, _, h3⟩ | ⟨_, h3⟩
  · rw [h3, ← h1]
    cases n1 with
    | nil => exact absurd h1.symm hq
    | cons x xs => simp [ho]
  · rw [h3]
    cases q with
    | nil => exact absurd rfl hq
    | cons x xs => simp [ho]

/-- The last part. -/
theorem rest_last {q n1 n2 : List UInt8} (h : CutFacts q n1 n2) (ho : partOk n1 = true) (hl : n1.length = q.length) : restOk q = true := by
  unfold restOk
  rcases h with ⟨h1, _, h3⟩ | ⟨h1, _⟩
  · rw [h3, ← h1]
    simp [ho]
  · rw [h1] at hl; simp at hl

/-- A part with others behind it. -/
theorem rest_more {q n1 n2 : List UInt8} (h : CutFacts q n1 n2) (ho : partOk n1 = true) (hl : n1.length ≠ q.length) : q.length = n1.length + n2.length + 1 ∧ restOk q = (splitL n2).all partOk := by
  rcases h with ⟨h1, _, h3⟩ | ⟨h1, h2⟩
  · exact absurd (by rw [h1]) hl
  · refine ⟨by rw [h1]; simp; omega, ?_⟩
    unfold restOk
    rw [h2]
    cases q with
    | nil => simp at h1
    | cons x xs => simp [ho]

set_option maxRecDepth 100000 in
set_option maxHeartbeats 4000000 in
theorem iter1 (n : Nat) (_ : 2 ≤ n) (l Bn : Nat) (J Jx : ByteArray → World → Prop)
    (jc : ∀ p W, J p W → W.cell? ⟨Bn, 0, none⟩ = some (.string p) ∧ W.frozen? ⟨Bn, 0, none⟩ = false)
    (xc : ∀ p W, Jx p W → W.cell? ⟨Bn, 0, none⟩ = some (.string p))
    (jd : ∀ p W k, J p W → J p (W.drewN k))
    (js : ∀ p p' W, J p W → J p' (W.setCell ⟨Bn, 0, none⟩ (.string p')))
    (hY : ∀ p x W, J p W → YieldAt Fence.wide (n - 1) Try.prog l #[.string x] W fun e W' => (Hid (partOk x.data.toList = true) ∧ e = .returned (.bool true) ∧ J p W') ∨ (Hid (partOk x.data.toList = false) ∧ e = .returned (.bool false) ∧ Jx p W'))
    (p0 : ByteArray) (q0 : List UInt8) (hp0 : Hid (p0.data.toList = 47 :: q0)) (hsz : p0.size ≤ 200) (W : World) (h0 : J p0 W) :
    CallsIn Fence.wide n Try.prog 70 #[.func (.yield l) #[] #[], .pointer (some ⟨Bn, 0, none⟩)] W fun e W' => (∃ v, e = .returned v) ∧
      ((restOk q0 = true ∧ ∃ p, J p W') ∨ (restOk q0 = false ∧ ∃ p, Jx p W')) := by
  refine callsIn_of_wp Try.func70 rfl trivial ?_ rfl
  simp only [Try.ntmps70, List.size_toArray, List.length_cons, List.length_nil, Nat.reduceAdd, Nat.reduceSub, Array.replicate_succ, Array.replicate_zero, List.push_toArray, List.append_toArray, List.nil_append, List.cons_append]
  gi_wp2
  gi_loopw [] (fun wr => (∃ (p : ByteArray) (q : List UInt8), J p wr ∧ Hid (p.data.toList = 47 :: q) ∧ Hid (restOk q = restOk q0) ∧ p.size ≤ 200) ∨ (∃ p : ByteArray, Jx p wr ∧ Hid (p = ⟨#[47]⟩) ∧ Hid (restOk q0 = false)))
    (fun wr => strSize (wr.cell? ⟨Bn, 0, none⟩))
  case atStart => exact .inl ⟨p0, q0, h0, hp0, rfl, hsz⟩
  case round =>
    rcases hrel with ⟨p, q, hJ, hp, hq, hs⟩ | ⟨p, hX, hp, hq⟩
    · obtain ⟨hc, hf⟩ := jc p wr hJ
      have hs1 : (1 : Int) ≤ ↑p.size := by
        have : p.size = (47 :: q).length := by rw [← hp.out]; rfl
        simp at this; omega
      have hsq : Hid (p.size = q.length + 1) := by show _ = _; rw [size_list, hp.out]; rfl
      by_cases hq' : q = []
      · -- '/' alone
        have hp' : p = ⟨#[47]⟩ := by
          have h := hp.out
          rw [hq'] at h
          obtain ⟨⟨x⟩⟩ := p
          simp at h
          rw [h]
        subst hp'
        have hq2 : Hid (restOk q0 = true) := by
          have h := hq.out
          rw [hq'] at h
          exact h.symm
        clear hq'
        gi_wp2
        go_end0
        exact ⟨⟨_, rfl⟩, .inl ⟨hq2.out, _, hJ⟩⟩
      · have hne : (p.toList == [47]) = false := by
          rw [beq_eq_false_iff_ne, ByteArray.toList_eq, hp.out]
          intro h
          injection h with _ h
          exact hq' h
        have hee : p.toList.isEmpty = false := by
          rw [ByteArray.toList_eq, hp.out]; rfl
        have hq2 : Hid (q ≠ []) := hq'
        clear hq'
        gi_wp2
        refine ⟨trivial, fun h => (by cases h), ?_⟩
        refine (callsIn_wide.2 (cut3 _ (by rw [ByteArray.size_extract]; omega) _)).mono ?_
        rintro e w' ⟨n1, n2, b, k, rfl, rfl, hcut⟩
        have hcut' : Hid (CutFacts q n1.data.toList n2.data.toList) := by
          have h := hcut.out
          rw [ext_tail hp.out] at h
          exact h
        clear hcut
        have hJ1 := jd _ _ k hJ
        obtain ⟨hc1, hf1⟩ := jc _ _ hJ1
        obtain ⟨fn, tmps, assign, body, hy, hR⟩ := hY _ n1 _ hJ1
        gi_wp2
        refine ⟨fun h => (by cases h), hR.mono ?_⟩
        rintro e W3 (⟨ho, rfl, hJ3⟩ | ⟨ho, rfl, hX3⟩)
        · obtain ⟨hc3, hf3⟩ := jc _ _ hJ3
          by_cases hl : n1.data.toList.length = q.length
          · have hlast : Hid (restOk q0 = true) := by
              rw [← hq.out]; exact rest_last hcut'.out ho.out hl
            have hlen : wrap64 ((n1.size : Int) + 1) = (p.size : Int) := by
              have h1 := hsq.out
              rw [wrap64_in' _ (by rw [size_list]; omega), size_list n1, hl, h1]
              simp
            clear hl
            gi_wp2
            refine bodyPost_ret (results_none rfl _ _ _) rfl ?_
            exact ⟨⟨_, rfl⟩, .inl ⟨hlast.out, _, hJ3⟩⟩
          · obtain ⟨hlq, hmore'⟩ := rest_more hcut'.out ho.out hl
            have hmore : Hid (restOk q0 = (splitL n2.data.toList).all partOk) := by
              rw [← hq.out]; exact hmore'
            have hlen : (wrap64 ((n1.size : Int) + 1) == (p.size : Int)) = false := by
              have h1 := hsq.out
              rw [wrap64_in' _ (by rw [size_list]; omega), size_list n1, h1, beq_eq_false_iff_ne]
              omega
            have hn2 : ¬ 9223372036854775807 < 1 + n2.size := by
              have h1 := hsq.out
              rw [size_list]; omega
            have hlq2 : Hid (q.length = n1.data.toList.length + n2.data.toList.length + 1) := hlq
            clear hl hlq hmore'
            have hJ4 := js p (⟨#[47]⟩ ++ n2) W3 hJ3
            obtain ⟨fn2, tm2, as2, bo2, hy2, hR2⟩ := hY _ ⟨#[]⟩ _ hJ4
            gi_wp2
            · rename_i hz _ _
              have hz' : n2.data.toList = [] := by
                rw [ByteArray.toList_eq] at hz
                exact List.isEmpty_iff.1 hz
              have hz2 : n2 = ⟨#[]⟩ := by
                obtain ⟨⟨x⟩⟩ := n2
                simp at hz'
                rw [hz']
              clear hz hz'
              refine ⟨fun h => (by cases h), hR2.mono ?_⟩
              rintro e W4 (⟨ho2, rfl, hJ5⟩ | ⟨ho2, rfl, hX5⟩)
              · exact absurd (ho2.out : partOk [] = true) (by decide)
              · have hc4 := xc _ _ hX5
                have hbad : Hid (restOk q0 = false) := by
                  rw [hmore.out, hz2]; rfl
                gi_wp2
                refine ⟨.inr ⟨_, hX5, ?_, hbad⟩, ?_⟩
                · rw [hz2]; rfl
                · have h1 := hsq.out; have h2 := hlq2.out
                  rw [hc4, hc, hz2]
                  show 1 < p.size
                  omega
            · rename_i hz
              have hz' : n2.data.toList ≠ [] := by
                rw [ByteArray.toList_eq] at hz
                intro h
                rw [h] at hz
                cases hz
              have hs2 : (⟨#[47]⟩ ++ n2 : ByteArray).size = n2.size + 1 := by
                rw [ByteArray.size_append]
                have : (⟨#[47]⟩ : ByteArray).size = 1 := rfl
                omega
              have h1 := hsq.out; have h2 := hlq2.out
              have h3 := size_list n2
              refine ⟨.inl ⟨_, n2.data.toList, hJ4, ?_, ?_, ?_⟩, ?_⟩
              · show _ = _
                rw [ByteArray.data_append, Array.toList_append]; rfl
              · show _ = _
                rw [hmore.out]
                unfold restOk
                cases hd : n2.data.toList with
                | nil => exact absurd hd hz'
                | cons x xs => simp
              · rw [hs2]; omega
              · rw [(jc _ _ hJ4).1, hc]
                show (⟨#[47]⟩ ++ n2 : ByteArray).size < p.size
                rw [hs2]; omega
        · have hc3 := xc _ _ hX3
          have hbad : Hid (restOk q0 = false) := by
            rw [← hq.out]; exact rest_bad hq2.out hcut'.out ho.out
          gi_wp2
          refine bodyPost_ret (results_none rfl _ _ _) rfl ?_
          exact ⟨⟨_, rfl⟩, .inr ⟨hbad.out, _, hX3⟩⟩
    · have hc := xc _ _ hX
      have hp' := hp.out
      subst hp'
      gi_wp2
      go_end0
      exact ⟨⟨_, rfl⟩, .inr ⟨hq.out, _, hX⟩⟩
end Go.Proofs.Ytompigcfojbpkaa
