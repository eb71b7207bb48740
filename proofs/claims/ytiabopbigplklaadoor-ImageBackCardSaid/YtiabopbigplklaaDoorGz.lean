/-
  ImageBack: what is put is got, and what is got is put, for any image and any bytes; over the listed table of the row: the tied card.
-/
import Derived.Test.YtiabopbigplklaaDoorTie
import Derived.Test.YtiabopbigplklaaDoorCards
import Derived.Test.YtiabopbigplklaaDoorG17
import Derived.Test.YtiabopbigplklaaDoorG16
import Derived.ProofKit
import Derived.LaidMore
import Derived.OpenShut
import Derived.ChangeMaps5
import Derived.Lib.LaidTab
import Derived.LaidLaws
import Derived.Stop.LaidErr
import Derived.Lay
import Derived.Carry
import Derived.SizedLaws
import Derived.SevenTiedAt
namespace Go.Proofs.YtiabopbigplklaaDoor.imageBack
open Go.ChangeShapes Go.WideShapes Go.ChangeAt Go.WideMaps Go.WideElems Go.RowKit
open Go.Sx

theorem own : ownKnob Tryd.prog.godebug = none := by kernel_rfl
theorem laidOut : laidOutB Tryd.prog = true := by kernel_rfl

abbrev laidL : List (String × DataW Unit) := [("bytes.ErrTooLarge", Rows.laid_bytes_ErrTooLarge)]

set_option maxRecDepth 100000 in
/-- The walk: the law's text gives true, and what lay lies as it lay. -/
theorem walk {w : World} {cs0 : List Value} {g0 : ImgG} (h0 : ImgV g0 (.agg cs0.toArray) (allOf w)) {v1 : Value} {g1 : List UInt8} (h1 : SlB (allOf w) v1 g1) (g2 : Int) {v3 : Value} {g3 : List UInt8} (h3 : SlB (allOf w) v3 g3) :
    Calls Tryd.prog 3 #[.agg cs0.toArray, v1, .int .i64 g2, v3] w fun e w' => e = .returned (.bool true) ∧ Below w.heap.size w w' := by
  refine (calls_of_fok back_ok Tryd.func3 (by kernel_rfl) (by kernel_rfl) (⟨g0, g1, g2, g3⟩ : BkG) [.agg cs0.toArray, v1, .int .i64 g2, v3] w ⟨_, v1, v3, rfl, h0, h1, h3⟩ (fun _ _ hq => hq.1)).mono fun e w' ⟨u, he, ⟨A', hq⟩, hb⟩ => ?_
  obtain ⟨_, rfl⟩ := hq
  exact ⟨he, hb⟩

set_option maxRecDepth 100000 in
theorem lifted (os : Os) (started : os.Started) (H : Type) (enc : TypeId × Value → H) :
    ReturnsInHanded {} Tryd.checked os 3 .any (fun w args => (Rows.imageBackSpec.pre enc Tryd.prog Tryd.f3 [] false w args ∧ laidMetH Tryd.prog laidL w) ∧ sizedMet enc Tryd.prog Tryd.f3 (OpenSpec.ofChange Rows.imageBackSpec) false w args)
      (Rows.imageBackSpec.post enc Tryd.prog Tryd.f3 false true false false) := by
  refine returnsInHanded_of_change_and (C := Tryd.checked) (X := fun w _ => laidMetH Tryd.prog laidL w) (fun _ _ _ hh h => h.of_heap hh) own started (by kernel_rfl) Tryd.func3
    (ChangeSpec.witness_shaped (enc := enc) (C := Tryd.checked) (os := os) (X := fun w _ => laidMetH Tryd.prog laidL w) false (World.laidAll Tryd.prog os laidL)
      #[.agg #[.slice none 0 0, .slice none 0 0, .int .i64 0, .slice none 0 0, .int .i64 0, .int .i64 0], .slice none 0 0, .int .i64 0, .slice none 0 0] 8 (World.laidAll_os _ _ _)
      (World.shaped_of_ZipB (by kernel_rfl) (by kernel_rfl)) (by kernel_rfl) (by kernel_rfl) (by kernel_rfl)
      (by rw [MakeChecks.laidMetH_plain _ _ _ (by kernel_rfl)]; exact laidMet_laidAll _ (by kernel_rfl) (by kernel_rfl))) ?_
  intro W base args ds gs before hval0 hW _ hsz _ _
  have hW' := hW
  have hlt : ∀ x ∈ before, x.block < W.heap.size := fun x hx => hW.lt x hx
  obtain ⟨p, q, hA0, hV, rfl, hfz, hnd⟩ := hW
  have hA : DataW.TrodAll enc Tryd.prog W 0 (fun _ => true) true Tryd.f3.params.toList args.toList ds p := hA0
  have hval : ∀ (j : Nat) t v, Tryd.f3.params[j]? = some t → args[j]? = some v → Value.okWide Tryd.prog W .any base t v := hval0
  have hsz : (DataW.weightsEach Tryd.prog (Tryd.f3.params.toList ++ Rows.imageBackSpec.plain.varTypes Tryd.prog) (ds ++ gs)).all (· ≤ reachBytes) = true := hsz
  rw [Tryd.params3] at hA hval hsz
  obtain ⟨v0, vs0, d0, ds0, p0, q0, hargs, rfl, rfl, h0, r0⟩ := trodAll_cons hA
  obtain ⟨v1, vs1, d1, ds1, p1, q1, rfl, rfl, rfl, h1, r1⟩ := trodAll_cons r0
  obtain ⟨v2, vs2, d2, ds2, p2, q2, rfl, rfl, rfl, h2, r2⟩ := trodAll_cons r1
  obtain ⟨v3, vs3, d3, ds3, p3, q3, rfl, rfl, rfl, h3, r3⟩ := trodAll_cons r2
  obtain ⟨rfl, rfl, rfl⟩ := trodAll_nil r3
  obtain rfl : args = #[v0, v1, v2, v3] := by cases args; simp_all
  obtain ⟨rfl, rfl⟩ := trodVars_none hV
  simp only [List.append_nil] at hW' hlt
  have hf0 : RFits Tryd.prog 29 d0 := rfits_at hsz 0 rfl rfl
  obtain ⟨dd0, hd0⟩ : ∃ g, ImgV g (.agg v0.cells.toList.toArray) (allOf W) := by
    obtain ⟨n, hn⟩ := h0
    exact image_up ⟨_, hn, hf0⟩
  obtain ⟨⟨cs0⟩, rfl⟩ : ∃ cs, v0 = .agg cs := by
    obtain ⟨x, y, vm, e, _⟩ := hd0
    injection e with e
    have hl : v0.cells.toList.length = 6 := by
      have := congrArg Array.size e
      simpa using this
    cases v0 with
    | agg cs => exact ⟨cs, rfl⟩
    | _ => simp [Value.cells] at hl
  have hf1 : RFits Tryd.prog 30 d1 := rfits_at hsz 1 rfl rfl
  have hv1 : v1.cells.toList = [v1] := slice_cell Tryd.underlying30 (hval 1 30 v1 rfl rfl)
  obtain ⟨dd1, hd1⟩ : ∃ l, SlB (allOf W) v1 l := by
    obtain ⟨n, hn⟩ := h1
    rw [hv1] at hn
    exact up_bytes (l := []) Tryd.underlying30 Tryd.underlying5 (by kernel_rfl) (by kernel_rfl) (by kernel_rfl) ⟨_, hn, hf1⟩
  obtain ⟨s2, rfl, rfl, rfl, hs2⟩ := open_int Tryd.underlying3 (hval 2 3 v2 rfl rfl) h2
  have hf3 : RFits Tryd.prog 30 d3 := rfits_at hsz 3 rfl rfl
  have hv3 : v3.cells.toList = [v3] := slice_cell Tryd.underlying30 (hval 3 30 v3 rfl rfl)
  obtain ⟨dd3, hd3⟩ : ∃ l, SlB (allOf W) v3 l := by
    obtain ⟨n, hn⟩ := h3
    rw [hv3] at hn
    exact up_bytes (l := []) Tryd.underlying30 Tryd.underlying5 (by kernel_rfl) (by kernel_rfl) (by kernel_rfl) ⟨_, hn, hf3⟩
  refine (walk hd0 hd1 s2 hd3).mono fun e W' ⟨he, hb⟩ => ?_
  subst he
  exact ⟨_, rfl, post_of_stays (pv := []) hW' (fun _ _ _ => (trodAll_cons_mk (shut_bool Tryd.underlying4 _) trodAll_mk0))
    (fun sp hsp => (trodAll_cons_mk (Trod_stays laidOut (by kernel_rfl) (of_decide_eq_true (by kernel_rfl)) h0 (fun x hx => hb.same (hlt x (by simp [hx]))) (fun x hx => hsp x (by simp [hx]))) (trodAll_cons_mk (Trod_stays laidOut (by kernel_rfl) (of_decide_eq_true (by kernel_rfl)) h1 (fun x hx => hb.same (hlt x (by simp [hx]))) (fun x hx => hsp x (by simp [hx]))) (trodAll_cons_mk (shut_int Tryd.underlying3 hs2) (trodAll_cons_mk (Trod_stays laidOut (by kernel_rfl) (of_decide_eq_true (by kernel_rfl)) h3 (fun x hx => hb.same (hlt x (by simp [hx]))) (fun x hx => hsp x (by simp [hx]))) trodAll_mk0)))))
    (fun _ _ => rfl) (by simp) hb (ok_one (by kernel_rfl) rfl (okWide_bool_mk Tryd.underlying4 _))⟩

theorem over : Rows.ImageBackSaid :=
  OpenClaim.holds_of_wide 3 Tryd.f3 rfl rfl rfl rfl rfl rfl rfl ⟨rfl, rfl, rfl, rfl, rfl⟩ rfl rfl rfl rfl rfl (by kernel_rfl) Tryd.func3 (by kernel_rfl)
    (of_decide_eq_true (by kernel_rfl)) (by unfold Func.isWrapper; first | (rw [if_pos (by decide +kernel)]; kernel_rfl) | (rw [if_neg (by decide +kernel)]; exact ⟨rfl, rfl⟩))
    (fun os started H enc _ => lifted os started H enc)

/-- The statement: the tied card. -/
theorem proved : Rows.ImageBackCardSaid :=
  Claim7.holds_tied_plain_at .later [] [.sentinel] true Rows.imageBackCard.stood.harness false
    over (fun _ h => by cases h) (by kernel_rfl) (fun _ h => by cases h) imageBack_row_tie rfl ⟨rfl, rfl⟩ (by kernel_rfl) rfl
    (fun f fn hf hfn => by
      obtain rfl : f = 3 := Option.some.inj ((show Tryd.prog.funcNamed "beadle/beadlelaw12.ImageBack" = some 3 by kernel_rfl).symm.trans hf) |>.symm
      obtain rfl : fn = Tryd.f3 := (Option.some.inj (Tryd.func3.symm.trans hfn)).symm
      exact ⟨by kernel_rfl, fun j t ht => by
        rw [Tryd.params3] at ht
        have hm : t ∈ [29, 30, 3, 30] := by simpa using Array.mem_of_getElem? ht
        have hall : ([29, 30, 3, 30].all fun u => !Tryd.prog.wantsStandIn u) = true := by kernel_rfl
        exact (show Tryd.prog.wantsStandIn t = false by simpa using List.all_eq_true.1 hall t hm)⟩)
    (by kernel_rfl)
#print axioms proved
end Go.Proofs.YtiabopbigplklaaDoor.imageBack
