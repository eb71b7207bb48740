/-
  BellAgain: a watch that is set again with what was seen last tells an event just if some deed between rings it (the stage's theorem of chapter 19 of the document), proved of the given program for every row of deeds, every sort, path and both places, with the one listed table as the program's text lays it (the tied card).
-/
import Derived.Test.YtfpfjobknefedaaGreatDoorTie
import Derived.Test.YtfpfjobknefedaaGreatDoorCards
import Derived.Test.YtfpfjobknefedaaGreatDoorG15
import Derived.ProofKit
import Derived.LaidMore
import Derived.OpenShut
import Derived.ChangeMaps5
import Derived.Lib.LaidTab
import Derived.LaidLaws
import Derived.Stop.LaidErr
import Derived.Lay
import Derived.Carry
import Derived.SizedLaws
import Derived.SevenTiedAt
namespace Go.Proofs.YtfpfjobknefedaaGreatDoor.bellAgain
open Go.ChangeShapes Go.WideShapes Go.ChangeAt Go.WideMaps Go.WideElems Go.RowKit
open Go.Sx

theorem own : ownKnob Tryz.prog.godebug = none := by kernel_rfl
theorem laidOut : laidOutB Tryz.prog = true := by kernel_rfl
theorem gHas : Tryz.prog.globalNamed "beadle/deed.has" = some 0 := by kernel_rfl

abbrev laidL : List (String × DataW Unit) := [("beadle/deed.has", Rows.laid_beadle_deed_has)]

/-- The door's own heap meets the condition. -/
theorem door_met (os : Os) (args : Array Value) : laidMetH Tryz.prog laidL ((World.doorLaid Tryz.prog 400 os).forCall (fun _ _ => 0) ⟨#[], args, []⟩).memory :=
  laidMetH_of_parts3 (fuel := 8) (laidMet_of_run' 8 (by kernel_rfl) (by kernel_rfl)) (by kernel_rfl) (by kernel_rfl)

/-- What the condition gives the walk. -/
theorem has_laid {W : World} (h : laidMetH Tryz.prog laidL W) : HasA (allOf W) := by
  rw [MakeChecks.laidMetH_plain _ _ _ (by kernel_rfl)] at h
  have hT : Lib.TabIs Tryz.prog W "beadle/deed.has" .i64 [0, 23, 17, 11, 32, 260, 0, 128, 256, 64] :=
    Lib.tabIs_of_head (rest := []) (n := 10) (t := 129) (e := 3) gHas (by kernel_rfl) (by kernel_rfl) (by kernel_rfl) (by kernel_rfl) (by kernel_rfl) h
  have hc : ∀ i, i < 10 → W.cell? (Addr.add ⟨0, 0, none⟩ i) = some (.int .i64 (([0, 23, 17, 11, 32, 260, 0, 128, 256, 64] : List Int).getD i 0)) := fun i hi => by
    have := hT.cell gHas i hi
    cases i <;> simpa [Addr.add] using this
  refine cells_rd ?_ (by decide)
  unfold World.cells?
  rw [if_pos (Nat.zero_le _), show List.range 10 = [0, 1, 2, 3, 4, 5, 6, 7, 8, 9] from rfl]
  simp only [List.mapM_cons, List.mapM_nil, hc 0 (by decide), hc 1 (by decide), hc 2 (by decide), hc 3 (by decide), hc 4 (by decide), hc 5 (by decide), hc 6 (by decide), hc 7 (by decide), hc 8 (by decide), hc 9 (by decide)]
  rfl

set_option maxRecDepth 100000 in
/-- The walk: the law's text gives true, and what lay lies as it lay. -/
theorem walk {w : World} {v0 : Value} {g0 : List DeedD} (h0 : DeedsS (allOf w) v0 g0) (g1 : Int) (g2 : ByteArray) (g3 : Int) (g4 : Int) (hh : HasA (allOf w)) :
    Calls Tryz.prog 3 #[v0, .int .i64 g1, .string g2, .int .i64 g3, .int .i64 g4] w fun e w' => e = .returned (.bool true) ∧ Below w.heap.size w w' := by
  refine (calls_of_fok bellAg_ok Tryz.func3 (by kernel_rfl) (by kernel_rfl) (g0, g1, g2, g3, g4) [v0, .int .i64 g1, .string g2, .int .i64 g3, .int .i64 g4] w ⟨v0, rfl, h0, hh⟩ (fun _ _ hq => hq.1)).mono fun e w' ⟨u, he, ⟨A', hq⟩, hb⟩ => ?_
  obtain ⟨_, rfl⟩ := hq
  exact ⟨he, hb⟩

set_option maxRecDepth 100000 in
theorem lifted (os : Os) (started : os.Started) (H : Type) (enc : TypeId × Value → H) :
    ReturnsInHanded {} Tryz.checked os 3 .any (fun w args => (Rows.bellAgainSpec.pre enc Tryz.prog Tryz.f3 [] false w args ∧ laidMetH Tryz.prog laidL w) ∧ sizedMet enc Tryz.prog Tryz.f3 (OpenSpec.ofChange Rows.bellAgainSpec) false w args)
      (Rows.bellAgainSpec.post enc Tryz.prog Tryz.f3 false true false false) := by
  refine returnsInHanded_of_change_and (C := Tryz.checked) (X := fun w _ => laidMetH Tryz.prog laidL w) (fun _ _ _ hh h => h.of_heap hh) own started (by kernel_rfl) Tryz.func3
    (ChangeSpec.witness_shaped (enc := enc) (C := Tryz.checked) (os := os) (X := fun w _ => laidMetH Tryz.prog laidL w) false (World.doorLaid Tryz.prog 400 os)
      #[.slice none 0 0, .int .i64 0, .string ⟨#[]⟩, .int .i64 0, .int .i64 0] 8 rfl
      (World.shaped_of_RefB (by kernel_rfl) (by kernel_rfl)) (by kernel_rfl) (by kernel_rfl) (by kernel_rfl) (door_met os _)) ?_
  intro W base args ds gs before hval0 hW _ hsz hL _
  have hW' := hW
  have hlt : ∀ x ∈ before, x.block < W.heap.size := fun x hx => hW.lt x hx
  obtain ⟨p, q, hA0, hV, rfl, hfz, hnd⟩ := hW
  have hA : DataW.TrodAll enc Tryz.prog W 0 (fun _ => true) true Tryz.f3.params.toList args.toList ds p := hA0
  have hval : ∀ (j : Nat) t v, Tryz.f3.params[j]? = some t → args[j]? = some v → Value.okWide Tryz.prog W .any base t v := hval0
  have hsz : (DataW.weightsEach Tryz.prog (Tryz.f3.params.toList ++ Rows.bellAgainSpec.plain.varTypes Tryz.prog) (ds ++ gs)).all (· ≤ reachBytes) = true := hsz
  rw [Tryz.params3] at hA hval hsz
  obtain ⟨v0, vs0, d0, ds0, p0, q0, hargs, rfl, rfl, h0, r0⟩ := trodAll_cons hA
  obtain ⟨v1, vs1, d1, ds1, p1, q1, rfl, rfl, rfl, h1, r1⟩ := trodAll_cons r0
  obtain ⟨v2, vs2, d2, ds2, p2, q2, rfl, rfl, rfl, h2, r2⟩ := trodAll_cons r1
  obtain ⟨v3, vs3, d3, ds3, p3, q3, rfl, rfl, rfl, h3, r3⟩ := trodAll_cons r2
  obtain ⟨v4, vs4, d4, ds4, p4, q4, rfl, rfl, rfl, h4, r4⟩ := trodAll_cons r3
  obtain ⟨rfl, rfl, rfl⟩ := trodAll_nil r4
  obtain rfl : args = #[v0, v1, v2, v3, v4] := by cases args; simp_all
  obtain ⟨rfl, rfl⟩ := trodVars_none hV
  simp only [List.append_nil] at hW' hlt
  have hf0 : RFits Tryz.prog 22 d0 := rfits_at hsz 0 rfl rfl
  have hv0 : v0.cells.toList = [v0] := slice_cell Tryz.underlying22 (hval 0 22 v0 rfl rfl)
  obtain ⟨dd0, hd0⟩ := deeds_up h0 hf0 hv0
  obtain ⟨s1, rfl, rfl, rfl, hs1⟩ := open_int Tryz.underlying3 (hval 1 3 v1 rfl rfl) h1
  obtain ⟨s2, rfl, rfl, rfl, hs2⟩ := Go.ChangeMaps.open_string Tryz.underlying9 (hval 2 9 v2 rfl rfl) h2
  obtain ⟨s3, rfl, rfl, rfl, hs3⟩ := open_int Tryz.underlying3 (hval 3 3 v3 rfl rfl) h3
  obtain ⟨s4, rfl, rfl, rfl, hs4⟩ := open_int Tryz.underlying3 (hval 4 3 v4 rfl rfl) h4
  refine (walk hd0 s1 s2 s3 s4 (has_laid hL)).mono fun e W' ⟨he, hb⟩ => ?_
  subst he
  exact ⟨_, rfl, post_of_stays (pv := []) hW' (fun _ _ _ => (trodAll_cons_mk (shut_bool Tryz.underlying4 _) trodAll_mk0))
    (fun sp hsp => (trodAll_cons_mk (Trod_stays laidOut (by kernel_rfl) (of_decide_eq_true (by kernel_rfl)) h0 (fun x hx => hb.same (hlt x (by simp [hx]))) (fun x hx => hsp x (by simp [hx]))) (trodAll_cons_mk (shut_int Tryz.underlying3 hs1) (trodAll_cons_mk (Go.ChangeMaps.shut_string Tryz.underlying9 hs2) (trodAll_cons_mk (shut_int Tryz.underlying3 hs3) (trodAll_cons_mk (shut_int Tryz.underlying3 hs4) trodAll_mk0))))))
    (fun _ _ => rfl) (by simp) hb (ok_one (by kernel_rfl) rfl (okWide_bool_mk Tryz.underlying4 _))⟩

theorem over : Rows.BellAgainSaid :=
  OpenClaim.holds_of_wide 3 Tryz.f3 rfl rfl rfl rfl rfl rfl rfl ⟨rfl, rfl, rfl, rfl, rfl⟩ rfl rfl rfl rfl rfl (by kernel_rfl) Tryz.func3 (by kernel_rfl)
    (of_decide_eq_true (by kernel_rfl)) (by unfold Func.isWrapper; first | (rw [if_pos (by decide +kernel)]; kernel_rfl) | (rw [if_neg (by decide +kernel)]; exact ⟨rfl, rfl⟩))
    (fun os started H enc _ => lifted os started H enc)

/-- The statement: the tied card. -/
theorem proved : Rows.BellAgainCardSaid :=
  Claim7.holds_tied_plain_at .later [] [.data] true Rows.bellAgainCard.stood.harness false
    over (fun _ h => by cases h) (by kernel_rfl) (fun _ h => by cases h) bellAgain_row_tie rfl ⟨rfl, rfl⟩ (by kernel_rfl) rfl
    (fun f fn hf hfn => by
      obtain rfl : f = 3 := Option.some.inj ((show Tryz.prog.funcNamed "beadle/beadlelaw19.BellAgain" = some 3 by kernel_rfl).symm.trans hf) |>.symm
      obtain rfl : fn = Tryz.f3 := (Option.some.inj (Tryz.func3.symm.trans hfn)).symm
      exact ⟨by kernel_rfl, fun j t ht => by
        rw [Tryz.params3] at ht
        have hm : t ∈ [22, 3, 9, 3, 3] := by simpa using Array.mem_of_getElem? ht
        have hall : ([22, 3, 9, 3, 3].all fun u => !Tryz.prog.wantsStandIn u) = true := by kernel_rfl
        exact (show Tryz.prog.wantsStandIn t = false by simpa using List.all_eq_true.1 hall t hm)⟩)
    (by kernel_rfl)
#print axioms proved
end Go.Proofs.YtfpfjobknefedaaGreatDoor.bellAgain
