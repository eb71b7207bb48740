/-
  PlanNone: plans that aren't there make nothing (chapter 18 of the document), proved of the given program for every call and every deed, with the one listed table as the program's text lays it (the tied card).
-/
import Derived.Test.YtbdhhdchcnhnlaaGreatDoorTie
import Derived.Test.YtbdhhdchcnhnlaaGreatDoorCards
import Derived.Test.YtbdhhdchcnhnlaaGreatDoorTpA
import Derived.ProofKit
import Derived.LaidMore
import Derived.OpenShut
import Derived.Lib.LaidTab
import Derived.Carry
import Derived.SevenTiedAt
namespace Go.Proofs.YtbdhhdchcnhnlaaGreatDoor.planNone
open Go.ChangeShapes Go.WideShapes Go.ChangeAt Go.WideMaps Go.WideElems Go.RowKit
open Go.Sx

theorem own : ownKnob Tryz.prog.godebug = none := by kernel_rfl
theorem laidOut : laidOutB Tryz.prog = true := by kernel_rfl
theorem gHas : Tryz.prog.globalNamed "beadle/deed.has" = some 0 := by kernel_rfl

abbrev laidL : List (String × DataW Unit) := [("beadle/deed.has", Rows.laid_beadle_deed_has)]

/-- The door's own heap meets the condition. -/
theorem door_met (os : Os) (args : Array Value) : laidMetH Tryz.prog laidL ((World.doorLaid Tryz.prog 400 os).forCall (fun _ _ => 0) ⟨#[], args, []⟩).memory :=
  laidMetH_of_parts3 (fuel := 8) (laidMet_of_run' 8 (by kernel_rfl) (by kernel_rfl)) (by kernel_rfl) (by kernel_rfl)

/-- What the condition gives the walk. -/
theorem has_laid {W : World} (h : laidMetH Tryz.prog laidL W) : Has W := by
  rw [MakeChecks.laidMetH_plain _ _ _ (by kernel_rfl)] at h
  obtain ⟨t, ht⟩ : ∃ t, (Tryz.prog.globals[(0 : Nat)]?).map (·.type) = some t := by
    refine ⟨((Tryz.prog.globals[(0 : Nat)]?).map (·.type)).getD 0, ?_⟩
    kernel_rfl
  have hT : Lib.TabIs Tryz.prog W "beadle/deed.has" .i64 [0, 23, 17, 11, 32, 260, 0, 128, 256, 64] :=
    Lib.tabIs_of_head (rest := []) (n := 10) (t := 205) (e := 3) gHas (by kernel_rfl) (by kernel_rfl) (by kernel_rfl) (by kernel_rfl) (by kernel_rfl) h
  intro g cs hm
  simp only [List.mem_singleton, Prod.mk.injEq] at hm
  obtain ⟨rfl, rfl⟩ := hm
  have hc := fun i hi => hT.cell gHas i hi
  have h0 := hc 0 (by decide)
  unfold World.cell? at h0
  split at h0
  · rename_i c t' fz hb
    refine ⟨c, t', fz, hb, fun i v hv => ?_⟩
    have hi : i < 10 := (List.getElem?_eq_some_iff.1 hv).1
    have h1 := hc i hi
    unfold World.cell? at h1
    simp only [hb] at h1
    have hval : hasL[i]? = some (Value.int .i64 (([0, 23, 17, 11, 32, 260, 0, 128, 256, 64] : List Int).getD i 0)) := by
      match i, hi with
      | 0, _ => rfl
      | 1, _ => rfl
      | 2, _ => rfl
      | 3, _ => rfl
      | 4, _ => rfl
      | 5, _ => rfl
      | 6, _ => rfl
      | 7, _ => rfl
      | 8, _ => rfl
      | 9, _ => rfl
    rw [hval] at hv
    injection hv with hv
    subst hv
    simpa using h1
  · cases h0

/-! ### What a struct's cells are, by their types -/

section
variable {H : Type} {enc : TypeId × Value → H} {P : Program} {W : World} {base : Nat} {sp : Nat → Bool} {held : Bool} {m : Nat} {t : TypeId} {v : Value} {l : List Value} {r : Option (DataW H × List MemPlace)}

theorem cell_int {k : IntKind} (ht : P.underlying t = some (.int k)) (hc : P.cellsOf t = 1) (h : DataW.trod enc P W base sp held m t ((v :: l).take (P.cellsOf t)) = r) (hr : r.isSome = true) : ∃ n, v = .int k n := by
  obtain ⟨x, rfl⟩ := Option.isSome_iff_exists.1 hr
  rw [hc] at h
  obtain ⟨n, hn, _⟩ := DataW.trod_int ht h
  exact ⟨n, by simpa using hn⟩

theorem cell_bool (ht : P.underlying t = some .bool) (hc : P.cellsOf t = 1) (h : DataW.trod enc P W base sp held m t ((v :: l).take (P.cellsOf t)) = r) (hr : r.isSome = true) : ∃ n, v = .bool n := by
  obtain ⟨x, rfl⟩ := Option.isSome_iff_exists.1 hr
  rw [hc] at h
  obtain ⟨n, hn, _⟩ := DataW.trod_bool ht h
  exact ⟨n, by simpa using hn⟩

theorem cell_string (ht : P.underlying t = some .string) (hc : P.cellsOf t = 1) (h : DataW.trod enc P W base sp held m t ((v :: l).take (P.cellsOf t)) = r) (hr : r.isSome = true) : ∃ n, v = .string n := by
  obtain ⟨x, rfl⟩ := Option.isSome_iff_exists.1 hr
  rw [hc] at h
  obtain ⟨n, hn, _⟩ := DataW.trod_string ht h
  exact ⟨n, by simpa using hn⟩

theorem cell_slice {e : TypeId} (ht : P.underlying t = some (.slice e)) (hc : P.cellsOf t = 1) (h : DataW.trod enc P W base sp held m t ((v :: l).take (P.cellsOf t)) = r) (hr : r.isSome = true) : ∃ o n c, v = .slice o n c := by
  obtain ⟨x, rfl⟩ := Option.isSome_iff_exists.1 hr
  rw [hc] at h
  rcases DataW.trod_slice ht h with ⟨hn, _⟩ | ⟨a, len, cap, _, _, _, _, hn, _⟩
  · exact ⟨none, 0, 0, by simpa using hn⟩
  · exact ⟨some a, len, cap, by simpa using hn⟩

end

theorem some_at {α : Type} {xs : List α} {n : Nat} (h : xs.length = n) {i : Nat} (hi : i < n) : (xs[i]?).isSome = true := by
  rw [List.getElem?_eq_getElem (by rw [h]; exact hi)]; rfl

theorem agg_ask {v : Value} (h : v.cells.toList.length = 15) : ∃ v0 v1 v2 v3 v4 v5 v6 v7 v8 v9 v10 v11 v12 v13 v14, v = .agg #[v0, v1, v2, v3, v4, v5, v6, v7, v8, v9, v10, v11, v12, v13, v14] := by
  cases v with
  | agg cs =>
    obtain ⟨l⟩ := cs
    simp only [Value.cells] at h
    match l, h with
    | [v0, v1, v2, v3, v4, v5, v6, v7, v8, v9, v10, v11, v12, v13, v14], _ => exact ⟨v0, v1, v2, v3, v4, v5, v6, v7, v8, v9, v10, v11, v12, v13, v14, rfl⟩
  | _ => simp [Value.cells] at h

theorem shape_ask {H : Type} {enc : TypeId × Value → H} {W : World} {base : Nat} {sp : Nat → Bool} {held : Bool} {v : Value} {d : DataW H} {ps : List MemPlace} (h : DataW.Trod enc Tryz.prog W base sp held 29 v d ps) :
    ∃ (c0 : Int) (c1 : Int) (c2 : Int) (c3 : Int) (c4 : ByteArray) (c5 : Option Addr) (c5l c5c : Nat) (c6 : Int) (c7 : Int) (c8 : Bool) (c9 : Int) (c10 : Int) (c11 : Int) (c12 : Int) (c13 : Option Addr) (c13l c13c : Nat) (c14 : Option Addr) (c14l c14c : Nat), v = .agg #[.int .u8 c0, .int .i64 c1, .int .i64 c2, .int .i64 c3, .string c4, .slice c5 c5l c5c, .int .i64 c6, .int .i64 c7, .bool c8, .int .u8 c9, .int .i64 c10, .int .i64 c11, .int .i64 c12, .slice c13 c13l c13c, .slice c14 c14l c14c] := by
  obtain ⟨n, hn⟩ := h
  obtain ⟨xs, m, _, _, hl, hlen, hf⟩ := DataW.trod_struct (P := Tryz.prog) Tryz.underlying29 hn
  obtain ⟨v0, v1, v2, v3, v4, v5, v6, v7, v8, v9, v10, v11, v12, v13, v14, rfl⟩ := agg_ask (hl.trans (by kernel_rfl))
  have hlen : xs.length = 15 := hlen
  obtain ⟨c0, rfl⟩ := cell_int (v := v0) (l := [v1, v2, v3, v4, v5, v6, v7, v8, v9, v10, v11, v12, v13, v14]) Tryz.underlying22 (by kernel_rfl) (hf 0 _ rfl) (some_at hlen (by decide))
  obtain ⟨c1, rfl⟩ := cell_int (v := v1) (l := [v2, v3, v4, v5, v6, v7, v8, v9, v10, v11, v12, v13, v14]) Tryz.underlying3 (by kernel_rfl) (hf 1 _ rfl) (some_at hlen (by decide))
  obtain ⟨c2, rfl⟩ := cell_int (v := v2) (l := [v3, v4, v5, v6, v7, v8, v9, v10, v11, v12, v13, v14]) Tryz.underlying2 (by kernel_rfl) (hf 2 _ rfl) (some_at hlen (by decide))
  obtain ⟨c3, rfl⟩ := cell_int (v := v3) (l := [v4, v5, v6, v7, v8, v9, v10, v11, v12, v13, v14]) Tryz.underlying3 (by kernel_rfl) (hf 3 _ rfl) (some_at hlen (by decide))
  obtain ⟨c4, rfl⟩ := cell_string (v := v4) (l := [v5, v6, v7, v8, v9, v10, v11, v12, v13, v14]) Tryz.underlying9 (by kernel_rfl) (hf 4 _ rfl) (some_at hlen (by decide))
  obtain ⟨c5, c5l, c5c, rfl⟩ := cell_slice (v := v5) (l := [v6, v7, v8, v9, v10, v11, v12, v13, v14]) Tryz.underlying23 (by kernel_rfl) (hf 5 _ rfl) (some_at hlen (by decide))
  obtain ⟨c6, rfl⟩ := cell_int (v := v6) (l := [v7, v8, v9, v10, v11, v12, v13, v14]) Tryz.underlying3 (by kernel_rfl) (hf 6 _ rfl) (some_at hlen (by decide))
  obtain ⟨c7, rfl⟩ := cell_int (v := v7) (l := [v8, v9, v10, v11, v12, v13, v14]) Tryz.underlying3 (by kernel_rfl) (hf 7 _ rfl) (some_at hlen (by decide))
  obtain ⟨c8, rfl⟩ := cell_bool (v := v8) (l := [v9, v10, v11, v12, v13, v14]) Tryz.underlying4 (by kernel_rfl) (hf 8 _ rfl) (some_at hlen (by decide))
  obtain ⟨c9, rfl⟩ := cell_int (v := v9) (l := [v10, v11, v12, v13, v14]) Tryz.underlying24 (by kernel_rfl) (hf 9 _ rfl) (some_at hlen (by decide))
  obtain ⟨c10, rfl⟩ := cell_int (v := v10) (l := [v11, v12, v13, v14]) Tryz.underlying25 (by kernel_rfl) (hf 10 _ rfl) (some_at hlen (by decide))
  obtain ⟨c11, rfl⟩ := cell_int (v := v11) (l := [v12, v13, v14]) Tryz.underlying3 (by kernel_rfl) (hf 11 _ rfl) (some_at hlen (by decide))
  obtain ⟨c12, rfl⟩ := cell_int (v := v12) (l := [v13, v14]) Tryz.underlying25 (by kernel_rfl) (hf 12 _ rfl) (some_at hlen (by decide))
  obtain ⟨c13, c13l, c13c, rfl⟩ := cell_slice (v := v13) (l := [v14]) Tryz.underlying26 (by kernel_rfl) (hf 13 _ rfl) (some_at hlen (by decide))
  obtain ⟨c14, c14l, c14c, rfl⟩ := cell_slice (v := v14) (l := []) Tryz.underlying27 (by kernel_rfl) (hf 14 _ rfl) (some_at hlen (by decide))
  exact ⟨c0, c1, c2, c3, c4, c5, c5l, c5c, c6, c7, c8, c9, c10, c11, c12, c13, c13l, c13c, c14, c14l, c14c, rfl⟩

theorem agg_deed {v : Value} (h : v.cells.toList.length = 16) : ∃ v0 v1 v2 v3 v4 v5 v6 v7 v8 v9 v10 v11 v12 v13 v14 v15, v = .agg #[v0, v1, v2, v3, v4, v5, v6, v7, v8, v9, v10, v11, v12, v13, v14, v15] := by
  cases v with
  | agg cs =>
    obtain ⟨l⟩ := cs
    simp only [Value.cells] at h
    match l, h with
    | [v0, v1, v2, v3, v4, v5, v6, v7, v8, v9, v10, v11, v12, v13, v14, v15], _ => exact ⟨v0, v1, v2, v3, v4, v5, v6, v7, v8, v9, v10, v11, v12, v13, v14, v15, rfl⟩
  | _ => simp [Value.cells] at h

theorem shape_deed {H : Type} {enc : TypeId × Value → H} {W : World} {base : Nat} {sp : Nat → Bool} {held : Bool} {v : Value} {d : DataW H} {ps : List MemPlace} (h : DataW.Trod enc Tryz.prog W base sp held 36 v d ps) :
    ∃ (e0 : Int) (e1 : Int) (e2 : Int) (e3 : Int) (e4 : Int) (e5 : Int) (e6 : ByteArray) (e7 : Option Addr) (e7l e7c : Nat) (e8 : Int) (e9 : Int) (e10 : Int) (e11 : Int) (e12 : Int) (e13 : Int) (e14 : Option Addr) (e14l e14c : Nat) (e15 : Option Addr) (e15l e15c : Nat), v = .agg #[.int .i64 e0, .int .u8 e1, .int .i64 e2, .int .i64 e3, .int .i64 e4, .int .i64 e5, .string e6, .slice e7 e7l e7c, .int .i64 e8, .int .i64 e9, .int .i64 e10, .int .i64 e11, .int .i64 e12, .int .i64 e13, .slice e14 e14l e14c, .slice e15 e15l e15c] := by
  obtain ⟨n, hn⟩ := h
  obtain ⟨xs, m, _, _, hl, hlen, hf⟩ := DataW.trod_struct (P := Tryz.prog) Tryz.underlying36 hn
  obtain ⟨v0, v1, v2, v3, v4, v5, v6, v7, v8, v9, v10, v11, v12, v13, v14, v15, rfl⟩ := agg_deed (hl.trans (by kernel_rfl))
  have hlen : xs.length = 15 := hlen
  obtain ⟨e0, rfl⟩ := cell_int (v := v0) (l := [v1, v2, v3, v4, v5, v6, v7, v8, v9, v10, v11, v12, v13, v14, v15]) Tryz.underlying25 (by kernel_rfl) (hf 0 _ rfl) (some_at hlen (by decide))
  obtain ⟨e1, rfl⟩ := cell_int (v := v1) (l := [v2, v3, v4, v5, v6, v7, v8, v9, v10, v11, v12, v13, v14, v15]) Tryz.underlying30 (by kernel_rfl) (hf 1 _ rfl) (some_at hlen (by decide))
  obtain ⟨e2, rfl⟩ := cell_int (v := v2) (l := [v3, v4, v5, v6, v7, v8, v9, v10, v11, v12, v13, v14, v15]) Tryz.underlying2 (by kernel_rfl) (hf 2 _ rfl) (some_at hlen (by decide))
  obtain ⟨e3, rfl⟩ := cell_int (v := v3) (l := [v4, v5, v6, v7, v8, v9, v10, v11, v12, v13, v14, v15]) Tryz.underlying3 (by kernel_rfl) (hf 3 _ rfl) (some_at hlen (by decide))
  obtain ⟨e4, rfl⟩ := cell_int (v := v4) (l := [v5, v6, v7, v8, v9, v10, v11, v12, v13, v14, v15]) Tryz.underlying3 (by kernel_rfl) (hf 4 _ rfl) (some_at hlen (by decide))
  obtain ⟨e5, rfl⟩ := cell_int (v := v5) (l := [v6, v7, v8, v9, v10, v11, v12, v13, v14, v15]) Tryz.underlying2 (by kernel_rfl) (hf 5 _ rfl) (some_at hlen (by decide))
  obtain ⟨e6, rfl⟩ := cell_string (v := v6) (l := [v7, v8, v9, v10, v11, v12, v13, v14, v15]) Tryz.underlying9 (by kernel_rfl) (hf 6 _ rfl) (some_at hlen (by decide))
  obtain ⟨e7, e7l, e7c, rfl⟩ := cell_slice (v := v7) (l := [v8, v9, v10, v11, v12, v13, v14, v15]) Tryz.underlying23 (by kernel_rfl) (hf 7 _ rfl) (some_at hlen (by decide))
  obtain ⟨e8, rfl⟩ := cell_int (v := v8) (l := [v9, v10, v11, v12, v13, v14, v15]) Tryz.underlying2 (by kernel_rfl) (hf 8 _ rfl) (some_at hlen (by decide))
  obtain ⟨e9, rfl⟩ := cell_int (v := v9) (l := [v10, v11, v12, v13, v14, v15]) Tryz.underlying3 (by kernel_rfl) (hf 9 _ rfl) (some_at hlen (by decide))
  obtain ⟨e10, rfl⟩ := cell_int (v := v10) (l := [v11, v12, v13, v14, v15]) Tryz.underlying3 (by kernel_rfl) (hf 10 _ rfl) (some_at hlen (by decide))
  obtain ⟨e11, rfl⟩ := cell_int (v := v11) (l := [v12, v13, v14, v15]) Tryz.underlying3 (by kernel_rfl) (hf 11 _ rfl) (some_at hlen (by decide))
  obtain ⟨e12, rfl⟩ := cell_int (v := v12) (l := [v13, v14, v15]) Tryz.underlying31 (by kernel_rfl) (hf 12 _ rfl) (some_at hlen (by decide))
  obtain ⟨y, hy⟩ := Option.isSome_iff_exists.1 (some_at hlen (i := 13) (by decide))
  have hc13 : DataW.trod enc Tryz.prog W base sp held m 33 ([v13, v14, v15].take (Tryz.prog.cellsOf 33)) = xs[13]? := hf 13 _ rfl
  rw [hy, show Tryz.prog.cellsOf 33 = 2 by kernel_rfl] at hc13
  obtain ⟨xs', m', _, _, _, hlen', hf'⟩ := DataW.trod_struct (P := Tryz.prog) Tryz.underlying33 hc13
  have hlen' : xs'.length = 2 := hlen'
  obtain ⟨e13, rfl⟩ := cell_int (v := v13) (l := [v14]) Tryz.underlying25 (by kernel_rfl) (hf' 0 _ rfl) (some_at hlen' (by decide))
  obtain ⟨e14, e14l, e14c, rfl⟩ := cell_slice (v := v14) (l := []) Tryz.underlying26 (by kernel_rfl) (hf' 1 _ rfl) (some_at hlen' (by decide))
  obtain ⟨e15, e15l, e15c, rfl⟩ := cell_slice (v := v15) (l := []) Tryz.underlying34 (by kernel_rfl) (hf 14 _ rfl) (some_at hlen (by decide))
  exact ⟨e0, e1, e2, e3, e4, e5, e6, e7, e7l, e7c, e8, e9, e10, e11, e12, e13, e14, e14l, e14c, e15, e15l, e15c, rfl⟩

set_option maxRecDepth 100000 in
theorem lifted (os : Os) (started : os.Started) (H : Type) (enc : TypeId × Value → H) :
    ReturnsInHanded {} Tryz.checked os 3 .any (fun w args => (Rows.planNoneSpec.pre enc Tryz.prog Tryz.f3 [] false w args ∧ laidMetH Tryz.prog laidL w) ∧ sizedMet enc Tryz.prog Tryz.f3 (OpenSpec.ofChange Rows.planNoneSpec) false w args)
      (Rows.planNoneSpec.post enc Tryz.prog Tryz.f3 false true false false) := by
  refine returnsInHanded_of_change_and (C := Tryz.checked) (X := fun w _ => laidMetH Tryz.prog laidL w) (fun _ _ _ hh h => h.of_heap hh) own started (by kernel_rfl) Tryz.func3
    (ChangeSpec.witness_shaped (enc := enc) (C := Tryz.checked) (os := os) (X := fun w _ => laidMetH Tryz.prog laidL w) false (World.doorLaid Tryz.prog 400 os)
      #[.agg #[.int .u8 0, .int .i64 0, .int .i64 0, .int .i64 0, .string ⟨#[]⟩, .slice none 0 0, .int .i64 0, .int .i64 0, .bool false, .int .u8 0, .int .i64 0, .int .i64 0, .int .i64 0, .slice none 0 0, .slice none 0 0], .agg #[.int .i64 0, .int .u8 0, .int .i64 0, .int .i64 0, .int .i64 0, .int .i64 0, .string ⟨#[]⟩, .slice none 0 0, .int .i64 0, .int .i64 0, .int .i64 0, .int .i64 0, .int .i64 0, .int .i64 0, .slice none 0 0, .slice none 0 0]] 8 rfl
      (World.shaped_of_RefB (by kernel_rfl) (by kernel_rfl)) (by kernel_rfl) (by kernel_rfl) (by kernel_rfl) (door_met os _)) ?_
  intro W base args ds gs before hval0 hW _ _ hL _
  have hW' := hW
  have hlt : ∀ x ∈ before, x.block < W.heap.size := fun x hx => hW.lt x hx
  obtain ⟨p, q, hA0, hV, rfl, hfz, hnd⟩ := hW
  have hA : DataW.TrodAll enc Tryz.prog W 0 (fun _ => true) true Tryz.f3.params.toList args.toList ds p := hA0
  rw [Tryz.params3] at hA
  obtain ⟨v0, w0, d0, d1, p0, p1, hargs, rfl, rfl, h0, h1⟩ := trodAll_two hA
  subst hargs
  obtain ⟨rfl, rfl⟩ := trodVars_none hV
  simp only [List.append_nil] at hW' hlt
  obtain ⟨c0, c1, c2, c3, c4, c5, c5l, c5c, c6, c7, c8, c9, c10, c11, c12, c13, c13l, c13c, c14, c14l, c14c, rfl⟩ := shape_ask h0
  obtain ⟨e0, e1, e2, e3, e4, e5, e6, e7, e7l, e7c, e8, e9, e10, e11, e12, e13, e14, e14l, e14c, e15, e15l, e15c, rfl⟩ := shape_deed h1
  refine (planNone1 W (has_laid hL) c0 c1 c2 c3 c4 c5 c5l c5c c6 c7 c8 c9 c10 c11 c12 c13 c13l c13c c14 c14l c14c e0 e1 e2 e3 e4 e5 e6 e7 e7l e7c e8 e9 e10 e11 e12 e13 e14 e14l e14c e15 e15l e15c).mono fun e W' ⟨he, hb⟩ => ?_
  subst he
  exact ⟨_, rfl, post_of_stays (pv := []) hW' (fun _ _ _ => (trodAll_cons_mk (shut_bool Tryz.underlying4 _) trodAll_mk0))
    (fun sp hsp => trodAll_mk2 (Trod_stays laidOut (by kernel_rfl) (of_decide_eq_true (by kernel_rfl)) h0 (fun x hx => hb.same (hlt x (List.mem_append_left _ hx))) (fun x hx => hsp x (by simp [hx])))
      (Trod_stays laidOut (by kernel_rfl) (of_decide_eq_true (by kernel_rfl)) h1 (fun x hx => hb.same (hlt x (List.mem_append_right _ hx))) (fun x hx => hsp x (by simp [hx]))))
    (fun _ _ => rfl) (by simp) hb (ok_one (by kernel_rfl) rfl (okWide_bool_mk Tryz.underlying4 _))⟩

theorem over : Rows.PlanNoneSaid :=
  OpenClaim.holds_of_wide 3 Tryz.f3 rfl rfl rfl rfl rfl rfl rfl ⟨rfl, rfl, rfl, rfl, rfl⟩ rfl rfl rfl rfl rfl (by kernel_rfl) Tryz.func3 (by kernel_rfl)
    (of_decide_eq_true (by kernel_rfl)) (by unfold Func.isWrapper; first | (rw [if_pos (by decide +kernel)]; kernel_rfl) | (rw [if_neg (by decide +kernel)]; exact ⟨rfl, rfl⟩))
    (fun os started H enc _ => lifted os started H enc)

/-- The statement: the tied card. -/
theorem proved : Rows.PlanNoneCardSaid :=
  Claim7.holds_tied_plain_at .later [] [.data] true Rows.planNoneCard.stood.harness true
    over (fun _ h => by cases h) (by kernel_rfl) (fun _ h => by cases h) planNone_row_tie rfl ⟨rfl, rfl⟩ (by kernel_rfl) rfl
    (fun f fn hf hfn => by
      obtain rfl : f = 3 := Option.some.inj ((show Tryz.prog.funcNamed "beadle/beadlelaw18.PlanNone" = some 3 by kernel_rfl).symm.trans hf) |>.symm
      obtain rfl : fn = Tryz.f3 := (Option.some.inj (Tryz.func3.symm.trans hfn)).symm
      exact ⟨by kernel_rfl, fun j t ht => by
        rw [Tryz.params3] at ht
        have hm : t ∈ [29, 36] := by simpa using Array.mem_of_getElem? ht
        have hall : ([29, 36].all fun u => !Tryz.prog.wantsStandIn u) = true := by kernel_rfl
        exact (show Tryz.prog.wantsStandIn t = false by simpa using List.all_eq_true.1 hall t hm)⟩)
    (by kernel_rfl)
#print axioms proved
end Go.Proofs.YtbdhhdchcnhnlaaGreatDoor.planNone
