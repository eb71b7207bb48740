/-
  Steps as plain data, out of what the row's argument is.
-/
import Derived.Test.YtpgpbnalgjbfbaaDoorG12
namespace Go.Proofs.YtpgpbnalgjbfbaaDoor
open Go.Sx Go.RowKit Go.ChangeShapes Go.WideShapes
noncomputable section

theorem list34 {α : Type} {l : List α} (h : l.length = 34) : ∃ v0 v1 v2 v3 v4 v5 v6 v7 v8 v9 v10 v11 v12 v13 v14 v15 v16 v17 v18 v19 v20 v21 v22 v23 v24 v25 v26 v27 v28 v29 v30 v31 v32 v33, l = [v0, v1, v2, v3, v4, v5, v6, v7, v8, v9, v10, v11, v12, v13, v14, v15, v16, v17, v18, v19, v20, v21, v22, v23, v24, v25, v26, v27, v28, v29, v30, v31, v32, v33] := by
  match l, h with
  | v0 :: v1 :: v2 :: v3 :: v4 :: v5 :: v6 :: v7 :: v8 :: v9 :: v10 :: v11 :: v12 :: v13 :: v14 :: v15 :: v16 :: v17 :: v18 :: v19 :: v20 :: v21 :: v22 :: v23 :: v24 :: v25 :: v26 :: v27 :: v28 :: v29 :: v30 :: v31 :: v32 :: v33 :: [], _ => exact ⟨v0, v1, v2, v3, v4, v5, v6, v7, v8, v9, v10, v11, v12, v13, v14, v15, v16, v17, v18, v19, v20, v21, v22, v23, v24, v25, v26, v27, v28, v29, v30, v31, v32, v33, rfl⟩

theorem list12b {α : Type} {l : List α} (h : l.length = 12) : ∃ v0 v1 v2 v3 v4 v5 v6 v7 v8 v9 v10 v11, l = [v0, v1, v2, v3, v4, v5, v6, v7, v8, v9, v10, v11] := by
  match l, h with
  | [v0, v1, v2, v3, v4, v5, v6, v7, v8, v9, v10, v11], _ => exact ⟨v0, v1, v2, v3, v4, v5, v6, v7, v8, v9, v10, v11, rfl⟩

section
variable {H : Type} {enc : TypeId × Value → H} {W : World}

theorem ndD_up {n : Nat} {cs : List Value} (h : ∃ y, trodA enc Tryd.prog W n 36 cs = some y ∧ RFits Tryd.prog 36 y.1) : ∃ (x : NdD) (a : Option Addr) (l k : Nat), cs = x.cells (.slice a l k) := by
  obtain ⟨y, h, hf⟩ := h
  obtain ⟨hl, m, _, hx⟩ := fields_up (P := Tryd.prog) Tryd.underlying36 h hf
  have hl : cs.length = 12 := hl.trans (by kernel_rfl)
  obtain ⟨v0, v1, v2, v3, v4, v5, v6, v7, v8, v9, v10, v11, rfl⟩ := list12b hl
  obtain ⟨p, rfl, _⟩ := up_string (v := v0) (l := [v1, v2, v3, v4, v5, v6, v7, v8, v9, v10, v11]) Tryd.underlying9 (by kernel_rfl) (hx 0 _ rfl)
  obtain ⟨bs, hbs⟩ := up_bytes (v := v1) (l := [v2, v3, v4, v5, v6, v7, v8, v9, v10, v11]) Tryd.underlying25 Tryd.underlying5 (by kernel_rfl) (by kernel_rfl) (by kernel_rfl) (hx 1 _ rfl)
  obtain ⟨a, k, rfl⟩ := hbs.1.form
  have he : ∃ y, trodA enc Tryd.prog W m 34 ([v2, v3, v4, v5, v6, v7, v8, v9, v10, v11].take (Tryd.prog.cellsOf 34)) = some y ∧ RFits Tryd.prog 34 y.1 := hx 2 _ rfl
  rw [show Tryd.prog.cellsOf 34 = 10 by kernel_rfl] at he
  obtain ⟨ye, he, hfe⟩ := he
  obtain ⟨_, me, _, hxe⟩ := fields_up (P := Tryd.prog) Tryd.underlying34 he hfe
  obtain ⟨c2, rfl, _⟩ := up_int (v := v2) (l := [v3, v4, v5, v6, v7, v8, v9, v10, v11]) Tryd.underlying23 (by kernel_rfl) (hxe 0 _ rfl)
  obtain ⟨c3, rfl, _⟩ := up_int (v := v3) (l := [v4, v5, v6, v7, v8, v9, v10, v11]) Tryd.underlying23 (by kernel_rfl) (hxe 1 _ rfl)
  obtain ⟨c4, rfl, _⟩ := up_int (v := v4) (l := [v5, v6, v7, v8, v9, v10, v11]) Tryd.underlying23 (by kernel_rfl) (hxe 2 _ rfl)
  obtain ⟨c5, rfl, _⟩ := up_int (v := v5) (l := [v6, v7, v8, v9, v10, v11]) Tryd.underlying2 (by kernel_rfl) (hxe 3 _ rfl)
  obtain ⟨c6, rfl, _⟩ := up_int (v := v6) (l := [v7, v8, v9, v10, v11]) Tryd.underlying2 (by kernel_rfl) (hxe 4 _ rfl)
  obtain ⟨c7, rfl, _⟩ := up_int (v := v7) (l := [v8, v9, v10, v11]) Tryd.underlying3 (by kernel_rfl) (hxe 5 _ rfl)
  obtain ⟨c8, rfl, _⟩ := up_int (v := v8) (l := [v9, v10, v11]) Tryd.underlying3 (by kernel_rfl) (hxe 6 _ rfl)
  obtain ⟨c9, rfl, _⟩ := up_int (v := v9) (l := [v10, v11]) Tryd.underlying2 (by kernel_rfl) (hxe 7 _ rfl)
  obtain ⟨c10, rfl, _⟩ := up_int (v := v10) (l := [v11]) Tryd.underlying3 (by kernel_rfl) (hxe 8 _ rfl)
  obtain ⟨c11, rfl, _⟩ := up_int (v := v11) (l := []) Tryd.underlying3 (by kernel_rfl) (hxe 9 _ rfl)
  exact ⟨⟨p, c2, c3, c4, c5, c6, c7, c8, c9, c10, c11⟩, a, bs.length, k, rfl⟩

theorem do_up {n : Nat} {cs : List Value} (h : ∃ y, trodA enc Tryd.prog W n 38 cs = some y ∧ RFits Tryd.prog 38 y.1) : ∃ d, DoR (allOf W) d cs := by
  obtain ⟨y, h, hf⟩ := h
  obtain ⟨hl, m, _, hx⟩ := fields_up (P := Tryd.prog) Tryd.underlying38 h hf
  have hl : cs.length = 34 := hl.trans (by kernel_rfl)
  obtain ⟨v0, v1, v2, v3, v4, v5, v6, v7, v8, v9, v10, v11, v12, v13, v14, v15, v16, v17, v18, v19, v20, v21, v22, v23, v24, v25, v26, v27, v28, v29, v30, v31, v32, v33, rfl⟩ := list34 hl
  obtain ⟨c0, rfl, _⟩ := up_int (v := v0) (l := [v1, v2, v3, v4, v5, v6, v7, v8, v9, v10, v11, v12, v13, v14, v15, v16, v17, v18, v19, v20, v21, v22, v23, v24, v25, v26, v27, v28, v29, v30, v31, v32, v33]) Tryd.underlying3 (by kernel_rfl) (hx 0 _ rfl)
  obtain ⟨c1, rfl, _⟩ := up_int (v := v1) (l := [v2, v3, v4, v5, v6, v7, v8, v9, v10, v11, v12, v13, v14, v15, v16, v17, v18, v19, v20, v21, v22, v23, v24, v25, v26, v27, v28, v29, v30, v31, v32, v33]) Tryd.underlying3 (by kernel_rfl) (hx 1 _ rfl)
  obtain ⟨c2, rfl, _⟩ := up_int (v := v2) (l := [v3, v4, v5, v6, v7, v8, v9, v10, v11, v12, v13, v14, v15, v16, v17, v18, v19, v20, v21, v22, v23, v24, v25, v26, v27, v28, v29, v30, v31, v32, v33]) Tryd.underlying22 (by kernel_rfl) (hx 2 _ rfl)
  obtain ⟨c3, rfl, hp⟩ := up_string (v := v3) (l := [v4, v5, v6, v7, v8, v9, v10, v11, v12, v13, v14, v15, v16, v17, v18, v19, v20, v21, v22, v23, v24, v25, v26, v27, v28, v29, v30, v31, v32, v33]) Tryd.underlying9 (by kernel_rfl) (hx 3 _ rfl)
  have hd : ∃ y, trodA enc Tryd.prog W m 32 ([v4, v5, v6, v7, v8, v9, v10, v11, v12, v13, v14, v15, v16, v17, v18, v19, v20, v21, v22, v23, v24, v25, v26, v27, v28, v29, v30, v31, v32, v33].take (Tryd.prog.cellsOf 32)) = some y ∧ RFits Tryd.prog 32 y.1 := hx 4 _ rfl
  rw [show Tryd.prog.cellsOf 32 = 16 by kernel_rfl] at hd
  obtain ⟨d, hd⟩ := deed_up m _ hd
  obtain ⟨c20, rfl, _⟩ := up_int (v := v20) (l := [v21, v22, v23, v24, v25, v26, v27, v28, v29, v30, v31, v32, v33]) Tryd.underlying23 (by kernel_rfl) (hx 5 _ rfl)
  have hn : ∃ y, trodA enc Tryd.prog W m 36 ([v21, v22, v23, v24, v25, v26, v27, v28, v29, v30, v31, v32, v33].take (Tryd.prog.cellsOf 36)) = some y ∧ RFits Tryd.prog 36 y.1 := hx 6 _ rfl
  rw [show Tryd.prog.cellsOf 36 = 12 by kernel_rfl] at hn
  obtain ⟨nd, a, l, k, hnd⟩ := ndD_up hn
  obtain ⟨c33, rfl⟩ := up_bool (v := v33) (l := []) Tryd.underlying4 (by kernel_rfl) (hx 7 _ rfl)
  refine ⟨⟨c0, ⟨c1, c2, c3⟩, d, c20, nd, c33⟩, [v4, v5, v6, v7, v8, v9, v10, v11, v12, v13, v14, v15, v16, v17, v18, v19], a, l, k, ?_, hd, hp⟩
  rw [← hnd]
  rfl

theorem dos_up {v : Value} {d : DataW H} {ps : List MemPlace} (h : DataW.Trod enc Tryd.prog W 0 (fun _ => true) true 46 v d ps) (hf : RFits Tryd.prog 46 d) (hv : v.cells.toList = [v]) : ∃ ds, DosS (allOf W) v ds := by
  obtain ⟨n, h⟩ := h
  rw [hv] at h
  obtain ⟨rows, h1, h2, h3⟩ := slice_up (es := 34) (B := 360) Tryd.underlying46 (by kernel_rfl) (by decide) (by kernel_rfl) h hf
  have key : ∀ rows : List (List Value), (∀ r ∈ rows, r.length = 34 ∧ ∃ m y, m < n ∧ trodA enc Tryd.prog W m 38 r = some y ∧ RFits Tryd.prog 38 y.1) → ∃ ds : List DoD, rows.length = ds.length ∧ ∀ k (h1 : k < ds.length) (h2 : k < rows.length), DoR (allOf W) ds[k] rows[k] := by
    intro rows
    induction rows with
    | nil => exact fun _ => ⟨[], rfl, fun k h1 => by simp at h1⟩
    | cons r rows ih =>
      intro h
      obtain ⟨ds, k1, k2⟩ := ih fun x hx => h x (List.mem_cons_of_mem _ hx)
      obtain ⟨_, m, y, _, h5, h6⟩ := h r (by simp)
      obtain ⟨d, hd⟩ := do_up ⟨y, h5, h6⟩
      refine ⟨d :: ds, by simp [k1], fun k => ?_⟩
      cases k with
      | zero => exact fun _ _ => hd
      | succ k => exact fun i1 i2 => k2 k (by simpa using i1) (by simpa using i2)
  obtain ⟨ds, hl, hd⟩ := key rows h3
  rw [hl] at h1 h2
  exact ⟨ds, rows, h1, h2, hl, hd⟩

end

end
end Go.Proofs.YtpgpbnalgjbfbaaDoor
