/-
  Calls and steps as plain data, out of what the row's arguments are.
-/
import Derived.Test.YtompigcfojbpkaaQaG
import Derived.Test.YtompigcfojbpkaaLfA
namespace Go.Proofs.Ytompigcfojbpkaa
open Go.Sx Go.RowKit Go.ChangeShapes Go.WideShapes
noncomputable section

section
variable {H : Type} {enc : TypeId × Value → H} {W : World}

theorem member_up {n : Nat} {cs : List Value} (h : ∃ y, trodA enc Try.prog W n 102 cs = some y ∧ RFits Try.prog 102 y.1) : ∃ m : MemD, cs = m.cells := by
  obtain ⟨y, h, hf⟩ := h
  obtain ⟨hl, m, _, hx⟩ := fields_up (P := Try.prog) Try.underlying102 h hf
  have hl : cs.length = 4 := hl.trans (by kernel_rfl)
  obtain ⟨v0, v1, v2, v3, rfl⟩ := list4 hl
  obtain ⟨c0, rfl, _⟩ := up_int (v := v0) (l := [v1, v2, v3]) Try.underlying3 (by kernel_rfl) (hx 0 _ rfl)
  obtain ⟨c1, rfl, _⟩ := up_int (v := v1) (l := [v2, v3]) Try.underlying100 (by kernel_rfl) (hx 1 _ rfl)
  obtain ⟨c2, rfl, _⟩ := up_int (v := v2) (l := [v3]) Try.underlying3 (by kernel_rfl) (hx 2 _ rfl)
  obtain ⟨c3, rfl, _⟩ := up_int (v := v3) (l := []) Try.underlying3 (by kernel_rfl) (hx 3 _ rfl)
  exact ⟨⟨c0, c1, c2, c3⟩, rfl⟩

theorem members_up {n : Nat} {v : Value} {l : List Value} (h : ∃ y, trodA enc Try.prog W n 31 ((v :: l).take (Try.prog.cellsOf 31)) = some y ∧ RFits Try.prog 31 y.1) : ∃ ms, MemR (allOf W) v ms := by
  obtain ⟨y, h, hf⟩ := up_one (by kernel_rfl) h
  obtain ⟨rows, h1, h2, h3⟩ := slice_up (es := 4) (B := 32) Try.underlying31 (by kernel_rfl) (by decide) (by kernel_rfl) h hf
  have key : ∀ rows : List (List Value), (∀ r ∈ rows, r.length = 4 ∧ ∃ m y, m < n ∧ trodA enc Try.prog W m 102 r = some y ∧ RFits Try.prog 102 y.1) → ∃ ms : List MemD, rows = ms.map MemD.cells := by
    intro rows
    induction rows with
    | nil => exact fun _ => ⟨[], rfl⟩
    | cons r rows ih =>
      intro h
      obtain ⟨ms, rfl⟩ := ih fun x hx => h x (List.mem_cons_of_mem _ hx)
      obtain ⟨_, m, y, _, h5, h6⟩ := h r (by simp)
      obtain ⟨d, rfl⟩ := member_up ⟨y, h5, h6⟩
      exact ⟨d :: ms, rfl⟩
  obtain ⟨ms, rfl⟩ := key rows h3
  rw [List.length_map] at h1 h2
  exact ⟨ms, h1, h2⟩

theorem asks_rows {n : Nat} (ih : ∀ m, m < n → ∀ cs, (∃ y, trodA enc Try.prog W m 34 cs = some y ∧ RFits Try.prog 34 y.1) → ∃ d, AskR (allOf W) d cs) :
    ∀ rows : List (List Value), (∀ r ∈ rows, r.length = 15 ∧ ∃ m y, m < n ∧ trodA enc Try.prog W m 34 r = some y ∧ RFits Try.prog 34 y.1) → ∃ ds, AsksR (allOf W) ds rows
  | [], _ => ⟨[], rfl⟩
  | r :: rows, h => by
    obtain ⟨ds, hd⟩ := asks_rows ih rows fun x hx => h x (List.mem_cons_of_mem _ hx)
    obtain ⟨_, m, y, h4, h5, h6⟩ := h r (by simp)
    obtain ⟨d, hr⟩ := ih m h4 r ⟨y, h5, h6⟩
    exact ⟨d :: ds, r, rows, rfl, hr, hd⟩

theorem ask_up (n : Nat) : ∀ cs, (∃ y, trodA enc Try.prog W n 34 cs = some y ∧ RFits Try.prog 34 y.1) → ∃ d, AskR (allOf W) d cs := by
  induction n using Nat.strongRecOn with
  | _ n ih =>
    intro cs ⟨y, h, hf⟩
    obtain ⟨hl, m, hm, hx⟩ := fields_up (P := Try.prog) Try.underlying34 h hf
    have hl : cs.length = 15 := hl.trans (by kernel_rfl)
    obtain ⟨v0, v1, v2, v3, v4, v5, v6, v7, v8, v9, v10, v11, v12, v13, v14, rfl⟩ := list15 hl
    obtain ⟨c0, rfl, _⟩ := up_int (v := v0) (l := [v1, v2, v3, v4, v5, v6, v7, v8, v9, v10, v11, v12, v13, v14]) Try.underlying27 (by kernel_rfl) (hx 0 _ rfl)
    obtain ⟨c1, rfl, _⟩ := up_int (v := v1) (l := [v2, v3, v4, v5, v6, v7, v8, v9, v10, v11, v12, v13, v14]) Try.underlying3 (by kernel_rfl) (hx 1 _ rfl)
    obtain ⟨c2, rfl, _⟩ := up_int (v := v2) (l := [v3, v4, v5, v6, v7, v8, v9, v10, v11, v12, v13, v14]) Try.underlying2 (by kernel_rfl) (hx 2 _ rfl)
    obtain ⟨c3, rfl, _⟩ := up_int (v := v3) (l := [v4, v5, v6, v7, v8, v9, v10, v11, v12, v13, v14]) Try.underlying3 (by kernel_rfl) (hx 3 _ rfl)
    obtain ⟨c4, rfl, _⟩ := up_string (v := v4) (l := [v5, v6, v7, v8, v9, v10, v11, v12, v13, v14]) Try.underlying9 (by kernel_rfl) (hx 4 _ rfl)
    obtain ⟨bs, hbs⟩ := up_bytes (v := v5) (l := [v6, v7, v8, v9, v10, v11, v12, v13, v14]) Try.underlying28 Try.underlying5 (by kernel_rfl) (by kernel_rfl) (by kernel_rfl) (hx 5 _ rfl)
    obtain ⟨c6, rfl, _⟩ := up_int (v := v6) (l := [v7, v8, v9, v10, v11, v12, v13, v14]) Try.underlying3 (by kernel_rfl) (hx 6 _ rfl)
    obtain ⟨c7, rfl, _⟩ := up_int (v := v7) (l := [v8, v9, v10, v11, v12, v13, v14]) Try.underlying3 (by kernel_rfl) (hx 7 _ rfl)
    obtain ⟨c8, rfl⟩ := up_bool (v := v8) (l := [v9, v10, v11, v12, v13, v14]) Try.underlying4 (by kernel_rfl) (hx 8 _ rfl)
    obtain ⟨c9, rfl, _⟩ := up_int (v := v9) (l := [v10, v11, v12, v13, v14]) Try.underlying29 (by kernel_rfl) (hx 9 _ rfl)
    obtain ⟨c10, rfl, _⟩ := up_int (v := v10) (l := [v11, v12, v13, v14]) Try.underlying30 (by kernel_rfl) (hx 10 _ rfl)
    obtain ⟨c11, rfl, _⟩ := up_int (v := v11) (l := [v12, v13, v14]) Try.underlying3 (by kernel_rfl) (hx 11 _ rfl)
    obtain ⟨c12, rfl, _⟩ := up_int (v := v12) (l := [v13, v14]) Try.underlying30 (by kernel_rfl) (hx 12 _ rfl)
    obtain ⟨ms, hms⟩ := members_up (v := v13) (l := [v14]) (hx 13 _ rfl)
    obtain ⟨y, h, hf⟩ := up_one (P := Try.prog) (t := 32) (v := v14) (l := []) (by kernel_rfl) (hx 14 _ rfl)
    obtain ⟨rows, h1, h2, h3⟩ := slice_up (es := 15) (B := 168) Try.underlying32 (by kernel_rfl) (by decide) (by kernel_rfl) h hf
    obtain ⟨ds, hds⟩ := asks_rows (n := m) (fun k hk => ih k (by omega)) rows h3
    have hlen := hds.length
    rw [hlen] at h1 h2
    exact ⟨.mk c0 c1 c2 c3 c4 bs c6 c7 c8 c9 c10 c11 c12 ms ds, v5, v13, v14, rows, rfl, hbs, hms, h1, h2, hds⟩

theorem do_up {n : Nat} {cs : List Value} (h : ∃ y, trodA enc Try.prog W n 36 cs = some y ∧ RFits Try.prog 36 y.1) : ∃ d, DoR (allOf W) d cs := by
  obtain ⟨y, h, hf⟩ := h
  obtain ⟨hl, m, _, hx⟩ := fields_up (P := Try.prog) Try.underlying36 h hf
  have hl : cs.length = 18 := hl.trans (by kernel_rfl)
  obtain ⟨v0, v1, v2, v3, v4, v5, v6, v7, v8, v9, v10, v11, v12, v13, v14, v15, v16, v17, rfl⟩ := list18 hl
  obtain ⟨c0, rfl, _⟩ := up_int (v := v0) (l := [v1, v2, v3, v4, v5, v6, v7, v8, v9, v10, v11, v12, v13, v14, v15, v16, v17]) Try.underlying3 (by kernel_rfl) (hx 0 _ rfl)
  have ha : ∃ y, trodA enc Try.prog W m 34 ([v1, v2, v3, v4, v5, v6, v7, v8, v9, v10, v11, v12, v13, v14, v15, v16, v17].take (Try.prog.cellsOf 34)) = some y ∧ RFits Try.prog 34 y.1 := hx 1 _ rfl
  rw [show Try.prog.cellsOf 34 = 15 by kernel_rfl] at ha
  obtain ⟨d, hd⟩ := ask_up m _ ha
  obtain ⟨c16, rfl, _⟩ := up_int (v := v16) (l := [v17]) Try.underlying3 (by kernel_rfl) (hx 2 _ rfl)
  obtain ⟨c17, rfl, _⟩ := up_int (v := v17) (l := []) Try.underlying3 (by kernel_rfl) (hx 3 _ rfl)
  exact ⟨⟨c0, d, c16, c17⟩, [v1, v2, v3, v4, v5, v6, v7, v8, v9, v10, v11, v12, v13, v14, v15], rfl, hd⟩

theorem dos_up {v : Value} {d : DataW H} {ps : List MemPlace} (h : DataW.Trod enc Try.prog W 0 (fun _ => true) true 22 v d ps) (hf : RFits Try.prog 22 d) (hv : v.cells.toList = [v]) : ∃ ds, DosS (allOf W) v ds := by
  obtain ⟨n, h⟩ := h
  rw [hv] at h
  obtain ⟨rows, h1, h2, h3⟩ := slice_up (es := 18) (B := 192) Try.underlying22 (by kernel_rfl) (by decide) (by kernel_rfl) h hf
  have key : ∀ rows : List (List Value), (∀ r ∈ rows, r.length = 18 ∧ ∃ m y, m < n ∧ trodA enc Try.prog W m 36 r = some y ∧ RFits Try.prog 36 y.1) → ∃ ds, DosR (allOf W) ds rows := by
    intro rows
    induction rows with
    | nil => exact fun _ => ⟨[], rfl, fun k h1 => by simp at h1⟩
    | cons r rows ih =>
      intro h
      obtain ⟨ds, k1, k2⟩ := ih fun x hx => h x (List.mem_cons_of_mem _ hx)
      obtain ⟨_, m, y, _, h5, h6⟩ := h r (by simp)
      obtain ⟨d, hd⟩ := do_up ⟨y, h5, h6⟩
      refine ⟨d :: ds, by simp [k1], fun k => ?_⟩
      cases k with
      | zero => exact fun _ _ => hd
      | succ k => exact fun i1 i2 => k2 k (by simpa using i1) (by simpa using i2)
  obtain ⟨ds, hd⟩ := key rows h3
  have hlen := hd.1
  rw [hlen] at h1 h2
  exact ⟨ds, rows, h1, h2, hd⟩

end

end
end Go.Proofs.Ytompigcfojbpkaa
