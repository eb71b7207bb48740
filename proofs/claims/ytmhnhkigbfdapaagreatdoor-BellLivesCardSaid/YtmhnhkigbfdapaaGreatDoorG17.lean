/-
  Steps as plain data, out of what the row's argument is.
  BellLives: the law's text over plain data.
-/
import Derived.Test.YtmhnhkigbfdapaaGreatDoorG16
import Derived.Test.YtmhnhkigbfdapaaGreatDoorG15
namespace Go.Proofs.YtmhnhkigbfdapaaGreatDoor
open Go.Sx Go.RowKit Go.ChangeShapes Go.WideShapes
noncomputable section

theorem list34 {α : Type} {l : List α} (h : l.length = 34) : ∃ v0 v1 v2 v3 v4 v5 v6 v7 v8 v9 v10 v11 v12 v13 v14 v15 v16 v17 v18 v19 v20 v21 v22 v23 v24 v25 v26 v27 v28 v29 v30 v31 v32 v33, l = [v0, v1, v2, v3, v4, v5, v6, v7, v8, v9, v10, v11, v12, v13, v14, v15, v16, v17, v18, v19, v20, v21, v22, v23, v24, v25, v26, v27, v28, v29, v30, v31, v32, v33] := by
  match l, h with
  | v0 :: v1 :: v2 :: v3 :: v4 :: v5 :: v6 :: v7 :: v8 :: v9 :: v10 :: v11 :: v12 :: v13 :: v14 :: v15 :: v16 :: v17 :: v18 :: v19 :: v20 :: v21 :: v22 :: v23 :: v24 :: v25 :: v26 :: v27 :: v28 :: v29 :: v30 :: v31 :: v32 :: v33 :: [], _ => exact ⟨v0, v1, v2, v3, v4, v5, v6, v7, v8, v9, v10, v11, v12, v13, v14, v15, v16, v17, v18, v19, v20, v21, v22, v23, v24, v25, v26, v27, v28, v29, v30, v31, v32, v33, rfl⟩

theorem list12b {α : Type} {l : List α} (h : l.length = 12) : ∃ v0 v1 v2 v3 v4 v5 v6 v7 v8 v9 v10 v11, l = [v0, v1, v2, v3, v4, v5, v6, v7, v8, v9, v10, v11] := by
  match l, h with
  | [v0, v1, v2, v3, v4, v5, v6, v7, v8, v9, v10, v11], _ => exact ⟨v0, v1, v2, v3, v4, v5, v6, v7, v8, v9, v10, v11, rfl⟩

def DosS (A : Arena) (v : Value) (ds : List DoD) : Prop := ∃ rows : List (List Value), Sl A 34 ds.length v rows.flatten ∧ ds.length * 360 ≤ 140737488351232 ∧ rows.length = ds.length ∧ ∀ k (h1 : k < ds.length) (h2 : k < rows.length), DoR A ds[k] rows[k]

section
variable {H : Type} {enc : TypeId × Value → H} {W : World}

theorem ndD_up {n : Nat} {cs : List Value} (h : ∃ y, trodA enc Tryz.prog W n 41 cs = some y ∧ RFits Tryz.prog 41 y.1) : ∃ (x : NdD) (a : Option Addr) (l k : Nat), cs = x.cells (.slice a l k) := by
  obtain ⟨y, h, hf⟩ := h
  obtain ⟨hl, m, _, hx⟩ := fields_up (P := Tryz.prog) Tryz.underlying41 h hf
  have hl : cs.length = 12 := hl.trans (by kernel_rfl)
  obtain ⟨v0, v1, v2, v3, v4, v5, v6, v7, v8, v9, v10, v11, rfl⟩ := list12b hl
  obtain ⟨p, rfl, _⟩ := up_string (v := v0) (l := [v1, v2, v3, v4, v5, v6, v7, v8, v9, v10, v11]) Tryz.underlying9 (by kernel_rfl) (hx 0 _ rfl)
  obtain ⟨bs, hbs⟩ := up_bytes (v := v1) (l := [v2, v3, v4, v5, v6, v7, v8, v9, v10, v11]) Tryz.underlying29 Tryz.underlying5 (by kernel_rfl) (by kernel_rfl) (by kernel_rfl) (hx 1 _ rfl)
  obtain ⟨a, k, rfl⟩ := hbs.1.form
  have he : ∃ y, trodA enc Tryz.prog W m 39 ([v2, v3, v4, v5, v6, v7, v8, v9, v10, v11].take (Tryz.prog.cellsOf 39)) = some y ∧ RFits Tryz.prog 39 y.1 := hx 2 _ rfl
  rw [show Tryz.prog.cellsOf 39 = 10 by kernel_rfl] at he
  obtain ⟨ye, he, hfe⟩ := he
  obtain ⟨_, me, _, hxe⟩ := fields_up (P := Tryz.prog) Tryz.underlying39 he hfe
  obtain ⟨c2, rfl, _⟩ := up_int (v := v2) (l := [v3, v4, v5, v6, v7, v8, v9, v10, v11]) Tryz.underlying27 (by kernel_rfl) (hxe 0 _ rfl)
  obtain ⟨c3, rfl, _⟩ := up_int (v := v3) (l := [v4, v5, v6, v7, v8, v9, v10, v11]) Tryz.underlying27 (by kernel_rfl) (hxe 1 _ rfl)
  obtain ⟨c4, rfl, _⟩ := up_int (v := v4) (l := [v5, v6, v7, v8, v9, v10, v11]) Tryz.underlying27 (by kernel_rfl) (hxe 2 _ rfl)
  obtain ⟨c5, rfl, _⟩ := up_int (v := v5) (l := [v6, v7, v8, v9, v10, v11]) Tryz.underlying2 (by kernel_rfl) (hxe 3 _ rfl)
  obtain ⟨c6, rfl, _⟩ := up_int (v := v6) (l := [v7, v8, v9, v10, v11]) Tryz.underlying2 (by kernel_rfl) (hxe 4 _ rfl)
  obtain ⟨c7, rfl, _⟩ := up_int (v := v7) (l := [v8, v9, v10, v11]) Tryz.underlying3 (by kernel_rfl) (hxe 5 _ rfl)
  obtain ⟨c8, rfl, _⟩ := up_int (v := v8) (l := [v9, v10, v11]) Tryz.underlying3 (by kernel_rfl) (hxe 6 _ rfl)
  obtain ⟨c9, rfl, _⟩ := up_int (v := v9) (l := [v10, v11]) Tryz.underlying2 (by kernel_rfl) (hxe 7 _ rfl)
  obtain ⟨c10, rfl, _⟩ := up_int (v := v10) (l := [v11]) Tryz.underlying3 (by kernel_rfl) (hxe 8 _ rfl)
  obtain ⟨c11, rfl, _⟩ := up_int (v := v11) (l := []) Tryz.underlying3 (by kernel_rfl) (hxe 9 _ rfl)
  exact ⟨⟨p, c2, c3, c4, c5, c6, c7, c8, c9, c10, c11⟩, a, bs.length, k, rfl⟩

theorem do_up {n : Nat} {cs : List Value} (h : ∃ y, trodA enc Tryz.prog W n 43 cs = some y ∧ RFits Tryz.prog 43 y.1) : ∃ d, DoR (allOf W) d cs := by
  obtain ⟨y, h, hf⟩ := h
  obtain ⟨hl, m, _, hx⟩ := fields_up (P := Tryz.prog) Tryz.underlying43 h hf
  have hl : cs.length = 34 := hl.trans (by kernel_rfl)
  obtain ⟨v0, v1, v2, v3, v4, v5, v6, v7, v8, v9, v10, v11, v12, v13, v14, v15, v16, v17, v18, v19, v20, v21, v22, v23, v24, v25, v26, v27, v28, v29, v30, v31, v32, v33, rfl⟩ := list34 hl
  obtain ⟨c0, rfl, _⟩ := up_int (v := v0) (l := [v1, v2, v3, v4, v5, v6, v7, v8, v9, v10, v11, v12, v13, v14, v15, v16, v17, v18, v19, v20, v21, v22, v23, v24, v25, v26, v27, v28, v29, v30, v31, v32, v33]) Tryz.underlying3 (by kernel_rfl) (hx 0 _ rfl)
  obtain ⟨c1, rfl, _⟩ := up_int (v := v1) (l := [v2, v3, v4, v5, v6, v7, v8, v9, v10, v11, v12, v13, v14, v15, v16, v17, v18, v19, v20, v21, v22, v23, v24, v25, v26, v27, v28, v29, v30, v31, v32, v33]) Tryz.underlying3 (by kernel_rfl) (hx 1 _ rfl)
  obtain ⟨c2, rfl, _⟩ := up_int (v := v2) (l := [v3, v4, v5, v6, v7, v8, v9, v10, v11, v12, v13, v14, v15, v16, v17, v18, v19, v20, v21, v22, v23, v24, v25, v26, v27, v28, v29, v30, v31, v32, v33]) Tryz.underlying37 (by kernel_rfl) (hx 2 _ rfl)
  obtain ⟨c3, rfl, hp⟩ := up_string (v := v3) (l := [v4, v5, v6, v7, v8, v9, v10, v11, v12, v13, v14, v15, v16, v17, v18, v19, v20, v21, v22, v23, v24, v25, v26, v27, v28, v29, v30, v31, v32, v33]) Tryz.underlying9 (by kernel_rfl) (hx 3 _ rfl)
  have hd : ∃ y, trodA enc Tryz.prog W m 36 ([v4, v5, v6, v7, v8, v9, v10, v11, v12, v13, v14, v15, v16, v17, v18, v19, v20, v21, v22, v23, v24, v25, v26, v27, v28, v29, v30, v31, v32, v33].take (Tryz.prog.cellsOf 36)) = some y ∧ RFits Tryz.prog 36 y.1 := hx 4 _ rfl
  rw [show Tryz.prog.cellsOf 36 = 16 by kernel_rfl] at hd
  obtain ⟨d, hd⟩ := deed_up m _ hd
  obtain ⟨c20, rfl, _⟩ := up_int (v := v20) (l := [v21, v22, v23, v24, v25, v26, v27, v28, v29, v30, v31, v32, v33]) Tryz.underlying27 (by kernel_rfl) (hx 5 _ rfl)
  have hn : ∃ y, trodA enc Tryz.prog W m 41 ([v21, v22, v23, v24, v25, v26, v27, v28, v29, v30, v31, v32, v33].take (Tryz.prog.cellsOf 41)) = some y ∧ RFits Tryz.prog 41 y.1 := hx 6 _ rfl
  rw [show Tryz.prog.cellsOf 41 = 12 by kernel_rfl] at hn
  obtain ⟨nd, a, l, k, hnd⟩ := ndD_up hn
  obtain ⟨c33, rfl⟩ := up_bool (v := v33) (l := []) Tryz.underlying4 (by kernel_rfl) (hx 7 _ rfl)
  refine ⟨⟨c0, ⟨c1, c2, c3⟩, d, c20, nd, c33⟩, [v4, v5, v6, v7, v8, v9, v10, v11, v12, v13, v14, v15, v16, v17, v18, v19], a, l, k, ?_, hd, hp⟩
  rw [← hnd]
  rfl

theorem dos_up {v : Value} {d : DataW H} {ps : List MemPlace} (h : DataW.Trod enc Tryz.prog W 0 (fun _ => true) true 22 v d ps) (hf : RFits Tryz.prog 22 d) (hv : v.cells.toList = [v]) : ∃ ds, DosS (allOf W) v ds := by
  obtain ⟨n, h⟩ := h
  rw [hv] at h
  obtain ⟨rows, h1, h2, h3⟩ := slice_up (es := 34) (B := 360) Tryz.underlying22 (by kernel_rfl) (by decide) (by kernel_rfl) h hf
  have key : ∀ rows : List (List Value), (∀ r ∈ rows, r.length = 34 ∧ ∃ m y, m < n ∧ trodA enc Tryz.prog W m 43 r = some y ∧ RFits Tryz.prog 43 y.1) → ∃ ds : List DoD, rows.length = ds.length ∧ ∀ k (h1 : k < ds.length) (h2 : k < rows.length), DoR (allOf W) ds[k] rows[k] := by
    intro rows
    induction rows with
    | nil => exact fun _ => ⟨[], rfl, fun k h1 => by simp at h1⟩
    | cons r rows ih =>
      intro h
      obtain ⟨ds, k1, k2⟩ := ih fun x hx => h x (List.mem_cons_of_mem _ hx)
      obtain ⟨_, m, y, _, h5, h6⟩ := h r (by simp)
      obtain ⟨d, hd⟩ := do_up ⟨y, h5, h6⟩
      refine ⟨d :: ds, by simp [k1], fun k => ?_⟩
      cases k with
      | zero => exact fun _ _ => hd
      | succ k => exact fun i1 i2 => k2 k (by simpa using i1) (by simpa using i2)
  obtain ⟨ds, hl, hd⟩ := key rows h3
  rw [hl] at h1 h2
  exact ⟨ds, rows, h1, h2, hl, hd⟩

end

end
end Go.Proofs.YtmhnhkigbfdapaaGreatDoor

namespace Go.Proofs.YtmhnhkigbfdapaaGreatDoor
open Go.Sx Go.RowKit
noncomputable section
open Classical

theorem dos_row {A : Arena} {ds : List DoD} {rows : List (List Value)} (hl : rows.length = ds.length) (hR : ∀ k (h1 : k < ds.length) (h2 : k < rows.length), DoR A ds[k] rows[k]) {g o n : Nat} (hra : A.rd g o (n * 34) = some rows.flatten) (hn : n = ds.length) {k : Nat} (hk : k < ds.length) :
    ∃ cs, DoR A ds[k] cs ∧ A.rd g (o + k * 34) 34 = some cs := by
  have hlens : ∀ r ∈ rows, r.length = 34 := fun r hr => by
    obtain ⟨i, hi, rfl⟩ := List.mem_iff_getElem.1 hr
    exact (hR i (by omega) hi).len
  exact ⟨_, hR k hk (by omega), rows_at hra hlens k (by omega) (by omega)⟩

structure LvG where
  i : Nat
  A : Arena
  ws : List WatchD
  S : Arena
  l : List WatchD

def lvInv (A0 : Arena) (t m r n : Nat) : LInv := { γ := LvG, G := fun s => s.i ≤ n ∧ BoAt A0 s.A t m s.ws s.S r s.l ∧ s.l.length ≤ s.i, keepS := [0, 3, 4], keepB := [], sl := fun s => [(5, .v (.int .i64 s.i))], bl := fun _ => [], ar := fun s => s.A, mu := fun s => n - s.i }

def livesS : FSpec := ⟨List DoD, fun ds vs A => ∃ v, vs = [v] ∧ DosS A v ds ∧ HasA A, fun _ _ A v A' => A.Sub A' ∧ v = .bool true⟩

set_option maxRecDepth 100000 in
set_option maxHeartbeats 0 in
theorem lives_ok : FOk Tryz.prog 3 livesS := by
  refine fok_v mixed fun (ds : List DoD) vs A hp => ?_
  obtain ⟨v, rfl, ⟨rows, hS, hlen, hrl, hR⟩, hHas⟩ : ∃ v, vs = [v] ∧ DosS A v ds ∧ HasA A := hp
  obtain ⟨ao, c, rfl, hc, hl, ha1, ha2, ha3⟩ := hS
  have hrow : ∀ k (hk : k < ds.length), ∃ g0 o, ao = some ⟨g0, o, none⟩ ∧ ∃ cs, DoR A ds[k] cs ∧ A.rd g0 (o + k * 34) 34 = some cs := fun k hk => by
    obtain ⟨g0, o, e, hra⟩ := Sl.at_ hc ha1 ha2 ha3 (by omega)
    exact ⟨g0, o, e, dos_row hrl hR hra rfl hk⟩
  have hC : CTSound Tryz.prog (lookC [specE 6 awS, specE 4 bellNewS, specE 5 rNewS, specE 7 stepS, specE 8 bellCountS, specE 9 rCountS] noC) := lookC_sound (noC_sound _) (fun x hx => by
    simp only [List.mem_cons, List.not_mem_nil, or_false] at hx
    rcases hx with rfl | rfl | rfl | rfl | rfl | rfl
    · exact specE_ok aw_ok
    · exact specE_ok bellNew_ok
    · exact specE_ok rNew_ok
    · exact specE_ok step_ok
    · exact specE_ok bellCount_ok
    · exact specE_ok rCount_ok)
  refine ⟨_, tabO Tryz.prog _ noL 60 [(3, 0)], 60, hC, tabO_sound mixed hC (noL_sound _) _ _, fun blk os out tape D hD => ?_⟩
  conv => lhs; whnf
  refine split_dec (fun h80 => ?_) (fun h80 => ?_)
  · have h80' : 80 < ds.length := by
      have h80 : (80 : Int) < ds.length := h80
      omega
    obtain ⟨g0, o, rfl, hra⟩ := Sl.at_ hc ha1 ha2 ha3 (by omega)
    obtain ⟨c', rfl⟩ : ∃ c', c = c' + 1 := ⟨c - 1, by omega⟩
    have hn : ∃ n : Nat, n = 80 ∧ n ≤ ds.length ∧ n ≤ c' + 1 ∧ n ≤ 80 := ⟨_, rfl, by omega, by omega, by omega⟩
    conv => lhs; whnf
    refine go_dec (by show (80 : Int) ≤ ((c' + 1 : Nat) : Int); omega) ?_
    conv => lhs; whnf
    obtain ⟨n, hn, hle, hnc, hn80⟩ := hn
    refine (hD _).2 ⟨(), rfl, fun v A1 hq => ?_⟩
    obtain ⟨s1, t, m, hv, hT1, htn, hmn⟩ : A.Sub A1 ∧ ∃ t m, v = .pointer (some ⟨t, 0, none⟩) ∧ TowerAt A1 t m [] ∧ A.blk t = none ∧ A.blk m = none := hq
    subst hv
    conv => lhs; whnf
    refine (hD _).2 ⟨(), rfl, fun v A2 hq => ?_⟩
    obtain ⟨s2, r, hv, hR2, hrn1⟩ : A1.Sub A2 ∧ ∃ r, v = .pointer (some ⟨r, 0, none⟩) ∧ RtAt A2 Arena.void r [] ∧ A1.blk r = none := hq
    subst hv
    have hrn : A.blk r = none := by
      cases h : A.blk r with
      | none => rfl
      | some o => rw [s1 r o h] at hrn1; cases hrn1
    have hBo : BoAt A A2 t m [] Arena.void r [] := by
      obtain ⟨ot, hot⟩ := hT1.top.dom
      obtain ⟨em, cm, hom, _⟩ := hT1.map
      exact ⟨s1.trans s2, ⟨hT1.top.sub fun o ho => s2 _ _ ho, hT1.map.sub fun o ho => s2 _ _ ho, hT1.nd, hT1.ne⟩, hR2, RelW.nil, htn, hmn, hrn, rfl, fun e => (by rw [e, hot] at hrn1; cases hrn1), fun e => (by rw [e, hom] at hrn1; cases hrn1)⟩
    conv => lhs; whnf
    refine (hD _).2 ⟨lvInv A t m r n, ⟨(⟨0, A2, [], Arena.void, []⟩ : LvG), ⟨Nat.zero_le _, hBo, Nat.le_refl _⟩, ⟨rfl, trivial⟩, trivial, rfl⟩, fun (s : LvG) hG => ⟨⟨trivial, trivial⟩, trivial, ?_⟩⟩
    obtain ⟨k, Ak, ws, S, l⟩ := s
    obtain ⟨hk, hB, hlk⟩ : k ≤ n ∧ BoAt A Ak t m ws S r l ∧ l.length ≤ k := hG
    conv => lhs; whnf
    refine split_dec (fun hlt => ?_) (fun hlt => ?_)
    rotate_left
    · conv => lhs; whnf
      refine (hD _).2 ⟨(), ⟨rfl, hHas.sub hB.sub⟩, fun v A3 hq => ?_⟩
      obtain ⟨s3, hv⟩ : Ak.Sub A3 ∧ v = .bool true := hq
      subst hv
      have hend : livesS.post ds [] A (.bool true) A3 := ⟨hB.sub.trans s3, rfl⟩
      conv => lhs; whnf
      exact (hD _).2 hend
    have hkn : k < n := by
      have hlt : (k : Int) < (n : Int) := by rw [hn]; exact hlt
      omega
    obtain ⟨g1, o1, e1, cs, hDo, r1⟩ := hrow k (by omega)
    cases e1
    have hin : (k : Int) < (n : Int) := by omega
    rw [hn] at hin
    have i0 : (0 : Int) ≤ (k : Int) := by omega
    obtain ⟨dk, hdk⟩ : ∃ dk, dk = ds[k]'(by omega) := ⟨_, rfl⟩
    rw [← hdk] at hDo
    clear hdk
    have hDo0 := hDo
    obtain ⟨op, ⟨conn, sort, p⟩, d, last, ⟨np, cz, mz, pz, ct, mt, ve, cv, ow, le, ki⟩, there⟩ := dk
    obtain ⟨dc, na, nl, nk, hcs, hDd, hpl⟩ := hDo
    obtain ⟨a7, l7, k7, a14, l14, k14, a15, l15, k15, hdc⟩ := hDd.form
    subst hdc
    subst hcs
    have r2 := rd_sub hB.sub r1
    have r11 : Ak.rd _ (_ + k * 34 + 11) 1 = some [.slice a7 l7 k7] := rd_at (N := 34) (i := 11) (m := 1) r2 (by omega)
    have r18 : Ak.rd _ (_ + k * 34 + 18) 1 = some [.slice a14 l14 k14] := rd_at (N := 34) (i := 18) (m := 1) r2 (by omega)
    have r19 : Ak.rd _ (_ + k * 34 + 19) 1 = some [.slice a15 l15 k15] := rd_at (N := 34) (i := 19) (m := 1) r2 (by omega)
    conv => lhs; whnf
    repeat (first | refine go_in ⟨i0, hin⟩ ?_ | refine go_rd r19 ?_ | refine go_rd r11 ?_ | refine go_rd r18 ?_
            conv => lhs; whnf)
    refine split_dec (fun _ => ?_) (fun _ => ?_)
    · conv => lhs; whnf
      repeat (first | refine go_D hD rfl ?_
              conv => lhs; whnf)
      refine (hD _).2 ⟨(), ⟨rfl, hHas.sub hB.sub⟩, fun v A3 hq => ?_⟩
      obtain ⟨s3, hv⟩ : Ak.Sub A3 ∧ v = .bool true := hq
      subst hv
      have hend : livesS.post ds [] A (.bool true) A3 := ⟨hB.sub.trans s3, rfl⟩
      conv => lhs; whnf
      exact (hD _).2 hend
    conv => lhs; whnf
    repeat (first | refine go_in ⟨i0, hin⟩ ?_ | refine go_rd r19 ?_ | refine go_rd r11 ?_ | refine go_rd r18 ?_ | refine go_rd r2 ?_ | refine go_D hD rfl ?_
            conv => lhs; whnf)
    refine split_dec (fun _ => ?_) (fun _ => ?_)
    · conv => lhs; whnf
      repeat (first | refine go_D hD rfl ?_
              conv => lhs; whnf)
      refine (hD _).2 ⟨(), ⟨rfl, hHas.sub hB.sub⟩, fun v A3 hq => ?_⟩
      obtain ⟨s3, hv⟩ : Ak.Sub A3 ∧ v = .bool true := hq
      subst hv
      have hend : livesS.post ds [] A (.bool true) A3 := ⟨hB.sub.trans s3, rfl⟩
      conv => lhs; whnf
      exact (hD _).2 hend
    conv => lhs; whnf
    repeat (first | refine go_in ⟨i0, hin⟩ ?_ | refine go_rd r19 ?_ | refine go_rd r11 ?_ | refine go_rd r18 ?_ | refine go_rd r2 ?_ | refine go_D hD rfl ?_
            conv => lhs; whnf)
    refine split_dec (fun _ => ?_) (fun _ => ?_)
    · conv => lhs; whnf
      repeat (first | refine go_D hD rfl ?_
              conv => lhs; whnf)
      refine (hD _).2 ⟨(), ⟨rfl, hHas.sub hB.sub⟩, fun v A3 hq => ?_⟩
      obtain ⟨s3, hv⟩ : Ak.Sub A3 ∧ v = .bool true := hq
      subst hv
      have hend : livesS.post ds [] A (.bool true) A3 := ⟨hB.sub.trans s3, rfl⟩
      conv => lhs; whnf
      exact (hD _).2 hend
    conv => lhs; whnf
    repeat (first | refine go_in ⟨i0, hin⟩ ?_ | refine go_rd r19 ?_ | refine go_rd r11 ?_ | refine go_rd r18 ?_ | refine go_rd r2 ?_ | refine go_D hD rfl ?_
            conv => lhs; whnf)
    refine (hD _).2 ⟨⟨A, t, m, ws, S, r, l, ⟨op, ⟨conn, sort, p⟩, d, last, ⟨np, cz, mz, pz, ct, mt, ve, cv, ow, le, ki⟩, there⟩⟩, ⟨_, rfl, hB, hDo0, hHas, by show l.length < 1000; omega⟩, fun v A3 hq => ?_⟩
    obtain ⟨hv, ws', S', l', hB3, hl3⟩ : v = .bool true ∧ ∃ ws' S' l', BoAt A A3 t m ws' S' r l' ∧ l'.length ≤ l.length + 1 := hq
    subst hv
    conv => lhs; whnf
    repeat (first | refine go_D hD rfl ?_
            conv => lhs; whnf)
    refine (hD _).2 ⟨⟨t, m, ws'⟩, ⟨rfl, hB3.tw⟩, fun v A4 hq => ?_⟩
    obtain ⟨h4, hv⟩ : A4 = A3 ∧ v = .int .i64 ((ws' : List WatchD).length : Nat) := hq
    subst h4; subst hv
    conv => lhs; whnf
    repeat (first | refine go_D hD rfl ?_
            conv => lhs; whnf)
    refine (hD _).2 ⟨(S', r, l'), ⟨rfl, hB3.rt⟩, fun v A5 hq => ?_⟩
    obtain ⟨h5, hv⟩ : A5 = A4 ∧ v = .int .i64 ((l' : List WatchD).length : Nat) := hq
    rw [← hB3.rel.len] at hv
    subst h5; subst hv
    conv => lhs; whnf
    repeat (first | refine go_D hD rfl ?_ | refine split_nd (fun _ => ?_) (fun h => absurd rfl h)
            conv => lhs; whnf)
    exact (hD _).2 ⟨(⟨k + 1, A5, ws', S', l'⟩ : LvG), ⟨⟨hkn, hB3, by show l'.length ≤ k + 1; omega⟩, ⟨inc_slot (k := k) (by omega), trivial⟩, trivial, rfl⟩, by show n - (k + 1) < n - k; omega, ⟨same1 rfl rfl, same1 rfl rfl, same1 rfl rfl, trivial⟩, trivial⟩
  · have hn : ∃ n : Nat, n = ds.length ∧ n ≤ ds.length ∧ n ≤ c ∧ n ≤ 80 := ⟨_, rfl, by omega, by omega, by
      have h80 : ¬ (80 : Int) < ds.length := h80
      omega⟩
    conv => lhs; whnf
    obtain ⟨n, hn, hle, hnc, hn80⟩ := hn
    refine (hD _).2 ⟨(), rfl, fun v A1 hq => ?_⟩
    obtain ⟨s1, t, m, hv, hT1, htn, hmn⟩ : A.Sub A1 ∧ ∃ t m, v = .pointer (some ⟨t, 0, none⟩) ∧ TowerAt A1 t m [] ∧ A.blk t = none ∧ A.blk m = none := hq
    subst hv
    conv => lhs; whnf
    refine (hD _).2 ⟨(), rfl, fun v A2 hq => ?_⟩
    obtain ⟨s2, r, hv, hR2, hrn1⟩ : A1.Sub A2 ∧ ∃ r, v = .pointer (some ⟨r, 0, none⟩) ∧ RtAt A2 Arena.void r [] ∧ A1.blk r = none := hq
    subst hv
    have hrn : A.blk r = none := by
      cases h : A.blk r with
      | none => rfl
      | some o => rw [s1 r o h] at hrn1; cases hrn1
    have hBo : BoAt A A2 t m [] Arena.void r [] := by
      obtain ⟨ot, hot⟩ := hT1.top.dom
      obtain ⟨em, cm, hom, _⟩ := hT1.map
      exact ⟨s1.trans s2, ⟨hT1.top.sub fun o ho => s2 _ _ ho, hT1.map.sub fun o ho => s2 _ _ ho, hT1.nd, hT1.ne⟩, hR2, RelW.nil, htn, hmn, hrn, rfl, fun e => (by rw [e, hot] at hrn1; cases hrn1), fun e => (by rw [e, hom] at hrn1; cases hrn1)⟩
    conv => lhs; whnf
    refine (hD _).2 ⟨lvInv A t m r n, ⟨(⟨0, A2, [], Arena.void, []⟩ : LvG), ⟨Nat.zero_le _, hBo, Nat.le_refl _⟩, ⟨rfl, trivial⟩, trivial, rfl⟩, fun (s : LvG) hG => ⟨⟨trivial, trivial⟩, trivial, ?_⟩⟩
    obtain ⟨k, Ak, ws, S, l⟩ := s
    obtain ⟨hk, hB, hlk⟩ : k ≤ n ∧ BoAt A Ak t m ws S r l ∧ l.length ≤ k := hG
    conv => lhs; whnf
    refine split_dec (fun hlt => ?_) (fun hlt => ?_)
    rotate_left
    · conv => lhs; whnf
      refine (hD _).2 ⟨(), ⟨rfl, hHas.sub hB.sub⟩, fun v A3 hq => ?_⟩
      obtain ⟨s3, hv⟩ : Ak.Sub A3 ∧ v = .bool true := hq
      subst hv
      have hend : livesS.post ds [] A (.bool true) A3 := ⟨hB.sub.trans s3, rfl⟩
      conv => lhs; whnf
      exact (hD _).2 hend
    have hkn : k < n := by
      have hlt : (k : Int) < (n : Int) := by rw [hn]; exact hlt
      omega
    obtain ⟨g1, o1, e1, cs, hDo, r1⟩ := hrow k (by omega)
    cases e1
    have hin : (k : Int) < (n : Int) := by omega
    rw [hn] at hin
    have i0 : (0 : Int) ≤ (k : Int) := by omega
    obtain ⟨dk, hdk⟩ : ∃ dk, dk = ds[k]'(by omega) := ⟨_, rfl⟩
    rw [← hdk] at hDo
    clear hdk
    have hDo0 := hDo
    obtain ⟨op, ⟨conn, sort, p⟩, d, last, ⟨np, cz, mz, pz, ct, mt, ve, cv, ow, le, ki⟩, there⟩ := dk
    obtain ⟨dc, na, nl, nk, hcs, hDd, hpl⟩ := hDo
    obtain ⟨a7, l7, k7, a14, l14, k14, a15, l15, k15, hdc⟩ := hDd.form
    subst hdc
    subst hcs
    have r2 := rd_sub hB.sub r1
    have r11 : Ak.rd _ (_ + k * 34 + 11) 1 = some [.slice a7 l7 k7] := rd_at (N := 34) (i := 11) (m := 1) r2 (by omega)
    have r18 : Ak.rd _ (_ + k * 34 + 18) 1 = some [.slice a14 l14 k14] := rd_at (N := 34) (i := 18) (m := 1) r2 (by omega)
    have r19 : Ak.rd _ (_ + k * 34 + 19) 1 = some [.slice a15 l15 k15] := rd_at (N := 34) (i := 19) (m := 1) r2 (by omega)
    conv => lhs; whnf
    repeat (first | refine go_in ⟨i0, hin⟩ ?_ | refine go_rd r19 ?_ | refine go_rd r11 ?_ | refine go_rd r18 ?_
            conv => lhs; whnf)
    refine split_dec (fun _ => ?_) (fun _ => ?_)
    · conv => lhs; whnf
      repeat (first | refine go_D hD rfl ?_
              conv => lhs; whnf)
      refine (hD _).2 ⟨(), ⟨rfl, hHas.sub hB.sub⟩, fun v A3 hq => ?_⟩
      obtain ⟨s3, hv⟩ : Ak.Sub A3 ∧ v = .bool true := hq
      subst hv
      have hend : livesS.post ds [] A (.bool true) A3 := ⟨hB.sub.trans s3, rfl⟩
      conv => lhs; whnf
      exact (hD _).2 hend
    conv => lhs; whnf
    repeat (first | refine go_in ⟨i0, hin⟩ ?_ | refine go_rd r19 ?_ | refine go_rd r11 ?_ | refine go_rd r18 ?_ | refine go_rd r2 ?_ | refine go_D hD rfl ?_
            conv => lhs; whnf)
    refine split_dec (fun _ => ?_) (fun _ => ?_)
    · conv => lhs; whnf
      repeat (first | refine go_D hD rfl ?_
              conv => lhs; whnf)
      refine (hD _).2 ⟨(), ⟨rfl, hHas.sub hB.sub⟩, fun v A3 hq => ?_⟩
      obtain ⟨s3, hv⟩ : Ak.Sub A3 ∧ v = .bool true := hq
      subst hv
      have hend : livesS.post ds [] A (.bool true) A3 := ⟨hB.sub.trans s3, rfl⟩
      conv => lhs; whnf
      exact (hD _).2 hend
    conv => lhs; whnf
    repeat (first | refine go_in ⟨i0, hin⟩ ?_ | refine go_rd r19 ?_ | refine go_rd r11 ?_ | refine go_rd r18 ?_ | refine go_rd r2 ?_ | refine go_D hD rfl ?_
            conv => lhs; whnf)
    refine split_dec (fun _ => ?_) (fun _ => ?_)
    · conv => lhs; whnf
      repeat (first | refine go_D hD rfl ?_
              conv => lhs; whnf)
      refine (hD _).2 ⟨(), ⟨rfl, hHas.sub hB.sub⟩, fun v A3 hq => ?_⟩
      obtain ⟨s3, hv⟩ : Ak.Sub A3 ∧ v = .bool true := hq
      subst hv
      have hend : livesS.post ds [] A (.bool true) A3 := ⟨hB.sub.trans s3, rfl⟩
      conv => lhs; whnf
      exact (hD _).2 hend
    conv => lhs; whnf
    repeat (first | refine go_in ⟨i0, hin⟩ ?_ | refine go_rd r19 ?_ | refine go_rd r11 ?_ | refine go_rd r18 ?_ | refine go_rd r2 ?_ | refine go_D hD rfl ?_
            conv => lhs; whnf)
    refine (hD _).2 ⟨⟨A, t, m, ws, S, r, l, ⟨op, ⟨conn, sort, p⟩, d, last, ⟨np, cz, mz, pz, ct, mt, ve, cv, ow, le, ki⟩, there⟩⟩, ⟨_, rfl, hB, hDo0, hHas, by show l.length < 1000; omega⟩, fun v A3 hq => ?_⟩
    obtain ⟨hv, ws', S', l', hB3, hl3⟩ : v = .bool true ∧ ∃ ws' S' l', BoAt A A3 t m ws' S' r l' ∧ l'.length ≤ l.length + 1 := hq
    subst hv
    conv => lhs; whnf
    repeat (first | refine go_D hD rfl ?_
            conv => lhs; whnf)
    refine (hD _).2 ⟨⟨t, m, ws'⟩, ⟨rfl, hB3.tw⟩, fun v A4 hq => ?_⟩
    obtain ⟨h4, hv⟩ : A4 = A3 ∧ v = .int .i64 ((ws' : List WatchD).length : Nat) := hq
    subst h4; subst hv
    conv => lhs; whnf
    repeat (first | refine go_D hD rfl ?_
            conv => lhs; whnf)
    refine (hD _).2 ⟨(S', r, l'), ⟨rfl, hB3.rt⟩, fun v A5 hq => ?_⟩
    obtain ⟨h5, hv⟩ : A5 = A4 ∧ v = .int .i64 ((l' : List WatchD).length : Nat) := hq
    rw [← hB3.rel.len] at hv
    subst h5; subst hv
    conv => lhs; whnf
    repeat (first | refine go_D hD rfl ?_ | refine split_nd (fun _ => ?_) (fun h => absurd rfl h)
            conv => lhs; whnf)
    exact (hD _).2 ⟨(⟨k + 1, A5, ws', S', l'⟩ : LvG), ⟨⟨hkn, hB3, by show l'.length ≤ k + 1; omega⟩, ⟨inc_slot (k := k) (by omega), trivial⟩, trivial, rfl⟩, by show n - (k + 1) < n - k; omega, ⟨same1 rfl rfl, same1 rfl rfl, same1 rfl rfl, trivial⟩, trivial⟩

end
end Go.Proofs.YtmhnhkigbfdapaaGreatDoor
