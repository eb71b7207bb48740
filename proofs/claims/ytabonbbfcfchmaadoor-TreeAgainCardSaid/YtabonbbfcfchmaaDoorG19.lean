/-
  Contracts: a tree that met a row of deeds.
-/
import Derived.Test.YtabonbbfcfchmaaDoorG15
namespace Go.Proofs.YtabonbbfcfchmaaDoor
open Go.Sx Go.RowKit
noncomputable section
open Classical

theorem DeedsR.take {B : Arena} : ∀ (n : Nat) {ds : List DeedD} {rows : List (List Value)}, DeedsR B ds rows → DeedsR B (ds.take n) (rows.take n)
  | 0, _, _, _ => rfl
  | n + 1, [], rows, h => by
    obtain rfl : rows = [] := h
    rfl
  | n + 1, d :: ds, rows, h => by
    obtain ⟨r, rs, rfl, h1, h2⟩ := h
    exact ⟨r, rs.take n, rfl, h1, DeedsR.take n h2⟩

theorem flat_take : ∀ (n : Nat) {rows : List (List Value)}, (∀ r ∈ rows, r.length = 16) → (rows.take n).flatten = rows.flatten.take (n * 16)
  | 0, _, _ => by simp
  | n + 1, [], _ => by simp
  | n + 1, r :: rs, h => by
    have h1 : r.length = 16 := h r (by simp)
    have e1 : (n + 1) * 16 - r.length = n * 16 := by omega
    have e2 : r.take ((n + 1) * 16) = r := List.take_of_length_le (by omega)
    rw [List.take_succ_cons, List.flatten_cons, List.flatten_cons, flat_take n fun x hx => h x (List.mem_cons_of_mem _ hx), List.take_append, e1, e2]

/-- A row cut off. -/
theorem deeds_take {A : Arena} {g o c n N : Nat} {ds : List DeedD} {rows : List (List Value)} (h : A.rd g o (N * 16) = some rows.flatten) (hr : DeedsR A ds rows) (hN : N = ds.length) (hn : n ≤ ds.length) (hc : n ≤ c) (hl : ds.length * 184 ≤ 140737488351232) : DeedsS A (.slice (some ⟨g, o, none⟩) n c) (ds.take n) := by
  have e : (ds.take n).length = n := by rw [List.length_take]; omega
  refine ⟨rows.take n, ?_, by rw [e]; omega, DeedsR.take n hr⟩
  rw [e, flat_take n hr.lens]
  refine Sl.row hc ?_
  have hle : n * 16 ≤ N * 16 := Nat.mul_le_mul_right _ (by omega)
  have := rd_at h (i := 0) (m := n * 16) (by omega)
  rw [Nat.add_zero, List.drop_zero] at this
  exact this

structure DoG where
  k : Nat
  A : Arena
  B : Arena
  O : Nat → Prop

structure DoneI (A0 : Arena) (ds : List DeedD) (t : Nat) (s : DoG) : Prop where
  le : s.k ≤ ds.length
  sub : A0.Sub s.A
  tree : TreeAt s.A s.B s.O t (treeRow treeNew (ds.take s.k))
  own : ∀ k, s.O k → A0.blk k = none
  new : ∀ k o, s.B.blk k = some o → A0.blk k = none

def doneInv (A0 : Arena) (ds : List DeedD) (t : Nat) : LInv := { γ := DoG, G := DoneI A0 ds t, keepS := [0, 3], keepB := [], sl := fun s => [(4, .v (.int .i64 s.k))], bl := fun _ => [], ar := fun s => s.A, mu := fun s => ds.length - s.k }

def doneS : FSpec := ⟨List DeedD, fun g vs A => ∃ v, vs = [v] ∧ DeedsS A v g ∧ HasA A, fun g _ A v A' => A.Sub A' ∧ ∃ t B O, v = .pointer (some ⟨t, 0, none⟩) ∧ TreeAt A' B O t (treeRow treeNew g) ∧ (∀ k, O k → A.blk k = none) ∧ ∀ k o, B.blk k = some o → A.blk k = none⟩

set_option maxRecDepth 100000 in
set_option maxHeartbeats 0 in
theorem done_ok : FOk Tryd.prog 8 doneS := by
  refine fok_v mixed fun (ds : List DeedD) vs A hp => ?_
  obtain ⟨v, rfl, ⟨rows, hS, hlen, hR⟩, hHas⟩ : ∃ v, vs = [v] ∧ DeedsS A v ds ∧ HasA A := hp
  obtain ⟨ao, c, rfl, hc, hl, ha1, ha2, ha3⟩ := hS
  have hC : CTSound Tryd.prog (lookC [specE 22 newS, specE 15 applyS] noC) := lookC_sound (noC_sound _) (fun x hx => by
    simp only [List.mem_cons, List.not_mem_nil, or_false] at hx
    rcases hx with rfl | rfl
    · exact specE_ok new_ok
    · exact specE_ok apply_ok)
  refine ⟨_, tabO Tryd.prog _ noL 60 [(8, 0)], 60, hC, tabO_sound mixed hC (noL_sound _) _ _, fun blk os out tape D hD => ?_⟩
  conv => lhs; whnf
  refine (hD _).2 ⟨(), rfl, fun v A1 hq => ?_⟩
  obtain ⟨t, O1, rfl, hT1, s1, hO1⟩ : ∃ t O, v = .pointer (some ⟨t, 0, none⟩) ∧ TreeAt A1 Arena.void O t treeNew ∧ A.Sub A1 ∧ ∀ k, O k → A.blk k = none := hq
  conv => lhs; whnf
  have hI0 : DoneI A ds t ⟨0, A1, Arena.void, O1⟩ := ⟨Nat.zero_le _, s1, hT1, hO1, fun k o hk => by cases hk⟩
  refine (hD _).2 ⟨doneInv A ds t, ⟨(⟨0, A1, Arena.void, O1⟩ : DoG), hI0, ⟨rfl, trivial⟩, trivial, rfl⟩, fun (s : DoG) hG => ⟨⟨trivial, trivial⟩, trivial, ?_⟩⟩
  obtain ⟨k, Ak, B, O⟩ := s
  obtain ⟨hk, hsub, hT, hown, hnew⟩ : DoneI A ds t ⟨k, Ak, B, O⟩ := hG
  dsimp only at hk hsub hT hown hnew
  conv => lhs; whnf
  refine split_dec (fun hlt => ?_) (fun hlt => ?_) <;> (conv => lhs; whnf)
  · have hkl : k < ds.length := by
      have hlt : (k : Int) < (ds.length : Int) := hlt
      omega
    obtain ⟨g0, o, rfl, hra⟩ := Sl.at_ hc ha1 ha2 ha3 (by omega)
    obtain ⟨cs, r1, hR1⟩ := deed_at hra hR k hkl rfl
    obtain ⟨d, hd⟩ : ∃ d, d = ds[k] := ⟨_, rfl⟩
    have htk : treeRow treeNew (ds.take (k + 1)) = treeApply (treeRow treeNew (ds.take k)) d := by
      rw [List.take_succ_eq_append_getElem hkl, row_append, ← hd]; rfl
    rw [← hd] at hR1
    have hAs : Aside Ak A O := ⟨hsub, fun j o hj hO => by rw [hown j hO] at hj; cases hj⟩
    obtain ⟨⟨zxid, kind, ses, turn, xid, dtime, path, data, owner, ver, cver, tmo, err, cfg, mem⟩, parts⟩ := d
    have hR0 := hR1
    rw [DeedR] at hR1
    dsimp only [DeedH.cells] at hR1
    obtain ⟨vd, vm, vp, rws, rfl, -, hd1, hM, hSp, hlen2, hRows⟩ := hR1
    obtain ⟨a7, k7, rfl⟩ := hd1.1.form
    obtain ⟨a14, k14, rfl⟩ := hM.1.form
    obtain ⟨a15, k15, rfl⟩ := hSp.form
    have i0 : (0 : Int) ≤ (k : Int) ∧ (k : Int) < (ds.length : Int) := by omega
    have r2 := rd_sub hsub r1
    repeat (first | refine go_in i0 ?_ | refine go_rd r2 ?_
            conv => lhs; whnf)
    obtain ⟨dd, hdd⟩ : ∃ dd : DeedD, dd = .mk ⟨zxid, kind, ses, turn, xid, dtime, path, data, owner, ver, cver, tmo, err, cfg, mem⟩ parts := ⟨_, rfl⟩
    rw [← hdd] at hR0 htk
    refine (hD _).2 ⟨(⟨treeRow treeNew (ds.take k), B, O, t⟩, dd, A), ⟨_, rfl, hT, hR0, hHas, hAs⟩, fun v A4 hq => ?_⟩
    obtain ⟨B4, O4, hT4, hS4⟩ : StepTo Ak B O t (treeApply (treeRow treeNew (ds.take k)) dd) A4 := hq
    have hnone : ∀ j, Ak.blk j = none → A.blk j = none := fun j hj => by
      cases h8 : A.blk j with
      | none => rfl
      | some o => rw [hsub j o h8] at hj; cases hj
    have hI : DoneI A ds t ⟨k + 1, A4, B4, O4⟩ := ⟨by show k + 1 ≤ ds.length; omega, (hAs.step hS4).1, by show TreeAt A4 B4 O4 t (treeRow treeNew (ds.take (k + 1))); rw [htk]; exact hT4, fun j hj => by
      rcases hS4.own j hj with h1 | h1
      · exact hown j h1
      · exact hnone j h1, fun j o hj => by
      rcases hS4.new j o hj with h1 | h1
      · exact hnew j o h1
      · exact hnone j h1⟩
    conv => lhs; whnf
    exact (hD _).2 ⟨(⟨k + 1, A4, B4, O4⟩ : DoG), ⟨hI, ⟨inc_slot (k := k) (by omega), trivial⟩, trivial, rfl⟩, by show ds.length - (k + 1) < ds.length - k; omega, ⟨rfl, rfl, trivial⟩, trivial⟩
  · have e : k = ds.length := by
      have hlt : ¬ (k : Int) < (ds.length : Int) := hlt
      omega
    subst e
    rw [List.take_length] at hT
    exact (hD _).2 ⟨hsub, t, B, O, rfl, hT, hown, hnew⟩

end
end Go.Proofs.YtabonbbfcfchmaaDoor
