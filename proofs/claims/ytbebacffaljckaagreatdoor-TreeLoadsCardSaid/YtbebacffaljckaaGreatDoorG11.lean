/-
  Contracts: has a deed what its kind may have? Are deeds parts? Is a deed right?
  Contracts: are deeds parts? Is a deed right?
  Contracts: bytes in a row of their own.
  Contracts: a parent is marked.
-/
import Derived.Test.YtbebacffaljckaaGreatDoorG08
import Derived.Test.YtbebacffaljckaaGreatDoorG09
import Derived.Test.YtbebacffaljckaaGreatDoorG10
import Derived.Test.YtbebacffaljckaaGreatDoorG06
namespace Go.Proofs.YtbebacffaljckaaGreatDoor
open Go.Sx Go.RowKit
noncomputable section
open Classical

set_option maxRecDepth 100000 in
set_option maxHeartbeats 0 in
theorem fits_ok : FOk Tryz.prog 44 fitsS := by
  refine fok_v mixed fun d vs A hp => ?_
  obtain ⟨cs, rfl, hR, hA⟩ : ∃ cs, vs = [deedV cs] ∧ DeedR A d cs ∧ HasA A := hp
  obtain ⟨⟨zxid, kind, ses, turn, xid, time, path, data, owner, ver, cver, tmo, err, cfg, mem⟩, parts⟩ := d
  rw [DeedR] at hR
  dsimp only [DeedH.cells] at hR
  obtain ⟨vd, vm, vp, rows, rfl, -, ⟨⟨a7, k7, rfl, -⟩, -⟩, ⟨⟨a14, k14, rfl, -⟩, -⟩, ⟨a15, k15, rfl, -⟩, -⟩ := hR
  refine ⟨C0, noL, 60, C0_sound, noL_sound _, ?_⟩
  by_cases hk : kind = 1 ∨ kind = 2 ∨ kind = 3 ∨ kind = 4 ∨ kind = 5 ∨ kind = 6 ∨ kind = 7 ∨ kind = 8 ∨ kind = 9
  · rcases hk with rfl | rfl | rfl | rfl | rfl | rfl | rfl | rfl | rfl
    · exact fitsK1 hA _ _ _ _ _ _ _ _ _ _ _ _ _ _ _ _ _ _ _ _ _
    · exact fitsK2 hA _ _ _ _ _ _ _ _ _ _ _ _ _ _ _ _ _ _ _ _ _
    · exact fitsK3 hA _ _ _ _ _ _ _ _ _ _ _ _ _ _ _ _ _ _ _ _ _
    · exact fitsK4 hA _ _ _ _ _ _ _ _ _ _ _ _ _ _ _ _ _ _ _ _ _
    · exact fitsK5 hA _ _ _ _ _ _ _ _ _ _ _ _ _ _ _ _ _ _ _ _ _
    · exact fitsK6 hA _ _ _ _ _ _ _ _ _ _ _ _ _ _ _ _ _ _ _ _ _
    · exact fitsK7 hA _ _ _ _ _ _ _ _ _ _ _ _ _ _ _ _ _ _ _ _ _
    · exact fitsK8 hA _ _ _ _ _ _ _ _ _ _ _ _ _ _ _ _ _ _ _ _ _
    · exact fitsK9 hA _ _ _ _ _ _ _ _ _ _ _ _ _ _ _ _ _ _ _ _ _
  · have bad : Value.bool false = .bool (decide (FitsD ⟨zxid, kind, ses, turn, xid, time, path, data, owner, ver, cver, tmo, err, cfg, mem⟩ parts.length)) := by
      rw [decide_eq_false fun h => hk (by have := h.1; dsimp only at this; omega)]
    intro blk os out tape D hD
    conv => lhs; whnf
    refine split_dec (fun h1 => ?_) (fun h1 => ?_) <;> (conv => lhs; whnf)
    · exact (hD _).2 ⟨rfl, bad⟩
    refine split_dec (fun h2 => ?_) (fun h2 => ?_) <;> (conv => lhs; whnf)
    · exact (hD _).2 ⟨rfl, bad⟩
    exact absurd (by omega) hk

end
end Go.Proofs.YtbebacffaljckaaGreatDoor

namespace Go.Proofs.YtbebacffaljckaaGreatDoor
open Go.Sx Go.RowKit
noncomputable section
open Classical

/-- May a deed be a part? -/
def PartD (last : Int) (p : DeedD) : Prop :=
  p.h.zxid = 0 ∧ p.h.ses = 0 ∧ p.h.turn = 0 ∧ p.h.xid = 0 ∧ p.h.time = 0 ∧ FitsD p.h p.parts.length ∧ p.h.kind ≤ last ∧ (last = 2 → p.h.kind = 2)

def PartsD (ds : List DeedD) (least most last : Int) : Prop := least ≤ ds.length ∧ (ds.length : Int) ≤ most ∧ ∀ p ∈ ds, PartD last p

def partsS : FSpec := ⟨List DeedD × Int × Int × Int, fun g vs A => ∃ v, vs = [v, .int .i64 g.2.1, .int .i64 g.2.2.1, .int .u8 g.2.2.2] ∧ DeedsS A v g.1 ∧ HasA A, fun g _ A v A' => A' = A ∧ v = .bool (decide (PartsD g.1 g.2.1 g.2.2.1 g.2.2.2))⟩

def partsInv (A : Arena) (ds : List DeedD) (last : Int) : LInv := { γ := Nat, G := fun k => k ≤ ds.length ∧ ∀ p ∈ ds.take k, PartD last p, keepS := [3, 21, 22], keepB := [], sl := fun k => [(23, .v (.int .i64 k))], bl := fun _ => [], ar := fun _ => A, mu := fun k => ds.length - k }

set_option maxRecDepth 100000 in
set_option maxHeartbeats 0 in
theorem parts_ok : FOk Tryz.prog 45 partsS := by
  refine fok_v mixed fun ⟨ds, least, most, last⟩ vs A hp => ?_
  obtain ⟨v, rfl, ⟨rows, ⟨ao, c, rfl, hc, hl, ha1, ha2, ha3⟩, hsz, hR⟩, hA⟩ : ∃ v, vs = [v, .int .i64 least, .int .i64 most, .int .u8 last] ∧ DeedsS A v ds ∧ HasA A := hp
  have hC : CTSound Tryz.prog (lookC [specE 44 fitsS] noC) := lookC_sound (noC_sound _) (fun x hx => by
    simp only [List.mem_singleton] at hx
    subst hx; exact specE_ok fits_ok)
  refine ⟨_, tabO Tryz.prog _ noL 60 [(45, 0)], 60, hC, tabO_sound mixed hC (noL_sound _) _ _, fun blk os out tape D hD => ?_⟩
  have bad : ¬ PartsD ds least most last → Value.bool false = .bool (decide (PartsD ds least most last)) := fun h => by rw [decide_eq_false h]
  conv => lhs; whnf
  refine split_dec (fun h1 => ?_) (fun h1 => ?_) <;> (conv => lhs; whnf)
  · have h1 : (ds.length : Int) < least := h1
    exact (hD _).2 ⟨rfl, bad fun h => by have := h.1; omega⟩
  have h1 : ¬ (ds.length : Int) < least := h1
  refine split_dec (fun h2 => ?_) (fun h2 => ?_) <;> (conv => lhs; whnf)
  · have h2 : most < (ds.length : Int) := h2
    exact (hD _).2 ⟨rfl, bad fun h => by have := h.2.1; omega⟩
  have h2 : ¬ most < (ds.length : Int) := h2
  refine (hD _).2 ⟨partsInv A ds last, ⟨(0 : Nat), ⟨Nat.zero_le _, by simp⟩, ⟨rfl, trivial⟩, trivial, rfl⟩, fun (k : Nat) hG => ⟨⟨trivial, trivial⟩, trivial, ?_⟩⟩
  obtain ⟨hk, hall⟩ : k ≤ ds.length ∧ ∀ p ∈ ds.take k, PartD last p := hG
  conv => lhs; whnf
  refine split_dec (fun hlt => ?_) (fun hlt => ?_)
  · have hlt : (k : Int) < ds.length := hlt
    have hkn : k < ds.length := by omega
    obtain ⟨g, o, rfl, hra⟩ := Sl.at_ hc ha1 ha2 ha3 (by omega)
    obtain ⟨cs, hcs, hd⟩ := deed_at hra hR k hkn rfl
    conv => lhs; whnf
    refine go_in ⟨by omega, hlt⟩ ?_
    conv => lhs; whnf
    have hbad : ¬ PartD last ds[k] → ¬ PartsD ds least most last := fun h hp => h (hp.2.2 _ (List.getElem_mem hkn))
    have hgood : PartD last ds[k] → ∀ p ∈ ds.take (k + 1), PartD last p := fun h p hp => by
      rw [List.take_succ_eq_append_getElem hkn, List.mem_append] at hp
      rcases hp with hp | hp
      · exact hall p hp
      · rw [List.mem_singleton] at hp
        subst hp; exact h
    generalize ds[k] = d at hd hbad hgood
    obtain ⟨⟨zxid, kind, ses, turn, xid, time, path, data, owner, ver, cver, tmo, err, cfg, mem⟩, parts⟩ := d
    obtain ⟨a7, l7, k7, a14, l14, k14, a15, l15, k15, rfl⟩ := hd.form
    dsimp only [DeedD.h, DeedH.cells] at hcs hd
    simp only [PartD, DeedD.h, DeedD.parts] at hbad hgood
    refine go_rd hcs ?_
    conv => lhs; whnf
    refine split_b (fun h => ?_) (fun h3 => ?_) <;> (conv => lhs; whnf)
    · simp at h; exact (hD _).2 ⟨rfl, bad (hbad fun hP => by omega)⟩
    refine split_b (fun h => ?_) (fun h4 => ?_) <;> (conv => lhs; whnf)
    · simp at h; exact (hD _).2 ⟨rfl, bad (hbad fun hP => by omega)⟩
    refine split_b (fun h => ?_) (fun h5 => ?_) <;> (conv => lhs; whnf)
    · simp at h; exact (hD _).2 ⟨rfl, bad (hbad fun hP => by omega)⟩
    refine split_b (fun h => ?_) (fun h6 => ?_) <;> (conv => lhs; whnf)
    · simp at h; exact (hD _).2 ⟨rfl, bad (hbad fun hP => by omega)⟩
    refine split_b (fun h => ?_) (fun h7 => ?_) <;> (conv => lhs; whnf)
    · simp at h; exact (hD _).2 ⟨rfl, bad (hbad fun hP => by omega)⟩
    refine (hD _).2 ⟨_, ⟨_, rfl, hd, hA⟩, fun v A' hq => ?_⟩
    obtain ⟨rfl, rfl⟩ : A' = A ∧ v = .bool (decide (FitsD ⟨zxid, kind, ses, turn, xid, time, path, data, owner, ver, cver, tmo, err, cfg, mem⟩ parts.length)) := hq
    simp at h3 h4 h5 h6 h7
    conv => lhs; whnf
    refine split_nd (fun h8 => ?_) (fun h8 => ?_) <;> (conv => lhs; whnf)
    rotate_left
    · exact (hD _).2 ⟨rfl, bad (hbad fun hP => h8 hP.2.2.2.2.2.1)⟩
    refine split_dec (fun h9 => ?_) (fun h9 => ?_) <;> (conv => lhs; whnf)
    · exact (hD _).2 ⟨rfl, bad (hbad fun hP => by omega)⟩
    refine split_dec (fun h10 => ?_) (fun h10 => ?_) <;> (conv => lhs; whnf)
    · refine split_b (fun h => ?_) (fun h => ?_) <;> (conv => lhs; whnf)
      · simp at h
        exact (hD _).2 ⟨rfl, bad (hbad fun hP => by omega)⟩
      · simp at h
        exact (hD _).2 ⟨(k + 1 : Nat), ⟨⟨by omega, hgood ⟨h3, h4, h5, h6, h7, h8, by omega, fun _ => by omega⟩⟩, ⟨inc_slot (by omega), trivial⟩, trivial, rfl⟩, by show ds.length - (k + 1) < ds.length - k; omega, ⟨rfl, rfl, rfl, trivial⟩, trivial⟩
    · refine (hD _).2 ⟨(k + 1 : Nat), ⟨⟨by omega, hgood ⟨h3, h4, h5, h6, h7, h8, by omega, fun h => absurd h h10⟩⟩, ⟨inc_slot (by omega), trivial⟩, trivial, rfl⟩, by show ds.length - (k + 1) < ds.length - k; omega, ⟨rfl, rfl, rfl, trivial⟩, trivial⟩
  · have hlt : ¬ (k : Int) < ds.length := hlt
    conv => lhs; whnf
    refine (hD _).2 ⟨rfl, ?_⟩
    have hkn : k = ds.length := by omega
    rw [hkn, List.take_length] at hall
    have h9 : PartsD ds least most last := ⟨by omega, by omega, hall⟩
    show Value.bool true = .bool (decide (PartsD ds least most last))
    rw [decide_eq_true h9]

/-- Is a deed right? -/
def RightD (d : DeedD) : Prop :=
  1 ≤ d.h.zxid ∧ d.h.zxid / 4294967296 ≤ 1073741824 ∧ 0 ≤ d.h.ses ∧ 0 ≤ d.h.turn ∧ 0 ≤ d.h.xid ∧ 0 ≤ d.h.time ∧ FitsD d.h d.parts.length ∧
  (d.h.kind = 5 → PartsD d.parts 0 500 2) ∧ (d.h.kind = 7 → ensD d.h.cfg d.h.mem = 0 ∧ d.h.cfg = d.h.zxid) ∧ (d.h.kind = 8 → PartsD d.parts 1 16 3)

def rightS : FSpec := ⟨DeedD, fun d vs A => ∃ cs, vs = [deedV cs] ∧ DeedR A d cs ∧ HasA A, fun d _ A v A' => A' = A ∧ v = .bool (decide (RightD d))⟩

set_option maxRecDepth 100000 in
set_option maxHeartbeats 0 in
theorem right_ok : FOk Tryz.prog 22 rightS := by
  refine fok_v mixed fun d vs A hp => ?_
  obtain ⟨cs, rfl, hR, hA⟩ : ∃ cs, vs = [deedV cs] ∧ DeedR A d cs ∧ HasA A := hp
  have hC : CTSound Tryz.prog (lookC [specE 44 fitsS, specE 45 partsS, specE 46 ensS] noC) := lookC_sound (noC_sound _) (fun x hx => by
    simp only [List.mem_cons, List.not_mem_nil, or_false] at hx
    rcases hx with rfl | rfl | rfl
    · exact specE_ok fits_ok
    · exact specE_ok parts_ok
    · exact specE_ok ens_ok)
  refine ⟨_, noL, 60, hC, noL_sound _, fun blk os out tape D hD => ?_⟩
  have hR0 := hR
  obtain ⟨⟨zxid, kind, ses, turn, xid, time, path, data, owner, ver, cver, tmo, err, cfg, mem⟩, parts⟩ := d
  rw [DeedR] at hR
  dsimp only [DeedH.cells] at hR
  obtain ⟨vd, vm, vp, rows, rfl, -, ⟨⟨a7, k7, rfl, -⟩, -⟩, hM, hS, hlen, hRows⟩ := hR
  obtain ⟨a14, k14, rfl⟩ := hM.1.form
  obtain ⟨a15, k15, rfl⟩ := hS.form
  have bad : ¬ RightD (.mk ⟨zxid, kind, ses, turn, xid, time, path, data, owner, ver, cver, tmo, err, cfg, mem⟩ parts) → Value.bool false = .bool (decide (RightD (.mk ⟨zxid, kind, ses, turn, xid, time, path, data, owner, ver, cver, tmo, err, cfg, mem⟩ parts))) := fun h => by rw [decide_eq_false h]
  have fin : ∀ {b : Bool}, (b = true ↔ RightD (.mk ⟨zxid, kind, ses, turn, xid, time, path, data, owner, ver, cver, tmo, err, cfg, mem⟩ parts)) → Value.bool b = .bool (decide (RightD (.mk ⟨zxid, kind, ses, turn, xid, time, path, data, owner, ver, cver, tmo, err, cfg, mem⟩ parts))) := fun {b} h => by
    congr 1
    rw [Bool.eq_iff_iff, decide_eq_true_eq]
    exact h
  simp only [RightD, DeedD.h, DeedD.parts] at bad fin
  conv => lhs; whnf
  refine split_dec (fun h1 => ?_) (fun h1 => ?_) <;> (conv => lhs; whnf)
  · exact (hD _).2 ⟨rfl, bad fun h => by omega⟩
  have hz : zxid.fdiv (2 ^ min (Int.toNat 32) IntKind.i64.bits) = zxid / 4294967296 := by
    show zxid.fdiv 4294967296 = _
    rw [Int.fdiv_eq_ediv_of_nonneg _ (by decide)]
  refine split_dec (fun h2 => ?_) (fun h2 => ?_) <;> (conv => lhs; whnf)
  rotate_left
  · exact (hD _).2 ⟨rfl, bad fun h => by omega⟩
  refine split_nd (fun h3 => ?_) (fun h3 => ?_) <;> (conv => lhs; whnf)
  rotate_left
  · rw [hz] at h3
    exact (hD _).2 ⟨rfl, bad fun h => by omega⟩
  rw [hz] at h3
  refine split_dec (fun h4 => ?_) (fun h4 => ?_) <;> (conv => lhs; whnf)
  · exact (hD _).2 ⟨rfl, bad fun h => by omega⟩
  refine split_dec (fun h5 => ?_) (fun h5 => ?_) <;> (conv => lhs; whnf)
  · exact (hD _).2 ⟨rfl, bad fun h => by omega⟩
  refine split_dec (fun h6 => ?_) (fun h6 => ?_) <;> (conv => lhs; whnf)
  · exact (hD _).2 ⟨rfl, bad fun h => by omega⟩
  refine split_dec (fun h7 => ?_) (fun h7 => ?_) <;> (conv => lhs; whnf)
  · exact (hD _).2 ⟨rfl, bad fun h => by omega⟩
  refine (hD _).2 ⟨_, ⟨_, rfl, hR0, hA⟩, fun v A' hq => ?_⟩
  obtain ⟨rfl, rfl⟩ : A' = A ∧ v = .bool (decide (FitsD ⟨zxid, kind, ses, turn, xid, time, path, data, owner, ver, cver, tmo, err, cfg, mem⟩ parts.length)) := hq
  conv => lhs; whnf
  refine split_nd (fun h8 => ?_) (fun h8 => ?_) <;> (conv => lhs; whnf)
  rotate_left
  · exact (hD _).2 ⟨rfl, bad fun h => h8 h.2.2.2.2.2.2.1⟩
  refine split_dec (fun h9 => ?_) (fun h9 => ?_) <;> (conv => lhs; whnf)
  · refine (hD _).2 ⟨(parts, 0, 500, 2), ⟨_, rfl, ⟨rows, hS, hlen, hRows⟩, hA⟩, fun v A'' hq => ?_⟩
    obtain ⟨rfl, rfl⟩ : A'' = A' ∧ v = .bool (decide (PartsD parts 0 500 2)) := hq
    conv => lhs; whnf
    exact (hD _).2 ⟨rfl, fin (by
      rw [decide_eq_true_eq]
      exact ⟨fun h => ⟨by omega, by omega, by omega, by omega, by omega, by omega, h8, fun _ => h, fun h => by omega, fun h => by omega⟩, fun h => h.2.2.2.2.2.2.2.1 h9⟩)⟩
  refine split_dec (fun h10 => ?_) (fun h10 => ?_) <;> (conv => lhs; whnf)
  · refine (hD _).2 ⟨(cfg, mem), ⟨_, rfl, hM⟩, fun v A'' hq => ?_⟩
    obtain ⟨rfl, rfl⟩ : A'' = A' ∧ v = .int .i64 (ensD cfg mem) := hq
    conv => lhs; whnf
    refine split_dec (fun h11 => ?_) (fun h11 => ?_) <;> (conv => lhs; whnf)
    · exact (hD _).2 ⟨rfl, fin (by
        rw [cond_true, decide_eq_true_eq]
        exact ⟨fun h => ⟨by omega, by omega, by omega, by omega, by omega, by omega, h8, fun h => by omega, fun _ => ⟨h11, h⟩, fun h => by omega⟩, fun h => (h.2.2.2.2.2.2.2.2.1 h10).2⟩)⟩
    · exact (hD _).2 ⟨rfl, bad fun h => h11 (h.2.2.2.2.2.2.2.2.1 h10).1⟩
  refine split_dec (fun h12 => ?_) (fun h12 => ?_) <;> (conv => lhs; whnf)
  · refine (hD _).2 ⟨(parts, 1, 16, 3), ⟨_, rfl, ⟨rows, hS, hlen, hRows⟩, hA⟩, fun v A'' hq => ?_⟩
    obtain ⟨rfl, rfl⟩ : A'' = A' ∧ v = .bool (decide (PartsD parts 1 16 3)) := hq
    conv => lhs; whnf
    exact (hD _).2 ⟨rfl, fin (by
      rw [decide_eq_true_eq]
      exact ⟨fun h => ⟨by omega, by omega, by omega, by omega, by omega, by omega, h8, fun h => by omega, fun h => by omega, fun _ => h⟩, fun h => h.2.2.2.2.2.2.2.2.2 h12⟩)⟩
  · exact (hD _).2 ⟨rfl, fin (iff_of_true rfl ⟨by omega, by omega, by omega, by omega, by omega, by omega, h8, fun h => by omega, fun h => by omega, fun h => by omega⟩)⟩

end
end Go.Proofs.YtbebacffaljckaaGreatDoor

namespace Go.Proofs.YtbebacffaljckaaGreatDoor
open Go.Sx Go.RowKit
noncomputable section
open Classical

def cloneBytesS : FSpec := ⟨List UInt8, fun g vs A => ∃ x, vs = [x] ∧ SlB A x g, fun g _ A v A' => A.Sub A' ∧ SlB (A'.minus A) v g⟩

theorem nextcap0 {n : Nat} (h : 0 < 0 + n) : Builtin.nextslicecap (0 + n) 0 = n := by
  unfold Builtin.nextslicecap
  rw [if_pos (by omega)]; omega

set_option maxRecDepth 100000 in
set_option maxHeartbeats 0 in
theorem cloneBytes_ok : FOk Tryz.prog 30 cloneBytesS := by
  refine fok_v mixed fun bs vs A hp => ?_
  simp only [cloneBytesS] at hp
  obtain ⟨x, rfl, ⟨ao, c, rfl, hc, hl, ha1, ha2, ha3⟩, hxl⟩ := hp
  refine ⟨noC, noL, 60, noC_sound _, noL_sound _, fun blk os out tape D hD => ?_⟩
  conv => lhs; whnf
  refine split_b (fun hb => ?_) (fun hb => ?_) <;> (conv => lhs; whnf)
  · have h0 : ao = none := by simpa using hb
    have h1 := ha1 h0
    have h2 : bs = [] := List.length_eq_zero_iff.1 (by omega)
    subst h2
    exact (hD _).2 ⟨Arena.Sub.refl _, Sl.nil _ _, by simp⟩
  · have h0 : ∃ a, ao = some a := by cases ao with
      | none => simp at hb
      | some a => exact ⟨a, rfl⟩
    obtain ⟨⟨g, o, sp⟩, rfl⟩ := h0
    have hsp : sp = none ∨ bs.length = 0 := by
      rcases Nat.eq_zero_or_pos c with h | h
      · right; omega
      · left; exact ha2 _ rfl h
    rcases sp with _ | sp
    all_goals
      refine (hD _).2 fun g1 A1 hN => ?_
      conv => lhs; whnf
      refine (hD _).2 ⟨[], bs.map bv, rfl, ?_, hl, ?_, by omega, ?_, rfl, fun h => (by cases h), fun _ _ _ h1 h2 => ?_, fun v A2 hA => ?_⟩
      · first
        | (show (if bs.length = 0 then some [] else A1.rd g o (bs.length * 1)) = _
           by_cases h0 : bs.length = 0
           · rw [if_pos h0, List.length_eq_zero_iff.1 h0]; rfl
           · rw [if_neg h0]; exact rd_sub hN.sub (ha3 (by omega) _ rfl))
        | (have h9 : bs.length = 0 := hsp.resolve_left (by simp)
           show (if bs.length = 0 then some [] else none) = _
           (rw [if_pos h9, List.length_eq_zero_iff.1 h9]; rfl))
      · intro v hv
        obtain ⟨b, _, rfl⟩ := List.mem_map.1 hv; rfl
      · intro h0
        rw [nextcap0 h0]
        show bs.length * 1 ≤ _
        omega
      · exfalso
        have : bs.length = 0 := by omega
        exact h2 (by rw [List.length_eq_zero_iff.1 this]; rfl)
      · obtain ⟨k1, k2⟩ := clone_end hN.sub hA hl
        conv => lhs; whnf
        exact (hD _).2 ⟨k1, k2, hxl⟩

end
end Go.Proofs.YtbebacffaljckaaGreatDoor

namespace Go.Proofs.YtbebacffaljckaaGreatDoor
open Go.Sx Go.RowKit
noncomputable section
open Classical

/-- A tree behind a change. -/
def StepTo (A B : Arena) (O : Nat → Prop) (t : Nat) (T' : TreeD) (A' : Arena) : Prop := ∃ B' O', TreeAt A' B' O' t T' ∧ Step A B O A' B' O'

def nodeMark (z cv : Int) (n : NodeD) : NodeD := ⟨n.data, { n.stat with cver := cv, pzxid := z }⟩

def treeMark (T : TreeD) (p : ByteArray) (z cv : Int) : TreeD := ⟨kMod (parentP p) (nodeMark z cv) T.nodes, T.seats⟩

structure TG where
  T : TreeD
  B : Arena
  O : Nat → Prop
  t : Nat

def markS : FSpec := ⟨TG × ByteArray × Int × Int, fun g vs A => vs = [.pointer (some ⟨g.1.t, 0, none⟩), .string g.2.1, .int .i64 g.2.2.1, .int .i64 g.2.2.2] ∧ TreeAt A g.1.B g.1.O g.1.t g.1.T,
  fun g _ A _ A' => StepTo A g.1.B g.1.O g.1.t (treeMark g.1.T g.2.1 g.2.2.1 g.2.2.2) A'⟩

theorem parentC : CTSound Tryz.prog (lookC [specE 38 parentS] noC) := lookC_sound (noC_sound _) (fun x hx => by
  simp only [List.mem_singleton] at hx
  subst hx; exact specE_ok parent_ok)

set_option maxRecDepth 100000 in
set_option maxHeartbeats 0 in
theorem mark_ok : FOk Tryz.prog 47 markS := by
  refine fok_v mixed fun ⟨⟨T, B, O, t⟩, p, z, cv⟩ vs A hp => ?_
  obtain ⟨rfl, m, s, E, h⟩ : vs = [.pointer (some ⟨t, 0, none⟩), .string p, .int .i64 z, .int .i64 cv] ∧ TreeAt A B O t T := hp
  refine ⟨_, noL, 60, parentC, noL_sound _, fun blk os out tape D hD => ?_⟩
  conv => lhs; whnf
  have htop : A.rd t 0 1 = some [.map (some m)] := h.top.rd (o := 0) (n := 1) (by show 0 + 1 ≤ 2; omega)
  refine go_rd htop ?_
  conv => lhs; whnf
  refine (hD _).2 ⟨p, rfl, fun v A' hq => ?_⟩
  obtain ⟨rfl, rfl⟩ : A' = A ∧ v = .string (parentP p) := hq
  conv => lhs; whnf
  repeat (first | refine go_rd htop ?_ | refine go_D hD rfl ?_
          conv => lhs; whnf)
  refine go_lk (h.look (parentP p)) ?_
  have stop : kGet (parentP p) E = none → StepTo A' B O t (treeMark T p z cv) A' := fun hp => by
    refine ⟨B, O, ⟨m, s, E, ?_⟩, Step.refl _ _ _⟩
    have : treeMark T p z cv = T := by rw [treeMark, kMod_none (by rw [h.get, hp]; rfl)]
    rw [this]; exact h
  cases hp : kGet (parentP p) E with
  | none =>
    conv => lhs; whnf
    exact (hD _).2 (stop hp)
  | some x =>
    obtain ⟨g, n⟩ := x
    have hmem := kGet_mem (bytes_key _) hp
    obtain ⟨w, hc, hs⟩ := h.cells _ hmem
    conv => lhs; whnf
    refine (hD _).2 ⟨hc.room (o := 7) (n := 1) (by show 7 + 1 ≤ 11; omega), fun A1 hP1 => ?_⟩
    have hP1 : A'.Put A1 g 7 [.int .i64 cv] := hP1
    have hc1 : CellsAt A1 g (w :: ({ n.stat with cver := cv } : StatD).cells) := hc.put hP1 (by show 7 + 1 ≤ 11; omega)
    conv => lhs; whnf
    refine (hD _).2 ⟨hc1.room (o := 3) (n := 1) (by show 3 + 1 ≤ 11; omega), fun A2 hP2 => ?_⟩
    have hP2 : A1.Put A2 g 3 [.int .i64 z] := hP2
    have hc2 : CellsAt A2 g (w :: ({ n.stat with cver := cv, pzxid := z } : StatD).cells) := hc1.put hP2 (by show 3 + 1 ≤ 11; omega)
    conv => lhs; whnf
    have hOg := h.own.2.2.2 _ hmem
    have hother : ∀ k, k ≠ g → A2.blk k = A'.blk k := fun k hk => by rw [hP2.other k hk, hP1.other k hk]
    have hB : B.Sub A2 := fun k o hk => by rw [hother k fun e => by subst e; rw [h.off _ hOg] at hk; cases hk]; exact h.sub k o hk
    have hd : ∀ k, A2.blk k = none → A'.blk k = none := fun k hk => (hP1.dom k).1 ((hP2.dom k).1 hk)
    have e : kMod (parentP p) (fun _ => nodeMark z cv n) T.nodes = kMod (parentP p) (nodeMark z cv) T.nodes := kMod_at (by rw [h.get, hp]; rfl)
    have hR := h.mod (n' := nodeMark z cv n) hp (fun k _ hk => hother k hk) ⟨w, hc2, hs⟩ (Arena.Sub.refl _) hB h.off
    rw [e] at hR
    have hend : StepTo A' B O t (treeMark T p z cv) A2 := ⟨B, O, ⟨m, s, _, hR⟩, ⟨fun k o hk hO => by rw [hother k fun e => hO (e ▸ hOg)]; exact hk, hd, fun _ hk => .inl hk, Arena.Sub.refl _, fun _ _ hk => .inl hk⟩⟩
    exact (hD _).2 hend

end
end Go.Proofs.YtbebacffaljckaaGreatDoor
