/-
  Contracts: has a deed what its kind may have? Are deeds parts? Is a deed right?
  Contracts: are deeds parts? Is a deed right?
  Contracts: bytes in a row of their own.
  Contracts: a parent is marked.
  Contracts: a tree does a create, a delete, a set.
  Contracts: a tree does a deed.
  What deeds leave in a tree: its paths are right, it grows by so much.
  Contracts: path.Base.
  Rows of texts.
  Contracts: slices.Sort at strings, by the kit's law of it over any program.
  Contracts: strings.HasPrefix.
  Rows that a loop makes by append.
  Contracts: the names of a node's children.
  Contracts: a new tree; a node as it is told; a node got.
-/
import Derived.Test.YtfpfjobknefedaaGreatDoorG08
import Derived.Test.YtfpfjobknefedaaGreatDoorG09
import Derived.Test.YtfpfjobknefedaaGreatDoorG10
import Derived.Test.YtfpfjobknefedaaGreatDoorG07
import Derived.Shelf.Sort.Plain
import Derived.Shelf.Slices.In.SortNone
import Derived.Sort.KeysCollected
namespace Go.Proofs.YtfpfjobknefedaaGreatDoor
open Go.Sx Go.RowKit
noncomputable section
open Classical

set_option maxRecDepth 100000 in
set_option maxHeartbeats 0 in
theorem fits_ok : FOk Tryz.prog 46 fitsS := by
  refine fok_v mixed fun d vs A hp => ?_
  obtain ⟨cs, rfl, hR, hA⟩ : ∃ cs, vs = [deedV cs] ∧ DeedR A d cs ∧ HasA A := hp
  obtain ⟨⟨zxid, kind, ses, turn, xid, time, path, data, owner, ver, cver, tmo, err, cfg, mem⟩, parts⟩ := d
  rw [DeedR] at hR
  dsimp only [DeedH.cells] at hR
  obtain ⟨vd, vm, vp, rows, rfl, -, ⟨⟨a7, k7, rfl, -⟩, -⟩, ⟨⟨a14, k14, rfl, -⟩, -⟩, ⟨a15, k15, rfl, -⟩, -⟩ := hR
  refine ⟨C0, noL, 60, C0_sound, noL_sound _, ?_⟩
  by_cases hk : kind = 1 ∨ kind = 2 ∨ kind = 3 ∨ kind = 4 ∨ kind = 5 ∨ kind = 6 ∨ kind = 7 ∨ kind = 8 ∨ kind = 9
  · rcases hk with rfl | rfl | rfl | rfl | rfl | rfl | rfl | rfl | rfl
    · exact fitsK1 hA _ _ _ _ _ _ _ _ _ _ _ _ _ _ _ _ _ _ _ _ _
    · exact fitsK2 hA _ _ _ _ _ _ _ _ _ _ _ _ _ _ _ _ _ _ _ _ _
    · exact fitsK3 hA _ _ _ _ _ _ _ _ _ _ _ _ _ _ _ _ _ _ _ _ _
    · exact fitsK4 hA _ _ _ _ _ _ _ _ _ _ _ _ _ _ _ _ _ _ _ _ _
    · exact fitsK5 hA _ _ _ _ _ _ _ _ _ _ _ _ _ _ _ _ _ _ _ _ _
    · exact fitsK6 hA _ _ _ _ _ _ _ _ _ _ _ _ _ _ _ _ _ _ _ _ _
    · exact fitsK7 hA _ _ _ _ _ _ _ _ _ _ _ _ _ _ _ _ _ _ _ _ _
    · exact fitsK8 hA _ _ _ _ _ _ _ _ _ _ _ _ _ _ _ _ _ _ _ _ _
    · exact fitsK9 hA _ _ _ _ _ _ _ _ _ _ _ _ _ _ _ _ _ _ _ _ _
  · have bad : Value.bool false = .bool (decide (FitsD ⟨zxid, kind, ses, turn, xid, time, path, data, owner, ver, cver, tmo, err, cfg, mem⟩ parts.length)) := by
      rw [decide_eq_false fun h => hk (by have := h.1; dsimp only at this; omega)]
    intro blk os out tape D hD
    conv => lhs; whnf
    refine split_dec (fun h1 => ?_) (fun h1 => ?_) <;> (conv => lhs; whnf)
    · exact (hD _).2 ⟨rfl, bad⟩
    refine split_dec (fun h2 => ?_) (fun h2 => ?_) <;> (conv => lhs; whnf)
    · exact (hD _).2 ⟨rfl, bad⟩
    exact absurd (by omega) hk

end
end Go.Proofs.YtfpfjobknefedaaGreatDoor

namespace Go.Proofs.YtfpfjobknefedaaGreatDoor
open Go.Sx Go.RowKit
noncomputable section
open Classical

/-- May a deed be a part? -/
def PartD (last : Int) (p : DeedD) : Prop :=
  p.h.zxid = 0 ∧ p.h.ses = 0 ∧ p.h.turn = 0 ∧ p.h.xid = 0 ∧ p.h.time = 0 ∧ FitsD p.h p.parts.length ∧ p.h.kind ≤ last ∧ (last = 2 → p.h.kind = 2)

def PartsD (ds : List DeedD) (least most last : Int) : Prop := least ≤ ds.length ∧ (ds.length : Int) ≤ most ∧ ∀ p ∈ ds, PartD last p

def partsS : FSpec := ⟨List DeedD × Int × Int × Int, fun g vs A => ∃ v, vs = [v, .int .i64 g.2.1, .int .i64 g.2.2.1, .int .u8 g.2.2.2] ∧ DeedsS A v g.1 ∧ HasA A, fun g _ A v A' => A' = A ∧ v = .bool (decide (PartsD g.1 g.2.1 g.2.2.1 g.2.2.2))⟩

def partsInv (A : Arena) (ds : List DeedD) (last : Int) : LInv := { γ := Nat, G := fun k => k ≤ ds.length ∧ ∀ p ∈ ds.take k, PartD last p, keepS := [3, 21, 22], keepB := [], sl := fun k => [(23, .v (.int .i64 k))], bl := fun _ => [], ar := fun _ => A, mu := fun k => ds.length - k }

set_option maxRecDepth 100000 in
set_option maxHeartbeats 0 in
theorem parts_ok : FOk Tryz.prog 47 partsS := by
  refine fok_v mixed fun ⟨ds, least, most, last⟩ vs A hp => ?_
  obtain ⟨v, rfl, ⟨rows, ⟨ao, c, rfl, hc, hl, ha1, ha2, ha3⟩, hsz, hR⟩, hA⟩ : ∃ v, vs = [v, .int .i64 least, .int .i64 most, .int .u8 last] ∧ DeedsS A v ds ∧ HasA A := hp
  have hC : CTSound Tryz.prog (lookC [specE 46 fitsS] noC) := lookC_sound (noC_sound _) (fun x hx => by
    simp only [List.mem_singleton] at hx
    subst hx; exact specE_ok fits_ok)
  refine ⟨_, tabO Tryz.prog _ noL 60 [(47, 0)], 60, hC, tabO_sound mixed hC (noL_sound _) _ _, fun blk os out tape D hD => ?_⟩
  have bad : ¬ PartsD ds least most last → Value.bool false = .bool (decide (PartsD ds least most last)) := fun h => by rw [decide_eq_false h]
  conv => lhs; whnf
  refine split_dec (fun h1 => ?_) (fun h1 => ?_) <;> (conv => lhs; whnf)
  · have h1 : (ds.length : Int) < least := h1
    exact (hD _).2 ⟨rfl, bad fun h => by have := h.1; omega⟩
  have h1 : ¬ (ds.length : Int) < least := h1
  refine split_dec (fun h2 => ?_) (fun h2 => ?_) <;> (conv => lhs; whnf)
  · have h2 : most < (ds.length : Int) := h2
    exact (hD _).2 ⟨rfl, bad fun h => by have := h.2.1; omega⟩
  have h2 : ¬ most < (ds.length : Int) := h2
  refine (hD _).2 ⟨partsInv A ds last, ⟨(0 : Nat), ⟨Nat.zero_le _, by simp⟩, ⟨rfl, trivial⟩, trivial, rfl⟩, fun (k : Nat) hG => ⟨⟨trivial, trivial⟩, trivial, ?_⟩⟩
  obtain ⟨hk, hall⟩ : k ≤ ds.length ∧ ∀ p ∈ ds.take k, PartD last p := hG
  conv => lhs; whnf
  refine split_dec (fun hlt => ?_) (fun hlt => ?_)
  · have hlt : (k : Int) < ds.length := hlt
    have hkn : k < ds.length := by omega
    obtain ⟨g, o, rfl, hra⟩ := Sl.at_ hc ha1 ha2 ha3 (by omega)
    obtain ⟨cs, hcs, hd⟩ := deed_at hra hR k hkn rfl
    conv => lhs; whnf
    refine go_in ⟨by omega, hlt⟩ ?_
    conv => lhs; whnf
    have hbad : ¬ PartD last ds[k] → ¬ PartsD ds least most last := fun h hp => h (hp.2.2 _ (List.getElem_mem hkn))
    have hgood : PartD last ds[k] → ∀ p ∈ ds.take (k + 1), PartD last p := fun h p hp => by
      rw [List.take_succ_eq_append_getElem hkn, List.mem_append] at hp
      rcases hp with hp | hp
      · exact hall p hp
      · rw [List.mem_singleton] at hp
        subst hp; exact h
    generalize ds[k] = d at hd hbad hgood
    obtain ⟨⟨zxid, kind, ses, turn, xid, time, path, data, owner, ver, cver, tmo, err, cfg, mem⟩, parts⟩ := d
    obtain ⟨a7, l7, k7, a14, l14, k14, a15, l15, k15, rfl⟩ := hd.form
    dsimp only [DeedD.h, DeedH.cells] at hcs hd
    simp only [PartD, DeedD.h, DeedD.parts] at hbad hgood
    refine go_rd hcs ?_
    conv => lhs; whnf
    refine split_b (fun h => ?_) (fun h3 => ?_) <;> (conv => lhs; whnf)
    · simp at h; exact (hD _).2 ⟨rfl, bad (hbad fun hP => by omega)⟩
    refine split_b (fun h => ?_) (fun h4 => ?_) <;> (conv => lhs; whnf)
    · simp at h; exact (hD _).2 ⟨rfl, bad (hbad fun hP => by omega)⟩
    refine split_b (fun h => ?_) (fun h5 => ?_) <;> (conv => lhs; whnf)
    · simp at h; exact (hD _).2 ⟨rfl, bad (hbad fun hP => by omega)⟩
    refine split_b (fun h => ?_) (fun h6 => ?_) <;> (conv => lhs; whnf)
    · simp at h; exact (hD _).2 ⟨rfl, bad (hbad fun hP => by omega)⟩
    refine split_b (fun h => ?_) (fun h7 => ?_) <;> (conv => lhs; whnf)
    · simp at h; exact (hD _).2 ⟨rfl, bad (hbad fun hP => by omega)⟩
    refine (hD _).2 ⟨_, ⟨_, rfl, hd, hA⟩, fun v A' hq => ?_⟩
    obtain ⟨rfl, rfl⟩ : A' = A ∧ v = .bool (decide (FitsD ⟨zxid, kind, ses, turn, xid, time, path, data, owner, ver, cver, tmo, err, cfg, mem⟩ parts.length)) := hq
    simp at h3 h4 h5 h6 h7
    conv => lhs; whnf
    refine split_nd (fun h8 => ?_) (fun h8 => ?_) <;> (conv => lhs; whnf)
    rotate_left
    · exact (hD _).2 ⟨rfl, bad (hbad fun hP => h8 hP.2.2.2.2.2.1)⟩
    refine split_dec (fun h9 => ?_) (fun h9 => ?_) <;> (conv => lhs; whnf)
    · exact (hD _).2 ⟨rfl, bad (hbad fun hP => by omega)⟩
    refine split_dec (fun h10 => ?_) (fun h10 => ?_) <;> (conv => lhs; whnf)
    · refine split_b (fun h => ?_) (fun h => ?_) <;> (conv => lhs; whnf)
      · simp at h
        exact (hD _).2 ⟨rfl, bad (hbad fun hP => by omega)⟩
      · simp at h
        exact (hD _).2 ⟨(k + 1 : Nat), ⟨⟨by omega, hgood ⟨h3, h4, h5, h6, h7, h8, by omega, fun _ => by omega⟩⟩, ⟨inc_slot (by omega), trivial⟩, trivial, rfl⟩, by show ds.length - (k + 1) < ds.length - k; omega, ⟨rfl, rfl, rfl, trivial⟩, trivial⟩
    · refine (hD _).2 ⟨(k + 1 : Nat), ⟨⟨by omega, hgood ⟨h3, h4, h5, h6, h7, h8, by omega, fun h => absurd h h10⟩⟩, ⟨inc_slot (by omega), trivial⟩, trivial, rfl⟩, by show ds.length - (k + 1) < ds.length - k; omega, ⟨rfl, rfl, rfl, trivial⟩, trivial⟩
  · have hlt : ¬ (k : Int) < ds.length := hlt
    conv => lhs; whnf
    refine (hD _).2 ⟨rfl, ?_⟩
    have hkn : k = ds.length := by omega
    rw [hkn, List.take_length] at hall
    have h9 : PartsD ds least most last := ⟨by omega, by omega, hall⟩
    show Value.bool true = .bool (decide (PartsD ds least most last))
    rw [decide_eq_true h9]

/-- Is a deed right? -/
def RightD (d : DeedD) : Prop :=
  1 ≤ d.h.zxid ∧ d.h.zxid / 4294967296 ≤ 1073741824 ∧ 0 ≤ d.h.ses ∧ 0 ≤ d.h.turn ∧ 0 ≤ d.h.xid ∧ 0 ≤ d.h.time ∧ FitsD d.h d.parts.length ∧
  (d.h.kind = 5 → PartsD d.parts 0 500 2) ∧ (d.h.kind = 7 → ensD d.h.cfg d.h.mem = 0 ∧ d.h.cfg = d.h.zxid) ∧ (d.h.kind = 8 → PartsD d.parts 1 16 3)

def rightS : FSpec := ⟨DeedD, fun d vs A => ∃ cs, vs = [deedV cs] ∧ DeedR A d cs ∧ HasA A, fun d _ A v A' => A' = A ∧ v = .bool (decide (RightD d))⟩

set_option maxRecDepth 100000 in
set_option maxHeartbeats 0 in
theorem right_ok : FOk Tryz.prog 27 rightS := by
  refine fok_v mixed fun d vs A hp => ?_
  obtain ⟨cs, rfl, hR, hA⟩ : ∃ cs, vs = [deedV cs] ∧ DeedR A d cs ∧ HasA A := hp
  have hC : CTSound Tryz.prog (lookC [specE 46 fitsS, specE 47 partsS, specE 48 ensS] noC) := lookC_sound (noC_sound _) (fun x hx => by
    simp only [List.mem_cons, List.not_mem_nil, or_false] at hx
    rcases hx with rfl | rfl | rfl
    · exact specE_ok fits_ok
    · exact specE_ok parts_ok
    · exact specE_ok ens_ok)
  refine ⟨_, noL, 60, hC, noL_sound _, fun blk os out tape D hD => ?_⟩
  have hR0 := hR
  obtain ⟨⟨zxid, kind, ses, turn, xid, time, path, data, owner, ver, cver, tmo, err, cfg, mem⟩, parts⟩ := d
  rw [DeedR] at hR
  dsimp only [DeedH.cells] at hR
  obtain ⟨vd, vm, vp, rows, rfl, -, ⟨⟨a7, k7, rfl, -⟩, -⟩, hM, hS, hlen, hRows⟩ := hR
  obtain ⟨a14, k14, rfl⟩ := hM.1.form
  obtain ⟨a15, k15, rfl⟩ := hS.form
  have bad : ¬ RightD (.mk ⟨zxid, kind, ses, turn, xid, time, path, data, owner, ver, cver, tmo, err, cfg, mem⟩ parts) → Value.bool false = .bool (decide (RightD (.mk ⟨zxid, kind, ses, turn, xid, time, path, data, owner, ver, cver, tmo, err, cfg, mem⟩ parts))) := fun h => by rw [decide_eq_false h]
  have fin : ∀ {b : Bool}, (b = true ↔ RightD (.mk ⟨zxid, kind, ses, turn, xid, time, path, data, owner, ver, cver, tmo, err, cfg, mem⟩ parts)) → Value.bool b = .bool (decide (RightD (.mk ⟨zxid, kind, ses, turn, xid, time, path, data, owner, ver, cver, tmo, err, cfg, mem⟩ parts))) := fun {b} h => by
    congr 1
    rw [Bool.eq_iff_iff, decide_eq_true_eq]
    exact h
  simp only [RightD, DeedD.h, DeedD.parts] at bad fin
  conv => lhs; whnf
  refine split_dec (fun h1 => ?_) (fun h1 => ?_) <;> (conv => lhs; whnf)
  · exact (hD _).2 ⟨rfl, bad fun h => by omega⟩
  have hz : zxid.fdiv (2 ^ min (Int.toNat 32) IntKind.i64.bits) = zxid / 4294967296 := by
    show zxid.fdiv 4294967296 = _
    rw [Int.fdiv_eq_ediv_of_nonneg _ (by decide)]
  refine split_dec (fun h2 => ?_) (fun h2 => ?_) <;> (conv => lhs; whnf)
  rotate_left
  · exact (hD _).2 ⟨rfl, bad fun h => by omega⟩
  refine split_nd (fun h3 => ?_) (fun h3 => ?_) <;> (conv => lhs; whnf)
  rotate_left
  · rw [hz] at h3
    exact (hD _).2 ⟨rfl, bad fun h => by omega⟩
  rw [hz] at h3
  refine split_dec (fun h4 => ?_) (fun h4 => ?_) <;> (conv => lhs; whnf)
  · exact (hD _).2 ⟨rfl, bad fun h => by omega⟩
  refine split_dec (fun h5 => ?_) (fun h5 => ?_) <;> (conv => lhs; whnf)
  · exact (hD _).2 ⟨rfl, bad fun h => by omega⟩
  refine split_dec (fun h6 => ?_) (fun h6 => ?_) <;> (conv => lhs; whnf)
  · exact (hD _).2 ⟨rfl, bad fun h => by omega⟩
  refine split_dec (fun h7 => ?_) (fun h7 => ?_) <;> (conv => lhs; whnf)
  · exact (hD _).2 ⟨rfl, bad fun h => by omega⟩
  refine (hD _).2 ⟨_, ⟨_, rfl, hR0, hA⟩, fun v A' hq => ?_⟩
  obtain ⟨rfl, rfl⟩ : A' = A ∧ v = .bool (decide (FitsD ⟨zxid, kind, ses, turn, xid, time, path, data, owner, ver, cver, tmo, err, cfg, mem⟩ parts.length)) := hq
  conv => lhs; whnf
  refine split_nd (fun h8 => ?_) (fun h8 => ?_) <;> (conv => lhs; whnf)
  rotate_left
  · exact (hD _).2 ⟨rfl, bad fun h => h8 h.2.2.2.2.2.2.1⟩
  refine split_dec (fun h9 => ?_) (fun h9 => ?_) <;> (conv => lhs; whnf)
  · refine (hD _).2 ⟨(parts, 0, 500, 2), ⟨_, rfl, ⟨rows, hS, hlen, hRows⟩, hA⟩, fun v A'' hq => ?_⟩
    obtain ⟨rfl, rfl⟩ : A'' = A' ∧ v = .bool (decide (PartsD parts 0 500 2)) := hq
    conv => lhs; whnf
    exact (hD _).2 ⟨rfl, fin (by
      rw [decide_eq_true_eq]
      exact ⟨fun h => ⟨by omega, by omega, by omega, by omega, by omega, by omega, h8, fun _ => h, fun h => by omega, fun h => by omega⟩, fun h => h.2.2.2.2.2.2.2.1 h9⟩)⟩
  refine split_dec (fun h10 => ?_) (fun h10 => ?_) <;> (conv => lhs; whnf)
  · refine (hD _).2 ⟨(cfg, mem), ⟨_, rfl, hM⟩, fun v A'' hq => ?_⟩
    obtain ⟨rfl, rfl⟩ : A'' = A' ∧ v = .int .i64 (ensD cfg mem) := hq
    conv => lhs; whnf
    refine split_dec (fun h11 => ?_) (fun h11 => ?_) <;> (conv => lhs; whnf)
    · exact (hD _).2 ⟨rfl, fin (by
        rw [cond_true, decide_eq_true_eq]
        exact ⟨fun h => ⟨by omega, by omega, by omega, by omega, by omega, by omega, h8, fun h => by omega, fun _ => ⟨h11, h⟩, fun h => by omega⟩, fun h => (h.2.2.2.2.2.2.2.2.1 h10).2⟩)⟩
    · exact (hD _).2 ⟨rfl, bad fun h => h11 (h.2.2.2.2.2.2.2.2.1 h10).1⟩
  refine split_dec (fun h12 => ?_) (fun h12 => ?_) <;> (conv => lhs; whnf)
  · refine (hD _).2 ⟨(parts, 1, 16, 3), ⟨_, rfl, ⟨rows, hS, hlen, hRows⟩, hA⟩, fun v A'' hq => ?_⟩
    obtain ⟨rfl, rfl⟩ : A'' = A' ∧ v = .bool (decide (PartsD parts 1 16 3)) := hq
    conv => lhs; whnf
    exact (hD _).2 ⟨rfl, fin (by
      rw [decide_eq_true_eq]
      exact ⟨fun h => ⟨by omega, by omega, by omega, by omega, by omega, by omega, h8, fun h => by omega, fun h => by omega, fun _ => h⟩, fun h => h.2.2.2.2.2.2.2.2.2 h12⟩)⟩
  · exact (hD _).2 ⟨rfl, fin (iff_of_true rfl ⟨by omega, by omega, by omega, by omega, by omega, by omega, h8, fun h => by omega, fun h => by omega, fun h => by omega⟩)⟩

end
end Go.Proofs.YtfpfjobknefedaaGreatDoor

namespace Go.Proofs.YtfpfjobknefedaaGreatDoor
open Go.Sx Go.RowKit
noncomputable section
open Classical

def cloneBytesS : FSpec := ⟨List UInt8, fun g vs A => ∃ x, vs = [x] ∧ SlB A x g, fun g _ A v A' => A.Sub A' ∧ SlB (A'.minus A) v g⟩

theorem nextcap0 {n : Nat} (h : 0 < 0 + n) : Builtin.nextslicecap (0 + n) 0 = n := by
  unfold Builtin.nextslicecap
  rw [if_pos (by omega)]; omega

set_option maxRecDepth 100000 in
set_option maxHeartbeats 0 in
theorem cloneBytes_ok : FOk Tryz.prog 30 cloneBytesS := by
  refine fok_v mixed fun bs vs A hp => ?_
  simp only [cloneBytesS] at hp
  obtain ⟨x, rfl, ⟨ao, c, rfl, hc, hl, ha1, ha2, ha3⟩, hxl⟩ := hp
  refine ⟨noC, noL, 60, noC_sound _, noL_sound _, fun blk os out tape D hD => ?_⟩
  conv => lhs; whnf
  refine split_b (fun hb => ?_) (fun hb => ?_) <;> (conv => lhs; whnf)
  · have h0 : ao = none := by simpa using hb
    have h1 := ha1 h0
    have h2 : bs = [] := List.length_eq_zero_iff.1 (by omega)
    subst h2
    exact (hD _).2 ⟨Arena.Sub.refl _, Sl.nil _ _, by simp⟩
  · have h0 : ∃ a, ao = some a := by cases ao with
      | none => simp at hb
      | some a => exact ⟨a, rfl⟩
    obtain ⟨⟨g, o, sp⟩, rfl⟩ := h0
    have hsp : sp = none ∨ bs.length = 0 := by
      rcases Nat.eq_zero_or_pos c with h | h
      · right; omega
      · left; exact ha2 _ rfl h
    rcases sp with _ | sp
    all_goals
      refine (hD _).2 fun g1 A1 hN => ?_
      conv => lhs; whnf
      refine (hD _).2 ⟨[], bs.map bv, rfl, ?_, hl, ?_, by omega, ?_, rfl, fun h => (by cases h), fun _ _ _ h1 h2 => ?_, fun v A2 hA => ?_⟩
      · first
        | (show (if bs.length = 0 then some [] else A1.rd g o (bs.length * 1)) = _
           by_cases h0 : bs.length = 0
           · rw [if_pos h0, List.length_eq_zero_iff.1 h0]; rfl
           · rw [if_neg h0]; exact rd_sub hN.sub (ha3 (by omega) _ rfl))
        | (have h9 : bs.length = 0 := hsp.resolve_left (by simp)
           show (if bs.length = 0 then some [] else none) = _
           (rw [if_pos h9, List.length_eq_zero_iff.1 h9]; rfl))
      · intro v hv
        obtain ⟨b, _, rfl⟩ := List.mem_map.1 hv; rfl
      · intro h0
        rw [nextcap0 h0]
        show bs.length * 1 ≤ _
        omega
      · exfalso
        have : bs.length = 0 := by omega
        exact h2 (by rw [List.length_eq_zero_iff.1 this]; rfl)
      · obtain ⟨k1, k2⟩ := clone_end hN.sub hA hl
        conv => lhs; whnf
        exact (hD _).2 ⟨k1, k2, hxl⟩

end
end Go.Proofs.YtfpfjobknefedaaGreatDoor

namespace Go.Proofs.YtfpfjobknefedaaGreatDoor
open Go.Sx Go.RowKit
noncomputable section
open Classical

/-- A tree behind a change. -/
def StepTo (A B : Arena) (O : Nat → Prop) (t : Nat) (T' : TreeD) (A' : Arena) : Prop := ∃ B' O', TreeAt A' B' O' t T' ∧ Step A B O A' B' O'

def nodeMark (z cv : Int) (n : NodeD) : NodeD := ⟨n.data, { n.stat with cver := cv, pzxid := z }⟩

def treeMark (T : TreeD) (p : ByteArray) (z cv : Int) : TreeD := ⟨kMod (parentP p) (nodeMark z cv) T.nodes, T.seats⟩

structure TG where
  T : TreeD
  B : Arena
  O : Nat → Prop
  t : Nat

def markS : FSpec := ⟨TG × ByteArray × Int × Int, fun g vs A => vs = [.pointer (some ⟨g.1.t, 0, none⟩), .string g.2.1, .int .i64 g.2.2.1, .int .i64 g.2.2.2] ∧ TreeAt A g.1.B g.1.O g.1.t g.1.T,
  fun g _ A _ A' => StepTo A g.1.B g.1.O g.1.t (treeMark g.1.T g.2.1 g.2.2.1 g.2.2.2) A'⟩

theorem parentC : CTSound Tryz.prog (lookC [specE 33 parentS] noC) := lookC_sound (noC_sound _) (fun x hx => by
  simp only [List.mem_singleton] at hx
  subst hx; exact specE_ok parent_ok)

set_option maxRecDepth 100000 in
set_option maxHeartbeats 0 in
theorem mark_ok : FOk Tryz.prog 60 markS := by
  refine fok_v mixed fun ⟨⟨T, B, O, t⟩, p, z, cv⟩ vs A hp => ?_
  obtain ⟨rfl, m, s, E, h⟩ : vs = [.pointer (some ⟨t, 0, none⟩), .string p, .int .i64 z, .int .i64 cv] ∧ TreeAt A B O t T := hp
  refine ⟨_, noL, 60, parentC, noL_sound _, fun blk os out tape D hD => ?_⟩
  conv => lhs; whnf
  have htop : A.rd t 0 1 = some [.map (some m)] := h.top.rd (o := 0) (n := 1) (by show 0 + 1 ≤ 2; omega)
  refine go_rd htop ?_
  conv => lhs; whnf
  refine (hD _).2 ⟨p, rfl, fun v A' hq => ?_⟩
  obtain ⟨rfl, rfl⟩ : A' = A ∧ v = .string (parentP p) := hq
  conv => lhs; whnf
  repeat (first | refine go_rd htop ?_ | refine go_D hD rfl ?_
          conv => lhs; whnf)
  refine go_lk (h.look (parentP p)) ?_
  have stop : kGet (parentP p) E = none → StepTo A' B O t (treeMark T p z cv) A' := fun hp => by
    refine ⟨B, O, ⟨m, s, E, ?_⟩, Step.refl _ _ _⟩
    have : treeMark T p z cv = T := by rw [treeMark, kMod_none (by rw [h.get, hp]; rfl)]
    rw [this]; exact h
  cases hp : kGet (parentP p) E with
  | none =>
    conv => lhs; whnf
    exact (hD _).2 (stop hp)
  | some x =>
    obtain ⟨g, n⟩ := x
    have hmem := kGet_mem (bytes_key _) hp
    obtain ⟨w, hc, hs⟩ := h.cells _ hmem
    conv => lhs; whnf
    refine (hD _).2 ⟨hc.room (o := 7) (n := 1) (by show 7 + 1 ≤ 11; omega), fun A1 hP1 => ?_⟩
    have hP1 : A'.Put A1 g 7 [.int .i64 cv] := hP1
    have hc1 : CellsAt A1 g (w :: ({ n.stat with cver := cv } : StatD).cells) := hc.put hP1 (by show 7 + 1 ≤ 11; omega)
    conv => lhs; whnf
    refine (hD _).2 ⟨hc1.room (o := 3) (n := 1) (by show 3 + 1 ≤ 11; omega), fun A2 hP2 => ?_⟩
    have hP2 : A1.Put A2 g 3 [.int .i64 z] := hP2
    have hc2 : CellsAt A2 g (w :: ({ n.stat with cver := cv, pzxid := z } : StatD).cells) := hc1.put hP2 (by show 3 + 1 ≤ 11; omega)
    conv => lhs; whnf
    have hOg := h.own.2.2.2 _ hmem
    have hother : ∀ k, k ≠ g → A2.blk k = A'.blk k := fun k hk => by rw [hP2.other k hk, hP1.other k hk]
    have hB : B.Sub A2 := fun k o hk => by rw [hother k fun e => by subst e; rw [h.off _ hOg] at hk; cases hk]; exact h.sub k o hk
    have hd : ∀ k, A2.blk k = none → A'.blk k = none := fun k hk => (hP1.dom k).1 ((hP2.dom k).1 hk)
    have e : kMod (parentP p) (fun _ => nodeMark z cv n) T.nodes = kMod (parentP p) (nodeMark z cv) T.nodes := kMod_at (by rw [h.get, hp]; rfl)
    have hR := h.mod (n' := nodeMark z cv n) hp (fun k _ hk => hother k hk) ⟨w, hc2, hs⟩ (Arena.Sub.refl _) hB h.off
    rw [e] at hR
    have hend : StepTo A' B O t (treeMark T p z cv) A2 := ⟨B, O, ⟨m, s, _, hR⟩, ⟨fun k o hk hO => by rw [hother k fun e => hO (e ▸ hOg)]; exact hk, hd, fun _ hk => .inl hk, Arena.Sub.refl _, fun _ _ hk => .inl hk⟩⟩
    exact (hD _).2 hend

end
end Go.Proofs.YtfpfjobknefedaaGreatDoor

namespace Go.Proofs.YtfpfjobknefedaaGreatDoor
open Go.Sx Go.RowKit
noncomputable section
open Classical

def nodeSet (h : DeedH) (z time : Int) (n : NodeD) : NodeD := ⟨h.data, { n.stat with mzxid := z, mtime := time, ver := h.ver }⟩
def nodeNew (h : DeedH) (z time : Int) : NodeD := ⟨h.data, ⟨z, z, z, time, time, 0, 0, h.owner, 0, 0⟩⟩

def treeChange (T : TreeD) (h : DeedH) (z time : Int) : TreeD :=
  if h.kind = 3 then ⟨kMod h.path (nodeSet h z time) T.nodes, T.seats⟩
  else if h.kind = 1 then treeMark ⟨kPut h.path (nodeNew h z time) T.nodes, T.seats⟩ h.path z h.cver
  else if h.kind = 2 then treeMark ⟨kDel h.path T.nodes, T.seats⟩ h.path z h.cver
  else treeMark T h.path z h.cver

/-- Memory that the tree does not own. -/
def Aside (A C : Arena) (O : Nat → Prop) : Prop := C.Sub A ∧ ∀ k o, C.blk k = some o → ¬ O k

theorem Aside.step {A B A' B' C : Arena} {O O' : Nat → Prop} (h : Aside A C O) (s : Step A B O A' B' O') : Aside A' C O' :=
  ⟨s.stays h.1 h.2, fun k o hk hO => by
    rcases s.own k hO with h1 | h1
    · exact h.2 k o hk h1
    · rw [h.1 k o hk] at h1; cases h1⟩

def changeS : FSpec := ⟨TG × DeedD × Arena × Int × Int, fun g vs A => ∃ cs, vs = [.pointer (some ⟨g.1.t, 0, none⟩), deedV cs, .int .i64 g.2.2.2.1, .int .i64 g.2.2.2.2] ∧ TreeAt A g.1.B g.1.O g.1.t g.1.T ∧ DeedR g.2.2.1 g.2.1 cs ∧ Aside A g.2.2.1 g.1.O,
  fun g _ A _ A' => StepTo A g.1.B g.1.O g.1.t (treeChange g.1.T g.2.1.h g.2.2.2.1 g.2.2.2.2) A'⟩

/-- A node is turned, and gets what is new. -/
theorem step_mod {A B A1 A2 : Arena} {O : Nat → Prop} {t : Nat} {T : TreeD} {m s : Nat} {E : List (ByteArray × Nat × NodeD)} (h : TreeR A B O t T m s E) {p : ByteArray} {g : Nat} {n : NodeD} {f : NodeD → NodeD} (hp : kGet p E = some (g, n))
    (s1 : A.Sub A1) (hother : ∀ k, k ≠ g → A2.blk k = A1.blk k) (hdom : ∀ k, A2.blk k = none ↔ A1.blk k = none) (hn : NodeAt A2 (A1.minus A) g (f n)) : StepTo A B O t ⟨kMod p f T.nodes, T.seats⟩ A2 := by
  have hmem := kGet_mem (bytes_key _) hp
  have hOg := h.own.2.2.2 _ hmem
  have hgA : ∃ o, A.blk g = some o := by
    obtain ⟨v, hc, _⟩ := h.cells _ hmem
    exact hc.dom
  have hne : ∀ k o, (A1.minus A).blk k = some o → k ≠ g := fun k o hk e => by
    subst e
    obtain ⟨o', ho'⟩ := hgA
    rw [minus_none _ ho'] at hk; cases hk
  have hBA : B.Sub A2 := fun k o hk => by
    rw [hother k fun e => by subst e; rw [h.off _ hOg] at hk; cases hk]
    exact s1 _ _ (h.sub k o hk)
  have hsub : (B.plus (A1.minus A)).Sub A2 := fun k o hk => by
    rcases plus_cases hk with hk | ⟨_, hk⟩
    · exact hBA k o hk
    · rw [hother k (hne k o hk)]; exact (minus_blk hk).2
  have hoff : ∀ k, O k → (B.plus (A1.minus A)).blk k = none := fun k hO => by
    rw [plus_blk, h.off k hO]
    obtain ⟨o, ho⟩ := h.live k hO
    exact minus_none _ ho
  have hR := h.mod (n' := f n) hp (A' := A2) (B' := B.plus (A1.minus A)) (fun k hO hk => by
    rw [hother k hk]
    obtain ⟨o, ho⟩ := h.live k hO
    rw [ho, s1 _ _ ho]) (by obtain ⟨v, h1, h2⟩ := hn; exact ⟨v, h1, h2.sub (plus_r (minus_apart h.sub))⟩) (plus_l _ _) hsub hoff
  have e : kMod p (fun _ => f n) T.nodes = kMod p f T.nodes := kMod_at (by rw [h.get, hp]; rfl)
  rw [e] at hR
  refine ⟨_, O, ⟨m, s, _, hR⟩, ⟨fun k o hk hO => ?_, fun k hk => ?_, fun k hk => .inl hk, plus_l _ _, fun k o hk => ?_⟩⟩
  · rw [hother k fun e => hO (e ▸ hOg)]; exact s1 _ _ hk
  · cases hA : A.blk k with
    | none => rfl
    | some o => have h1 := (hdom k).1 hk; rw [s1 _ _ hA] at h1; cases h1
  · rcases plus_cases hk with hk | ⟨_, hk⟩
    · exact .inl hk
    · exact .inr (minus_blk hk).1

/-- A node is laid, with what is new. -/
theorem step_put {A B A1 A2 A3 : Arena} {O : Nat → Prop} {t : Nat} {T : TreeD} {m s : Nat} {E : List (ByteArray × Nat × NodeD)} (h : TreeR A B O t T m s E) {p : ByteArray} {g : Nat} {n : NodeD} {c : Array Value} {ty : TypeId} {v : Value}
    (s1 : A.Sub A1) (hN : A1.New A2 g c ty) (hc : c.toList = v :: n.stat.cells) (hv : SlB (A1.minus A) v n.data)
    (hm : MapAt A3 m (putL (.string p) (ptrV g) (strL ptrV (kMap (·.1) E)))) (hother : ∀ k, k ≠ m → A3.blk k = A2.blk k) : StepTo A B O t ⟨kPut p n T.nodes, T.seats⟩ A3 := by
  have hgA : A.blk g = none := by
    cases hA : A.blk g with
    | none => rfl
    | some o => have := s1 _ _ hA; rw [hN.none_] at this; cases this
  have hm0 : ∃ o, A.blk m = some o := h.live m h.own.2.1
  have hmg : m ≠ g := fun e => by
    obtain ⟨o, ho⟩ := hm0
    rw [e, hgA] at ho; cases ho
  have keep : ∀ k o, A.blk k = some o → k ≠ m → A3.blk k = some o := fun k o hk hne => by
    rw [hother k hne]; exact hN.sub k o (s1 k o hk)
  have hg3 : A3.blk g = A2.blk g := hother g (Ne.symm hmg)
  have hnew : ∀ k o, (A1.minus A).blk k = some o → k ≠ m ∧ k ≠ g := fun k o hk => by
    obtain ⟨h1, h2⟩ := minus_blk hk
    refine ⟨fun e => ?_, fun e => ?_⟩
    · obtain ⟨o', ho'⟩ := hm0
      rw [e, ho'] at h1; cases h1
    · rw [e, hN.none_] at h2; cases h2
  have hBm : ∀ k o, B.blk k = some o → k ≠ m := fun k o hk e => by
    subst e; rw [h.off _ h.own.2.1] at hk; cases hk
  have hsub : (B.plus (A1.minus A)).Sub A3 := fun k o hk => by
    rcases plus_cases hk with hk | ⟨_, hk⟩
    · exact keep k o (h.sub k o hk) (hBm k o hk)
    · rw [hother k (hnew k o hk).1]; exact hN.sub k o (minus_blk hk).2
  have hoff : ∀ k, O k ∨ k = g → (B.plus (A1.minus A)).blk k = none := fun k hk => by
    cases hb : (B.plus (A1.minus A)).blk k with
    | none => rfl
    | some o =>
      rcases plus_cases hb with hb | ⟨_, hb⟩
      · rcases hk with hk | rfl
        · rw [h.off k hk] at hb; cases hb
        · have := h.sub k o hb; rw [hgA] at this; cases this
      · rcases hk with hk | rfl
        · obtain ⟨o', ho'⟩ := h.live k hk
          rw [minus_none _ ho'] at hb; cases hb
        · exact absurd rfl (hnew k o hb).2
  have hR := h.put (p := p) (g := g) (n := n) (A' := A3) (B' := B.plus (A1.minus A)) hgA (fun k hO hk => by
    obtain ⟨o, ho⟩ := h.live k hO
    rw [ho, keep k o ho hk]) hm ⟨v, ⟨c, ty, (0, 0), by rw [hg3]; exact hN.at_, .inl rfl, hc⟩, hv.sub (plus_r (minus_apart h.sub))⟩ (plus_l _ _) hsub hoff
  refine ⟨_, _, ⟨m, s, _, hR⟩, ⟨fun k o hk hO => keep k o hk fun e => hO (e ▸ h.own.2.1), fun k hk => ?_, fun k hk => ?_, plus_l _ _, fun k o hk => ?_⟩⟩
  · cases hA : A.blk k with
    | none => rfl
    | some o =>
      by_cases e : k = m
      · obtain ⟨es, cl, h1, _⟩ := hm
        rw [e, h1] at hk; cases hk
      · rw [keep k o hA e] at hk; cases hk
  · rcases hk with hk | rfl
    · exact .inl hk
    · exact .inr hgA
  · rcases plus_cases hk with hk | ⟨_, hk⟩
    · exact .inl hk
    · exact .inr (minus_blk hk).1

theorem StepTo.trans {A B A1 A2 B1 : Arena} {O O1 : Nat → Prop} {t : Nat} {T : TreeD} (h : Step A B O A1 B1 O1) (k : StepTo A1 B1 O1 t T A2) : StepTo A B O t T A2 := by
  obtain ⟨B2, O2, h1, h2⟩ := k
  exact ⟨B2, O2, h1, h.trans h2⟩

def alNode : TypeId → Bool := fun t => Nat.beq t 84

set_option maxRecDepth 100000 in
set_option maxHeartbeats 0 in
theorem change_ok : FOk Tryz.prog 34 changeS := by
  refine fok_a mixed alNode fun ⟨⟨T, B, O, t⟩, d, C, z, time⟩ vs A hp => ?_
  obtain ⟨cs, rfl, hT, hR, hC⟩ : ∃ cs, vs = [.pointer (some ⟨t, 0, none⟩), deedV cs, .int .i64 z, .int .i64 time] ∧ TreeAt A B O t T ∧ DeedR C d cs ∧ Aside A C O := hp
  have hCt : CTSound Tryz.prog (lookC [specE 60 markS, specE 30 cloneBytesS] noC) := lookC_sound (noC_sound _) (fun x hx => by
    simp only [List.mem_cons, List.not_mem_nil, or_false] at hx
    rcases hx with rfl | rfl
    · exact specE_ok mark_ok
    · exact specE_ok cloneBytes_ok)
  obtain ⟨⟨zxid, kind, ses, turn, xid, dtime, path, data, owner, ver, cver, tmo, err, cfg, mem⟩, parts⟩ := d
  rw [DeedR] at hR
  dsimp only [DeedH.cells] at hR
  obtain ⟨vd, vm, vp, rows, rfl, -, hd, ⟨⟨a14, k14, rfl, -⟩, -⟩, ⟨a15, k15, rfl, -⟩, -⟩ := hR
  obtain ⟨a7, k7, rfl⟩ := hd.1.form
  refine ⟨_, noL, 60, hCt, noL_sound _, fun blk os out tape D hD => ?_⟩
  obtain ⟨m, s, E, h⟩ := hT
  have htop : A.rd t 0 1 = some [.map (some m)] := h.top.rd (o := 0) (n := 1) (by show 0 + 1 ≤ 2; omega)
  conv => lhs; whnf
  refine split_dec (fun h3 => ?_) (fun h3 => ?_) <;> (conv => lhs; whnf)
  · subst h3
    refine go_rd htop ?_
    conv => lhs; whnf
    refine go_lk (h.look path) ?_
    cases hp : kGet path E with
    | none =>
      conv => lhs; whnf
      have hend : StepTo A B O t (treeChange T ⟨zxid, 3, ses, turn, xid, dtime, path, data, owner, ver, cver, tmo, err, cfg, mem⟩ z time) A := by
        refine ⟨B, O, ⟨m, s, E, ?_⟩, Step.refl _ _ _⟩
        rw [treeChange, if_pos rfl, kMod_none (by rw [h.get, hp]; rfl)]
        exact h
      exact (hD _).2 hend
    | some x =>
      obtain ⟨g, n⟩ := x
      have hmem := kGet_mem (bytes_key _) hp
      obtain ⟨w, hc, hs⟩ := h.cells _ hmem
      have hc : CellsAt A g (w :: n.stat.cells) := hc
      conv => lhs; whnf
      refine (hD _).2 ⟨data, ⟨_, rfl, hd.sub hC.1⟩, fun v A1 hq => ?_⟩
      obtain ⟨s1, b1⟩ : A.Sub A1 ∧ SlB (A1.minus A) v data := hq
      obtain ⟨ao, ko, rfl⟩ := b1.1.form
      have hc0 := hc.sub (s1 g)
      conv => lhs; whnf
      refine (hD _).2 ⟨hc0.room (o := 0) (n := 1) (by show 0 + 1 ≤ 11; omega), fun A2 hP2 => ?_⟩
      have hP2 : A1.Put A2 g 0 [.slice ao data.length ko] := hP2
      have hc2 : CellsAt A2 g (.slice ao data.length ko :: n.stat.cells) := hc0.put hP2 (by show 0 + 1 ≤ 11; omega)
      conv => lhs; whnf
      refine (hD _).2 ⟨hc2.room (o := 2) (n := 1) (by show 2 + 1 ≤ 11; omega), fun A3 hP3 => ?_⟩
      have hP3 : A2.Put A3 g 2 [.int .i64 z] := hP3
      have hc3 : CellsAt A3 g (.slice ao data.length ko :: ({ n.stat with mzxid := z } : StatD).cells) := hc2.put hP3 (by show 2 + 1 ≤ 11; omega)
      conv => lhs; whnf
      repeat (refine go_D hD rfl ?_; conv => lhs; whnf)
      refine (hD _).2 ⟨hc3.room (o := 5) (n := 1) (by show 5 + 1 ≤ 11; omega), fun A4 hP4 => ?_⟩
      have hP4 : A3.Put A4 g 5 [.int .i64 time] := hP4
      have hc4 : CellsAt A4 g (.slice ao data.length ko :: ({ n.stat with mzxid := z, mtime := time } : StatD).cells) := hc3.put hP4 (by show 5 + 1 ≤ 11; omega)
      conv => lhs; whnf
      repeat (refine go_D hD rfl ?_; conv => lhs; whnf)
      refine (hD _).2 ⟨hc4.room (o := 6) (n := 1) (by show 6 + 1 ≤ 11; omega), fun A5 hP5 => ?_⟩
      have hP5 : A4.Put A5 g 6 [.int .i64 ver] := hP5
      have hc5 : CellsAt A5 g (.slice ao data.length ko :: ({ n.stat with mzxid := z, mtime := time, ver := ver } : StatD).cells) := hc4.put hP5 (by show 6 + 1 ≤ 11; omega)
      conv => lhs; whnf
      have hother : ∀ k, k ≠ g → A5.blk k = A1.blk k := fun k hk => by rw [hP5.other k hk, hP4.other k hk, hP3.other k hk, hP2.other k hk]
      have hdom : ∀ k, A5.blk k = none ↔ A1.blk k = none := fun k => (hP5.dom k).trans ((hP4.dom k).trans ((hP3.dom k).trans (hP2.dom k)))
      have hR : StepTo A B O t ⟨kMod path (nodeSet ⟨zxid, 3, ses, turn, xid, dtime, path, data, owner, ver, cver, tmo, err, cfg, mem⟩ z time) T.nodes, T.seats⟩ A5 :=
        step_mod h hp s1 hother hdom ⟨_, hc5, b1⟩
      have hend : StepTo A B O t (treeChange T ⟨zxid, 3, ses, turn, xid, dtime, path, data, owner, ver, cver, tmo, err, cfg, mem⟩ z time) A5 := by
        rw [treeChange, if_pos rfl]
        exact hR
      exact (hD _).2 hend
  refine split_dec (fun h1 => ?_) (fun h1 => ?_) <;> (conv => lhs; whnf)
  · subst h1
    refine go_rd htop ?_
    conv => lhs; whnf
    refine (hD _).2 ⟨data, ⟨_, rfl, hd.sub hC.1⟩, fun v A1 hq => ?_⟩
    obtain ⟨s1, b1⟩ : A.Sub A1 ∧ SlB (A1.minus A) v data := hq
    obtain ⟨ao, ko, rfl⟩ := b1.1.form
    have htop1 := rd_sub s1 htop
    conv => lhs; whnf
    repeat (first | refine go_rd htop1 ?_ | refine go_D hD rfl ?_
            conv => lhs; whnf)
    refine (hD _).2 fun g A2 hN => ?_
    have htop2 : A2.rd t 0 1 = some [.map (some m)] := rd_sub hN.sub htop1
    conv => lhs; whnf
    repeat (first | refine go_rd htop2 ?_ | refine go_D hD rfl ?_
            conv => lhs; whnf)
    have hN : A1.New A2 g #[.slice ao data.length ko, .int .i64 z, .int .i64 z, .int .i64 z, .int .i64 time, .int .i64 time, .int .i64 0, .int .i64 0, .int .i64 owner, .int .i64 0, .int .i64 0] 84 := hN
    have hm2 := h.nmap.sub (A' := A2) fun o ho => hN.sub _ _ (s1 _ _ ho)
    refine (hD _).2 ⟨_, hm2, strL_alike ptrV path _, fun A3 hm3 ho3 => ?_⟩
    obtain ⟨B3, O3, hT3, hS3⟩ : StepTo A B O t ⟨kPut path (nodeNew ⟨zxid, 1, ses, turn, xid, dtime, path, data, owner, ver, cver, tmo, err, cfg, mem⟩ z time) T.nodes, T.seats⟩ A3 := step_put h s1 hN rfl b1 hm3 ho3
    conv => lhs; whnf
    refine (hD _).2 ⟨(⟨⟨kPut path (nodeNew ⟨zxid, 1, ses, turn, xid, dtime, path, data, owner, ver, cver, tmo, err, cfg, mem⟩ z time) T.nodes, T.seats⟩, B3, O3, t⟩, path, z, cver), ⟨rfl, hT3⟩, fun v A4 hq => ?_⟩
    have hq : StepTo A3 B3 O3 t (treeMark ⟨kPut path (nodeNew ⟨zxid, 1, ses, turn, xid, dtime, path, data, owner, ver, cver, tmo, err, cfg, mem⟩ z time) T.nodes, T.seats⟩ path z cver) A4 := hq
    have hend : StepTo A B O t (treeChange T ⟨zxid, 1, ses, turn, xid, dtime, path, data, owner, ver, cver, tmo, err, cfg, mem⟩ z time) A4 := hq.trans hS3
    conv => lhs; whnf
    exact (hD _).2 hend
  refine split_dec (fun h2 => ?_) (fun h2 => ?_) <;> (conv => lhs; whnf)
  · subst h2
    refine go_rd htop ?_
    conv => lhs; whnf
    refine (hD _).2 ⟨_, h.nmap, strL_alike ptrV path _, fun A1 hm1 ho1 => ?_⟩
    have hR := h.del (p := path) ho1 hm1
    have hS1 : Step A B O A1 B O := ⟨fun k o hk hO => by rw [ho1 k fun e => hO (e ▸ h.own.2.1)]; exact hk, fun k hk => (by
      by_cases e : k = m
      · obtain ⟨es, cl, h9, _⟩ := hm1
        rw [e, h9] at hk; cases hk
      · rw [ho1 k e] at hk; exact hk), fun k hk => .inl hk, Arena.Sub.refl _, fun k o hk => .inl hk⟩
    conv => lhs; whnf
    refine (hD _).2 ⟨(⟨⟨kDel path T.nodes, T.seats⟩, B, O, t⟩, path, z, cver), ⟨rfl, m, s, _, hR⟩, fun v A4 hq => ?_⟩
    have hq : StepTo A1 B O t (treeMark ⟨kDel path T.nodes, T.seats⟩ path z cver) A4 := hq
    have hend : StepTo A B O t (treeChange T ⟨zxid, 2, ses, turn, xid, dtime, path, data, owner, ver, cver, tmo, err, cfg, mem⟩ z time) A4 := hq.trans hS1
    conv => lhs; whnf
    exact (hD _).2 hend
  · refine (hD _).2 ⟨(⟨T, B, O, t⟩, path, z, cver), ⟨rfl, m, s, _, h⟩, fun v A4 hq => ?_⟩
    have hq : StepTo A B O t (treeMark T path z cver) A4 := hq
    have hend : StepTo A B O t (treeChange T ⟨zxid, kind, ses, turn, xid, dtime, path, data, owner, ver, cver, tmo, err, cfg, mem⟩ z time) A4 := by
      rw [treeChange, if_neg h3, if_neg h1, if_neg h2]
      exact hq
    conv => lhs; whnf
    exact (hD _).2 hend

end
end Go.Proofs.YtfpfjobknefedaaGreatDoor

namespace Go.Proofs.YtfpfjobknefedaaGreatDoor
open Go.Sx Go.RowKit
noncomputable section
open Classical

def treeParts (T : TreeD) (ps : List DeedD) (z time : Int) : TreeD := ps.foldl (fun T p => treeChange T p.h z time) T

/-- The sitting is touched. -/
def treeTouch (T : TreeD) (ses turn : Int) : TreeD := match kGet ses T.seats with
  | some s => ⟨T.nodes, kPut ses ⟨s.ses, s.tmo, max s.turn turn⟩ T.seats⟩
  | none => T

def treeDo (T : TreeD) (d : DeedD) : TreeD :=
  if d.h.kind = 1 ∨ d.h.kind = 2 ∨ d.h.kind = 3 then treeChange T d.h d.h.zxid d.h.time
  else if d.h.kind = 4 then ⟨T.nodes, kPut d.h.zxid ⟨d.h.zxid, d.h.tmo, d.h.turn⟩ T.seats⟩
  else if d.h.kind = 5 then treeParts ⟨T.nodes, kDel d.h.owner T.seats⟩ d.parts d.h.zxid d.h.time
  else if d.h.kind = 8 then treeParts T d.parts d.h.zxid d.h.time
  else T

def treeApply (T : TreeD) (d : DeedD) : TreeD := if RightD d then treeTouch (treeDo T d) d.h.ses d.h.turn else T

def applyS : FSpec := ⟨TG × DeedD × Arena, fun g vs A => ∃ cs, vs = [.pointer (some ⟨g.1.t, 0, none⟩), deedV cs] ∧ TreeAt A g.1.B g.1.O g.1.t g.1.T ∧ DeedR g.2.2 g.2.1 cs ∧ HasA g.2.2 ∧ Aside A g.2.2 g.1.O,
  fun g _ A _ A' => StepTo A g.1.B g.1.O g.1.t (treeApply g.1.T g.2.1) A'⟩

/-- A map of the tree's own is written. -/
theorem step_map {A B A' : Arena} {O : Nat → Prop} {m : Nat} {l : List (Value × Value)} (hO : O m) (ho : ∀ k, k ≠ m → A'.blk k = A.blk k) (hm : MapAt A' m l) : Step A B O A' B O :=
  ⟨fun k o hk hn => by rw [ho k fun e => hn (e ▸ hO)]; exact hk, fun k hk => (by
    by_cases e : k = m
    · obtain ⟨es, cl, h9, _⟩ := hm
      rw [e, h9] at hk; cases hk
    · rw [ho k e] at hk; exact hk), fun k hk => .inl hk, Arena.Sub.refl _, fun k o hk => .inl hk⟩

structure AG where
  k : Nat
  A : Arena
  B : Arena
  O : Nat → Prop
  T : TreeD

def applyInv (A B : Arena) (O : Nat → Prop) (t : Nat) (T0 : TreeD) (parts : List DeedD) (z time : Int) : LInv := { γ := AG, G := fun g => g.k ≤ parts.length ∧ TreeAt g.A g.B g.O t g.T ∧ Step A B O g.A g.B g.O ∧ g.T = treeParts T0 (parts.take g.k) z time, keepS := [0, 3, 55, 56], keepB := [0], sl := fun g => [(57, .v (.int .i64 g.k))], bl := fun _ => [], ar := fun g => g.A, mu := fun g => parts.length - g.k }

set_option maxRecDepth 100000 in
set_option maxHeartbeats 0 in
theorem apply_ok : FOk Tryz.prog 20 applyS := by
  refine fok_v mixed fun ⟨⟨T, B, O, t⟩, d, C⟩ vs A hp => ?_
  obtain ⟨cs, rfl, hT, hR, hH, hC⟩ : ∃ cs, vs = [.pointer (some ⟨t, 0, none⟩), deedV cs] ∧ TreeAt A B O t T ∧ DeedR C d cs ∧ HasA C ∧ Aside A C O := hp
  have hCt : CTSound Tryz.prog (lookC [specE 34 changeS, specE 27 rightS] noC) := lookC_sound (noC_sound _) (fun x hx => by
    simp only [List.mem_cons, List.not_mem_nil, or_false] at hx
    rcases hx with rfl | rfl
    · exact specE_ok change_ok
    · exact specE_ok right_ok)
  obtain ⟨⟨zxid, kind, ses, turn, xid, dtime, path, data, owner, ver, cver, tmo, err, cfg, mem⟩, parts⟩ := d
  have hR0 := hR
  rw [DeedR] at hR
  dsimp only [DeedH.cells] at hR
  obtain ⟨vd, vm, vp, rows, rfl, -, hd, hM, hS, hlen, hRows⟩ := hR
  obtain ⟨a7, k7, rfl⟩ := hd.1.form
  obtain ⟨a14, k14, rfl⟩ := hM.1.form
  obtain ⟨a15, k15, rfl⟩ := hS.form
  refine ⟨_, tabO Tryz.prog _ noL 60 [(20, 5)], 60, hCt, tabO_sound mixed hCt (noL_sound _) _ _, fun blk os out tape D hD => ?_⟩
  obtain ⟨m, s, E, h⟩ := hT
  have htop : A.rd t 0 1 = some [.map (some m)] := h.top.rd (o := 0) (n := 1) (by show 0 + 1 ≤ 2; omega)
  have htop1 : A.rd t 1 1 = some [.map (some s)] := h.top.rd (o := 1) (n := 1) (by show 1 + 1 ≤ 2; omega)
  conv => lhs; whnf
  refine go_rd htop ?_
  conv => lhs; whnf
  refine (hD _).2 ⟨_, ⟨_, rfl, DeedR.sub hC.1 _ _ hR0, hH.sub hC.1⟩, fun v A' hq => ?_⟩
  obtain ⟨rfl, rfl⟩ : A' = A ∧ v = .bool (decide (RightD (.mk ⟨zxid, kind, ses, turn, xid, dtime, path, data, owner, ver, cver, tmo, err, cfg, mem⟩ parts))) := hq
  conv => lhs; whnf
  refine split_nd (fun hr => ?_) (fun hr => ?_) <;> (conv => lhs; whnf)
  rotate_left
  · have hend : StepTo A' B O t (treeApply T (.mk ⟨zxid, kind, ses, turn, xid, dtime, path, data, owner, ver, cver, tmo, err, cfg, mem⟩ parts)) A' := by
      rw [treeApply, if_neg hr]
      exact ⟨B, O, ⟨m, s, E, h⟩, Step.refl _ _ _⟩
    exact (hD _).2 hend
  by_cases h123 : kind = 1 ∨ kind = 2 ∨ kind = 3
  · rcases h123 with rfl | rfl | rfl
    · conv => lhs; whnf
      refine (hD _).2 ⟨(⟨T, B, O, t⟩, .mk ⟨zxid, 1, ses, turn, xid, dtime, path, data, owner, ver, cver, tmo, err, cfg, mem⟩ parts, C, zxid, dtime), ⟨_, rfl, ⟨m, s, E, h⟩, hR0, hC⟩, fun v A1 hq => ?_⟩
      have hmid : StepTo A' B O t (treeChange T ⟨zxid, 1, ses, turn, xid, dtime, path, data, owner, ver, cver, tmo, err, cfg, mem⟩ zxid dtime) A1 := hq
      obtain ⟨T1, hTo⟩ : ∃ T1, T1 = treeDo T (.mk ⟨zxid, 1, ses, turn, xid, dtime, path, data, owner, ver, cver, tmo, err, cfg, mem⟩ parts) := ⟨_, rfl⟩
      have e : treeChange T ⟨zxid, 1, ses, turn, xid, dtime, path, data, owner, ver, cver, tmo, err, cfg, mem⟩ zxid dtime = T1 := by rw [hTo, treeDo, if_pos (by simp [DeedD.h])]; rfl
      rw [e] at hmid
      conv => lhs; whnf
      obtain ⟨B1, O1, ⟨m1, s1, E1, hT1⟩, hS1⟩ := hmid
      have htop9 : A1.rd t 1 1 = some [.map (some s1)] := hT1.top.rd (o := 1) (n := 1) (by show 1 + 1 ≤ 2; omega)
      refine go_rd htop9 ?_
      conv => lhs; whnf
      refine go_lk (look_int hT1.smap ses) ?_
      cases hk : kGet ses T1.seats with
      | none =>
        have hlk : A1.look s1 (.int .i64 ses) = some none := by rw [look_int hT1.smap, hk]; rfl
        conv => lhs; whnf
        have hend : StepTo A' B O t (treeApply T (.mk ⟨zxid, 1, ses, turn, xid, dtime, path, data, owner, ver, cver, tmo, err, cfg, mem⟩ parts)) A1 := by
          rw [treeApply, if_pos hr, ← hTo]
          show StepTo A' B O t (treeTouch T1 ses turn) A1
          rw [treeTouch, hk]
          exact ⟨B1, O1, ⟨m1, s1, E1, hT1⟩, hS1⟩
        repeat (first | refine go_rd htop9 ?_ | refine go_lk hlk ?_ | refine go_D hD rfl ?_
                conv => lhs; whnf)
        exact (hD _).2 hend
      | some st =>
        obtain ⟨sses, stmo, sturn⟩ := st
        have hlk : A1.look s1 (.int .i64 ses) = some (some (.agg #[.int .i64 sses, .int .i64 stmo, .int .i64 sturn])) := by rw [look_int hT1.smap, hk]; rfl
        conv => lhs; whnf
        repeat (first | refine go_rd htop9 ?_ | refine go_lk hlk ?_ | refine go_D hD rfl ?_
                conv => lhs; whnf)
        refine (hD _).2 ⟨_, hT1.smap, intL_alike sitV ses _, fun A2 hm2 ho2 => ?_⟩
        have hmx : (bif true then bif decide (sturn < turn) then turn else sturn else bif decide (turn < sturn) then turn else sturn) = max sturn turn := by
          by_cases h9 : sturn < turn
          · simp only [h9, decide_true, cond_true]; omega
          · simp only [h9, decide_false, cond_true, cond_false]; omega
        have hm3 : MapAt A2 s1 (putL (.int .i64 ses) (sitV ⟨sses, stmo, max sturn turn⟩) (intL sitV T1.seats)) := by
          rw [← hmx]; exact hm2
        rw [intL_put] at hm3
        have hR2 := hT1.sit ho2 hm3 (kPut_nodup hT1.skeys)
        have hS2 : Step A1 B1 O1 A2 B1 O1 := step_map (hT1.own.2.2.1) ho2 hm3
        have hend : StepTo A' B O t (treeApply T (.mk ⟨zxid, 1, ses, turn, xid, dtime, path, data, owner, ver, cver, tmo, err, cfg, mem⟩ parts)) A2 := by
          rw [treeApply, if_pos hr, ← hTo]
          show StepTo A' B O t (treeTouch T1 ses turn) A2
          rw [treeTouch, hk]
          exact ⟨B1, O1, ⟨m1, s1, E1, hR2⟩, hS1.trans hS2⟩
        conv => lhs; whnf
        exact (hD _).2 hend
    · conv => lhs; whnf
      refine (hD _).2 ⟨(⟨T, B, O, t⟩, .mk ⟨zxid, 2, ses, turn, xid, dtime, path, data, owner, ver, cver, tmo, err, cfg, mem⟩ parts, C, zxid, dtime), ⟨_, rfl, ⟨m, s, E, h⟩, hR0, hC⟩, fun v A1 hq => ?_⟩
      have hmid : StepTo A' B O t (treeChange T ⟨zxid, 2, ses, turn, xid, dtime, path, data, owner, ver, cver, tmo, err, cfg, mem⟩ zxid dtime) A1 := hq
      obtain ⟨T1, hTo⟩ : ∃ T1, T1 = treeDo T (.mk ⟨zxid, 2, ses, turn, xid, dtime, path, data, owner, ver, cver, tmo, err, cfg, mem⟩ parts) := ⟨_, rfl⟩
      have e : treeChange T ⟨zxid, 2, ses, turn, xid, dtime, path, data, owner, ver, cver, tmo, err, cfg, mem⟩ zxid dtime = T1 := by rw [hTo, treeDo, if_pos (by simp [DeedD.h])]; rfl
      rw [e] at hmid
      conv => lhs; whnf
      obtain ⟨B1, O1, ⟨m1, s1, E1, hT1⟩, hS1⟩ := hmid
      have htop9 : A1.rd t 1 1 = some [.map (some s1)] := hT1.top.rd (o := 1) (n := 1) (by show 1 + 1 ≤ 2; omega)
      refine go_rd htop9 ?_
      conv => lhs; whnf
      refine go_lk (look_int hT1.smap ses) ?_
      cases hk : kGet ses T1.seats with
      | none =>
        have hlk : A1.look s1 (.int .i64 ses) = some none := by rw [look_int hT1.smap, hk]; rfl
        conv => lhs; whnf
        have hend : StepTo A' B O t (treeApply T (.mk ⟨zxid, 2, ses, turn, xid, dtime, path, data, owner, ver, cver, tmo, err, cfg, mem⟩ parts)) A1 := by
          rw [treeApply, if_pos hr, ← hTo]
          show StepTo A' B O t (treeTouch T1 ses turn) A1
          rw [treeTouch, hk]
          exact ⟨B1, O1, ⟨m1, s1, E1, hT1⟩, hS1⟩
        repeat (first | refine go_rd htop9 ?_ | refine go_lk hlk ?_ | refine go_D hD rfl ?_
                conv => lhs; whnf)
        exact (hD _).2 hend
      | some st =>
        obtain ⟨sses, stmo, sturn⟩ := st
        have hlk : A1.look s1 (.int .i64 ses) = some (some (.agg #[.int .i64 sses, .int .i64 stmo, .int .i64 sturn])) := by rw [look_int hT1.smap, hk]; rfl
        conv => lhs; whnf
        repeat (first | refine go_rd htop9 ?_ | refine go_lk hlk ?_ | refine go_D hD rfl ?_
                conv => lhs; whnf)
        refine (hD _).2 ⟨_, hT1.smap, intL_alike sitV ses _, fun A2 hm2 ho2 => ?_⟩
        have hmx : (bif true then bif decide (sturn < turn) then turn else sturn else bif decide (turn < sturn) then turn else sturn) = max sturn turn := by
          by_cases h9 : sturn < turn
          · simp only [h9, decide_true, cond_true]; omega
          · simp only [h9, decide_false, cond_true, cond_false]; omega
        have hm3 : MapAt A2 s1 (putL (.int .i64 ses) (sitV ⟨sses, stmo, max sturn turn⟩) (intL sitV T1.seats)) := by
          rw [← hmx]; exact hm2
        rw [intL_put] at hm3
        have hR2 := hT1.sit ho2 hm3 (kPut_nodup hT1.skeys)
        have hS2 : Step A1 B1 O1 A2 B1 O1 := step_map (hT1.own.2.2.1) ho2 hm3
        have hend : StepTo A' B O t (treeApply T (.mk ⟨zxid, 2, ses, turn, xid, dtime, path, data, owner, ver, cver, tmo, err, cfg, mem⟩ parts)) A2 := by
          rw [treeApply, if_pos hr, ← hTo]
          show StepTo A' B O t (treeTouch T1 ses turn) A2
          rw [treeTouch, hk]
          exact ⟨B1, O1, ⟨m1, s1, E1, hR2⟩, hS1.trans hS2⟩
        conv => lhs; whnf
        exact (hD _).2 hend
    · conv => lhs; whnf
      refine (hD _).2 ⟨(⟨T, B, O, t⟩, .mk ⟨zxid, 3, ses, turn, xid, dtime, path, data, owner, ver, cver, tmo, err, cfg, mem⟩ parts, C, zxid, dtime), ⟨_, rfl, ⟨m, s, E, h⟩, hR0, hC⟩, fun v A1 hq => ?_⟩
      have hmid : StepTo A' B O t (treeChange T ⟨zxid, 3, ses, turn, xid, dtime, path, data, owner, ver, cver, tmo, err, cfg, mem⟩ zxid dtime) A1 := hq
      obtain ⟨T1, hTo⟩ : ∃ T1, T1 = treeDo T (.mk ⟨zxid, 3, ses, turn, xid, dtime, path, data, owner, ver, cver, tmo, err, cfg, mem⟩ parts) := ⟨_, rfl⟩
      have e : treeChange T ⟨zxid, 3, ses, turn, xid, dtime, path, data, owner, ver, cver, tmo, err, cfg, mem⟩ zxid dtime = T1 := by rw [hTo, treeDo, if_pos (by simp [DeedD.h])]; rfl
      rw [e] at hmid
      conv => lhs; whnf
      obtain ⟨B1, O1, ⟨m1, s1, E1, hT1⟩, hS1⟩ := hmid
      have htop9 : A1.rd t 1 1 = some [.map (some s1)] := hT1.top.rd (o := 1) (n := 1) (by show 1 + 1 ≤ 2; omega)
      refine go_rd htop9 ?_
      conv => lhs; whnf
      refine go_lk (look_int hT1.smap ses) ?_
      cases hk : kGet ses T1.seats with
      | none =>
        have hlk : A1.look s1 (.int .i64 ses) = some none := by rw [look_int hT1.smap, hk]; rfl
        conv => lhs; whnf
        have hend : StepTo A' B O t (treeApply T (.mk ⟨zxid, 3, ses, turn, xid, dtime, path, data, owner, ver, cver, tmo, err, cfg, mem⟩ parts)) A1 := by
          rw [treeApply, if_pos hr, ← hTo]
          show StepTo A' B O t (treeTouch T1 ses turn) A1
          rw [treeTouch, hk]
          exact ⟨B1, O1, ⟨m1, s1, E1, hT1⟩, hS1⟩
        repeat (first | refine go_rd htop9 ?_ | refine go_lk hlk ?_ | refine go_D hD rfl ?_
                conv => lhs; whnf)
        exact (hD _).2 hend
      | some st =>
        obtain ⟨sses, stmo, sturn⟩ := st
        have hlk : A1.look s1 (.int .i64 ses) = some (some (.agg #[.int .i64 sses, .int .i64 stmo, .int .i64 sturn])) := by rw [look_int hT1.smap, hk]; rfl
        conv => lhs; whnf
        repeat (first | refine go_rd htop9 ?_ | refine go_lk hlk ?_ | refine go_D hD rfl ?_
                conv => lhs; whnf)
        refine (hD _).2 ⟨_, hT1.smap, intL_alike sitV ses _, fun A2 hm2 ho2 => ?_⟩
        have hmx : (bif true then bif decide (sturn < turn) then turn else sturn else bif decide (turn < sturn) then turn else sturn) = max sturn turn := by
          by_cases h9 : sturn < turn
          · simp only [h9, decide_true, cond_true]; omega
          · simp only [h9, decide_false, cond_true, cond_false]; omega
        have hm3 : MapAt A2 s1 (putL (.int .i64 ses) (sitV ⟨sses, stmo, max sturn turn⟩) (intL sitV T1.seats)) := by
          rw [← hmx]; exact hm2
        rw [intL_put] at hm3
        have hR2 := hT1.sit ho2 hm3 (kPut_nodup hT1.skeys)
        have hS2 : Step A1 B1 O1 A2 B1 O1 := step_map (hT1.own.2.2.1) ho2 hm3
        have hend : StepTo A' B O t (treeApply T (.mk ⟨zxid, 3, ses, turn, xid, dtime, path, data, owner, ver, cver, tmo, err, cfg, mem⟩ parts)) A2 := by
          rw [treeApply, if_pos hr, ← hTo]
          show StepTo A' B O t (treeTouch T1 ses turn) A2
          rw [treeTouch, hk]
          exact ⟨B1, O1, ⟨m1, s1, E1, hR2⟩, hS1.trans hS2⟩
        conv => lhs; whnf
        exact (hD _).2 hend
  by_cases h4 : kind = 4
  · subst h4
    conv => lhs; whnf
    refine go_rd htop1 ?_
    conv => lhs; whnf
    refine (hD _).2 ⟨_, h.smap, intL_alike sitV zxid _, fun A1 hm1 ho1 => ?_⟩
    have hm1 : MapAt A1 s (putL (.int .i64 zxid) (sitV ⟨zxid, tmo, turn⟩) (intL sitV T.seats)) := hm1
    rw [intL_put] at hm1
    have hR1 := h.sit ho1 hm1 (kPut_nodup h.skeys)
    obtain ⟨T1, hTo⟩ : ∃ T1, T1 = treeDo T (.mk ⟨zxid, 4, ses, turn, xid, dtime, path, data, owner, ver, cver, tmo, err, cfg, mem⟩ parts) := ⟨_, rfl⟩
    have hmid : StepTo A' B O t T1 A1 := ⟨B, O, ⟨m, s, E, by rw [hTo]; exact hR1⟩, step_map h.own.2.2.1 ho1 hm1⟩
    conv => lhs; whnf
    obtain ⟨B1, O1, ⟨m1, s1, E1, hT1⟩, hS1⟩ := hmid
    have htop9 : A1.rd t 1 1 = some [.map (some s1)] := hT1.top.rd (o := 1) (n := 1) (by show 1 + 1 ≤ 2; omega)
    refine go_rd htop9 ?_
    conv => lhs; whnf
    refine go_lk (look_int hT1.smap ses) ?_
    cases hk : kGet ses T1.seats with
    | none =>
      have hlk : A1.look s1 (.int .i64 ses) = some none := by rw [look_int hT1.smap, hk]; rfl
      conv => lhs; whnf
      have hend : StepTo A' B O t (treeApply T (.mk ⟨zxid, 4, ses, turn, xid, dtime, path, data, owner, ver, cver, tmo, err, cfg, mem⟩ parts)) A1 := by
        rw [treeApply, if_pos hr, ← hTo]
        show StepTo A' B O t (treeTouch T1 ses turn) A1
        rw [treeTouch, hk]
        exact ⟨B1, O1, ⟨m1, s1, E1, hT1⟩, hS1⟩
      repeat (first | refine go_rd htop9 ?_ | refine go_lk hlk ?_ | refine go_D hD rfl ?_
              conv => lhs; whnf)
      exact (hD _).2 hend
    | some st =>
      obtain ⟨sses, stmo, sturn⟩ := st
      have hlk : A1.look s1 (.int .i64 ses) = some (some (.agg #[.int .i64 sses, .int .i64 stmo, .int .i64 sturn])) := by rw [look_int hT1.smap, hk]; rfl
      conv => lhs; whnf
      repeat (first | refine go_rd htop9 ?_ | refine go_lk hlk ?_ | refine go_D hD rfl ?_
              conv => lhs; whnf)
      refine (hD _).2 ⟨_, hT1.smap, intL_alike sitV ses _, fun A2 hm2 ho2 => ?_⟩
      have hmx : (bif true then bif decide (sturn < turn) then turn else sturn else bif decide (turn < sturn) then turn else sturn) = max sturn turn := by
        by_cases h9 : sturn < turn
        · simp only [h9, decide_true, cond_true]; omega
        · simp only [h9, decide_false, cond_true, cond_false]; omega
      have hm3 : MapAt A2 s1 (putL (.int .i64 ses) (sitV ⟨sses, stmo, max sturn turn⟩) (intL sitV T1.seats)) := by
        rw [← hmx]; exact hm2
      rw [intL_put] at hm3
      have hR2 := hT1.sit ho2 hm3 (kPut_nodup hT1.skeys)
      have hS2 : Step A1 B1 O1 A2 B1 O1 := step_map (hT1.own.2.2.1) ho2 hm3
      have hend : StepTo A' B O t (treeApply T (.mk ⟨zxid, 4, ses, turn, xid, dtime, path, data, owner, ver, cver, tmo, err, cfg, mem⟩ parts)) A2 := by
        rw [treeApply, if_pos hr, ← hTo]
        show StepTo A' B O t (treeTouch T1 ses turn) A2
        rw [treeTouch, hk]
        exact ⟨B1, O1, ⟨m1, s1, E1, hR2⟩, hS1.trans hS2⟩
      conv => lhs; whnf
      exact (hD _).2 hend
  by_cases h5 : kind = 5
  · subst h5
    conv => lhs; whnf
    refine go_rd htop1 ?_
    conv => lhs; whnf
    refine (hD _).2 ⟨_, h.smap, intL_alike sitV owner _, fun A1 hm1 ho1 => ?_⟩
    rw [intL_del] at hm1
    have hR1 := h.sit ho1 hm1 (h.skeys.sublist ((kDel_sub owner _).map _))
    have hSt : Step A' B O A1 B O := step_map h.own.2.2.1 ho1 hm1
    obtain ⟨T0, hT00⟩ : ∃ T0 : TreeD, T0 = ⟨T.nodes, kDel owner T.seats⟩ := ⟨_, rfl⟩
    have hst : TreeAt A1 B O t T0 := ⟨m, s, E, by rw [hT00]; exact hR1⟩
    have hT0 : treeDo T (.mk ⟨zxid, 5, ses, turn, xid, dtime, path, data, owner, ver, cver, tmo, err, cfg, mem⟩ parts) = treeParts T0 parts zxid dtime := by rw [hT00]; rfl
    conv => lhs; whnf
    refine (hD _).2 ⟨applyInv A' B O t T0 parts zxid dtime, ⟨(⟨0, A1, B, O, T0⟩ : AG), ⟨Nat.zero_le _, hst, hSt, by rw [List.take_zero]; rfl⟩, ⟨rfl, trivial⟩, trivial, rfl⟩, fun (sg : AG) hG => ⟨⟨trivial, trivial⟩, trivial, ?_⟩⟩
    obtain ⟨k, Ak, Bk, Ok, Tk⟩ := sg
    obtain ⟨hk, hTk, hSk, hTke⟩ : k ≤ parts.length ∧ TreeAt Ak Bk Ok t Tk ∧ Step A' B O Ak Bk Ok ∧ Tk = treeParts T0 (parts.take k) zxid dtime := hG
    have hCk := hC.step hSk
    conv => lhs; whnf
    refine split_dec (fun hlt => ?_) (fun hlt => ?_)
    · have hlt : (k : Int) < parts.length := hlt
      have hkn : k < parts.length := by omega
      obtain ⟨ao15, c15, he15, hc15, hl15, hb1, hb2, hb3⟩ := hS
      injection he15 with he1 he2 he3
      subst he1 he3
      obtain ⟨pg, po, rfl, hra⟩ := Sl.at_ hc15 hb1 hb2 hb3 (by omega)
      obtain ⟨pcs, hpcs, hpd⟩ := deed_at hra hRows k hkn rfl
      conv => lhs; whnf
      refine go_in ⟨by omega, hlt⟩ ?_
      conv => lhs; whnf
      have hnext : treeParts T0 (parts.take (k + 1)) zxid dtime = treeChange Tk parts[k].h zxid dtime := by
        rw [List.take_succ_eq_append_getElem hkn, treeParts, List.foldl_append, hTke]; rfl
      generalize parts[k] = p at hpd hnext
      obtain ⟨pa7, pl7, pk7, pa14, pl14, pk14, pa15, pl15, pk15, rfl⟩ := hpd.form
      refine go_rd (rd_sub hCk.1 hpcs) ?_
      conv => lhs; whnf
      refine (hD _).2 ⟨(⟨Tk, Bk, Ok, t⟩, p, C, zxid, dtime), ⟨_, rfl, hTk, hpd, hCk⟩, fun v A9 hq => ?_⟩
      obtain ⟨B9, O9, hT9, hS9⟩ : StepTo Ak Bk Ok t (treeChange Tk p.h zxid dtime) A9 := hq
      conv => lhs; whnf
      exact (hD _).2 ⟨(⟨k + 1, A9, B9, O9, _⟩ : AG), ⟨⟨by show k + 1 ≤ parts.length; omega, hT9, hSk.trans hS9, hnext.symm⟩, ⟨inc_slot (k := k) (by omega), trivial⟩, trivial, rfl⟩, by show parts.length - (k + 1) < parts.length - k; omega, ⟨rfl, rfl, rfl, rfl, trivial⟩, ⟨rfl, trivial⟩⟩
    · have hlt : ¬ (k : Int) < parts.length := hlt
      have hkn : k = parts.length := by omega
      rw [hkn, List.take_length] at hTke
      obtain ⟨T1, hTo⟩ : ∃ T1, T1 = treeDo T (.mk ⟨zxid, 5, ses, turn, xid, dtime, path, data, owner, ver, cver, tmo, err, cfg, mem⟩ parts) := ⟨_, rfl⟩
      have hmid : StepTo A' B O t T1 Ak := ⟨Bk, Ok, by rw [hTo, hT0, ← hTke]; exact hTk, hSk⟩
      clear hTk hSk hTke
      generalize Ak = A1 at *
      conv => lhs; whnf
      obtain ⟨B1, O1, ⟨m1, s1, E1, hT1⟩, hS1⟩ := hmid
      have htop9 : A1.rd t 1 1 = some [.map (some s1)] := hT1.top.rd (o := 1) (n := 1) (by show 1 + 1 ≤ 2; omega)
      refine go_rd htop9 ?_
      conv => lhs; whnf
      refine go_lk (look_int hT1.smap ses) ?_
      cases hk : kGet ses T1.seats with
      | none =>
        have hlk : A1.look s1 (.int .i64 ses) = some none := by rw [look_int hT1.smap, hk]; rfl
        conv => lhs; whnf
        have hend : StepTo A' B O t (treeApply T (.mk ⟨zxid, 5, ses, turn, xid, dtime, path, data, owner, ver, cver, tmo, err, cfg, mem⟩ parts)) A1 := by
          rw [treeApply, if_pos hr, ← hTo]
          show StepTo A' B O t (treeTouch T1 ses turn) A1
          rw [treeTouch, hk]
          exact ⟨B1, O1, ⟨m1, s1, E1, hT1⟩, hS1⟩
        repeat (first | refine go_rd htop9 ?_ | refine go_lk hlk ?_ | refine go_D hD rfl ?_
                conv => lhs; whnf)
        exact (hD _).2 hend
      | some st =>
        obtain ⟨sses, stmo, sturn⟩ := st
        have hlk : A1.look s1 (.int .i64 ses) = some (some (.agg #[.int .i64 sses, .int .i64 stmo, .int .i64 sturn])) := by rw [look_int hT1.smap, hk]; rfl
        conv => lhs; whnf
        repeat (first | refine go_rd htop9 ?_ | refine go_lk hlk ?_ | refine go_D hD rfl ?_
                conv => lhs; whnf)
        refine (hD _).2 ⟨_, hT1.smap, intL_alike sitV ses _, fun A2 hm2 ho2 => ?_⟩
        have hmx : (bif true then bif decide (sturn < turn) then turn else sturn else bif decide (turn < sturn) then turn else sturn) = max sturn turn := by
          by_cases h9 : sturn < turn
          · simp only [h9, decide_true, cond_true]; omega
          · simp only [h9, decide_false, cond_true, cond_false]; omega
        have hm3 : MapAt A2 s1 (putL (.int .i64 ses) (sitV ⟨sses, stmo, max sturn turn⟩) (intL sitV T1.seats)) := by
          rw [← hmx]; exact hm2
        rw [intL_put] at hm3
        have hR2 := hT1.sit ho2 hm3 (kPut_nodup hT1.skeys)
        have hS2 : Step A1 B1 O1 A2 B1 O1 := step_map (hT1.own.2.2.1) ho2 hm3
        have hend : StepTo A' B O t (treeApply T (.mk ⟨zxid, 5, ses, turn, xid, dtime, path, data, owner, ver, cver, tmo, err, cfg, mem⟩ parts)) A2 := by
          rw [treeApply, if_pos hr, ← hTo]
          show StepTo A' B O t (treeTouch T1 ses turn) A2
          rw [treeTouch, hk]
          exact ⟨B1, O1, ⟨m1, s1, E1, hR2⟩, hS1.trans hS2⟩
        conv => lhs; whnf
        exact (hD _).2 hend
  by_cases h8 : kind = 8
  · subst h8
    have hSt : Step A' B O A' B O := Step.refl _ _ _
    have hst : TreeAt A' B O t T := ⟨m, s, E, h⟩
    have hT0 : treeDo T (.mk ⟨zxid, 8, ses, turn, xid, dtime, path, data, owner, ver, cver, tmo, err, cfg, mem⟩ parts) = treeParts T parts zxid dtime := rfl
    conv => lhs; whnf
    refine (hD _).2 ⟨applyInv A' B O t T parts zxid dtime, ⟨(⟨0, A', B, O, T⟩ : AG), ⟨Nat.zero_le _, hst, hSt, by rw [List.take_zero]; rfl⟩, ⟨rfl, trivial⟩, trivial, rfl⟩, fun (sg : AG) hG => ⟨⟨trivial, trivial⟩, trivial, ?_⟩⟩
    obtain ⟨k, Ak, Bk, Ok, Tk⟩ := sg
    obtain ⟨hk, hTk, hSk, hTke⟩ : k ≤ parts.length ∧ TreeAt Ak Bk Ok t Tk ∧ Step A' B O Ak Bk Ok ∧ Tk = treeParts T (parts.take k) zxid dtime := hG
    have hCk := hC.step hSk
    conv => lhs; whnf
    refine split_dec (fun hlt => ?_) (fun hlt => ?_)
    · have hlt : (k : Int) < parts.length := hlt
      have hkn : k < parts.length := by omega
      obtain ⟨ao15, c15, he15, hc15, hl15, hb1, hb2, hb3⟩ := hS
      injection he15 with he1 he2 he3
      subst he1 he3
      obtain ⟨pg, po, rfl, hra⟩ := Sl.at_ hc15 hb1 hb2 hb3 (by omega)
      obtain ⟨pcs, hpcs, hpd⟩ := deed_at hra hRows k hkn rfl
      conv => lhs; whnf
      refine go_in ⟨by omega, hlt⟩ ?_
      conv => lhs; whnf
      have hnext : treeParts T (parts.take (k + 1)) zxid dtime = treeChange Tk parts[k].h zxid dtime := by
        rw [List.take_succ_eq_append_getElem hkn, treeParts, List.foldl_append, hTke]; rfl
      generalize parts[k] = p at hpd hnext
      obtain ⟨pa7, pl7, pk7, pa14, pl14, pk14, pa15, pl15, pk15, rfl⟩ := hpd.form
      refine go_rd (rd_sub hCk.1 hpcs) ?_
      conv => lhs; whnf
      refine (hD _).2 ⟨(⟨Tk, Bk, Ok, t⟩, p, C, zxid, dtime), ⟨_, rfl, hTk, hpd, hCk⟩, fun v A9 hq => ?_⟩
      obtain ⟨B9, O9, hT9, hS9⟩ : StepTo Ak Bk Ok t (treeChange Tk p.h zxid dtime) A9 := hq
      conv => lhs; whnf
      exact (hD _).2 ⟨(⟨k + 1, A9, B9, O9, _⟩ : AG), ⟨⟨by show k + 1 ≤ parts.length; omega, hT9, hSk.trans hS9, hnext.symm⟩, ⟨inc_slot (k := k) (by omega), trivial⟩, trivial, rfl⟩, by show parts.length - (k + 1) < parts.length - k; omega, ⟨rfl, rfl, rfl, rfl, trivial⟩, ⟨rfl, trivial⟩⟩
    · have hlt : ¬ (k : Int) < parts.length := hlt
      have hkn : k = parts.length := by omega
      rw [hkn, List.take_length] at hTke
      obtain ⟨T1, hTo⟩ : ∃ T1, T1 = treeDo T (.mk ⟨zxid, 8, ses, turn, xid, dtime, path, data, owner, ver, cver, tmo, err, cfg, mem⟩ parts) := ⟨_, rfl⟩
      have hmid : StepTo A' B O t T1 Ak := ⟨Bk, Ok, by rw [hTo, hT0, ← hTke]; exact hTk, hSk⟩
      clear hTk hSk hTke
      generalize Ak = A1 at *
      conv => lhs; whnf
      obtain ⟨B1, O1, ⟨m1, s1, E1, hT1⟩, hS1⟩ := hmid
      have htop9 : A1.rd t 1 1 = some [.map (some s1)] := hT1.top.rd (o := 1) (n := 1) (by show 1 + 1 ≤ 2; omega)
      refine go_rd htop9 ?_
      conv => lhs; whnf
      refine go_lk (look_int hT1.smap ses) ?_
      cases hk : kGet ses T1.seats with
      | none =>
        have hlk : A1.look s1 (.int .i64 ses) = some none := by rw [look_int hT1.smap, hk]; rfl
        conv => lhs; whnf
        have hend : StepTo A' B O t (treeApply T (.mk ⟨zxid, 8, ses, turn, xid, dtime, path, data, owner, ver, cver, tmo, err, cfg, mem⟩ parts)) A1 := by
          rw [treeApply, if_pos hr, ← hTo]
          show StepTo A' B O t (treeTouch T1 ses turn) A1
          rw [treeTouch, hk]
          exact ⟨B1, O1, ⟨m1, s1, E1, hT1⟩, hS1⟩
        repeat (first | refine go_rd htop9 ?_ | refine go_lk hlk ?_ | refine go_D hD rfl ?_
                conv => lhs; whnf)
        exact (hD _).2 hend
      | some st =>
        obtain ⟨sses, stmo, sturn⟩ := st
        have hlk : A1.look s1 (.int .i64 ses) = some (some (.agg #[.int .i64 sses, .int .i64 stmo, .int .i64 sturn])) := by rw [look_int hT1.smap, hk]; rfl
        conv => lhs; whnf
        repeat (first | refine go_rd htop9 ?_ | refine go_lk hlk ?_ | refine go_D hD rfl ?_
                conv => lhs; whnf)
        refine (hD _).2 ⟨_, hT1.smap, intL_alike sitV ses _, fun A2 hm2 ho2 => ?_⟩
        have hmx : (bif true then bif decide (sturn < turn) then turn else sturn else bif decide (turn < sturn) then turn else sturn) = max sturn turn := by
          by_cases h9 : sturn < turn
          · simp only [h9, decide_true, cond_true]; omega
          · simp only [h9, decide_false, cond_true, cond_false]; omega
        have hm3 : MapAt A2 s1 (putL (.int .i64 ses) (sitV ⟨sses, stmo, max sturn turn⟩) (intL sitV T1.seats)) := by
          rw [← hmx]; exact hm2
        rw [intL_put] at hm3
        have hR2 := hT1.sit ho2 hm3 (kPut_nodup hT1.skeys)
        have hS2 : Step A1 B1 O1 A2 B1 O1 := step_map (hT1.own.2.2.1) ho2 hm3
        have hend : StepTo A' B O t (treeApply T (.mk ⟨zxid, 8, ses, turn, xid, dtime, path, data, owner, ver, cver, tmo, err, cfg, mem⟩ parts)) A2 := by
          rw [treeApply, if_pos hr, ← hTo]
          show StepTo A' B O t (treeTouch T1 ses turn) A2
          rw [treeTouch, hk]
          exact ⟨B1, O1, ⟨m1, s1, E1, hR2⟩, hS1.trans hS2⟩
        conv => lhs; whnf
        exact (hD _).2 hend
  · obtain ⟨T1, hTo⟩ : ∃ T1, T1 = treeDo T (.mk ⟨zxid, kind, ses, turn, xid, dtime, path, data, owner, ver, cver, tmo, err, cfg, mem⟩ parts) := ⟨_, rfl⟩
    have e : T1 = T := by
      rw [hTo, treeDo]
      split
      · rename_i h9; exact absurd h9 h123
      · split
        · rename_i h9; exact absurd h9 h4
        · split
          · rename_i h9; exact absurd h9 h5
          · split
            · rename_i h9; exact absurd h9 h8
            · rfl
    have hmid : StepTo A' B O t T1 A' := by rw [e]; exact ⟨B, O, ⟨m, s, E, h⟩, Step.refl _ _ _⟩
    repeat (refine no_dec (fun h9 => ?_) ?_
            · first | exact h4 h9 | exact h5 h9 | exact h8 h9 | exact h123 (by omega)
            conv => lhs; whnf)
    obtain ⟨B1, O1, ⟨m1, s1, E1, hT1⟩, hS1⟩ := hmid
    have htop9 : A'.rd t 1 1 = some [.map (some s1)] := hT1.top.rd (o := 1) (n := 1) (by show 1 + 1 ≤ 2; omega)
    refine go_rd htop9 ?_
    conv => lhs; whnf
    refine go_lk (look_int hT1.smap ses) ?_
    cases hk : kGet ses T1.seats with
    | none =>
      have hlk : A'.look s1 (.int .i64 ses) = some none := by rw [look_int hT1.smap, hk]; rfl
      conv => lhs; whnf
      have hend : StepTo A' B O t (treeApply T (.mk ⟨zxid, kind, ses, turn, xid, dtime, path, data, owner, ver, cver, tmo, err, cfg, mem⟩ parts)) A' := by
        rw [treeApply, if_pos hr, ← hTo]
        show StepTo A' B O t (treeTouch T1 ses turn) A'
        rw [treeTouch, hk]
        exact ⟨B1, O1, ⟨m1, s1, E1, hT1⟩, hS1⟩
      repeat (first | refine go_rd htop9 ?_ | refine go_lk hlk ?_ | refine go_D hD rfl ?_
              conv => lhs; whnf)
      exact (hD _).2 hend
    | some st =>
      obtain ⟨sses, stmo, sturn⟩ := st
      have hlk : A'.look s1 (.int .i64 ses) = some (some (.agg #[.int .i64 sses, .int .i64 stmo, .int .i64 sturn])) := by rw [look_int hT1.smap, hk]; rfl
      conv => lhs; whnf
      repeat (first | refine go_rd htop9 ?_ | refine go_lk hlk ?_ | refine go_D hD rfl ?_
              conv => lhs; whnf)
      refine (hD _).2 ⟨_, hT1.smap, intL_alike sitV ses _, fun A2 hm2 ho2 => ?_⟩
      have hmx : (bif true then bif decide (sturn < turn) then turn else sturn else bif decide (turn < sturn) then turn else sturn) = max sturn turn := by
        by_cases h9 : sturn < turn
        · simp only [h9, decide_true, cond_true]; omega
        · simp only [h9, decide_false, cond_true, cond_false]; omega
      have hm3 : MapAt A2 s1 (putL (.int .i64 ses) (sitV ⟨sses, stmo, max sturn turn⟩) (intL sitV T1.seats)) := by
        rw [← hmx]; exact hm2
      rw [intL_put] at hm3
      have hR2 := hT1.sit ho2 hm3 (kPut_nodup hT1.skeys)
      have hS2 : Step A' B1 O1 A2 B1 O1 := step_map (hT1.own.2.2.1) ho2 hm3
      have hend : StepTo A' B O t (treeApply T (.mk ⟨zxid, kind, ses, turn, xid, dtime, path, data, owner, ver, cver, tmo, err, cfg, mem⟩ parts)) A2 := by
        rw [treeApply, if_pos hr, ← hTo]
        show StepTo A' B O t (treeTouch T1 ses turn) A2
        rw [treeTouch, hk]
        exact ⟨B1, O1, ⟨m1, s1, E1, hR2⟩, hS1.trans hS2⟩
      conv => lhs; whnf
      exact (hD _).2 hend

end
end Go.Proofs.YtfpfjobknefedaaGreatDoor

namespace Go.Proofs.YtfpfjobknefedaaGreatDoor
open Go.Sx Go.RowKit
noncomputable section
open Classical

def KeysOk (T : TreeD) : Prop := ∀ e ∈ T.nodes, pathOk e.1.data.toList = true

theorem kMod_keys {κ α : Type} [BEq κ] (p : κ) (f : α → α) : ∀ l : List (κ × α), (kMod p f l).map (·.1) = l.map (·.1)
  | [] => rfl
  | (q, x) :: l => by
    simp only [kMod]
    cases p == q
    · simp [kMod_keys p f l]
    · rfl

theorem kPut_keys {κ α : Type} [BEq κ] (p : κ) (x : α) : ∀ (l : List (κ × α)) (q : κ), q ∈ (kPut p x l).map (·.1) → q ∈ l.map (·.1) ∨ q = p
  | [], q, h => by simpa [kPut] using h
  | (r, y) :: l, q, h => by
    simp only [kPut] at h
    cases hb : p == r <;> rw [hb] at h <;> simp only [cond_true, cond_false, List.map_cons, List.mem_cons] at h ⊢
    · rcases h with h | h
      · exact .inl (.inl h)
      · rcases kPut_keys p x l q h with h | h
        · exact .inl (.inr h)
        · exact .inr h
    · rcases h with h | h
      · exact .inr h
      · exact .inl (.inr h)

theorem kPut_len {κ α : Type} [BEq κ] (p : κ) (x : α) : ∀ l : List (κ × α), (kPut p x l).length ≤ l.length + 1
  | [] => by simp [kPut]
  | (r, y) :: l => by
    simp only [kPut]
    cases p == r
    · have := kPut_len p x l
      simp; omega
    · simp

theorem keysOk_iff {T : TreeD} : KeysOk T ↔ ∀ q ∈ T.nodes.map (·.1), pathOk q.data.toList = true := by
  simp [KeysOk]

theorem mark_keys {T : TreeD} (h : KeysOk T) (p : ByteArray) (z cv : Int) : KeysOk (treeMark T p z cv) := by
  rw [keysOk_iff] at h ⊢
  rw [treeMark]
  show ∀ q ∈ (kMod _ _ T.nodes).map (·.1), _
  rw [kMod_keys]; exact h

theorem change_keys {T : TreeD} (h : KeysOk T) {d : DeedH} (hd : d.kind = 1 → pathOk d.path.data.toList = true) (z time : Int) : KeysOk (treeChange T d z time) := by
  rw [treeChange]
  split
  · rw [keysOk_iff] at h ⊢
    show ∀ q ∈ (kMod _ _ T.nodes).map (·.1), _
    rw [kMod_keys]; exact h
  · split
    · rename_i h1
      refine mark_keys ?_ _ _ _
      rw [keysOk_iff] at h ⊢
      intro q hq
      rcases kPut_keys _ _ _ _ hq with h2 | rfl
      · exact h q h2
      · exact hd h1
    · split
      · refine mark_keys ?_ _ _ _
        intro e he
        exact h e ((kDel_sub _ _).subset he)
      · exact mark_keys h _ _ _

theorem mark_len (T : TreeD) (p : ByteArray) (z cv : Int) : (treeMark T p z cv).nodes.length = T.nodes.length := by
  rw [treeMark]
  have := congrArg List.length (kMod_keys (parentP p) (nodeMark z cv) T.nodes)
  simpa using this

theorem change_len (T : TreeD) (d : DeedH) (z time : Int) : (treeChange T d z time).nodes.length ≤ T.nodes.length + 1 := by
  rw [treeChange]
  split
  · have := congrArg List.length (kMod_keys d.path (nodeSet d z time) T.nodes)
    simp only [List.length_map] at this
    show (kMod _ _ T.nodes).length ≤ _
    omega
  · split
    · rw [mark_len]; exact kPut_len _ _ _
    · split
      · rw [mark_len]
        have := (kDel_sub d.path T.nodes).length_le
        show (kDel _ T.nodes).length ≤ _
        omega
      · rw [mark_len]; omega

theorem parts_keys (z time : Int) : ∀ (ps : List DeedD) (T : TreeD), KeysOk T → (∀ p ∈ ps, p.h.kind = 1 → pathOk p.h.path.data.toList = true) → KeysOk (treeParts T ps z time)
  | [], _, h, _ => h
  | p :: ps, _, h, hp => parts_keys z time ps _ (change_keys h (hp p (by simp)) z time) fun q hq => hp q (List.mem_cons_of_mem _ hq)

theorem parts_len (z time : Int) : ∀ (ps : List DeedD) (T : TreeD), (treeParts T ps z time).nodes.length ≤ T.nodes.length + ps.length
  | [], _ => Nat.le_refl _
  | p :: ps, T => by
    have h1 := parts_len z time ps (treeChange T p.h z time)
    have h2 := change_len T p.h z time
    show (treeParts (treeChange T p.h z time) ps z time).nodes.length ≤ _
    simp only [List.length_cons]; omega

theorem fits_path {h : DeedH} {np : Nat} (hf : FitsD h np) (h1 : h.kind = 1) : pathOk h.path.data.toList = true := by
  refine hf.2.2.2.2.2.2.2.2.2.2.1 ?_
  rw [h1]; rfl

theorem touch_nodes (T : TreeD) (ses turn : Int) : (treeTouch T ses turn).nodes = T.nodes := by
  rw [treeTouch]; split <;> rfl

theorem apply_keys {T : TreeD} (h : KeysOk T) (d : DeedD) : KeysOk (treeApply T d) := by
  rw [treeApply]
  split
  · rename_i hr
    have hk : KeysOk (treeDo T d) := by
      rw [treeDo]
      split
      · exact change_keys h (fits_path hr.2.2.2.2.2.2.1) _ _
      · split
        · exact h
        · split
          · rename_i h5
            exact parts_keys _ _ _ _ h fun p hp => fits_path ((hr.2.2.2.2.2.2.2.1 h5).2.2 p hp).2.2.2.2.2.1
          · split
            · rename_i h8
              exact parts_keys _ _ _ _ h fun p hp => fits_path ((hr.2.2.2.2.2.2.2.2.2 h8).2.2 p hp).2.2.2.2.2.1
            · exact h
    intro e he
    rw [touch_nodes] at he
    exact hk e he
  · exact h

theorem apply_len (T : TreeD) (d : DeedD) : (treeApply T d).nodes.length ≤ T.nodes.length + 1 + d.parts.length := by
  rw [treeApply]
  split
  · rw [touch_nodes, treeDo]
    split
    · have := change_len T d.h d.h.zxid d.h.time; omega
    · split
      · show T.nodes.length ≤ _; omega
      · split
        · have := parts_len d.h.zxid d.h.time d.parts ⟨T.nodes, kDel d.h.owner T.seats⟩
          dsimp only at this; omega
        · split
          · have := parts_len d.h.zxid d.h.time d.parts T; omega
          · omega
  · omega

end
end Go.Proofs.YtfpfjobknefedaaGreatDoor

namespace Go.Proofs.YtfpfjobknefedaaGreatDoor
open Go.Sx Go.RowKit
noncomputable section
open Classical

set_option maxRecDepth 100000 in
set_option maxHeartbeats 0 in
theorem base_ok : FOk Tryz.prog 43 baseS := by
  refine fok_v mixed fun s vs A hp => ?_
  obtain rfl : vs = [.string s] := hp
  refine ⟨_, noL, 60, cutC, noL_sound _, fun blk os out tape D hD => ?_⟩
  conv => lhs; whnf
  refine (hD _).2 ⟨s, rfl, fun v A' hq => ?_⟩
  obtain ⟨rfl, rfl⟩ : A' = A ∧ v = .tuple #[.string ⟨(cutP s.data.toList).1.toArray⟩, .string ⟨(cutP s.data.toList).2.toArray⟩] := hq
  conv => lhs; whnf
  exact (hD _).2 ⟨rfl, rfl⟩

end
end Go.Proofs.YtfpfjobknefedaaGreatDoor

namespace Go.Proofs.YtfpfjobknefedaaGreatDoor
open Go.Sx Go.RowKit
noncomputable section
open Classical

def strV (l : List UInt8) : Value := .string ⟨l.toArray⟩

/-- A slice of texts. -/
def SlT (A : Arena) (v : Value) (l : List (List UInt8)) : Prop := Sl A 1 l.length v (l.map strV) ∧ l.length ≤ 140737488351232

theorem text_at {A : Arena} {g o n : Nat} {ls : List (List UInt8)} (h : A.rd g o (n * 1) = some (ls.map strV)) (k : Nat) (hk : k < ls.length) (hn : n = ls.length) : A.rd g (o + k * 1) 1 = some [.string ⟨ls[k].toArray⟩] := by
  rw [rd_at h (i := k * 1) (m := 1) (by omega)]
  congr 1
  refine List.ext_getElem? fun i => ?_
  cases i with
  | zero => simp [hk, strV]
  | succ i =>
    simp
    omega

end
end Go.Proofs.YtfpfjobknefedaaGreatDoor

namespace Go.Proofs.YtfpfjobknefedaaGreatDoor
open Go.Sx Go.RowKit Go.Sort Go.Shelf
noncomputable section

def sortRen : Go.Shelf.Ren := ⟨fun | 190 => 44 | 125 => 65 | 258 => 64 | 128 => 84 | 129 => 85 | 302 => 75 | 303 => 76 | 304 => 77 | 305 => 78 | 306 => 79 | 307 => 80 | 308 => 81 | 309 => 82 | 310 => 83 | 333 => 107 | 329 => 108 | 330 => 109 | 334 => 110 | 335 => 111 | 336 => 71 | 344 => 120 | n => n, fun | 31 => 70 | 9 => 9 | 3 => 3 | 46 => 128 | 0 => 0 | 51 => 150 | 53 => 152 | 4 => 4 | 183 => 143 | 182 => 142 | 131 => 147 | 5 => 5 | 218 => 164 | 222 => 168 | 228 => 176 | 229 => 177 | n => n, fun | n => n⟩
theorem sortLays : Lays.n190 Tryz.prog sortRen where
  mixed := by kernel_rfl
  f125 := Tryz.func65.trans (congrArg some (by kernel_rfl))
  f128 := Tryz.func84.trans (congrArg some (by kernel_rfl))
  f129 := Tryz.func85.trans (congrArg some (by kernel_rfl))
  f190 := Tryz.func44.trans (congrArg some (by kernel_rfl))
  f258 := Tryz.func64.trans (congrArg some (by kernel_rfl))
  f302 := Tryz.func75.trans (congrArg some (by kernel_rfl))
  f303 := Tryz.func76.trans (congrArg some (by kernel_rfl))
  f304 := Tryz.func77.trans (congrArg some (by kernel_rfl))
  f305 := Tryz.func78.trans (congrArg some (by kernel_rfl))
  f306 := Tryz.func79.trans (congrArg some (by kernel_rfl))
  f307 := Tryz.func80.trans (congrArg some (by kernel_rfl))
  f308 := Tryz.func81.trans (congrArg some (by kernel_rfl))
  f309 := Tryz.func82.trans (congrArg some (by kernel_rfl))
  f310 := Tryz.func83.trans (congrArg some (by kernel_rfl))
  f329 := Tryz.func108.trans (congrArg some (by kernel_rfl))
  f330 := Tryz.func109.trans (congrArg some (by kernel_rfl))
  f333 := Tryz.func107.trans (congrArg some (by kernel_rfl))
  f334 := Tryz.func110.trans (congrArg some (by kernel_rfl))
  f335 := Tryz.func111.trans (congrArg some (by kernel_rfl))
  f336 := Tryz.func71.trans (congrArg some (by kernel_rfl))
  f344 := Tryz.func120.trans (congrArg some (by kernel_rfl))
  t0 := Tryz.underlying0
  a0 := Tryz.isAgg0
  z0 := Tryz.sizeOf0
  v0 := Tryz.zeroValue0
  t3 := Tryz.underlying3
  a3 := Tryz.isAgg3
  z3 := Tryz.sizeOf3
  v3 := Tryz.zeroValue3
  t4 := Tryz.underlying4
  a4 := Tryz.isAgg4
  z4 := Tryz.sizeOf4
  v4 := Tryz.zeroValue4
  t5 := Tryz.underlying5
  a5 := Tryz.isAgg5
  z5 := Tryz.sizeOf5
  v5 := Tryz.zeroValue5
  t9 := Tryz.underlying9
  a9 := Tryz.isAgg9
  z9 := Tryz.sizeOf9
  v9 := Tryz.zeroValue9
  t31 := Tryz.underlying70
  a31 := Tryz.isAgg70
  z31 := Tryz.sizeOf70
  v31 := Tryz.zeroValue70
  t46 := Tryz.underlying128
  a46 := Tryz.isAgg128
  z46 := Tryz.sizeOf128
  v46 := Tryz.zeroValue128
  t51 := Tryz.underlying150
  a51 := Tryz.isAgg150
  z51 := Tryz.sizeOf150
  v51 := Tryz.zeroValue150
  t53 := Tryz.underlying152
  a53 := Tryz.isAgg152
  z53 := Tryz.sizeOf152
  v53 := Tryz.zeroValue152
  t131 := Tryz.underlying147
  a131 := Tryz.isAgg147
  z131 := Tryz.sizeOf147
  v131 := Tryz.zeroValue147
  t182 := Tryz.underlying142
  a182 := Tryz.isAgg142
  z182 := Tryz.sizeOf142
  v182 := Tryz.zeroValue142
  t183 := Tryz.underlying143
  a183 := Tryz.isAgg143
  z183 := Tryz.sizeOf143
  v183 := Tryz.zeroValue143
  t218 := Tryz.underlying164
  a218 := Tryz.isAgg164
  z218 := Tryz.sizeOf164
  v218 := Tryz.zeroValue164
  t222 := Tryz.underlying168
  a222 := Tryz.isAgg168
  z222 := Tryz.sizeOf168
  v222 := Tryz.zeroValue168
  t228 := Tryz.underlying176
  a228 := Tryz.isAgg176
  z228 := Tryz.sizeOf176
  v228 := Tryz.zeroValue176
  t229 := Tryz.underlying177
  a229 := Tryz.isAgg177
  z229 := Tryz.sizeOf177
  v229 := Tryz.zeroValue177

def sortL (ss : List (List UInt8)) : List (List UInt8) := ss.mergeSort fun x y => decide (x ≤ y)

theorem sortL_length (ss : List (List UInt8)) : (sortL ss).length = ss.length := List.length_mergeSort _

theorem put_toList (d : List (List UInt8)) (c : Array Value) (h : d.length ≤ c.size) : (putCells encStr 0 d.toArray c).toList = c.toList.take 0 ++ d.map strV ++ c.toList.drop (0 + (d.map strV).length) := by
  refine List.ext_getElem? fun k => ?_
  simp only [putCells, Array.toList_mapIdx, List.getElem?_mapIdx, List.take_zero, List.nil_append, List.length_map, Nat.zero_add, Nat.zero_le, true_and, List.size_toArray, Nat.sub_zero]
  by_cases hk : k < d.length
  · rw [List.getElem?_append_left (by simpa using hk), List.getElem?_map, List.getElem?_eq_getElem hk]
    have hkc : k < c.toList.length := Nat.lt_of_lt_of_le hk h
    have h1 : c.toList[k]? = some c.toList[k] := List.getElem?_eq_getElem hkc
    rw [h1]
    simp [hk, strV]
  · rw [List.getElem?_append_right (by simpa using Nat.le_of_not_lt hk), List.length_map, List.getElem?_drop, Nat.add_sub_cancel' (Nat.le_of_not_lt hk)]
    cases c.toList[k]? <;> simp [hk]

/-- A row of strings is sorted where it lies. -/
def sortS : FSpec := ⟨Nat × List (List UInt8), fun g vs A => (g.2 = [] ∧ ∃ p cap, vs = [.slice p 0 cap]) ∨ (g.2 ≠ [] ∧ g.2.length < 4611686018427387904 ∧ A.Room g.1 0 g.2.length ∧ A.rd g.1 0 g.2.length = some (g.2.map strV) ∧ ∃ cap, vs = [.slice (some ⟨g.1, 0, none⟩) g.2.length cap]),
  fun g _ A _ A' => (g.2 = [] → A' = A) ∧ (g.2 ≠ [] → A.Put A' g.1 0 ((sortL g.2).map strV))⟩

theorem sort_ok : FOk Tryz.prog 44 sortS := by
  intro g vs A w hA hp
  refine goes_of_calls sortLays.f190 ⟨by kernel_rfl, by kernel_rfl⟩ ?_
  rcases hp with ⟨h0, p, cap, rfl⟩ | ⟨h0, hlt, ⟨c, t, fz, hb, hle, hfz⟩, hr, cap, rfl⟩
  · intro cs
    obtain ⟨e, w', fr, ⟨k1, k2⟩, k3⟩ := Any.slices_Sort_string_none sortLays p cap w cs
    subst k2
    exact ⟨e, w', fr, ⟨_, k1, A, ⟨fun _ => rfl, fun h => absurd h0 h⟩, rfl, rfl, rfl, fun _ _ _ => rfl, hA, fun k o ho => .inl ⟨o, ho⟩⟩, k3⟩
  · have hw := hA _ _ hb
    have hsz : g.1 < w.heap.size := by
      have := Array.getElem?_eq_some_iff.1 hw
      exact this.1
    have hH : Holds encStr w g.1 0 g.2.toArray := fun j hj => by
      have hj : j < g.2.length := by simpa using hj
      constructor
      · have hr' : (c.toList.drop 0).take g.2.length = g.2.map strV := by
          rw [A.rdeq] at hr
          unfold rdOf at hr
          rw [hb] at hr
          simp only at hr
          rw [if_pos (by omega)] at hr
          injection hr
        have h3 : ((c.toList.drop 0).take g.2.length)[j]? = (g.2.map strV)[j]? := by rw [hr']
        rw [List.drop_zero, List.getElem?_take, if_pos hj, List.getElem?_map, List.getElem?_eq_getElem hj] at h3
        unfold World.cell?
        rw [hw]
        simp only [Option.isSome_none, Bool.false_eq_true, if_false, Nat.zero_add]
        rw [← Array.getElem?_toList, h3]
        simp [strV, hj]
      · unfold World.frozen?
        rw [hw]
        have h9 := hfz.not (0 + j) (by omega)
        obtain ⟨lo, hi⟩ := fz
        dsimp only at h9 ⊢
        rw [← Bool.decide_and]
        exact decide_eq_false h9
    intro cs
    obtain ⟨e, w', fr, ⟨k1, n, os, k2⟩, k3⟩ := Any.slices_Sort_string sortLays g.1 0 cap g.2 w hH hsz hlt cs
    have hd : (sortL g.2).length ≤ c.size := by rw [sortL_length]; omega
    refine ⟨e, w', fr, ⟨_, k1, Arena.of (fun k => if k = g.1 then some (.cells (putCells encStr 0 (sortL g.2).toArray c) t fz) else A.blk k), ⟨fun h => absurd h h0, fun _ => ⟨⟨c, t, fz, _, hb, if_pos rfl, put_toList _ c hd⟩, fun k hk => if_neg hk⟩⟩, ?_⟩, k3⟩
    have k2 : w' = grow (putRow encStr (Sort.ahead w n) g.1 0 (sortL g.2).toArray) os := k2
    subst k2
    have at_ : ∀ k, k < w.heap.size → (grow (putRow encStr (Sort.ahead w n) g.1 0 (sortL g.2).toArray) os).heap[k]? = if k = g.1 then some (.cells (putCells encStr 0 (sortL g.2).toArray c) t fz) else w.heap[k]? := fun k hk => by
      show (((w.heap.modify g.1 (onCells (putCells encStr 0 (sortL g.2).toArray))) ++ os)[k]?) = _
      rw [Array.getElem?_append_left (by simpa using hk), Array.getElem?_modify]
      by_cases e : k = g.1
      · subst e; rw [if_pos rfl, if_pos rfl, hw]; rfl
      · rw [if_neg (fun h => e h.symm), if_neg e]
    have lt_ : ∀ k o, A.blk k = some o → k < w.heap.size := fun k o hk => (Array.getElem?_eq_some_iff.1 (hA k o hk)).1
    refine ⟨rfl, rfl, rfl, fun k hk hks => ?_, fun k o hk => ?_, fun k o hk => ?_⟩
    · rw [at_ k hks, if_neg fun e => (by rw [e, hb] at hk; cases hk)]
    · have hk : (if k = g.1 then some (Obj.cells (putCells encStr 0 (sortL g.2).toArray c) t fz) else A.blk k) = some o := hk
      by_cases e : k = g.1
      · rw [if_pos e] at hk
        rw [at_ k (e ▸ hsz), if_pos e, hk]
      · rw [if_neg e] at hk
        rw [at_ k (lt_ k o hk), if_neg e]; exact hA k o hk
    · have hk : (if k = g.1 then some (Obj.cells (putCells encStr 0 (sortL g.2).toArray c) t fz) else A.blk k) = some o := hk
      by_cases e : k = g.1
      · exact .inl ⟨_, e ▸ hb⟩
      · rw [if_neg e] at hk; exact .inl ⟨o, hk⟩

end
end Go.Proofs.YtfpfjobknefedaaGreatDoor

namespace Go.Proofs.YtfpfjobknefedaaGreatDoor
open Go.Sx Go.RowKit
noncomputable section
open Classical

def hasPrefixS : FSpec := ⟨ByteArray × ByteArray, fun g vs _ => vs = [.string g.1, .string g.2], fun g _ A v A' => A' = A ∧ v = .bool (decide (g.2.data.toList <+: g.1.data.toList))⟩

set_option maxRecDepth 100000 in
set_option maxHeartbeats 0 in
theorem hasPrefix_ok : FOk Tryz.prog 42 hasPrefixS := by
  refine fok_v mixed fun g vs A hp => ?_
  simp only [hasPrefixS] at hp
  obtain ⟨s, p⟩ := g
  obtain rfl : vs = _ := hp
  refine ⟨noC, noL, 60, noC_sound _, noL_sound _, fun blk os out tape D hD => ?_⟩
  conv => lhs; whnf
  refine split_dec (fun h1 => ?_) (fun h1 => ?_) <;> (conv => lhs; whnf) <;> dsimp only at h1
  · refine go_b (by simp only [Bool.and_eq_true, Bool.or_eq_true, decide_eq_true_eq]; omega) ?_
    conv => lhs; whnf
    refine (hD _).2 ⟨rfl, ?_⟩
    show Value.bool (beqL (List.take ((p.data.toList.length : Int).toNat - (0 : Int).toNat) (List.drop (0 : Int).toNat s.data.toList)) p.data.toList) = _
    congr 1
    rw [show (p.data.toList.length : Int).toNat - (0 : Int).toNat = p.data.toList.length by omega, show (0 : Int).toNat = 0 from rfl, List.drop_zero]
    cases hb : beqL (s.data.toList.take p.data.toList.length) p.data.toList with
    | true => exact (decide_eq_true (by rw [← beqL_iff.1 hb]; exact List.take_prefix _ _)).symm
    | false => exact (decide_eq_false fun h => beqL_ff.1 hb (List.prefix_iff_eq_take.1 h).symm).symm
  · refine (hD _).2 ⟨rfl, ?_⟩
    rw [decide_eq_false fun h => h1 (by have := h.length_le; dsimp only at this; omega)]
end
end Go.Proofs.YtfpfjobknefedaaGreatDoor

namespace Go.Sx
noncomputable section

/-- A row that is made by appending: none yet, or one in a block that A1 does not know. -/
def GrowR (A1 A : Arena) (es : Nat) (e : TypeId) (n : Nat) (v : Value) (cs : List Value) : Prop :=
  cs.length = n * es ∧ ((n = 0 ∧ v = .slice none 0 0) ∨
    ∃ g nc c, v = .slice (some ⟨g, 0, none⟩) n nc ∧ n ≤ nc ∧ 0 < nc ∧ A1.blk g = none ∧ A.blk g = some (.cells c e (0, 0)) ∧ c.size = nc * es ∧ c.toList.take (n * es) = cs)

theorem GrowR.nil (A1 A : Arena) (es : Nat) (e : TypeId) : GrowR A1 A es e 0 (.slice none 0 0) [] := ⟨by simp, .inl ⟨rfl, rfl⟩⟩

theorem GrowR.keep {A1 A A' : Arena} {es : Nat} {e : TypeId} {n : Nat} {v : Value} {cs : List Value} (h : GrowR A1 A es e n v cs) (hk : ∀ k, A1.blk k = none → A'.blk k = A.blk k) : GrowR A1 A' es e n v cs := by
  obtain ⟨h1, h2 | ⟨g, nc, c, h3, h4, h4', h5, h6, h7, h8⟩⟩ := h
  · exact ⟨h1, .inl h2⟩
  · exact ⟨h1, .inr ⟨g, nc, c, h3, h4, h4', h5, by rw [hk g h5]; exact h6, h7, h8⟩⟩

theorem GrowR.sub {A1 A A' : Arena} {es : Nat} {e : TypeId} {n : Nat} {v : Value} {cs : List Value} (h : GrowR A1 A es e n v cs) (hk : A.Sub A') : GrowR A1 A' es e n v cs := by
  obtain ⟨h1, h2 | ⟨g, nc, c, h3, h4, h4', h5, h6, h7, h8⟩⟩ := h
  · exact ⟨h1, .inl h2⟩
  · exact ⟨h1, .inr ⟨g, nc, c, h3, h4, h4', h5, hk g _ h6, h7, h8⟩⟩

/-- What an append to it asks. -/
structure GrowP (A : Arena) (base : Option (Nat × Nat)) (n c es bytes : Nat) (cs : List Value) : Prop where
  rd : baseRd A base (n * es) = some cs
  cap : c < n + 1 → Builtin.nextslicecap (n + 1) c * bytes ≤ 281474976710656
  none_ : base = none → n = 0 ∧ c = 0
  room : ∀ (m : Nat), m = es → ∀ g o, base = some (g, o) → n + 1 ≤ c → A.Room g (o + n * es) m

theorem GrowR.form {A1 A : Arena} {es : Nat} {e : TypeId} {n : Nat} {v : Value} {cs : List Value} (h : GrowR A1 A es e n v cs) :
    ∃ base c, v = .slice (addrA base) n c ∧ (base = none ∨ ∃ g, base = some (g, 0)) ∧ (∀ bytes, bytes ≤ 65536 → n ≤ 1000000000 → GrowP A base n c es bytes cs) ∧
    ∀ ys v' A', ys.length = es → (∀ k, A.blk k = none → A1.blk k = none) → Appended A base n c es e cs ys 1 v' A' → GrowR A1 A' es e (n + 1) v' (cs ++ ys) ∧ ∀ k o, A1.blk k = some o → A'.blk k = A.blk k := by
  obtain ⟨hl, ⟨rfl, rfl⟩ | ⟨g, nc, c, rfl, hn, hpos, hg, hb, hsz, ht⟩⟩ := h
  · have hcs : cs = [] := List.length_eq_zero_iff.1 (by rw [hl]; simp)
    subst hcs
    refine ⟨none, 0, rfl, .inl rfl, fun bytes hby hn => ⟨by simp [baseRd], fun h => ?_, fun _ => ⟨rfl, rfl⟩, fun _ _ _ _ h => (by cases h)⟩, fun ys v' A' hy hd ha => ?_⟩
    · have := nextcap_le h
      calc _ ≤ (2 * (0 + 1) + 768) * 65536 := Nat.mul_le_mul this hby
        _ ≤ _ := by omega
    · rcases ha with ⟨h0, _⟩ | ⟨_, g, nc, c, zs, rfl, hnc, hc, hz, hN⟩
      · omega
      · refine ⟨⟨by simp [hy], .inr ⟨g, nc, c, rfl, hnc, by omega, hd g hN.none_, hN.at_, ?_, ?_⟩⟩, fun k o hk => hN.other k fun e => (by subst e; rw [hd _ hN.none_] at hk; cases hk)⟩
        · rw [← Array.length_toList, hc]
          simp only [List.nil_append, List.length_append, hy, hz, Nat.zero_add]
          have : nc = (nc - 1) + 1 := by omega
          rw [show nc * es = ((nc - 1) + 1) * es by rw [← this], Nat.succ_mul]; omega
        · rw [hc]; simp [hy]
  · have hle : n * es ≤ nc * es := Nat.mul_le_mul_right _ hn
    refine ⟨some (g, 0), nc, rfl, .inr ⟨g, rfl⟩, fun bytes hby hnb => ⟨?_, fun h => ?_, fun h => (by cases h), fun m hm g' o' h hlt => ?_⟩, fun ys v' A' hy hd ha => ?_⟩
    · show (if n * es = 0 then some [] else A.rd g 0 (n * es)) = some cs
      by_cases h0 : n * es = 0
      · rw [if_pos h0]
        rw [h0] at hl; rw [List.length_eq_zero_iff.1 hl]
      · rw [if_neg h0, rd_mk hb (by omega)]; simp [ht]
    · have := nextcap_le h
      calc _ ≤ (2 * (n + 1) + 768) * 65536 := Nat.mul_le_mul this hby
        _ ≤ _ := by omega
    · injection h with h; injection h with h1 h2; subst h1; subst h2; subst hm
      refine ⟨c, e, (0, 0), hb, ?_, .inl rfl⟩
      have := Nat.mul_le_mul_right m hlt
      rw [Nat.succ_mul] at this; omega
    · rcases ha with ⟨h0, rfl, h3⟩ | ⟨h0, g', nc', c', zs, rfl, hnc, hc, hz, hN⟩
      · obtain ⟨c', k1, k2, k3⟩ : ∃ c', A'.blk g = some (.cells c' e (0, 0)) ∧ (∀ k, k ≠ g → A'.blk k = A.blk k) ∧ c'.toList = c.toList.take (n * es) ++ ys ++ c.toList.drop (n * es + ys.length) := by
          rcases h3 with ⟨rfl, rfl⟩ | ⟨g', o', h, hP⟩
          · exact ⟨c, hb, fun _ _ => rfl, by simp⟩
          · injection h with h; injection h with h1 h2; subst h1; subst h2
            obtain ⟨c0, t0, fz0, c', k1, k2, k3⟩ := hP.at_
            rw [hb] at k1
            injection k1 with k1; injection k1 with k1 k1' k1''
            subst k1; subst k1'; subst k1''
            exact ⟨c', k2, hP.other, by rw [k3]; simp⟩
        have hlen : n * es + es ≤ nc * es := by rw [← Nat.succ_mul]; exact Nat.mul_le_mul_right _ h0
        refine ⟨⟨by simp [hl, hy, Nat.succ_mul], .inr ⟨g, nc, c', rfl, h0, hpos, hg, k1, ?_, ?_⟩⟩, fun k o hk => k2 k fun e => (by subst e; rw [hg] at hk; cases hk)⟩
        · rw [← Array.length_toList, k3]
          simp only [List.length_append, List.length_take, List.length_drop, Array.length_toList, hsz, hy]
          omega
        · rw [k3, ht]
          rw [List.take_append_of_le_length (by simp [hl, hy, Nat.succ_mul])]
          rw [List.take_of_length_le (by simp [hl, hy, Nat.succ_mul])]
      · refine ⟨⟨by simp [hl, hy, Nat.succ_mul], .inr ⟨g', nc', c', rfl, hnc, by omega, hd g' hN.none_, hN.at_, ?_, ?_⟩⟩, fun k o hk => hN.other k fun e => (by subst e; rw [hd _ hN.none_] at hk; cases hk)⟩
        · rw [← Array.length_toList, hc]
          simp only [List.length_append, hl, hy, hz]
          obtain ⟨d, rfl⟩ : ∃ d, nc' = (n + 1) + d := ⟨nc' - (n + 1), by omega⟩
          rw [Nat.add_sub_cancel_left, Nat.add_mul, Nat.add_mul]; omega
        · rw [hc]
          rw [List.take_append_of_le_length (by simp [hl, hy, Nat.succ_mul])]
          rw [List.take_of_length_le (by simp [hl, hy, Nat.succ_mul])]

end
end Go.Sx

namespace Go.Proofs.YtfpfjobknefedaaGreatDoor
open Go.Sx Go.RowKit
noncomputable section
open Classical

/-- The names of the nodes right under a path, in no order. -/
def kidsOf (l : List ByteArray) (p : ByteArray) : List (List UInt8) := (l.filter fun q => decide (parentP q = p)).map fun q => (cutP q.data.toList).2

/-- The same, in order. -/
def treeKids (T : TreeD) (p : ByteArray) : List (List UInt8) := sortL (kidsOf (T.nodes.map (·.1)) p)

theorem kids_perm {l l' : List ByteArray} (h : l.Perm l') (p : ByteArray) : sortL (kidsOf l p) = sortL (kidsOf l' p) := mergeSort_of_perm ((h.filter _).map _)

theorem strL_keys {α : Type} (f : α → Value) (l : List (ByteArray × α)) : (strL f l).map (·.1) = (l.map (·.1)).map Value.string := by simp [strL, Function.comp_def]

/-- The nodes' map may be walked. -/
theorem walk_keys {A B : Arena} {O : Nat → Prop} {t : Nat} {T : TreeD} {m s : Nat} {E : List (ByteArray × Nat × NodeD)} (h : TreeR A B O t T m s E) : ((strL ptrV (kMap (·.1) E)).map (·.1)).Nodup := by
  rw [strL_keys, kMap_keys]
  exact List.pairwise_map.2 (h.keys.imp fun hab e => hab (by injection e))

theorem bytes_ext {a b : ByteArray} (h : a.data.toList = b.data.toList) : a = b := by
  obtain ⟨⟨a⟩⟩ := a; obtain ⟨⟨b⟩⟩ := b
  obtain rfl : a = b := h; rfl

theorem parent_prefix (q : ByteArray) : (parentP q).data.toList <+: q.data.toList := by
  show (cutP q.data.toList).1 <+: _
  unfold cutP
  split
  · exact List.take_prefix _ _
  · exact List.nil_prefix

theorem kids_snoc (l : List ByteArray) (q p : ByteArray) : kidsOf (l ++ [q]) p = kidsOf l p ++ if parentP q = p then [(cutP q.data.toList).2] else [] := by
  unfold kidsOf
  rw [List.filter_append, List.map_append]
  by_cases h : parentP q = p <;> simp [h]

theorem kids_le (l : List ByteArray) (p : ByteArray) : (kidsOf l p).length ≤ l.length := by
  rw [kidsOf, List.length_map]; exact List.length_filter_le _ _

/-- A walk over rows of one sort: all met, none twice. -/
theorem walk_perm {l : List ByteArray} {sk : List ByteArray} (h1 : sk.Nodup) (h2 : ∀ q ∈ sk, q ∈ l) (h3 : l.Nodup) (h4 : ∀ q ∈ l, q ∈ sk) : sk.Perm l :=
  (List.perm_ext_iff_of_nodup h1 h3).2 fun q => ⟨h2 q, h4 q⟩

theorem nodup_sub_le {α : Type} : ∀ {l k : List α}, l.Nodup → (∀ x ∈ l, x ∈ k) → l.length ≤ k.length
  | [], _, _, _ => Nat.zero_le _
  | x :: xs, k, hn, hs => by
    rw [List.nodup_cons] at hn
    obtain ⟨a, b, rfl⟩ := List.append_of_mem (hs x (by simp))
    have := nodup_sub_le (k := a ++ b) hn.2 fun y hy => (by
      have := hs y (List.mem_cons_of_mem _ hy)
      simp only [List.mem_append, List.mem_cons] at this ⊢
      rcases this with h | rfl | h
      · exact .inl h
      · exact absurd hy hn.1
      · exact .inr h)
    simp only [List.length_append, List.length_cons] at this ⊢
    omega

structure LG where
  A : Arena
  sk : List ByteArray
  v : Value

def listInv (A0 A1 : Arena) (i m : Nat) (l : List (Value × Value)) (keys : List ByteArray) (p : ByteArray) : LInv :=
  { γ := LG, G := fun g => A0.Sub g.A ∧ (∀ k, g.A.blk k = none → A1.blk k = none) ∧ IterAt g.A i m l (g.sk.map Value.string) ∧ GrowR A1 g.A 1 9 (kidsOf g.sk p).length g.v ((kidsOf g.sk p).map strV) ∧ g.sk.Nodup ∧ ∀ q ∈ g.sk, q ∈ keys,
    keepS := [1, 24], keepB := [], sl := fun g => [(6, .v g.v)], bl := fun _ => [], ar := fun g => g.A, mu := fun g => keys.length - g.sk.length }

def listS : FSpec := ⟨TG × ByteArray, fun g vs A => vs = [.pointer (some ⟨g.1.t, 0, none⟩), .string g.2] ∧ TreeAt A g.1.B g.1.O g.1.t g.1.T ∧ g.1.T.nodes.length ≤ 1000000,
  fun g _ A v A' => A.Sub A' ∧ ∃ x, v = .tuple #[x, .bool (kGet g.2 g.1.T.nodes).isSome] ∧ Sl (A'.minus A) 1 (if (kGet g.2 g.1.T.nodes).isSome then treeKids g.1.T g.2 else []).length x ((if (kGet g.2 g.1.T.nodes).isSome then treeKids g.1.T g.2 else []).map strV)⟩

set_option maxRecDepth 100000 in
set_option maxHeartbeats 0 in
theorem list_ok : FOk Tryz.prog 24 listS := by
  refine fok_v mixed fun ⟨⟨T, B, O, t⟩, p⟩ vs A hp => ?_
  obtain ⟨rfl, ⟨m, s, E, h⟩, hlen⟩ : vs = [.pointer (some ⟨t, 0, none⟩), .string p] ∧ TreeAt A B O t T ∧ T.nodes.length ≤ 1000000 := hp
  have hCt : CTSound Tryz.prog (lookC [specE 33 parentS, specE 43 baseS, specE 42 hasPrefixS, specE 44 sortS] noC) := lookC_sound (noC_sound _) (fun x hx => by
    simp only [List.mem_cons, List.not_mem_nil, or_false] at hx
    rcases hx with rfl | rfl | rfl | rfl
    · exact specE_ok parent_ok
    · exact specE_ok base_ok
    · exact specE_ok hasPrefix_ok
    · exact specE_ok sort_ok)
  refine ⟨_, tabO Tryz.prog _ noL 60 [(24, 0)], 60, hCt, tabO_sound mixed hCt (noL_sound _) _ _, fun blk os out tape D hD => ?_⟩
  have htop : A.rd t 0 1 = some [.map (some m)] := h.top.rd (o := 0) (n := 1) (by show 0 + 1 ≤ 2; omega)
  conv => lhs; whnf
  refine go_rd htop ?_
  conv => lhs; whnf
  repeat (first | refine go_rd htop ?_ | refine go_D hD rfl ?_
          conv => lhs; whnf)
  refine go_lk (h.look p) ?_
  cases hk : kGet p E with
  | none =>
    have hlk : A.look m (.string p) = some none := by rw [h.look, hk]; rfl
    have hT : kGet p T.nodes = none := by rw [h.get, hk]; rfl
    conv => lhs; whnf
    repeat (first | refine go_rd htop ?_ | refine go_lk hlk ?_ | refine go_D hD rfl ?_
            conv => lhs; whnf)
    have hend : listS.post (⟨T, B, O, t⟩, p) [.pointer (some ⟨t, 0, none⟩), .string p] A (.tuple #[.slice none 0 0, .bool false]) A := by
      refine ⟨Arena.Sub.refl _, .slice none 0 0, by rw [hT]; rfl, ?_⟩
      rw [hT]
      exact Sl.nil _ _
    exact (hD _).2 hend
  | some x =>
    obtain ⟨g, n⟩ := x
    have hlk : A.look m (.string p) = some (some (.pointer (some ⟨g, 0, none⟩))) := by rw [h.look, hk]; rfl
    have hT : kGet p T.nodes = some n := by rw [h.get, hk]; rfl
    conv => lhs; whnf
    repeat (first | refine go_rd htop ?_ | refine go_lk hlk ?_ | refine go_D hD rfl ?_
            conv => lhs; whnf)
    refine (hD _).2 ⟨_, h.nmap, walk_keys h, fun i A1 hi hA1 hI => ?_⟩
    have hA1 : ∀ k, k ≠ i → A1.blk k = A.blk k := hA1
    have hi : A.blk i = none := hi
    have hsub1 : A.Sub A1 := fun k o hk => by rw [hA1 k fun e => by subst e; rw [hi] at hk; cases hk]; exact hk
    have hdom1 : ∀ k, A1.blk k = none → A.blk k = none := fun k hk => by
      cases hA : A.blk k with
      | none => rfl
      | some o => rw [hsub1 k o hA] at hk; cases hk
    have hkl : (E.map (·.1)).length ≤ 1000000 := by rw [List.length_map]; rw [h.nodes, kMap, List.length_map] at hlen; exact hlen
    have hi1 : ∃ o, A1.blk i = some o := by
      obtain ⟨es, clock, seen, h1, h2, h3, h4, h5, h6, h7⟩ := hI
      exact ⟨_, h6⟩
    have hm1 : ∃ o, A1.blk m = some o := by
      obtain ⟨es, clock, seen, h1, h2, h3, h4, h5, h6, h7⟩ := hI
      exact ⟨_, h1⟩
    obtain ⟨L, hL⟩ : ∃ L : List (Value × Value), L = strL ptrV (kMap (fun x : Nat × NodeD => x.1) E) := ⟨_, rfl⟩
    obtain ⟨Ks, hK⟩ : ∃ Ks : List ByteArray, Ks = E.map (fun x : ByteArray × Nat × NodeD => x.1) := ⟨_, rfl⟩
    have hKT : T.nodes.map (·.1) = Ks := by rw [h.nodes, kMap_keys, hK]
    have hIL : IterAt A1 i m L [] := by rw [hL]; exact hI
    have hLm : ∀ e ∈ L, ∃ q g, e = (Value.string q, ptrV g) ∧ q ∈ Ks := fun e he => by
      rw [hL] at he
      obtain ⟨x, hx, rfl⟩ := List.mem_map.1 he
      obtain ⟨y, hy, rfl⟩ := List.mem_map.1 hx
      exact ⟨_, _, rfl, by rw [hK]; exact List.mem_map.2 ⟨y, hy, rfl⟩⟩
    have hLk : ∀ q ∈ Ks, ∃ e ∈ L, e.1 = Value.string q := fun q hq => by
      rw [hK] at hq
      obtain ⟨y, hy, rfl⟩ := List.mem_map.1 hq
      rw [hL]
      exact ⟨_, List.mem_map.2 ⟨_, List.mem_map.2 ⟨y, hy, rfl⟩, rfl⟩, rfl⟩
    have hKn : Ks.Nodup := by rw [hK]; exact h.keys
    have hkl : Ks.length ≤ 1000000 := by rw [hK]; exact hkl
    conv => lhs; whnf
    refine (hD _).2 ⟨listInv A A1 i m L Ks p, ⟨(⟨A1, [], .slice none 0 0⟩ : LG), ⟨hsub1, fun _ hk => hk, hIL, GrowR.nil _ _ _ _, List.nodup_nil, fun _ hq => (by cases hq)⟩, ⟨rfl, trivial⟩, trivial, rfl⟩, fun (sg : LG) hG => ⟨⟨trivial, trivial⟩, trivial, ?_⟩⟩
    obtain ⟨As, sk, v0⟩ := sg
    obtain ⟨hAs, hds, hIs, hGs, hnd, hin⟩ : A.Sub As ∧ (∀ k, As.blk k = none → A1.blk k = none) ∧ IterAt As i m L (sk.map Value.string) ∧ GrowR A1 As 1 9 (kidsOf sk p).length v0 ((kidsOf sk p).map strV) ∧ sk.Nodup ∧ ∀ q ∈ sk, q ∈ Ks := hG
    conv => lhs; whnf
    refine (hD _).2 (.inl ⟨m, _, _, hIs, fun e he hn A2 hA2 hI2 hent => ?_, fun hall => ?_⟩)
    · obtain ⟨q, gq, rfl, hq⟩ := hLm e he
      have hn : q ∉ sk := fun hh => hn (List.mem_map.2 ⟨q, hh, rfl⟩)
      have hA2 : ∀ b, b ≠ i → A2.blk b = As.blk b := hA2
      have hent : A2.ent i = some (.tuple #[.string q, .pointer (some ⟨gq, 0, none⟩)]) := hent
      conv => lhs; whnf
      split
      rotate_left
      · rename_i hv
        exact absurd (hent.symm.trans hv) (by simp)
      rename_i v hv
      obtain rfl := Option.some.inj (hent.symm.trans hv)
      conv => lhs; whnf
      refine (hD _).2 ⟨(q, p), rfl, fun v A' hq' => ?_⟩
      obtain ⟨rfl, rfl⟩ : A' = A2 ∧ v = .bool (decide (p.data.toList <+: q.data.toList)) := hq'
      have hAsA : A.Sub A' := fun k o hk => by rw [hA2 k fun e => by subst e; rw [hi] at hk; cases hk]; exact hAs k o hk
      have hI3 : IterAt A' i m L ((sk ++ [q]).map Value.string) := by rw [List.map_append]; exact hI2
      have hdsA : ∀ k, A'.blk k = none → A1.blk k = none := fun k hk => by
        by_cases e : k = i
        · subst e
          obtain ⟨es, clock, seen, h1, h2, h3, h4, h5, h6, h7⟩ := hI2
          rw [h6] at hk; cases hk
        · rw [hA2 k e] at hk; exact hds k hk
      have hGk := hGs.keep (A' := A') fun k hk => hA2 k fun e => by subst e; rw [hi1.choose_spec] at hk; cases hk
      have hnd' : (sk ++ [q]).Nodup := List.nodup_append.2 ⟨hnd, by simp, fun a ha b hb => by
        simp only [List.mem_singleton] at hb
        subst hb; exact fun e => hn (e ▸ ha)⟩
      have hin' : ∀ x ∈ sk ++ [q], x ∈ Ks := fun x hx => by
        rcases List.mem_append.1 hx with hx | hx
        · exact hin x hx
        · simp only [List.mem_singleton] at hx; subst hx; exact hq
      have hcnt := nodup_sub_le hnd' hin'
      rw [List.length_append, List.length_singleton] at hcnt
      have hmu : Ks.length - (sk ++ [q]).length < Ks.length - sk.length := by rw [List.length_append, List.length_singleton]; omega
      have hskip : parentP q ≠ p → (listInv A A1 i m L Ks p).G (⟨A', sk ++ [q], v0⟩ : LG) := fun hne => ⟨hAsA, hdsA, hI3, by
        show GrowR A1 A' 1 9 (kidsOf (sk ++ [q]) p).length v0 ((kidsOf (sk ++ [q]) p).map strV)
        rw [kids_snoc, if_neg hne, List.append_nil]; exact hGk, hnd', hin'⟩
      conv => lhs; whnf
      refine split_dec (fun hpre => ?_) (fun hpre => ?_) <;> (conv => lhs; whnf)
      rotate_left
      · exact (hD _).2 ⟨(⟨A', sk ++ [q], v0⟩ : LG), ⟨hskip fun e => hpre (e ▸ parent_prefix q), ⟨rfl, trivial⟩, trivial, rfl⟩, hmu, ⟨rfl, rfl, trivial⟩, trivial⟩
      refine (hD _).2 ⟨q, rfl, fun v A9 hq9 => ?_⟩
      obtain ⟨rfl, rfl⟩ : A9 = A' ∧ v = .string (parentP q) := hq9
      conv => lhs; whnf
      refine split_b (fun hb => ?_) (fun hb => ?_) <;> (conv => lhs; whnf)
      rotate_left
      · exact (hD _).2 ⟨(⟨A9, sk ++ [q], v0⟩ : LG), ⟨hskip fun e => beqL_ff.1 hb (by rw [e]), ⟨rfl, trivial⟩, trivial, rfl⟩, hmu, ⟨rfl, rfl, trivial⟩, trivial⟩
      have hpq : parentP q = p := bytes_ext (beqL_iff.1 hb)
      refine (hD _).2 ⟨q, rfl, fun v A8 hq8 => ?_⟩
      obtain ⟨rfl, rfl⟩ : A8 = A9 ∧ v = .string (baseP q) := hq8
      conv => lhs; whnf
      refine (hD _).2 fun gb A7 hN => ?_
      have hN : A8.New A7 gb #[.string (baseP q)] 9 := hN
      have hA7 : A.Sub A7 := hAsA.trans hN.sub
      have hds7 : ∀ k, A7.blk k = none → A8.blk k = none := fun k hk => by
        cases h8 : A8.blk k with
        | none => rfl
        | some o => rw [hN.sub k o h8] at hk; cases hk
      have hG7 := hGk.sub hN.sub
      have hI7 : IterAt A7 i m L ((sk ++ [q]).map Value.string) := hI3.sub fun b o _ hb => hN.sub b o hb
      obtain ⟨base, c, rfl, hbase, hP, hA⟩ := hG7.form
      have hP := hP 16 (by omega) (by have := kids_le sk p; omega)
      have hrow : A7.rd gb 0 (1 * 1) = some [.string (baseP q)] := hN.rd (o := 0) (n := 1 * 1) (by show 0 + 1 * 1 ≤ 1; omega)
      have hds6 : ∀ k, A7.blk k = none → A1.blk k = none := fun k hk => hdsA k (hds7 k hk)
      rcases hbase with rfl | ⟨g0, rfl⟩ <;> (conv => lhs; whnf)
      all_goals
        refine (hD _).2 ⟨(kidsOf sk p).map strV, [.string (baseP q)], hP.rd, ?_, rfl, ?_, ?_, hP.cap, rfl, hP.none_, fun g' o' he' hle' _ => hP.room 1 rfl g' o' he' hle', fun v A6 hAp => ?_⟩
        · show (if 1 = 0 then some [] else A7.rd gb 0 (1 * 1)) = _
          rw [if_neg (by omega)]; exact hrow
        · intro v hv
          simp only [List.mem_singleton] at hv
          subst hv; rfl
        · have := kids_le sk p
          show (kidsOf sk p).length + 1 ≤ 9223372036854775807
          omega
        · obtain ⟨hG6, hk6⟩ := hA _ _ _ rfl hds6 hAp
          have hA6 : A.Sub A6 := fun k o hk => by rw [hk6 k o (hsub1 k o hk)]; exact hA7 k o hk
          have hd6 : ∀ k, A6.blk k = none → A1.blk k = none := fun k hk => by
            cases h1 : A1.blk k with
            | none => rfl
            | some o => rw [hk6 k o h1] at hk; rw [hds6 k hk] at h1; cases h1
          have hI6 : IterAt A6 i m L ((sk ++ [q]).map Value.string) := hI7.sub fun b o hb ho => by
            rcases hb with rfl | rfl
            · rw [hk6 _ _ hi1.choose_spec]; exact ho
            · rw [hk6 _ _ hm1.choose_spec]; exact ho
          have hg6 : (listInv A A1 i m L Ks p).G (⟨A6, sk ++ [q], v⟩ : LG) := ⟨hA6, hd6, hI6, by
            show GrowR A1 A6 1 9 (kidsOf (sk ++ [q]) p).length v ((kidsOf (sk ++ [q]) p).map strV)
            rw [kids_snoc, if_pos hpq, List.length_append, List.map_append]; exact hG6, hnd', hin'⟩
          conv => lhs; whnf
          exact (hD _).2 ⟨(⟨A6, sk ++ [q], v⟩ : LG), ⟨hg6, ⟨rfl, trivial⟩, trivial, rfl⟩, hmu, ⟨rfl, rfl, trivial⟩, trivial⟩
    · have hall' : ∀ q ∈ Ks, q ∈ sk := fun q hq => by
        obtain ⟨e, he, h1⟩ := hLk q hq
        have := hall e he
        rw [h1] at this
        obtain ⟨q', hq', h2⟩ := List.mem_map.1 this
        injection h2 with h2
        exact h2 ▸ hq'
      have hkids : sortL (kidsOf sk p) = treeKids T p := by
        rw [treeKids, hKT]; exact kids_perm (walk_perm hnd hin hKn hall') p
      have hsz : (kidsOf sk p).length ≤ 1000000 := Nat.le_trans (kids_le sk p) (Nat.le_trans (nodup_sub_le hnd hin) hkl)
      have hfin : ∀ x A5, A.Sub A5 → Sl (A5.minus A) 1 (kidsOf sk p).length x ((sortL (kidsOf sk p)).map strV) → listS.post (⟨T, B, O, t⟩, p) [.pointer (some ⟨t, 0, none⟩), .string p] A (.tuple #[x, .bool true]) A5 := fun x A5 h5 hS => by
        refine ⟨h5, x, by rw [hT]; rfl, ?_⟩
        rw [hT]
        show Sl (A5.minus A) 1 (treeKids T p).length x ((treeKids T p).map strV)
        rw [← hkids, sortL_length]; exact hS
      obtain ⟨hl0, ⟨h0, rfl⟩ | ⟨g0, nc, c, rfl, hle0, hpos0, hg0, hb0, hs0, ht0⟩⟩ := hGs
      · have hk0 : kidsOf sk p = [] := List.length_eq_zero_iff.1 h0
        conv => lhs; whnf
        refine (hD _).2 ⟨(0, kidsOf sk p), .inl ⟨hk0, none, 0, rfl⟩, fun v A5 hq => ?_⟩
        obtain rfl : A5 = As := hq.1 hk0
        have hend := hfin (.slice none 0 0) A5 hAs (by rw [hk0]; show Sl _ 1 0 _ ((sortL []).map strV); rw [show sortL [] = [] from List.mergeSort_nil]; exact Sl.nil _ _)
        conv => lhs; whnf
        exact (hD _).2 hend
      · by_cases hk0 : kidsOf sk p = []
        · conv => lhs; whnf
          refine (hD _).2 ⟨(0, kidsOf sk p), .inl ⟨hk0, some ⟨g0, 0, none⟩, nc, by rw [hk0]; rfl⟩, fun v A5 hq => ?_⟩
          obtain rfl : A5 = As := hq.1 hk0
          have hend := hfin (.slice (some ⟨g0, 0, none⟩) (kidsOf sk p).length nc) A5 hAs (by rw [hk0]; show Sl _ 1 0 _ ((sortL []).map strV); rw [show sortL [] = [] from List.mergeSort_nil]; exact Sl.zero _ _ (fun h => (by cases h)) fun a ha _ => by injection ha with ha; subst ha; rfl)
          conv => lhs; whnf
          exact (hD _).2 hend
        · have hroom : As.Room g0 0 (kidsOf sk p).length := ⟨c, 9, (0, 0), hb0, by omega, .inl rfl⟩
          have hrd0 : As.rd g0 0 (kidsOf sk p).length = some ((kidsOf sk p).map strV) := by
            rw [rd_mk hb0 (by omega), List.drop_zero]
            rw [Nat.mul_one] at ht0; rw [ht0]
          conv => lhs; whnf
          refine (hD _).2 ⟨(g0, kidsOf sk p), .inr ⟨hk0, by show (kidsOf sk p).length < _; omega, hroom, hrd0, nc, rfl⟩, fun v A5 hq => ?_⟩
          have hP5 : As.Put A5 g0 0 ((sortL (kidsOf sk p)).map strV) := hq.2 hk0
          have hAg : A.blk g0 = none := hdom1 g0 hg0
          have hA5 : A.Sub A5 := hP5.sub hAs hAg
          have hend := hfin (.slice (some ⟨g0, 0, none⟩) (kidsOf sk p).length nc) A5 hA5 (by
            refine Sl.row hle0 (rd_minus ?_ hAg)
            obtain ⟨c0, t0, fz0, c', k1, k2, k3⟩ := hP5.at_
            rw [hb0] at k1
            injection k1 with k1; injection k1 with k1 k1' k1''
            subst k1; subst k1'; subst k1''
            have hsl := sortL_length (kidsOf sk p)
            rw [Nat.mul_one, rd_mk k2 (by
              rw [← Array.length_toList, k3]
              simp only [List.length_append, List.length_take, List.length_drop, List.length_map, hsl, Array.length_toList]
              omega), List.drop_zero, k3]
            simp [hsl])
          conv => lhs; whnf
          exact (hD _).2 hend

end
end Go.Proofs.YtfpfjobknefedaaGreatDoor

namespace Go.Proofs.YtfpfjobknefedaaGreatDoor
open Go.Sx Go.RowKit
noncomputable section
open Classical

def rootS : ByteArray := ⟨#[47]⟩
def treeNew : TreeD := ⟨[(rootS, ⟨[], ⟨0, 0, 0, 0, 0, 0, 0, 0, 0, 0⟩⟩)], []⟩

def alTree : TypeId → Bool := fun t => Nat.beq t 84 || Nat.beq t 88

def newS : FSpec := ⟨Unit, fun _ vs _ => vs = [],
  fun _ _ A v A' => ∃ t O, v = .pointer (some ⟨t, 0, none⟩) ∧ TreeAt A' Arena.void O t treeNew ∧ A.Sub A' ∧ ∀ k, O k → A.blk k = none⟩

set_option maxRecDepth 100000 in
set_option maxHeartbeats 0 in
theorem new_ok : FOk Tryz.prog 17 newS := by
  refine fok_a mixed alTree fun _ vs A hp => ?_
  obtain rfl : vs = [] := hp
  refine ⟨noC, noL, 60, noC_sound _, noL_sound _, fun blk os out tape D hD => ?_⟩
  conv => lhs; whnf
  refine (hD _).2 fun m A1 hm hA1 hM1 => ?_
  conv => lhs; whnf
  refine (hD _).2 fun g A2 hN2 => ?_
  have hN2 : A1.New A2 g #[.slice none 0 0, .int .i64 0, .int .i64 0, .int .i64 0, .int .i64 0, .int .i64 0, .int .i64 0, .int .i64 0, .int .i64 0, .int .i64 0, .int .i64 0] 84 := hN2
  have hM2 : MapAt A2 m [] := hM1.sub fun o ho => hN2.sub m o ho
  conv => lhs; whnf
  refine (hD _).2 ⟨[], hM2, fun e he => (by cases he), fun A3 hM3 hA3 => ?_⟩
  have hM3 : MapAt A3 m [(.string rootS, ptrV g)] := hM3
  have hA3 : ∀ k, k ≠ m → A3.blk k = A2.blk k := hA3
  conv => lhs; whnf
  refine (hD _).2 fun s A4 hs hA4 hM4 => ?_
  have hs : A3.blk s = none := hs
  have hA4 : ∀ k, k ≠ s → A4.blk k = A3.blk k := hA4
  conv => lhs; whnf
  refine (hD _).2 fun t A5 hN5 => ?_
  have hN5 : A4.New A5 t #[.map (some m), .map (some s)] 88 := hN5
  conv => lhs; whnf
  have hm : A.blk m = none := hm
  have hA1 : ∀ k, k ≠ m → A1.blk k = A.blk k := hA1
  have map_ : ∀ {X : Arena} {k : Nat} {l : List (Value × Value)}, MapAt X k l → X.blk k ≠ none := fun {X k l} h hn => by
    obtain ⟨es, cl, h9, _⟩ := h
    rw [h9] at hn; cases hn
  have gm : g ≠ m := fun e => by subst e; exact map_ hM1 hN2.none_
  have sm : s ≠ m := fun e => by subst e; exact map_ hM3 hs
  have sg : s ≠ g := fun e => by subst e; rw [hA3 _ gm, hN2.at_] at hs; cases hs
  have hm4 : MapAt A4 m [(.string rootS, ptrV g)] := hM3.sub fun o ho => by rw [hA4 _ fun e => sm e.symm]; exact ho
  have hg4 : A4.blk g = some (.cells #[.slice none 0 0, .int .i64 0, .int .i64 0, .int .i64 0, .int .i64 0, .int .i64 0, .int .i64 0, .int .i64 0, .int .i64 0, .int .i64 0, .int .i64 0] 84 (0, 0)) := by
    rw [hA4 _ fun e => sg e.symm, hA3 _ gm]; exact hN2.at_
  have tm : t ≠ m := fun e => by subst e; exact map_ hm4 hN5.none_
  have ts : t ≠ s := fun e => by subst e; exact map_ hM4 hN5.none_
  have tg : t ≠ g := fun e => by subst e; have := hN5.none_; rw [hg4] at this; cases this
  have hm5 : MapAt A5 m [(.string rootS, ptrV g)] := hm4.sub fun o ho => hN5.sub _ _ ho
  have hs5 : MapAt A5 s [] := hM4.sub fun o ho => hN5.sub _ _ ho
  have hg5 := hN5.sub _ _ hg4
  have hold : ∀ k, k ≠ m → k ≠ g → k ≠ s → k ≠ t → A5.blk k = A.blk k := fun k h1 h2 h3 h4 => by rw [hN5.other k h4, hA4 k h3, hA3 k h1, hN2.other k h2, hA1 k h1]
  have ag : A.blk g = none := by rw [← hA1 g gm]; exact hN2.none_
  have as_ : A.blk s = none := by rw [← hA1 s sm, ← hN2.other s sg, ← hA3 s sm]; exact hs
  have at_ : A.blk t = none := by rw [← hA1 t tm, ← hN2.other t tg, ← hA3 t tm, ← hA4 t ts]; exact hN5.none_
  have hR : TreeR A5 Arena.void (fun k => k = t ∨ k = m ∨ k = s ∨ k = g) t treeNew m s [(rootS, g, ⟨[], ⟨0, 0, 0, 0, 0, 0, 0, 0, 0, 0⟩⟩)] :=
    { nodes := rfl
      top := CellsAt.new hN5
      nmap := hm5
      smap := hs5
      cells := fun e he => by
        simp only [List.mem_singleton] at he
        subst he
        exact ⟨.slice none 0 0, ⟨_, _, _, hg5, .inl rfl, rfl⟩, Sl.nil _ _, by simp⟩
      keys := by simp
      ptrs := by simp
      skeys := by simp [treeNew]
      sub := fun k o hk => (by cases hk)
      own := ⟨.inl rfl, .inr (.inl rfl), .inr (.inr (.inl rfl)), fun e he => by
        simp only [List.mem_singleton] at he
        subst he; exact .inr (.inr (.inr rfl))⟩
      off := fun _ _ => rfl
      live := fun k hk => by
        rcases hk with rfl | rfl | rfl | rfl
        · exact ⟨_, hN5.at_⟩
        · obtain ⟨es, cl, h9, _⟩ := hm5; exact ⟨_, h9⟩
        · obtain ⟨es, cl, h9, _⟩ := hs5; exact ⟨_, h9⟩
        · exact ⟨_, hg5⟩
      ne := ⟨fun e => sm e.symm, fun e he => by
        simp only [List.mem_singleton] at he
        subst he; exact fun e => tg e.symm⟩ }
  have hend : newS.post () [] A (.pointer (some ⟨t, 0, none⟩)) A5 := by
    refine ⟨t, _, rfl, ⟨m, s, _, hR⟩, fun k o hk => ?_, fun k hk => ?_⟩
    · rw [hold k (fun e => by rw [e, hm] at hk; cases hk) (fun e => by rw [e, ag] at hk; cases hk) (fun e => by rw [e, as_] at hk; cases hk) (fun e => by rw [e, at_] at hk; cases hk)]; exact hk
    · rcases hk with rfl | rfl | rfl | rfl
      · exact at_
      · exact hm
      · exact as_
      · exact ag
  exact (hD _).2 hend

def nodeV (p : ByteArray) (vd : Value) (s : StatD) : Value :=
  .agg #[.string p, vd, .int .i64 s.czxid, .int .i64 s.mzxid, .int .i64 s.pzxid, .int .i64 s.ctime, .int .i64 s.mtime, .int .i64 s.ver, .int .i64 s.cver, .int .i64 s.owner, .int .i64 s.len, .int .i64 s.kids]

def toldS : FSpec := ⟨TG × ByteArray × NodeD × Nat, fun g vs A => vs = [.pointer (some ⟨g.1.t, 0, none⟩), .string g.2.1, .int .i64 g.2.2.2] ∧ TreeAt A g.1.B g.1.O g.1.t g.1.T ∧ kGet g.2.1 g.1.T.nodes = some g.2.2.1,
  fun g _ A v A' => A.Sub A' ∧ ∃ vd, v = nodeV g.2.1 vd { g.2.2.1.stat with len := g.2.2.1.data.length, kids := g.2.2.2 } ∧ SlB (A'.minus A) vd g.2.2.1.data⟩

set_option maxRecDepth 100000 in
set_option maxHeartbeats 0 in
theorem told_ok : FOk Tryz.prog 25 toldS := by
  refine fok_v mixed fun ⟨⟨T, B, O, t⟩, p, n, c⟩ vs A hp => ?_
  obtain ⟨rfl, ⟨m, s, E, h⟩, hk⟩ : vs = [.pointer (some ⟨t, 0, none⟩), .string p, .int .i64 c] ∧ TreeAt A B O t T ∧ kGet p T.nodes = some n := hp
  have hCt : CTSound Tryz.prog (lookC [specE 30 cloneBytesS] noC) := lookC_sound (noC_sound _) (fun x hx => by
    simp only [List.mem_singleton] at hx
    subst hx; exact specE_ok cloneBytes_ok)
  refine ⟨_, noL, 60, hCt, noL_sound _, fun blk os out tape D hD => ?_⟩
  have htop : A.rd t 0 1 = some [.map (some m)] := h.top.rd (o := 0) (n := 1) (by show 0 + 1 ≤ 2; omega)
  obtain ⟨⟨g, n'⟩, hkE, rfl⟩ : ∃ x, kGet p E = some x ∧ x.2 = n := by
    rw [h.get] at hk
    cases hE : kGet p E with
    | none => rw [hE] at hk; cases hk
    | some x => rw [hE] at hk; exact ⟨x, rfl, by injection hk⟩
  have hmem := kGet_mem (bytes_key _) hkE
  obtain ⟨w, hc, hs⟩ := h.cells _ hmem
  have hlk : A.look m (.string p) = some (some (.pointer (some ⟨g, 0, none⟩))) := by rw [h.look, hkE]; rfl
  obtain ⟨aw, kw, rfl⟩ := hs.1.form
  have hrdn : A.rd g 0 1 = some [.slice aw n'.data.length kw] := hc.rd (o := 0) (n := 1) (by show 0 + 1 ≤ 11; omega)
  have hrds : A.rd g 1 10 = some n'.stat.cells := hc.rd (o := 1) (n := 10) (by show 1 + 10 ≤ 11; omega)
  have hend : ∀ (v : Value) (A' : Arena), A.Sub A' → SlB (A'.minus A) v n'.data → toldS.post (⟨T, B, O, t⟩, p, n', c) [.pointer (some ⟨t, 0, none⟩), .string p, .int .i64 c] A (nodeV p v { n'.stat with len := n'.data.length, kids := c }) A' := fun v A' h1 h2 => ⟨h1, v, rfl, h2⟩
  conv => lhs; whnf
  repeat (first | refine go_rd htop ?_ | refine go_lk hlk ?_ | refine go_rd hrdn ?_ | refine go_rd hrds ?_ | refine go_D hD rfl ?_
          conv => lhs; whnf)
  refine go_b ?_ ?_
  · refine (hD _).2 ⟨n'.data, ⟨_, rfl, hs.sub h.sub⟩, fun v A' hq => ?_⟩
    obtain ⟨hsub, hS⟩ : A.Sub A' ∧ SlB (A'.minus A) v n'.data := hq
    obtain ⟨a, k, rfl⟩ := hS.1.form
    have h1 := rd_sub hsub htop
    have h2 := rd_sub hsub hrdn
    have h3 := rd_sub hsub hrds
    have h4 : A'.look m (.string p) = some (some (.pointer (some ⟨g, 0, none⟩))) := by
      rw [look_str (h.nmap.sub fun o ho => hsub _ _ ho), kGet_map, hkE]; rfl
    conv => lhs; whnf
    repeat (first | refine go_rd h1 ?_ | refine go_lk h4 ?_ | refine go_rd h2 ?_ | refine go_rd h3 ?_ | refine go_D hD rfl ?_
            conv => lhs; whnf)
    exact (hD _).2 (hend _ _ hsub hS)
  · conv => lhs; whnf
    repeat (first | refine go_rd htop ?_ | refine go_lk hlk ?_ | refine go_rd hrdn ?_ | refine go_rd hrds ?_ | refine go_D hD rfl ?_
            conv => lhs; whnf)
    refine (hD _).2 ⟨n'.data, ⟨_, rfl, hs.sub h.sub⟩, fun v A' hq => ?_⟩
    obtain ⟨hsub, hS⟩ : A.Sub A' ∧ SlB (A'.minus A) v n'.data := hq
    obtain ⟨a, k, rfl⟩ := hS.1.form
    have h1 := rd_sub hsub htop
    have h2 := rd_sub hsub hrdn
    have h3 := rd_sub hsub hrds
    have h4 : A'.look m (.string p) = some (some (.pointer (some ⟨g, 0, none⟩))) := by
      rw [look_str (h.nmap.sub fun o ho => hsub _ _ ho), kGet_map, hkE]; rfl
    conv => lhs; whnf
    repeat (first | refine go_rd h1 ?_ | refine go_lk h4 ?_ | refine go_rd h2 ?_ | refine go_rd h3 ?_ | refine go_D hD rfl ?_
            conv => lhs; whnf)
    exact (hD _).2 (hend _ _ hsub hS)

end
end Go.Proofs.YtfpfjobknefedaaGreatDoor
