/-
  Contracts: has a deed what its kind may have? Are deeds parts? Is a deed right?
  Contracts: are deeds parts? Is a deed right?
  Contracts: bell: Ring.
  Contracts: bell: Again.
-/
import Derived.Test.YtmhnhkigbfdapaaGreatDoorG10
import Derived.Test.YtmhnhkigbfdapaaGreatDoorG11
import Derived.Test.YtmhnhkigbfdapaaGreatDoorG12
import Derived.Test.YtmhnhkigbfdapaaGreatDoorG09
import Derived.Test.YtmhnhkigbfdapaaGreatDoorG07
import Derived.Test.YtmhnhkigbfdapaaGreatDoorG08
namespace Go.Proofs.YtmhnhkigbfdapaaGreatDoor
open Go.Sx Go.RowKit
noncomputable section
open Classical

set_option maxRecDepth 100000 in
set_option maxHeartbeats 0 in
theorem fits_ok : FOk Tryz.prog 43 fitsS := by
  refine fok_v mixed fun d vs A hp => ?_
  obtain ⟨cs, rfl, hR, hA⟩ : ∃ cs, vs = [deedV cs] ∧ DeedR A d cs ∧ HasA A := hp
  obtain ⟨⟨zxid, kind, ses, turn, xid, time, path, data, owner, ver, cver, tmo, err, cfg, mem⟩, parts⟩ := d
  rw [DeedR] at hR
  dsimp only [DeedH.cells] at hR
  obtain ⟨vd, vm, vp, rows, rfl, -, ⟨⟨a7, k7, rfl, -⟩, -⟩, ⟨⟨a14, k14, rfl, -⟩, -⟩, ⟨a15, k15, rfl, -⟩, -⟩ := hR
  refine ⟨C0, noL, 60, C0_sound, noL_sound _, ?_⟩
  by_cases hk : kind = 1 ∨ kind = 2 ∨ kind = 3 ∨ kind = 4 ∨ kind = 5 ∨ kind = 6 ∨ kind = 7 ∨ kind = 8 ∨ kind = 9
  · rcases hk with rfl | rfl | rfl | rfl | rfl | rfl | rfl | rfl | rfl
    · exact fitsK1 hA _ _ _ _ _ _ _ _ _ _ _ _ _ _ _ _ _ _ _ _ _
    · exact fitsK2 hA _ _ _ _ _ _ _ _ _ _ _ _ _ _ _ _ _ _ _ _ _
    · exact fitsK3 hA _ _ _ _ _ _ _ _ _ _ _ _ _ _ _ _ _ _ _ _ _
    · exact fitsK4 hA _ _ _ _ _ _ _ _ _ _ _ _ _ _ _ _ _ _ _ _ _
    · exact fitsK5 hA _ _ _ _ _ _ _ _ _ _ _ _ _ _ _ _ _ _ _ _ _
    · exact fitsK6 hA _ _ _ _ _ _ _ _ _ _ _ _ _ _ _ _ _ _ _ _ _
    · exact fitsK7 hA _ _ _ _ _ _ _ _ _ _ _ _ _ _ _ _ _ _ _ _ _
    · exact fitsK8 hA _ _ _ _ _ _ _ _ _ _ _ _ _ _ _ _ _ _ _ _ _
    · exact fitsK9 hA _ _ _ _ _ _ _ _ _ _ _ _ _ _ _ _ _ _ _ _ _
  · have bad : Value.bool false = .bool (decide (FitsD ⟨zxid, kind, ses, turn, xid, time, path, data, owner, ver, cver, tmo, err, cfg, mem⟩ parts.length)) := by
      rw [decide_eq_false fun h => hk (by have := h.1; dsimp only at this; omega)]
    intro blk os out tape D hD
    conv => lhs; whnf
    refine split_dec (fun h1 => ?_) (fun h1 => ?_) <;> (conv => lhs; whnf)
    · exact (hD _).2 ⟨rfl, bad⟩
    refine split_dec (fun h2 => ?_) (fun h2 => ?_) <;> (conv => lhs; whnf)
    · exact (hD _).2 ⟨rfl, bad⟩
    exact absurd (by omega) hk

end
end Go.Proofs.YtmhnhkigbfdapaaGreatDoor

namespace Go.Proofs.YtmhnhkigbfdapaaGreatDoor
open Go.Sx Go.RowKit
noncomputable section
open Classical

/-- May a deed be a part? -/
def PartD (last : Int) (p : DeedD) : Prop :=
  p.h.zxid = 0 ∧ p.h.ses = 0 ∧ p.h.turn = 0 ∧ p.h.xid = 0 ∧ p.h.time = 0 ∧ FitsD p.h p.parts.length ∧ p.h.kind ≤ last ∧ (last = 2 → p.h.kind = 2)

def PartsD (ds : List DeedD) (least most last : Int) : Prop := least ≤ ds.length ∧ (ds.length : Int) ≤ most ∧ ∀ p ∈ ds, PartD last p

def partsS : FSpec := ⟨List DeedD × Int × Int × Int, fun g vs A => ∃ v, vs = [v, .int .i64 g.2.1, .int .i64 g.2.2.1, .int .u8 g.2.2.2] ∧ DeedsS A v g.1 ∧ HasA A, fun g _ A v A' => A' = A ∧ v = .bool (decide (PartsD g.1 g.2.1 g.2.2.1 g.2.2.2))⟩

def partsInv (A : Arena) (ds : List DeedD) (last : Int) : LInv := { γ := Nat, G := fun k => k ≤ ds.length ∧ ∀ p ∈ ds.take k, PartD last p, keepS := [3, 21, 22], keepB := [], sl := fun k => [(23, .v (.int .i64 k))], bl := fun _ => [], ar := fun _ => A, mu := fun k => ds.length - k }

set_option maxRecDepth 100000 in
set_option maxHeartbeats 0 in
theorem parts_ok : FOk Tryz.prog 44 partsS := by
  refine fok_v mixed fun ⟨ds, least, most, last⟩ vs A hp => ?_
  obtain ⟨v, rfl, ⟨rows, ⟨ao, c, rfl, hc, hl, ha1, ha2, ha3⟩, hsz, hR⟩, hA⟩ : ∃ v, vs = [v, .int .i64 least, .int .i64 most, .int .u8 last] ∧ DeedsS A v ds ∧ HasA A := hp
  have hC : CTSound Tryz.prog (lookC [specE 43 fitsS] noC) := lookC_sound (noC_sound _) (fun x hx => by
    simp only [List.mem_singleton] at hx
    subst hx; exact specE_ok fits_ok)
  refine ⟨_, tabO Tryz.prog _ noL 60 [(44, 0)], 60, hC, tabO_sound mixed hC (noL_sound _) _ _, fun blk os out tape D hD => ?_⟩
  have bad : ¬ PartsD ds least most last → Value.bool false = .bool (decide (PartsD ds least most last)) := fun h => by rw [decide_eq_false h]
  conv => lhs; whnf
  refine split_dec (fun h1 => ?_) (fun h1 => ?_) <;> (conv => lhs; whnf)
  · have h1 : (ds.length : Int) < least := h1
    exact (hD _).2 ⟨rfl, bad fun h => by have := h.1; omega⟩
  have h1 : ¬ (ds.length : Int) < least := h1
  refine split_dec (fun h2 => ?_) (fun h2 => ?_) <;> (conv => lhs; whnf)
  · have h2 : most < (ds.length : Int) := h2
    exact (hD _).2 ⟨rfl, bad fun h => by have := h.2.1; omega⟩
  have h2 : ¬ most < (ds.length : Int) := h2
  refine (hD _).2 ⟨partsInv A ds last, ⟨(0 : Nat), ⟨Nat.zero_le _, by simp⟩, ⟨rfl, trivial⟩, trivial, rfl⟩, fun (k : Nat) hG => ⟨⟨trivial, trivial⟩, trivial, ?_⟩⟩
  obtain ⟨hk, hall⟩ : k ≤ ds.length ∧ ∀ p ∈ ds.take k, PartD last p := hG
  conv => lhs; whnf
  refine split_dec (fun hlt => ?_) (fun hlt => ?_)
  · have hlt : (k : Int) < ds.length := hlt
    have hkn : k < ds.length := by omega
    obtain ⟨g, o, rfl, hra⟩ := Sl.at_ hc ha1 ha2 ha3 (by omega)
    obtain ⟨cs, hcs, hd⟩ := deed_at hra hR k hkn rfl
    conv => lhs; whnf
    refine go_in ⟨by omega, hlt⟩ ?_
    conv => lhs; whnf
    have hbad : ¬ PartD last ds[k] → ¬ PartsD ds least most last := fun h hp => h (hp.2.2 _ (List.getElem_mem hkn))
    have hgood : PartD last ds[k] → ∀ p ∈ ds.take (k + 1), PartD last p := fun h p hp => by
      rw [List.take_succ_eq_append_getElem hkn, List.mem_append] at hp
      rcases hp with hp | hp
      · exact hall p hp
      · rw [List.mem_singleton] at hp
        subst hp; exact h
    generalize ds[k] = d at hd hbad hgood
    obtain ⟨⟨zxid, kind, ses, turn, xid, time, path, data, owner, ver, cver, tmo, err, cfg, mem⟩, parts⟩ := d
    obtain ⟨a7, l7, k7, a14, l14, k14, a15, l15, k15, rfl⟩ := hd.form
    dsimp only [DeedD.h, DeedH.cells] at hcs hd
    simp only [PartD, DeedD.h, DeedD.parts] at hbad hgood
    refine go_rd hcs ?_
    conv => lhs; whnf
    refine split_b (fun h => ?_) (fun h3 => ?_) <;> (conv => lhs; whnf)
    · simp at h; exact (hD _).2 ⟨rfl, bad (hbad fun hP => by omega)⟩
    refine split_b (fun h => ?_) (fun h4 => ?_) <;> (conv => lhs; whnf)
    · simp at h; exact (hD _).2 ⟨rfl, bad (hbad fun hP => by omega)⟩
    refine split_b (fun h => ?_) (fun h5 => ?_) <;> (conv => lhs; whnf)
    · simp at h; exact (hD _).2 ⟨rfl, bad (hbad fun hP => by omega)⟩
    refine split_b (fun h => ?_) (fun h6 => ?_) <;> (conv => lhs; whnf)
    · simp at h; exact (hD _).2 ⟨rfl, bad (hbad fun hP => by omega)⟩
    refine split_b (fun h => ?_) (fun h7 => ?_) <;> (conv => lhs; whnf)
    · simp at h; exact (hD _).2 ⟨rfl, bad (hbad fun hP => by omega)⟩
    refine (hD _).2 ⟨_, ⟨_, rfl, hd, hA⟩, fun v A' hq => ?_⟩
    obtain ⟨rfl, rfl⟩ : A' = A ∧ v = .bool (decide (FitsD ⟨zxid, kind, ses, turn, xid, time, path, data, owner, ver, cver, tmo, err, cfg, mem⟩ parts.length)) := hq
    simp at h3 h4 h5 h6 h7
    conv => lhs; whnf
    refine split_nd (fun h8 => ?_) (fun h8 => ?_) <;> (conv => lhs; whnf)
    rotate_left
    · exact (hD _).2 ⟨rfl, bad (hbad fun hP => h8 hP.2.2.2.2.2.1)⟩
    refine split_dec (fun h9 => ?_) (fun h9 => ?_) <;> (conv => lhs; whnf)
    · exact (hD _).2 ⟨rfl, bad (hbad fun hP => by omega)⟩
    refine split_dec (fun h10 => ?_) (fun h10 => ?_) <;> (conv => lhs; whnf)
    · refine split_b (fun h => ?_) (fun h => ?_) <;> (conv => lhs; whnf)
      · simp at h
        exact (hD _).2 ⟨rfl, bad (hbad fun hP => by omega)⟩
      · simp at h
        exact (hD _).2 ⟨(k + 1 : Nat), ⟨⟨by omega, hgood ⟨h3, h4, h5, h6, h7, h8, by omega, fun _ => by omega⟩⟩, ⟨inc_slot (by omega), trivial⟩, trivial, rfl⟩, by show ds.length - (k + 1) < ds.length - k; omega, ⟨rfl, rfl, rfl, trivial⟩, trivial⟩
    · refine (hD _).2 ⟨(k + 1 : Nat), ⟨⟨by omega, hgood ⟨h3, h4, h5, h6, h7, h8, by omega, fun h => absurd h h10⟩⟩, ⟨inc_slot (by omega), trivial⟩, trivial, rfl⟩, by show ds.length - (k + 1) < ds.length - k; omega, ⟨rfl, rfl, rfl, trivial⟩, trivial⟩
  · have hlt : ¬ (k : Int) < ds.length := hlt
    conv => lhs; whnf
    refine (hD _).2 ⟨rfl, ?_⟩
    have hkn : k = ds.length := by omega
    rw [hkn, List.take_length] at hall
    have h9 : PartsD ds least most last := ⟨by omega, by omega, hall⟩
    show Value.bool true = .bool (decide (PartsD ds least most last))
    rw [decide_eq_true h9]

/-- Is a deed right? -/
def RightD (d : DeedD) : Prop :=
  1 ≤ d.h.zxid ∧ d.h.zxid / 4294967296 ≤ 1073741824 ∧ 0 ≤ d.h.ses ∧ 0 ≤ d.h.turn ∧ 0 ≤ d.h.xid ∧ 0 ≤ d.h.time ∧ FitsD d.h d.parts.length ∧
  (d.h.kind = 5 → PartsD d.parts 0 500 2) ∧ (d.h.kind = 7 → ensD d.h.cfg d.h.mem = 0 ∧ d.h.cfg = d.h.zxid) ∧ (d.h.kind = 8 → PartsD d.parts 1 16 3)

def rightS : FSpec := ⟨DeedD, fun d vs A => ∃ cs, vs = [deedV cs] ∧ DeedR A d cs ∧ HasA A, fun d _ A v A' => A' = A ∧ v = .bool (decide (RightD d))⟩

set_option maxRecDepth 100000 in
set_option maxHeartbeats 0 in
theorem right_ok : FOk Tryz.prog 26 rightS := by
  refine fok_v mixed fun d vs A hp => ?_
  obtain ⟨cs, rfl, hR, hA⟩ : ∃ cs, vs = [deedV cs] ∧ DeedR A d cs ∧ HasA A := hp
  have hC : CTSound Tryz.prog (lookC [specE 43 fitsS, specE 44 partsS, specE 45 ensS] noC) := lookC_sound (noC_sound _) (fun x hx => by
    simp only [List.mem_cons, List.not_mem_nil, or_false] at hx
    rcases hx with rfl | rfl | rfl
    · exact specE_ok fits_ok
    · exact specE_ok parts_ok
    · exact specE_ok ens_ok)
  refine ⟨_, noL, 60, hC, noL_sound _, fun blk os out tape D hD => ?_⟩
  have hR0 := hR
  obtain ⟨⟨zxid, kind, ses, turn, xid, time, path, data, owner, ver, cver, tmo, err, cfg, mem⟩, parts⟩ := d
  rw [DeedR] at hR
  dsimp only [DeedH.cells] at hR
  obtain ⟨vd, vm, vp, rows, rfl, -, ⟨⟨a7, k7, rfl, -⟩, -⟩, hM, hS, hlen, hRows⟩ := hR
  obtain ⟨a14, k14, rfl⟩ := hM.1.form
  obtain ⟨a15, k15, rfl⟩ := hS.form
  have bad : ¬ RightD (.mk ⟨zxid, kind, ses, turn, xid, time, path, data, owner, ver, cver, tmo, err, cfg, mem⟩ parts) → Value.bool false = .bool (decide (RightD (.mk ⟨zxid, kind, ses, turn, xid, time, path, data, owner, ver, cver, tmo, err, cfg, mem⟩ parts))) := fun h => by rw [decide_eq_false h]
  have fin : ∀ {b : Bool}, (b = true ↔ RightD (.mk ⟨zxid, kind, ses, turn, xid, time, path, data, owner, ver, cver, tmo, err, cfg, mem⟩ parts)) → Value.bool b = .bool (decide (RightD (.mk ⟨zxid, kind, ses, turn, xid, time, path, data, owner, ver, cver, tmo, err, cfg, mem⟩ parts))) := fun {b} h => by
    congr 1
    rw [Bool.eq_iff_iff, decide_eq_true_eq]
    exact h
  simp only [RightD, DeedD.h, DeedD.parts] at bad fin
  conv => lhs; whnf
  refine split_dec (fun h1 => ?_) (fun h1 => ?_) <;> (conv => lhs; whnf)
  · exact (hD _).2 ⟨rfl, bad fun h => by omega⟩
  have hz : zxid.fdiv (2 ^ min (Int.toNat 32) IntKind.i64.bits) = zxid / 4294967296 := by
    show zxid.fdiv 4294967296 = _
    rw [Int.fdiv_eq_ediv_of_nonneg _ (by decide)]
  refine split_dec (fun h2 => ?_) (fun h2 => ?_) <;> (conv => lhs; whnf)
  rotate_left
  · exact (hD _).2 ⟨rfl, bad fun h => by omega⟩
  refine split_nd (fun h3 => ?_) (fun h3 => ?_) <;> (conv => lhs; whnf)
  rotate_left
  · rw [hz] at h3
    exact (hD _).2 ⟨rfl, bad fun h => by omega⟩
  rw [hz] at h3
  refine split_dec (fun h4 => ?_) (fun h4 => ?_) <;> (conv => lhs; whnf)
  · exact (hD _).2 ⟨rfl, bad fun h => by omega⟩
  refine split_dec (fun h5 => ?_) (fun h5 => ?_) <;> (conv => lhs; whnf)
  · exact (hD _).2 ⟨rfl, bad fun h => by omega⟩
  refine split_dec (fun h6 => ?_) (fun h6 => ?_) <;> (conv => lhs; whnf)
  · exact (hD _).2 ⟨rfl, bad fun h => by omega⟩
  refine split_dec (fun h7 => ?_) (fun h7 => ?_) <;> (conv => lhs; whnf)
  · exact (hD _).2 ⟨rfl, bad fun h => by omega⟩
  refine (hD _).2 ⟨_, ⟨_, rfl, hR0, hA⟩, fun v A' hq => ?_⟩
  obtain ⟨rfl, rfl⟩ : A' = A ∧ v = .bool (decide (FitsD ⟨zxid, kind, ses, turn, xid, time, path, data, owner, ver, cver, tmo, err, cfg, mem⟩ parts.length)) := hq
  conv => lhs; whnf
  refine split_nd (fun h8 => ?_) (fun h8 => ?_) <;> (conv => lhs; whnf)
  rotate_left
  · exact (hD _).2 ⟨rfl, bad fun h => h8 h.2.2.2.2.2.2.1⟩
  refine split_dec (fun h9 => ?_) (fun h9 => ?_) <;> (conv => lhs; whnf)
  · refine (hD _).2 ⟨(parts, 0, 500, 2), ⟨_, rfl, ⟨rows, hS, hlen, hRows⟩, hA⟩, fun v A'' hq => ?_⟩
    obtain ⟨rfl, rfl⟩ : A'' = A' ∧ v = .bool (decide (PartsD parts 0 500 2)) := hq
    conv => lhs; whnf
    exact (hD _).2 ⟨rfl, fin (by
      rw [decide_eq_true_eq]
      exact ⟨fun h => ⟨by omega, by omega, by omega, by omega, by omega, by omega, h8, fun _ => h, fun h => by omega, fun h => by omega⟩, fun h => h.2.2.2.2.2.2.2.1 h9⟩)⟩
  refine split_dec (fun h10 => ?_) (fun h10 => ?_) <;> (conv => lhs; whnf)
  · refine (hD _).2 ⟨(cfg, mem), ⟨_, rfl, hM⟩, fun v A'' hq => ?_⟩
    obtain ⟨rfl, rfl⟩ : A'' = A' ∧ v = .int .i64 (ensD cfg mem) := hq
    conv => lhs; whnf
    refine split_dec (fun h11 => ?_) (fun h11 => ?_) <;> (conv => lhs; whnf)
    · exact (hD _).2 ⟨rfl, fin (by
        rw [cond_true, decide_eq_true_eq]
        exact ⟨fun h => ⟨by omega, by omega, by omega, by omega, by omega, by omega, h8, fun h => by omega, fun _ => ⟨h11, h⟩, fun h => by omega⟩, fun h => (h.2.2.2.2.2.2.2.2.1 h10).2⟩)⟩
    · exact (hD _).2 ⟨rfl, bad fun h => h11 (h.2.2.2.2.2.2.2.2.1 h10).1⟩
  refine split_dec (fun h12 => ?_) (fun h12 => ?_) <;> (conv => lhs; whnf)
  · refine (hD _).2 ⟨(parts, 1, 16, 3), ⟨_, rfl, ⟨rows, hS, hlen, hRows⟩, hA⟩, fun v A'' hq => ?_⟩
    obtain ⟨rfl, rfl⟩ : A'' = A' ∧ v = .bool (decide (PartsD parts 1 16 3)) := hq
    conv => lhs; whnf
    exact (hD _).2 ⟨rfl, fin (by
      rw [decide_eq_true_eq]
      exact ⟨fun h => ⟨by omega, by omega, by omega, by omega, by omega, by omega, h8, fun h => by omega, fun h => by omega, fun _ => h⟩, fun h => h.2.2.2.2.2.2.2.2.2 h12⟩)⟩
  · exact (hD _).2 ⟨rfl, fin (iff_of_true rfl ⟨by omega, by omega, by omega, by omega, by omega, by omega, h8, fun h => by omega, fun h => by omega, fun h => by omega⟩)⟩

end
end Go.Proofs.YtmhnhkigbfdapaaGreatDoor

namespace Go.Proofs.YtmhnhkigbfdapaaGreatDoor
open Go.Sx Go.RowKit
noncomputable section
open Classical

/-- A deed's head rings: what was rung so far, what is left. -/
def chStep (z : Int) (s : List RingD × List WatchD) (d : DeedD) : List RingD × List WatchD := (s.1 ++ chRings d.h.kind d.h.path z s.2, unrung d.h.kind d.h.path s.2)

/-- What a deed rings, and what is left. -/
def ringsW (d : DeedD) (ws : List WatchD) : List RingD × List WatchD := if RightD d then d.parts.foldl (chStep d.h.zxid) (chStep d.h.zxid ([], ws) d) else ([], ws)

theorem rung_len (k : Int) (p : ByteArray) (z : Int) (ws : List WatchD) : (chRings k p z ws).length + (unrung k p ws).length = ws.length := by
  rw [chRings, List.length_map, sortW_length, rung, unrung]
  induction ws with
  | nil => rfl
  | cons w ws ih =>
    by_cases h : rungK k p w = 0
    · rw [List.filter_cons, List.filter_cons, if_neg (by simp [h]), if_pos (by simp [h]), List.length_cons, List.length_cons]
      omega
    · rw [List.filter_cons, List.filter_cons, if_pos (by simp [h]), if_neg (by simp [h]), List.length_cons, List.length_cons]
      omega

theorem chStep_len (z : Int) (s : List RingD × List WatchD) (d : DeedD) : (chStep z s d).1.length + (chStep z s d).2.length = s.1.length + s.2.length := by
  have := rung_len d.h.kind d.h.path z s.2
  simp only [chStep, List.length_append]
  omega

theorem chSteps_len (z : Int) : ∀ (ds : List DeedD) (s : List RingD × List WatchD), (ds.foldl (chStep z) s).1.length + (ds.foldl (chStep z) s).2.length = s.1.length + s.2.length
  | [], _ => rfl
  | d :: ds, s => by rw [List.foldl_cons, chSteps_len z ds, chStep_len]

theorem unrung_ok {k : Int} {p : ByteArray} {ws : List WatchD} (h : WOk ws) : WOk (unrung k p ws) := fun w hw => h w (List.mem_filter.1 hw).1

theorem chSteps_ok (z : Int) : ∀ (ds : List DeedD) (s : List RingD × List WatchD), WOk s.2 → WOk (ds.foldl (chStep z) s).2
  | [], _, h => h
  | d :: ds, s, h => by rw [List.foldl_cons]; exact chSteps_ok z ds _ (unrung_ok h)

theorem chSteps_snoc (z : Int) (ds : List DeedD) (s : List RingD × List WatchD) {k : Nat} (hk : k < ds.length) : (ds.take (k + 1)).foldl (chStep z) s = chStep z ((ds.take k).foldl (chStep z) s) ds[k] := by
  rw [List.take_succ_eq_append_getElem hk, List.foldl_append]
  rfl

/-- A row made by append, as a source. -/
theorem grow_src {A1 A : Arena} {es n c : Nat} {e : TypeId} {base : Option (Nat × Nat)} {cs : List Value} (h : GrowR A1 A es e n (.slice (addrA base) n c) cs) :
    (base = none → n = 0 ∧ cs = []) ∧ ∀ g, base = some (g, 0) → (if n = 0 then some [] else A.rd g 0 (n * es)) = some cs := by
  obtain ⟨h1, h2 | ⟨g, nc, c', h3, h4, h4', h5, h6, h7, h8⟩⟩ := h
  · obtain ⟨rfl, h2⟩ := h2
    have hc : cs = [] := List.length_eq_zero_iff.1 (by rw [h1]; simp)
    exact ⟨fun _ => ⟨rfl, hc⟩, fun g _ => by rw [if_pos rfl, hc]⟩
  · injection h3 with h31 _ h33
    have e := addrA_inj (b := some (g, 0)) h31
    subst e
    refine ⟨fun h => (by cases h), fun g' hg' => ?_⟩
    injection hg' with hg'
    injection hg' with hg' _
    subst hg'
    by_cases h0 : n = 0
    · subst h0
      rw [if_pos rfl]
      have hc : cs = [] := List.length_eq_zero_iff.1 (by rw [h1]; simp)
      rw [hc]
    · have := Nat.mul_le_mul_right es h4
      rw [if_neg h0, rd_mk h6 (by omega), List.drop_zero, h8]

theorem ring_one (rs : List RingD) : ∀ v ∈ rs.flatMap RingD.cells, v.oneCell' = true := fun v hv => by
  obtain ⟨r, _, h⟩ := List.mem_flatMap.1 hv
  simp only [RingD.cells, List.mem_cons, List.not_mem_nil, or_false] at h
  rcases h with rfl | rfl | rfl | rfl | rfl <;> rfl

theorem rings_len : ∀ rs : List RingD, (rs.flatMap RingD.cells).length = rs.length * 5
  | [] => rfl
  | r :: rs => by rw [List.flatMap_cons, List.length_append, rings_len rs, List.length_cons, Nat.succ_mul]; show 5 + _ = _; omega

structure RiG where
  k : Nat
  A : Arena
  v : Value

def ringsInv (A0 : Arena) (t m : Nat) (s0 : List RingD × List WatchD) (z : Int) (ds : List DeedD) : LInv :=
  { γ := RiG, G := fun g => g.k ≤ ds.length ∧ TwTo A0 ⟨t, m, []⟩ ((ds.take g.k).foldl (chStep z) s0).2 g.A ∧ GrowR A0 g.A 5 65 ((ds.take g.k).foldl (chStep z) s0).1.length g.v (((ds.take g.k).foldl (chStep z) s0).1.flatMap RingD.cells),
    keepS := [0, 1, 3, 21, 22], keepB := [0], sl := fun g => [(5, .v g.v), (23, .v (.int .i64 g.k))], bl := fun _ => [], ar := fun g => g.A, mu := fun g => ds.length - g.k }

def bellRingS : FSpec := ⟨TwG × DeedD × Arena, fun g vs A => ∃ cs, vs = [.pointer (some ⟨g.1.t, 0, none⟩), deedV cs] ∧ TowerAt A g.1.t g.1.m g.1.ws ∧ WOk g.1.ws ∧ g.1.ws.length ≤ 1000000 ∧ DeedR g.2.2 g.2.1 cs ∧ g.2.2.Sub A ∧ g.2.2.blk g.1.m = none ∧ HasA A,
  fun g _ A v A' => TwTo A g.1 (ringsW g.2.1 g.1.ws).2 A' ∧ GrowR A A' 5 65 (ringsW g.2.1 g.1.ws).1.length v ((ringsW g.2.1 g.1.ws).1.flatMap RingD.cells)⟩

set_option maxRecDepth 100000 in
set_option maxHeartbeats 0 in
theorem bellRing_ok : FOk Tryz.prog 11 bellRingS := by
  refine fok_v mixed fun ⟨⟨t, m, ws⟩, d, B⟩ vs A hp => ?_
  obtain ⟨cs, rfl, hT, hok, hlen, hD0, hBA, hBm, hHas⟩ : ∃ cs, vs = [.pointer (some ⟨t, 0, none⟩), deedV cs] ∧ TowerAt A t m ws ∧ WOk ws ∧ ws.length ≤ 1000000 ∧ DeedR B d cs ∧ B.Sub A ∧ B.blk m = none ∧ HasA A := hp
  have hC : CTSound Tryz.prog (lookC [specE 27 bellChangeS, specE 26 rightS] noC) := lookC_sound (noC_sound _) (fun x hx => by
    simp only [List.mem_cons, List.not_mem_nil, or_false] at hx
    rcases hx with rfl | rfl
    · exact specE_ok bellChange_ok
    · exact specE_ok right_ok)
  have hDA := DeedR.sub hBA _ _ hD0
  obtain ⟨ot, hot⟩ := hT.top.dom
  obtain ⟨hd, parts⟩ := d
  have hD1 := hD0
  rw [DeedR] at hD0
  obtain ⟨vd, vm, vp, rows, rfl, _, ⟨hs1, _⟩, ⟨hs2, _⟩, hs3, hpl, hps⟩ := hD0
  obtain ⟨a7, k7, rfl⟩ := hs1.form
  obtain ⟨a14, k14, rfl⟩ := hs2.form
  obtain ⟨ao, c, rfl, hc, _, ha1, ha2, ha3⟩ := hs3
  refine ⟨_, tabO Tryz.prog _ noL 60 [(11, 0)], 60, hC, tabO_sound mixed hC (noL_sound _) _ _, fun blk os out tape D hD => ?_⟩
  conv => lhs; whnf
  refine (hD _).2 ⟨.mk hd parts, ⟨_, rfl, hDA, hHas⟩, fun v A1 hq => ?_⟩
  obtain ⟨h9, hv⟩ : A1 = A ∧ v = .bool (decide (RightD (.mk hd parts))) := hq
  subst h9; subst hv
  by_cases hr : RightD (.mk hd parts)
  · rw [decide_eq_true hr]
    conv => lhs; whnf
    refine (hD _).2 ⟨(⟨t, m, ws⟩, hd, hd.zxid), ⟨_, _, _, _, _, _, _, _, _, rfl, hT, hok, hlen⟩, fun v A2 hq => ?_⟩
    obtain ⟨hT2, hG2⟩ : TwTo A1 ⟨t, m, ws⟩ (unrung hd.kind hd.path ws) A2 ∧ GrowR A1 A2 5 65 (chRings hd.kind hd.path hd.zxid ws).length v ((chRings hd.kind hd.path hd.zxid ws).flatMap RingD.cells) := hq
    have hse : ringsW (.mk hd parts) ws = parts.foldl (chStep hd.zxid) (chRings hd.kind hd.path hd.zxid ws, unrung hd.kind hd.path ws) := by
      unfold ringsW
      rw [if_pos hr]
      rfl
    obtain ⟨s0, hs0⟩ : ∃ s0, s0 = (chRings hd.kind hd.path hd.zxid ws, unrung hd.kind hd.path ws) := ⟨_, rfl⟩
    rw [← hs0] at hse
    have hsl : s0.1.length + s0.2.length = ws.length := by rw [hs0]; exact rung_len _ _ _ _
    have hsk : WOk s0.2 := by rw [hs0]; exact unrung_ok hok
    have hT2 : TwTo A1 ⟨t, m, []⟩ s0.2 A2 := by rw [hs0]; exact ⟨hT2.tower, hT2.keep, hT2.dom⟩
    have hG2 : GrowR A1 A2 5 65 s0.1.length v (s0.1.flatMap RingD.cells) := by rw [hs0]; exact hG2
    conv => lhs; whnf
    refine (hD _).2 ⟨ringsInv A1 t m s0 hd.zxid parts, ⟨(⟨0, A2, v⟩ : RiG), ⟨⟨Nat.zero_le _, hT2, hG2⟩, ⟨rfl, rfl, trivial⟩, trivial, rfl⟩⟩, fun (g : RiG) hG => ⟨⟨trivial, trivial, trivial⟩, trivial, ?_⟩⟩
    obtain ⟨k, As, v1⟩ := g
    obtain ⟨hk, hTs, hGs⟩ : k ≤ parts.length ∧ TwTo A1 ⟨t, m, []⟩ ((parts.take k).foldl (chStep hd.zxid) s0).2 As ∧ GrowR A1 As 5 65 ((parts.take k).foldl (chStep hd.zxid) s0).1.length v1 (((parts.take k).foldl (chStep hd.zxid) s0).1.flatMap RingD.cells) := hG
    have hnl := chSteps_len hd.zxid (parts.take k) s0
    have hok2 := chSteps_ok hd.zxid (parts.take k) s0 hsk
    have hsn := fun h => chSteps_snoc hd.zxid parts s0 (k := k) h
    generalize hsg : (parts.take k).foldl (chStep hd.zxid) s0 = sg at hTs hGs hnl hok2 hsn
    obtain ⟨rs, wk⟩ := sg
    dsimp only at hTs hGs hnl hok2 hsn
    conv => lhs; whnf
    refine split_dec (fun hlt => ?_) (fun hlt => ?_)
    rotate_left
    · have hkl : k = parts.length := by
        have hlt : ¬ ((k : Int) < (parts.length : Int)) := hlt
        omega
      have hend : bellRingS.post (⟨t, m, ws⟩, .mk hd parts, B) [] A1 v1 As := by
        show TwTo A1 _ (ringsW _ _).2 As ∧ GrowR A1 As 5 _ (ringsW _ _).1.length _ _
        rw [hse]
        rw [hkl, List.take_length] at hsg
        rw [hsg]
        exact ⟨⟨hTs.tower, hTs.keep, hTs.dom⟩, hGs⟩
      conv => lhs; whnf
      exact (hD _).2 hend
    have hlt : (k : Int) < (parts.length : Int) := hlt
    have hkl : k < parts.length := by omega
    have i0 : (0 : Int) ≤ (k : Int) ∧ (k : Int) < (parts.length : Int) := by omega
    have hsn := hsn hkl
    have hBs : B.Sub As := fun b o hb => hTs.keep b o (fun e => by
      have e : b = m := e
      rw [e, hBm] at hb; cases hb) (hBA b o hb)
    obtain ⟨g, o, rfl, hra⟩ := Sl.at_ hc ha1 ha2 ha3 (by omega)
    obtain ⟨ck, hck, hdk⟩ := deed_at hra hps k hkl rfl
    have hck := rd_sub hBs hck
    obtain ⟨_, _, _, _, _, _, _, _, _, rfl⟩ := hdk.form
    obtain ⟨dk, hdk9⟩ : ∃ dk, dk = parts[k] := ⟨_, rfl⟩
    rw [← hdk9] at hck hdk hsn
    obtain ⟨⟨zxid, kind, ses, turn, xid, time, path, data, owner, ver, cver, tmo, err, cfg, mem⟩, pp⟩ := dk
    conv => lhs; whnf
    repeat (first | refine go_in i0 ?_ | refine go_rd hck ?_ | refine go_D hD rfl ?_
            conv => lhs; whnf)
    refine (hD _).2 ⟨(⟨t, m, wk⟩, ⟨zxid, kind, ses, turn, xid, time, path, data, owner, ver, cver, tmo, err, cfg, mem⟩, hd.zxid), ⟨_, _, _, _, _, _, _, _, _, rfl, hTs.tower, hok2, by show wk.length ≤ _; omega⟩, fun v A3 hq => ?_⟩
    obtain ⟨hT3, hG3⟩ : TwTo As ⟨t, m, wk⟩ (unrung kind path wk) A3 ∧ GrowR As A3 5 65 (chRings kind path hd.zxid wk).length v ((chRings kind path hd.zxid wk).flatMap RingD.cells) := hq
    have hrl := rung_len kind path hd.zxid wk
    have hsn : (parts.take (k + 1)).foldl (chStep hd.zxid) s0 = (rs ++ chRings kind path hd.zxid wk, unrung kind path wk) := hsn
    generalize chRings kind path hd.zxid wk = qs at hG3 hrl hsn
    generalize unrung kind path wk = wk3 at hT3 hrl hsn
    obtain ⟨em, cm, hom, _⟩ := hT.map
    have hGs3 : GrowR A1 A3 5 65 rs.length v1 (rs.flatMap RingD.cells) := grow_stay hGs fun b o h1 h2 => hT3.keep b o (fun e => by
      have e : b = m := e
      rw [e, hom] at h1; cases h1) h2
    have hT13 : TwTo A1 ⟨t, m, []⟩ wk3 A3 := ⟨hT3.tower, fun b o hb ho => hT3.keep b o hb (hTs.keep b o hb ho), fun b hb => hTs.dom b (hT3.dom b hb)⟩
    obtain ⟨n1, hn1⟩ : ∃ n, n = rs.length := ⟨_, rfl⟩
    obtain ⟨n2, hn2⟩ : ∃ n, n = qs.length := ⟨_, rfl⟩
    rw [← hn1] at hGs3
    rw [← hn2] at hG3
    obtain ⟨base, cp, rfl, hbase, -⟩ := hGs3.formN
    obtain ⟨b2, cp2, rfl, hb2, -⟩ := hG3.formN
    obtain ⟨hP, hA⟩ := hGs3.formB
    have hP := hP n2 40 (by omega) (by omega)
    obtain ⟨hsrc0, hsrc⟩ := grow_src hG3
    have hql := rings_len qs
    rw [← hn2] at hql
    have hfin : ∀ u A4, Appended A3 base n1 cp 5 65 (rs.flatMap RingD.cells) (qs.flatMap RingD.cells) n2 u A4 → (ringsInv A1 t m s0 hd.zxid parts).G ⟨k + 1, A4, u⟩ := fun u A4 hAp => by
      obtain ⟨hG4, hk4⟩ := hA _ _ _ _ hql hT13.dom hAp
      show k + 1 ≤ parts.length ∧ TwTo A1 ⟨t, m, []⟩ ((parts.take (k + 1)).foldl (chStep hd.zxid) s0).2 A4 ∧ GrowR A1 A4 5 65 ((parts.take (k + 1)).foldl (chStep hd.zxid) s0).1.length u (((parts.take (k + 1)).foldl (chStep hd.zxid) s0).1.flatMap RingD.cells)
      rw [hsn]
      refine ⟨hkl, ⟨hT13.tower.keep (hk4 t _ hot) (hk4 m _ hom), fun b o hb ho => by rw [hk4 b o ho]; exact hT13.keep b o hb ho, fun b hb => hT13.dom b (app_dom hAp b hb)⟩, ?_⟩
      show GrowR A1 A4 5 _ (rs ++ qs).length u ((rs ++ qs).flatMap RingD.cells)
      rw [List.length_append, List.flatMap_append, ← hn1, ← hn2]
      exact hG4
    rcases hbase with rfl | ⟨g1, rfl⟩ <;> rcases hb2 with rfl | ⟨g2, rfl⟩ <;> (conv => lhs; whnf)
    all_goals
      refine (hD _).2 ⟨rs.flatMap RingD.cells, qs.flatMap RingD.cells, hP.rd, by first | exact hsrc _ rfl | (show (if n2 = 0 then some [] else none) = _; rw [if_pos (hsrc0 rfl).1, (hsrc0 rfl).2]), hql, ring_one qs, by show n1 + n2 ≤ 9223372036854775807; omega, hP.cap, rfl, hP.none_, fun g' o' he' hle' _ => hP.room _ hql g' o' he' hle', fun u A4 hAp => ?_⟩
      have hG4 := hfin u A4 hAp
      conv => lhs; whnf
      exact (hD _).2 ⟨(⟨k + 1, A4, u⟩ : RiG), ⟨hG4, ⟨rfl, inc_slot (by omega), trivial⟩, trivial, rfl⟩, by show parts.length - (k + 1) < parts.length - k; omega, ⟨same1 rfl rfl, same1 rfl rfl, same1 rfl rfl, same1 rfl rfl, same1 rfl rfl, trivial⟩, ⟨same1 rfl rfl, trivial⟩⟩
  · rw [decide_eq_false hr]
    have hend : bellRingS.post (⟨t, m, ws⟩, .mk hd parts, B) [] A1 (.slice none 0 0) A1 := by
      show TwTo A1 _ (ringsW _ _).2 A1 ∧ GrowR A1 A1 5 _ (ringsW _ _).1.length _ _
      unfold ringsW
      rw [if_neg hr]
      exact ⟨.same hT, GrowR.nil _ _ _ _⟩
    conv => lhs; whnf
    exact (hD _).2 hend

end
end Go.Proofs.YtmhnhkigbfdapaaGreatDoor

namespace Go.Proofs.YtmhnhkigbfdapaaGreatDoor
open Go.Sx Go.RowKit
noncomputable section
open Classical

/-- A node, as far as watches look at it. -/
structure NdD where
  path : ByteArray
  czxid : Int
  mzxid : Int
  pzxid : Int
  ctime : Int
  mtime : Int
  ver : Int
  cver : Int
  owner : Int
  len : Int
  kids : Int

def NdD.cells (n : NdD) (vd : Value) : List Value := [.string n.path, vd, .int .i64 n.czxid, .int .i64 n.mzxid, .int .i64 n.pzxid, .int .i64 n.ctime, .int .i64 n.mtime, .int .i64 n.ver, .int .i64 n.cver, .int .i64 n.owner, .int .i64 n.len, .int .i64 n.kids]

structure EvD where
  kind : Int
  sort : Int
  path : ByteArray
  z : Int
deriving DecidableEq

def EvD.cells (e : EvD) : List Value := [.int .u8 e.kind, .int .u8 e.sort, .string e.path, .int .i64 e.z]

def noEv : EvD := ⟨0, 0, ⟨#[]⟩, 0⟩

def mxI (a b : Int) : Int := bif decide (a < b) then b else a

/-- What a watch tells as it is set again: its kind (0: nothing) and zxid. -/
def toldK (sort last : Int) (n : NdD) (there : Bool) : Int × Int :=
  if there = false then (if sort = 2 then (0, 0) else (2, 0))
  else if sort = 3 ∧ last < mxI n.czxid n.pzxid then (4, mxI n.czxid n.pzxid)
  else if sort = 2 ∧ last < n.czxid then (1, n.czxid)
  else if sort ≠ 3 ∧ last < n.mzxid then (3, n.mzxid)
  else (0, 0)

def againW (w : WatchD) (last : Int) (n : NdD) (there : Bool) (ws : List WatchD) : EvD × Bool × List WatchD :=
  if mayD w.sort w.path = true then
    if (toldK w.sort last n there).1 = 0 then (noEv, false, wPut w ws) else (⟨(toldK w.sort last n there).1, w.sort, w.path, (toldK w.sort last n there).2⟩, true, ws.erase w)
  else (noEv, false, ws)

def bellAgainS : FSpec := ⟨TwG × WatchD × Int × NdD × Bool, fun g vs A => ∃ a l k, vs = [.pointer (some ⟨g.1.t, 0, none⟩), .int .i64 g.2.1.conn, .int .u8 g.2.1.sort, .string g.2.1.path, .int .i64 g.2.2.1, .agg (g.2.2.2.1.cells (.slice a l k)).toArray, .bool g.2.2.2.2] ∧ TowerAt A g.1.t g.1.m g.1.ws,
  fun g _ A v A' => v = .tuple #[.agg (againW g.2.1 g.2.2.1 g.2.2.2.1 g.2.2.2.2 g.1.ws).1.cells.toArray, .bool (againW g.2.1 g.2.2.1 g.2.2.2.1 g.2.2.2.2 g.1.ws).2.1] ∧ TwTo A g.1 (againW g.2.1 g.2.2.1 g.2.2.2.1 g.2.2.2.2 g.1.ws).2.2 A'⟩

set_option maxRecDepth 100000 in
set_option maxHeartbeats 0 in
theorem bellAgain_ok : FOk Tryz.prog 13 bellAgainS := by
  refine fok_v mixed fun ⟨⟨t, m, ws⟩, ⟨conn, sort, p⟩, last, ⟨np, cz, mz, pz, ct, mt, ve, cv, ow, le, ki⟩, there⟩ vs A hp => ?_
  obtain ⟨a, l, k, rfl, hT⟩ : ∃ a l k, vs = [.pointer (some ⟨t, 0, none⟩), .int .i64 conn, .int .u8 sort, .string p, .int .i64 last, .agg (NdD.cells ⟨np, cz, mz, pz, ct, mt, ve, cv, ow, le, ki⟩ (.slice a l k)).toArray, .bool there] ∧ TowerAt A t m ws := hp
  have hC : CTSound Tryz.prog (lookC [specE 25 mayS, specE 10 bellAddS] noC) := lookC_sound (noC_sound _) (fun x hx => by
    simp only [List.mem_cons, List.not_mem_nil, or_false] at hx
    rcases hx with rfl | rfl
    · exact specE_ok may_ok
    · exact specE_ok bellAdd_ok)
  refine ⟨_, noL, 60, hC, noL_sound _, fun blk os out tape D hD => ?_⟩
  have htop : A.rd t 0 1 = some [.map (some m)] := hT.top.rd (o := 0) (n := 1) (by show 0 + 1 ≤ 1; omega)
  conv => lhs; whnf
  refine (hD _).2 ⟨((⟨t, m, ws⟩ : TwG), sort, p), ⟨rfl, hT⟩, fun v A1 hq => ?_⟩
  obtain ⟨h9, hv⟩ : A1 = A ∧ v = .bool (mayD sort p) := hq
  subst h9
  have hag : mayD sort p = true → againW ⟨conn, sort, p⟩ last ⟨np, cz, mz, pz, ct, mt, ve, cv, ow, le, ki⟩ there ws = if (toldK sort last ⟨np, cz, mz, pz, ct, mt, ve, cv, ow, le, ki⟩ there).1 = 0 then (noEv, false, wPut ⟨conn, sort, p⟩ ws) else (⟨(toldK sort last ⟨np, cz, mz, pz, ct, mt, ve, cv, ow, le, ki⟩ there).1, sort, p, (toldK sort last ⟨np, cz, mz, pz, ct, mt, ve, cv, ow, le, ki⟩ there).2⟩, true, ws.erase ⟨conn, sort, p⟩) := fun h => if_pos h
  cases hm : mayD sort p with
  | false =>
    rw [hm] at hv
    subst hv
    have hend : bellAgainS.post ((⟨t, m, ws⟩ : TwG), ⟨conn, sort, p⟩, last, ⟨np, cz, mz, pz, ct, mt, ve, cv, ow, le, ki⟩, there) [] A1 (.tuple #[.agg #[.int .u8 0, .int .u8 0, .string ⟨#[]⟩, .int .i64 0], .bool false]) A1 := by
      have : againW ⟨conn, sort, p⟩ last ⟨np, cz, mz, pz, ct, mt, ve, cv, ow, le, ki⟩ there ws = (noEv, false, ws) := if_neg (by rw [hm]; exact Bool.false_ne_true)
      show _ = Value.tuple #[.agg (againW _ _ _ _ _).1.cells.toArray, .bool (againW _ _ _ _ _).2.1] ∧ TwTo A1 _ (againW _ _ _ _ _).2.2 A1
      rw [this]
      exact ⟨rfl, .same hT⟩
    conv => lhs; whnf
    exact (hD _).2 hend
  | true =>
    rw [hm] at hv
    subst hv
    have hag := hag hm
    -- LEAVES
    cases there with
    | false =>
      by_cases h2 : sort = 2
      · subst h2
        have htk : toldK 2 last ⟨np, cz, mz, pz, ct, mt, ve, cv, ow, le, ki⟩ false = (0, 0) := by
          unfold toldK
          rfl
        rw [htk] at hag
        conv => lhs; whnf
        repeat (first | refine go_rd htop ?_ | refine go_D hD rfl ?_
                conv => lhs; whnf)
        refine (hD _).2 ⟨((⟨t, m, ws⟩ : TwG), ⟨conn, 2, p⟩), ⟨rfl, hT⟩, fun v A2 hq => ?_⟩
        have hq : TwTo A1 ⟨t, m, ws⟩ (if mayD 2 p = true then wPut ⟨conn, 2, p⟩ ws else ws) A2 := hq
        rw [if_pos hm] at hq
        have hend : bellAgainS.post ((⟨t, m, ws⟩ : TwG), ⟨conn, 2, p⟩, last, ⟨np, cz, mz, pz, ct, mt, ve, cv, ow, le, ki⟩, false) [] A1 (.tuple #[.agg #[.int .u8 0, .int .u8 0, .string ⟨#[]⟩, .int .i64 0], .bool false]) A2 := by
          show _ = Value.tuple #[.agg (againW _ _ _ _ _).1.cells.toArray, .bool (againW _ _ _ _ _).2.1] ∧ TwTo A1 _ (againW _ _ _ _ _).2.2 A2
          rw [hag]
          exact ⟨rfl, hq⟩
        conv => lhs; whnf
        exact (hD _).2 hend
      · have htk : toldK sort last ⟨np, cz, mz, pz, ct, mt, ve, cv, ow, le, ki⟩ false = (2, 0) := by
          unfold toldK
          rw [if_pos rfl, if_neg h2]
        rw [htk] at hag
        conv => lhs; whnf
        repeat (first | refine no_dec h2 ?_ | refine go_rd htop ?_ | refine go_D hD rfl ?_
                conv => lhs; whnf)
        refine (hD _).2 ⟨by kernel_rfl, _, hT.map, wL_alike ⟨conn, sort, p⟩ ws, fun A2 hM ho _ => ?_⟩
        have hM : MapAt A2 m (delL (wKey ⟨conn, sort, p⟩) (wL ws)) := hM
        rw [wL_del] at hM
        have hend : bellAgainS.post ((⟨t, m, ws⟩ : TwG), ⟨conn, sort, p⟩, last, ⟨np, cz, mz, pz, ct, mt, ve, cv, ow, le, ki⟩, false) [] A1 (.tuple #[.agg #[.int .u8 2, .int .u8 sort, .string p, .int .i64 0], .bool true]) A2 := by
          show _ = Value.tuple #[.agg (againW _ _ _ _ _).1.cells.toArray, .bool (againW _ _ _ _ _).2.1] ∧ TwTo A1 _ (againW _ _ _ _ _).2.2 A2
          rw [hag]
          exact ⟨rfl, .of_set hT hM ho (hT.nd.erase _)⟩
        conv => lhs; whnf
        exact (hD _).2 hend
    | true =>
      by_cases h3 : sort = 3
      · subst h3
        by_cases hl : last < mxI cz pz
        · have htk : toldK 3 last ⟨np, cz, mz, pz, ct, mt, ve, cv, ow, le, ki⟩ true = (4, (mxI cz pz)) := by
            unfold toldK
            rw [if_neg (by simp), if_pos ⟨rfl, hl⟩]
          rw [htk] at hag
          conv => lhs; whnf
          repeat (first | refine go_dec hl ?_ | refine go_rd htop ?_ | refine go_D hD rfl ?_
                  conv => lhs; whnf)
          refine (hD _).2 ⟨by kernel_rfl, _, hT.map, wL_alike ⟨conn, 3, p⟩ ws, fun A2 hM ho _ => ?_⟩
          have hM : MapAt A2 m (delL (wKey ⟨conn, 3, p⟩) (wL ws)) := hM
          rw [wL_del] at hM
          have hend : bellAgainS.post ((⟨t, m, ws⟩ : TwG), ⟨conn, 3, p⟩, last, ⟨np, cz, mz, pz, ct, mt, ve, cv, ow, le, ki⟩, true) [] A1 (.tuple #[.agg #[.int .u8 4, .int .u8 3, .string p, .int .i64 (mxI cz pz)], .bool true]) A2 := by
            show _ = Value.tuple #[.agg (againW _ _ _ _ _).1.cells.toArray, .bool (againW _ _ _ _ _).2.1] ∧ TwTo A1 _ (againW _ _ _ _ _).2.2 A2
            rw [hag]
            exact ⟨rfl, .of_set hT hM ho (hT.nd.erase _)⟩
          conv => lhs; whnf
          exact (hD _).2 hend
        · have htk : toldK 3 last ⟨np, cz, mz, pz, ct, mt, ve, cv, ow, le, ki⟩ true = (0, 0) := by
            unfold toldK
            rw [if_neg (by simp), if_neg (fun h => hl h.2), if_neg (by omega), if_neg (by omega)]
          rw [htk] at hag
          conv => lhs; whnf
          repeat (first | refine no_dec hl ?_ | refine go_rd htop ?_ | refine go_D hD rfl ?_
                  conv => lhs; whnf)
          refine (hD _).2 ⟨((⟨t, m, ws⟩ : TwG), ⟨conn, 3, p⟩), ⟨rfl, hT⟩, fun v A2 hq => ?_⟩
          have hq : TwTo A1 ⟨t, m, ws⟩ (if mayD 3 p = true then wPut ⟨conn, 3, p⟩ ws else ws) A2 := hq
          rw [if_pos hm] at hq
          have hend : bellAgainS.post ((⟨t, m, ws⟩ : TwG), ⟨conn, 3, p⟩, last, ⟨np, cz, mz, pz, ct, mt, ve, cv, ow, le, ki⟩, true) [] A1 (.tuple #[.agg #[.int .u8 0, .int .u8 0, .string ⟨#[]⟩, .int .i64 0], .bool false]) A2 := by
            show _ = Value.tuple #[.agg (againW _ _ _ _ _).1.cells.toArray, .bool (againW _ _ _ _ _).2.1] ∧ TwTo A1 _ (againW _ _ _ _ _).2.2 A2
            rw [hag]
            exact ⟨rfl, hq⟩
          conv => lhs; whnf
          exact (hD _).2 hend
      · by_cases h2 : sort = 2
        · subst h2
          by_cases hc : last < cz
          · have htk : toldK 2 last ⟨np, cz, mz, pz, ct, mt, ve, cv, ow, le, ki⟩ true = (1, cz) := by
              unfold toldK
              rw [if_neg (by simp), if_neg (by omega), if_pos ⟨rfl, hc⟩]
            rw [htk] at hag
            conv => lhs; whnf
            repeat (first | refine go_dec hc ?_ | refine go_rd htop ?_ | refine go_D hD rfl ?_
                    conv => lhs; whnf)
            refine (hD _).2 ⟨by kernel_rfl, _, hT.map, wL_alike ⟨conn, 2, p⟩ ws, fun A2 hM ho _ => ?_⟩
            have hM : MapAt A2 m (delL (wKey ⟨conn, 2, p⟩) (wL ws)) := hM
            rw [wL_del] at hM
            have hend : bellAgainS.post ((⟨t, m, ws⟩ : TwG), ⟨conn, 2, p⟩, last, ⟨np, cz, mz, pz, ct, mt, ve, cv, ow, le, ki⟩, true) [] A1 (.tuple #[.agg #[.int .u8 1, .int .u8 2, .string p, .int .i64 cz], .bool true]) A2 := by
              show _ = Value.tuple #[.agg (againW _ _ _ _ _).1.cells.toArray, .bool (againW _ _ _ _ _).2.1] ∧ TwTo A1 _ (againW _ _ _ _ _).2.2 A2
              rw [hag]
              exact ⟨rfl, .of_set hT hM ho (hT.nd.erase _)⟩
            conv => lhs; whnf
            exact (hD _).2 hend
          · by_cases hl : last < mz
            · have htk : toldK 2 last ⟨np, cz, mz, pz, ct, mt, ve, cv, ow, le, ki⟩ true = (3, mz) := by
                unfold toldK
                rw [if_neg (by simp), if_neg (by omega), if_neg (fun h => hc h.2), if_pos ⟨by omega, hl⟩]
              rw [htk] at hag
              conv => lhs; whnf
              repeat (first | refine no_dec hc ?_ | refine go_dec hl ?_ | refine go_rd htop ?_ | refine go_D hD rfl ?_
                      conv => lhs; whnf)
              refine (hD _).2 ⟨by kernel_rfl, _, hT.map, wL_alike ⟨conn, 2, p⟩ ws, fun A2 hM ho _ => ?_⟩
              have hM : MapAt A2 m (delL (wKey ⟨conn, 2, p⟩) (wL ws)) := hM
              rw [wL_del] at hM
              have hend : bellAgainS.post ((⟨t, m, ws⟩ : TwG), ⟨conn, 2, p⟩, last, ⟨np, cz, mz, pz, ct, mt, ve, cv, ow, le, ki⟩, true) [] A1 (.tuple #[.agg #[.int .u8 3, .int .u8 2, .string p, .int .i64 mz], .bool true]) A2 := by
                show _ = Value.tuple #[.agg (againW _ _ _ _ _).1.cells.toArray, .bool (againW _ _ _ _ _).2.1] ∧ TwTo A1 _ (againW _ _ _ _ _).2.2 A2
                rw [hag]
                exact ⟨rfl, .of_set hT hM ho (hT.nd.erase _)⟩
              conv => lhs; whnf
              exact (hD _).2 hend
            · have htk : toldK 2 last ⟨np, cz, mz, pz, ct, mt, ve, cv, ow, le, ki⟩ true = (0, 0) := by
                unfold toldK
                rw [if_neg (by simp), if_neg (by omega), if_neg (fun h => hc h.2), if_neg (fun h => hl h.2)]
              rw [htk] at hag
              conv => lhs; whnf
              repeat (first | refine no_dec hc ?_ | refine no_dec hl ?_ | refine go_rd htop ?_ | refine go_D hD rfl ?_
                      conv => lhs; whnf)
              refine (hD _).2 ⟨((⟨t, m, ws⟩ : TwG), ⟨conn, 2, p⟩), ⟨rfl, hT⟩, fun v A2 hq => ?_⟩
              have hq : TwTo A1 ⟨t, m, ws⟩ (if mayD 2 p = true then wPut ⟨conn, 2, p⟩ ws else ws) A2 := hq
              rw [if_pos hm] at hq
              have hend : bellAgainS.post ((⟨t, m, ws⟩ : TwG), ⟨conn, 2, p⟩, last, ⟨np, cz, mz, pz, ct, mt, ve, cv, ow, le, ki⟩, true) [] A1 (.tuple #[.agg #[.int .u8 0, .int .u8 0, .string ⟨#[]⟩, .int .i64 0], .bool false]) A2 := by
                show _ = Value.tuple #[.agg (againW _ _ _ _ _).1.cells.toArray, .bool (againW _ _ _ _ _).2.1] ∧ TwTo A1 _ (againW _ _ _ _ _).2.2 A2
                rw [hag]
                exact ⟨rfl, hq⟩
              conv => lhs; whnf
              exact (hD _).2 hend
        · by_cases hl : last < mz
          · have htk : toldK sort last ⟨np, cz, mz, pz, ct, mt, ve, cv, ow, le, ki⟩ true = (3, mz) := by
              unfold toldK
              rw [if_neg (by simp), if_neg (fun h => h3 h.1), if_neg (fun h => h2 h.1), if_pos ⟨h3, hl⟩]
            rw [htk] at hag
            conv => lhs; whnf
            repeat (first | refine no_dec h2 ?_ | refine no_dec h3 ?_ | refine split_nd (fun h => absurd h h3) (fun _ => ?_) | refine go_dec hl ?_ | refine go_rd htop ?_ | refine go_D hD rfl ?_
                    conv => lhs; whnf)
            refine (hD _).2 ⟨by kernel_rfl, _, hT.map, wL_alike ⟨conn, sort, p⟩ ws, fun A2 hM ho _ => ?_⟩
            have hM : MapAt A2 m (delL (wKey ⟨conn, sort, p⟩) (wL ws)) := hM
            rw [wL_del] at hM
            have hend : bellAgainS.post ((⟨t, m, ws⟩ : TwG), ⟨conn, sort, p⟩, last, ⟨np, cz, mz, pz, ct, mt, ve, cv, ow, le, ki⟩, true) [] A1 (.tuple #[.agg #[.int .u8 3, .int .u8 sort, .string p, .int .i64 mz], .bool true]) A2 := by
              show _ = Value.tuple #[.agg (againW _ _ _ _ _).1.cells.toArray, .bool (againW _ _ _ _ _).2.1] ∧ TwTo A1 _ (againW _ _ _ _ _).2.2 A2
              rw [hag]
              exact ⟨rfl, .of_set hT hM ho (hT.nd.erase _)⟩
            conv => lhs; whnf
            exact (hD _).2 hend
          · have htk : toldK sort last ⟨np, cz, mz, pz, ct, mt, ve, cv, ow, le, ki⟩ true = (0, 0) := by
              unfold toldK
              rw [if_neg (by simp), if_neg (fun h => h3 h.1), if_neg (fun h => h2 h.1), if_neg (fun h => hl h.2)]
            rw [htk] at hag
            conv => lhs; whnf
            repeat (first | refine no_dec h2 ?_ | refine no_dec h3 ?_ | refine split_nd (fun h => absurd h h3) (fun _ => ?_) | refine no_dec hl ?_ | refine go_rd htop ?_ | refine go_D hD rfl ?_
                    conv => lhs; whnf)
            refine (hD _).2 ⟨((⟨t, m, ws⟩ : TwG), ⟨conn, sort, p⟩), ⟨rfl, hT⟩, fun v A2 hq => ?_⟩
            have hq : TwTo A1 ⟨t, m, ws⟩ (if mayD sort p = true then wPut ⟨conn, sort, p⟩ ws else ws) A2 := hq
            rw [if_pos hm] at hq
            have hend : bellAgainS.post ((⟨t, m, ws⟩ : TwG), ⟨conn, sort, p⟩, last, ⟨np, cz, mz, pz, ct, mt, ve, cv, ow, le, ki⟩, true) [] A1 (.tuple #[.agg #[.int .u8 0, .int .u8 0, .string ⟨#[]⟩, .int .i64 0], .bool false]) A2 := by
              show _ = Value.tuple #[.agg (againW _ _ _ _ _).1.cells.toArray, .bool (againW _ _ _ _ _).2.1] ∧ TwTo A1 _ (againW _ _ _ _ _).2.2 A2
              rw [hag]
              exact ⟨rfl, hq⟩
            conv => lhs; whnf
            exact (hD _).2 hend

end
end Go.Proofs.YtmhnhkigbfdapaaGreatDoor
