/-
  Contracts: has a deed what its kind may have? Are deeds parts? Is a deed right?
  Contracts: are deeds parts? Is a deed right?
  Rows that are made by append: many elements at once.
  Contracts: bell: Ring.
  Contracts: bell: a tower that nobody made: change, Ring.
  Contracts: the law's is: rows of rings that are the same are told so.
  Contracts: bell: Again.
  Contracts: the chapter's first example.
  Steps of a tower's life, as plain data.
  BellNil: the law's text over plain data.
  Lifting: what a row's arguments are in memory, as plain data of an arena that holds all that lay.
  Members and deeds as plain data, out of what a row's arguments are.
-/
import Derived.Test.YtpgpbnalgjbfbaaDoorG09
import Derived.Test.YtpgpbnalgjbfbaaDoorG10
import Derived.Test.YtpgpbnalgjbfbaaDoorG11
import Derived.Test.YtpgpbnalgjbfbaaDoorG07
import Derived.Test.YtpgpbnalgjbfbaaDoorG08
import Derived.Test.YtpgpbnalgjbfbaaDoorG06
import Derived.ChangeArms
import Derived.DataReads
import Derived.SizedLaws
namespace Go.Proofs.YtpgpbnalgjbfbaaDoor
open Go.Sx Go.RowKit
noncomputable section
open Classical

set_option maxRecDepth 100000 in
set_option maxHeartbeats 0 in
theorem fits_ok : FOk Tryd.prog 24 fitsS := by
  refine fok_v mixed fun d vs A hp => ?_
  obtain ⟨cs, rfl, hR, hA⟩ : ∃ cs, vs = [deedV cs] ∧ DeedR A d cs ∧ HasA A := hp
  obtain ⟨⟨zxid, kind, ses, turn, xid, time, path, data, owner, ver, cver, tmo, err, cfg, mem⟩, parts⟩ := d
  rw [DeedR] at hR
  dsimp only [DeedH.cells] at hR
  obtain ⟨vd, vm, vp, rows, rfl, -, ⟨⟨a7, k7, rfl, -⟩, -⟩, ⟨⟨a14, k14, rfl, -⟩, -⟩, ⟨a15, k15, rfl, -⟩, -⟩ := hR
  refine ⟨C0, noL, 60, C0_sound, noL_sound _, ?_⟩
  by_cases hk : kind = 1 ∨ kind = 2 ∨ kind = 3 ∨ kind = 4 ∨ kind = 5 ∨ kind = 6 ∨ kind = 7 ∨ kind = 8 ∨ kind = 9
  · rcases hk with rfl | rfl | rfl | rfl | rfl | rfl | rfl | rfl | rfl
    · exact fitsK1 hA _ _ _ _ _ _ _ _ _ _ _ _ _ _ _ _ _ _ _ _ _
    · exact fitsK2 hA _ _ _ _ _ _ _ _ _ _ _ _ _ _ _ _ _ _ _ _ _
    · exact fitsK3 hA _ _ _ _ _ _ _ _ _ _ _ _ _ _ _ _ _ _ _ _ _
    · exact fitsK4 hA _ _ _ _ _ _ _ _ _ _ _ _ _ _ _ _ _ _ _ _ _
    · exact fitsK5 hA _ _ _ _ _ _ _ _ _ _ _ _ _ _ _ _ _ _ _ _ _
    · exact fitsK6 hA _ _ _ _ _ _ _ _ _ _ _ _ _ _ _ _ _ _ _ _ _
    · exact fitsK7 hA _ _ _ _ _ _ _ _ _ _ _ _ _ _ _ _ _ _ _ _ _
    · exact fitsK8 hA _ _ _ _ _ _ _ _ _ _ _ _ _ _ _ _ _ _ _ _ _
    · exact fitsK9 hA _ _ _ _ _ _ _ _ _ _ _ _ _ _ _ _ _ _ _ _ _
  · have bad : Value.bool false = .bool (decide (FitsD ⟨zxid, kind, ses, turn, xid, time, path, data, owner, ver, cver, tmo, err, cfg, mem⟩ parts.length)) := by
      rw [decide_eq_false fun h => hk (by have := h.1; dsimp only at this; omega)]
    intro blk os out tape D hD
    conv => lhs; whnf
    refine split_dec (fun h1 => ?_) (fun h1 => ?_) <;> (conv => lhs; whnf)
    · exact (hD _).2 ⟨rfl, bad⟩
    refine split_dec (fun h2 => ?_) (fun h2 => ?_) <;> (conv => lhs; whnf)
    · exact (hD _).2 ⟨rfl, bad⟩
    exact absurd (by omega) hk

end
end Go.Proofs.YtpgpbnalgjbfbaaDoor

namespace Go.Proofs.YtpgpbnalgjbfbaaDoor
open Go.Sx Go.RowKit
noncomputable section
open Classical

/-- May a deed be a part? -/
def PartD (last : Int) (p : DeedD) : Prop :=
  p.h.zxid = 0 ∧ p.h.ses = 0 ∧ p.h.turn = 0 ∧ p.h.xid = 0 ∧ p.h.time = 0 ∧ FitsD p.h p.parts.length ∧ p.h.kind ≤ last ∧ (last = 2 → p.h.kind = 2)

def PartsD (ds : List DeedD) (least most last : Int) : Prop := least ≤ ds.length ∧ (ds.length : Int) ≤ most ∧ ∀ p ∈ ds, PartD last p

def partsS : FSpec := ⟨List DeedD × Int × Int × Int, fun g vs A => ∃ v, vs = [v, .int .i64 g.2.1, .int .i64 g.2.2.1, .int .u8 g.2.2.2] ∧ DeedsS A v g.1 ∧ HasA A, fun g _ A v A' => A' = A ∧ v = .bool (decide (PartsD g.1 g.2.1 g.2.2.1 g.2.2.2))⟩

def partsInv (A : Arena) (ds : List DeedD) (last : Int) : LInv := { γ := Nat, G := fun k => k ≤ ds.length ∧ ∀ p ∈ ds.take k, PartD last p, keepS := [3, 21, 22], keepB := [], sl := fun k => [(23, .v (.int .i64 k))], bl := fun _ => [], ar := fun _ => A, mu := fun k => ds.length - k }

set_option maxRecDepth 100000 in
set_option maxHeartbeats 0 in
theorem parts_ok : FOk Tryd.prog 25 partsS := by
  refine fok_v mixed fun ⟨ds, least, most, last⟩ vs A hp => ?_
  obtain ⟨v, rfl, ⟨rows, ⟨ao, c, rfl, hc, hl, ha1, ha2, ha3⟩, hsz, hR⟩, hA⟩ : ∃ v, vs = [v, .int .i64 least, .int .i64 most, .int .u8 last] ∧ DeedsS A v ds ∧ HasA A := hp
  have hC : CTSound Tryd.prog (lookC [specE 24 fitsS] noC) := lookC_sound (noC_sound _) (fun x hx => by
    simp only [List.mem_singleton] at hx
    subst hx; exact specE_ok fits_ok)
  refine ⟨_, tabO Tryd.prog _ noL 60 [(25, 0)], 60, hC, tabO_sound mixed hC (noL_sound _) _ _, fun blk os out tape D hD => ?_⟩
  have bad : ¬ PartsD ds least most last → Value.bool false = .bool (decide (PartsD ds least most last)) := fun h => by rw [decide_eq_false h]
  conv => lhs; whnf
  refine split_dec (fun h1 => ?_) (fun h1 => ?_) <;> (conv => lhs; whnf)
  · have h1 : (ds.length : Int) < least := h1
    exact (hD _).2 ⟨rfl, bad fun h => by have := h.1; omega⟩
  have h1 : ¬ (ds.length : Int) < least := h1
  refine split_dec (fun h2 => ?_) (fun h2 => ?_) <;> (conv => lhs; whnf)
  · have h2 : most < (ds.length : Int) := h2
    exact (hD _).2 ⟨rfl, bad fun h => by have := h.2.1; omega⟩
  have h2 : ¬ most < (ds.length : Int) := h2
  refine (hD _).2 ⟨partsInv A ds last, ⟨(0 : Nat), ⟨Nat.zero_le _, by simp⟩, ⟨rfl, trivial⟩, trivial, rfl⟩, fun (k : Nat) hG => ⟨⟨trivial, trivial⟩, trivial, ?_⟩⟩
  obtain ⟨hk, hall⟩ : k ≤ ds.length ∧ ∀ p ∈ ds.take k, PartD last p := hG
  conv => lhs; whnf
  refine split_dec (fun hlt => ?_) (fun hlt => ?_)
  · have hlt : (k : Int) < ds.length := hlt
    have hkn : k < ds.length := by omega
    obtain ⟨g, o, rfl, hra⟩ := Sl.at_ hc ha1 ha2 ha3 (by omega)
    obtain ⟨cs, hcs, hd⟩ := deed_at hra hR k hkn rfl
    conv => lhs; whnf
    refine go_in ⟨by omega, hlt⟩ ?_
    conv => lhs; whnf
    have hbad : ¬ PartD last ds[k] → ¬ PartsD ds least most last := fun h hp => h (hp.2.2 _ (List.getElem_mem hkn))
    have hgood : PartD last ds[k] → ∀ p ∈ ds.take (k + 1), PartD last p := fun h p hp => by
      rw [List.take_succ_eq_append_getElem hkn, List.mem_append] at hp
      rcases hp with hp | hp
      · exact hall p hp
      · rw [List.mem_singleton] at hp
        subst hp; exact h
    generalize ds[k] = d at hd hbad hgood
    obtain ⟨⟨zxid, kind, ses, turn, xid, time, path, data, owner, ver, cver, tmo, err, cfg, mem⟩, parts⟩ := d
    obtain ⟨a7, l7, k7, a14, l14, k14, a15, l15, k15, rfl⟩ := hd.form
    dsimp only [DeedD.h, DeedH.cells] at hcs hd
    simp only [PartD, DeedD.h, DeedD.parts] at hbad hgood
    refine go_rd hcs ?_
    conv => lhs; whnf
    refine split_b (fun h => ?_) (fun h3 => ?_) <;> (conv => lhs; whnf)
    · simp at h; exact (hD _).2 ⟨rfl, bad (hbad fun hP => by omega)⟩
    refine split_b (fun h => ?_) (fun h4 => ?_) <;> (conv => lhs; whnf)
    · simp at h; exact (hD _).2 ⟨rfl, bad (hbad fun hP => by omega)⟩
    refine split_b (fun h => ?_) (fun h5 => ?_) <;> (conv => lhs; whnf)
    · simp at h; exact (hD _).2 ⟨rfl, bad (hbad fun hP => by omega)⟩
    refine split_b (fun h => ?_) (fun h6 => ?_) <;> (conv => lhs; whnf)
    · simp at h; exact (hD _).2 ⟨rfl, bad (hbad fun hP => by omega)⟩
    refine split_b (fun h => ?_) (fun h7 => ?_) <;> (conv => lhs; whnf)
    · simp at h; exact (hD _).2 ⟨rfl, bad (hbad fun hP => by omega)⟩
    refine (hD _).2 ⟨_, ⟨_, rfl, hd, hA⟩, fun v A' hq => ?_⟩
    obtain ⟨rfl, rfl⟩ : A' = A ∧ v = .bool (decide (FitsD ⟨zxid, kind, ses, turn, xid, time, path, data, owner, ver, cver, tmo, err, cfg, mem⟩ parts.length)) := hq
    simp at h3 h4 h5 h6 h7
    conv => lhs; whnf
    refine split_nd (fun h8 => ?_) (fun h8 => ?_) <;> (conv => lhs; whnf)
    rotate_left
    · exact (hD _).2 ⟨rfl, bad (hbad fun hP => h8 hP.2.2.2.2.2.1)⟩
    refine split_dec (fun h9 => ?_) (fun h9 => ?_) <;> (conv => lhs; whnf)
    · exact (hD _).2 ⟨rfl, bad (hbad fun hP => by omega)⟩
    refine split_dec (fun h10 => ?_) (fun h10 => ?_) <;> (conv => lhs; whnf)
    · refine split_b (fun h => ?_) (fun h => ?_) <;> (conv => lhs; whnf)
      · simp at h
        exact (hD _).2 ⟨rfl, bad (hbad fun hP => by omega)⟩
      · simp at h
        exact (hD _).2 ⟨(k + 1 : Nat), ⟨⟨by omega, hgood ⟨h3, h4, h5, h6, h7, h8, by omega, fun _ => by omega⟩⟩, ⟨inc_slot (by omega), trivial⟩, trivial, rfl⟩, by show ds.length - (k + 1) < ds.length - k; omega, ⟨rfl, rfl, rfl, trivial⟩, trivial⟩
    · refine (hD _).2 ⟨(k + 1 : Nat), ⟨⟨by omega, hgood ⟨h3, h4, h5, h6, h7, h8, by omega, fun h => absurd h h10⟩⟩, ⟨inc_slot (by omega), trivial⟩, trivial, rfl⟩, by show ds.length - (k + 1) < ds.length - k; omega, ⟨rfl, rfl, rfl, trivial⟩, trivial⟩
  · have hlt : ¬ (k : Int) < ds.length := hlt
    conv => lhs; whnf
    refine (hD _).2 ⟨rfl, ?_⟩
    have hkn : k = ds.length := by omega
    rw [hkn, List.take_length] at hall
    have h9 : PartsD ds least most last := ⟨by omega, by omega, hall⟩
    show Value.bool true = .bool (decide (PartsD ds least most last))
    rw [decide_eq_true h9]

/-- Is a deed right? -/
def RightD (d : DeedD) : Prop :=
  1 ≤ d.h.zxid ∧ d.h.zxid / 4294967296 ≤ 1073741824 ∧ 0 ≤ d.h.ses ∧ 0 ≤ d.h.turn ∧ 0 ≤ d.h.xid ∧ 0 ≤ d.h.time ∧ FitsD d.h d.parts.length ∧
  (d.h.kind = 5 → PartsD d.parts 0 500 2) ∧ (d.h.kind = 7 → ensD d.h.cfg d.h.mem = 0 ∧ d.h.cfg = d.h.zxid) ∧ (d.h.kind = 8 → PartsD d.parts 1 16 3)

def rightS : FSpec := ⟨DeedD, fun d vs A => ∃ cs, vs = [deedV cs] ∧ DeedR A d cs ∧ HasA A, fun d _ A v A' => A' = A ∧ v = .bool (decide (RightD d))⟩

set_option maxRecDepth 100000 in
set_option maxHeartbeats 0 in
theorem right_ok : FOk Tryd.prog 19 rightS := by
  refine fok_v mixed fun d vs A hp => ?_
  obtain ⟨cs, rfl, hR, hA⟩ : ∃ cs, vs = [deedV cs] ∧ DeedR A d cs ∧ HasA A := hp
  have hC : CTSound Tryd.prog (lookC [specE 24 fitsS, specE 25 partsS, specE 26 ensS] noC) := lookC_sound (noC_sound _) (fun x hx => by
    simp only [List.mem_cons, List.not_mem_nil, or_false] at hx
    rcases hx with rfl | rfl | rfl
    · exact specE_ok fits_ok
    · exact specE_ok parts_ok
    · exact specE_ok ens_ok)
  refine ⟨_, noL, 60, hC, noL_sound _, fun blk os out tape D hD => ?_⟩
  have hR0 := hR
  obtain ⟨⟨zxid, kind, ses, turn, xid, time, path, data, owner, ver, cver, tmo, err, cfg, mem⟩, parts⟩ := d
  rw [DeedR] at hR
  dsimp only [DeedH.cells] at hR
  obtain ⟨vd, vm, vp, rows, rfl, -, ⟨⟨a7, k7, rfl, -⟩, -⟩, hM, hS, hlen, hRows⟩ := hR
  obtain ⟨a14, k14, rfl⟩ := hM.1.form
  obtain ⟨a15, k15, rfl⟩ := hS.form
  have bad : ¬ RightD (.mk ⟨zxid, kind, ses, turn, xid, time, path, data, owner, ver, cver, tmo, err, cfg, mem⟩ parts) → Value.bool false = .bool (decide (RightD (.mk ⟨zxid, kind, ses, turn, xid, time, path, data, owner, ver, cver, tmo, err, cfg, mem⟩ parts))) := fun h => by rw [decide_eq_false h]
  have fin : ∀ {b : Bool}, (b = true ↔ RightD (.mk ⟨zxid, kind, ses, turn, xid, time, path, data, owner, ver, cver, tmo, err, cfg, mem⟩ parts)) → Value.bool b = .bool (decide (RightD (.mk ⟨zxid, kind, ses, turn, xid, time, path, data, owner, ver, cver, tmo, err, cfg, mem⟩ parts))) := fun {b} h => by
    congr 1
    rw [Bool.eq_iff_iff, decide_eq_true_eq]
    exact h
  simp only [RightD, DeedD.h, DeedD.parts] at bad fin
  conv => lhs; whnf
  refine split_dec (fun h1 => ?_) (fun h1 => ?_) <;> (conv => lhs; whnf)
  · exact (hD _).2 ⟨rfl, bad fun h => by omega⟩
  have hz : zxid.fdiv (2 ^ min (Int.toNat 32) IntKind.i64.bits) = zxid / 4294967296 := by
    show zxid.fdiv 4294967296 = _
    rw [Int.fdiv_eq_ediv_of_nonneg _ (by decide)]
  refine split_dec (fun h2 => ?_) (fun h2 => ?_) <;> (conv => lhs; whnf)
  rotate_left
  · exact (hD _).2 ⟨rfl, bad fun h => by omega⟩
  refine split_nd (fun h3 => ?_) (fun h3 => ?_) <;> (conv => lhs; whnf)
  rotate_left
  · rw [hz] at h3
    exact (hD _).2 ⟨rfl, bad fun h => by omega⟩
  rw [hz] at h3
  refine split_dec (fun h4 => ?_) (fun h4 => ?_) <;> (conv => lhs; whnf)
  · exact (hD _).2 ⟨rfl, bad fun h => by omega⟩
  refine split_dec (fun h5 => ?_) (fun h5 => ?_) <;> (conv => lhs; whnf)
  · exact (hD _).2 ⟨rfl, bad fun h => by omega⟩
  refine split_dec (fun h6 => ?_) (fun h6 => ?_) <;> (conv => lhs; whnf)
  · exact (hD _).2 ⟨rfl, bad fun h => by omega⟩
  refine split_dec (fun h7 => ?_) (fun h7 => ?_) <;> (conv => lhs; whnf)
  · exact (hD _).2 ⟨rfl, bad fun h => by omega⟩
  refine (hD _).2 ⟨_, ⟨_, rfl, hR0, hA⟩, fun v A' hq => ?_⟩
  obtain ⟨rfl, rfl⟩ : A' = A ∧ v = .bool (decide (FitsD ⟨zxid, kind, ses, turn, xid, time, path, data, owner, ver, cver, tmo, err, cfg, mem⟩ parts.length)) := hq
  conv => lhs; whnf
  refine split_nd (fun h8 => ?_) (fun h8 => ?_) <;> (conv => lhs; whnf)
  rotate_left
  · exact (hD _).2 ⟨rfl, bad fun h => h8 h.2.2.2.2.2.2.1⟩
  refine split_dec (fun h9 => ?_) (fun h9 => ?_) <;> (conv => lhs; whnf)
  · refine (hD _).2 ⟨(parts, 0, 500, 2), ⟨_, rfl, ⟨rows, hS, hlen, hRows⟩, hA⟩, fun v A'' hq => ?_⟩
    obtain ⟨rfl, rfl⟩ : A'' = A' ∧ v = .bool (decide (PartsD parts 0 500 2)) := hq
    conv => lhs; whnf
    exact (hD _).2 ⟨rfl, fin (by
      rw [decide_eq_true_eq]
      exact ⟨fun h => ⟨by omega, by omega, by omega, by omega, by omega, by omega, h8, fun _ => h, fun h => by omega, fun h => by omega⟩, fun h => h.2.2.2.2.2.2.2.1 h9⟩)⟩
  refine split_dec (fun h10 => ?_) (fun h10 => ?_) <;> (conv => lhs; whnf)
  · refine (hD _).2 ⟨(cfg, mem), ⟨_, rfl, hM⟩, fun v A'' hq => ?_⟩
    obtain ⟨rfl, rfl⟩ : A'' = A' ∧ v = .int .i64 (ensD cfg mem) := hq
    conv => lhs; whnf
    refine split_dec (fun h11 => ?_) (fun h11 => ?_) <;> (conv => lhs; whnf)
    · exact (hD _).2 ⟨rfl, fin (by
        rw [cond_true, decide_eq_true_eq]
        exact ⟨fun h => ⟨by omega, by omega, by omega, by omega, by omega, by omega, h8, fun h => by omega, fun _ => ⟨h11, h⟩, fun h => by omega⟩, fun h => (h.2.2.2.2.2.2.2.2.1 h10).2⟩)⟩
    · exact (hD _).2 ⟨rfl, bad fun h => h11 (h.2.2.2.2.2.2.2.2.1 h10).1⟩
  refine split_dec (fun h12 => ?_) (fun h12 => ?_) <;> (conv => lhs; whnf)
  · refine (hD _).2 ⟨(parts, 1, 16, 3), ⟨_, rfl, ⟨rows, hS, hlen, hRows⟩, hA⟩, fun v A'' hq => ?_⟩
    obtain ⟨rfl, rfl⟩ : A'' = A' ∧ v = .bool (decide (PartsD parts 1 16 3)) := hq
    conv => lhs; whnf
    exact (hD _).2 ⟨rfl, fin (by
      rw [decide_eq_true_eq]
      exact ⟨fun h => ⟨by omega, by omega, by omega, by omega, by omega, by omega, h8, fun h => by omega, fun h => by omega, fun _ => h⟩, fun h => h.2.2.2.2.2.2.2.2.2 h12⟩)⟩
  · exact (hD _).2 ⟨rfl, fin (iff_of_true rfl ⟨by omega, by omega, by omega, by omega, by omega, by omega, h8, fun h => by omega, fun h => by omega, fun h => by omega⟩)⟩

end
end Go.Proofs.YtpgpbnalgjbfbaaDoor

namespace Go.Sx
noncomputable section

/-- What an append of m elements to it asks. -/
structure GrowM (A : Arena) (base : Option (Nat × Nat)) (n m c es bytes : Nat) (cs : List Value) : Prop where
  rd : baseRd A base (n * es) = some cs
  cap : c < n + m → Builtin.nextslicecap (n + m) c * bytes ≤ 281474976710656
  none_ : base = none → n = 0 ∧ c = 0
  room : ∀ (k : Nat), k = m * es → ∀ g o, base = some (g, o) → n + m ≤ c → A.Room g (o + n * es) k

theorem GrowR.formN {A1 A : Arena} {es : Nat} {e : TypeId} {n : Nat} {v : Value} {cs : List Value} (h : GrowR A1 A es e n v cs) :
    ∃ base c, v = .slice (addrA base) n c ∧ (base = none ∨ ∃ g, base = some (g, 0)) ∧ (∀ m bytes, bytes ≤ 65536 → n + m ≤ 1000000000 → GrowM A base n m c es bytes cs) ∧
    ∀ m ys v' A', ys.length = m * es → (∀ k, A.blk k = none → A1.blk k = none) → Appended A base n c es e cs ys m v' A' → GrowR A1 A' es e (n + m) v' (cs ++ ys) ∧ ∀ k o, A1.blk k = some o → A'.blk k = A.blk k := by
  obtain ⟨hl, ⟨rfl, rfl⟩ | ⟨g, nc, c, rfl, hn, hpos, hg, hb, hsz, ht⟩⟩ := h
  · have hcs : cs = [] := List.length_eq_zero_iff.1 (by rw [hl]; simp)
    subst hcs
    refine ⟨none, 0, rfl, .inl rfl, fun m bytes hby hn => ⟨by simp [baseRd], fun h => ?_, fun _ => ⟨rfl, rfl⟩, fun _ _ _ _ h => (by cases h)⟩, fun m ys v' A' hy hd ha => ?_⟩
    · have := nextcap_le h
      calc _ ≤ (2 * (0 + m) + 768) * 65536 := Nat.mul_le_mul this hby
        _ ≤ _ := by omega
    · rcases ha with ⟨h0, rfl, h3⟩ | ⟨hlt, g, nc, c, zs, rfl, hnc, hc, hz, hN⟩
      · have hm : m = 0 := by omega
        subst hm
        have hys : ys = [] := List.length_eq_zero_iff.1 (by rw [hy]; simp)
        subst hys
        rcases h3 with ⟨_, rfl⟩ | ⟨g, o, h, _⟩
        · exact ⟨GrowR.nil _ _ _ _, fun _ _ _ => rfl⟩
        · cases h
      · refine ⟨⟨by simp [hy], .inr ⟨g, nc, c, rfl, hnc, by omega, hd g hN.none_, hN.at_, ?_, ?_⟩⟩, fun k o hk => hN.other k fun e => (by subst e; rw [hd _ hN.none_] at hk; cases hk)⟩
        · rw [← Array.length_toList, hc]
          simp only [List.nil_append, List.length_append, hy, hz, Nat.zero_add]
          rw [← Nat.add_mul]; congr 1; omega
        · rw [hc, Nat.zero_add, List.nil_append, List.take_append_of_le_length (by omega), List.take_of_length_le (by omega)]
  · have hle : n * es ≤ nc * es := Nat.mul_le_mul_right _ hn
    refine ⟨some (g, 0), nc, rfl, .inr ⟨g, rfl⟩, fun m bytes hby hnb => ⟨?_, fun h => ?_, fun h => (by cases h), fun k hk g' o' h hlt => ?_⟩, fun m ys v' A' hy hd ha => ?_⟩
    · show (if n * es = 0 then some [] else A.rd g 0 (n * es)) = some cs
      by_cases h0 : n * es = 0
      · rw [if_pos h0]
        rw [h0] at hl; rw [List.length_eq_zero_iff.1 hl]
      · rw [if_neg h0, rd_mk hb (by omega)]; simp [ht]
    · have := nextcap_le h
      calc _ ≤ (2 * (n + m) + 768) * 65536 := Nat.mul_le_mul this hby
        _ ≤ _ := by omega
    · injection h with h; injection h with h1 h2; subst h1; subst h2; subst hk
      refine ⟨c, e, (0, 0), hb, ?_, .inl rfl⟩
      have := Nat.mul_le_mul_right es hlt
      rw [Nat.add_mul] at this; omega
    · rcases ha with ⟨h0, rfl, h3⟩ | ⟨h0, g', nc', c', zs, rfl, hnc, hc, hz, hN⟩
      · obtain ⟨c', k1, k2, k3⟩ : ∃ c', A'.blk g = some (.cells c' e (0, 0)) ∧ (∀ k, k ≠ g → A'.blk k = A.blk k) ∧ c'.toList = c.toList.take (n * es) ++ ys ++ c.toList.drop (n * es + ys.length) := by
          rcases h3 with ⟨rfl, rfl⟩ | ⟨g', o', h, hP⟩
          · exact ⟨c, hb, fun _ _ => rfl, by simp⟩
          · injection h with h; injection h with h1 h2; subst h1; subst h2
            obtain ⟨c0, t0, fz0, c', k1, k2, k3⟩ := hP.at_
            rw [hb] at k1
            injection k1 with k1; injection k1 with k1 k1' k1''
            subst k1; subst k1'; subst k1''
            exact ⟨c', k2, hP.other, by rw [k3]; simp⟩
        have hlen : n * es + m * es ≤ nc * es := by rw [← Nat.add_mul]; exact Nat.mul_le_mul_right _ h0
        have hcl : (cs ++ ys).length = (n + m) * es := by rw [List.length_append, hl, hy, Nat.add_mul]
        refine ⟨⟨hcl, .inr ⟨g, nc, c', rfl, h0, hpos, hg, k1, ?_, ?_⟩⟩, fun k o hk => k2 k fun e => (by subst e; rw [hg] at hk; cases hk)⟩
        · rw [← Array.length_toList, k3]
          simp only [List.length_append, List.length_take, List.length_drop, Array.length_toList, hsz, hy]
          omega
        · rw [k3, ht, List.take_append_of_le_length (by omega), List.take_of_length_le (by omega)]
      · have hcl : (cs ++ ys).length = (n + m) * es := by rw [List.length_append, hl, hy, Nat.add_mul]
        refine ⟨⟨hcl, .inr ⟨g', nc', c', rfl, hnc, by omega, hd g' hN.none_, hN.at_, ?_, ?_⟩⟩, fun k o hk => hN.other k fun e => (by subst e; rw [hd _ hN.none_] at hk; cases hk)⟩
        · rw [← Array.length_toList, hc]
          simp only [List.length_append, hl, hy, hz]
          rw [← Nat.add_mul, ← Nat.add_mul]; congr 1; omega
        · rw [hc, List.take_append_of_le_length (by omega), List.take_of_length_le (by omega)]

theorem addrA_inj {b b' : Option (Nat × Nat)} (h : addrA b = addrA b') : b = b' := by
  cases b with
  | none => cases b' with
    | none => rfl
    | some y => cases h
  | some x => cases b' with
    | none => cases h
    | some y =>
      obtain ⟨g, o⟩ := x
      obtain ⟨g', o'⟩ := y
      injection h with h
      injection h with h1 h2
      rw [h1, h2]

/-- The same, where the slice is spelled out. -/
theorem GrowR.formB {A1 A : Arena} {es : Nat} {e : TypeId} {n c : Nat} {base : Option (Nat × Nat)} {cs : List Value} (h : GrowR A1 A es e n (.slice (addrA base) n c) cs) :
    (∀ m bytes, bytes ≤ 65536 → n + m ≤ 1000000000 → GrowM A base n m c es bytes cs) ∧
    ∀ m ys v' A', ys.length = m * es → (∀ k, A.blk k = none → A1.blk k = none) → Appended A base n c es e cs ys m v' A' → GrowR A1 A' es e (n + m) v' (cs ++ ys) ∧ ∀ k o, A1.blk k = some o → A'.blk k = A.blk k := by
  obtain ⟨b', c', hv, _, h1, h2⟩ := h.formN
  injection hv with hv1 hv2 hv3
  have e := addrA_inj hv1
  subst e; subst hv3
  exact ⟨h1, h2⟩

theorem GrowR.cap_le {A1 A : Arena} {es : Nat} {e : TypeId} {n m c : Nat} {ao : Option Addr} {cs : List Value} (h : GrowR A1 A es e n (.slice ao m c) cs) : n ≤ c := by
  obtain ⟨_, ⟨rfl, h⟩ | ⟨g, nc, _, h, hn, _⟩⟩ := h
  · omega
  · injection h with h1 h2 h3
    omega

/-- What lies at the front of a row. -/
theorem src_take {A : Arena} {g o n q : Nat} {α : Type} {f : α → Value} {l : List α} (h : A.rd g 0 (n * 1) = some (l.map f)) (hq : q ≤ n) (ho : o = 0) : (if q = 0 then some [] else A.rd g o (q * 1)) = some ((l.take q).map f) := by
  subst ho
  by_cases h0 : q = 0
  · rw [if_pos h0, h0, List.take_zero]; rfl
  · rw [if_neg h0]
    have := rd_at h (i := 0) (m := q * 1) (by omega)
    rw [Nat.add_zero, List.drop_zero, Nat.mul_one, ← List.map_take] at this
    rw [Nat.mul_one]
    exact this

/-- What lies behind. -/
theorem src_drop {A : Arena} {g o n q : Nat} {α : Type} {f : α → Value} {l : List α} (h : A.rd g 0 (n * 1) = some (l.map f)) (hn : n = l.length) (ho : q < n → o = q) : (if n - q = 0 then some [] else A.rd g o ((n - q) * 1)) = some ((l.drop q).map f) := by
  by_cases h0 : n - q = 0
  · rw [if_pos h0, List.drop_eq_nil_of_le (by omega)]; rfl
  · rw [if_neg h0, ho (by omega)]
    have := rd_at h (i := q) (m := (n - q) * 1) (by omega)
    rw [Nat.zero_add] at this
    rw [this, ← List.map_drop, List.take_of_length_le (by rw [List.length_map, List.length_drop]; omega)]

/-- A row made by append, as a slice. -/
theorem GrowR.sl {A1 A : Arena} {es : Nat} {e : TypeId} {n : Nat} {v : Value} {cs : List Value} (h : GrowR A1 A es e n v cs) : Sl A es n v cs := by
  obtain ⟨h1, ⟨rfl, rfl⟩ | ⟨g, nc, c, rfl, h4, h4', h5, h6, h7, h8⟩⟩ := h
  · have hc : cs = [] := List.length_eq_zero_iff.1 (by rw [h1]; simp)
    subst hc
    exact Sl.nil _ _
  · have hle : n * es ≤ nc * es := Nat.mul_le_mul_right _ h4
    refine Sl.row h4 ?_
    rw [rd_mk h6 (by omega), List.drop_zero, h8]

end
end Go.Sx

namespace Go.Proofs.YtpgpbnalgjbfbaaDoor
open Go.Sx Go.RowKit
noncomputable section
open Classical

/-- A deed's head rings: what was rung so far, what is left. -/
def chStep (z : Int) (s : List RingD × List WatchD) (d : DeedD) : List RingD × List WatchD := (s.1 ++ chRings d.h.kind d.h.path z s.2, unrung d.h.kind d.h.path s.2)

/-- What a deed rings, and what is left. -/
def ringsW (d : DeedD) (ws : List WatchD) : List RingD × List WatchD := if RightD d then d.parts.foldl (chStep d.h.zxid) (chStep d.h.zxid ([], ws) d) else ([], ws)

theorem rung_len (k : Int) (p : ByteArray) (z : Int) (ws : List WatchD) : (chRings k p z ws).length + (unrung k p ws).length = ws.length := by
  rw [chRings, List.length_map, sortW_length, rung, unrung]
  induction ws with
  | nil => rfl
  | cons w ws ih =>
    by_cases h : rungK k p w = 0
    · rw [List.filter_cons, List.filter_cons, if_neg (by simp [h]), if_pos (by simp [h]), List.length_cons, List.length_cons]
      omega
    · rw [List.filter_cons, List.filter_cons, if_pos (by simp [h]), if_neg (by simp [h]), List.length_cons, List.length_cons]
      omega

theorem chStep_len (z : Int) (s : List RingD × List WatchD) (d : DeedD) : (chStep z s d).1.length + (chStep z s d).2.length = s.1.length + s.2.length := by
  have := rung_len d.h.kind d.h.path z s.2
  simp only [chStep, List.length_append]
  omega

theorem chSteps_len (z : Int) : ∀ (ds : List DeedD) (s : List RingD × List WatchD), (ds.foldl (chStep z) s).1.length + (ds.foldl (chStep z) s).2.length = s.1.length + s.2.length
  | [], _ => rfl
  | d :: ds, s => by rw [List.foldl_cons, chSteps_len z ds, chStep_len]

theorem unrung_ok {k : Int} {p : ByteArray} {ws : List WatchD} (h : WOk ws) : WOk (unrung k p ws) := fun w hw => h w (List.mem_filter.1 hw).1

theorem chSteps_ok (z : Int) : ∀ (ds : List DeedD) (s : List RingD × List WatchD), WOk s.2 → WOk (ds.foldl (chStep z) s).2
  | [], _, h => h
  | d :: ds, s, h => by rw [List.foldl_cons]; exact chSteps_ok z ds _ (unrung_ok h)

theorem chSteps_snoc (z : Int) (ds : List DeedD) (s : List RingD × List WatchD) {k : Nat} (hk : k < ds.length) : (ds.take (k + 1)).foldl (chStep z) s = chStep z ((ds.take k).foldl (chStep z) s) ds[k] := by
  rw [List.take_succ_eq_append_getElem hk, List.foldl_append]
  rfl

/-- A row made by append, as a source. -/
theorem grow_src {A1 A : Arena} {es n c : Nat} {e : TypeId} {base : Option (Nat × Nat)} {cs : List Value} (h : GrowR A1 A es e n (.slice (addrA base) n c) cs) :
    (base = none → n = 0 ∧ cs = []) ∧ ∀ g, base = some (g, 0) → (if n = 0 then some [] else A.rd g 0 (n * es)) = some cs := by
  obtain ⟨h1, h2 | ⟨g, nc, c', h3, h4, h4', h5, h6, h7, h8⟩⟩ := h
  · obtain ⟨rfl, h2⟩ := h2
    have hc : cs = [] := List.length_eq_zero_iff.1 (by rw [h1]; simp)
    exact ⟨fun _ => ⟨rfl, hc⟩, fun g _ => by rw [if_pos rfl, hc]⟩
  · injection h3 with h31 _ h33
    have e := addrA_inj (b := some (g, 0)) h31
    subst e
    refine ⟨fun h => (by cases h), fun g' hg' => ?_⟩
    injection hg' with hg'
    injection hg' with hg' _
    subst hg'
    by_cases h0 : n = 0
    · subst h0
      rw [if_pos rfl]
      have hc : cs = [] := List.length_eq_zero_iff.1 (by rw [h1]; simp)
      rw [hc]
    · have := Nat.mul_le_mul_right es h4
      rw [if_neg h0, rd_mk h6 (by omega), List.drop_zero, h8]

theorem ring_one (rs : List RingD) : ∀ v ∈ rs.flatMap RingD.cells, v.oneCell' = true := fun v hv => by
  obtain ⟨r, _, h⟩ := List.mem_flatMap.1 hv
  simp only [RingD.cells, List.mem_cons, List.not_mem_nil, or_false] at h
  rcases h with rfl | rfl | rfl | rfl | rfl <;> rfl

theorem rings_len : ∀ rs : List RingD, (rs.flatMap RingD.cells).length = rs.length * 5
  | [] => rfl
  | r :: rs => by rw [List.flatMap_cons, List.length_append, rings_len rs, List.length_cons, Nat.succ_mul]; show 5 + _ = _; omega

structure RiG where
  k : Nat
  A : Arena
  v : Value

def ringsInv (A0 : Arena) (t m : Nat) (s0 : List RingD × List WatchD) (z : Int) (ds : List DeedD) : LInv :=
  { γ := RiG, G := fun g => g.k ≤ ds.length ∧ TwTo A0 ⟨t, m, []⟩ ((ds.take g.k).foldl (chStep z) s0).2 g.A ∧ GrowR A0 g.A 5 56 ((ds.take g.k).foldl (chStep z) s0).1.length g.v (((ds.take g.k).foldl (chStep z) s0).1.flatMap RingD.cells),
    keepS := [0, 1, 3, 21, 22], keepB := [0], sl := fun g => [(5, .v g.v), (23, .v (.int .i64 g.k))], bl := fun _ => [], ar := fun g => g.A, mu := fun g => ds.length - g.k }

def bellRingS : FSpec := ⟨TwG × DeedD × Arena, fun g vs A => ∃ cs, vs = [.pointer (some ⟨g.1.t, 0, none⟩), deedV cs] ∧ TowerAt A g.1.t g.1.m g.1.ws ∧ WOk g.1.ws ∧ g.1.ws.length ≤ 1000000 ∧ DeedR g.2.2 g.2.1 cs ∧ g.2.2.Sub A ∧ g.2.2.blk g.1.m = none ∧ HasA A,
  fun g _ A v A' => TwTo A g.1 (ringsW g.2.1 g.1.ws).2 A' ∧ GrowR A A' 5 56 (ringsW g.2.1 g.1.ws).1.length v ((ringsW g.2.1 g.1.ws).1.flatMap RingD.cells)⟩

set_option maxRecDepth 100000 in
set_option maxHeartbeats 0 in
theorem bellRing_ok : FOk Tryd.prog 10 bellRingS := by
  refine fok_v mixed fun ⟨⟨t, m, ws⟩, d, B⟩ vs A hp => ?_
  obtain ⟨cs, rfl, hT, hok, hlen, hD0, hBA, hBm, hHas⟩ : ∃ cs, vs = [.pointer (some ⟨t, 0, none⟩), deedV cs] ∧ TowerAt A t m ws ∧ WOk ws ∧ ws.length ≤ 1000000 ∧ DeedR B d cs ∧ B.Sub A ∧ B.blk m = none ∧ HasA A := hp
  have hC : CTSound Tryd.prog (lookC [specE 20 bellChangeS, specE 19 rightS] noC) := lookC_sound (noC_sound _) (fun x hx => by
    simp only [List.mem_cons, List.not_mem_nil, or_false] at hx
    rcases hx with rfl | rfl
    · exact specE_ok bellChange_ok
    · exact specE_ok right_ok)
  have hDA := DeedR.sub hBA _ _ hD0
  obtain ⟨ot, hot⟩ := hT.top.dom
  obtain ⟨hd, parts⟩ := d
  have hD1 := hD0
  rw [DeedR] at hD0
  obtain ⟨vd, vm, vp, rows, rfl, _, ⟨hs1, _⟩, ⟨hs2, _⟩, hs3, hpl, hps⟩ := hD0
  obtain ⟨a7, k7, rfl⟩ := hs1.form
  obtain ⟨a14, k14, rfl⟩ := hs2.form
  obtain ⟨ao, c, rfl, hc, _, ha1, ha2, ha3⟩ := hs3
  refine ⟨_, tabO Tryd.prog _ noL 60 [(10, 0)], 60, hC, tabO_sound mixed hC (noL_sound _) _ _, fun blk os out tape D hD => ?_⟩
  conv => lhs; whnf
  refine (hD _).2 ⟨.mk hd parts, ⟨_, rfl, hDA, hHas⟩, fun v A1 hq => ?_⟩
  obtain ⟨h9, hv⟩ : A1 = A ∧ v = .bool (decide (RightD (.mk hd parts))) := hq
  subst h9; subst hv
  by_cases hr : RightD (.mk hd parts)
  · rw [decide_eq_true hr]
    conv => lhs; whnf
    refine (hD _).2 ⟨(⟨t, m, ws⟩, hd, hd.zxid), ⟨_, _, _, _, _, _, _, _, _, rfl, hT, hok, hlen⟩, fun v A2 hq => ?_⟩
    obtain ⟨hT2, hG2⟩ : TwTo A1 ⟨t, m, ws⟩ (unrung hd.kind hd.path ws) A2 ∧ GrowR A1 A2 5 56 (chRings hd.kind hd.path hd.zxid ws).length v ((chRings hd.kind hd.path hd.zxid ws).flatMap RingD.cells) := hq
    have hse : ringsW (.mk hd parts) ws = parts.foldl (chStep hd.zxid) (chRings hd.kind hd.path hd.zxid ws, unrung hd.kind hd.path ws) := by
      unfold ringsW
      rw [if_pos hr]
      rfl
    obtain ⟨s0, hs0⟩ : ∃ s0, s0 = (chRings hd.kind hd.path hd.zxid ws, unrung hd.kind hd.path ws) := ⟨_, rfl⟩
    rw [← hs0] at hse
    have hsl : s0.1.length + s0.2.length = ws.length := by rw [hs0]; exact rung_len _ _ _ _
    have hsk : WOk s0.2 := by rw [hs0]; exact unrung_ok hok
    have hT2 : TwTo A1 ⟨t, m, []⟩ s0.2 A2 := by rw [hs0]; exact ⟨hT2.tower, hT2.keep, hT2.dom⟩
    have hG2 : GrowR A1 A2 5 56 s0.1.length v (s0.1.flatMap RingD.cells) := by rw [hs0]; exact hG2
    conv => lhs; whnf
    refine (hD _).2 ⟨ringsInv A1 t m s0 hd.zxid parts, ⟨(⟨0, A2, v⟩ : RiG), ⟨⟨Nat.zero_le _, hT2, hG2⟩, ⟨rfl, rfl, trivial⟩, trivial, rfl⟩⟩, fun (g : RiG) hG => ⟨⟨trivial, trivial, trivial⟩, trivial, ?_⟩⟩
    obtain ⟨k, As, v1⟩ := g
    obtain ⟨hk, hTs, hGs⟩ : k ≤ parts.length ∧ TwTo A1 ⟨t, m, []⟩ ((parts.take k).foldl (chStep hd.zxid) s0).2 As ∧ GrowR A1 As 5 56 ((parts.take k).foldl (chStep hd.zxid) s0).1.length v1 (((parts.take k).foldl (chStep hd.zxid) s0).1.flatMap RingD.cells) := hG
    have hnl := chSteps_len hd.zxid (parts.take k) s0
    have hok2 := chSteps_ok hd.zxid (parts.take k) s0 hsk
    have hsn := fun h => chSteps_snoc hd.zxid parts s0 (k := k) h
    generalize hsg : (parts.take k).foldl (chStep hd.zxid) s0 = sg at hTs hGs hnl hok2 hsn
    obtain ⟨rs, wk⟩ := sg
    dsimp only at hTs hGs hnl hok2 hsn
    conv => lhs; whnf
    refine split_dec (fun hlt => ?_) (fun hlt => ?_)
    rotate_left
    · have hkl : k = parts.length := by
        have hlt : ¬ ((k : Int) < (parts.length : Int)) := hlt
        omega
      have hend : bellRingS.post (⟨t, m, ws⟩, .mk hd parts, B) [] A1 v1 As := by
        show TwTo A1 _ (ringsW _ _).2 As ∧ GrowR A1 As 5 _ (ringsW _ _).1.length _ _
        rw [hse]
        rw [hkl, List.take_length] at hsg
        rw [hsg]
        exact ⟨⟨hTs.tower, hTs.keep, hTs.dom⟩, hGs⟩
      conv => lhs; whnf
      exact (hD _).2 hend
    have hlt : (k : Int) < (parts.length : Int) := hlt
    have hkl : k < parts.length := by omega
    have i0 : (0 : Int) ≤ (k : Int) ∧ (k : Int) < (parts.length : Int) := by omega
    have hsn := hsn hkl
    have hBs : B.Sub As := fun b o hb => hTs.keep b o (fun e => by
      have e : b = m := e
      rw [e, hBm] at hb; cases hb) (hBA b o hb)
    obtain ⟨g, o, rfl, hra⟩ := Sl.at_ hc ha1 ha2 ha3 (by omega)
    obtain ⟨ck, hck, hdk⟩ := deed_at hra hps k hkl rfl
    have hck := rd_sub hBs hck
    obtain ⟨_, _, _, _, _, _, _, _, _, rfl⟩ := hdk.form
    obtain ⟨dk, hdk9⟩ : ∃ dk, dk = parts[k] := ⟨_, rfl⟩
    rw [← hdk9] at hck hdk hsn
    obtain ⟨⟨zxid, kind, ses, turn, xid, time, path, data, owner, ver, cver, tmo, err, cfg, mem⟩, pp⟩ := dk
    conv => lhs; whnf
    repeat (first | refine go_in i0 ?_ | refine go_rd hck ?_ | refine go_D hD rfl ?_
            conv => lhs; whnf)
    refine (hD _).2 ⟨(⟨t, m, wk⟩, ⟨zxid, kind, ses, turn, xid, time, path, data, owner, ver, cver, tmo, err, cfg, mem⟩, hd.zxid), ⟨_, _, _, _, _, _, _, _, _, rfl, hTs.tower, hok2, by show wk.length ≤ _; omega⟩, fun v A3 hq => ?_⟩
    obtain ⟨hT3, hG3⟩ : TwTo As ⟨t, m, wk⟩ (unrung kind path wk) A3 ∧ GrowR As A3 5 56 (chRings kind path hd.zxid wk).length v ((chRings kind path hd.zxid wk).flatMap RingD.cells) := hq
    have hrl := rung_len kind path hd.zxid wk
    have hsn : (parts.take (k + 1)).foldl (chStep hd.zxid) s0 = (rs ++ chRings kind path hd.zxid wk, unrung kind path wk) := hsn
    generalize chRings kind path hd.zxid wk = qs at hG3 hrl hsn
    generalize unrung kind path wk = wk3 at hT3 hrl hsn
    obtain ⟨em, cm, hom, _⟩ := hT.map
    have hGs3 : GrowR A1 A3 5 56 rs.length v1 (rs.flatMap RingD.cells) := grow_stay hGs fun b o h1 h2 => hT3.keep b o (fun e => by
      have e : b = m := e
      rw [e, hom] at h1; cases h1) h2
    have hT13 : TwTo A1 ⟨t, m, []⟩ wk3 A3 := ⟨hT3.tower, fun b o hb ho => hT3.keep b o hb (hTs.keep b o hb ho), fun b hb => hTs.dom b (hT3.dom b hb)⟩
    obtain ⟨n1, hn1⟩ : ∃ n, n = rs.length := ⟨_, rfl⟩
    obtain ⟨n2, hn2⟩ : ∃ n, n = qs.length := ⟨_, rfl⟩
    rw [← hn1] at hGs3
    rw [← hn2] at hG3
    obtain ⟨base, cp, rfl, hbase, -⟩ := hGs3.formN
    obtain ⟨b2, cp2, rfl, hb2, -⟩ := hG3.formN
    obtain ⟨hP, hA⟩ := hGs3.formB
    have hP := hP n2 40 (by omega) (by omega)
    obtain ⟨hsrc0, hsrc⟩ := grow_src hG3
    have hql := rings_len qs
    rw [← hn2] at hql
    have hfin : ∀ u A4, Appended A3 base n1 cp 5 56 (rs.flatMap RingD.cells) (qs.flatMap RingD.cells) n2 u A4 → (ringsInv A1 t m s0 hd.zxid parts).G ⟨k + 1, A4, u⟩ := fun u A4 hAp => by
      obtain ⟨hG4, hk4⟩ := hA _ _ _ _ hql hT13.dom hAp
      show k + 1 ≤ parts.length ∧ TwTo A1 ⟨t, m, []⟩ ((parts.take (k + 1)).foldl (chStep hd.zxid) s0).2 A4 ∧ GrowR A1 A4 5 56 ((parts.take (k + 1)).foldl (chStep hd.zxid) s0).1.length u (((parts.take (k + 1)).foldl (chStep hd.zxid) s0).1.flatMap RingD.cells)
      rw [hsn]
      refine ⟨hkl, ⟨hT13.tower.keep (hk4 t _ hot) (hk4 m _ hom), fun b o hb ho => by rw [hk4 b o ho]; exact hT13.keep b o hb ho, fun b hb => hT13.dom b (app_dom hAp b hb)⟩, ?_⟩
      show GrowR A1 A4 5 _ (rs ++ qs).length u ((rs ++ qs).flatMap RingD.cells)
      rw [List.length_append, List.flatMap_append, ← hn1, ← hn2]
      exact hG4
    rcases hbase with rfl | ⟨g1, rfl⟩ <;> rcases hb2 with rfl | ⟨g2, rfl⟩ <;> (conv => lhs; whnf)
    all_goals
      refine (hD _).2 ⟨rs.flatMap RingD.cells, qs.flatMap RingD.cells, hP.rd, by first | exact hsrc _ rfl | (show (if n2 = 0 then some [] else none) = _; rw [if_pos (hsrc0 rfl).1, (hsrc0 rfl).2]), hql, ring_one qs, by show n1 + n2 ≤ 9223372036854775807; omega, hP.cap, rfl, hP.none_, fun g' o' he' hle' _ => hP.room _ hql g' o' he' hle', fun u A4 hAp => ?_⟩
      have hG4 := hfin u A4 hAp
      conv => lhs; whnf
      exact (hD _).2 ⟨(⟨k + 1, A4, u⟩ : RiG), ⟨hG4, ⟨rfl, inc_slot (by omega), trivial⟩, trivial, rfl⟩, by show parts.length - (k + 1) < parts.length - k; omega, ⟨same1 rfl rfl, same1 rfl rfl, same1 rfl rfl, same1 rfl rfl, same1 rfl rfl, trivial⟩, ⟨same1 rfl rfl, trivial⟩⟩
  · rw [decide_eq_false hr]
    have hend : bellRingS.post (⟨t, m, ws⟩, .mk hd parts, B) [] A1 (.slice none 0 0) A1 := by
      show TwTo A1 _ (ringsW _ _).2 A1 ∧ GrowR A1 A1 5 _ (ringsW _ _).1.length _ _
      unfold ringsW
      rw [if_neg hr]
      exact ⟨.same hT, GrowR.nil _ _ _ _⟩
    conv => lhs; whnf
    exact (hD _).2 hend

end
end Go.Proofs.YtpgpbnalgjbfbaaDoor

namespace Go.Proofs.YtpgpbnalgjbfbaaDoor
open Go.Sx Go.RowKit
noncomputable section
open Classical

def changeNilS : FSpec := ⟨Nat × DeedH, fun g vs A => ∃ a1 l1 k1 a2 l2 k2 a3 l3 k3 z, vs = [.pointer (some ⟨g.1, 0, none⟩), deedV (g.2.cells (.slice a1 l1 k1) (.slice a2 l2 k2) (.slice a3 l3 k3)), .int .i64 z] ∧ CellsAt A g.1 [.map none],
  fun _ _ A v A' => A.Sub A' ∧ v = .slice none 0 0⟩

theorem sortNil (A : Arena) : sortRingS.pre ⟨A, fun _ => 0, 0, [], .slice none 0 0⟩ [.slice none 0 0, ringV] A := ⟨rfl, GrowR.nil _ _ _ _, by show (0 : Nat) < _; omega⟩

theorem sub_newB {A A' : Arena} {i : Nat} (hi : A.blk i = none) (ho : ∀ b, b ≠ i → A'.blk b = A.blk b) : A.Sub A' := fun k o hk => by
  rw [ho k fun e => (by subst e; rw [hi] at hk; cases hk)]
  exact hk

theorem sortNilSub {X B : Arena} {u : Value} {vs : List Value} (hq : sortRingS.post ⟨X, fun _ => 0, 0, [], .slice none 0 0⟩ vs X u B) : X.Sub B := fun k o h => by
  rw [hq.2.1 k o h]
  exact h

set_option maxRecDepth 100000 in
set_option maxHeartbeats 0 in
theorem changeNil_ok : FOk Tryd.prog 20 changeNilS := by
  refine fok_a mixed alChange fun ⟨t, h⟩ vs A hp => ?_
  obtain ⟨a1, l1, k1, a2, l2, k2, a3, l3, k3, z, rfl, hT⟩ : ∃ a1 l1 k1 a2 l2 k2 a3 l3 k3 z, vs = [.pointer (some ⟨t, 0, none⟩), deedV (h.cells (.slice a1 l1 k1) (.slice a2 l2 k2) (.slice a3 l3 k3)), .int .i64 z] ∧ CellsAt A t [.map none] := hp
  have hC : CTSound Tryd.prog (lookC [specE 30 sortRingS, specE 29 parentS] noC) := lookC_sound (noC_sound _) (fun x hx => by
    simp only [List.mem_cons, List.not_mem_nil, or_false] at hx
    rcases hx with rfl | rfl
    · exact specE_ok sortRing_ok
    · exact specE_ok parent_ok)
  obtain ⟨zxid, kind, ses, turn, xid, time, path, data, owner, ver, cver, tmo, err, cfg, mem⟩ := h
  refine ⟨_, noL, 60, hC, noL_sound _, fun blk os out tape D hD => ?_⟩
  conv => lhs; whnf
  refine (hD _).2 fun bt A1 hN1 => ?_
  have hN1 : A.New A1 bt #[.pointer (some ⟨t, 0, none⟩)] 40 := hN1
  conv => lhs; whnf
  refine (hD _).2 fun bz A2 hN2 => ?_
  have hN2 : A1.New A2 bz #[.int .i64 z] 23 := hN2
  conv => lhs; whnf
  refine (hD _).2 fun bo A3 hN3 => ?_
  have hN3 : A2.New A3 bo #[.slice none 0 0] 50 := hN3
  have s3 := (hN1.sub.trans hN2.sub).trans hN3.sub
  have hr : ∀ X : Arena, A3.Sub X → X.rd bt 0 1 = some [.pointer (some ⟨t, 0, none⟩)] ∧ X.rd t 0 1 = some [.map none] ∧ X.rd bo 0 1 = some [.slice none 0 0] := fun X hX =>
    ⟨((CellsAt.new hN1).sub (A' := X) fun o ho => hX _ _ (hN3.sub _ _ (hN2.sub _ _ ho))).rd (o := 0) (n := 1) (by show 0 + 1 ≤ 1; omega),
      (hT.sub (A' := X) fun o ho => hX _ _ (s3 _ _ ho)).rd (o := 0) (n := 1) (by show 0 + 1 ≤ 1; omega),
      ((CellsAt.new hN3).sub (A' := X) fun o ho => hX _ _ ho).rd (o := 0) (n := 1) (by show 0 + 1 ≤ 1; omega)⟩
  have hq9 : ∀ X B : Arena, A3.Sub X → ∀ u, sortRingS.post ⟨X, fun _ => 0, 0, [], .slice none 0 0⟩ [.slice none 0 0, ringV] X u B → B.rd bo 0 1 = some [.slice none 0 0] ∧ (changeNilS.post (t, ⟨zxid, kind, ses, turn, xid, time, path, data, owner, ver, cver, tmo, err, cfg, mem⟩) [] A (.slice none 0 0) B) := fun X B hX u hq => by
    have hs : A3.Sub B := hX.trans (sortNilSub hq)
    exact ⟨(hr B hs).2.2, s3.trans hs, rfl⟩
  conv => lhs; whnf
  refine split_dec (fun h1 => ?_) (fun h1 => ?_)
  · obtain rfl : kind = 1 := h1
    conv => lhs; whnf
    refine (hD _).2 fun g4 A4 hn => ?_
    have hn : A3.New A4 g4 #[.int .u8 2] 22 := hn
    have s4a := (Arena.Sub.refl A3).trans hn.sub
    obtain ⟨r1, r2, r3⟩ := hr A4 s4a
    conv => lhs; whnf
    repeat (first | refine go_rd r1 ?_ | refine go_rd r2 ?_ | refine go_D hD rfl ?_
            conv => lhs; whnf)
    refine (hD _).2 fun it A5 hi ho hb => ?_
    have hi : A4.blk it = none := hi
    have ho : ∀ b, b ≠ it → A5.blk b = A4.blk b := ho
    have A5s : A3.Sub A5 := s4a.trans (sub_newB hi ho)
    conv => lhs; whnf
    refine (hD _).2 (.inr ⟨_, _, _, hb, ?_⟩)
    conv => lhs; whnf
    refine (hD _).2 ⟨path, rfl, fun u A6 hq => ?_⟩
    obtain ⟨h6, hv⟩ : A6 = A5 ∧ u = .string (parentP path) := hq
    subst h6; subst hv
    conv => lhs; whnf
    refine (hD _).2 fun g7 A7 hn => ?_
    have hn : A6.New A7 g7 #[.int .u8 3] 22 := hn
    have A5sa := A5s.trans hn.sub
    obtain ⟨r1, r2, r3⟩ := hr A7 A5sa
    conv => lhs; whnf
    repeat (first | refine go_rd r1 ?_ | refine go_rd r2 ?_ | refine go_D hD rfl ?_
            conv => lhs; whnf)
    refine (hD _).2 fun it A8 hi ho hb => ?_
    have hi : A7.blk it = none := hi
    have ho : ∀ b, b ≠ it → A8.blk b = A7.blk b := ho
    have A8s : A3.Sub A8 := A5sa.trans (sub_newB hi ho)
    conv => lhs; whnf
    refine (hD _).2 (.inr ⟨_, _, _, hb, ?_⟩)
    obtain ⟨r1, r2, r3⟩ := hr A8 A8s
    conv => lhs; whnf
    repeat (first | refine go_rd r3 ?_ | refine go_D hD rfl ?_
            conv => lhs; whnf)
    refine (hD _).2 ⟨⟨A8, fun _ => 0, 0, [], .slice none 0 0⟩, sortNil _, fun u B9 hq => ?_⟩
    obtain ⟨r4, hend⟩ := hq9 A8 B9 A8s u hq
    conv => lhs; whnf
    repeat (first | refine go_rd r4 ?_ | refine go_D hD rfl ?_
            conv => lhs; whnf)
    exact (hD _).2 hend
  conv => lhs; whnf
  refine split_dec (fun h2 => ?_) (fun h2 => ?_)
  · obtain rfl : kind = 2 := h2
    conv => lhs; whnf
    refine (hD _).2 fun g4 A4 hn => ?_
    have hn : A3.New A4 g4 #[.int .u8 1, .int .u8 2, .int .u8 3] 22 := hn
    have s4a := (Arena.Sub.refl A3).trans hn.sub
    obtain ⟨r1, r2, r3⟩ := hr A4 s4a
    conv => lhs; whnf
    repeat (first | refine go_rd r1 ?_ | refine go_rd r2 ?_ | refine go_D hD rfl ?_
            conv => lhs; whnf)
    refine (hD _).2 fun it A5 hi ho hb => ?_
    have hi : A4.blk it = none := hi
    have ho : ∀ b, b ≠ it → A5.blk b = A4.blk b := ho
    have A5s : A3.Sub A5 := s4a.trans (sub_newB hi ho)
    conv => lhs; whnf
    refine (hD _).2 (.inr ⟨_, _, _, hb, ?_⟩)
    conv => lhs; whnf
    refine (hD _).2 ⟨path, rfl, fun u A6 hq => ?_⟩
    obtain ⟨h6, hv⟩ : A6 = A5 ∧ u = .string (parentP path) := hq
    subst h6; subst hv
    conv => lhs; whnf
    refine (hD _).2 fun g7 A7 hn => ?_
    have hn : A6.New A7 g7 #[.int .u8 3] 22 := hn
    have A5sa := A5s.trans hn.sub
    obtain ⟨r1, r2, r3⟩ := hr A7 A5sa
    conv => lhs; whnf
    repeat (first | refine go_rd r1 ?_ | refine go_rd r2 ?_ | refine go_D hD rfl ?_
            conv => lhs; whnf)
    refine (hD _).2 fun it A8 hi ho hb => ?_
    have hi : A7.blk it = none := hi
    have ho : ∀ b, b ≠ it → A8.blk b = A7.blk b := ho
    have A8s : A3.Sub A8 := A5sa.trans (sub_newB hi ho)
    conv => lhs; whnf
    refine (hD _).2 (.inr ⟨_, _, _, hb, ?_⟩)
    obtain ⟨r1, r2, r3⟩ := hr A8 A8s
    conv => lhs; whnf
    repeat (first | refine go_rd r3 ?_ | refine go_D hD rfl ?_
            conv => lhs; whnf)
    refine (hD _).2 ⟨⟨A8, fun _ => 0, 0, [], .slice none 0 0⟩, sortNil _, fun u B9 hq => ?_⟩
    obtain ⟨r4, hend⟩ := hq9 A8 B9 A8s u hq
    conv => lhs; whnf
    repeat (first | refine go_rd r4 ?_ | refine go_D hD rfl ?_
            conv => lhs; whnf)
    exact (hD _).2 hend
  conv => lhs; whnf
  refine split_dec (fun h3 => ?_) (fun h3 => ?_)
  · obtain rfl : kind = 3 := h3
    conv => lhs; whnf
    refine (hD _).2 fun g4 A4 hn => ?_
    have hn : A3.New A4 g4 #[.int .u8 1, .int .u8 2] 22 := hn
    have s4a := (Arena.Sub.refl A3).trans hn.sub
    obtain ⟨r1, r2, r3⟩ := hr A4 s4a
    conv => lhs; whnf
    repeat (first | refine go_rd r1 ?_ | refine go_rd r2 ?_ | refine go_D hD rfl ?_
            conv => lhs; whnf)
    refine (hD _).2 fun it A5 hi ho hb => ?_
    have hi : A4.blk it = none := hi
    have ho : ∀ b, b ≠ it → A5.blk b = A4.blk b := ho
    have A5s : A3.Sub A5 := s4a.trans (sub_newB hi ho)
    conv => lhs; whnf
    refine (hD _).2 (.inr ⟨_, _, _, hb, ?_⟩)
    obtain ⟨r1, r2, r3⟩ := hr A5 A5s
    conv => lhs; whnf
    repeat (first | refine go_rd r3 ?_ | refine go_D hD rfl ?_
            conv => lhs; whnf)
    refine (hD _).2 ⟨⟨A5, fun _ => 0, 0, [], .slice none 0 0⟩, sortNil _, fun u B9 hq => ?_⟩
    obtain ⟨r4, hend⟩ := hq9 A5 B9 A5s u hq
    conv => lhs; whnf
    repeat (first | refine go_rd r4 ?_ | refine go_D hD rfl ?_
            conv => lhs; whnf)
    exact (hD _).2 hend
  have A3s := Arena.Sub.refl A3
  obtain ⟨r1, r2, r3⟩ := hr A3 A3s
  conv => lhs; whnf
  repeat (first | refine go_rd r3 ?_ | refine go_D hD rfl ?_
          conv => lhs; whnf)
  refine (hD _).2 ⟨⟨A3, fun _ => 0, 0, [], .slice none 0 0⟩, sortNil _, fun u B9 hq => ?_⟩
  obtain ⟨r4, hend⟩ := hq9 A3 B9 A3s u hq
  conv => lhs; whnf
  repeat (first | refine go_rd r4 ?_ | refine go_D hD rfl ?_
          conv => lhs; whnf)
  exact (hD _).2 hend

/-- No tower, or one that nobody made. -/
def NoTw (A : Arena) (t : Option Nat) : Prop := ∀ b, t = some b → CellsAt A b [.map none]

def ptrO (t : Option Nat) : Value := .pointer (t.map fun b => ⟨b, 0, none⟩)

theorem NoTw.sub {A A' : Arena} {t : Option Nat} (h : NoTw A t) (s : A.Sub A') : NoTw A' t := fun b hb => (h b hb).sub fun _ ho => s _ _ ho

def ringNilS : FSpec := ⟨DeedD × Option Nat, fun g vs A => ∃ cs, vs = [ptrO g.2, deedV cs] ∧ DeedR A g.1 cs ∧ HasA A ∧ NoTw A g.2, fun _ _ A v A' => A.Sub A' ∧ GrowR A A' 5 56 0 v []⟩

def ringNilInv (A0 : Arena) (n : Nat) : LInv := { γ := RiG, G := fun g => g.k ≤ n ∧ A0.Sub g.A ∧ GrowR A0 g.A 5 56 0 g.v [], keepS := [0, 1, 3, 21, 22], keepB := [0], sl := fun g => [(5, .v g.v), (23, .v (.int .i64 g.k))], bl := fun _ => [], ar := fun g => g.A, mu := fun g => n - g.k }

set_option maxRecDepth 100000 in
set_option maxHeartbeats 0 in
theorem ringNil_ok : FOk Tryd.prog 10 ringNilS := by
  refine fok_v mixed fun ⟨d, t⟩ vs A hp => ?_
  obtain ⟨cs, rfl, hR, hHas, hN⟩ : ∃ cs, vs = [ptrO t, deedV cs] ∧ DeedR A d cs ∧ HasA A ∧ NoTw A t := hp
  have hC : CTSound Tryd.prog (lookC [specE 20 changeNilS, specE 19 rightS] noC) := lookC_sound (noC_sound _) (fun x hx => by
    simp only [List.mem_cons, List.not_mem_nil, or_false] at hx
    rcases hx with rfl | rfl
    · exact specE_ok changeNil_ok
    · exact specE_ok right_ok)
  have hDA := hR
  obtain ⟨hd, parts⟩ := d
  rw [DeedR] at hR
  obtain ⟨vd, vm, vp, rows, rfl, _, ⟨hs1, _⟩, ⟨hs2, _⟩, hs3, hpl, hps⟩ := hR
  obtain ⟨a7, k7, rfl⟩ := hs1.form
  obtain ⟨a14, k14, rfl⟩ := hs2.form
  obtain ⟨ao, c, rfl, hc, _, ha1, ha2, ha3⟩ := hs3
  refine ⟨_, tabO Tryd.prog _ noL 60 [(10, 0)], 60, hC, tabO_sound mixed hC (noL_sound _) _ _, fun blk os out tape D hD => ?_⟩
  have hnil : ringNilS.post (.mk hd parts, t) [] A (.slice none 0 0) A := ⟨Arena.Sub.refl _, GrowR.nil _ _ _ _⟩
  cases t with
  | none =>
    conv => lhs; whnf
    exact (hD _).2 hnil
  | some b =>
    have hT := hN b rfl
    conv => lhs; whnf
    refine (hD _).2 ⟨.mk hd parts, ⟨_, rfl, hDA, hHas⟩, fun v A1 hq => ?_⟩
    obtain ⟨h9, hv⟩ : A1 = A ∧ v = .bool (decide (RightD (.mk hd parts))) := hq
    have h9 := h9.symm
    subst h9; subst hv
    by_cases hr : RightD (.mk hd parts)
    · rw [decide_eq_true hr]
      conv => lhs; whnf
      refine (hD _).2 ⟨(b, hd), ⟨_, _, _, _, _, _, _, _, _, _, rfl, hT⟩, fun v A2 hq => ?_⟩
      obtain ⟨s2, hv⟩ : A.Sub A2 ∧ v = .slice none 0 0 := hq
      subst hv
      conv => lhs; whnf
      refine (hD _).2 ⟨ringNilInv A parts.length, ⟨(⟨0, A2, .slice none 0 0⟩ : RiG), ⟨⟨Nat.zero_le _, s2, GrowR.nil _ _ _ _⟩, ⟨rfl, rfl, trivial⟩, trivial, rfl⟩⟩, fun (g : RiG) hG => ⟨⟨trivial, trivial, trivial⟩, trivial, ?_⟩⟩
      obtain ⟨k, As, v1⟩ := g
      obtain ⟨hk, ss, hGs⟩ : k ≤ parts.length ∧ A.Sub As ∧ GrowR A As 5 56 0 v1 [] := hG
      conv => lhs; whnf
      refine split_dec (fun hlt => ?_) (fun hlt => ?_)
      rotate_left
      · have hend : ringNilS.post (.mk hd parts, some b) [] A v1 As := ⟨ss, hGs⟩
        conv => lhs; whnf
        exact (hD _).2 hend
      have hlt : (k : Int) < (parts.length : Int) := hlt
      have hkl : k < parts.length := by omega
      have i0 : (0 : Int) ≤ (k : Int) ∧ (k : Int) < (parts.length : Int) := by omega
      obtain ⟨g, o, rfl, hra⟩ := Sl.at_ hc ha1 ha2 ha3 (by omega)
      obtain ⟨ck, hck, hdk⟩ := deed_at hra hps k hkl rfl
      have hck := rd_sub ss hck
      obtain ⟨_, _, _, _, _, _, _, _, _, rfl⟩ := hdk.form
      obtain ⟨dk, hdk9⟩ : ∃ dk, dk = parts[k] := ⟨_, rfl⟩
      rw [← hdk9] at hck hdk
      obtain ⟨⟨zxid, kind, ses, turn, xid, time, path, data, owner, ver, cver, tmo, err, cfg, mem⟩, pp⟩ := dk
      conv => lhs; whnf
      repeat (first | refine go_in i0 ?_ | refine go_rd hck ?_ | refine go_D hD rfl ?_
              conv => lhs; whnf)
      refine (hD _).2 ⟨(b, ⟨zxid, kind, ses, turn, xid, time, path, data, owner, ver, cver, tmo, err, cfg, mem⟩), ⟨_, _, _, _, _, _, _, _, _, _, rfl, hT.sub fun _ ho => ss _ _ ho⟩, fun v A3 hq => ?_⟩
      obtain ⟨s3, hv⟩ : As.Sub A3 ∧ v = .slice none 0 0 := hq
      subst hv
      have hsA := ss.trans s3
      have hGs3 : GrowR A A3 5 56 0 v1 [] := grow_stay hGs fun b o _ h2 => s3 b o h2
      have hdom : ∀ b, A3.blk b = none → A.blk b = none := fun b hb => by
        cases h : A.blk b with
        | none => rfl
        | some o => rw [hsA b o h] at hb; cases hb
      obtain ⟨base, cp, rfl, hbase, -⟩ := hGs3.formN
      obtain ⟨hP, hA⟩ := hGs3.formB
      have hP := hP 0 40 (by omega) (by omega)
      have hfin : ∀ u A4, Appended A3 base 0 cp 5 56 [] [] 0 u A4 → A.Sub A4 ∧ GrowR A A4 5 56 0 u [] := fun u A4 hAp => by
        obtain ⟨hG4, hk4⟩ := hA 0 [] _ _ rfl hdom hAp
        exact ⟨fun b o hb => by rw [hk4 b o hb]; exact hsA b o hb, hG4⟩
      rcases hbase with rfl | ⟨g1, rfl⟩ <;> (conv => lhs; whnf)
      all_goals
        refine (hD _).2 ⟨[], [], hP.rd, rfl, rfl, fun x hx => (by cases hx), by show 0 + 0 ≤ 9223372036854775807; omega, hP.cap, rfl, hP.none_, fun g' o' he' hle' _ => hP.room _ rfl g' o' he' hle', fun u A4 hAp => ?_⟩
        obtain ⟨s4, hG4⟩ := hfin u A4 hAp
        conv => lhs; whnf
        exact (hD _).2 ⟨(⟨k + 1, A4, u⟩ : RiG), ⟨⟨hkl, s4, hG4⟩, ⟨rfl, inc_slot (by omega), trivial⟩, trivial, rfl⟩, by show parts.length - (k + 1) < parts.length - k; omega, ⟨same1 rfl rfl, same1 rfl rfl, same1 rfl rfl, same1 rfl rfl, same1 rfl rfl, trivial⟩, ⟨same1 rfl rfl, trivial⟩⟩
    · rw [decide_eq_false hr]
      conv => lhs; whnf
      exact (hD _).2 hnil

end
end Go.Proofs.YtpgpbnalgjbfbaaDoor

namespace Go.Proofs.YtpgpbnalgjbfbaaDoor
open Go.Sx Go.RowKit
noncomputable section
open Classical

theorem ring_at {A : Arena} {g o n : Nat} {l : List RingD} (h : A.rd g o (n * 5) = some (l.flatMap RingD.cells)) (k : Nat) (hk : k < l.length) (hn : n = l.length) : A.rd g (o + k * 5) 5 = some l[k].cells := by
  have h' : A.rd g o (n * 5) = some (l.map RingD.cells).flatten := by rw [h, List.flatMap_def]
  have := rows_at h' (fun r hr => by obtain ⟨w, _, rfl⟩ := List.mem_map.1 hr; rfl) k (by simpa using hk) (by simpa using hn)
  rw [this]
  simp

def isEqS : FSpec := ⟨List RingD, fun l vs A => ∃ x y, vs = [x, y] ∧ Sl A 5 l.length x (l.flatMap RingD.cells) ∧ Sl A 5 l.length y (l.flatMap RingD.cells) ∧ l.length ≤ 1000000000, fun _ _ A v A' => A' = A ∧ v = .bool true⟩

set_option maxRecDepth 100000 in
set_option maxHeartbeats 0 in
theorem isEq_ok : FOk Tryd.prog 11 isEqS := by
  refine fok_v mixed fun (l : List RingD) vs A hp => ?_
  obtain ⟨x, y, rfl, ⟨ao, c, rfl, hc, _, ha1, ha2, ha3⟩, ⟨bo, d, rfl, hd, _, hb1, hb2, hb3⟩, hl⟩ : ∃ x y, vs = [x, y] ∧ Sl A 5 l.length x (l.flatMap RingD.cells) ∧ Sl A 5 l.length y (l.flatMap RingD.cells) ∧ l.length ≤ 1000000000 := hp
  refine ⟨noC, tabO Tryd.prog noC noL 60 [(11, 0)], 60, noC_sound _, tabO_sound mixed (noC_sound _) (noL_sound _) _ _, fun blk os out tape D hD => ?_⟩
  have hend : isEqS.post l [] A (.bool true) A := ⟨rfl, rfl⟩
  conv => lhs; whnf
  refine split_nd (fun _ => ?_) (fun h => absurd rfl h)
  conv => lhs; whnf
  refine (hD _).2 ⟨cnt A 5 [0, 1] [] l.length fun _ => True, ⟨(0 : Nat), ⟨Nat.zero_le _, trivial⟩, ⟨rfl, trivial⟩, trivial, rfl⟩, fun (k : Nat) hk => ⟨⟨trivial, trivial⟩, trivial, ?_⟩⟩
  simp only [cnt] at hk
  conv => lhs; whnf
  refine split_dec (fun hlt => ?_) (fun hlt => ?_)
  rotate_left
  · conv => lhs; whnf
    exact (hD _).2 hend
  have hlt : (k : Int) < (l.length : Int) := hlt
  have hkl : k < l.length := by omega
  have i0 : (0 : Int) ≤ (k : Int) ∧ (k : Int) < (l.length : Int) := by omega
  obtain ⟨g, o, rfl, hra⟩ := Sl.at_ hc ha1 ha2 ha3 (by omega)
  obtain ⟨g', o', rfl, hrb⟩ := Sl.at_ hd hb1 hb2 hb3 (by omega)
  have h1 := ring_at hra k hkl rfl
  have h2 := ring_at hrb k hkl rfl
  obtain ⟨w, hw⟩ : ∃ w, w = l[k] := ⟨_, rfl⟩
  rw [← hw] at h1 h2
  obtain ⟨cn, kd, so, p, z⟩ := w
  have hbb : beqL p.data.toList p.data.toList = true := beqL_iff.2 rfl
  conv => lhs; whnf
  repeat (first | refine go_in i0 ?_ | refine go_rd h1 ?_ | refine go_rd h2 ?_ | refine go_D hD rfl ?_ | refine go_D hD (by kernel_rfl) ?_
          conv => lhs; whnf)
  refine split_b (fun hb => ?_) (fun hb => ?_)
  · rw [hbb] at hb
    simp at hb
  conv => lhs; whnf
  exact (hD _).2 ⟨(k + 1 : Nat), ⟨⟨hkl, trivial⟩, ⟨inc_slot (by omega), trivial⟩, trivial, rfl⟩, by show l.length - (k + 1) < l.length - k; omega, ⟨same1 rfl rfl, same1 rfl rfl, trivial⟩, trivial⟩

end
end Go.Proofs.YtpgpbnalgjbfbaaDoor

namespace Go.Proofs.YtpgpbnalgjbfbaaDoor
open Go.Sx Go.RowKit
noncomputable section
open Classical

/-- A node, as far as watches look at it. -/
structure NdD where
  path : ByteArray
  czxid : Int
  mzxid : Int
  pzxid : Int
  ctime : Int
  mtime : Int
  ver : Int
  cver : Int
  owner : Int
  len : Int
  kids : Int

def NdD.cells (n : NdD) (vd : Value) : List Value := [.string n.path, vd, .int .i64 n.czxid, .int .i64 n.mzxid, .int .i64 n.pzxid, .int .i64 n.ctime, .int .i64 n.mtime, .int .i64 n.ver, .int .i64 n.cver, .int .i64 n.owner, .int .i64 n.len, .int .i64 n.kids]

structure EvD where
  kind : Int
  sort : Int
  path : ByteArray
  z : Int
deriving DecidableEq

def EvD.cells (e : EvD) : List Value := [.int .u8 e.kind, .int .u8 e.sort, .string e.path, .int .i64 e.z]

def noEv : EvD := ⟨0, 0, ⟨#[]⟩, 0⟩

def mxI (a b : Int) : Int := bif decide (a < b) then b else a

/-- What a watch tells as it is set again: its kind (0: nothing) and zxid. -/
def toldK (sort last : Int) (n : NdD) (there : Bool) : Int × Int :=
  if there = false then (if sort = 2 then (0, 0) else (2, 0))
  else if sort = 3 ∧ last < mxI n.czxid n.pzxid then (4, mxI n.czxid n.pzxid)
  else if sort = 2 ∧ last < n.czxid then (1, n.czxid)
  else if sort ≠ 3 ∧ last < n.mzxid then (3, n.mzxid)
  else (0, 0)

def againW (w : WatchD) (last : Int) (n : NdD) (there : Bool) (ws : List WatchD) : EvD × Bool × List WatchD :=
  if mayD w.sort w.path = true then
    if (toldK w.sort last n there).1 = 0 then (noEv, false, wPut w ws) else (⟨(toldK w.sort last n there).1, w.sort, w.path, (toldK w.sort last n there).2⟩, true, ws.erase w)
  else (noEv, false, ws)

def bellAgainS : FSpec := ⟨TwG × WatchD × Int × NdD × Bool, fun g vs A => ∃ a l k, vs = [.pointer (some ⟨g.1.t, 0, none⟩), .int .i64 g.2.1.conn, .int .u8 g.2.1.sort, .string g.2.1.path, .int .i64 g.2.2.1, .agg (g.2.2.2.1.cells (.slice a l k)).toArray, .bool g.2.2.2.2] ∧ TowerAt A g.1.t g.1.m g.1.ws,
  fun g _ A v A' => v = .tuple #[.agg (againW g.2.1 g.2.2.1 g.2.2.2.1 g.2.2.2.2 g.1.ws).1.cells.toArray, .bool (againW g.2.1 g.2.2.1 g.2.2.2.1 g.2.2.2.2 g.1.ws).2.1] ∧ TwTo A g.1 (againW g.2.1 g.2.2.1 g.2.2.2.1 g.2.2.2.2 g.1.ws).2.2 A'⟩

set_option maxRecDepth 100000 in
set_option maxHeartbeats 0 in
theorem bellAgain_ok : FOk Tryd.prog 16 bellAgainS := by
  refine fok_v mixed fun ⟨⟨t, m, ws⟩, ⟨conn, sort, p⟩, last, ⟨np, cz, mz, pz, ct, mt, ve, cv, ow, le, ki⟩, there⟩ vs A hp => ?_
  obtain ⟨a, l, k, rfl, hT⟩ : ∃ a l k, vs = [.pointer (some ⟨t, 0, none⟩), .int .i64 conn, .int .u8 sort, .string p, .int .i64 last, .agg (NdD.cells ⟨np, cz, mz, pz, ct, mt, ve, cv, ow, le, ki⟩ (.slice a l k)).toArray, .bool there] ∧ TowerAt A t m ws := hp
  have hC : CTSound Tryd.prog (lookC [specE 18 mayS, specE 9 bellAddS] noC) := lookC_sound (noC_sound _) (fun x hx => by
    simp only [List.mem_cons, List.not_mem_nil, or_false] at hx
    rcases hx with rfl | rfl
    · exact specE_ok may_ok
    · exact specE_ok bellAdd_ok)
  refine ⟨_, noL, 60, hC, noL_sound _, fun blk os out tape D hD => ?_⟩
  have htop : A.rd t 0 1 = some [.map (some m)] := hT.top.rd (o := 0) (n := 1) (by show 0 + 1 ≤ 1; omega)
  conv => lhs; whnf
  refine (hD _).2 ⟨((⟨t, m, ws⟩ : TwG), sort, p), ⟨rfl, hT⟩, fun v A1 hq => ?_⟩
  obtain ⟨h9, hv⟩ : A1 = A ∧ v = .bool (mayD sort p) := hq
  subst h9
  have hag : mayD sort p = true → againW ⟨conn, sort, p⟩ last ⟨np, cz, mz, pz, ct, mt, ve, cv, ow, le, ki⟩ there ws = if (toldK sort last ⟨np, cz, mz, pz, ct, mt, ve, cv, ow, le, ki⟩ there).1 = 0 then (noEv, false, wPut ⟨conn, sort, p⟩ ws) else (⟨(toldK sort last ⟨np, cz, mz, pz, ct, mt, ve, cv, ow, le, ki⟩ there).1, sort, p, (toldK sort last ⟨np, cz, mz, pz, ct, mt, ve, cv, ow, le, ki⟩ there).2⟩, true, ws.erase ⟨conn, sort, p⟩) := fun h => if_pos h
  cases hm : mayD sort p with
  | false =>
    rw [hm] at hv
    subst hv
    have hend : bellAgainS.post ((⟨t, m, ws⟩ : TwG), ⟨conn, sort, p⟩, last, ⟨np, cz, mz, pz, ct, mt, ve, cv, ow, le, ki⟩, there) [] A1 (.tuple #[.agg #[.int .u8 0, .int .u8 0, .string ⟨#[]⟩, .int .i64 0], .bool false]) A1 := by
      have : againW ⟨conn, sort, p⟩ last ⟨np, cz, mz, pz, ct, mt, ve, cv, ow, le, ki⟩ there ws = (noEv, false, ws) := if_neg (by rw [hm]; exact Bool.false_ne_true)
      show _ = Value.tuple #[.agg (againW _ _ _ _ _).1.cells.toArray, .bool (againW _ _ _ _ _).2.1] ∧ TwTo A1 _ (againW _ _ _ _ _).2.2 A1
      rw [this]
      exact ⟨rfl, .same hT⟩
    conv => lhs; whnf
    exact (hD _).2 hend
  | true =>
    rw [hm] at hv
    subst hv
    have hag := hag hm
    -- LEAVES
    cases there with
    | false =>
      by_cases h2 : sort = 2
      · subst h2
        have htk : toldK 2 last ⟨np, cz, mz, pz, ct, mt, ve, cv, ow, le, ki⟩ false = (0, 0) := by
          unfold toldK
          rfl
        rw [htk] at hag
        conv => lhs; whnf
        repeat (first | refine go_rd htop ?_ | refine go_D hD rfl ?_
                conv => lhs; whnf)
        refine (hD _).2 ⟨((⟨t, m, ws⟩ : TwG), ⟨conn, 2, p⟩), ⟨rfl, hT⟩, fun v A2 hq => ?_⟩
        have hq : TwTo A1 ⟨t, m, ws⟩ (if mayD 2 p = true then wPut ⟨conn, 2, p⟩ ws else ws) A2 := hq
        rw [if_pos hm] at hq
        have hend : bellAgainS.post ((⟨t, m, ws⟩ : TwG), ⟨conn, 2, p⟩, last, ⟨np, cz, mz, pz, ct, mt, ve, cv, ow, le, ki⟩, false) [] A1 (.tuple #[.agg #[.int .u8 0, .int .u8 0, .string ⟨#[]⟩, .int .i64 0], .bool false]) A2 := by
          show _ = Value.tuple #[.agg (againW _ _ _ _ _).1.cells.toArray, .bool (againW _ _ _ _ _).2.1] ∧ TwTo A1 _ (againW _ _ _ _ _).2.2 A2
          rw [hag]
          exact ⟨rfl, hq⟩
        conv => lhs; whnf
        exact (hD _).2 hend
      · have htk : toldK sort last ⟨np, cz, mz, pz, ct, mt, ve, cv, ow, le, ki⟩ false = (2, 0) := by
          unfold toldK
          rw [if_pos rfl, if_neg h2]
        rw [htk] at hag
        conv => lhs; whnf
        repeat (first | refine no_dec h2 ?_ | refine go_rd htop ?_ | refine go_D hD rfl ?_
                conv => lhs; whnf)
        refine (hD _).2 ⟨by kernel_rfl, _, hT.map, wL_alike ⟨conn, sort, p⟩ ws, fun A2 hM ho _ => ?_⟩
        have hM : MapAt A2 m (delL (wKey ⟨conn, sort, p⟩) (wL ws)) := hM
        rw [wL_del] at hM
        have hend : bellAgainS.post ((⟨t, m, ws⟩ : TwG), ⟨conn, sort, p⟩, last, ⟨np, cz, mz, pz, ct, mt, ve, cv, ow, le, ki⟩, false) [] A1 (.tuple #[.agg #[.int .u8 2, .int .u8 sort, .string p, .int .i64 0], .bool true]) A2 := by
          show _ = Value.tuple #[.agg (againW _ _ _ _ _).1.cells.toArray, .bool (againW _ _ _ _ _).2.1] ∧ TwTo A1 _ (againW _ _ _ _ _).2.2 A2
          rw [hag]
          exact ⟨rfl, .of_set hT hM ho (hT.nd.erase _)⟩
        conv => lhs; whnf
        exact (hD _).2 hend
    | true =>
      by_cases h3 : sort = 3
      · subst h3
        by_cases hl : last < mxI cz pz
        · have htk : toldK 3 last ⟨np, cz, mz, pz, ct, mt, ve, cv, ow, le, ki⟩ true = (4, (mxI cz pz)) := by
            unfold toldK
            rw [if_neg (by simp), if_pos ⟨rfl, hl⟩]
          rw [htk] at hag
          conv => lhs; whnf
          repeat (first | refine go_dec hl ?_ | refine go_rd htop ?_ | refine go_D hD rfl ?_
                  conv => lhs; whnf)
          refine (hD _).2 ⟨by kernel_rfl, _, hT.map, wL_alike ⟨conn, 3, p⟩ ws, fun A2 hM ho _ => ?_⟩
          have hM : MapAt A2 m (delL (wKey ⟨conn, 3, p⟩) (wL ws)) := hM
          rw [wL_del] at hM
          have hend : bellAgainS.post ((⟨t, m, ws⟩ : TwG), ⟨conn, 3, p⟩, last, ⟨np, cz, mz, pz, ct, mt, ve, cv, ow, le, ki⟩, true) [] A1 (.tuple #[.agg #[.int .u8 4, .int .u8 3, .string p, .int .i64 (mxI cz pz)], .bool true]) A2 := by
            show _ = Value.tuple #[.agg (againW _ _ _ _ _).1.cells.toArray, .bool (againW _ _ _ _ _).2.1] ∧ TwTo A1 _ (againW _ _ _ _ _).2.2 A2
            rw [hag]
            exact ⟨rfl, .of_set hT hM ho (hT.nd.erase _)⟩
          conv => lhs; whnf
          exact (hD _).2 hend
        · have htk : toldK 3 last ⟨np, cz, mz, pz, ct, mt, ve, cv, ow, le, ki⟩ true = (0, 0) := by
            unfold toldK
            rw [if_neg (by simp), if_neg (fun h => hl h.2), if_neg (by omega), if_neg (by omega)]
          rw [htk] at hag
          conv => lhs; whnf
          repeat (first | refine no_dec hl ?_ | refine go_rd htop ?_ | refine go_D hD rfl ?_
                  conv => lhs; whnf)
          refine (hD _).2 ⟨((⟨t, m, ws⟩ : TwG), ⟨conn, 3, p⟩), ⟨rfl, hT⟩, fun v A2 hq => ?_⟩
          have hq : TwTo A1 ⟨t, m, ws⟩ (if mayD 3 p = true then wPut ⟨conn, 3, p⟩ ws else ws) A2 := hq
          rw [if_pos hm] at hq
          have hend : bellAgainS.post ((⟨t, m, ws⟩ : TwG), ⟨conn, 3, p⟩, last, ⟨np, cz, mz, pz, ct, mt, ve, cv, ow, le, ki⟩, true) [] A1 (.tuple #[.agg #[.int .u8 0, .int .u8 0, .string ⟨#[]⟩, .int .i64 0], .bool false]) A2 := by
            show _ = Value.tuple #[.agg (againW _ _ _ _ _).1.cells.toArray, .bool (againW _ _ _ _ _).2.1] ∧ TwTo A1 _ (againW _ _ _ _ _).2.2 A2
            rw [hag]
            exact ⟨rfl, hq⟩
          conv => lhs; whnf
          exact (hD _).2 hend
      · by_cases h2 : sort = 2
        · subst h2
          by_cases hc : last < cz
          · have htk : toldK 2 last ⟨np, cz, mz, pz, ct, mt, ve, cv, ow, le, ki⟩ true = (1, cz) := by
              unfold toldK
              rw [if_neg (by simp), if_neg (by omega), if_pos ⟨rfl, hc⟩]
            rw [htk] at hag
            conv => lhs; whnf
            repeat (first | refine go_dec hc ?_ | refine go_rd htop ?_ | refine go_D hD rfl ?_
                    conv => lhs; whnf)
            refine (hD _).2 ⟨by kernel_rfl, _, hT.map, wL_alike ⟨conn, 2, p⟩ ws, fun A2 hM ho _ => ?_⟩
            have hM : MapAt A2 m (delL (wKey ⟨conn, 2, p⟩) (wL ws)) := hM
            rw [wL_del] at hM
            have hend : bellAgainS.post ((⟨t, m, ws⟩ : TwG), ⟨conn, 2, p⟩, last, ⟨np, cz, mz, pz, ct, mt, ve, cv, ow, le, ki⟩, true) [] A1 (.tuple #[.agg #[.int .u8 1, .int .u8 2, .string p, .int .i64 cz], .bool true]) A2 := by
              show _ = Value.tuple #[.agg (againW _ _ _ _ _).1.cells.toArray, .bool (againW _ _ _ _ _).2.1] ∧ TwTo A1 _ (againW _ _ _ _ _).2.2 A2
              rw [hag]
              exact ⟨rfl, .of_set hT hM ho (hT.nd.erase _)⟩
            conv => lhs; whnf
            exact (hD _).2 hend
          · by_cases hl : last < mz
            · have htk : toldK 2 last ⟨np, cz, mz, pz, ct, mt, ve, cv, ow, le, ki⟩ true = (3, mz) := by
                unfold toldK
                rw [if_neg (by simp), if_neg (by omega), if_neg (fun h => hc h.2), if_pos ⟨by omega, hl⟩]
              rw [htk] at hag
              conv => lhs; whnf
              repeat (first | refine no_dec hc ?_ | refine go_dec hl ?_ | refine go_rd htop ?_ | refine go_D hD rfl ?_
                      conv => lhs; whnf)
              refine (hD _).2 ⟨by kernel_rfl, _, hT.map, wL_alike ⟨conn, 2, p⟩ ws, fun A2 hM ho _ => ?_⟩
              have hM : MapAt A2 m (delL (wKey ⟨conn, 2, p⟩) (wL ws)) := hM
              rw [wL_del] at hM
              have hend : bellAgainS.post ((⟨t, m, ws⟩ : TwG), ⟨conn, 2, p⟩, last, ⟨np, cz, mz, pz, ct, mt, ve, cv, ow, le, ki⟩, true) [] A1 (.tuple #[.agg #[.int .u8 3, .int .u8 2, .string p, .int .i64 mz], .bool true]) A2 := by
                show _ = Value.tuple #[.agg (againW _ _ _ _ _).1.cells.toArray, .bool (againW _ _ _ _ _).2.1] ∧ TwTo A1 _ (againW _ _ _ _ _).2.2 A2
                rw [hag]
                exact ⟨rfl, .of_set hT hM ho (hT.nd.erase _)⟩
              conv => lhs; whnf
              exact (hD _).2 hend
            · have htk : toldK 2 last ⟨np, cz, mz, pz, ct, mt, ve, cv, ow, le, ki⟩ true = (0, 0) := by
                unfold toldK
                rw [if_neg (by simp), if_neg (by omega), if_neg (fun h => hc h.2), if_neg (fun h => hl h.2)]
              rw [htk] at hag
              conv => lhs; whnf
              repeat (first | refine no_dec hc ?_ | refine no_dec hl ?_ | refine go_rd htop ?_ | refine go_D hD rfl ?_
                      conv => lhs; whnf)
              refine (hD _).2 ⟨((⟨t, m, ws⟩ : TwG), ⟨conn, 2, p⟩), ⟨rfl, hT⟩, fun v A2 hq => ?_⟩
              have hq : TwTo A1 ⟨t, m, ws⟩ (if mayD 2 p = true then wPut ⟨conn, 2, p⟩ ws else ws) A2 := hq
              rw [if_pos hm] at hq
              have hend : bellAgainS.post ((⟨t, m, ws⟩ : TwG), ⟨conn, 2, p⟩, last, ⟨np, cz, mz, pz, ct, mt, ve, cv, ow, le, ki⟩, true) [] A1 (.tuple #[.agg #[.int .u8 0, .int .u8 0, .string ⟨#[]⟩, .int .i64 0], .bool false]) A2 := by
                show _ = Value.tuple #[.agg (againW _ _ _ _ _).1.cells.toArray, .bool (againW _ _ _ _ _).2.1] ∧ TwTo A1 _ (againW _ _ _ _ _).2.2 A2
                rw [hag]
                exact ⟨rfl, hq⟩
              conv => lhs; whnf
              exact (hD _).2 hend
        · by_cases hl : last < mz
          · have htk : toldK sort last ⟨np, cz, mz, pz, ct, mt, ve, cv, ow, le, ki⟩ true = (3, mz) := by
              unfold toldK
              rw [if_neg (by simp), if_neg (fun h => h3 h.1), if_neg (fun h => h2 h.1), if_pos ⟨h3, hl⟩]
            rw [htk] at hag
            conv => lhs; whnf
            repeat (first | refine no_dec h2 ?_ | refine no_dec h3 ?_ | refine split_nd (fun h => absurd h h3) (fun _ => ?_) | refine go_dec hl ?_ | refine go_rd htop ?_ | refine go_D hD rfl ?_
                    conv => lhs; whnf)
            refine (hD _).2 ⟨by kernel_rfl, _, hT.map, wL_alike ⟨conn, sort, p⟩ ws, fun A2 hM ho _ => ?_⟩
            have hM : MapAt A2 m (delL (wKey ⟨conn, sort, p⟩) (wL ws)) := hM
            rw [wL_del] at hM
            have hend : bellAgainS.post ((⟨t, m, ws⟩ : TwG), ⟨conn, sort, p⟩, last, ⟨np, cz, mz, pz, ct, mt, ve, cv, ow, le, ki⟩, true) [] A1 (.tuple #[.agg #[.int .u8 3, .int .u8 sort, .string p, .int .i64 mz], .bool true]) A2 := by
              show _ = Value.tuple #[.agg (againW _ _ _ _ _).1.cells.toArray, .bool (againW _ _ _ _ _).2.1] ∧ TwTo A1 _ (againW _ _ _ _ _).2.2 A2
              rw [hag]
              exact ⟨rfl, .of_set hT hM ho (hT.nd.erase _)⟩
            conv => lhs; whnf
            exact (hD _).2 hend
          · have htk : toldK sort last ⟨np, cz, mz, pz, ct, mt, ve, cv, ow, le, ki⟩ true = (0, 0) := by
              unfold toldK
              rw [if_neg (by simp), if_neg (fun h => h3 h.1), if_neg (fun h => h2 h.1), if_neg (fun h => hl h.2)]
            rw [htk] at hag
            conv => lhs; whnf
            repeat (first | refine no_dec h2 ?_ | refine no_dec h3 ?_ | refine split_nd (fun h => absurd h h3) (fun _ => ?_) | refine no_dec hl ?_ | refine go_rd htop ?_ | refine go_D hD rfl ?_
                    conv => lhs; whnf)
            refine (hD _).2 ⟨((⟨t, m, ws⟩ : TwG), ⟨conn, sort, p⟩), ⟨rfl, hT⟩, fun v A2 hq => ?_⟩
            have hq : TwTo A1 ⟨t, m, ws⟩ (if mayD sort p = true then wPut ⟨conn, sort, p⟩ ws else ws) A2 := hq
            rw [if_pos hm] at hq
            have hend : bellAgainS.post ((⟨t, m, ws⟩ : TwG), ⟨conn, sort, p⟩, last, ⟨np, cz, mz, pz, ct, mt, ve, cv, ow, le, ki⟩, true) [] A1 (.tuple #[.agg #[.int .u8 0, .int .u8 0, .string ⟨#[]⟩, .int .i64 0], .bool false]) A2 := by
              show _ = Value.tuple #[.agg (againW _ _ _ _ _).1.cells.toArray, .bool (againW _ _ _ _ _).2.1] ∧ TwTo A1 _ (againW _ _ _ _ _).2.2 A2
              rw [hag]
              exact ⟨rfl, hq⟩
            conv => lhs; whnf
            exact (hD _).2 hend

end
end Go.Proofs.YtpgpbnalgjbfbaaDoor

namespace Go.Proofs.YtpgpbnalgjbfbaaDoor
open Go.Sx Go.RowKit
noncomputable section
open Classical

def pRoot : ByteArray := ⟨#[47]⟩
def pA : ByteArray := ⟨#[47, 97]⟩

theorem may_a2 : mayD 2 pA = true := by kernel_rfl
theorem may_a1 : mayD 1 pA = true := by kernel_rfl
theorem may_r3 : mayD 3 pRoot = true := by kernel_rfl
theorem parent_a : parentP pA = pRoot := by kernel_rfl
theorem ok_a : pathOk pA.data.toList = true := by kernel_rfl
theorem ne_ra : ¬ pRoot = pA := by
  intro h
  have := congrArg (fun b : ByteArray => b.data.toList.length) h
  revert this
  decide

def w1 : WatchD := ⟨1, 2, pA⟩
def w2 : WatchD := ⟨2, 3, pRoot⟩
def w3 : WatchD := ⟨1, 3, pRoot⟩

theorem put1 : wPut w1 [] = [w1] := by unfold wPut; rw [if_neg (by simp)]; rfl
theorem put2 : wPut w2 [w1] = [w1, w2] := by
  unfold wPut
  rw [if_neg]
  · rfl
  · intro h
    rw [List.mem_singleton] at h
    injection h with h
    exact absurd h (by decide)
theorem put3 : wPut w3 [w1, w2] = [w1, w2, w3] := by
  unfold wPut
  rw [if_neg]
  · rfl
  · intro h
    simp only [List.mem_cons, List.not_mem_nil, or_false] at h
    rcases h with h | h
    · injection h with _ h
      exact absurd h (by decide)
    · injection h with h
      exact absurd h (by decide)
theorem put4 : wPut w3 [w1, w2, w3] = [w1, w2, w3] := by unfold wPut; rw [if_pos (by simp)]

def dA : DeedD := .mk ⟨5, 1, 0, 0, 0, 0, pA, [], 0, 0, 1, 0, 0, 0, []⟩ []

theorem right_a : RightD dA := by
  refine ⟨by decide, by decide, by decide, by decide, by decide, by decide, ?_, fun h => absurd h (by decide), fun h => absurd h (by decide), fun h => absurd h (by decide)⟩
  have hk : ∀ (i : Nat) {q : Prop}, hasK 1 i → hasK dA.h.kind i ∨ q := fun _ _ h => .inl h
  refine ⟨by decide, hk 0 (by unfold hasK; decide), .inr rfl, .inr rfl, .inr rfl, hk 4 (by unfold hasK; decide), .inr rfl, .inr rfl, .inr rfl, .inr ⟨rfl, rfl⟩, fun _ => ok_a, by decide, by decide, by decide, by decide, fun _ => by decide, fun h => absurd h (by decide), fun h => absurd h (by decide), fun h => absurd h (by decide)⟩

def rA : List RingD := [⟨1, 1, 2, pA, 5⟩, ⟨1, 4, 3, pRoot, 5⟩, ⟨2, 4, 3, pRoot, 5⟩]

theorem rungK1 : rungK 1 pA w1 = 1 := by
  unfold rungK w1
  simp
theorem rungK2 : rungK 1 pA w2 = 4 := by
  unfold rungK w2
  simp [parent_a]
theorem rungK3 : rungK 1 pA w3 = 4 := by
  unfold rungK w3
  simp [parent_a]

theorem rings_a : ringsW dA [w1, w2, w3] = (rA, []) := by
  unfold ringsW
  rw [if_pos right_a]
  show (([] : List RingD) ++ chRings 1 pA 5 [w1, w2, w3], unrung 1 pA [w1, w2, w3]) = (rA, [])
  have h1 : rung 1 pA [w1, w2, w3] = [w1, w2, w3] := List.filter_eq_self.2 fun w hw => by
    simp only [List.mem_cons, List.not_mem_nil, or_false] at hw
    rcases hw with rfl | rfl | rfl
    · rw [rungK1]; rfl
    · rw [rungK2]; rfl
    · rw [rungK3]; rfl
  have h2 : unrung 1 pA [w1, w2, w3] = [] := List.filter_eq_nil_iff.2 fun w hw => by
    simp only [List.mem_cons, List.not_mem_nil, or_false] at hw
    rcases hw with rfl | rfl | rfl
    · rw [rungK1]; simp
    · rw [rungK2]; simp
    · rw [rungK3]; simp
  have h3 : sortW [w1, w2, w3] = [w1, w3, w2] := by
    rw [sortW_of_perm (vs := [w1, w3, w2]) ((List.Perm.swap w3 w2 []).cons w1), sortW_id]
    simp [wLt, w1, w2, w3]
  unfold chRings
  rw [h1, h2, h3]
  simp only [List.map_cons, List.map_nil, List.nil_append, rungK1, rungK2, rungK3]
  rfl

def awS : FSpec := ⟨Unit, fun _ vs A => vs = [] ∧ HasA A, fun _ _ A v A' => A.Sub A' ∧ v = .bool true⟩

theorem TwTo.then {A A' A'' : Arena} {t m : Nat} {ws ws' ws'' : List WatchD} (h : TwTo A ⟨t, m, ws⟩ ws' A') (k : TwTo A' ⟨t, m, ws'⟩ ws'' A'') : TwTo A ⟨t, m, ws⟩ ws'' A'' :=
  ⟨k.tower, fun b o hb ho => k.keep b o hb (h.keep b o hb ho), fun b hb => h.dom b (k.dom b hb)⟩

theorem TwTo.from {A A1 A' : Arena} {t m : Nat} {ws ws' : List WatchD} (h : TwTo A1 ⟨t, m, ws⟩ ws' A') (s : A.Sub A1) (hm : A.blk m = none) : A.Sub A' := fun k o hk => h.keep k o (fun e => by
  have e : k = m := e
  rw [e, hm] at hk; cases hk) (s k o hk)

set_option maxRecDepth 100000 in
set_option maxHeartbeats 0 in
theorem aw_ok : FOk Tryd.prog 5 awS := by
  refine fok_v mixed fun _ vs A hp => ?_
  obtain ⟨rfl, hHas⟩ : vs = [] ∧ HasA A := hp
  have hC : CTSound Tryd.prog (lookC [specE 8 bellNewS, specE 9 bellAddS, specE 14 bellCountS, specE 10 bellRingS, specE 16 bellAgainS, specE 11 isEqS] noC) := lookC_sound (noC_sound _) (fun x hx => by
    simp only [List.mem_cons, List.not_mem_nil, or_false] at hx
    rcases hx with rfl | rfl | rfl | rfl | rfl | rfl
    · exact specE_ok bellNew_ok
    · exact specE_ok bellAdd_ok
    · exact specE_ok bellCount_ok
    · exact specE_ok bellRing_ok
    · exact specE_ok bellAgain_ok
    · exact specE_ok isEq_ok)
  refine ⟨_, noL, 60, hC, noL_sound _, fun blk os out tape D hD => ?_⟩
  conv => lhs; whnf
  refine (hD _).2 ⟨(), rfl, fun v A1 hq => ?_⟩
  obtain ⟨s1, t, m, hv, hT1, htn, hmn⟩ : A.Sub A1 ∧ ∃ t m, v = .pointer (some ⟨t, 0, none⟩) ∧ TowerAt A1 t m [] ∧ A.blk t = none ∧ A.blk m = none := hq
  subst hv
  conv => lhs; whnf
  refine (hD _).2 ⟨(⟨t, m, []⟩, w1), ⟨rfl, hT1⟩, fun v A2 hq => ?_⟩
  have hq : TwTo A1 ⟨t, m, []⟩ (if mayD 2 pA = true then wPut w1 [] else []) A2 := hq
  rw [if_pos may_a2, put1] at hq
  have hT2 := hq
  conv => lhs; whnf
  refine (hD _).2 ⟨(⟨t, m, [w1]⟩, w2), ⟨rfl, hT2.tower⟩, fun v A3 hq => ?_⟩
  have hq : TwTo A2 ⟨t, m, [w1]⟩ (if mayD 3 pRoot = true then wPut w2 [w1] else [w1]) A3 := hq
  rw [if_pos may_r3, put2] at hq
  have hT3 := hT2.then hq
  conv => lhs; whnf
  refine (hD _).2 ⟨(⟨t, m, [w1, w2]⟩, w3), ⟨rfl, hT3.tower⟩, fun v A4 hq => ?_⟩
  have hq : TwTo A3 ⟨t, m, [w1, w2]⟩ (if mayD 3 pRoot = true then wPut w3 [w1, w2] else [w1, w2]) A4 := hq
  rw [if_pos may_r3, put3] at hq
  have hT4 := hT3.then hq
  conv => lhs; whnf
  refine (hD _).2 ⟨(⟨t, m, [w1, w2, w3]⟩, w3), ⟨rfl, hT4.tower⟩, fun v A5 hq => ?_⟩
  have hq : TwTo A4 ⟨t, m, [w1, w2, w3]⟩ (if mayD 3 pRoot = true then wPut w3 [w1, w2, w3] else [w1, w2, w3]) A5 := hq
  rw [if_pos may_r3, put4] at hq
  have hT5 := hT4.then hq
  conv => lhs; whnf
  refine (hD _).2 ⟨⟨t, m, [w1, w2, w3]⟩, ⟨rfl, hT5.tower⟩, fun v A6 hq => ?_⟩
  obtain ⟨h9, hv⟩ : A6 = A5 ∧ v = .int .i64 ((3 : Nat) : Int) := hq
  subst h9; subst hv
  have hHas5 := hHas.sub (hT5.from s1 hmn)
  obtain ⟨em, cm, hom, _⟩ := hT5.tower.map
  have hdv : DeedR Arena.void dA [.int .i64 5, .int .u8 1, .int .i64 0, .int .i64 0, .int .i64 0, .int .i64 0, .string pA, .slice none 0 0, .int .i64 0, .int .i64 0, .int .i64 1, .int .i64 0, .int .i64 0, .int .i64 0, .slice none 0 0, .slice none 0 0] := by
    unfold dA
    rw [DeedR]
    exact ⟨_, _, _, [], rfl, by decide, ⟨Sl.nil _ _, by simp⟩, ⟨Sl.nil _ _, by simp⟩, Sl.nil _ _, by simp, by rw [DeedsR]⟩
  have hok3 : WOk [w1, w2, w3] := fun w hw => by
    simp only [List.mem_cons, List.not_mem_nil, or_false] at hw
    rcases hw with rfl | rfl | rfl
    · unfold w1; decide
    · unfold w2; decide
    · unfold w3; decide
  conv => lhs; whnf
  refine (hD _).2 ⟨(⟨t, m, [w1, w2, w3]⟩, dA, Arena.void), ⟨_, rfl, hT5.tower, hok3, by show (3 : Nat) ≤ 1000000; omega, hdv, fun _ _ h => (by cases h), rfl, hHas5⟩, fun v A7 hq => ?_⟩
  obtain ⟨hT7, hG7⟩ : TwTo A6 ⟨t, m, [w1, w2, w3]⟩ (ringsW dA [w1, w2, w3]).2 A7 ∧ GrowR A6 A7 5 56 (ringsW dA [w1, w2, w3]).1.length v ((ringsW dA [w1, w2, w3]).1.flatMap RingD.cells) := hq
  rw [rings_a] at hT7 hG7
  dsimp only at hT7 hG7
  obtain ⟨q7, cp7, hv7, hq7, -⟩ := hG7.formN
  subst hv7
  conv => lhs; whnf
  refine (hD _).2 ⟨((⟨t, m, []⟩ : TwG), (⟨1, 1, pA⟩ : WatchD), 7, (⟨⟨#[]⟩, 0, 9, 0, 0, 0, 0, 0, 0, 0, 0⟩ : NdD), true), ⟨_, _, _, rfl, hT7.tower⟩, fun v A8 hq => ?_⟩
  have hag : againW ⟨1, 1, pA⟩ 7 ⟨⟨#[]⟩, 0, 9, 0, 0, 0, 0, 0, 0, 0, 0⟩ true [] = (⟨3, 1, pA, 9⟩, true, []) := by
    unfold againW
    have hk : toldK 1 7 ⟨⟨#[]⟩, 0, 9, 0, 0, 0, 0, 0, 0, 0, 0⟩ true = (3, 9) := by
      unfold toldK
      rw [if_neg (by simp), if_neg (by omega), if_neg (by omega), if_pos ⟨by omega, by show (7 : Int) < 9; omega⟩]
    dsimp only
    rw [if_pos may_a1, hk, if_neg (by decide)]
    rfl
  obtain ⟨hv, hT8⟩ : v = .tuple #[.agg (againW ⟨1, 1, pA⟩ 7 ⟨⟨#[]⟩, 0, 9, 0, 0, 0, 0, 0, 0, 0, 0⟩ true []).1.cells.toArray, .bool (againW ⟨1, 1, pA⟩ 7 ⟨⟨#[]⟩, 0, 9, 0, 0, 0, 0, 0, 0, 0, 0⟩ true []).2.1] ∧ TwTo A7 ⟨t, m, []⟩ (againW ⟨1, 1, pA⟩ 7 ⟨⟨#[]⟩, 0, 9, 0, 0, 0, 0, 0, 0, 0, 0⟩ true []).2.2 A8 := hq
  rw [hag] at hv hT8
  subst hv
  have hG8 := grow_stay hG7 fun b o h1 h2 => hT8.keep b o (fun e => by
    have e : b = m := e
    rw [e, hom] at h1; cases h1) h2
  have hAs : A.Sub A8 := fun b o hb => hT8.keep b o (fun e => by
    have e : b = m := e
    rw [e, hmn] at hb; cases hb) (hT7.keep b o (fun e => by
    have e : b = m := e
    rw [e, hmn] at hb; cases hb) (hT5.from s1 hmn b o hb))
  conv => lhs; whnf
  repeat (first | refine go_D hD rfl ?_ | refine go_dec rfl ?_
          conv => lhs; whnf)
  refine (hD _).2 fun gb A9 hN => ?_
  have hN : A8.New A9 gb #[.int .i64 1, .int .u8 1, .int .u8 2, .string pA, .int .i64 5, .int .i64 1, .int .u8 4, .int .u8 3, .string pRoot, .int .i64 5, .int .i64 2, .int .u8 4, .int .u8 3, .string pRoot, .int .i64 5] 56 := hN
  have hG9 := (hG8.sub hN.sub).sl
  have hw9 : Sl A9 5 3 (.slice (some ⟨gb, 0, none⟩) 3 3) (rA.flatMap RingD.cells) := Sl.row (Nat.le_refl _) (hN.rd (o := 0) (n := 3 * 5) (by show 0 + 3 * 5 ≤ 15; omega))
  have hT9 : TowerAt A9 t m [] := ⟨hT8.tower.top.sub fun o ho => hN.sub _ _ ho, hT8.tower.map.sub fun o ho => hN.sub _ _ ho, hT8.tower.nd, hT8.tower.ne⟩
  conv => lhs; whnf
  repeat (first | refine go_D hD rfl ?_ | refine go_dec rfl ?_
          conv => lhs; whnf)
  refine (hD _).2 ⟨rA, ⟨_, _, rfl, hG9, hw9, by show (3 : Nat) ≤ 1000000000; omega⟩, fun v AX hq => ?_⟩
  obtain ⟨hX, hv⟩ : AX = A9 ∧ v = .bool true := hq
  subst hX; subst hv
  conv => lhs; whnf
  repeat (first | refine go_D hD rfl ?_ | refine go_dec rfl ?_
          conv => lhs; whnf)
  refine (hD _).2 ⟨⟨t, m, []⟩, ⟨rfl, hT9⟩, fun v AY hq => ?_⟩
  obtain ⟨hY, hv⟩ : AY = AX ∧ v = .int .i64 ((0 : Nat) : Int) := hq
  subst hY; subst hv
  have hend : awS.post () [] A (.bool true) AY := ⟨hAs.trans hN.sub, rfl⟩
  conv => lhs; whnf
  repeat (first | refine go_D hD rfl ?_ | refine go_D hD (by kernel_rfl) ?_ | refine go_dec rfl ?_
          conv => lhs; whnf)
  exact (hD _).2 hend

end
end Go.Proofs.YtpgpbnalgjbfbaaDoor

namespace Go.Proofs.YtpgpbnalgjbfbaaDoor
open Go.Sx Go.RowKit
noncomputable section
open Classical

/-- A step, as plain data. -/
structure DoD where
  op : Int
  w : WatchD
  deed : DeedD
  last : Int
  node : NdD
  there : Bool

def DoR (A : Arena) (d : DoD) (cs : List Value) : Prop := ∃ dc a l k, cs = [.int .i64 d.op, .int .i64 d.w.conn, .int .u8 d.w.sort, .string d.w.path] ++ dc ++ [.int .i64 d.last] ++ d.node.cells (.slice a l k) ++ [.bool d.there] ∧ DeedR A d.deed dc ∧ d.w.path.data.toList.length ≤ 140737488351232

theorem DoR.len {A : Arena} {d : DoD} {cs : List Value} (h : DoR A d cs) : cs.length = 34 := by
  obtain ⟨dc, a, l, k, rfl, h, _⟩ := h
  simp [h.len, NdD.cells]

theorem DoR.sub {A B : Arena} (hs : B.Sub A) {d : DoD} {cs : List Value} (h : DoR B d cs) : DoR A d cs := by
  obtain ⟨dc, a, l, k, h1, h2, h3⟩ := h
  exact ⟨dc, a, l, k, h1, DeedR.sub hs _ _ h2, h3⟩

def DosS (A : Arena) (v : Value) (ds : List DoD) : Prop := ∃ rows : List (List Value), Sl A 34 ds.length v rows.flatten ∧ ds.length * 360 ≤ 140737488351232 ∧ rows.length = ds.length ∧ ∀ k (h1 : k < ds.length) (h2 : k < rows.length), DoR A ds[k] rows[k]

theorem dos_row {A : Arena} {ds : List DoD} {rows : List (List Value)} (hl : rows.length = ds.length) (hR : ∀ k (h1 : k < ds.length) (h2 : k < rows.length), DoR A ds[k] rows[k]) {g o n : Nat} (hra : A.rd g o (n * 34) = some rows.flatten) (hn : n = ds.length) {k : Nat} (hk : k < ds.length) :
    ∃ cs, DoR A ds[k] cs ∧ A.rd g (o + k * 34) 34 = some cs := by
  have hlens : ∀ r ∈ rows, r.length = 34 := fun r hr => by
    obtain ⟨i, hi, rfl⟩ := List.mem_iff_getElem.1 hr
    exact (hR i (by omega) hi).len
  exact ⟨_, hR k hk (by omega), rows_at hra hlens k (by omega) (by omega)⟩

end
end Go.Proofs.YtpgpbnalgjbfbaaDoor

namespace Go.Proofs.YtpgpbnalgjbfbaaDoor
open Go.Sx Go.RowKit
noncomputable section
open Classical

def noneS : FSpec := ⟨DoD × Option Nat, fun g vs A => ∃ cs : List Value, vs = [ptrO g.2, .agg cs.toArray] ∧ DoR A g.1 cs ∧ HasA A ∧ NoTw A g.2, fun _ _ A v A' => A.Sub A' ∧ v = .bool true⟩

set_option maxRecDepth 100000 in
set_option maxHeartbeats 0 in
theorem none_ok : FOk Tryd.prog 6 noneS := by
  refine fok_v mixed fun ⟨⟨op, ⟨conn, sort, p⟩, d, last, ⟨np, cz, mz, pz, ct, mt, ve, cv, ow, le, ki⟩, there⟩, t⟩ vs A hp => ?_
  obtain ⟨cs, rfl, ⟨dc, na, nl, nk, hcs, hDd, hpl⟩, hHas, hN⟩ : ∃ cs : List Value, vs = [ptrO t, .agg cs.toArray] ∧ DoR A ⟨op, ⟨conn, sort, p⟩, d, last, ⟨np, cz, mz, pz, ct, mt, ve, cv, ow, le, ki⟩, there⟩ cs ∧ HasA A ∧ NoTw A t := hp
  obtain ⟨a7, l7, k7, a14, l14, k14, a15, l15, k15, hdc⟩ := hDd.form
  subst hdc
  subst hcs
  have hC : CTSound Tryd.prog (lookC [specE 10 ringNilS] noC) := lookC_sound (noC_sound _) (fun x hx => by
    simp only [List.mem_singleton] at hx
    subst hx; exact specE_ok ringNil_ok)
  refine ⟨_, noL, 60, hC, noL_sound _, fun blk os out tape D hD => ?_⟩
  cases t with
  | none =>
    conv => lhs; whnf
    repeat (first | refine go_D hD (by kernel_rfl) ?_
            conv => lhs; whnf)
    refine (hD _).2 ⟨(d, none), ⟨_, rfl, hDd, hHas, hN⟩, fun v A1 hq => ?_⟩
    obtain ⟨s1, hG⟩ : A.Sub A1 ∧ GrowR A A1 5 56 0 v [] := hq
    obtain ⟨base, cp, rfl, hbase, -⟩ := hG.formN
    have hend : noneS.post ((⟨op, ⟨conn, sort, p⟩, d, last, ⟨np, cz, mz, pz, ct, mt, ve, cv, ow, le, ki⟩, there⟩ : DoD), none) [] A (.bool true) A1 := ⟨s1, rfl⟩
    conv => lhs; whnf
    repeat (first | refine go_D hD (by kernel_rfl) ?_
            conv => lhs; whnf)
    exact (hD _).2 hend
  | some b =>
    have hT := hN b rfl
    have htop : A.rd b 0 1 = some [.map none] := hT.rd (o := 0) (n := 1) (by show 0 + 1 ≤ 1; omega)
    conv => lhs; whnf
    repeat (first | refine go_rd htop ?_ | refine go_D hD (by kernel_rfl) ?_
            conv => lhs; whnf)
    refine (hD _).2 fun it A1 hi ho hb => ?_
    have hi : A.blk it = none := hi
    have ho : ∀ b, b ≠ it → A1.blk b = A.blk b := ho
    have s1 := sub_newB hi ho
    conv => lhs; whnf
    refine (hD _).2 (.inr ⟨_, _, _, hb, ?_⟩)
    conv => lhs; whnf
    repeat (first | refine go_D hD (by kernel_rfl) ?_
            conv => lhs; whnf)
    refine (hD _).2 ⟨(d, some b), ⟨_, rfl, DeedR.sub s1 _ _ hDd, hHas.sub s1, hN.sub s1⟩, fun v A2 hq => ?_⟩
    obtain ⟨s2, hG⟩ : A1.Sub A2 ∧ GrowR A1 A2 5 56 0 v [] := hq
    obtain ⟨base, cp, rfl, hbase, -⟩ := hG.formN
    have htop2 : A2.rd b 0 1 = some [.map none] := ((hT.sub fun o ho => (s1.trans s2) _ _ ho : CellsAt A2 b [.map none])).rd (o := 0) (n := 1) (by show 0 + 1 ≤ 1; omega)
    have hend : noneS.post ((⟨op, ⟨conn, sort, p⟩, d, last, ⟨np, cz, mz, pz, ct, mt, ve, cv, ow, le, ki⟩, there⟩ : DoD), some b) [] A (.bool true) A2 := ⟨s1.trans s2, rfl⟩
    conv => lhs; whnf
    repeat (first | refine go_rd htop2 ?_ | refine go_D hD (by kernel_rfl) ?_
            conv => lhs; whnf)
    exact (hD _).2 hend

def nilS : FSpec := ⟨DoD, fun g vs A => ∃ cs : List Value, vs = [.agg cs.toArray] ∧ DoR A g cs ∧ HasA A, fun _ _ A v A' => A.Sub A' ∧ v = .bool true⟩

set_option maxRecDepth 100000 in
set_option maxHeartbeats 0 in
theorem nil_ok : FOk Tryd.prog 3 nilS := by
  refine fok_a mixed alTower fun ⟨op, ⟨conn, sort, p⟩, d, last, ⟨np, cz, mz, pz, ct, mt, ve, cv, ow, le, ki⟩, there⟩ vs A hp => ?_
  obtain ⟨cs, rfl, hDo, hHas⟩ : ∃ cs : List Value, vs = [.agg cs.toArray] ∧ DoR A ⟨op, ⟨conn, sort, p⟩, d, last, ⟨np, cz, mz, pz, ct, mt, ve, cv, ow, le, ki⟩, there⟩ cs ∧ HasA A := hp
  have hDo0 := hDo
  obtain ⟨dc, na, nl, nk, hcs, hDd, hpl⟩ := hDo0
  obtain ⟨a7, l7, k7, a14, l14, k14, a15, l15, k15, hdc⟩ := hDd.form
  subst hdc
  subst hcs
  have hC : CTSound Tryd.prog (lookC [specE 5 awS, specE 6 noneS] noC) := lookC_sound (noC_sound _) (fun x hx => by
    simp only [List.mem_cons, List.not_mem_nil, or_false] at hx
    rcases hx with rfl | rfl
    · exact specE_ok aw_ok
    · exact specE_ok none_ok)
  refine ⟨_, noL, 60, hC, noL_sound _, fun blk os out tape D hD => ?_⟩
  conv => lhs; whnf
  refine (hD _).2 ⟨(), ⟨rfl, hHas⟩, fun v A1 hq => ?_⟩
  obtain ⟨s1, hv⟩ : A.Sub A1 ∧ v = .bool true := hq
  subst hv
  conv => lhs; whnf
  refine (hD _).2 ⟨((⟨op, ⟨conn, sort, p⟩, d, last, ⟨np, cz, mz, pz, ct, mt, ve, cv, ow, le, ki⟩, there⟩ : DoD), none), ⟨_, rfl, hDo.sub s1, hHas.sub s1, fun _ h => (by cases h)⟩, fun v A2 hq => ?_⟩
  obtain ⟨s2, hv⟩ : A1.Sub A2 ∧ v = .bool true := hq
  subst hv
  conv => lhs; whnf
  refine (hD _).2 fun b A3 hN => ?_
  have hN : A2.New A3 b #[.map none] 44 := hN
  have s3 := (s1.trans s2).trans hN.sub
  conv => lhs; whnf
  refine (hD _).2 ⟨((⟨op, ⟨conn, sort, p⟩, d, last, ⟨np, cz, mz, pz, ct, mt, ve, cv, ow, le, ki⟩, there⟩ : DoD), some b), ⟨_, rfl, hDo.sub s3, hHas.sub s3, fun c h => (by injection h with h; subst h; exact CellsAt.new hN)⟩, fun v A4 hq => ?_⟩
  obtain ⟨s4, hv⟩ : A3.Sub A4 ∧ v = .bool true := hq
  subst hv
  have hend : nilS.post ⟨op, ⟨conn, sort, p⟩, d, last, ⟨np, cz, mz, pz, ct, mt, ve, cv, ow, le, ki⟩, there⟩ [] A (.bool true) A4 := ⟨s3.trans s4, rfl⟩
  conv => lhs; whnf
  exact (hD _).2 hend

end
end Go.Proofs.YtpgpbnalgjbfbaaDoor

namespace Go.Sx
noncomputable section
open Go.RowKit Go.ChangeShapes Go.WideShapes

theorem list1 {α : Type} {l : List α} (h : l.length = 1) : ∃ v0, l = [v0] := by
  match l, h with
  | [v0], _ => exact ⟨v0, rfl⟩

theorem list2 {α : Type} {l : List α} (h : l.length = 2) : ∃ v0 v1, l = [v0, v1] := by
  match l, h with
  | [v0, v1], _ => exact ⟨v0, v1, rfl⟩

theorem list3 {α : Type} {l : List α} (h : l.length = 3) : ∃ v0 v1 v2, l = [v0, v1, v2] := by
  match l, h with
  | [v0, v1, v2], _ => exact ⟨v0, v1, v2, rfl⟩

theorem list4 {α : Type} {l : List α} (h : l.length = 4) : ∃ v0 v1 v2 v3, l = [v0, v1, v2, v3] := by
  match l, h with
  | [v0, v1, v2, v3], _ => exact ⟨v0, v1, v2, v3, rfl⟩

theorem list5 {α : Type} {l : List α} (h : l.length = 5) : ∃ v0 v1 v2 v3 v4, l = [v0, v1, v2, v3, v4] := by
  match l, h with
  | [v0, v1, v2, v3, v4], _ => exact ⟨v0, v1, v2, v3, v4, rfl⟩

theorem list6 {α : Type} {l : List α} (h : l.length = 6) : ∃ v0 v1 v2 v3 v4 v5, l = [v0, v1, v2, v3, v4, v5] := by
  match l, h with
  | [v0, v1, v2, v3, v4, v5], _ => exact ⟨v0, v1, v2, v3, v4, v5, rfl⟩

theorem list7 {α : Type} {l : List α} (h : l.length = 7) : ∃ v0 v1 v2 v3 v4 v5 v6, l = [v0, v1, v2, v3, v4, v5, v6] := by
  match l, h with
  | [v0, v1, v2, v3, v4, v5, v6], _ => exact ⟨v0, v1, v2, v3, v4, v5, v6, rfl⟩

theorem list8 {α : Type} {l : List α} (h : l.length = 8) : ∃ v0 v1 v2 v3 v4 v5 v6 v7, l = [v0, v1, v2, v3, v4, v5, v6, v7] := by
  match l, h with
  | [v0, v1, v2, v3, v4, v5, v6, v7], _ => exact ⟨v0, v1, v2, v3, v4, v5, v6, v7, rfl⟩

theorem list15 {α : Type} {l : List α} (h : l.length = 15) : ∃ v0 v1 v2 v3 v4 v5 v6 v7 v8 v9 v10 v11 v12 v13 v14, l = [v0, v1, v2, v3, v4, v5, v6, v7, v8, v9, v10, v11, v12, v13, v14] := by
  match l, h with
  | [v0, v1, v2, v3, v4, v5, v6, v7, v8, v9, v10, v11, v12, v13, v14], _ => exact ⟨v0, v1, v2, v3, v4, v5, v6, v7, v8, v9, v10, v11, v12, v13, v14, rfl⟩

theorem list16 {α : Type} {l : List α} (h : l.length = 16) : ∃ v0 v1 v2 v3 v4 v5 v6 v7 v8 v9 v10 v11 v12 v13 v14 v15, l = [v0, v1, v2, v3, v4, v5, v6, v7, v8, v9, v10, v11, v12, v13, v14, v15] := by
  match l, h with
  | [v0, v1, v2, v3, v4, v5, v6, v7, v8, v9, v10, v11, v12, v13, v14, v15], _ => exact ⟨v0, v1, v2, v3, v4, v5, v6, v7, v8, v9, v10, v11, v12, v13, v14, v15, rfl⟩

theorem list18 {α : Type} {l : List α} (h : l.length = 18) : ∃ v0 v1 v2 v3 v4 v5 v6 v7 v8 v9 v10 v11 v12 v13 v14 v15 v16 v17, l = [v0, v1, v2, v3, v4, v5, v6, v7, v8, v9, v10, v11, v12, v13, v14, v15, v16, v17] := by
  match l, h with
  | [v0, v1, v2, v3, v4, v5, v6, v7, v8, v9, v10, v11, v12, v13, v14, v15, v16, v17], _ => exact ⟨v0, v1, v2, v3, v4, v5, v6, v7, v8, v9, v10, v11, v12, v13, v14, v15, v16, v17, rfl⟩

/-- All memory that lay, as an arena. -/
def allOf (W : World) : Arena := Arena.of fun k => W.heap[k]?

theorem cells_spot {W : World} {a : Addr} {n : Nat} {cs : List Value} (h : W.cells? 0 a n = some cs) (hn : 0 < n) : a.spot = none := by
  unfold World.cells? at h
  rw [if_pos (Nat.zero_le _)] at h
  have h1 := mapM_some_get h 0 0 (by simp [hn])
  have hl := mapM_some_length h
  rw [List.length_range] at hl
  have h2 : cs[0]? = some cs[0] := List.getElem?_eq_getElem (by omega)
  rw [h2] at h1
  unfold World.cell? Addr.add at h1
  simp only [if_true] at h1
  split at h1
  · split at h1
    · cases h1
    · rename_i h3
      cases hs : a.spot with
      | none => rfl
      | some s => rw [hs] at h3; simp at h3
  · cases h1

theorem cells_rd {W : World} {g o : Nat} {n : Nat} {cs : List Value} (h : W.cells? 0 ⟨g, o, none⟩ n = some cs) (hn : 0 < n) : (allOf W).rd g o n = some cs := by
  unfold World.cells? at h
  rw [if_pos (Nat.zero_le _)] at h
  have hl := mapM_some_length h
  rw [List.length_range] at hl
  have key : ∀ i, i < n → ∃ c t fz, W.heap[g]? = some (.cells c t fz) ∧ c[o + i]? = cs[i]? := fun i hi => by
    have h1 := mapM_some_get h i i (by simp [hi])
    have h2 : cs[i]? = some cs[i] := List.getElem?_eq_getElem (by omega)
    rw [h2] at h1
    unfold World.cell? at h1
    rw [add_none] at h1
    simp only at h1
    split at h1
    · rename_i c t fz hb
      simp only [Option.isSome_none, Bool.false_eq_true, if_false] at h1
      exact ⟨c, t, fz, hb, by rw [h1, h2]⟩
    · cases h1
  obtain ⟨c, t, fz, hb, _⟩ := key 0 hn
  have hle : o + n ≤ c.size := by
    obtain ⟨c', t', fz', hb', h3⟩ := key (n - 1) (by omega)
    rw [hb] at hb'
    injection hb' with hb'
    injection hb' with e1 e2 e3
    subst e1
    have h4 : cs[n - 1]? = some cs[n - 1] := List.getElem?_eq_getElem (by omega)
    rw [h4] at h3
    have := (Array.getElem?_eq_some_iff.1 h3).1
    omega
  rw [rd_mk (A := allOf W) (c := c) (t := t) (fz := fz) hb hle]
  congr 1
  refine List.ext_getElem? fun i => ?_
  by_cases hi : i < n
  · obtain ⟨c', t', fz', hb', h3⟩ := key i hi
    rw [hb] at hb'
    injection hb' with hb'
    injection hb' with e1 e2 e3
    subst e1
    rw [List.getElem?_take_of_lt hi, List.getElem?_drop, Array.getElem?_toList, h3]
  · rw [List.getElem?_eq_none (by simp; omega), List.getElem?_eq_none (by omega)]

theorem rd_join {A : Arena} {g o n m : Nat} {xs ys : List Value} (h1 : A.rd g o n = some xs) (h2 : A.rd g (o + n) m = some ys) : A.rd g o (n + m) = some (xs ++ ys) := by
  obtain ⟨c, t, fz, hb, hle, rfl⟩ := rd_some h1
  obtain ⟨c', t', fz', hb', hle', rfl⟩ := rd_some h2
  rw [hb] at hb'
  injection hb' with hb'
  injection hb' with e1 e2 e3
  subst e1
  rw [rd_mk hb (by omega), List.take_add, List.drop_drop]

section
variable {H : Type} {enc : TypeId × Value → H} {P : Program} {W : World}

/-- How cells are read here. -/
abbrev trodA (enc : TypeId × Value → H) (P : Program) (W : World) (n : Nat) (t : TypeId) (cs : List Value) : Option (DataW H × List MemPlace) := DataW.trod enc P W 0 (fun _ => true) true n t cs

/-- No row in it is longer than what can be reached. -/
def RFits (P : Program) (t : TypeId) (d : DataW H) : Prop := ∀ z ∈ d.weights P t, z ≤ 140737488351232

theorem weightsAll_mem {e : TypeId} : ∀ {l : List (DataW H)} {d : DataW H}, d ∈ l → ∀ z ∈ d.weights P e, z ∈ DataW.weightsAll P e l
  | [], d, h => by cases h
  | x :: l, d, h => fun z hz => by
    simp only [DataW.weightsAll, List.mem_append]
    rcases List.mem_cons.1 h with rfl | h
    · exact .inl hz
    · exact .inr (weightsAll_mem h z hz)

theorem weightsEach_mem : ∀ {ts : List TypeId} {l : List (DataW H)} {i : Nat} {t : TypeId} {d : DataW H}, ts[i]? = some t → l[i]? = some d → ∀ z ∈ d.weights P t, z ∈ DataW.weightsEach P ts l
  | [], _, _, _, _, h1, _ => by simp at h1
  | _ :: _, [], _, _, _, _, h2 => by simp at h2
  | t' :: ts, d' :: l, 0, t, d, h1, h2 => fun z hz => by
    simp only [List.getElem?_cons_zero, Option.some.injEq] at h1 h2
    subst h1; subst h2
    simp only [DataW.weightsEach, List.mem_append]
    exact .inl hz
  | t' :: ts, d' :: l, i + 1, t, d, h1, h2 => fun z hz => by
    simp only [List.getElem?_cons_succ] at h1 h2
    simp only [DataW.weightsEach, List.mem_append]
    exact .inr (weightsEach_mem h1 h2 z hz)

theorem rfits_at {ts : List TypeId} {l : List (DataW H)} (h : (DataW.weightsEach P ts l).all (· ≤ reachBytes) = true) (i : Nat) {t : TypeId} {d : DataW H} (h1 : ts[i]? = some t) (h2 : l[i]? = some d) : RFits P t d := fun z hz => by
  have h3 := List.all_eq_true.1 h z (weightsEach_mem h1 h2 z hz)
  have h4 : z ≤ reachBytes := by simpa using h3
  exact h4

/-- A slice's cell. -/
theorem slice_cell {t e : TypeId} (ht : P.underlying t = some (.slice e)) {r : Reach} {b : Nat} {v : Value} (h : Value.okWide P W r b t v) : v.cells.toList = [v] := by
  unfold Value.okWide at h
  rw [ht] at h
  simp only [Cell.okWide, Cell.ok, ht] at h
  cases v with
  | slice a l c => rfl
  | _ => exact h.elim

/-- A slice: its row, and each of its elements. -/
theorem slice_up {t e : TypeId} {es B : Nat} (ht : P.underlying t = some (.slice e)) (hes : P.cellsOf e = es) (hes0 : 0 < es) (hB : P.bytesOf e = B) {n : Nat} {x : DataW H × List MemPlace} {v : Value} (h : trodA enc P W n t [v] = some x) (hw : RFits P t x.1) :
    ∃ rows : List (List Value), Sl (allOf W) es rows.length v rows.flatten ∧ rows.length * B ≤ 140737488351232 ∧ ∀ r ∈ rows, r.length = es ∧ ∃ m y, m < n ∧ trodA enc P W m e r = some y ∧ RFits P e y.1 := by
  rcases DataW.trod_slice ht h with ⟨hn, _⟩ | ⟨a, len, cap, elems, rest, m, hm, hn, hx, _, hle, _, hel, hrd, hsp, _⟩
  · obtain rfl : v = .slice none 0 0 := by simpa using hn
    exact ⟨[], Sl.nil _ _, by simp, by simp⟩
  · obtain rfl : v = .slice (some a) len cap := by simpa using hn
    obtain ⟨hr1, hr2⟩ := hsp rfl
    subst hes
    have hone : ∀ i, i < len → ∃ cs y, W.cells? 0 (a.add (i * P.cellsOf e)) (P.cellsOf e) = some cs ∧ trodA enc P W m e cs = some y ∧ elems[i]? = some y := fun i hi => by
      have h1 := hrd i hi
      have h2 : elems[i]? = some elems[i] := List.getElem?_eq_getElem (by omega)
      rw [h2, Option.bind_eq_some_iff] at h1
      obtain ⟨cs, h3, h4⟩ := h1
      exact ⟨cs, _, h3, h4, h2⟩
    have hspot : 0 < cap → a.spot = none := fun hc => by
      by_cases h0 : 0 < len
      · obtain ⟨cs, y, h1, _⟩ := hone 0 h0
        rw [Nat.zero_mul] at h1
        exact cells_spot (a := a) (by simpa [Addr.add] using h1) hes0
      · have h1 := hr2 0 (by omega)
        have h2 : rest[0]? = some rest[0] := List.getElem?_eq_getElem (by omega)
        rw [h2, Option.bind_eq_some_iff] at h1
        obtain ⟨cs, h3, _⟩ := h1
        have h0 : len = 0 := by omega
        subst h0
        exact cells_spot (a := a) (by simpa [Addr.add] using h3) hes0
    have hfit : ∀ y ∈ elems, RFits P e y.1 := fun y hy z hz => by
      refine hw z ?_
      rw [hx]
      simp only [DataW.weights, ht, List.mem_cons, List.mem_append]
      exact .inr (.inl (weightsAll_mem (List.mem_map.2 ⟨y, hy, rfl⟩) z hz))
    have hrows : ∀ k, k ≤ len → ∃ rows : List (List Value), rows.length = k ∧ (0 < k → (allOf W).rd a.block a.off (k * P.cellsOf e) = some rows.flatten) ∧ ∀ r ∈ rows, r.length = P.cellsOf e ∧ ∃ m y, m < n ∧ trodA enc P W m e r = some y ∧ RFits P e y.1 := fun k => by
      induction k with
      | zero => exact fun _ => ⟨[], rfl, fun h => (by omega), by simp⟩
      | succ k ih =>
        intro hk
        obtain ⟨rows, r1, r2, r3⟩ := ih (by omega)
        obtain ⟨cs, y, h1, h2, h3⟩ := hone k (by omega)
        obtain ⟨g, o, s⟩ := a
        have hs := hspot (by omega)
        simp only at hs
        subst hs
        rw [add_none] at h1
        have h4 := cells_rd h1 hes0
        refine ⟨rows ++ [cs], by simp [r1], fun _ => ?_, fun r hr => ?_⟩
        · rw [List.flatten_append, Nat.succ_mul]
          simp only [List.flatten_cons, List.flatten_nil, List.append_nil]
          by_cases h0 : 0 < k
          · exact rd_join (r2 h0) h4
          · have h0 : k = 0 := by omega
            subst h0
            have : rows = [] := List.length_eq_zero_iff.1 r1
            subst this
            simpa using h4
        · rcases List.mem_append.1 hr with hr | hr
          · exact r3 r hr
          · rw [List.mem_singleton] at hr
            subst hr
            exact ⟨rd_len h4, m, y, by omega, h2, hfit y (List.mem_of_getElem? h3)⟩
    obtain ⟨rows, r1, r2, r3⟩ := hrows len (Nat.le_refl _)
    refine ⟨rows, ⟨some a, cap, by rw [r1], by omega, ?_, fun h => (by cases h), fun b hb hc => (by injection hb with hb; subst hb; exact hspot hc), fun h0 b hb => (by injection hb with hb; subst hb; rw [r1]; exact r2 (by omega))⟩, ?_, r3⟩
    · clear r1 r2
      induction rows with
      | nil => simp
      | cons r rows ih =>
        rw [List.flatten_cons, List.length_append, ih (fun x hx => r3 x (List.mem_cons_of_mem _ hx)), (r3 r (by simp)).1, List.length_cons, Nat.succ_mul]; omega
    · have h1 : (elems.length + rest.length) * P.bytesOf e ≤ 140737488351232 := by
        refine hw _ ?_
        rw [hx]
        simp [DataW.weights, ht]
      rw [hB] at h1
      refine Nat.le_trans (Nat.mul_le_mul_right B ?_) h1
      omega

/-- A struct: each of its fields. -/
theorem fields_up {t : TypeId} {fs : Array Field} (ht : P.underlying t = some (.struct fs)) {n : Nat} {x : DataW H × List MemPlace} {cs : List Value} (h : trodA enc P W n t cs = some x) (hw : RFits P t x.1) :
    cs.length = P.cellsOf t ∧ ∃ m, m < n ∧ ∀ (i : Nat) (f : Field), fs[i]? = some f → ∃ y, trodA enc P W m f.type ((cs.drop f.offset).take (P.cellsOf f.type)) = some y ∧ RFits P f.type y.1 := by
  obtain ⟨xs, m, hm, hx, hl, hlen, hf⟩ := DataW.trod_struct ht h
  refine ⟨hl, m, by omega, fun i f hi => ?_⟩
  have hi' : i < fs.size := (Array.getElem?_eq_some_iff.1 hi).1
  have h2 : xs[i]? = some xs[i] := List.getElem?_eq_getElem (by omega)
  refine ⟨xs[i], (hf i f hi).trans h2, fun z hz => hw z ?_⟩
  rw [hx]
  simp only [DataW.weights, ht]
  exact weightsEach_mem (i := i) (t := f.type) (d := xs[i].1) (by simp [hi]) (by simp [h2]) z hz

variable {n : Nat} {t : TypeId} {v : Value} {l : List Value}

/-- A field of one cell. -/
theorem up_one (hc : P.cellsOf t = 1) (h : ∃ y, trodA enc P W n t ((v :: l).take (P.cellsOf t)) = some y ∧ RFits P t y.1) : ∃ y, trodA enc P W n t [v] = some y ∧ RFits P t y.1 := by
  rw [hc] at h
  exact h

theorem up_int {k : IntKind} (ht : P.underlying t = some (.int k)) (hc : P.cellsOf t = 1) (h : ∃ y, trodA enc P W n t ((v :: l).take (P.cellsOf t)) = some y ∧ RFits P t y.1) : ∃ x, v = .int k x ∧ (Lit.int k x).wf = true := by
  obtain ⟨y, h, _⟩ := up_one hc h
  obtain ⟨x, hx, _, hw⟩ := DataW.trod_int ht h
  exact ⟨x, by simpa using hx, hw⟩

theorem up_bool (ht : P.underlying t = some .bool) (hc : P.cellsOf t = 1) (h : ∃ y, trodA enc P W n t ((v :: l).take (P.cellsOf t)) = some y ∧ RFits P t y.1) : ∃ x, v = .bool x := by
  obtain ⟨y, h, _⟩ := up_one hc h
  obtain ⟨x, hx, _⟩ := DataW.trod_bool ht h
  exact ⟨x, by simpa using hx⟩

theorem up_string (ht : P.underlying t = some .string) (hc : P.cellsOf t = 1) (h : ∃ y, trodA enc P W n t ((v :: l).take (P.cellsOf t)) = some y ∧ RFits P t y.1) : ∃ x : ByteArray, v = .string x ∧ x.data.toList.length ≤ 140737488351232 := by
  obtain ⟨y, h, hf⟩ := up_one hc h
  obtain ⟨x, hx, hy, _⟩ := DataW.trod_string ht h
  refine ⟨x, by simpa using hx, hf _ ?_⟩
  rw [hy]
  simp [DataW.weights]

theorem up_bytes {e : TypeId} (ht : P.underlying t = some (.slice e)) (he : P.underlying e = some (.int .u8)) (hc : P.cellsOf e = 1) (hb : P.bytesOf e = 1) (ht1 : P.cellsOf t = 1) (h : ∃ y, trodA enc P W n t ((v :: l).take (P.cellsOf t)) = some y ∧ RFits P t y.1) : ∃ bs, SlB (allOf W) v bs := by
  obtain ⟨y, h, hf⟩ := up_one ht1 h
  obtain ⟨rows, h1, h2, h3⟩ := slice_up ht hc (by omega) hb h hf
  have key : ∀ rows : List (List Value), (∀ r ∈ rows, r.length = 1 ∧ ∃ m y, m < n ∧ trodA enc P W m e r = some y ∧ RFits P e y.1) → ∃ bs : List UInt8, rows.flatten = bs.map bv ∧ bs.length = rows.length := by
    intro rows
    induction rows with
    | nil => exact fun _ => ⟨[], rfl, rfl⟩
    | cons r rows ih =>
      intro h
      obtain ⟨bs, k1, k2⟩ := ih fun x hx => h x (List.mem_cons_of_mem _ hx)
      obtain ⟨_, m, y, _, h5, _⟩ := h r (by simp)
      obtain ⟨x, hx, _, hwf⟩ := DataW.trod_int he h5
      have hr : 0 ≤ x ∧ x < 256 := by
        simp only [Lit.wf, Bool.and_eq_true, decide_eq_true_eq] at hwf
        have h8 : IntKind.u8.min = 0 := rfl
        have h9 : IntKind.u8.max = 255 := rfl
        omega
      refine ⟨UInt8.ofNat x.toNat :: bs, ?_, by simp [k2]⟩
      rw [List.flatten_cons, k1, hx, List.map_cons]
      simp only [bv, List.cons_append, List.nil_append, List.cons.injEq, and_true]
      congr 1
      simp only [UInt8.toNat_ofNat']
      omega
  obtain ⟨bs, k1, k2⟩ := key rows h3
  refine ⟨bs, ?_, by omega⟩
  rw [k2, ← k1]
  exact h1

end

/-- A contract whose arena is all that lay: what lay lies as it lay. -/
theorem below_of_moves {A' : Arena} {w w' : World} (hs : (allOf w).Sub A') (hm : Moves (allOf w) A' w w') : Below w.heap.size w w' := by
  have hb : ∀ k, k < w.heap.size → w'.heap[k]? = w.heap[k]? := fun k hk => by
    have h0 : w.heap[k]? = some w.heap[k] := Array.getElem?_eq_getElem hk
    rw [hm.sub k _ (hs k _ h0)]
    exact h0.symm
  refine ⟨hm.os, hm.tape, hm.out, ?_, hb⟩
  rcases Nat.eq_zero_or_pos w.heap.size with h0 | h0
  · omega
  · have h1 := hb (w.heap.size - 1) (by omega)
    have h2 : (w.heap[w.heap.size - 1]?) = some w.heap[w.heap.size - 1] := Array.getElem?_eq_getElem (by omega)
    rw [h2] at h1
    have := (Array.getElem?_eq_some_iff.1 h1).1
    omega

/-- A contract, as what a call shows. -/
theorem calls_of_fok {P : Program} {f : FuncId} {S : FSpec} (h : FOk P f S) {fn : Func} (hf : P.funcs[f]? = some fn) (hn : (fn.name == "runtime.NumGoroutine") = false) (hb : fn.body.isSome = true) (g : S.γ) (vs : List Value) (w : World) (hp : S.pre g vs (allOf w))
    (hs : ∀ v A', S.post g vs (allOf w) v A' → (allOf w).Sub A') : Calls P f vs.toArray w fun e w' => ∃ v, e = .returned v ∧ (∃ A', S.post g vs (allOf w) v A') ∧ Below w.heap.size w w' :=
  (calls_of_goes (h g vs (allOf w) w (fun _ _ h => h) hp) hf hn hb).mono fun _ _ ⟨v, he, A', h1, h2⟩ => ⟨v, he, ⟨A', h1⟩, below_of_moves (hs v A' h1) h2⟩

end
end Go.Sx

namespace Go.Proofs.YtpgpbnalgjbfbaaDoor
open Go.Sx Go.RowKit Go.ChangeShapes Go.WideShapes
noncomputable section

section
variable {H : Type} {enc : TypeId × Value → H} {W : World}

theorem member_up {n : Nat} {cs : List Value} (h : ∃ y, trodA enc Tryd.prog W n 92 cs = some y ∧ RFits Tryd.prog 92 y.1) : ∃ m : MemD, cs = m.cells := by
  obtain ⟨y, h, hf⟩ := h
  obtain ⟨hl, m, _, hx⟩ := fields_up (P := Tryd.prog) Tryd.underlying92 h hf
  have hl : cs.length = 4 := hl.trans (by kernel_rfl)
  obtain ⟨v0, v1, v2, v3, rfl⟩ := list4 hl
  obtain ⟨c0, rfl, _⟩ := up_int (v := v0) (l := [v1, v2, v3]) Tryd.underlying3 (by kernel_rfl) (hx 0 _ rfl)
  obtain ⟨c1, rfl, _⟩ := up_int (v := v1) (l := [v2, v3]) Tryd.underlying90 (by kernel_rfl) (hx 1 _ rfl)
  obtain ⟨c2, rfl, _⟩ := up_int (v := v2) (l := [v3]) Tryd.underlying3 (by kernel_rfl) (hx 2 _ rfl)
  obtain ⟨c3, rfl, _⟩ := up_int (v := v3) (l := []) Tryd.underlying3 (by kernel_rfl) (hx 3 _ rfl)
  exact ⟨⟨c0, c1, c2, c3⟩, rfl⟩

theorem members_up {n : Nat} {v : Value} {l : List Value} (h : ∃ y, trodA enc Tryd.prog W n 27 ((v :: l).take (Tryd.prog.cellsOf 27)) = some y ∧ RFits Tryd.prog 27 y.1) : ∃ ms, MemR (allOf W) v ms := by
  obtain ⟨y, h, hf⟩ := up_one (by kernel_rfl) h
  obtain ⟨rows, h1, h2, h3⟩ := slice_up (es := 4) (B := 32) Tryd.underlying27 (by kernel_rfl) (by decide) (by kernel_rfl) h hf
  have key : ∀ rows : List (List Value), (∀ r ∈ rows, r.length = 4 ∧ ∃ m y, m < n ∧ trodA enc Tryd.prog W m 92 r = some y ∧ RFits Tryd.prog 92 y.1) → ∃ ms : List MemD, rows = ms.map MemD.cells := by
    intro rows
    induction rows with
    | nil => exact fun _ => ⟨[], rfl⟩
    | cons r rows ih =>
      intro h
      obtain ⟨ms, rfl⟩ := ih fun x hx => h x (List.mem_cons_of_mem _ hx)
      obtain ⟨_, m, y, _, h5, h6⟩ := h r (by simp)
      obtain ⟨d, rfl⟩ := member_up ⟨y, h5, h6⟩
      exact ⟨d :: ms, rfl⟩
  obtain ⟨ms, rfl⟩ := key rows h3
  rw [List.length_map] at h1 h2
  exact ⟨ms, h1, h2⟩

theorem deeds_rows {n : Nat} (ih : ∀ m, m < n → ∀ cs, (∃ y, trodA enc Tryd.prog W m 32 cs = some y ∧ RFits Tryd.prog 32 y.1) → ∃ d, DeedR (allOf W) d cs) :
    ∀ rows : List (List Value), (∀ r ∈ rows, r.length = 16 ∧ ∃ m y, m < n ∧ trodA enc Tryd.prog W m 32 r = some y ∧ RFits Tryd.prog 32 y.1) → ∃ ds, DeedsR (allOf W) ds rows
  | [], _ => ⟨[], rfl⟩
  | r :: rows, h => by
    obtain ⟨ds, hd⟩ := deeds_rows ih rows fun x hx => h x (List.mem_cons_of_mem _ hx)
    obtain ⟨_, m, y, h4, h5, h6⟩ := h r (by simp)
    obtain ⟨d, hr⟩ := ih m h4 r ⟨y, h5, h6⟩
    exact ⟨d :: ds, r, rows, rfl, hr, hd⟩

theorem deed_up (n : Nat) : ∀ cs, (∃ y, trodA enc Tryd.prog W n 32 cs = some y ∧ RFits Tryd.prog 32 y.1) → ∃ d, DeedR (allOf W) d cs := by
  induction n using Nat.strongRecOn with
  | _ n ih =>
    intro cs ⟨y, h, hf⟩
    obtain ⟨hl, m, hm, hx⟩ := fields_up (P := Tryd.prog) Tryd.underlying32 h hf
    have hl : cs.length = 16 := hl.trans (by kernel_rfl)
    obtain ⟨v0, v1, v2, v3, v4, v5, v6, v7, v8, v9, v10, v11, v12, v13, v14, v15, rfl⟩ := list16 hl
    obtain ⟨c0, rfl, _⟩ := up_int (v := v0) (l := [v1, v2, v3, v4, v5, v6, v7, v8, v9, v10, v11, v12, v13, v14, v15]) Tryd.underlying23 (by kernel_rfl) (hx 0 _ rfl)
    obtain ⟨c1, rfl, _⟩ := up_int (v := v1) (l := [v2, v3, v4, v5, v6, v7, v8, v9, v10, v11, v12, v13, v14, v15]) Tryd.underlying24 (by kernel_rfl) (hx 1 _ rfl)
    obtain ⟨c2, rfl, _⟩ := up_int (v := v2) (l := [v3, v4, v5, v6, v7, v8, v9, v10, v11, v12, v13, v14, v15]) Tryd.underlying2 (by kernel_rfl) (hx 2 _ rfl)
    obtain ⟨c3, rfl, _⟩ := up_int (v := v3) (l := [v4, v5, v6, v7, v8, v9, v10, v11, v12, v13, v14, v15]) Tryd.underlying3 (by kernel_rfl) (hx 3 _ rfl)
    obtain ⟨c4, rfl, _⟩ := up_int (v := v4) (l := [v5, v6, v7, v8, v9, v10, v11, v12, v13, v14, v15]) Tryd.underlying3 (by kernel_rfl) (hx 4 _ rfl)
    obtain ⟨c5, rfl, _⟩ := up_int (v := v5) (l := [v6, v7, v8, v9, v10, v11, v12, v13, v14, v15]) Tryd.underlying2 (by kernel_rfl) (hx 5 _ rfl)
    obtain ⟨c6, rfl, hc6⟩ := up_string (v := v6) (l := [v7, v8, v9, v10, v11, v12, v13, v14, v15]) Tryd.underlying9 (by kernel_rfl) (hx 6 _ rfl)
    obtain ⟨bs, hbs⟩ := up_bytes (v := v7) (l := [v8, v9, v10, v11, v12, v13, v14, v15]) Tryd.underlying25 Tryd.underlying5 (by kernel_rfl) (by kernel_rfl) (by kernel_rfl) (hx 7 _ rfl)
    obtain ⟨c8, rfl, _⟩ := up_int (v := v8) (l := [v9, v10, v11, v12, v13, v14, v15]) Tryd.underlying2 (by kernel_rfl) (hx 8 _ rfl)
    obtain ⟨c9, rfl, _⟩ := up_int (v := v9) (l := [v10, v11, v12, v13, v14, v15]) Tryd.underlying3 (by kernel_rfl) (hx 9 _ rfl)
    obtain ⟨c10, rfl, _⟩ := up_int (v := v10) (l := [v11, v12, v13, v14, v15]) Tryd.underlying3 (by kernel_rfl) (hx 10 _ rfl)
    obtain ⟨c11, rfl, _⟩ := up_int (v := v11) (l := [v12, v13, v14, v15]) Tryd.underlying3 (by kernel_rfl) (hx 11 _ rfl)
    obtain ⟨c12, rfl, _⟩ := up_int (v := v12) (l := [v13, v14, v15]) Tryd.underlying26 (by kernel_rfl) (hx 12 _ rfl)
    have he : ∃ y, trodA enc Tryd.prog W m 29 ([v13, v14, v15].take (Tryd.prog.cellsOf 29)) = some y ∧ RFits Tryd.prog 29 y.1 := hx 13 _ rfl
    rw [show Tryd.prog.cellsOf 29 = 2 by kernel_rfl] at he
    obtain ⟨ye, he, hfe⟩ := he
    obtain ⟨_, me, _, hxe⟩ := fields_up (P := Tryd.prog) Tryd.underlying29 he hfe
    obtain ⟨c13, rfl, _⟩ := up_int (v := v13) (l := [v14]) Tryd.underlying23 (by kernel_rfl) (hxe 0 _ rfl)
    have h14 := hxe 1 _ rfl
    obtain ⟨ms, hms⟩ := members_up (v := v14) (l := []) h14
    obtain ⟨y, h, hf⟩ := up_one (P := Tryd.prog) (t := 30) (v := v15) (l := []) (by kernel_rfl) (hx 14 _ rfl)
    obtain ⟨rows, h1, h2, h3⟩ := slice_up (es := 16) (B := 184) Tryd.underlying30 (by kernel_rfl) (by decide) (by kernel_rfl) h hf
    obtain ⟨ds, hds⟩ := deeds_rows (n := m) (fun k hk => ih k (by omega)) rows h3
    have hlen := hds.length
    rw [hlen] at h1 h2
    exact ⟨.mk ⟨c0, c1, c2, c3, c4, c5, c6, bs, c8, c9, c10, c11, c12, c13, ms⟩ ds, v7, v14, v15, rows, rfl, hc6, hbs, hms, h1, h2, hds⟩

theorem deeds_up {v : Value} {d : DataW H} {ps : List MemPlace} (h : DataW.Trod enc Tryd.prog W 0 (fun _ => true) true 30 v d ps) (hf : RFits Tryd.prog 30 d) (hv : v.cells.toList = [v]) : ∃ ds, DeedsS (allOf W) v ds := by
  obtain ⟨n, h⟩ := h
  rw [hv] at h
  obtain ⟨rows, h1, h2, h3⟩ := slice_up (es := 16) (B := 184) Tryd.underlying30 (by kernel_rfl) (by decide) (by kernel_rfl) h hf
  obtain ⟨ds, hds⟩ := deeds_rows (n := n) (fun k _ => deed_up k) rows h3
  have hlen := hds.length
  rw [hlen] at h1 h2
  exact ⟨ds, rows, h1, h2, hds⟩

end

end
end Go.Proofs.YtpgpbnalgjbfbaaDoor
